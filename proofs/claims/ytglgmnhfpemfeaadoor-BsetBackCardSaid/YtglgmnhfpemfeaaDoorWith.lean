import Derived.Test.YtglgmnhfpemfeaaDoorHas
import Derived.Laws.ResultCell
namespace Go.Proofs.YtglgmnhfpemfeaaDoor
open Go.RowKit

def addS (S : Nat → Bool) (b : Nat) : Nat → Bool := fun x => S x || x == b
theorem or_bit (S : Nat → Bool) (b : Nat) : bits .or .u64 (wd S (b / 64) : Int) (IntKind.u64.wrap ((2 : Int) ^ (b % 64))) = (wd (addS S b) (b / 64) : Int) := by
  have hk : b % 64 < 64 := by omega
  have hlt : 2 ^ (b % 64) < 2 ^ 64 := Nat.pow_lt_pow_right (by omega) hk
  have h1 := wd_one b (b / 64)
  rw [if_pos rfl] at h1
  rw [wrap_pow _ hk, bits_or_u64 _ _ (wd_lt _ _) hlt, ← h1, wd_or]
  rfl
theorem or_far (S : Nat → Bool) (b i : Nat) (h : i ≠ b / 64) : wd (addS S b) i = wd S i := by
  refine wd_congr fun k hk => ?_
  have : ¬ 64 * i + k = b := by omega
  simp [addS, this]
theorem words_set (S T : Nat → Bool) (i : Nat) (h : i < 4) (hT : ∀ j, j ≠ i → wd T j = wd S j) :
    (#[Value.int .u64 (wd S 0), .int .u64 (wd S 1), .int .u64 (wd S 2), .int .u64 (wd S 3)] : Array Value).setIfInBounds i (.int .u64 (wd T i)) = #[.int .u64 (wd T 0), .int .u64 (wd T 1), .int .u64 (wd T 2), .int .u64 (wd T 3)] := by
  have : i = 0 ∨ i = 1 ∨ i = 2 ∨ i = 3 := by omega
  rcases this with rfl | rfl | rfl | rfl
  · rw [hT 1 (by omega), hT 2 (by omega), hT 3 (by omega)]; rfl
  · rw [hT 0 (by omega), hT 2 (by omega), hT 3 (by omega)]; rfl
  · rw [hT 0 (by omega), hT 1 (by omega), hT 3 (by omega)]; rfl
  · rw [hT 0 (by omega), hT 1 (by omega), hT 2 (by omega)]; rfl

theorem with_any (S : Nat → Bool) (b : Nat) (w : World) (h : b < 256) :
    Calls Tryd.prog 30 #[setV S, .int .i64 b] w fun e w' => e = .returned (setV (addS S b)) ∧ Below w.heap.size w w' := by
  have hw := words_at S (b / 64) (by omega)
  have hl := wd_lt S (b / 64)
  have hor := or_bit S b
  have hset := words_set S (addS S b) (b / 64) (by omega) (fun j hj => or_far S b j hj)
  unfold setV
  go_enter Tryd.func30, Tryd.ntmps30
  go_wp2
  refine bodyPost_ret (results_cell_row rfl _ _ (w.heap.size + 1) 24 _ (0, 0) _ rfl (heap_alloc2_new w _ _) Tryd.underlying24 rfl (by kernel_rfl)) rfl ⟨rfl, ?_⟩
  exact ((Below.refl _ _).alloc (Nat.le_refl _) _).alloc (by simp) _

def emptyS : Nat → Bool := fun _ => false
theorem wd_emptyS (i : Nat) : wd emptyS i = 0 := (wd_ext (by decide) fun k _ => by simp [emptyS]).symm
theorem setV_empty : setV emptyS = .agg #[.int .u64 0, .int .u64 0, .int .u64 0, .int .u64 0] := by unfold setV; simp only [wd_emptyS]; rfl
/-- Block g is a set. -/
def SetAt (w : World) (g : Nat) (S : Nat → Bool) : Prop := w.heap[g]? = some (.cells #[.int .u64 (wd S 0), .int .u64 (wd S 1), .int .u64 (wd S 2), .int .u64 (wd S 3)] 24 (0, 0))
theorem SetAt.lt {w : World} {g : Nat} {S : Nat → Bool} (h : SetAt w g S) : g < w.heap.size := by
  rcases Nat.lt_or_ge g w.heap.size with hl | hl
  · exact hl
  · unfold SetAt at h; rw [Array.getElem?_eq_none hl] at h; cases h
theorem SetAt.below {B g : Nat} {w w' : World} {S : Nat → Bool} (h : SetAt w g S) (hb : Below B w w') (hg : g < B) : SetAt w' g S := (hb.block g hg).trans h
theorem SetAt.cell {w : World} {g : Nat} {S : Nat → Bool} (h : SetAt w g S) (i : Nat) (hi : i < 4) : w.cell? ⟨g, i, none⟩ = some (.int .u64 (wd S i)) := by
  rw [cell_of_row w g i _ _ _ h]; exact words_at S i hi
theorem SetAt.of_empty {w : World} {g : Nat} (h : w.heap[g]? = some (.cells #[.int .u64 0, .int .u64 0, .int .u64 0, .int .u64 0] 24 (0, 0))) : SetAt w g emptyS := by
  unfold SetAt; simp only [wd_emptyS]; exact h
theorem sizeSet : (Tryd.prog.info? 24).map (·.size) = some 4 := by kernel_rfl
theorem wpList_store_set {ops : Array Oper} {rest : List Oper} {o : Oper} {a : Act} {w : World} {Q : Exit → Act → World → Prop} (hgd : o.guard = none) (x y : Operand) (ho : o.op = .store 24 x y)
    (g : Nat) (S T : Nat → Bool) (hx : a.eval x = .pointer (some ⟨g, 0, none⟩)) (hy : a.eval y = setV T) (hg : SetAt w g S)
    (h : ∀ w', SetAt w' g T → (∀ B, B ≤ g → Below B w w') → (∀ k, k ≠ g → w'.heap[k]? = w.heap[k]?) → w'.heap.size = w.heap.size → wpList Tryd.prog ops Q rest (a.put o.dst undef) w') : wpList Tryd.prog ops Q (o :: rest) a w := by
  refine wpList_store_row hgd 24 x y ho g _ hx hy 24 _ hg sizeSet rfl (by simp [Value.oneCell']) ?_
  exact h _ (setRow_heap w g _ _ _ _ hg) (fun B hB => (Below.refl _ _).trans ⟨rfl, rfl, rfl, by simp, fun k hk => setRow_other w g k _ (by omega)⟩) (fun k hk => setRow_other w g k _ hk) (by simp)
theorem one_any (b : Nat) (w : World) (h : b < 256) :
    Calls Tryd.prog 9 #[.int .u8 b] w fun e w' => e = .returned (setV (fun x => x == b)) ∧ Below w.heap.size w w' := by
  have hw := fun w' => with_any emptyS b w' h
  rw [setV_empty] at hw
  have he : setV (addS emptyS b) = setV (fun x => x == b) := SameSet.val fun x _ => by simp [addS, emptyS]
  rw [he] at hw
  have hz := SetAt.of_empty (heap_alloc_new w (.cells #[.int .u64 0, .int .u64 0, .int .u64 0, .int .u64 0] 24))
  unfold setV at hw ⊢
  have HW := Lib.hid hw
  have HZ := Lib.hid hz
  clear hw he hz
  go_enter Tryd.func9, Tryd.ntmps9
  go_wp2_with (first
    | (go_at_call 30; (with_reducible refine (HW.out _).mono ?_); rintro e w1 ⟨rfl, hb1⟩; have HZ1 := Lib.hid (HZ.out.below hb1 (by simp)))
    | (refine wpList_store_set rfl _ _ rfl w.heap.size emptyS (fun x => x == b) rfl rfl HZ1.out ?_; intro w9 hR hB9 hO9 hS9))
  refine bodyPost_ret (results_cell_row rfl _ _ w.heap.size 24 _ (0, 0) _ rfl hR Tryd.underlying24 rfl sizeSet) rfl ⟨rfl, ?_⟩
  exact (((Below.refl _ _).alloc (Nat.le_refl _) _).trans (hb1.mono (by simp))).trans (hB9 _ (Nat.le_refl _))

/-- The bytes from lo to hi, below n. -/
def spanS (lo hi : Int) (n : Nat) : Nat → Bool := fun x => decide (lo ≤ (x : Int)) && decide ((x : Int) ≤ hi) && decide (x < n)
set_option maxHeartbeats 1000000 in
set_option maxRecDepth 100000 in
theorem span_any (lo hi : Int) (w : World) :
    Calls Tryd.prog 11 #[.int .i64 lo, .int .i64 hi] w fun e w' => e = .returned (setV (spanS lo hi 256)) ∧ Below w.heap.size w w' := by
  have hz := SetAt.of_empty (heap_alloc2_new w (.cells #[.int .u64 0, .int .u64 0, .int .u64 0, .int .u64 0] 24) (.cells #[.int .u64 0, .int .u64 0, .int .u64 0, .int .u64 0] 24))
  have hy := SetAt.of_empty (heap_alloc2_old w (.cells #[.int .u64 0, .int .u64 0, .int .u64 0, .int .u64 0] 24) (.cells #[.int .u64 0, .int .u64 0, .int .u64 0, .int .u64 0] 24))
  have HZ := Lib.hid hz
  have HY := Lib.hid hy
  clear hz hy
  unfold setV
  go_enter Tryd.func11, Tryd.ntmps11
  go_wp2
  go_loopw [6] (fun i wr => ∃ k : Nat, k ≤ 256 ∧ i = .int .i64 k ∧ SetAt wr w.heap.size emptyS ∧ SetAt wr (w.heap.size + 1) (spanS lo hi k) ∧ Below w.heap.size w wr) (fun i _ => 256 - (intOf i).toNat)
  case atStart =>
    refine ⟨0, by omega, rfl, HY.out, ?_, ((Below.refl _ _).alloc (Nat.le_refl _) _).alloc (by simp) _⟩
    have : setV (spanS lo hi 0) = setV emptyS := SameSet.val fun x _ => by simp [spanS, emptyS]
    have hz := HZ.out
    unfold SetAt at hz ⊢
    unfold setV at this
    have this := Value.agg.inj this
    rw [this]; exact hz
  case round =>
    obtain ⟨k, hk, rfl, hY, hZ, hb⟩ := hrel
    by_cases hlt : k < 256
    · have hnext : SameSet (if lo ≤ (k : Int) ∧ (k : Int) ≤ hi then addS (spanS lo hi k) k else spanS lo hi k) (spanS lo hi (k + 1)) := by
        intro x _
        by_cases hx : x = k
        · subst hx
          split
          · rename_i hc; simp [addS, spanS, hc.1, hc.2]
          · rename_i hc
            have : (decide (lo ≤ (x : Int)) && decide ((x : Int) ≤ hi)) = false := by
              rw [Bool.and_eq_false_iff]
              by_cases hl : lo ≤ (x : Int)
              · right; simp; have : ¬ (x : Int) ≤ hi := fun hh => hc ⟨hl, hh⟩; omega
              · left; simpa using hl
            simp [spanS, this]
        · have e : decide (x < k + 1) = decide (x < k) := by
            rw [decide_eq_decide]; omega
          split
          · simp [addS, spanS, e, hx]
          · simp [spanS, e]
      have c0 := hZ.cell 0 (by omega)
      have c1 := hZ.cell 1 (by omega)
      have c2 := hZ.cell 2 (by omega)
      have c3 := hZ.cell 3 (by omega)
      by_cases hlo : lo ≤ (k : Int)
      · by_cases hhi : (k : Int) ≤ hi
        · rw [if_pos ⟨hlo, hhi⟩] at hnext
          have HN := Lib.hid hnext
          have hw := fun w' => with_any (spanS lo hi k) k w' hlt
          unfold setV at hw
          have HW := Lib.hid hw
          clear hnext hw
          have hz0 := hZ.lt
          have HZ2 := Lib.hid hZ
          have HY2 := Lib.hid hY
          clear hZ hY
          go_wp2_with (first
            | (go_at_call 30; (with_reducible refine (HW.out _).mono ?_); rintro e w1 ⟨rfl, hb1⟩; have HZ1 := Lib.hid (HZ2.out.below hb1 hz0))
            | ((with_reducible refine wpList_store_set rfl _ _ rfl (w.heap.size + 1) (spanS lo hi k) (addS (spanS lo hi k) k) ?_ ?_ HZ1.out ?_); rfl; rfl; intro w9 hR hB9 hO9 hS9; have HR := Lib.hid hR; have HO := Lib.hid hO9; have HB := Lib.hid hB9; clear hR hO9 hB9))
          go_roundw
          case rel =>
            refine ⟨k + 1, by omega, by go_num, (HO.out _ (by omega)).trans (HY2.out.below hb1 (by omega)), ?_, (hb.trans (hb1.mono hb.size)).trans (HB.out _ (by omega))⟩
            have e := HN.out.val
            unfold setV at e
            have e := Value.agg.inj e
            have hr := HR.out
            unfold SetAt at hr ⊢
            rw [← e]; exact hr
          case measure => simp [intOf]; omega
        · rw [if_neg (fun hc => hhi hc.2)] at hnext
          have HN := Lib.hid hnext
          clear hnext
          go_wp2
          go_roundw
          case rel =>
            refine ⟨k + 1, by omega, by go_num, hY, ?_, hb⟩
            have e := HN.out.val
            unfold setV at e
            have e := Value.agg.inj e
            unfold SetAt at hZ ⊢
            rw [← e]; exact hZ
          case measure => simp [intOf]; omega
      · rw [if_neg (fun hc => hlo hc.1)] at hnext
        have HN := Lib.hid hnext
        clear hnext
        go_wp2
        go_roundw
        case rel =>
          refine ⟨k + 1, by omega, by go_num, hY, ?_, hb⟩
          have e := HN.out.val
          unfold setV at e
          have e := Value.agg.inj e
          unfold SetAt at hZ ⊢
          rw [← e]; exact hZ
        case measure => simp [intOf]; omega
    · have hk2 : k = 256 := by omega
      have Hk := Lib.hid hk2
      have c0 := hZ.cell 0 (by omega)
      have c1 := hZ.cell 1 (by omega)
      have c2 := hZ.cell 2 (by omega)
      have c3 := hZ.cell 3 (by omega)
      clear hk2
      go_wp2_with (refine wpList_store_set rfl _ _ rfl w.heap.size emptyS (spanS lo hi k) rfl rfl hY ?_; intro w9 hR hB9 hO9 hS9)
      have hR2 := hR
      rw [Hk.out] at hR2
      refine bodyPost_ret (results_cell_row rfl _ _ w.heap.size 24 _ (0, 0) _ rfl hR2 Tryd.underlying24 rfl sizeSet) rfl ⟨rfl, ?_⟩
      exact hb.trans (hB9 _ (Nat.le_refl _))
end Go.Proofs.YtglgmnhfpemfeaaDoor
