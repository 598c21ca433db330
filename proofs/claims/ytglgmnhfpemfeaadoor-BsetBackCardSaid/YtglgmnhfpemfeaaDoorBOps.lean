/- bset: One, Span, And, Not, Minus, All: the program's. -/
import Derived.Test.YtglgmnhfpemfeaaDoorWith
import Derived.Test.YtglgmnhfpemfeaaDoorSRow
import Derived.Deep.WholeRow
namespace Go.Proofs.YtglgmnhfpemfeaaDoor
open Go.RowKit
set_option linter.unusedVariables false

theorem val_words {S T : Nat → Bool} (h : SameSet S T) : (#[Value.int .u64 (wd S 0), .int .u64 (wd S 1), .int .u64 (wd S 2), .int .u64 (wd S 3)] : Array Value) = #[.int .u64 (wd T 0), .int .u64 (wd T 1), .int .u64 (wd T 2), .int .u64 (wd T 3)] := by
  have := h.val
  unfold setV at this
  exact Value.agg.inj this
theorem SetAt.congr {w : World} {g : Nat} {S T : Nat → Bool} (h : SetAt w g S) (e : SameSet S T) : SetAt w g T := by
  unfold SetAt at h ⊢; rw [← val_words e]; exact h
theorem set_zero (b : Nat) (h : b < 256) : (#[Value.int .u64 0, .int .u64 0, .int .u64 0, .int .u64 0] : Array Value).setIfInBounds (b / 64) (.int .u64 (IntKind.u64.wrap ((2 : Int) ^ (b % 64)))) =
    #[.int .u64 (wd (fun x => x == b) 0), .int .u64 (wd (fun x => x == b) 1), .int .u64 (wd (fun x => x == b) 2), .int .u64 (wd (fun x => x == b) 3)] := by
  have h1 := words_set emptyS (fun x => x == b) (b / 64) (by omega) (fun j hj => by
    rw [wd_one, if_neg (by omega), wd_emptyS])
  have h2 := wd_one b (b / 64)
  rw [if_pos rfl] at h2
  rw [wrap_pow _ (by omega : b % 64 < 64), ← h2]
  simp only [wd_emptyS] at h1
  exact h1
theorem bone_any (b : Nat) (w : World) (h : b < 256) :
    Calls Tryd.prog 8 #[.int .u8 b] w fun e w' => e = .returned (setV (fun x => x == b)) ∧ Below w.heap.size w w' := by
  have hset := set_zero b h
  have hq : b / 64 < 4 := by omega
  unfold setV
  go_enter Tryd.func8, Tryd.ntmps8
  go_wp2
  refine bodyPost_ret (results_cell_row rfl _ _ w.heap.size 24 _ (0, 0) _ rfl (heap_alloc2_old w _ _) Tryd.underlying24 rfl sizeSet) rfl ⟨rfl, ?_⟩
  exact ((Below.refl _ _).alloc (Nat.le_refl _) _).alloc (by simp) _
theorem SetAt.fz {w : World} {g : Nat} {S : Nat → Bool} (h : SetAt w g S) (i : Nat) : w.frozen? ⟨g, i, none⟩ = false := frozen_of_row w g i _ _ h
/-- One word of a set written anew. -/
theorem SetAt.put {w : World} {g : Nat} {S T : Nat → Bool} (h : SetAt w g S) (k : Nat) (hk : k < 4) (hT : ∀ j, j ≠ k → j < 4 → wd T j = wd S j) : SetAt (w.setCell ⟨g, k, none⟩ (.int .u64 (wd T k))) g T := by
  unfold SetAt
  rw [heap_setCell_same w g k _ _ _ h]
  congr 2
  have : k = 0 ∨ k = 1 ∨ k = 2 ∨ k = 3 := by omega
  rcases this with rfl | rfl | rfl | rfl
  · rw [hT 1 (by omega) (by omega), hT 2 (by omega) (by omega), hT 3 (by omega) (by omega)]; rfl
  · rw [hT 0 (by omega) (by omega), hT 2 (by omega) (by omega), hT 3 (by omega) (by omega)]; rfl
  · rw [hT 0 (by omega) (by omega), hT 1 (by omega) (by omega), hT 3 (by omega) (by omega)]; rfl
  · rw [hT 0 (by omega) (by omega), hT 1 (by omega) (by omega), hT 2 (by omega) (by omega)]; rfl
theorem SetAt.far {w : World} {g : Nat} {S : Nat → Bool} (h : SetAt w g S) {p : Addr} (hp : g ≠ p.block) (u : Value) : SetAt (w.setCell p u) g S := (heap_setCell_other w p g u hp).trans h
/-- The words below k of one, the others of another. -/
def mixS (T S : Nat → Bool) (k : Nat) : Nat → Bool := fun x => if x / 64 < k then T x else S x
theorem mix_zero (T S : Nat → Bool) : SameSet (mixS T S 0) S := fun x _ => by simp [mixS]
theorem mix_four (T S : Nat → Bool) : SameSet (mixS T S 4) T := fun x hx => by
  have : x / 64 < 4 := by omega
  simp [mixS, this]
theorem mix_at (T S : Nat → Bool) (k : Nat) : wd (mixS T S k) k = wd S k := wd_congr fun j hj => by
  have : ¬ (64 * k + j) / 64 < k := by omega
  simp [mixS, this]
theorem mix_next (T S : Nat → Bool) (k : Nat) : wd (mixS T S (k + 1)) k = wd T k := wd_congr fun j hj => by
  have : (64 * k + j) / 64 < k + 1 := by omega
  simp [mixS, this]
theorem mix_far (T S : Nat → Bool) (k j : Nat) (h : j ≠ k) : wd (mixS T S (k + 1)) j = wd (mixS T S k) j := wd_congr fun i hi => by
  have : ((64 * j + i) / 64 < k + 1) = ((64 * j + i) / 64 < k) := by rw [eq_iff_iff]; omega
  simp [mixS, this]
theorem not_word (S : Nat → Bool) (k : Nat) : (18446744073709551615 - (wd S k : Int)) = (wd (fun x => !S x) k : Int) := by
  have h := wd_not S k
  have := wd_lt S k
  omega
theorem bits_xor_u64 (a b : Nat) (ha : a < 18446744073709551616) (hb : b < 18446744073709551616) : bits .xor .u64 (a : Int) (b : Int) = ((a ^^^ b : Nat) : Int) := by
  have hx : a ^^^ b < 2 ^ 64 := Nat.xor_lt_two_pow (by omega) (by omega)
  have h1 : (BitVec.ofInt 64 (a : Int)).toNat = a := by
    rw [BitVec.ofInt_natCast, BitVec.toNat_ofNat]; exact Nat.mod_eq_of_lt (by omega)
  have h2 : (BitVec.ofInt 64 (b : Int)).toNat = b := by
    rw [BitVec.ofInt_natCast, BitVec.toNat_ofNat]; exact Nat.mod_eq_of_lt (by omega)
  show IntKind.u64.wrap ((BitVec.ofInt 64 (a : Int) ^^^ BitVec.ofInt 64 (b : Int)).toNat : Int) = _
  rw [BitVec.toNat_xor, h1, h2, IntKind.wrap_u64]
  omega
theorem xor_word (S : Nat → Bool) (k : Nat) : bits BinOp.xor IntKind.u64 (if IntKind.u64.signed = true then -1 else IntKind.u64.max) (wd S k : Int) = (wd (fun x => !S x) k : Int) := by
  have e : (if IntKind.u64.signed = true then -1 else IntKind.u64.max : Int) = ((2 ^ 64 - 1 : Nat) : Int) := by decide
  rw [e, bits_xor_u64 _ _ (by decide) (wd_lt _ _)]
  congr 1
  refine wd_ext (Nat.xor_lt_two_pow (n := 64) (by decide) (wd_lt S k)) fun j hj => ?_
  rw [Nat.testBit_xor, Nat.testBit_two_pow_sub_one, wd_bit]
  simp [hj]
set_option maxHeartbeats 1000000 in
theorem bnot_any (S : Nat → Bool) (w : World) :
    Calls Tryd.prog 28 #[setV S] w fun e w' => e = .returned (setV (fun x => !S x)) ∧ Below w.heap.size w w' := by
  have hz : SetAt ((w.alloc (.cells #[.int .u64 (wd S 0), .int .u64 (wd S 1), .int .u64 (wd S 2), .int .u64 (wd S 3)] 24)).alloc (.cells #[.int .u64 0, .int .u64 0, .int .u64 0, .int .u64 0] 24)) (w.heap.size + 1) emptyS := SetAt.of_empty (heap_alloc2_new w _ _)
  have hy : SetAt ((w.alloc (.cells #[.int .u64 (wd S 0), .int .u64 (wd S 1), .int .u64 (wd S 2), .int .u64 (wd S 3)] 24)).alloc (.cells #[.int .u64 0, .int .u64 0, .int .u64 0, .int .u64 0] 24)) w.heap.size S := heap_alloc2_old w _ _
  have HZ := Lib.hid hz
  have HY := Lib.hid (hy.congr (fun x hx => (mix_zero (fun x => !S x) S x hx).symm))
  clear hz hy
  unfold setV
  go_enter Tryd.func28, Tryd.ntmps28
  go_wp2
  go_loopw [4] (fun i wr => ∃ k : Nat, k ≤ 4 ∧ i = .int .i64 k ∧ SetAt wr w.heap.size (mixS (fun x => !S x) S k) ∧ SetAt wr (w.heap.size + 1) emptyS ∧ Below w.heap.size w wr) (fun i _ => 4 - (intOf i).toNat)
  case atStart => exact ⟨0, by omega, rfl, HY.out, HZ.out, ((Below.refl _ _).alloc (Nat.le_refl _) _).alloc (by simp) _⟩
  case round =>
    obtain ⟨k, hk, rfl, hY, hZ, hb⟩ := hrel
    have HY2 := Lib.hid hY
    have HZ2 := Lib.hid hZ
    have HB := Lib.hid hb
    clear hY hZ hb
    by_cases hlt : k < 4
    · have c := HY2.out.cell k hlt
      have fz := HY2.out.fz k
      rw [mix_at] at c
      have hp0 : (0 : Int) ≤ (k : Int) := by omega
      have hp1 : (k : Int) < 4 := by omega
      go_wp2
      go_roundw
      case rel =>
        refine ⟨k + 1, by omega, by go_num, ?_, HZ2.out.far (by simp) _, HB.out.setCell (p := ⟨w.heap.size, k, none⟩) (Nat.le_refl _) _⟩
        rw [xor_word, ← mix_next (fun x => !S x) S k]
        exact HY2.out.put k hlt (fun j hj _ => mix_far _ _ _ _ hj)
      case measure => simp [intOf]; omega
    · have hk4 : k = 4 := by omega
      subst hk4
      have HY3 := Lib.hid (HY2.out.congr (mix_four _ _))
      have c0 := HY3.out.cell 0 (by omega)
      have c1 := HY3.out.cell 1 (by omega)
      have c2 := HY3.out.cell 2 (by omega)
      have c3 := HY3.out.cell 3 (by omega)
      go_wp2_with (refine wpList_store_set rfl _ _ rfl (w.heap.size + 1) emptyS (fun x => !S x) rfl rfl HZ2.out ?_; intro w9 hR hB9 hO9 hS9)
      refine bodyPost_ret (results_cell_row rfl _ _ (w.heap.size + 1) 24 _ (0, 0) _ rfl hR Tryd.underlying24 rfl sizeSet) rfl ⟨rfl, ?_⟩
      exact HB.out.trans (hB9 _ (by omega))
set_option maxHeartbeats 1000000 in
theorem band_any (S T : Nat → Bool) (w : World) :
    Calls Tryd.prog 25 #[setV S, setV T] w fun e w' => e = .returned (setV (fun x => S x && T x)) ∧ Below w.heap.size w w' := by
  have hz : ∀ o1 o2 : Obj, SetAt (((w.alloc o1).alloc o2).alloc (.cells #[.int .u64 0, .int .u64 0, .int .u64 0, .int .u64 0] 24)) (w.heap.size + 2) emptyS := fun o1 o2 => SetAt.of_empty (by have := heap_alloc_new ((w.alloc o1).alloc o2) (.cells #[.int .u64 0, .int .u64 0, .int .u64 0, .int .u64 0] 24); simpa using this)
  have hy : ∀ o2 o3 : Obj, SetAt (((w.alloc (.cells #[.int .u64 (wd S 0), .int .u64 (wd S 1), .int .u64 (wd S 2), .int .u64 (wd S 3)] 24)).alloc o2).alloc o3) w.heap.size S := fun o2 o3 =>
    (Below.heap_alloc _ o3 w.heap.size (by simp; omega)).trans (heap_alloc2_old w _ _)
  have hx : ∀ o1 o3 : Obj, SetAt (((w.alloc o1).alloc (.cells #[.int .u64 (wd T 0), .int .u64 (wd T 1), .int .u64 (wd T 2), .int .u64 (wd T 3)] 24)).alloc o3) (w.heap.size + 1) T := fun o1 o3 =>
    (Below.heap_alloc _ o3 (w.heap.size + 1) (by simp)).trans (heap_alloc2_new w _ _)
  have HZ := Lib.hid hz
  have HX := Lib.hid hx
  have HY := Lib.hid fun o2 o3 => (hy o2 o3).congr (fun x hx => (mix_zero (fun x => S x && T x) S x hx).symm)
  clear hz hy hx
  unfold setV
  go_enter Tryd.func25, Tryd.ntmps25
  go_wp2
  go_loopw [6] (fun i wr => ∃ k : Nat, k ≤ 4 ∧ i = .int .i64 k ∧ SetAt wr w.heap.size (mixS (fun x => S x && T x) S k) ∧ SetAt wr (w.heap.size + 1) T ∧ SetAt wr (w.heap.size + 2) emptyS ∧ Below w.heap.size w wr) (fun i _ => 4 - (intOf i).toNat)
  case atStart => exact ⟨0, by omega, rfl, HY.out _ _, HX.out _ _, HZ.out _ _, (((Below.refl _ _).alloc (Nat.le_refl _) _).alloc (by simp) _).alloc (by simp; omega) _⟩
  case round =>
    obtain ⟨k, hk, rfl, hY, hX, hZ, hb⟩ := hrel
    have HY2 := Lib.hid hY
    have HX2 := Lib.hid hX
    have HZ2 := Lib.hid hZ
    have HB := Lib.hid hb
    clear hY hX hZ hb
    by_cases hlt : k < 4
    · have c := HY2.out.cell k hlt
      have d := HX2.out.cell k hlt
      have fz := HY2.out.fz k
      rw [mix_at] at c
      have hp0 : (0 : Int) ≤ (k : Int) := by omega
      have hp1 : (k : Int) < 4 := by omega
      have hand : bits .and .u64 (wd S k : Int) (wd T k : Int) = (wd (fun x => S x && T x) k : Int) := by
        rw [bits_and_u64 _ _ (wd_lt _ _) (wd_lt _ _), wd_and]
      have HS : Hid (SetAt (wr.setCell ⟨w.heap.size, k, none⟩ (.int .u64 (wd (fun x => S x && T x) k))) w.heap.size (mixS (fun x => S x && T x) S (k + 1))) := Lib.hid (by
        rw [← mix_next (fun x => S x && T x) S k]
        exact HY2.out.put k hlt (fun j hj _ => mix_far _ _ _ _ hj))
      go_wp2
      go_region
      go_wp2
      go_roundw
      case rel => exact ⟨k + 1, by omega, by go_num, HS.out, HX2.out.far (by simp) _, HZ2.out.far (by simp) _, (HB.out.setCell (p := ⟨w.heap.size, k, none⟩) (Nat.le_refl _) _).drew⟩
      case measure => simp [intOf]; omega
    · have hk4 : k = 4 := by omega
      subst hk4
      have HY3 := Lib.hid (HY2.out.congr (mix_four _ _))
      have c0 := HY3.out.cell 0 (by omega)
      have c1 := HY3.out.cell 1 (by omega)
      have c2 := HY3.out.cell 2 (by omega)
      have c3 := HY3.out.cell 3 (by omega)
      go_wp2_with (refine wpList_store_set rfl _ _ rfl (w.heap.size + 2) emptyS (fun x => S x && T x) rfl rfl HZ2.out ?_; intro w9 hR hB9 hO9 hS9)
      refine bodyPost_ret (results_cell_row rfl _ _ (w.heap.size + 2) 24 _ (0, 0) _ rfl hR Tryd.underlying24 rfl sizeSet) rfl ⟨rfl, ?_⟩
      exact HB.out.trans (hB9 _ (by omega))
/-- What one of some has. -/
def anyS (ls : List (Nat → Bool)) : Nat → Bool := fun x => ls.any fun S => S x
theorem any_next {ls : List (Nat → Bool)} {k : Nat} {S : Nat → Bool} (h : ls[k]? = some S) : SameSet (fun x => anyS (ls.take k) x || S x) (anyS (ls.take (k + 1))) := fun x _ => by
  unfold anyS; rw [List.take_add_one, h]; simp
theorem any_zero (ls : List (Nat → Bool)) : SameSet emptyS (anyS (ls.take 0)) := fun x _ => by simp [anyS, emptyS]
set_option maxHeartbeats 1000000 in
theorem ball_any (w : World) (a : Option Addr) (len cap : Nat) (ls : List (Nat → Bool)) (h : SRow w a len ls) :
    Calls Tryd.prog 14 #[.slice a len cap] w fun e w' => e = .returned (setV (anyS ls)) ∧ Below w.heap.size w w' := by
  have hl2 := h.2.1
  have hz : SetAt ((w.alloc (.cells #[.int .u64 0, .int .u64 0, .int .u64 0, .int .u64 0] 24)).alloc (.cells #[.int .u64 0, .int .u64 0, .int .u64 0, .int .u64 0] 24)) (w.heap.size + 1) emptyS := SetAt.of_empty (heap_alloc2_new w _ _)
  have hy : SetAt ((w.alloc (.cells #[.int .u64 0, .int .u64 0, .int .u64 0, .int .u64 0] 24)).alloc (.cells #[.int .u64 0, .int .u64 0, .int .u64 0, .int .u64 0] 24)) w.heap.size emptyS := SetAt.of_empty (heap_alloc2_old w _ _)
  have HZ := Lib.hid (hz.congr (any_zero ls))
  have HY := Lib.hid hy
  have HH := Lib.hid h
  have HL := Lib.hid h.1
  clear hz hy h
  unfold setV
  go_enter Tryd.func14, Tryd.ntmps14
  go_wp2
  go_loopw [9] (fun i wr => ∃ k : Nat, k ≤ len ∧ i = .int .i64 k ∧ SetAt wr w.heap.size emptyS ∧ SetAt wr (w.heap.size + 1) (anyS (ls.take k)) ∧ Below w.heap.size w wr) (fun i _ => len - (intOf i).toNat)
  case atStart => exact ⟨0, by omega, rfl, HY.out, HZ.out, ((Below.refl _ _).alloc (Nat.le_refl _) _).alloc (by simp) _⟩
  case round =>
    obtain ⟨k, hk, rfl, hY, hZ, hb⟩ := hrel
    have HY2 := Lib.hid hY
    have HZ2 := Lib.hid hZ
    have HB := Lib.hid hb
    have hz1 := hZ.lt
    clear hY hZ hb
    generalize wr = wo at *
    by_cases hlt : k < len
    · obtain ⟨b1, o1, S, rfl, hbl, hS, c0, c1, c2, c3⟩ := (HH.out.below HB.out).at_ hlt
      have HS := Lib.hid hS
      have HY3 := Lib.hid (SetAt.below HY2.out ((Below.refl wo.heap.size wo).alloc (Nat.le_refl _) (.cells #[.int .u64 (wd S 0), .int .u64 (wd S 1), .int .u64 (wd S 2), .int .u64 (wd S 3)] 24)) (by omega))
      have HZ3 := Lib.hid ((SetAt.below HZ2.out ((Below.refl wo.heap.size wo).alloc (Nat.le_refl _) (.cells #[.int .u64 (wd S 0), .int .u64 (wd S 1), .int .u64 (wd S 2), .int .u64 (wd S 3)] 24)) hz1).congr (fun x hx => (mix_zero (fun x => anyS (ls.take k) x || S x) (anyS (ls.take k)) x hx).symm))
      have HX3 : Hid (SetAt (wo.alloc (.cells #[.int .u64 (wd S 0), .int .u64 (wd S 1), .int .u64 (wd S 2), .int .u64 (wd S 3)] 24)) wo.heap.size S) := Lib.hid (heap_alloc_new wo _)
      have HB3 := Lib.hid (HB.out.alloc (by omega) (.cells #[.int .u64 (wd S 0), .int .u64 (wd S 1), .int .u64 (wd S 2), .int .u64 (wd S 3)] 24))
      have hp0 : (0 : Int) ≤ (k : Int) := by omega
      have hp1 : (k : Int) < (len : Int) := by omega
      clear hS
      go_wp2
      go_loopw [13] (fun i wr => ∃ j : Nat, j ≤ 4 ∧ i = .int .i64 j ∧ SetAt wr w.heap.size emptyS ∧ SetAt wr (w.heap.size + 1) (mixS (fun x => anyS (ls.take k) x || S x) (anyS (ls.take k)) j) ∧ SetAt wr wo.heap.size S ∧ Below w.heap.size w wr) (fun i _ => 4 - (intOf i).toNat)
      case atStart => exact ⟨0, by omega, rfl, HY3.out, HZ3.out, HX3.out, HB3.out⟩
      case round =>
        obtain ⟨j, hj, rfl, hY, hZ, hX, hb⟩ := hrel
        have HY4 := Lib.hid hY
        have HZ4 := Lib.hid hZ
        have HX4 := Lib.hid hX
        have HB4 := Lib.hid hb
        clear hY hZ hX hb
        by_cases hj4 : j < 4
        · have c := HZ4.out.cell j hj4
          have d := HX4.out.cell j hj4
          have fz := HZ4.out.fz j
          rw [mix_at] at c
          have hq0 : (0 : Int) ≤ (j : Int) := by omega
          have hq1 : (j : Int) < 4 := by omega
          have hor : bits .or .u64 (wd (anyS (ls.take k)) j : Int) (wd S j : Int) = (wd (fun x => anyS (ls.take k) x || S x) j : Int) := by
            rw [bits_or_u64 _ _ (wd_lt _ _) (wd_lt _ _), wd_or]
          have HSS : Hid (SetAt (wr.setCell ⟨w.heap.size + 1, j, none⟩ (.int .u64 (wd (fun x => anyS (ls.take k) x || S x) j))) (w.heap.size + 1) (mixS (fun x => anyS (ls.take k) x || S x) (anyS (ls.take k)) (j + 1))) := Lib.hid (by
            rw [← mix_next (fun x => anyS (ls.take k) x || S x) (anyS (ls.take k)) j]
            exact HZ4.out.put j hj4 (fun i hi _ => mix_far _ _ _ _ hi))
          go_wp2
          go_region
          go_wp2
          go_roundw
          case rel => exact ⟨j + 1, by omega, by go_num, HY4.out.far (by simp) _, HSS.out, HX4.out.far (by simp; omega) _, (HB4.out.setCell (p := ⟨w.heap.size + 1, j, none⟩) (by simp) _).drew⟩
          case measure => simp [intOf]; omega
        · have hj4 : j = 4 := by omega
          subst hj4
          have HZ5 := Lib.hid ((HZ4.out.congr (mix_four _ _)).congr (any_next HS.out))
          go_wp2
          go_roundw
          case rel => exact ⟨k + 1, by omega, by go_num, HY4.out, HZ5.out, HB4.out⟩
          case measure => simp [intOf]; omega
    · have HK : Hid (ls.take k = ls) := by show _ = _; exact List.take_of_length_le (by rw [HL.out]; omega)
      rw [HK.out] at HZ2
      have c0 := HZ2.out.cell 0 (by omega)
      have c1 := HZ2.out.cell 1 (by omega)
      have c2 := HZ2.out.cell 2 (by omega)
      have c3 := HZ2.out.cell 3 (by omega)
      go_wp2_with (refine wpList_store_set rfl _ _ rfl w.heap.size emptyS (anyS ls) rfl rfl HY2.out ?_; intro w9 hR hB9 hO9 hS9)
      refine bodyPost_ret (results_cell_row rfl _ _ w.heap.size 24 _ (0, 0) _ rfl hR Tryd.underlying24 rfl sizeSet) rfl ⟨rfl, ?_⟩
      exact HB.out.trans (hB9 _ (Nat.le_refl _))
end Go.Proofs.YtglgmnhfpemfeaaDoor
