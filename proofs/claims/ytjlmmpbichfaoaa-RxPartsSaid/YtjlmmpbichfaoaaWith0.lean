import Derived.Test.YtjlmmpbichfaoaaHas0
import Derived.Laws.ResultCell
namespace Go.Proofs.Ytjlmmpbichfaoaa
open Go.RowKit

def addS (S : Nat → Bool) (b : Nat) : Nat → Bool := fun x => S x || x == b
theorem or_bit (S : Nat → Bool) (b : Nat) : bits .or .u64 (wd S (b / 64) : Int) (IntKind.u64.wrap ((2 : Int) ^ (b % 64))) = (wd (addS S b) (b / 64) : Int) := by
  have hk : b % 64 < 64 := by omega
  have hlt : 2 ^ (b % 64) < 2 ^ 64 := Nat.pow_lt_pow_right (by omega) hk
  have h1 := wd_one b (b / 64)
  rw [if_pos rfl] at h1
  rw [wrap_pow _ hk, bits_or_u64 _ _ (wd_lt _ _) hlt, ← h1, wd_or]
  rfl
theorem or_far (S : Nat → Bool) (b i : Nat) (h : i ≠ b / 64) : wd (addS S b) i = wd S i := by
  refine wd_congr fun k hk => ?_
  have : ¬ 64 * i + k = b := by omega
  simp [addS, this]
theorem words_set (S T : Nat → Bool) (i : Nat) (h : i < 4) (hT : ∀ j, j ≠ i → wd T j = wd S j) :
    (#[Value.int .u64 (wd S 0), .int .u64 (wd S 1), .int .u64 (wd S 2), .int .u64 (wd S 3)] : Array Value).setIfInBounds i (.int .u64 (wd T i)) = #[.int .u64 (wd T 0), .int .u64 (wd T 1), .int .u64 (wd T 2), .int .u64 (wd T 3)] := by
  have : i = 0 ∨ i = 1 ∨ i = 2 ∨ i = 3 := by omega
  rcases this with rfl | rfl | rfl | rfl
  · rw [hT 1 (by omega), hT 2 (by omega), hT 3 (by omega)]; rfl
  · rw [hT 0 (by omega), hT 2 (by omega), hT 3 (by omega)]; rfl
  · rw [hT 0 (by omega), hT 1 (by omega), hT 3 (by omega)]; rfl
  · rw [hT 0 (by omega), hT 1 (by omega), hT 2 (by omega)]; rfl

theorem with_any (S : Nat → Bool) (b : Nat) (w : World) (h : b < 256) :
    Calls Try.prog 34 #[setV S, .int .i64 b] w fun e w' => e = .returned (setV (addS S b)) ∧ Below w.heap.size w w' := by
  have hw := words_at S (b / 64) (by omega)
  have hl := wd_lt S (b / 64)
  have hor := or_bit S b
  have hset := words_set S (addS S b) (b / 64) (by omega) (fun j hj => or_far S b j hj)
  unfold setV
  go_enter Try.func34, Try.ntmps34
  go_wp2
  refine bodyPost_ret (results_cell_row rfl _ _ (w.heap.size + 1) 25 _ (0, 0) _ rfl (heap_alloc2_new w _ _) Try.underlying25 rfl (by kernel_rfl)) rfl ⟨rfl, ?_⟩
  exact ((Below.refl _ _).alloc (Nat.le_refl _) _).alloc (by simp) _

def emptyS : Nat → Bool := fun _ => false
theorem wd_emptyS (i : Nat) : wd emptyS i = 0 := (wd_ext (by decide) fun k _ => by simp [emptyS]).symm
theorem setV_empty : setV emptyS = .agg #[.int .u64 0, .int .u64 0, .int .u64 0, .int .u64 0] := by unfold setV; simp only [wd_emptyS]; rfl
/-- Block g is a set. -/
def SetAt (w : World) (g : Nat) (S : Nat → Bool) : Prop := w.heap[g]? = some (.cells #[.int .u64 (wd S 0), .int .u64 (wd S 1), .int .u64 (wd S 2), .int .u64 (wd S 3)] 25 (0, 0))
theorem SetAt.lt {w : World} {g : Nat} {S : Nat → Bool} (h : SetAt w g S) : g < w.heap.size := by
  rcases Nat.lt_or_ge g w.heap.size with hl | hl
  · exact hl
  · unfold SetAt at h; rw [Array.getElem?_eq_none hl] at h; cases h
theorem SetAt.below {B g : Nat} {w w' : World} {S : Nat → Bool} (h : SetAt w g S) (hb : Below B w w') (hg : g < B) : SetAt w' g S := (hb.block g hg).trans h
theorem SetAt.cell {w : World} {g : Nat} {S : Nat → Bool} (h : SetAt w g S) (i : Nat) (hi : i < 4) : w.cell? ⟨g, i, none⟩ = some (.int .u64 (wd S i)) := by
  rw [cell_of_row w g i _ _ _ h]; exact words_at S i hi
theorem SetAt.of_empty {w : World} {g : Nat} (h : w.heap[g]? = some (.cells #[.int .u64 0, .int .u64 0, .int .u64 0, .int .u64 0] 25 (0, 0))) : SetAt w g emptyS := by
  unfold SetAt; simp only [wd_emptyS]; exact h
theorem sizeSet : (Try.prog.info? 25).map (·.size) = some 4 := by kernel_rfl
theorem wpList_store_set {ops : Array Oper} {rest : List Oper} {o : Oper} {a : Act} {w : World} {Q : Exit → Act → World → Prop} (hgd : o.guard = none) (x y : Operand) (ho : o.op = .store 25 x y)
    (g : Nat) (S T : Nat → Bool) (hx : a.eval x = .pointer (some ⟨g, 0, none⟩)) (hy : a.eval y = setV T) (hg : SetAt w g S)
    (h : ∀ w', SetAt w' g T → (∀ B, B ≤ g → Below B w w') → (∀ k, k ≠ g → w'.heap[k]? = w.heap[k]?) → w'.heap.size = w.heap.size → wpList Try.prog ops Q rest (a.put o.dst undef) w') : wpList Try.prog ops Q (o :: rest) a w := by
  refine wpList_store_row hgd 25 x y ho g _ hx hy 25 _ hg sizeSet rfl (by simp [Value.oneCell']) ?_
  exact h _ (setRow_heap w g _ _ _ _ hg) (fun B hB => (Below.refl _ _).trans ⟨rfl, rfl, rfl, by simp, fun k hk => setRow_other w g k _ (by omega)⟩) (fun k hk => setRow_other w g k _ hk) (by simp)
theorem one_any (b : Nat) (w : World) (h : b < 256) :
    Calls Try.prog 29 #[.int .u8 b] w fun e w' => e = .returned (setV (fun x => x == b)) ∧ Below w.heap.size w w' := by
  have hw := fun w' => with_any emptyS b w' h
  rw [setV_empty] at hw
  have he : setV (addS emptyS b) = setV (fun x => x == b) := SameSet.val fun x _ => by simp [addS, emptyS]
  rw [he] at hw
  have hz := SetAt.of_empty (heap_alloc_new w (.cells #[.int .u64 0, .int .u64 0, .int .u64 0, .int .u64 0] 25))
  unfold setV at hw ⊢
  have HW := Lib.hid hw
  have HZ := Lib.hid hz
  clear hw he hz
  go_enter Try.func29, Try.ntmps29
  go_wp2_with (first
    | (go_at_call 34; (with_reducible refine (HW.out _).mono ?_); rintro e w1 ⟨rfl, hb1⟩; have HZ1 := Lib.hid (HZ.out.below hb1 (by simp)))
    | (refine wpList_store_set rfl _ _ rfl w.heap.size emptyS (fun x => x == b) rfl rfl HZ1.out ?_; intro w9 hR hB9 hO9 hS9))
  refine bodyPost_ret (results_cell_row rfl _ _ w.heap.size 25 _ (0, 0) _ rfl hR Try.underlying25 rfl sizeSet) rfl ⟨rfl, ?_⟩
  exact (((Below.refl _ _).alloc (Nat.le_refl _) _).trans (hb1.mono (by simp))).trans (hB9 _ (Nat.le_refl _))

end Go.Proofs.Ytjlmmpbichfaoaa
