/- bset: Span, the program's. -/
import Derived.Test.YtglgmnhfpemfeaaDoorBOps
namespace Go.Proofs.YtglgmnhfpemfeaaDoor
open Go.RowKit
set_option linter.unusedVariables false

theorem span_step {lo hi : Int} {k : Nat} (h1 : lo ≤ (k : Int)) (h2 : (k : Int) ≤ hi) : SameSet (addS (spanS lo hi k) k) (spanS lo hi (k + 1)) := fun x _ => by
  unfold addS spanS
  by_cases hx : x = k
  · subst hx; simp [h1, h2]
  · have : decide (x < k + 1) = decide (x < k) := by rw [decide_eq_decide]; omega
    simp [hx, this]
theorem span_start {lo hi : Int} {k : Nat} (h : (k : Int) ≤ max lo 0) : SameSet emptyS (spanS lo hi k) := fun x _ => by
  unfold emptyS spanS
  by_cases hx : x < k
  · have : ¬ lo ≤ (x : Int) := by omega
    simp [this]
  · simp [hx]
theorem span_end {lo hi : Int} {k : Nat} (h : 255 < k ∨ hi < (k : Int)) : SameSet (spanS lo hi k) (spanS lo hi 256) := fun x hx => by
  unfold spanS
  by_cases h2 : (x : Int) ≤ hi
  · have h3 : x < k := by omega
    simp [h3, hx]
  · simp [h2]
theorem or_one (S : Nat → Bool) (b : Nat) : wd (addS S b) (b / 64) = wd S (b / 64) ||| wd (fun x => x == b) (b / 64) := by
  rw [wd_or]; rfl
set_option maxHeartbeats 1000000 in
theorem bspan_any (lo hi : Int) (w : World) :
    Calls Tryd.prog 10 #[.int .i64 lo, .int .i64 hi] w fun e w' => e = .returned (setV (spanS lo hi 256)) ∧ Below w.heap.size w w' := by
  have hz : SetAt ((w.alloc (.cells #[.int .u64 0, .int .u64 0, .int .u64 0, .int .u64 0] 24)).alloc (.cells #[.int .u64 0, .int .u64 0, .int .u64 0, .int .u64 0] 24)) (w.heap.size + 1) emptyS := SetAt.of_empty (heap_alloc2_new w _ _)
  have hy : SetAt ((w.alloc (.cells #[.int .u64 0, .int .u64 0, .int .u64 0, .int .u64 0] 24)).alloc (.cells #[.int .u64 0, .int .u64 0, .int .u64 0, .int .u64 0] 24)) w.heap.size emptyS := SetAt.of_empty (heap_alloc2_old w _ _)
  have HZ := Lib.hid hz
  have HY := Lib.hid hy
  clear hz hy
  unfold setV
  go_enter Tryd.func10, Tryd.ntmps10
  go_wp2
  all_goals
    go_loopw [6] (fun i wr => ∃ k : Nat, i = .int .i64 k ∧ (max lo 0 ≤ (k : Int)) ∧ SetAt wr w.heap.size emptyS ∧ SetAt wr (w.heap.size + 1) (spanS lo hi k) ∧ Below w.heap.size w wr) (fun i _ => 256 - (intOf i).toNat)
    case atStart => exact ⟨(max lo 0).toNat, by congr 1; omega, by omega, HY.out, HZ.out.congr (span_start (by omega)), ((Below.refl _ _).alloc (Nat.le_refl _) _).alloc (by simp) _⟩
    case round =>
      obtain ⟨k, rfl, hk, hY, hZ, hb⟩ := hrel
      have HY2 := Lib.hid hY
      have HZ2 := Lib.hid hZ
      have HB := Lib.hid hb
      have HKK := Lib.hid hk
      have hz1 := hZ.lt
      clear hY hZ hb HZ HY hk
      by_cases hlt : (k : Int) ≤ hi ∧ k ≤ 255
      · have c := HZ2.out.cell (k / 64) (by omega)
        have fz := HZ2.out.fz (k / 64)
        have hpw := wrap_pow (k % 64) (by omega)
        have hone := wd_one k (k / 64)
        rw [if_pos rfl] at hone
        rw [← hone] at hpw
        have hor : bits .or .u64 (wd (spanS lo hi k) (k / 64) : Int) (wd (fun x => x == k) (k / 64) : Int) = (wd (addS (spanS lo hi k) k) (k / 64) : Int) := by
          rw [bits_or_u64 _ _ (wd_lt _ _) (wd_lt _ _), or_one]
        have HSS : Hid (SetAt (wr.setCell ⟨w.heap.size + 1, k / 64, none⟩ (.int .u64 (wd (addS (spanS lo hi k) k) (k / 64)))) (w.heap.size + 1) (spanS lo hi (k + 1))) := Lib.hid (by
          refine SetAt.congr (HZ2.out.put (k / 64) (by omega) (fun i hi _ => ?_)) (span_step (by have := HKK.out; omega) hlt.1)
          exact or_far _ _ _ hi)
        have hq : k / 64 < 4 := by omega
        have h1 := hlt.1
        have h2 := hlt.2
        have h3 : decide ((k : Int) ≤ hi) = true := decide_eq_true h1
        have h4 : decide ((k : Int) ≤ 255) = true := decide_eq_true (by omega)
        by_cases h255 : (255 : Int) < hi
        all_goals
          clear hone hlt
          go_wp2
          go_region
          go_wp2
          go_roundw
          case rel => exact ⟨k + 1, by go_num, by have := HKK.out; omega, HY2.out.far (by simp) _, HSS.out, (HB.out.setCell (p := ⟨w.heap.size + 1, k / 64, none⟩) (by simp) _).drew⟩
          case measure => simp [intOf]; omega
      · have HF := Lib.hid (HZ2.out.congr (span_end (lo := lo) (hi := hi) (k := k) (by omega)))
        have c0 := HF.out.cell 0 (by omega)
        have c1 := HF.out.cell 1 (by omega)
        have c2 := HF.out.cell 2 (by omega)
        have c3 := HF.out.cell 3 (by omega)
        by_cases h255 : (255 : Int) < hi
        · have h4 : decide ((k : Int) ≤ 255) = false := decide_eq_false (by omega)
          go_wp2_with (refine wpList_store_set rfl _ _ rfl w.heap.size emptyS (spanS lo hi 256) rfl rfl HY2.out ?_; intro w9 hR hB9 hO9 hS9)
          refine bodyPost_ret (results_cell_row rfl _ _ w.heap.size 24 _ (0, 0) _ rfl hR Tryd.underlying24 rfl sizeSet) rfl ⟨rfl, ?_⟩
          exact HB.out.trans (hB9 _ (Nat.le_refl _))
        · have h4 : decide ((k : Int) ≤ hi) = false := decide_eq_false (by omega)
          go_wp2_with (refine wpList_store_set rfl _ _ rfl w.heap.size emptyS (spanS lo hi 256) rfl rfl HY2.out ?_; intro w9 hR hB9 hO9 hS9)
          refine bodyPost_ret (results_cell_row rfl _ _ w.heap.size 24 _ (0, 0) _ rfl hR Tryd.underlying24 rfl sizeSet) rfl ⟨rfl, ?_⟩
          exact HB.out.trans (hB9 _ (Nat.le_refl _))
end Go.Proofs.YtglgmnhfpemfeaaDoor
