import Derived.Test.YtglagipkpdbhcaaKRight
import Derived.Test.YtglagipkpdbhcaaWith
namespace Go.Proofs.Ytglagipkpdbhcaa
open Go.RowKit Go.Sort

def exL : List (Nat → Bool) := [spanS 97 99 256, fun x => x == 98]
theorem ex_width : widthC (clsL exL) 256 = 3 := by decide +kernel
theorem ex_0 : clsL exL 0 = 0 := by decide +kernel
theorem ex_97 : clsL exL 97 = 1 := by decide +kernel
theorem ex_98 : clsL exL 98 = 2 := by decide +kernel
theorem ex_99 : clsL exL 99 = 1 := by decide +kernel

theorem srow_two (w : World) (S T : Nat → Bool) : SRow (w.alloc (.cells #[.int .u64 (wd S 0), .int .u64 (wd S 1), .int .u64 (wd S 2), .int .u64 (wd S 3), .int .u64 (wd T 0), .int .u64 (wd T 1), .int .u64 (wd T 2), .int .u64 (wd T 3)] 28)) (some ⟨w.heap.size, 0, none⟩) 2 [S, T] := by
  refine ⟨rfl, by decide, fun _ => ⟨_, 0, rfl, by simp, fun i U hU j hj => ?_⟩⟩
  have hi : i = 0 ∨ i = 1 := by
    have := (List.getElem?_eq_some_iff.1 hU).1
    have : i < 2 := this
    omega
  have hj' : j = 0 ∨ j = 1 ∨ j = 2 ∨ j = 3 := by omega
  rw [World.cell?_alloc_new]
  rcases hi with rfl | rfl
  · have : S = U := by simpa using hU
    subst this
    rcases hj' with rfl | rfl | rfl | rfl <;> rfl
  · have : T = U := by simpa using hU
    subst this
    rcases hj' with rfl | rfl | rfl | rfl <;> rfl

attribute [local go_sem ↓] loadA_eq storeA_eq eqA_eq eqA_eq'
set_option maxHeartbeats 1000000 in
set_option maxRecDepth 100000 in
theorem knows_any (w : World) : Calls Try.prog 7 #[] w fun e w' => e = .returned (.bool true) ∧ Below w.heap.size w w' := by
  have hal := run_zero_arr
  have hsp := fun w' => span_any 97 99 w'
  have hon := fun w' => one_any 98 w' (by decide)
  have hof := fun w' => of_any exL (some ⟨w'.heap.size, 0, none⟩) 2 2 _ (srow_two w' (spanS 97 99 256) (fun x => x == 98))
  rw [ex_width] at hof
  unfold setV at hsp hon
  have HSP := Lib.hid hsp
  have HON := Lib.hid hon
  have HOF := Lib.hid hof
  have hwd := fun w' => width_any (clsL exL) (clsL_lt exL) w'
  rw [ex_width] at hwd
  have HWD := Lib.hid hwd
  clear hsp hon hof hwd
  go_enter Try.func7, Try.ntmps7
  go_wp2_with fail
  ((with_reducible refine (HSP.out _).mono ?_))
  rintro e w1 ⟨rfl, hb1⟩
  go_wp2_with fail
  refine (HON.out _).mono ?_
  rintro e w2 ⟨rfl, hb2⟩
  go_wp2_with fail
  ((with_reducible refine (HOF.out _).mono ?_))
  rintro e w3 ⟨rfl, hb3⟩
  have hb12 := hb1.trans (hb2.mono hb1.size)
  have hb4 := (hb12.alloc hb12.size (.cells #[.int .u64 (wd (spanS 97 99 256) 0), .int .u64 (wd (spanS 97 99 256) 1), .int .u64 (wd (spanS 97 99 256) 2), .int .u64 (wd (spanS 97 99 256) 3), .int .u64 (wd (fun x => x == 98) 0), .int .u64 (wd (fun x => x == 98) 1), .int .u64 (wd (fun x => x == 98) 2), .int .u64 (wd (fun x => x == 98) 3)] 28)).trans (hb3.mono (by have := hb12.size; simp; omega))
  clear hb1 hb2 hb3 hb12
  have HZ := Lib.hid (ArrAt.new w3 zeroC)
  go_wp2_with (first
    | ((with_reducible refine wpList_store_arr rfl _ _ rfl w3.heap.size zeroC (clsL exL) ?_ ?_ HZ.out ?_); rfl; rfl; intro w4 hR hB9 hO9 hS9; have c0 := hR.cell 0 (by decide); have c1 := hR.cell 97 (by decide); have c2 := hR.cell 98 (by decide); have c3 := hR.cell 99 (by decide); rw [ex_0] at c0; rw [ex_97] at c1; rw [ex_98] at c2; rw [ex_99] at c3; have HR := Lib.hid hR; have HB9 := Lib.hid hB9; clear hR hB9 hO9 hS9; have hld := run_loadA w4 _ _ HR.out)
    | (go_at_call 9; (with_reducible refine (HWD.out _).mono ?_); rintro e w5 ⟨rfl, hb5⟩))
  go_ret
  have hb6 := (hb4.alloc hb4.size (.cells (arrC zeroC) 24)).trans (HB9.out _ hb4.size)
  exact ⟨rfl, hb6.trans (hb5.mono hb6.size)⟩
end Go.Proofs.Ytglagipkpdbhcaa
