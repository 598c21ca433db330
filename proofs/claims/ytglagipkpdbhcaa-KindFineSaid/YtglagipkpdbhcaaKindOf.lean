import Derived.Test.YtglagipkpdbhcaaKKnows
namespace Go.Proofs.Ytglagipkpdbhcaa
open Go.RowKit Go.Sort

theorem right_clsL (ls : List (Nat → Bool)) : rightB (clsL ls) = true := by
  rw [rightB_iff]
  intro b hb
  unfold clsL
  exact cls_congr (N := 256) (fun x y _ _ => cls_eq_iff (sigL ls) x y) hb
theorem width_clsL (ls : List (Nat → Bool)) : cnt (sigL ls) 256 = widthC (clsL ls) 256 := (width_cls (sigL ls) 256).symm

attribute [local go_sem ↓] loadA_eq storeA_eq eqA_eq eqA_eq'
set_option maxHeartbeats 1000000 in
set_option maxRecDepth 100000 in
theorem kindOf_any (ls : List (Nat → Bool)) (a : Option Addr) (len cap : Nat) (w : World) (h : SRow w a len ls) :
    Calls Try.prog 4 #[.slice a len cap] w fun e w' => e = .returned (.bool true) ∧ Below w.heap.size w w' := by
  have hal := run_zero_arr
  have hl2 := h.2.1
  have HK := Lib.hid fun w' => knows_any w'
  have HOF := Lib.hid fun w' (hb : Below w.heap.size w w') => of_any ls a len cap w' (h.below hb)
  have HRO := Lib.hid fun w' (hb : Below w.heap.size w w') => refof_any ls a len cap w' (h.below hb)
  have HR := Lib.hid fun w' => right_any (clsL ls) (clsL_lt ls) w'
  have HW := Lib.hid fun w' => width_any (clsL ls) (clsL_lt ls) w'
  rw [width_clsL] at HRO
  rw [right_clsL] at HR
  by_cases h40 : (40 : Int) < len
  · clear HOF HRO HR HW
    go_enter Try.func4, Try.ntmps4
    go_wp2_with (first
      | (go_at_call 7; (with_reducible refine (HK.out _).mono ?_); rintro e w1 ⟨rfl, hb1⟩))
    go_ret
    exact ⟨rfl, hb1⟩
  · generalize hW : widthC (clsL ls) 256 = W at *
    go_enter Try.func4, Try.ntmps4
    go_wp2_with (first
      | (go_at_call 10; (with_reducible refine (HOF.out _ (Below.refl _ _)).mono ?_); rintro e w1 ⟨rfl, hb1⟩; have HZ := Lib.hid (ArrAt.new w1 zeroC); have hs1 := hb1.size)
      | ((with_reducible refine wpList_store_arr rfl _ _ rfl w1.heap.size zeroC (clsL ls) ?_ ?_ HZ.out ?_); rfl; rfl; intro w2 hR2 hB2 hO2 hS2))
    have hb2 : Below w.heap.size w w2 := (hb1.alloc hs1 _).trans (hB2 _ hs1)
    have hs2 : w2.heap.size = w1.heap.size + 1 := by rw [hS2]; simp
    clear hB2 hO2 hS2
    refine (HRO.out _ hb2).mono ?_
    rintro e w3 ⟨rfl, hb3⟩
    have hs3 := hb3.size
    have hR3 := Lib.hid (hR2.below hb3 (by omega))
    have hbb := hb2.trans (hb3.mono hb2.size)
    have HY := Lib.hid (ArrAt.new w3 zeroC)
    clear hR2
    go_wp2_with (first
      | ((with_reducible refine wpList_store_arr rfl _ _ rfl w3.heap.size zeroC (clsL ls) ?_ ?_ HY.out ?_); rfl; rfl; intro w4 hR4 hB4 hO4 hS4; have hA4 : ArrAt w4 w1.heap.size (clsL ls) := (hO4 _ (by omega)).trans (hR3.out.alloc _); have HA4 := Lib.hid hA4; have HR4 := Lib.hid hR4; have hs4 : w3.heap.size + 1 ≤ w4.heap.size := by rw [hS4]; simp
         have hb4 := (hbb.alloc hbb.size (.cells (arrC zeroC) 24)).trans (hB4 _ hbb.size); clear hR4 hA4 hB4 hO4 hS4; have hl3 := run_loadA w4 _ _ HA4.out; have hl5 := run_loadA w4 _ _ HR4.out; have heq := run_eqA_refl (clsL ls) (clsL_lt ls) w4; have hgd := guard_arr)
      | (go_at_call 12; (with_reducible refine (HR.out _).mono ?_); rintro e w5 ⟨rfl, hb5⟩; have hl6 := run_loadA w5 _ _ (HA4.out.below hb5 (by omega)))
      | (go_at_call 9; (with_reducible refine (HW.out _).mono ?_); rintro e w6 ⟨rfl, hb6⟩)
      | (go_at_call 7; (with_reducible refine (HK.out _).mono ?_); rintro e w7 ⟨rfl, hb7⟩))
    go_ret
    have hb5' := hb4.trans (hb5.mono hb4.size)
    have hb6' := hb5'.trans (hb6.mono hb5'.size)
    exact ⟨rfl, hb6'.trans (hb7.mono hb6'.size)⟩
end Go.Proofs.Ytglagipkpdbhcaa
