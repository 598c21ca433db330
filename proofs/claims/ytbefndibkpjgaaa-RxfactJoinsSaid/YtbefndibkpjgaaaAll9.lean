/- The law RxfactAll, walked. -/
import Derived.Test.YtbefndibkpjgaaaTw15
namespace Go.Proofs.Ytbefndibkpjgaaa
open Go.RowKit
set_option linter.unusedVariables false
set_option linter.unusedSimpArgs false
attribute [local go_sem ↓] eqS_eq eqS_eq'

theorem few9_any (w : World) (a : Option Addr) (n c : Nat) : Calls Try.prog 7 #[.slice a n c] w fun e w' => e = .returned (.bool (decide (n ≤ 80))) ∧ w = w' := by
  go_enter Try.func7, Try.ntmps7
  by_cases h : n ≤ 80
  · have e : ((n : Int) ≤ 80) := by omega
    have e2 : decide (n ≤ 80) = true := decide_eq_true h
    go_wp2
    go_ret
    exact ⟨by first | rfl | (rw [e2]; rfl) | simp [e], rfl⟩
  · have e : ¬ ((n : Int) ≤ 80) := by omega
    have e2 : decide (n ≤ 80) = false := decide_eq_false h
    go_wp2
    go_ret
    exact ⟨by first | rfl | (rw [e2]; rfl) | simp [e], rfl⟩
theorem eqS_self (S : Nat → Bool) (w : World) : (eqS (setV S) (setV S)).run Try.prog w = .ok true w := by
  unfold setV; rw [run_eqS]; simp
set_option maxRecDepth 100000 in
set_option maxHeartbeats 8000000 in
theorem all_walk (a : Option Addr) (n c : Nat) (rs : List Rx) (W : World) (h : CRow rxC 5 W a n rs) :
    Calls Try.prog 4 #[.slice a n c] W fun e w' => e = .returned (.bool true) ∧ Below W.heap.size W w' := by
  obtain ⟨o, ho⟩ := isRx_of h
  have HR0 := Lib.hid ho
  have HB0 : Hid (Below W.heap.size W W) := Lib.hid (Below.refl _ _)
  obtain ⟨w0, hw0⟩ : ∃ w0, w0 = W := ⟨_, rfl⟩
  have HF := Lib.hid (few9_any W a n c)
  clear h ho
  go_enter Try.func4, Try.ntmps4
  by_cases hn : n ≤ 80
  · rw [decide_eq_true hn] at HF
    go_wp2_with fail
    refine HF.out.mono ?_
    rintro e w' ⟨rfl, rfl⟩
    rw [← hw0] at HR0 ⊢
    have HB0 : Hid (Below W.heap.size W w0) := Lib.hid (by rw [hw0]; exact Below.refl _ _)
    obtain ⟨z1, hz1⟩ : ∃ z, shF (factO o) = z := ⟨_, rfl⟩
    obtain ⟨z2, hz2⟩ : ∃ z, loF (factO o) = z := ⟨_, rfl⟩
    obtain ⟨S1, hS1⟩ : ∃ z, (factO o).first = z := ⟨_, rfl⟩
    obtain ⟨S2, hS2⟩ : ∃ z, (factO o).used = z := ⟨_, rfl⟩
    have q1 := eqS_self S1
    have q2 := eqS_self S2
    unfold setV at q1 q2
    clear HF hw0
    have HC9 := Lib.hid (pshort_any w0 a n c o HR0.out (by omega))
    rw [hz1] at HC9
    go_wp2_with fail
    refine HC9.out.mono ?_
    rintro e w1 ⟨rfl, hb9⟩
    have HR1 := Lib.hid (HR0.out.below hb9)
    have HB1 : Hid (Below W.heap.size W w1) := Lib.hid (HB0.out.trans (hb9.mono HB0.out.size))
    clear hb9 HC9
    have HC9 := Lib.hid (rshort_any w1 a n c o HR1.out (by omega))
    rw [hz1] at HC9
    go_wp2_with fail
    refine HC9.out.mono ?_
    rintro e w2 ⟨rfl, rfl⟩
    clear HC9
    have e1 : (z1 == z1) = true := by simp
    have HC9 := Lib.hid (plong_any w1 a n c o HR1.out (by omega))
    rw [hz2] at HC9
    go_wp2_with fail
    refine HC9.out.mono ?_
    rintro e w2 ⟨rfl, hb9⟩
    have HR2 := Lib.hid (HR1.out.below hb9)
    have HB2 : Hid (Below W.heap.size W w2) := Lib.hid (HB1.out.trans (hb9.mono HB1.out.size))
    clear hb9 HC9
    have HC9 := Lib.hid (rlong_any w2 a n c o HR2.out (by omega))
    rw [hz2] at HC9
    go_wp2_with fail
    refine HC9.out.mono ?_
    rintro e w3 ⟨rfl, rfl⟩
    clear HC9
    have e2 : (z2 == z2) = true := by simp
    have HC9 := Lib.hid (pfirst_any w2 a n c o HR2.out (by omega))
    rw [hS1, setV] at HC9
    go_wp2_with fail
    refine HC9.out.mono ?_
    rintro e w3 ⟨rfl, hb9⟩
    have HR3 := Lib.hid (HR2.out.below hb9)
    have HB3 : Hid (Below W.heap.size W w3) := Lib.hid (HB2.out.trans (hb9.mono HB2.out.size))
    clear hb9 HC9
    have HC9 := Lib.hid (rfirst_any w3 a n c o HR3.out (by omega))
    rw [hS1, setV] at HC9
    go_wp2_with fail
    refine HC9.out.mono ?_
    rintro e w4 ⟨rfl, hb9⟩
    have HR4 := Lib.hid (HR3.out.below hb9)
    have HB4 : Hid (Below W.heap.size W w4) := Lib.hid (HB3.out.trans (hb9.mono HB3.out.size))
    clear hb9 HC9
    have HC9 := Lib.hid (pused_any w4 a n c o HR4.out (by omega))
    rw [hS2, setV] at HC9
    go_wp2_with fail
    refine HC9.out.mono ?_
    rintro e w5 ⟨rfl, hb9⟩
    have HR5 := Lib.hid (HR4.out.below hb9)
    have HB5 : Hid (Below W.heap.size W w5) := Lib.hid (HB4.out.trans (hb9.mono HB4.out.size))
    clear hb9 HC9
    have HC9 := Lib.hid (rused_any w5 a n c o HR5.out (by omega))
    rw [hS2, setV] at HC9
    go_wp2_with fail
    refine HC9.out.mono ?_
    rintro e w6 ⟨rfl, hb9⟩
    have HR6 := Lib.hid (HR5.out.below hb9)
    have HB6 : Hid (Below W.heap.size W w6) := Lib.hid (HB5.out.trans (hb9.mono HB5.out.size))
    clear hb9 HC9
    have HC9 := Lib.hid (knows9_any w6)
    go_wp2_with fail
    refine HC9.out.mono ?_
    rintro e w7 ⟨rfl, hb9⟩
    have HB7 : Hid (Below W.heap.size W w7) := Lib.hid (HB6.out.trans (hb9.mono HB6.out.size))
    clear hb9 HC9
    go_wp2
    go_ret
    exact ⟨rfl, HB7.out⟩
  · rw [decide_eq_false hn] at HF
    go_wp2_with fail
    refine HF.out.mono ?_
    rintro e w' ⟨rfl, rfl⟩
    rw [← hw0]
    have HB0 : Hid (Below W.heap.size W w0) := Lib.hid (by rw [hw0]; exact Below.refl _ _)
    clear HF hw0
    have HC9 := Lib.hid (knows9_any w0)
    go_wp2_with fail
    refine HC9.out.mono ?_
    rintro e w1 ⟨rfl, hb9⟩
    have HB1 : Hid (Below W.heap.size W w1) := Lib.hid (HB0.out.trans (hb9.mono HB0.out.size))
    clear hb9 HC9
    go_wp2
    go_ret
    exact ⟨rfl, HB1.out⟩
end Go.Proofs.Ytbefndibkpjgaaa

