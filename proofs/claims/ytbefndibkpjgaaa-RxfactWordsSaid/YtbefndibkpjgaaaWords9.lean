/- The law RxfactWords, walked. -/
import Derived.Test.YtbefndibkpjgaaaAll9
import Derived.Test.YtbefndibkpjgaaaSemP
namespace Go.Proofs.Ytbefndibkpjgaaa
open Go.RowKit
set_option linter.unusedVariables false
set_option linter.unusedSimpArgs false
attribute [local go_sem ↓] eqS_eq eqS_eq'
set_option maxRecDepth 100000 in
set_option maxHeartbeats 8000000 in
theorem words_walk (a : Option Addr) (n c : Nat) (rs : List Rx) (s : ByteArray) (z : Int) (W : World) (h : CRow rxC 5 W a n rs) :
    Calls Try.prog 3 #[.slice a n c, .string s, .int .i64 z] W fun e w' => e = .returned (.bool true) ∧ Below W.heap.size W w' := by
  obtain ⟨o, ho⟩ := isRx_of h
  have HR0 := Lib.hid ho
  obtain ⟨w0, hw0⟩ : ∃ w0, w0 = W := ⟨_, rfl⟩
  have HF := Lib.hid (few9_any W a n c)
  clear h ho
  go_enter Try.func3, Try.ntmps3
  by_cases hn : n ≤ 80
  · rw [decide_eq_true hn] at HF
    by_cases hs : s.size ≤ 40
    · have k1 : ¬ (40 : Int) < (s.size : Int) := by omega
      have k2 : ¬ 40 < s.size := by omega
      go_wp2_with fail
      refine HF.out.mono ?_
      rintro e w' ⟨rfl, rfl⟩
      rw [← hw0] at HR0 ⊢
      have HB0 : Hid (Below W.heap.size W w0) := Lib.hid (by rw [hw0]; exact Below.refl _ _)
      clear HF hw0
      have HC9 := Lib.hid (says9p_any w0 a n c o s HR0.out (by omega) (by omega))
      go_wp2_with fail
      refine HC9.out.mono ?_
      rintro e w1 ⟨r, hr, rfl, hb9⟩
      have HR1 := Lib.hid (HR0.out.below hb9)
      have HB1 : Hid (Below W.heap.size W w1) := Lib.hid (HB0.out.trans (hb9.mono HB0.out.size))
      clear hb9 HC9
      have HSR := Lib.hid hr
      clear hr
      have HC9 := Lib.hid (rsays9_any w1 a n c o s HR1.out (by omega) (by omega))
      go_wp2_with fail
      refine HC9.out.mono ?_
      rintro e w2 ⟨r', hr', rfl, hb9⟩
      have HR2 := Lib.hid (HR1.out.below hb9)
      have HB2 : Hid (Below W.heap.size W w2) := Lib.hid (HB1.out.trans (hb9.mono HB1.out.size))
      clear hb9 HC9
      obtain rfl : r' = r := by rw [Bool.eq_iff_iff, hr', HSR.out]
      clear hr'
      have e1 : (r' == r') = true := by simp
      have HC9 := Lib.hid (ends9_any w2 a n c o s z HR2.out (by omega) (by omega))
      go_wp2_with fail
      refine HC9.out.mono ?_
      rintro e w3 ⟨xs, hxs, A3, c3, rfl, ho3, hb9⟩
      have HR3 := Lib.hid (HR2.out.below hb9)
      have HB3 : Hid (Below W.heap.size W w3) := Lib.hid (HB2.out.trans (hb9.mono HB2.out.size))
      clear hb9 HC9
      have HX := Lib.hid hxs
      have HV3 := Lib.hid (own_row intC_len ho3)
      clear hxs ho3
      have HC9 := Lib.hid (rends9_any w3 a n c o s z HR3.out (by omega) (by omega))
      go_wp2_with fail
      refine HC9.out.mono ?_
      rintro e w4 ⟨ys, hys, A4, c4, rfl, ho4, hb9⟩
      have HR4 := Lib.hid (HR3.out.below hb9)
      have HV4 := Lib.hid (HV3.out.below hb9)
      have HB4 : Hid (Below W.heap.size W w4) := Lib.hid (HB3.out.trans (hb9.mono HB3.out.size))
      clear hb9 HC9
      obtain rfl : ys = xs := ends_unique hys HX.out
      have HU4 := Lib.hid (own_row intC_len ho4)
      clear hys ho4
      have HC9 := Lib.hid (samei_any w4 A3 A4 ys.length ys.length c3 c4 ys ys HV4.out HU4.out)
      rw [decide_eq_true rfl] at HC9
      go_wp2_with fail
      refine HC9.out.mono ?_
      rintro e w5 ⟨rfl, hb9⟩
      have HR5 := Lib.hid (HR4.out.below hb9)
      have HB5 : Hid (Below W.heap.size W w5) := Lib.hid (HB4.out.trans (hb9.mono HB4.out.size))
      clear hb9 HC9
      obtain ⟨z1, hz1⟩ : ∃ z1, (shF (factO o) == 0) = z1 := ⟨_, rfl⟩
      have HZ1 := Lib.hid hz1
      have HC9 := Lib.hid (pnull_any w5 a n c o HR5.out (by omega))
      rw [hz1] at HC9
      go_wp2_with fail
      refine HC9.out.mono ?_
      rintro e w6 ⟨rfl, hb9⟩
      have HR6 := Lib.hid (HR5.out.below hb9)
      have HB6 : Hid (Below W.heap.size W w6) := Lib.hid (HB5.out.trans (hb9.mono HB5.out.size))
      clear hb9 HC9
      have HC9 := Lib.hid (rsays9_any w6 a n c o ⟨#[]⟩ HR6.out (by decide) (by omega))
      go_wp2_with fail
      refine HC9.out.mono ?_
      rintro e w7 ⟨r9, hr9, rfl, hb9⟩
      have HR7 := Lib.hid (HR6.out.below hb9)
      have HB7 : Hid (Below W.heap.size W w7) := Lib.hid (HB6.out.trans (hb9.mono HB6.out.size))
      clear hb9 HC9
      obtain rfl : r9 = z1 := by rw [Bool.eq_iff_iff, hr9, ← HZ1.out, null_iff]
      clear hr9 hz1
      have e2 : (r9 == r9) = true := by simp
      have HC9 := Lib.hid (knows9_any w7)
      go_wp2_with fail
      refine HC9.out.mono ?_
      rintro e w8 ⟨rfl, hb9⟩
      have HB8 : Hid (Below W.heap.size W w8) := Lib.hid (HB7.out.trans (hb9.mono HB7.out.size))
      clear hb9 HC9
      go_wp2
      go_ret
      exact ⟨rfl, HB8.out⟩
    · have k1 : (40 : Int) < (s.size : Int) := by omega
      have k2 : 40 < s.size := by omega
      go_wp2_with fail
      refine HF.out.mono ?_
      rintro e w' ⟨rfl, rfl⟩
      rw [← hw0]
      have HB0 : Hid (Below W.heap.size W w0) := Lib.hid (by rw [hw0]; exact Below.refl _ _)
      clear HF hw0
      have HC9 := Lib.hid (knows9_any w0)
      go_wp2_with fail
      refine HC9.out.mono ?_
      rintro e w1 ⟨rfl, hb9⟩
      have HB1 : Hid (Below W.heap.size W w1) := Lib.hid (HB0.out.trans (hb9.mono HB0.out.size))
      clear hb9 HC9
      go_wp2
      go_ret
      exact ⟨rfl, HB1.out⟩
  · rw [decide_eq_false hn] at HF
    go_wp2_with fail
    refine HF.out.mono ?_
    rintro e w' ⟨rfl, rfl⟩
    rw [← hw0]
    have HB0 : Hid (Below W.heap.size W w0) := Lib.hid (by rw [hw0]; exact Below.refl _ _)
    clear HF hw0
    have HC9 := Lib.hid (knows9_any w0)
    go_wp2_with fail
    refine HC9.out.mono ?_
    rintro e w1 ⟨rfl, hb9⟩
    have HB1 : Hid (Below W.heap.size W w1) := Lib.hid (HB0.out.trans (hb9.mono HB0.out.size))
    clear hb9 HC9
    go_wp2
    go_ret
    exact ⟨rfl, HB1.out⟩
end Go.Proofs.Ytbefndibkpjgaaa

