/- Few words; the law of pieces. -/
import Derived.Test.YtdffilenphglgaaLRightR
import Derived.Test.YtdffilenphglgaaLKnows
namespace Go.Proofs.Ytdffilenphglgaa
open Go.RowKit
set_option linter.unusedVariables false

def msum (ws : List Wd) : Nat := (ws.map fun o => min o.l 1000).sum
theorem msum_take {ws : List Wd} {k : Nat} {o : Wd} (h : ws[k]? = some o) : msum (ws.take (k + 1)) = msum (ws.take k) + min o.l 1000 := by
  unfold msum; rw [List.take_add_one, h]; simp
theorem msum_le (ws : List Wd) (k : Nat) : msum (ws.take k) ≤ 1000 * k := by
  have : ∀ (l : List Wd), msum l ≤ 1000 * l.length := by
    intro l
    induction l with
    | nil => simp [msum]
    | cons o l ih =>
      have e : msum (o :: l) = min o.l 1000 + msum l := by simp [msum]
      rw [e, List.length_cons]; omega
  have h1 := this (ws.take k)
  have h2 : (ws.take k).length ≤ k := List.length_take_le _ _
  omega
def fewW (ws : List Wd) : Bool := decide (ws.length ≤ 100) && decide (msum ws ≤ 300)
theorem few_sum {ws : List Wd} (hl : ∀ o ∈ ws, o.l = o.ps.length) (h : fewW ws = true) : ws.length ≤ 100 ∧ lsum ws ≤ 300 := by
  unfold fewW at h
  simp only [Bool.and_eq_true, decide_eq_true_eq] at h
  refine ⟨h.1, ?_⟩
  have : ∀ (l : List Wd), (∀ o ∈ l, o.l = o.ps.length) → msum l ≤ 300 → lsum l ≤ msum l := by
    intro l
    induction l with
    | nil => intro _ _; simp [lsum, msum]
    | cons o l ih =>
      intro hl hm
      have e : msum (o :: l) = min o.l 1000 + msum l := by simp [msum]
      have e2 : lsum (o :: l) = o.ps.length + lsum l := by simp [lsum]
      have h3 := hl o (by simp)
      rw [e] at hm ⊢
      rw [e2]
      have := ih (fun q hq => hl q (by simp [hq])) (by omega)
      omega
  have := this ws hl h.2
  omega
set_option maxHeartbeats 1000000 in
theorem fewW_any (w : World) (A : Option Addr) (n d : Nat) (ws : List Wd) (hA : WRow w A n ws) :
    Calls Try.prog 15 #[.slice A n d] w fun e w' => e = .returned (.bool (fewW ws)) ∧ w' = w := by
  have hl2 := hA.1.2.1
  have HA := Lib.hid hA
  have HL := Lib.hid hA.1.1
  clear hA
  go_enter Try.func15, Try.ntmps15
  go_wp2
  go_loop [3, 4] (fun m i => ∃ (k : Nat) (x : Int), k ≤ n ∧ i = .int .i64 k ∧ m = .int .i64 x ∧ (k ≤ 100 → x = (msum (ws.take k) : Nat))) (fun _ i => n - (intOf i).toNat)
  case atStart => exact ⟨0, 0, by omega, rfl, rfl, fun _ => rfl⟩
  case round =>
    obtain ⟨k, x, hk, rfl, rfl, hx⟩ := hrel
    have HX := Lib.hid hx
    clear hx
    by_cases hlt : k < n
    · obtain ⟨b1, o1, o, rfl, hbl, ho, hc⟩ := HA.out.1.at_ hlt
      have HST := Lib.hid (msum_take ho)
      have HML := Lib.hid (msum_le ws k)
      have HOM := Lib.hid (HA.out.2 o (List.mem_of_getElem? ho)).2.1
      obtain ⟨oa, ol, oc, ops, ot, os⟩ := o
      have c0 : w.cell? ⟨b1, o1 + k * 3, none⟩ = some (.slice oa ol oc) := hc 0 _ rfl
      dsimp only at HST HOM
      clear hc ho
      go_wp2
      go_round
      case rel =>
        refine ⟨k + 1, _, by omega, by go_num, rfl, fun h => ?_⟩
        have h1 := HX.out (by omega)
        have h2 := HML.out
        rw [HST.out]
        subst h1
        have := HOM.out
        by_cases hc : (1000 : Int) < (ol : Int)
        · rw [if_pos hc, Nat.min_eq_right (by omega)]; unfold wrap64; omega
        · rw [if_neg hc, Nat.min_eq_left (by omega)]; unfold wrap64; omega
      case measure => simp [intOf]; omega
    · have HK : Hid (ws.take k = ws) := by show _ = _; exact List.take_of_length_le (by rw [HL.out]; omega)
      by_cases h100 : n ≤ 100
      · have h1 := HX.out (by omega)
        rw [HK.out] at h1
        subst h1
        have j1 : decide ((n : Int) ≤ 100) = true := decide_eq_true (by omega)
        go_wp2
        go_ret
        refine ⟨ret_bool ?_, rfl⟩
        unfold fewW
        rw [HL.out]
        simp [h100]
        omega
      · have j1 : decide ((n : Int) ≤ 100) = false := decide_eq_false (by omega)
        have HF : Hid (fewW ws = false) := Lib.hid (by unfold fewW; rw [HL.out]; simp [h100])
        go_wp2
        go_ret
        exact ⟨ret_bool HF.out.symm, rfl⟩
set_option maxHeartbeats 1000000 in
theorem leadPieces_any (w : World) (T A : Option Addr) (len cap n d : Nat) (ts : List Tk) (ws : List Wd) (hT : CRow tkC 3 w T len ts) (hA : WRow w A n ws) :
    Calls Try.prog 4 #[.slice T len cap, .slice A n d] w fun e w' => e = .returned (.bool true) ∧ Below w.heap.size w w' := by
  have HK := Lib.hid fun w' => knows_any w'
  have hl := hT.2.1
  have hl2 := hA.1.2.1
  have HT := Lib.hid hT
  have HA := Lib.hid hA
  have HFW := Lib.hid (fewW_any w A n d ws hA)
  have HFS := Lib.hid (few_sum (ws := ws) (fun o ho => (hA.2 o ho).1.symm))
  clear hT hA
  by_cases h1 : (100 : Int) < (len : Int)
  · have j1 : decide ((100 : Int) < (len : Int)) = true := decide_eq_true h1
    go_enter Try.func4, Try.ntmps4
    go_wp2_with (go_at_call 6; (with_reducible refine (HK.out _).mono ?_); rintro e w1 ⟨rfl, hb⟩)
    go_ret
    exact ⟨rfl, hb⟩
  · have j1 : decide ((100 : Int) < (len : Int)) = false := decide_eq_false h1
    cases hf : fewW ws with
    | false =>
      rw [hf] at HFW
      go_enter Try.func4, Try.ntmps4
      go_wp2_with fail
      refine HFW.out.mono ?_
      rintro e w1 ⟨rfl, rfl⟩
      go_wp2_with fail
      refine (HK.out _).mono ?_
      rintro e w2 ⟨rfl, hb⟩
      go_wp2
      go_ret
      exact ⟨rfl, hb⟩
    | true =>
      rw [hf] at HFW
      have hs := HFS.out hf
      have hsm : lsum ws + n ≤ 1000 := by have := HA.out.1.1; omega
      have HP1 := Lib.hid (pieces_any w A n d ws HA.out hsm)
      have HSM := Lib.hid hsm
      clear hs hsm
      obtain ⟨rv, hrv⟩ : ∃ rv, rightA ts (ws.map wabs) = rv := ⟨_, rfl⟩
      have HRV := Lib.hid hrv
      clear hrv
      go_enter Try.func4, Try.ntmps4
      go_wp2_with fail
      refine HFW.out.mono ?_
      rintro e w1 ⟨rfl, rfl⟩
      go_wp2_with fail
      refine HP1.out.mono ?_
      rintro e w2 ⟨V, m, c, rfl, hr, hb2⟩
      have HB2 := Lib.hid hb2
      have HR := Lib.hid hr
      have HP2 := Lib.hid (refpieces_any w2 A n d ws (HA.out.below hb2) HSM.out)
      clear hb2 hr
      go_wp2_with fail
      refine HP2.out.mono ?_
      rintro e w3 ⟨V', m', c', rfl, hr', hb3⟩
      have hmm : m' = m := by have h1 := HR.out.1; have h2 := hr'.1; omega
      subst hmm
      have HB3 := Lib.hid (HB2.out.trans (hb3.mono HB2.out.size))
      have HS := Lib.hid (same_yes w3 V V' m' c c' _ (HR.out.below hb3) hr')
      clear hb3 hr'
      go_wp2_with fail
      refine HS.out.mono ?_
      rintro e w4 ⟨rfl, q, hw4⟩
      have HB4 : Hid (Below _ _ w4) := Lib.hid (by rw [hw4]; exact HB3.out.trans ((below_drewN w3 q).mono HB3.out.size))
      clear hw4
      have HR1 := Lib.hid (right_any w4 T A len cap n d ts ws (HT.out.below HB4.out) (HA.out.below HB4.out))
      rw [HRV.out] at HR1
      go_wp2_with fail
      refine HR1.out.mono ?_
      rintro e w5 ⟨rfl, hb5⟩
      have HB5 := Lib.hid (HB4.out.trans (hb5.mono HB4.out.size))
      clear hb5
      have HR2 := Lib.hid (refright_any w5 T A len cap n d ts ws (HT.out.below HB5.out) (HA.out.below HB5.out))
      rw [HRV.out] at HR2
      go_wp2_with fail
      refine HR2.out.mono ?_
      rintro e w6 ⟨rfl, rfl⟩
      go_wp2_with fail
      refine (HK.out _).mono ?_
      rintro e w7 ⟨rfl, hb7⟩
      go_wp2
      go_ret
      exact ⟨rfl, HB5.out.trans (hb7.mono HB5.out.size)⟩
theorem WRow.ofOk {w : World} {A : Option Addr} {n : Nat} {ws : List Wd} (h : CRow wdC 3 w A n ws) (hk : ∀ o ∈ ws, WdOk w o) : WRow w A n ws := ⟨h, fun o ho => (hk o ho).1⟩
theorem leadPieces_walk (T : Option Addr) (len cap : Nat) (ts : List Tk) (A : Option Addr) (n d : Nat) (ws : List Wd) (w : World) (hT : CRow tkC 3 w T len ts) (hA : CRow wdC 3 w A n ws) (hk : ∀ o ∈ ws, WdOk w o) (_ : n ≤ d) (_ : d ≤ 9223372036854775807) :
    Calls Try.prog 4 #[.slice T len cap, .slice A n d] w fun e w' => e = .returned (.bool true) ∧ Below w.heap.size w w' := leadPieces_any w T A len cap n d ts ws hT (WRow.ofOk hA hk)
end Go.Proofs.Ytdffilenphglgaa
