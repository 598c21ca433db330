/- rx: Cat, Alt; are these few steps. -/
import Derived.Test.YtjlmmpbichfaoaaRxMany
namespace Go.Proofs.Ytjlmmpbichfaoaa
open Go.RowKit
set_option linter.unusedVariables false

def catR (os : List Rw) (n : Nat) : List Rx := if n = 0 then [stp0 2] else behUp 3 (os.map Rw.rs) n
def altR (os : List Rw) (n : Nat) : List Rx := if n = 0 then [⟨1, emptyS⟩] else behUp 4 (os.map Rw.rs) n
theorem cat_any (w : World) (A : Option Addr) (n d : Nat) (os : List Rw) (h : RRow w A n os) (hsm : tot (os.map Rw.rs) + n ≤ 2000) :
    Calls Try.prog 8 #[.slice A n d] w (Gives w (catR os n)) := by
  have hl2 := h.1.2.1
  have HE := Lib.hid (empty_any w)
  have HM := Lib.hid (behind_any w A n d os 3 h hsm)
  unfold Gives catR at *
  clear h hsm
  by_cases h0 : n = 0
  · rw [if_pos h0]
    have j1 : ((n : Int) == 0) = true := by simp [h0]
    clear HM
    go_enter Try.func8, Try.ntmps8
    go_wp2_with fail
    refine HE.out.mono ?_
    rintro e w1 ⟨v, rfl, hown, hb⟩
    have HO := Lib.hid hown
    have HB := Lib.hid hb
    clear hown hb HE
    go_wp2
    go_ret
    exact ⟨_, rfl, HO.out, HB.out⟩
  · rw [if_neg h0]
    have j1 : ((n : Int) == 0) = false := by simp [h0]
    clear HE
    go_enter Try.func8, Try.ntmps8
    go_wp2_with fail
    refine HM.out.mono ?_
    rintro e w1 ⟨v, rfl, hown, hb⟩
    have HO := Lib.hid hown
    have HB := Lib.hid hb
    clear hown hb HM
    go_wp2
    go_ret
    exact ⟨_, rfl, HO.out, HB.out⟩
theorem refcat_any (w : World) (A : Option Addr) (n d : Nat) (os : List Rw) (h : RRow w A n os) (hsm : tot (os.map Rw.rs) + n ≤ 2000) :
    Calls Try.prog 9 #[.slice A n d] w (Gives w (catR os n)) := by
  have hl2 := h.1.2.1
  have HE := Lib.hid (refempty_any w)
  have HM := Lib.hid (many_any w A n d os 3 h hsm)
  unfold Gives catR at *
  clear h hsm
  by_cases h0 : n = 0
  · rw [if_pos h0]
    have j1 : ((n : Int) == 0) = true := by simp [h0]
    clear HM
    go_enter Try.func9, Try.ntmps9
    go_wp2_with fail
    refine HE.out.mono ?_
    rintro e w1 ⟨v, rfl, hown, hb⟩
    have HO := Lib.hid hown
    have HB := Lib.hid hb
    clear hown hb HE
    go_wp2
    go_ret
    exact ⟨_, rfl, HO.out, HB.out⟩
  · rw [if_neg h0]
    have j1 : ((n : Int) == 0) = false := by simp [h0]
    clear HE
    go_enter Try.func9, Try.ntmps9
    go_wp2_with fail
    refine HM.out.mono ?_
    rintro e w1 ⟨v, rfl, hown, hb⟩
    have HO := Lib.hid hown
    have HB := Lib.hid hb
    clear hown hb HM
    go_wp2
    go_ret
    exact ⟨_, rfl, HO.out, HB.out⟩
theorem alt_any (w : World) (A : Option Addr) (n d : Nat) (os : List Rw) (h : RRow w A n os) (hsm : tot (os.map Rw.rs) + n ≤ 2000) :
    Calls Try.prog 10 #[.slice A n d] w (Gives w (altR os n)) := by
  have hl2 := h.1.2.1
  have HE := Lib.hid (rset_any emptyS w)
  have HM := Lib.hid (behind_any w A n d os 4 h hsm)
  rw [setV_empty] at HE
  unfold Gives altR at *
  clear h hsm
  by_cases h0 : n = 0
  · rw [if_pos h0]
    have j1 : ((n : Int) == 0) = true := by simp [h0]
    clear HM
    go_enter Try.func10, Try.ntmps10
    go_wp2_with fail
    refine HE.out.mono ?_
    rintro e w1 ⟨v, rfl, hown, hb⟩
    have HO := Lib.hid hown
    have HB := Lib.hid hb
    clear hown hb HE
    go_wp2
    go_ret
    exact ⟨_, rfl, HO.out, HB.out⟩
  · rw [if_neg h0]
    have j1 : ((n : Int) == 0) = false := by simp [h0]
    clear HE
    go_enter Try.func10, Try.ntmps10
    go_wp2_with fail
    refine HM.out.mono ?_
    rintro e w1 ⟨v, rfl, hown, hb⟩
    have HO := Lib.hid hown
    have HB := Lib.hid hb
    clear hown hb HM
    go_wp2
    go_ret
    exact ⟨_, rfl, HO.out, HB.out⟩
theorem refalt_any (w : World) (A : Option Addr) (n d : Nat) (os : List Rw) (h : RRow w A n os) (hsm : tot (os.map Rw.rs) + n ≤ 2000) :
    Calls Try.prog 11 #[.slice A n d] w (Gives w (altR os n)) := by
  have hl2 := h.1.2.1
  have HE := Lib.hid (refset_any emptyS w)
  have HM := Lib.hid (many_any w A n d os 4 h hsm)
  rw [setV_empty] at HE
  unfold Gives altR at *
  clear h hsm
  by_cases h0 : n = 0
  · rw [if_pos h0]
    have j1 : ((n : Int) == 0) = true := by simp [h0]
    clear HM
    go_enter Try.func11, Try.ntmps11
    go_wp2_with fail
    refine HE.out.mono ?_
    rintro e w1 ⟨v, rfl, hown, hb⟩
    have HO := Lib.hid hown
    have HB := Lib.hid hb
    clear hown hb HE
    go_wp2
    go_ret
    exact ⟨_, rfl, HO.out, HB.out⟩
  · rw [if_neg h0]
    have j1 : ((n : Int) == 0) = false := by simp [h0]
    clear HE
    go_enter Try.func11, Try.ntmps11
    go_wp2_with fail
    refine HM.out.mono ?_
    rintro e w1 ⟨v, rfl, hown, hb⟩
    have HO := Lib.hid hown
    have HB := Lib.hid hb
    clear hown hb HM
    go_wp2
    go_ret
    exact ⟨_, rfl, HO.out, HB.out⟩
def msum (ws : List Rw) : Nat := (ws.map fun o => min o.l 1000).sum
theorem msum_take {ws : List Rw} {k : Nat} {o : Rw} (h : ws[k]? = some o) : msum (ws.take (k + 1)) = msum (ws.take k) + min o.l 1000 := by
  unfold msum; rw [List.take_add_one, h]; simp
theorem msum_le (ws : List Rw) (k : Nat) : msum (ws.take k) ≤ 1000 * k := by
  have : ∀ (l : List Rw), msum l ≤ 1000 * l.length := by
    intro l
    induction l with
    | nil => simp [msum]
    | cons o l ih =>
      have e : msum (o :: l) = min o.l 1000 + msum l := by simp [msum]
      rw [e, List.length_cons]; omega
  have h1 := this (ws.take k)
  have h2 : (ws.take k).length ≤ k := List.length_take_le _ _
  omega
def fewR (ws : List Rw) : Bool := decide (ws.length ≤ 40) && decide (msum ws ≤ 900)
theorem few_sum {ws : List Rw} (hl : ∀ o ∈ ws, o.l = o.rs.length) (h : fewR ws = true) : ws.length ≤ 40 ∧ tot (ws.map Rw.rs) ≤ 900 := by
  unfold fewR at h
  simp only [Bool.and_eq_true, decide_eq_true_eq] at h
  refine ⟨h.1, ?_⟩
  have : ∀ (l : List Rw), (∀ o ∈ l, o.l = o.rs.length) → msum l ≤ 900 → tot (l.map Rw.rs) ≤ msum l := by
    intro l
    induction l with
    | nil => intro _ _; simp [tot, msum]
    | cons o l ih =>
      intro hl hm
      have e : msum (o :: l) = min o.l 1000 + msum l := by simp [msum]
      have e2 : tot ((o :: l).map Rw.rs) = o.rs.length + tot (l.map Rw.rs) := by simp [tot]
      have h3 := hl o (by simp)
      rw [e] at hm ⊢
      rw [e2]
      have := ih (fun q hq => hl q (by simp [hq])) (by omega)
      omega
  have := this ws hl h.2
  omega
set_option maxHeartbeats 1000000 in
theorem few_any (w : World) (A : Option Addr) (n d : Nat) (ws : List Rw) (hA : RRow w A n ws) :
    Calls Try.prog 5 #[.slice A n d] w fun e w' => e = .returned (.bool (fewR ws)) ∧ w' = w := by
  have hl2 := hA.1.2.1
  have HA := Lib.hid hA
  have HL := Lib.hid hA.1.1
  clear hA
  go_enter Try.func5, Try.ntmps5
  go_wp2
  go_loop [3, 4] (fun m i => ∃ (k : Nat) (x : Int), k ≤ n ∧ i = .int .i64 k ∧ m = .int .i64 x ∧ (k ≤ 100 → x = (msum (ws.take k) : Nat))) (fun _ i => n - (intOf i).toNat)
  case atStart => exact ⟨0, 0, by omega, rfl, rfl, fun _ => rfl⟩
  case round =>
    obtain ⟨k, x, hk, rfl, rfl, hx⟩ := hrel
    have HX := Lib.hid hx
    clear hx
    by_cases hlt : k < n
    · obtain ⟨b1, o1, o, rfl, hbl, ho, hc⟩ := HA.out.1.at_ hlt
      have HST := Lib.hid (msum_take ho)
      have HML := Lib.hid (msum_le ws k)
      have HOM := Lib.hid (HA.out.2 o (List.mem_of_getElem? ho)).2.1
      obtain ⟨oa, ol, oc, ors⟩ := o
      have c0 : w.cell? ⟨b1, o1 + k, none⟩ = some (.slice oa ol oc) := by have := hc 0 _ rfl; simpa using this
      dsimp only at HST HOM
      clear hc ho
      go_wp2
      go_round
      case rel =>
        refine ⟨k + 1, _, by omega, by go_num, rfl, fun h => ?_⟩
        have h1 := HX.out (by omega)
        have h2 := HML.out
        rw [HST.out]
        subst h1
        have := HOM.out
        by_cases hc : (1000 : Int) < (ol : Int)
        · rw [if_pos hc, Nat.min_eq_right (by omega)]; unfold wrap64; omega
        · rw [if_neg hc, Nat.min_eq_left (by omega)]; unfold wrap64; omega
      case measure => simp [intOf]; omega
    · have HK : Hid (ws.take k = ws) := by show _ = _; exact List.take_of_length_le (by rw [HL.out]; omega)
      by_cases h100 : n ≤ 40
      · have h1 := HX.out (by omega)
        rw [HK.out] at h1
        subst h1
        have j1 : decide ((n : Int) ≤ 40) = true := decide_eq_true (by omega)
        go_wp2
        go_ret
        refine ⟨ret_bool ?_, rfl⟩
        unfold fewR
        rw [HL.out]
        simp [h100]
        omega
      · have j1 : decide ((n : Int) ≤ 40) = false := decide_eq_false (by omega)
        have HF : Hid (fewR ws = false) := Lib.hid (by unfold fewR; rw [HL.out]; simp [h100])
        go_wp2
        go_ret
        exact ⟨ret_bool HF.out.symm, rfl⟩
end Go.Proofs.Ytjlmmpbichfaoaa
