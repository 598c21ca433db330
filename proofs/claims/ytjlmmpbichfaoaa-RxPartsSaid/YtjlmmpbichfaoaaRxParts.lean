/- rx: the stage's theorem. -/
import Derived.Test.YtjlmmpbichfaoaaRxKnows
import Derived.Test.YtjlmmpbichfaoaaRxBegin
namespace Go.Proofs.Ytjlmmpbichfaoaa
open Go.RowKit
set_option linter.unusedVariables false

theorem crow_new {α : Type} {C : α → List Value} {k : Nat} (hk : ∀ o, (C o).length = k) (w : World) (os : List α) (t : TypeId) (cs : Array Value) (hcs : cs = (os.flatMap C).toArray) (hl : os.length ≤ 9223372036854775807) (H : Nat) (hH : w.heap.size = H) :
    CRow C k (w.alloc (.cells cs t)) (some ⟨H, 0, none⟩) os.length os := by
  subst hcs hH
  refine ⟨rfl, hl, fun _ => ⟨_, 0, rfl, by simp, fun i o hi j v hj => ?_⟩⟩
  rw [Nat.zero_add, World.cell?_alloc_new]
  have := flat_get hk os i o hi j v hj
  simpa using this
theorem rrow2 {w : World} {A B : Option Addr} {la ca lb cb : Nat} {ra rb : List Rx} (ha : CRow rxC 5 w A la ra) (hb : CRow rxC 5 w B lb rb) :
    RRow (w.alloc (.cells #[.slice A la ca, .slice B lb cb] 28)) (some ⟨w.heap.size, 0, none⟩) 2 [⟨A, la, ca, ra⟩, ⟨B, lb, cb, rb⟩] := by
  have hb0 : Below w.heap.size w (w.alloc (.cells #[.slice A la ca, .slice B lb cb] 28)) := (Below.refl _ _).alloc (Nat.le_refl _) _
  refine ⟨crow_new slC_len w [⟨A, la, ca, ra⟩, ⟨B, lb, cb, rb⟩] _ _ rfl (by simp) _ rfl, fun o ho => ?_⟩
  simp only [List.mem_cons, List.not_mem_nil, or_false] at ho
  rcases ho with rfl | rfl
  · exact ha.below hb0
  · exact hb.below hb0
theorem beh_two (k : Int) (ra rb : List Rx) : behUp k [ra, rb] 2 = ra ++ rb ++ [stp0 k] := by simp [behUp]
/-- All that the theorem asks of the steps. -/
structure Law (ra rb : List Rx) (hA hB : Nat) : Prop where
  ca : chkR ra = 0
  hiA : highR ra = hA
  hiB : highR rb = hB
  cl : chkR (ra ++ rb ++ [stp0 3]) = 0
  b1 : bgL (ra ++ rb ++ [stp0 3]) 1 (ra.length + rb.length + 1) = 0
  b2 : bgL (ra ++ rb ++ [stp0 3]) 1 (ra.length + rb.length) = (ra.length : Int)
  b3 : bgL (ra ++ rb ++ [stp0 3]) 1 ra.length = 0
  hl : highR (ra ++ rb ++ [stp0 3]) = max hA (hB + 1)
  cm : ra.length + rb.length + 2 ≤ 512 → chkR (ra ++ rb ++ [stp0 4] ++ [stp0 5]) = 0
  b4 : bgL (ra ++ rb ++ [stp0 4] ++ [stp0 5]) 1 (ra.length + rb.length + 2) = 0
  hm : ra.length + rb.length + 2 ≤ 512 → highR (ra ++ rb ++ [stp0 4] ++ [stp0 5]) = max hA (hB + 1)
  pa : 1 ≤ ra.length
  pb : 1 ≤ rb.length
  hA5 : hA ≤ 512
  hB5 : hB ≤ 512
theorem law_of {ra rb : List Rx} (h : ra.length + rb.length < 512) (h1 : chkR ra = 0) (h2 : chkR rb = 0) : Law ra rb (highR ra) (highR rb) := by
  obtain ⟨l1, ha, w1⟩ := chk_zero.1 h1
  obtain ⟨l2, hb, w2⟩ := chk_zero.1 h2
  have na : ra ≠ [] := by rintro rfl; simp [wk] at w1
  have nb : rb ≠ [] := by rintro rfl; simp [wk] at w2
  have pa : 1 ≤ ra.length := by cases ra with | nil => exact absurd rfl na | cons _ _ => simp
  have pb : 1 ≤ rb.length := by cases rb with | nil => exact absurd rfl nb | cons _ _ => simp
  have e1 := high_of l1 w1
  have e2 := high_of l2 w2
  have wl := two_wk 3 (by decide) (by decide) w1 w2 na
  have wm := two_wk 4 (by decide) (by decide) w1 w2 na
  have h4 := (wk_hi wm).2 (by simp)
  have ws := star_wk 5 (by decide) (by decide) wm h4.2
  have ll : (ra ++ rb ++ [stp0 3]).length ≤ 512 := by simp; omega
  have g1 := bg_part _ (ra ++ rb ++ [stp0 3]) [] [] 1 0 _ rfl wl (Nat.le_refl _)
  have g2 := bg_part _ rb ra [stp0 3] 1 0 _ rfl w2 (Nat.le_refl _)
  have g3 := bg_part _ ra [] (rb ++ [stp0 3]) 1 0 _ rfl w1 (Nat.le_refl _)
  have g4 := bg_part _ (ra ++ rb ++ [stp0 4] ++ [stp0 5]) [] [] 1 0 _ rfl ws (Nat.le_refl _)
  have v1 := walkR_le ra
  have v2 := walkR_le rb
  refine ⟨h1, rfl, rfl, chk_zero.2 ⟨ll, _, wl⟩, ?_, g2, ?_, ?_, fun hle => ?_, ?_, fun hle => ?_, pa, pb, ?_, ?_⟩
  · rw [show ra.length + rb.length + 1 = ([] : List Rx).length + (ra ++ rb ++ [stp0 3]).length by simp; omega]; simpa using g1
  · simpa using g3
  · rw [e1, e2]; exact high_of ll wl
  · exact chk_zero.2 ⟨by simp; omega, _, ws⟩
  · rw [show ra.length + rb.length + 2 = ([] : List Rx).length + (ra ++ rb ++ [stp0 4] ++ [stp0 5]).length by simp; omega]; simpa using g4
  · rw [e1, e2]; exact high_of (by simp; omega) ws
  · unfold highR; rw [if_pos h1]; omega
  · unfold highR; rw [if_pos h2]; omega
theorem chk_kind0 {l : List Rx} {S : Nat → Bool} (h : l.length + 1 ≤ 512) : chkR (⟨0, S⟩ :: l) = 1 := by
  have e : walkR (⟨0, S⟩ :: l) = (0, 0, 1) := by
    unfold walkR
    rw [if_neg (by rw [List.length_cons]; omega), wk, if_pos (by simp [badR, okK])]
  unfold chkR
  rw [e]
  rfl
theorem set_kind (x : Rx) (l : List Rx) : ((x :: l).flatMap rxC).set 0 (.int .i64 0) = (⟨0, x.s⟩ :: l).flatMap rxC := by simp [rxC]
set_option maxRecDepth 100000 in
set_option maxHeartbeats 8000000 in
theorem parts_any (w : World) (A B : Option Addr) (la ca lb cb : Nat) (ra rb : List Rx) (hA : CRow rxC 5 w A la ra) (hB : CRow rxC 5 w B lb rb) :
    Calls Try.prog 4 #[.slice A la ca, .slice B lb cb] w fun e w' => e = .returned (.bool true) ∧ Below w.heap.size w w' := by
  have HK := Lib.hid fun w' => knows_any w'
  have hla := hA.1
  have hlb := hB.1
  have hA2 := hA.2.1
  have hB2 := hB.2.1
  have HA := Lib.hid hA
  have HB := Lib.hid hB
  have HB1 := Lib.hid ((Below.refl w.heap.size w).alloc (Nat.le_refl _) (.cells #[.slice A la ca, .slice B lb cb] 28))
  have HFW := Lib.hid (few_any _ _ 2 2 _ (rrow2 (ca := ca) (cb := cb) hA hB))
  have HFS := Lib.hid (few_sum (ws := [⟨A, la, ca, ra⟩, ⟨B, lb, cb, rb⟩]) (fun o ho => by
    simp only [List.mem_cons, List.not_mem_nil, or_false] at ho
    rcases ho with rfl | rfl
    · exact hla.symm
    · exact hlb.symm))
  have HKN : Hid (∀ W, Below w.heap.size w W → Calls Try.prog 6 #[] W fun e w' => e = .returned (.bool true) ∧ Below w.heap.size w w') := Lib.hid fun W hW => (HK.out W).mono fun e w' ⟨h1, h2⟩ => ⟨h1, hW.trans (h2.mono hW.size)⟩
  have HCA : Hid (∀ W, Below w.heap.size w W → Calls Try.prog 22 #[.slice A la ca] W fun e w' => e = .returned (.int .i64 (chkR ra : Nat)) ∧ Below w.heap.size w w') := Lib.hid fun W hW => (check_any W A la ca ra (HA.out.below hW)).mono fun e w' ⟨h1, h2⟩ => ⟨h1, hW.trans (h2.mono hW.size)⟩
  have HCB : Hid (∀ W, Below w.heap.size w W → Calls Try.prog 22 #[.slice B lb cb] W fun e w' => e = .returned (.int .i64 (chkR rb : Nat)) ∧ Below w.heap.size w w') := Lib.hid fun W hW => (check_any W B lb cb rb (HB.out.below hW)).mono fun e w' ⟨h1, h2⟩ => ⟨h1, hW.trans (h2.mono hW.size)⟩
  clear hA hB
  cases hf : fewR [⟨A, la, ca, ra⟩, ⟨B, lb, cb, rb⟩] with
  | false =>
    rw [hf] at HFW
    go_enter Try.func4, Try.ntmps4
    go_wp2_with fail
    refine HFW.out.mono ?_
    rintro e w1 ⟨rfl, rfl⟩
    go_wp2_with fail
    refine (HKN.out _ HB1.out).mono ?_
    rintro e w2 ⟨rfl, hb⟩
    have HB2 := Lib.hid hb
    clear hb
    go_wp2
    go_ret
    exact ⟨rfl, HB2.out⟩
  | true =>
  rw [hf] at HFW
  have hs : la + lb ≤ 900 := by
    have h1 := (HFS.out hf).2
    have h2 : tot ([⟨A, la, ca, ra⟩, ⟨B, lb, cb, rb⟩].map Rw.rs) = ra.length + rb.length := by simp [tot]
    omega
  clear hf HFS
  by_cases h512 : 512 ≤ la + lb
  · have j1 : decide ((512 : Int) ≤ (la : Int) + (lb : Int)) = true := decide_eq_true (by omega)
    have j2 : (512 : Int) ≤ (la : Int) + (lb : Int) := by omega
    clear h512
    go_enter Try.func4, Try.ntmps4
    go_wp2_with fail
    refine HFW.out.mono ?_
    rintro e w1 ⟨rfl, rfl⟩
    go_wp2_with fail
    refine (HKN.out _ HB1.out).mono ?_
    rintro e w2 ⟨rfl, hb⟩
    have HB2 := Lib.hid hb
    clear hb
    go_wp2
    go_ret
    exact ⟨rfl, HB2.out⟩
  have j1 : decide ((512 : Int) ≤ (la : Int) + (lb : Int)) = false := decide_eq_false (by omega)
  have j2 : ¬ (512 : Int) ≤ (la : Int) + (lb : Int) := by omega
  by_cases hca : chkR ra = 0
  case neg =>
    obtain ⟨ka, hka⟩ : ∃ k, chkR ra = k := ⟨_, rfl⟩
    rw [hka] at HCA hca
    have j3 : ((ka : Int) != 0) = true := by simp; omega
    clear hka hca
    go_enter Try.func4, Try.ntmps4
    go_wp2_with fail
    refine HFW.out.mono ?_
    rintro e w1 ⟨rfl, rfl⟩
    go_wp2_with fail
    refine (HCA.out _ HB1.out).mono ?_
    rintro e w2 ⟨rfl, hb⟩
    have HB2 := Lib.hid hb
    clear hb
    go_wp2_with fail
    refine (HKN.out _ HB2.out).mono ?_
    rintro e w3 ⟨rfl, hb⟩
    have HB3 := Lib.hid hb
    clear hb
    go_wp2
    go_ret
    exact ⟨rfl, HB3.out⟩
  by_cases hcb : chkR rb = 0
  case neg =>
    obtain ⟨ka, hka⟩ : ∃ k, chkR rb = k := ⟨_, rfl⟩
    rw [hka] at HCB hcb
    rw [hca] at HCA
    have j3 : ((ka : Int) != 0) = true := by simp; omega
    clear hka hcb hca
    go_enter Try.func4, Try.ntmps4
    go_wp2_with fail
    refine HFW.out.mono ?_
    rintro e w1 ⟨rfl, rfl⟩
    go_wp2_with fail
    refine (HCA.out _ HB1.out).mono ?_
    rintro e w2 ⟨rfl, hb⟩
    have HB2 := Lib.hid hb
    clear hb
    go_wp2_with fail
    refine (HCB.out _ HB2.out).mono ?_
    rintro e w3 ⟨rfl, hb⟩
    have HB3 := Lib.hid hb
    clear hb
    go_wp2_with fail
    refine (HKN.out _ HB3.out).mono ?_
    rintro e w4 ⟨rfl, hb⟩
    have HB4 := Lib.hid hb
    clear hb
    go_wp2
    go_ret
    exact ⟨rfl, HB4.out⟩
  have HLAW := Lib.hid (law_of (ra := ra) (rb := rb) (by omega) hca hcb)
  rw [hca] at HCA
  rw [hcb] at HCB
  clear hca hcb
  obtain ⟨HIA, hhiA⟩ : ∃ x, highR ra = x := ⟨_, rfl⟩
  obtain ⟨HIB, hhiB⟩ : ∃ x, highR rb = x := ⟨_, rfl⟩
  rw [hhiA, hhiB] at HLAW
  clear hhiA hhiB
  have hpa : 1 ≤ la := by have := HLAW.out.pa; omega
  have hpb : 1 ≤ lb := by have := HLAW.out.pb; omega
  have hA5 := HLAW.out.hA5
  have hB5 := HLAW.out.hB5
  have hlt : la + lb < 512 := by omega
  clear h512 hs
  go_enter Try.func4, Try.ntmps4
  go_wp2_with fail
  refine HFW.out.mono ?_
  rintro e w1 ⟨rfl, rfl⟩
  go_wp2_with fail
  refine (HCA.out _ HB1.out).mono ?_
  rintro e w2 ⟨rfl, hb⟩
  have HB2 := Lib.hid hb
  clear hb
  go_wp2_with fail
  refine (HCB.out _ HB2.out).mono ?_
  rintro e w3 ⟨rfl, hb⟩
  have HB3 := Lib.hid hb
  have hg3 := hb.size
  clear hb
  -- Cat(a, b)
  have HR3 := Lib.hid (rrow2 (ca := ca) (cb := cb) (HA.out.below HB3.out) (HB.out.below HB3.out))
  have HT3 : Hid (tot ([⟨A, la, ca, ra⟩, ⟨B, lb, cb, rb⟩].map Rw.rs) + 2 ≤ 2000) := Lib.hid (by simp [tot]; omega)
  have HC3 := Lib.hid (cat_any _ _ 2 2 _ HR3.out HT3.out)
  have HE3 : Hid (catR [⟨A, la, ca, ra⟩, ⟨B, lb, cb, rb⟩] 2 = ra ++ rb ++ [stp0 3]) := Lib.hid (beh_two 3 ra rb)
  rw [HE3.out] at HC3
  have HB4 := Lib.hid (HB3.out.alloc hg3 (.cells #[.slice A la ca, .slice B lb cb] 28))
  unfold Gives at HC3
  go_wp2_with fail
  refine HC3.out.mono ?_
  rintro e w5 ⟨vl, rfl, hown, hb⟩
  have HB5 := Lib.hid (HB4.out.trans (hb.mono HB4.out.size))
  obtain ⟨AL, cL, rfl, hlc, hcc⟩ := own_form hown
  have HOL := Lib.hid (own_mono hown HB4.out.size)
  obtain ⟨nL, hnL⟩ : ∃ n, (ra ++ rb ++ [stp0 3]).length = n := ⟨_, rfl⟩
  have hnL2 : nL = la + lb + 1 := by rw [← hnL]; simp; omega
  rw [hnL] at HOL hlc ⊢
  have HCL5 : Hid (CRow rxC 5 w5 AL nL (ra ++ rb ++ [stp0 3])) := Lib.hid (by have h := HOL.out; rw [← hnL] at h ⊢; exact own_crow rxC_len h (by rw [hnL]; omega))
  obtain ⟨gL, rfl, hgL, hgLs, _⟩ := own_at HOL.out (by omega)
  have HNL := Lib.hid hnL2
  have hnL3 : nL ≤ 513 := by omega
  have hnL4 : 3 ≤ nL := by omega
  clear hown hb hnL HC3 HE3 HR3 hnL2
  -- Alt(a, b), Star
  have hg5 := HB5.out.size
  have HR5 := Lib.hid (rrow2 (ca := ca) (cb := cb) (HA.out.below HB5.out) (HB.out.below HB5.out))
  have HC5 := Lib.hid (alt_any _ _ 2 2 _ HR5.out HT3.out)
  have HE5 : Hid (altR [⟨A, la, ca, ra⟩, ⟨B, lb, cb, rb⟩] 2 = ra ++ rb ++ [stp0 4]) := Lib.hid (beh_two 4 ra rb)
  rw [HE5.out] at HC5
  have HX5 := Lib.hid ((Below.refl w5.heap.size w5).alloc (Nat.le_refl _) (.cells #[.slice A la ca, .slice B lb cb] 28))
  unfold Gives at HC5
  go_wp2_with fail
  refine HC5.out.mono ?_
  rintro e w6 ⟨v6, rfl, hown, hb⟩
  have HX6 := Lib.hid (HX5.out.trans (hb.mono (by simp)))
  obtain ⟨A6, c6, rfl, hlc6, hcc6⟩ := own_form hown
  have HC6 := Lib.hid (own_crow rxC_len hown (by simp; omega))
  have HS6 := Lib.hid (star_any w6 A6 _ c6 _ HC6.out (by simp; omega))
  obtain ⟨n6, hn6⟩ : ∃ n, (ra ++ rb ++ [stp0 4]).length = n := ⟨_, rfl⟩
  rw [hn6] at HS6 hlc6 ⊢
  unfold Gives at HS6
  clear hown hb HC5 HE5 HR5 HX5 hn6 HC6
  go_wp2_with fail
  refine HS6.out.mono ?_
  rintro e w7 ⟨vm, rfl, hown, hb⟩
  have HX7 := Lib.hid (HX6.out.trans (hb.mono HX6.out.size))
  have HB7 := Lib.hid (HB5.out.trans (HX7.out.mono hg5))
  obtain ⟨AM, cM, rfl, hlcM, hccM⟩ := own_form hown
  obtain ⟨nM, hnM⟩ : ∃ n, (oneF (ra ++ rb ++ [stp0 4]) 5).length = n := ⟨_, rfl⟩
  have hnM2 : nM = la + lb + 2 := by rw [← hnM]; unfold oneF; simp; omega
  rw [hnM] at hlcM ⊢
  have HCM7 : Hid (CRow rxC 5 w7 AM nM (ra ++ rb ++ [stp0 4] ++ [stp0 5])) := Lib.hid (by have h := hown; rw [hnM] at h; have h2 := own_crow (os := ra ++ rb ++ [stp0 4] ++ [stp0 5]) rxC_len (h := by unfold oneF at hnM; rw [hnM]; exact h) (by unfold oneF at hnM; rw [hnM]; omega); unfold oneF at hnM; rw [hnM] at h2; exact h2)
  have HOL7 := Lib.hid (ownB HOL.out HX7.out)
  have HCL7 := Lib.hid (HCL5.out.below HX7.out)
  have HNM := Lib.hid hnM2
  have hnM3 : nM ≤ 600 := by omega
  have hnM4 : 3 ≤ nM := by omega
  clear hown hb hnM HS6 HX6 HX7 HCL5 HOL hnM2
  obtain ⟨i1, hi1⟩ : ∃ i, i + 1 = nL := ⟨nL - 1, by omega⟩
  obtain ⟨i2, hi2⟩ : ∃ i, i + 2 = nL := ⟨nL - 2, by omega⟩
  obtain ⟨i3, hi3⟩ : ∃ i, i + 1 = la := ⟨la - 1, by omega⟩
  have q1 : (nL : Int) - 1 = (i1 : Int) := by omega
  have q2 : (nL : Int) - 2 = (i2 : Int) := by omega
  have q3 : (la : Int) - 1 = (i3 : Int) := by omega
  have e1 := HLAW.out.b1
  rw [show ra.length + rb.length + 1 = i1 + 1 by have := HNL.out; omega] at e1
  have e2 := HLAW.out.b2
  rw [show ra.length + rb.length = i2 + 1 by have := HNL.out; omega, hla] at e2
  have e3 := HLAW.out.b3
  rw [show ra.length = i3 + 1 by omega] at e3
  have HCK : Hid (∀ W, Below w7.heap.size w7 W → Calls Try.prog 22 #[.slice (some ⟨gL, 0, none⟩) nL cL] W fun e w' => e = .returned (.int .i64 0) ∧ Below w7.heap.size w7 w') := Lib.hid fun W hW => by
    have h := check_any W _ nL cL _ (HCL7.out.below hW)
    rw [HLAW.out.cl] at h
    exact h.mono fun e w' ⟨h1, h2⟩ => ⟨h1, hW.trans (h2.mono hW.size)⟩
  have HBG1 : Hid (∀ W, Below w7.heap.size w7 W → Calls Try.prog 23 #[.slice (some ⟨gL, 0, none⟩) nL cL, .int .i64 (i1 : Int)] W fun e w' => e = .returned (.int .i64 0) ∧ Below w7.heap.size w7 w') := Lib.hid fun W hW => by
    have h := begin_any W _ nL cL _ i1 (HCL7.out.below hW) (by omega) (by omega)
    rw [e1] at h
    exact h.mono fun e w' ⟨h1, h2⟩ => ⟨h1, hW.trans (h2.mono hW.size)⟩
  have HBG2 : Hid (∀ W, Below w7.heap.size w7 W → Calls Try.prog 23 #[.slice (some ⟨gL, 0, none⟩) nL cL, .int .i64 (i2 : Int)] W fun e w' => e = .returned (.int .i64 (la : Int)) ∧ Below w7.heap.size w7 w') := Lib.hid fun W hW => by
    have h := begin_any W _ nL cL _ i2 (HCL7.out.below hW) (by omega) (by omega)
    rw [e2] at h
    exact h.mono fun e w' ⟨h1, h2⟩ => ⟨h1, hW.trans (h2.mono hW.size)⟩
  have HBG3 : Hid (∀ W, Below w7.heap.size w7 W → Calls Try.prog 23 #[.slice (some ⟨gL, 0, none⟩) nL cL, .int .i64 (i3 : Int)] W fun e w' => e = .returned (.int .i64 0) ∧ Below w7.heap.size w7 w') := Lib.hid fun W hW => by
    have h := begin_any W _ nL cL _ i3 (HCL7.out.below hW) (by omega) (by have := HNL.out; omega)
    rw [e3] at h
    exact h.mono fun e w' ⟨h1, h2⟩ => ⟨h1, hW.trans (h2.mono hW.size)⟩
  obtain ⟨mx, hmx⟩ : ∃ x, max HIA (HIB + 1) = x := ⟨_, rfl⟩
  have HMX := Lib.hid hmx
  have hmx5 : mx ≤ 513 := by omega
  have HHL : Hid (∀ W, Below w7.heap.size w7 W → Calls Try.prog 24 #[.slice (some ⟨gL, 0, none⟩) nL cL] W fun e w' => e = .returned (.int .i64 (mx : Int)) ∧ Below w7.heap.size w7 w') := Lib.hid fun W hW => by
    have h := high_any W _ nL cL _ (HCL7.out.below hW)
    rw [HLAW.out.hl, hmx] at h
    exact h.mono fun e w' ⟨h1, h2⟩ => ⟨h1, hW.trans (h2.mono hW.size)⟩
  have HX7 := Lib.hid (Below.refl w7.heap.size w7)
  have hw7 := HB7.out.size
  clear hmx hi1 hi2 hi3 e1 e2 e3
  by_cases hm : nM ≤ 512
  case' pos =>
    obtain ⟨i4, hi4⟩ : ∃ i, i + 1 = nM := ⟨nM - 1, by omega⟩
    have q4 : (nM : Int) - 1 = (i4 : Int) := by omega
    have e4 := HLAW.out.b4
    rw [show ra.length + rb.length + 2 = i4 + 1 by have := HNM.out; omega] at e4
    have hms : ra.length + rb.length + 2 ≤ 512 := by have := HNM.out; omega
    have HCM : Hid (∀ W, Below w7.heap.size w7 W → Calls Try.prog 22 #[.slice AM nM cM] W fun e w' => e = .returned (.int .i64 0) ∧ Below w7.heap.size w7 w') := Lib.hid fun W hW => by
      have h := check_any W _ nM cM _ (HCM7.out.below hW)
      rw [HLAW.out.cm hms] at h
      exact h.mono fun e w' ⟨h1, h2⟩ => ⟨h1, hW.trans (h2.mono hW.size)⟩
    have HBG4 : Hid (∀ W, Below w7.heap.size w7 W → Calls Try.prog 23 #[.slice AM nM cM, .int .i64 (i4 : Int)] W fun e w' => e = .returned (.int .i64 0) ∧ Below w7.heap.size w7 w') := Lib.hid fun W hW => by
      have h := begin_any W _ nM cM _ i4 (HCM7.out.below hW) (by omega) (by omega)
      rw [e4] at h
      exact h.mono fun e w' ⟨h1, h2⟩ => ⟨h1, hW.trans (h2.mono hW.size)⟩
    have HHM : Hid (∀ W, Below w7.heap.size w7 W → Calls Try.prog 24 #[.slice AM nM cM] W fun e w' => e = .returned (.int .i64 (mx : Int)) ∧ Below w7.heap.size w7 w') := Lib.hid fun W hW => by
      have h := high_any W _ nM cM _ (HCM7.out.below hW)
      rw [HLAW.out.hm hms, HMX.out] at h
      exact h.mono fun e w' ⟨h1, h2⟩ => ⟨h1, hW.trans (h2.mono hW.size)⟩
    have m1 : (nM : Int) ≤ 512 := by omega
    have m2 : decide ((nM : Int) ≤ 512) = true := decide_eq_true m1
    have m3 : decide (nM ≤ 512) = true := decide_eq_true hm
    clear hi4 e4 hms
    go_wp2_with fail
    refine (HCK.out _ HX7.out).mono ?_
    rintro e w10 ⟨rfl, hb⟩
    have HX10 := Lib.hid hb
    clear hb
    go_wp2_with fail
    refine (HBG1.out _ HX10.out).mono ?_
    rintro e w11 ⟨rfl, hb⟩
    have HX11 := Lib.hid hb
    clear hb
    go_wp2_with fail
    refine (HBG2.out _ HX11.out).mono ?_
    rintro e w12 ⟨rfl, hb⟩
    have HX12 := Lib.hid hb
    clear hb
    go_wp2_with fail
    refine (HBG3.out _ HX12.out).mono ?_
    rintro e w13 ⟨rfl, hb⟩
    have HX13 := Lib.hid hb
    clear hb
    go_wp2_with fail
    refine (HCM.out _ HX13.out).mono ?_
    rintro e w14 ⟨rfl, hb⟩
    have HX14 := Lib.hid hb
    clear hb
    go_wp2_with fail
    refine (HBG4.out _ HX14.out).mono ?_
    rintro e w15 ⟨rfl, hb⟩
    have HX15 := Lib.hid hb
    clear hb
    go_wp2_with fail
    refine (HHM.out _ HX15.out).mono ?_
    rintro e w16 ⟨rfl, hb⟩
    have HX16 := Lib.hid hb
    clear hb
    go_wp2_with fail
    refine (HHL.out _ HX16.out).mono ?_
    rintro e w8 ⟨rfl, hb⟩
    have HX8 := Lib.hid hb
    clear hb HX16 HX15 HX14 HX13 HX12 HX11 HX10 m1 m2 m3 q4 HCM HBG4 HHM
  case' neg =>
    have m1 : ¬ (nM : Int) ≤ 512 := by omega
    have m2 : decide ((nM : Int) ≤ 512) = false := decide_eq_false m1
    have m3 : decide (nM ≤ 512) = false := decide_eq_false hm
    have m4 : ¬ nM ≤ 512 := hm
    go_wp2_with fail
    refine (HCK.out _ HX7.out).mono ?_
    rintro e w10 ⟨rfl, hb⟩
    have HX10 := Lib.hid hb
    clear hb
    go_wp2_with fail
    refine (HBG1.out _ HX10.out).mono ?_
    rintro e w11 ⟨rfl, hb⟩
    have HX11 := Lib.hid hb
    clear hb
    go_wp2_with fail
    refine (HBG2.out _ HX11.out).mono ?_
    rintro e w12 ⟨rfl, hb⟩
    have HX12 := Lib.hid hb
    clear hb
    go_wp2_with fail
    refine (HBG3.out _ HX12.out).mono ?_
    rintro e w8 ⟨rfl, hb⟩
    have HX8 := Lib.hid hb
    clear hb HX12 HX11 HX10
  all_goals
    clear hm q1 q2 q3 HBG1 HBG2 HBG3 HCK HHL HCM7
    have HBW8 := Lib.hid (HB7.out.trans (HX8.out.mono hw7))
    have HOL8 := Lib.hid (ownB HOL7.out HX8.out)
    obtain ⟨x0, rest, hra⟩ : ∃ x l, ra ++ rb ++ [stp0 3] = x :: l := by
      cases ra with
      | nil => simp at hla; omega
      | cons x l => exact ⟨x, _, rfl⟩
    rw [hra] at HOL8
    have hrest : rest.length + 1 = nL := by
      have h := HNL.out
      have h2 := congrArg List.length hra
      simp at h2
      omega
    have hset := own_set HOL8.out 0 (.int .i64 0)
    rw [set_kind] at hset
    have c8 : w8.cell? ⟨gL, 0, none⟩ = some (.int .i64 x0.k) := by
      obtain ⟨g', hg', _, _, h⟩ := own_at HOL8.out (by omega)
      obtain rfl : gL = g' := by have := Option.some.inj hg'; injection this
      exact h 0 _ rfl
    have f8 := hset.2
    have HS8 := Lib.hid hset.1
    have HBW9 := Lib.hid (HBW8.out.setCell (p := ⟨gL, 0, none⟩) hgL (.int .i64 0))
    have hg9 := HBW9.out.size
    obtain ⟨w9, hw9⟩ : ∃ x, w8.setCell ⟨gL, 0, none⟩ (.int .i64 0) = x := ⟨_, rfl⟩
    rw [hw9] at HS8 HBW9 hg9
    have HCL9 : Hid (CRow rxC 5 w9 (some ⟨gL, 0, none⟩) nL (⟨0, x0.s⟩ :: rest)) := Lib.hid (by
      have h := HS8.out
      have e : (⟨0, x0.s⟩ :: rest : List Rx).length = nL := by rw [List.length_cons]; exact hrest
      rw [← e] at h ⊢
      exact own_crow rxC_len h (by rw [e]; omega))
    have HK0 : Hid (chkR (⟨0, x0.s⟩ :: rest) = 1) := Lib.hid (chk_kind0 (by have := HNL.out; omega))
    have HR9 := Lib.hid (rrow2 (ca := ca) (cb := cb) (HA.out.below HBW9.out) (HB.out.below HBW9.out))
    have HC9 := Lib.hid (cat_any _ _ 2 2 _ HR9.out HT3.out)
    have HE9 : Hid (catR [⟨A, la, ca, ra⟩, ⟨B, lb, cb, rb⟩] 2 = ra ++ rb ++ [stp0 3]) := Lib.hid (beh_two 3 ra rb)
    rw [HE9.out] at HC9
    have HX9 := Lib.hid ((Below.refl w9.heap.size w9).alloc (Nat.le_refl _) (.cells #[.slice A la ca, .slice B lb cb] 28))
    unfold Gives at HC9
    clear hset hra hrest
    go_wp2_with fail
    try rw [hw9]
    clear hw9 c8 f8
    refine HC9.out.mono ?_
    rintro e w20 ⟨v20, rfl, hown, hb⟩
    have HX20 := Lib.hid (HX9.out.trans (hb.mono HX9.out.size))
    obtain ⟨A20, c20, rfl, hl20, hc20⟩ := own_form hown
    have HCR := Lib.hid (own_crow rxC_len hown (by simp; omega))
    have HHC := Lib.hid (high_any w20 A20 _ c20 _ HCR.out)
    rw [HLAW.out.hl, HMX.out] at HHC
    have HBW20 := Lib.hid (HBW9.out.trans (HX20.out.mono hg9))
    obtain ⟨n20, hn20⟩ : ∃ n, (ra ++ rb ++ [stp0 3]).length = n := ⟨_, rfl⟩
    rw [hn20] at HHC hl20 ⊢
    clear hown hb hn20 HCR HC9 HE9 HR9 HX9
    go_wp2_with fail
    refine HHC.out.mono ?_
    rintro e w21 ⟨rfl, hb⟩
    have HX21 := Lib.hid (HX20.out.trans (hb.mono HX20.out.size))
    have HBW21 := Lib.hid (HBW9.out.trans (HX21.out.mono hg9))
    have HHA := Lib.hid (high_any w21 A la ca ra (HA.out.below HBW21.out))
    rw [HLAW.out.hiA] at HHA
    clear hb HHC HBW20
    go_wp2_with fail
    refine HHA.out.mono ?_
    rintro e w22 ⟨rfl, hb⟩
    have HX22 := Lib.hid (HX21.out.trans (hb.mono HX21.out.size))
    have HBW22 := Lib.hid (HBW9.out.trans (HX22.out.mono hg9))
    have HHB := Lib.hid (high_any w22 B lb cb rb (HB.out.below HBW22.out))
    rw [HLAW.out.hiB] at HHB
    clear hb HHA HBW21
    go_wp2_with fail
    refine HHB.out.mono ?_
    rintro e w23 ⟨rfl, hb⟩
    have HX23 := Lib.hid (HX22.out.trans (hb.mono HX22.out.size))
    have HBW23 := Lib.hid (HBW9.out.trans (HX23.out.mono hg9))
    clear hb HHB HBW22
    have HCA9 := Lib.hid (check_any w23 A la ca ra (HA.out.below HBW23.out))
    rw [HLAW.out.ca] at HCA9
    have hmx3 : (HIA < HIB + 1 ∧ mx = HIB + 1) ∨ (¬ HIA < HIB + 1 ∧ mx = HIA) := by have := HMX.out; omega
    clear HMX
    rcases hmx3 with ⟨p1, rfl⟩ | ⟨p1, rfl⟩
    case' inl =>
      have p2 : (HIA : Int) < (HIB : Int) + 1 := by omega
      have p3 : decide ((HIA : Int) < (HIB : Int) + 1) = true := decide_eq_true p2
      have p4 : decide (HIA < HIB + 1) = true := decide_eq_true p1
    case' inr =>
      have p2 : ¬ (mx : Int) < (HIB : Int) + 1 := by omega
      have p3 : decide ((mx : Int) < (HIB : Int) + 1) = false := decide_eq_false p2
      have p4 : decide (mx < HIB + 1) = false := decide_eq_false p1
    all_goals
      go_wp2_with fail
      refine HCA9.out.mono ?_
      rintro e w24 ⟨rfl, hb⟩
      have HX24 := Lib.hid (HX23.out.trans (hb.mono HX23.out.size))
      have HBW24 := Lib.hid (HBW9.out.trans (HX24.out.mono hg9))
      clear hb
      have HCK2 := Lib.hid (check_any w24 _ nL cL _ (HCL9.out.below HX24.out))
      rw [HK0.out] at HCK2
      go_wp2_with fail
      refine HCK2.out.mono ?_
      rintro e w25 ⟨rfl, hb⟩
      have HBW25 := Lib.hid (HBW24.out.trans (hb.mono HBW24.out.size))
      clear hb
      go_wp2_with fail
      refine (HKN.out _ HBW25.out).mono ?_
      rintro e w26 ⟨rfl, hb⟩
      have HBW26 := Lib.hid hb
      clear hb
      go_wp2
      go_ret
      exact ⟨rfl, HBW26.out⟩
theorem parts_walk (A : Option Addr) (la ca : Nat) (ra : List Rx) (B : Option Addr) (lb cb : Nat) (rb : List Rx) (w : World) (hA : CRow rxC 5 w A la ra) (hB : CRow rxC 5 w B lb rb) :
    Calls Try.prog 4 #[.slice A la ca, .slice B lb cb] w fun e w' => e = .returned (.bool true) ∧ Below w.heap.size w w' := parts_any w A B la ca lb cb ra rb hA hB
end Go.Proofs.Ytjlmmpbichfaoaa
