/- Several texts in one: DfaR, DfaQ, DfaU, Read1, With, AppRow, RxE, RxOps, RxMake, RxMany, RxCat, Read2. -/
import Derived.Test.YtmkgipoljbiocaaTw2
import Derived.Deep.LoopGhost
import Derived.PlainAid
import Derived.OwnWalk
import Derived.Test.YtmkgipoljbiocaaTw1
import Derived.Laws.ResultCell
import Derived.Deep.AppendSrc
import Derived.Stop.BytesEq
import Derived.Lib.SliceRun
/- Is it a machine: the program's answer. -/
namespace Go.Proofs.Ytmkgipoljbiocaa
open Go.RowKit Go.Sort
set_option linter.unusedVariables false

def stOk (n : Nat) (z : Int) : Bool := decide (-1 ≤ z) && decide (z < (n : Int))
def rowGood (M : MS) (i : Nat) : Bool :=
  (match M.nx[i]? with | some r => decide ((r.length : Int) = M.wd) && r.all (stOk M.nx.length) | none => false) && (match M.lb[i]? with | some z => decide (-1 ≤ z) | none => false)
def rightM (M : MS) : Bool := (decide (0 < M.nx.length) && decide (M.lb.length = M.nx.length)) && (rightB M.cl && decide (((widthC M.cl 256 : Nat) : Int) = M.wd)) && (List.range M.nx.length).all (rowGood M)
theorem rightM_no {M : MS} (h : M.nx.length = 0 ∨ M.lb.length ≠ M.nx.length ∨ rightB M.cl = false ∨ ((widthC M.cl 256 : Nat) : Int) ≠ M.wd) : rightM M = false := by
  unfold rightM
  rcases h with h | h | h | h
  · rw [decide_eq_false (by omega : ¬ 0 < M.nx.length)]; rfl
  · rw [decide_eq_false h]; simp
  · rw [h]; simp
  · rw [decide_eq_false h]; simp
theorem rightM_yes {M : MS} (h1 : 0 < M.nx.length) (h2 : M.lb.length = M.nx.length) (h3 : rightB M.cl = true) (h4 : ((widthC M.cl 256 : Nat) : Int) = M.wd) : rightM M = (List.range M.nx.length).all (rowGood M) := by
  unfold rightM
  rw [decide_eq_true h1, decide_eq_true h2, h3, decide_eq_true h4]; simp
theorem rightM_row {M : MS} (h : rightM M = true) {i : Nat} (hi : i < M.nx.length) : rowGood M i = true := by
  unfold rightM at h
  simp only [Bool.and_eq_true, List.all_eq_true, List.mem_range] at h
  exact h.2 i hi
theorem rightM_at {M : MS} {i : Nat} (hi : i < M.nx.length) (h : rowGood M i = false) : rightM M = false := by
  rw [Bool.eq_false_iff]
  intro h2
  rw [rightM_row h2 hi] at h; cases h
theorem rightM_parts {M : MS} (h : rightM M = true) : 0 < M.nx.length ∧ M.lb.length = M.nx.length ∧ rightB M.cl = true ∧ ((widthC M.cl 256 : Nat) : Int) = M.wd := by
  unfold rightM at h
  simp only [Bool.and_eq_true, decide_eq_true_eq] at h
  exact ⟨h.1.1.1, h.1.1.2, h.1.2.1, h.1.2.2⟩
attribute [local go_sem ↓] loadA_eq storeA_eq loadD_eq
set_option maxHeartbeats 4000000 in
set_option maxRecDepth 100000 in
theorem dright_any (w : World) (D : Df) (M : MS) (h : MAt w D M) (hC : ∀ i, i < 256 → M.cl i < 256) :
    Calls Try.prog 12 #[.agg (dfA D)] w fun e w' => e = .returned (.bool (rightM M)) ∧ Below w.heap.size w w' := by
  obtain ⟨r, hr⟩ : ∃ r, rightM M = r := ⟨_, rfl⟩
  have HR := Lib.hid hr
  have hln := h.nx.len
  have HLN := Lib.hid hln.1
  have hnm := hln.2
  have HLL := Lib.hid h.lb.1
  have hlm := h.lb.2.1
  have HM := Lib.hid h
  have HWD := Lib.hid h.wd
  rw [hr]
  obtain ⟨g, hg⟩ : ∃ g, w.heap.size = g := ⟨_, rfl⟩
  have HG := Lib.hid hg
  obtain ⟨W1, hW1⟩ : ∃ W, W = w.alloc (.cells (dfA D) 32) := ⟨_, rfl⟩
  have hb1 : Below g w W1 := by rw [hW1, ← hg]; exact (Below.refl _ _).alloc (Nat.le_refl _) _
  have hs1 : W1.heap.size = g + 1 := by rw [hW1, ← hg]; simp
  have hd1 : DfaAt W1 g D := by rw [hW1]; exact DfaAt.new w D g hg
  have HW1 := Lib.hid hW1
  have HB1 := Lib.hid hb1
  have HS1 := Lib.hid hs1
  have HD1 := Lib.hid hd1
  have c256 := hd1.wd
  have c257 := hd1.nx
  have c258 := hd1.lb
  have k256 := cell_regrown c256
  have k257 := cell_regrown c257
  have k258 := cell_regrown c258
  have kL : ∀ d os, (loadA ⟨g, 0, none⟩).run Try.prog (grow (redrawn W1 d) os) = .ok (.agg (arrC D.cl)) (grow (redrawn W1 d) os) := fun d os => run_loadAD _ _ D (hd1.below (below_regrown W1 d os) hd1.lt)
  have hcl := h.cl
  have HRB := Lib.hid fun w' => right_any D.cl (by rw [hcl]; exact hC) w'
  have HWC := Lib.hid fun w' => width_any D.cl (by rw [hcl]; exact hC) w'
  have HCL := Lib.hid hcl
  have wl := widthC_le D.cl 256 (by rw [hcl]; exact hC)
  have HRV : Hid (∀ p, rightB D.cl = p → rightB M.cl = p) := Lib.hid fun p hp => by rw [← hcl]; exact hp
  have HWV : Hid (∀ p, widthC D.cl 256 = p → widthC M.cl 256 = p) := Lib.hid fun p hp => by rw [← hcl]; exact hp
  obtain ⟨rb, hrb⟩ : ∃ p, rightB D.cl = p := ⟨_, rfl⟩
  obtain ⟨wc, hwc⟩ : ∃ p, widthC D.cl 256 = p := ⟨_, rfl⟩
  rw [hrb] at HRB
  rw [hwc] at HWC wl
  have HRE := Lib.hid (HRV.out _ hrb)
  have HWE := Lib.hid (HWV.out _ hwc)
  clear hr hln h hrb hwc hcl hW1 hb1 hs1 hd1 hC HRV HWV
  by_cases h0 : D.nl = 0
  · have HE : Hid (r = false) := Lib.hid (by rw [← HR.out]; exact rightM_no (.inl (by rw [HLN.out]; exact h0)))
    have e0 : ((D.nl : Int) == 0) = true := by rw [h0]; rfl
    clear h0
    go_enter Try.func12, Try.ntmps12
    go_wp2
    rw [← HW1.out]
    go_step3
    go_wp2
    refine wp_region_quiet_below (by kernel_rfl) (by kernel_rfl) ?_
    repeat (quiet_step (first | (with_reducible exact regrown_call HRB.out _ _) | (with_reducible exact regrown_call HWC.out _ _)))
    refine wpQuiet_nil ?_
    intro _ hw'
    obtain ⟨⟨dq, osq⟩, hw''⟩ := hw'
    subst hw''
    go_wp2
    try rw [Exit.noGoto_ret]
    go_ret
    exact ⟨ret_bool HE.out.symm, by rw [HG.out]; exact HB1.out.trans ((below_regrown W1 dq osq).mono (by have := HB1.out.size; have := HG.out; omega))⟩
  have e0 : ((D.nl : Int) == 0) = false := by simp; omega
  by_cases h1 : D.ll = D.nl
  case neg =>
    have HE : Hid (r = false) := Lib.hid (by rw [← HR.out]; exact rightM_no (.inr (.inl (by rw [HLN.out, HLL.out]; exact h1))))
    have e1 : ((D.ll : Int) != (D.nl : Int)) = true := by rw [bne_iff_ne]; omega
    clear h0 h1
    go_enter Try.func12, Try.ntmps12
    go_wp2
    rw [← HW1.out]
    go_step3
    go_wp2
    refine wp_region_quiet_below (by kernel_rfl) (by kernel_rfl) ?_
    repeat (quiet_step (first | (with_reducible exact regrown_call HRB.out _ _) | (with_reducible exact regrown_call HWC.out _ _)))
    refine wpQuiet_nil ?_
    intro _ hw'
    obtain ⟨⟨dq, osq⟩, hw''⟩ := hw'
    subst hw''
    go_wp2
    try rw [Exit.noGoto_ret]
    go_ret
    exact ⟨ret_bool HE.out.symm, by rw [HG.out]; exact HB1.out.trans ((below_regrown W1 dq osq).mono (by have := HB1.out.size; have := HG.out; omega))⟩
  have e1 : ((D.ll : Int) != (D.nl : Int)) = false := by rw [h1]; simp
  have HL1 := Lib.hid h1
  clear h1
  cases rb with
  | false =>
    have HE : Hid (r = false) := Lib.hid (by rw [← HR.out]; exact rightM_no (.inr (.inr (.inl HRE.out))))
    clear h0
    go_enter Try.func12, Try.ntmps12
    go_wp2
    rw [← HW1.out]
    go_step3
    go_wp2
    refine wp_region_quiet_below (by kernel_rfl) (by kernel_rfl) ?_
    repeat (quiet_step (first | (with_reducible exact regrown_call HRB.out _ _) | (with_reducible exact regrown_call HWC.out _ _)))
    refine wpQuiet_nil ?_
    intro _ hw'
    obtain ⟨⟨dq, osq⟩, hw''⟩ := hw'
    subst hw''
    go_wp2
    try rw [Exit.noGoto_ret]
    go_ret
    exact ⟨ret_bool HE.out.symm, by rw [HG.out]; exact HB1.out.trans ((below_regrown W1 dq osq).mono (by have := HB1.out.size; have := HG.out; omega))⟩
  | true =>
    by_cases h2 : (wc : Int) = D.wd
    case neg =>
      have HE : Hid (r = false) := Lib.hid (by rw [← HR.out]; exact rightM_no (.inr (.inr (.inr (by rw [HWE.out, ← HWD.out]; exact h2)))))
      have e2 : ((wc : Int) != D.wd) = true := by rw [bne_iff_ne]; exact h2
      clear h0 h2
      go_enter Try.func12, Try.ntmps12
      go_wp2
      rw [← HW1.out]
      go_step3
      go_wp2
      refine wp_region_quiet_below (by kernel_rfl) (by kernel_rfl) ?_
      repeat (quiet_step (first | (with_reducible exact regrown_call HRB.out _ _) | (with_reducible exact regrown_call HWC.out _ _)))
      refine wpQuiet_nil ?_
      intro _ hw'
      obtain ⟨⟨dq, osq⟩, hw''⟩ := hw'
      subst hw''
      go_wp2
      try rw [Exit.noGoto_ret]
      go_ret
      exact ⟨ret_bool HE.out.symm, by rw [HG.out]; exact HB1.out.trans ((below_regrown W1 dq osq).mono (by have := HB1.out.size; have := HG.out; omega))⟩
    have HE : Hid (r = (List.range M.nx.length).all (rowGood M)) := Lib.hid (by rw [← HR.out]; exact rightM_yes (by rw [HLN.out]; omega) (by rw [HLN.out, HLL.out]; exact HL1.out) HRE.out (by rw [HWE.out, ← HWD.out]; exact h2))
    have e2 : ((wc : Int) != D.wd) = false := by rw [h2]; simp
    have HPOS : Hid (0 < D.nl) := Lib.hid (by omega)
    clear h0
    go_enter Try.func12, Try.ntmps12
    go_wp2
    rw [← HW1.out]
    go_step3
    go_wp2
    refine wp_region_quiet_below (by kernel_rfl) (by kernel_rfl) ?_
    repeat (quiet_step (first | (with_reducible exact regrown_call HRB.out _ _) | (with_reducible exact regrown_call HWC.out _ _)))
    refine wpQuiet_nil ?_
    intro _ hw'
    obtain ⟨⟨dq, osq⟩, hw''⟩ := hw'
    subst hw''
    obtain ⟨W2, hW2⟩ : ∃ W, W = grow (redrawn W1 dq) osq := ⟨_, rfl⟩
    have hb2 : Below W1.heap.size W1 W2 := by rw [hW2]; exact below_regrown W1 dq osq
    rw [← hW2]
    have HBW : Hid (Below g w W2) := Lib.hid (HB1.out.trans (hb2.mono (by have := HS1.out; omega)))
    have HM2 := Lib.hid (HM.out.below (by rw [HG.out]; exact HBW.out))
    have hd2 : DfaAt W2 g D := HD1.out.below hb2 HD1.out.lt
    have f256 := hd2.wd
    have f257 := hd2.nx
    have f258 := hd2.lb
    obtain ⟨b3, off3, _, ha3, _⟩ := HM2.out.nx.at_ (i := 0) HPOS.out
    have HA3 := Lib.hid ha3
    rw [ha3] at f257
    clear hW2 hb2 hd2 k256 k257 k258 kL c256 c257 c258 ha3
    go_wp2
    go_step3
    go_wp2
    go_loopg [4, 38] D.nl (fun gk u i wr => ∃ k : Nat, k + gk = D.nl ∧ i = .int .i64 (k : Int) ∧ u = .bool true ∧ wr = W2 ∧ ∀ j, j < k → rowGood M j = true)
    case atStart => exact ⟨0, by omega, rfl, rfl, rfl, by omega⟩
    case round =>
      obtain ⟨k, hk, rfl, rfl, rfl, hall⟩ := hrel
      have HA := Lib.hid hall
      clear hall
      by_cases hlt : k < D.nl
      case neg =>
        have hk2 : k = D.nl := by omega
        have HF : Hid (r = true) := Lib.hid (by
          rw [HE.out, List.all_eq_true]
          intro j hj
          exact HA.out j (by rw [List.mem_range, HLN.out] at hj; omega))
        have z1 : ¬ (k : Int) < (D.nl : Int) := by omega
        clear hk2
        go_wp2
        try rw [Exit.noGoto_ret]
        go_ret
        exact ⟨ret_bool HF.out.symm, by rw [HG.out]; exact HBW.out⟩
      case pos =>
        have z0 : (0 : Int) ≤ (k : Int) := by omega
        have z1 : (k : Int) < (D.nl : Int) := by omega
        have z2 : (k : Int) < (D.ll : Int) := by have := HL1.out; omega
        obtain ⟨b3', off3', l3, ha3, hbl3, hl3, A3, cc3, d3, hr3⟩ := HM2.out.nx.at_ hlt
        rw [HA3.out] at ha3
        simp only [Option.some.injEq, Addr.mk.injEq, and_true] at ha3
        obtain ⟨rfl, rfl⟩ := ha3
        obtain ⟨b1, off1, z, ha1, hbl1, hz, d1⟩ := HM2.out.lb.int (k := k) (by have := HL1.out; omega)
        rw [ha1] at f258
        have HR3 := Lib.hid hr3
        have hll3 := hr3.2.1
        have HROW : Hid (rowGood M k = ((decide ((l3.length : Int) = D.wd) && l3.all (stOk D.nl)) && decide (-1 ≤ z))) := Lib.hid (by unfold rowGood; rw [hl3, hz, HLN.out, HWD.out])
        have HBAD : Hid (rowGood M k = false → r = false) := Lib.hid fun h => by rw [← HR.out]; exact rightM_at (by rw [HLN.out]; exact hlt) h
        clear hr3 hl3 hz ha1
        by_cases hw3 : (l3.length : Int) = D.wd
        case neg =>
          have HF : Hid (r = false) := Lib.hid (HBAD.out (by rw [HROW.out, decide_eq_false hw3]; rfl))
          have y1 : ((l3.length : Int) != D.wd) = true := by rw [bne_iff_ne]; exact hw3
          clear hw3
          go_wp2
          try rw [Exit.noGoto_ret]
          go_ret
          exact ⟨ret_bool HF.out.symm, by rw [HG.out]; exact HBW.out⟩
        case pos =>
          have y1 : ((l3.length : Int) != D.wd) = false := by rw [hw3]; simp
          have HW3 := Lib.hid hw3
          clear hw3
          by_cases hz1 : z < -1
          case pos =>
            have HF : Hid (r = false) := Lib.hid (HBAD.out (by rw [HROW.out, decide_eq_false (by omega : ¬ -1 ≤ z)]; simp))
            go_wp2
            try rw [Exit.noGoto_ret]
            go_ret
            exact ⟨ret_bool HF.out.symm, by rw [HG.out]; exact HBW.out⟩
          case neg =>
            have HA4 : Hid (l3.length = 0 ∨ ∃ b off, A3 = some ⟨b, off, none⟩) := Lib.hid (by
              rcases Nat.eq_zero_or_pos l3.length with h | h
              · exact .inl h
              · obtain ⟨b, off, _, h2, _⟩ := HR3.out.int h
                exact .inr ⟨b, off, h2⟩)
            obtain ⟨gz, rfl⟩ : ∃ x, x = gk := ⟨_, rfl⟩
            rcases HA4.out with hA4 | ⟨b4, off4, rfl⟩
            all_goals
              clear HA4
              try have HA4 := Lib.hid hA4
              try clear hA4
              go_wp2
              obtain ⟨wo, rfl⟩ : ∃ x, x = wr := ⟨_, rfl⟩
              go_loopg [4, 58] l3.length (fun g2 u i wr => ∃ j : Nat, j + g2 = l3.length ∧ i = .int .i64 (j : Int) ∧ u = .bool true ∧ wr = wo ∧ (l3.take j).all (stOk D.nl) = true)
              case atStart => exact ⟨0, by omega, rfl, rfl, rfl, rfl⟩
              case round =>
                obtain ⟨j, hj, rfl, rfl, rfl, hall⟩ := hrel
                have HAL := Lib.hid hall
                clear hall
                by_cases hlt2 : j < l3.length
                case neg =>
                  have HNX : Hid (∀ i, i < k + 1 → rowGood M i = true) := Lib.hid fun i hi => by
                    rcases Nat.lt_or_ge i k with h7 | h7
                    · exact HA.out i h7
                    · have : i = k := by omega
                      subst this
                      have h8 := HAL.out
                      rw [List.take_of_length_le (by omega)] at h8
                      rw [HROW.out, decide_eq_true HW3.out, h8, decide_eq_true (by omega : -1 ≤ z)]; rfl
                  have z3 : ¬ (j : Int) < (l3.length : Int) := by omega
                  clear hlt2 hj
                  go_wp2
                  go_roundg (gz - 1)
                  case measure => omega
                  case rel => exact ⟨k + 1, by omega, by go_num, rfl, rfl, HNX.out⟩
                case pos =>
                  have z3 : (j : Int) < (l3.length : Int) := by omega
                  have z4 : (0 : Int) ≤ (j : Int) := by omega
                  obtain ⟨b4', off4', y, ha4, hbl4, hy, dy⟩ := HR3.out.int hlt2
                  first
                    | (exfalso; have := HA4.out; omega)
                    | (simp only [Option.some.injEq, Addr.mk.injEq, and_true] at ha4
                       obtain ⟨rfl, rfl⟩ := ha4
                       have HY := Lib.hid hy
                       have HTK : Hid ((l3.take (j + 1)).all (stOk D.nl) = stOk D.nl y) := Lib.hid (by rw [take_snoc hy, List.all_append, HAL.out]; simp)
                       clear hy
                       by_cases hy1 : y < -1
                       · have HF : Hid (r = false) := Lib.hid (HBAD.out (by
                           have : l3.all (stOk D.nl) = false := by
                             rw [Bool.eq_false_iff]; intro h
                             have := List.all_eq_true.1 h y (List.mem_of_getElem? HY.out)
                             unfold stOk at this
                             simp only [Bool.and_eq_true, decide_eq_true_eq] at this
                             omega
                           rw [HROW.out, this]; simp))
                         go_wp2
                         try rw [Exit.noGoto_ret]
                         go_ret
                         exact ⟨ret_bool HF.out.symm, by rw [HG.out]; exact HBW.out⟩
                       · by_cases hy2 : (D.nl : Int) ≤ y
                         · have HF : Hid (r = false) := Lib.hid (HBAD.out (by
                             have : l3.all (stOk D.nl) = false := by
                               rw [Bool.eq_false_iff]; intro h
                               have := List.all_eq_true.1 h y (List.mem_of_getElem? HY.out)
                               unfold stOk at this
                               simp only [Bool.and_eq_true, decide_eq_true_eq] at this
                               omega
                             rw [HROW.out, this]; simp))
                           go_wp2
                           try rw [Exit.noGoto_ret]
                           go_ret
                           exact ⟨ret_bool HF.out.symm, by rw [HG.out]; exact HBW.out⟩
                         · have HNJ : Hid ((l3.take (j + 1)).all (stOk D.nl) = true) := Lib.hid (by
                             rw [HTK.out]; unfold stOk
                             simp only [Bool.and_eq_true, decide_eq_true_eq]; omega)
                           go_wp2
                           go_roundg (gk - 1)
                           case measure => omega
                           case rel => exact ⟨j + 1, by omega, by go_num, rfl, rfl, HNJ.out⟩)
end Go.Proofs.Ytmkgipoljbiocaa
/- Is it a machine: the document's answer. -/
namespace Go.Proofs.Ytmkgipoljbiocaa
open Go.RowKit Go.Sort
set_option linter.unusedVariables false

attribute [local go_sem ↓] loadA_eq storeA_eq loadD_eq
set_option maxHeartbeats 8000000 in
set_option maxRecDepth 100000 in
theorem rdright_any (w : World) (D : Df) (M : MS) (h : MAt w D M) (hC : ∀ i, i < 256 → M.cl i < 256) :
    Calls Try.prog 19 #[.agg (dfA D)] w fun e w' => e = .returned (.bool (rightM M)) ∧ Below w.heap.size w w' := by
  obtain ⟨r, hr⟩ : ∃ r, rightM M = r := ⟨_, rfl⟩
  have HR := Lib.hid hr
  have hln := h.nx.len
  have HLN := Lib.hid hln.1
  have hnm := hln.2
  have HLL := Lib.hid h.lb.1
  have hlm := h.lb.2.1
  have HM := Lib.hid h
  have HWD := Lib.hid h.wd
  rw [hr]
  obtain ⟨g, hg⟩ : ∃ g, w.heap.size = g := ⟨_, rfl⟩
  have HG := Lib.hid hg
  obtain ⟨W1, hW1⟩ : ∃ W, W = w.alloc (.cells (dfA D) 32) := ⟨_, rfl⟩
  have hb1 : Below g w W1 := by rw [hW1, ← hg]; exact (Below.refl _ _).alloc (Nat.le_refl _) _
  have hs1 : W1.heap.size = g + 1 := by rw [hW1, ← hg]; simp
  have hd1 : DfaAt W1 g D := by rw [hW1]; exact DfaAt.new w D g hg
  have HW1 := Lib.hid hW1
  have HB1 := Lib.hid hb1
  have HS1 := Lib.hid hs1
  have HD1 := Lib.hid hd1
  have c256 := hd1.wd
  have c257 := hd1.nx
  have c258 := hd1.lb
  have k256 := cell_regrown c256
  have k257 := cell_regrown c257
  have k258 := cell_regrown c258
  have kL : ∀ d os, (loadA ⟨g, 0, none⟩).run Try.prog (grow (redrawn W1 d) os) = .ok (.agg (arrC D.cl)) (grow (redrawn W1 d) os) := fun d os => run_loadAD _ _ D (hd1.below (below_regrown W1 d os) hd1.lt)
  have hcl := h.cl
  have HRB := Lib.hid fun w' => refright_any D.cl (by rw [hcl]; exact hC) w'
  have HWC := Lib.hid fun w' => refwidth_any D.cl (by rw [hcl]; exact hC) w'
  have HCL := Lib.hid hcl
  have wl := widthC_le D.cl 256 (by rw [hcl]; exact hC)
  have HRV : Hid (∀ p, rightB D.cl = p → rightB M.cl = p) := Lib.hid fun p hp => by rw [← hcl]; exact hp
  have HWV : Hid (∀ p, widthC D.cl 256 = p → widthC M.cl 256 = p) := Lib.hid fun p hp => by rw [← hcl]; exact hp
  obtain ⟨rb, hrb⟩ : ∃ p, rightB D.cl = p := ⟨_, rfl⟩
  obtain ⟨wc, hwc⟩ : ∃ p, widthC D.cl 256 = p := ⟨_, rfl⟩
  rw [hrb] at HRB
  rw [hwc] at HWC wl
  have HRE := Lib.hid (HRV.out _ hrb)
  have HWE := Lib.hid (HWV.out _ hwc)
  clear hr hln h hrb hwc hcl hW1 hb1 hs1 hd1 hC HRV HWV
  cases rb with
  | false =>
    have HE : Hid (r = false) := Lib.hid (by rw [← HR.out]; exact rightM_no (.inr (.inr (.inl HRE.out))))
    go_enter Try.func19, Try.ntmps19
    go_wp2
    rw [← HW1.out]
    refine wp_region_quiet_below (by kernel_rfl) (by kernel_rfl) ?_
    repeat (go_big_quiet_step (first | (with_reducible exact regrown_call HRB.out _ _) | (with_reducible exact regrown_call HWC.out _ _)))
    refine wpQuiet_nil ?_
    intro _ hw'
    obtain ⟨⟨dq, osq⟩, hw''⟩ := hw'
    subst hw''
    go_wp2
    go_ret
    exact ⟨ret_bool HE.out.symm, by first | exact HB1.out.trans ((below_regrown W1 dq osq).mono (by have := HB1.out.size; have := HG.out; omega)) | (rw [HG.out]; exact HB1.out.trans ((below_regrown W1 dq osq).mono (by have := HB1.out.size; have := HG.out; omega)))⟩
  | true =>
    by_cases h2 : (wc : Int) = D.wd
    case neg =>
      have HE : Hid (r = false) := Lib.hid (by rw [← HR.out]; exact rightM_no (.inr (.inr (.inr (by rw [HWE.out, ← HWD.out]; exact h2)))))
      have e2 : (D.wd != (wc : Int)) = true := by rw [bne_iff_ne]; exact fun h => h2 h.symm
      clear h2
      go_enter Try.func19, Try.ntmps19
      go_wp2
      rw [← HW1.out]
      refine wp_region_quiet_below (by kernel_rfl) (by kernel_rfl) ?_
      repeat (go_big_quiet_step (first | (with_reducible exact regrown_call HRB.out _ _) | (with_reducible exact regrown_call HWC.out _ _)))
      refine wpQuiet_nil ?_
      intro _ hw'
      obtain ⟨⟨dq, osq⟩, hw''⟩ := hw'
      subst hw''
      go_wp2
      go_ret
      exact ⟨ret_bool HE.out.symm, by first | exact HB1.out.trans ((below_regrown W1 dq osq).mono (by have := HB1.out.size; have := HG.out; omega)) | (rw [HG.out]; exact HB1.out.trans ((below_regrown W1 dq osq).mono (by have := HB1.out.size; have := HG.out; omega)))⟩
    have H2 := Lib.hid h2
    have e2 : (D.wd != (wc : Int)) = false := by rw [h2]; simp
    clear h2
    by_cases h0 : D.nl = 0
    · have HE : Hid (r = false) := Lib.hid (by rw [← HR.out]; exact rightM_no (.inl (by rw [HLN.out]; exact h0)))
      have e0 : ((D.nl : Int) == 0) = true := by rw [h0]; rfl
      clear h0
      go_enter Try.func19, Try.ntmps19
      go_wp2
      rw [← HW1.out]
      refine wp_region_quiet_below (by kernel_rfl) (by kernel_rfl) ?_
      repeat (go_big_quiet_step (first | (with_reducible exact regrown_call HRB.out _ _) | (with_reducible exact regrown_call HWC.out _ _)))
      refine wpQuiet_nil ?_
      intro _ hw'
      obtain ⟨⟨dq, osq⟩, hw''⟩ := hw'
      subst hw''
      go_wp2
      go_ret
      exact ⟨ret_bool HE.out.symm, by first | exact HB1.out.trans ((below_regrown W1 dq osq).mono (by have := HB1.out.size; have := HG.out; omega)) | (rw [HG.out]; exact HB1.out.trans ((below_regrown W1 dq osq).mono (by have := HB1.out.size; have := HG.out; omega)))⟩
    have e0 : ((D.nl : Int) == 0) = false := by simp; omega
    have HPOS : Hid (0 < D.nl) := Lib.hid (by omega)
    by_cases h1 : D.ll = D.nl
    case neg =>
      have HE : Hid (r = false) := Lib.hid (by rw [← HR.out]; exact rightM_no (.inr (.inl (by rw [HLN.out, HLL.out]; exact h1))))
      have e1 : ((D.ll : Int) != (D.nl : Int)) = true := by rw [bne_iff_ne]; omega
      clear h0 h1
      go_enter Try.func19, Try.ntmps19
      go_wp2
      rw [← HW1.out]
      refine wp_region_quiet_below (by kernel_rfl) (by kernel_rfl) ?_
      repeat (go_big_quiet_step (first | (with_reducible exact regrown_call HRB.out _ _) | (with_reducible exact regrown_call HWC.out _ _)))
      refine wpQuiet_nil ?_
      intro _ hw'
      obtain ⟨⟨dq, osq⟩, hw''⟩ := hw'
      subst hw''
      go_wp2
      go_ret
      exact ⟨ret_bool HE.out.symm, by first | exact HB1.out.trans ((below_regrown W1 dq osq).mono (by have := HB1.out.size; have := HG.out; omega)) | (rw [HG.out]; exact HB1.out.trans ((below_regrown W1 dq osq).mono (by have := HB1.out.size; have := HG.out; omega)))⟩
    have e1 : ((D.ll : Int) != (D.nl : Int)) = false := by rw [h1]; simp
    have HL1 := Lib.hid h1
    have HE : Hid (r = (List.range M.nx.length).all (rowGood M)) := Lib.hid (by rw [← HR.out]; exact rightM_yes (by rw [HLN.out]; omega) (by rw [HLN.out, HLL.out]; exact HL1.out) HRE.out (by rw [HWE.out, ← HWD.out]; exact H2.out))
    clear h0 h1
    go_enter Try.func19, Try.ntmps19
    go_wp2
    rw [← HW1.out]
    refine wp_region_quiet_below (by kernel_rfl) (by kernel_rfl) ?_
    repeat (go_big_quiet_step (first | (with_reducible exact regrown_call HRB.out _ _) | (with_reducible exact regrown_call HWC.out _ _)))
    refine wpQuiet_nil ?_
    intro _ hw'
    obtain ⟨⟨dq, osq⟩, hw''⟩ := hw'
    subst hw''
    obtain ⟨W2, hW2⟩ : ∃ W, W = grow (redrawn W1 dq) osq := ⟨_, rfl⟩
    have hb2 : Below W1.heap.size W1 W2 := by rw [hW2]; exact below_regrown W1 dq osq
    rw [← hW2]
    have HBW : Hid (Below g w W2) := Lib.hid (HB1.out.trans (hb2.mono (by have := HS1.out; omega)))
    have hs2 : g + 1 ≤ W2.heap.size := by have := hb2.size; have := HS1.out; omega
    have HD2 : Hid (DfaAt W2 g D) := Lib.hid (HD1.out.below hb2 HD1.out.lt)
    have HM2 := Lib.hid (HM.out.below (by rw [HG.out]; exact HBW.out))
    clear hW2 hb2 k256 k257 k258 kL c256 c257 c258 e0 e1 e2
    go_wp2
    go_loopw [3] (fun i wr => ∃ k m : Nat, k ≤ D.nl ∧ i = .int .i64 (k : Int) ∧ wr = W2.drewN m ∧ ∀ j, j < k → rowGood M j = true) (fun i _ => D.nl - (intOf i).toNat)
    case atStart => exact ⟨0, 0, by omega, rfl, rfl, by omega⟩
    case round =>
      obtain ⟨k, m, hk, rfl, hwr, hall⟩ := hrel
      have HA := Lib.hid hall
      have HWR := Lib.hid hwr
      have hbm : Below W2.heap.size W2 wr := by rw [hwr]; exact below_drewN W2 m
      have hdw := HD2.out.below hbm HD2.out.lt
      have f256 := hdw.wd
      have f257 := hdw.nx
      have f258 := hdw.lb
      have HMW := Lib.hid (HM2.out.below hbm)
      have HBWR : Hid (Below g w wr) := Lib.hid (HBW.out.trans (hbm.mono (by omega)))
      have hgl : g + 1 ≤ wr.heap.size := by have := hbm.size; omega
      clear hall hwr hbm hdw
      by_cases hlt : k < D.nl
      case neg =>
        have hk2 : k = D.nl := by omega
        have HF : Hid (r = true) := Lib.hid (by
          rw [HE.out, List.all_eq_true]
          intro j hj
          exact HA.out j (by rw [List.mem_range, HLN.out] at hj; omega))
        have z1 : ¬ (k : Int) < (D.nl : Int) := by omega
        clear hk2
        go_wp2
        go_ret
        exact ⟨ret_bool HF.out.symm, by first | exact HBWR.out | (rw [HG.out]; exact HBWR.out)⟩
      case pos =>
        have z0 : (0 : Int) ≤ (k : Int) := by omega
        have z1 : (k : Int) < (D.nl : Int) := by omega
        have z2 : (k : Int) < (D.ll : Int) := by have := HL1.out; omega
        obtain ⟨b3, off3, l3, ha3, hbl3, hl3, A3, cc3, d3, hr3⟩ := HMW.out.nx.at_ hlt
        obtain ⟨b1, off1, z, ha1, hbl1, hz, d1⟩ := HMW.out.lb.int (k := k) (by have := HL1.out; omega)
        have HA3 := Lib.hid ha3
        rw [ha3] at f257
        rw [ha1] at f258
        have HR3 := Lib.hid hr3
        have hll3 := hr3.2.1
        have HROW : Hid (rowGood M k = ((decide ((l3.length : Int) = D.wd) && l3.all (stOk D.nl)) && decide (-1 ≤ z))) := Lib.hid (by unfold rowGood; rw [hl3, hz, HLN.out, HWD.out])
        have HBAD : Hid (rowGood M k = false → r = false) := Lib.hid fun h => by rw [← HR.out]; exact rightM_at (by rw [HLN.out]; exact hlt) h
        clear hr3 hl3 hz ha1 ha3
        by_cases hw3 : (l3.length : Int) = D.wd
        case neg =>
          have HF : Hid (r = false) := Lib.hid (HBAD.out (by rw [HROW.out, decide_eq_false hw3]; rfl))
          have y1 : ((l3.length : Int) != D.wd) = true := by rw [bne_iff_ne]; exact hw3
          clear hw3
          go_wp2
          go_quiet (fail)
          go_wp2
          go_ret
          exact ⟨ret_bool HF.out.symm, by first | exact HBWR.out.trans ((below_drewN wr nq).mono (by omega)) | (rw [HG.out]; exact HBWR.out.trans ((below_drewN wr nq).mono (by omega)))⟩
        case pos =>
          have y1 : ((l3.length : Int) != D.wd) = false := by rw [hw3]; simp
          have HW3 := Lib.hid hw3
          clear hw3
          by_cases hz1 : z < -1
          case pos =>
            have HF : Hid (r = false) := Lib.hid (HBAD.out (by rw [HROW.out, decide_eq_false (by omega : ¬ -1 ≤ z)]; simp))
            go_wp2
            go_quiet (fail)
            go_wp2
            go_ret
            exact ⟨ret_bool HF.out.symm, by first | exact HBWR.out.trans ((below_drewN wr nq).mono (by omega)) | (rw [HG.out]; exact HBWR.out.trans ((below_drewN wr nq).mono (by omega)))⟩
          case neg =>
            have y3 : decide (z < -1) = false := decide_eq_false hz1
            have hw4 : D.wd = (l3.length : Int) := HW3.out.symm
            have HW4 := Lib.hid hw4
            clear hw4
            go_wp2
            go_quiet (fail)
            go_wp2
            obtain ⟨wo, hwo⟩ : ∃ x, x = wr.drewN nq := ⟨_, rfl⟩
            rw [← hwo]
            have hbm : Below wr.heap.size wr wo := by rw [hwo]; exact below_drewN wr nq
            have HWO : Hid (wo = W2.drewN (m + nq)) := Lib.hid (by rw [hwo, HWR.out]; simp [World.drewN, Nat.add_assoc])
            have HBWO : Hid (Below g w wo) := Lib.hid (HBWR.out.trans (hbm.mono (by omega)))
            have hglo : g + 1 ≤ wo.heap.size := by have := hbm.size; omega
            have p256 := (hbm.cell (p := ⟨g, 256, none⟩) (by show g < _; omega)).trans f256
            have p257 := (hbm.cell (p := ⟨g, 257, none⟩) (by show g < _; omega)).trans f257
            have p3 := (hbm.cell (p := ⟨b3, off3 + k, none⟩) hbl3).trans d3
            have HR3O := Lib.hid (HR3.out.below hbm)
            have P256 := Lib.hid p256
            have P257 := Lib.hid p257
            have P3 := Lib.hid p3
            have hbl3o : b3 < wo.heap.size := by have := hbm.size; omega
            clear hwo hbm f256 f257 f258 d3 d1 p3 p256 p257 hbl3 hbl1
            go_loopw [4] (fun i wr => ∃ j q : Nat, j ≤ l3.length ∧ i = .int .i64 (j : Int) ∧ wr = wo.drewN q ∧ (l3.take j).all (stOk D.nl) = true) (fun i _ => l3.length - (intOf i).toNat)
            case atStart => exact ⟨0, 0, by omega, rfl, rfl, rfl⟩
            case round =>
              obtain ⟨j, q, hj, rfl, hwr, hall⟩ := hrel
              have HAL := Lib.hid hall
              have HWQ := Lib.hid hwr
              have hbq : Below wo.heap.size wo wr := by rw [hwr]; exact below_drewN wo q
              have f256 := (hbq.cell (p := ⟨g, 256, none⟩) (by show g < _; omega)).trans P256.out
              have f257 := (hbq.cell (p := ⟨g, 257, none⟩) (by show g < _; omega)).trans P257.out
              have d3 := (hbq.cell (p := ⟨b3, off3 + k, none⟩) hbl3o).trans P3.out
              have HRQ := Lib.hid (HR3O.out.below hbq)
              have HBQ : Hid (Below g w wr) := Lib.hid (HBWO.out.trans (hbq.mono (by omega)))
              have hglq : g + 1 ≤ wr.heap.size := by have := hbq.size; omega
              clear hall hwr hbq
              by_cases hlt2 : j < l3.length
              case neg =>
                have HNX : Hid (∀ i, i < k + 1 → rowGood M i = true) := Lib.hid fun i hi => by
                  rcases Nat.lt_or_ge i k with h7 | h7
                  · exact HA.out i h7
                  · have : i = k := by omega
                    subst this
                    have h8 := HAL.out
                    rw [List.take_of_length_le (by omega)] at h8
                    rw [HROW.out, decide_eq_true HW3.out, h8, decide_eq_true (by omega : -1 ≤ z)]; rfl
                have z3 : ¬ (j : Int) < D.wd := by have := HW4.out; omega
                clear hlt2
                go_wp2
                go_roundw
                case rel => exact ⟨k + 1, m + nq + q, by omega, by go_num, by rw [HWQ.out, HWO.out]; simp [World.drewN, Nat.add_assoc], HNX.out⟩
                case measure => simp [intOf]; omega
              case pos =>
                have z3 : (j : Int) < D.wd := by have := HW4.out; omega
                have z5 : (j : Int) < (l3.length : Int) := by omega
                have z4 : (0 : Int) ≤ (j : Int) := by omega
                obtain ⟨b4, off4, y, rfl, hbl4, hy, dy⟩ := HRQ.out.int hlt2
                have HY := Lib.hid hy
                have HTK : Hid ((l3.take (j + 1)).all (stOk D.nl) = stOk D.nl y) := Lib.hid (by rw [take_snoc hy, List.all_append, HAL.out]; simp)
                clear hy
                by_cases hy1 : y < -1
                · have HF : Hid (r = false) := Lib.hid (HBAD.out (by
                    have : l3.all (stOk D.nl) = false := by
                      rw [Bool.eq_false_iff]; intro h
                      have := List.all_eq_true.1 h y (List.mem_of_getElem? HY.out)
                      unfold stOk at this
                      simp only [Bool.and_eq_true, decide_eq_true_eq] at this
                      omega
                    rw [HROW.out, this]; simp))
                  go_wp2
                  go_quiet (fail)
                  go_wp2
                  go_ret
                  exact ⟨ret_bool HF.out.symm, by first | exact HBQ.out.trans ((below_drewN wr _).mono (by omega)) | (rw [HG.out]; exact HBQ.out.trans ((below_drewN wr _).mono (by omega)))⟩
                · have y2 : decide (y < -1) = false := decide_eq_false hy1
                  by_cases hy2 : (D.nl : Int) ≤ y
                  · have y4 : decide ((D.nl : Int) ≤ y) = true := decide_eq_true hy2
                    have HF : Hid (r = false) := Lib.hid (HBAD.out (by
                      have : l3.all (stOk D.nl) = false := by
                        rw [Bool.eq_false_iff]; intro h
                        have := List.all_eq_true.1 h y (List.mem_of_getElem? HY.out)
                        unfold stOk at this
                        simp only [Bool.and_eq_true, decide_eq_true_eq] at this
                        omega
                      rw [HROW.out, this]; simp))
                    go_wp2
                    go_quiet (fail)
                    go_wp2
                    go_ret
                    exact ⟨ret_bool HF.out.symm, by first | exact HBQ.out.trans ((below_drewN wr _).mono (by omega)) | (rw [HG.out]; exact HBQ.out.trans ((below_drewN wr _).mono (by omega)))⟩
                  · have y4 : decide ((D.nl : Int) ≤ y) = false := decide_eq_false hy2
                    have HNJ : Hid ((l3.take (j + 1)).all (stOk D.nl) = true) := Lib.hid (by
                      rw [HTK.out]; unfold stOk
                      simp only [Bool.and_eq_true, decide_eq_true_eq]; omega)
                    have HQN : Hid (∀ n, wr.drewN n = wo.drewN (q + n)) := Lib.hid fun n => by rw [HWQ.out]; simp [World.drewN, Nat.add_assoc]
                    go_wp2
                    go_quiet (fail)
                    go_wp2
                    go_roundw
                    case rel => exact ⟨j + 1, _, by omega, by go_num, HQN.out _, HNJ.out⟩
                    case measure => simp [intOf]; omega
end Go.Proofs.Ytmkgipoljbiocaa
/- Where a machine goes, and its labels: the document's. -/
namespace Go.Proofs.Ytmkgipoljbiocaa
open Go.RowKit Go.Sort Go.PlainAid
set_option linter.unusedVariables false

/-- The state that follows by a byte. -/
def goM (M : MS) (z : Int) (b : Nat) : Int := if 0 ≤ z then ((M.nx[z.toNat]?).bind fun r => r[M.cl b]?).getD (-1) else z
def goL (M : MS) (z : Int) (l : List UInt8) : Int := l.foldl (fun z c => goM M z c.toNat) z
def runM (M : MS) (l : List UInt8) : Int := if rightM M = true then goL M 0 l else -1
def labM (M : MS) (z : Int) : Int := if rightM M = true ∧ 0 ≤ z then (M.lb[z.toNat]?).getD (-1) else -1
theorem widthC_lt (C : Nat → Nat) : ∀ n i, i < n → C i < widthC C n
  | 0, i, h => by omega
  | n + 1, i, h => by
    simp only [widthC]
    rcases Nat.lt_or_ge i n with h1 | h1
    · have := widthC_lt C n i h1; omega
    · have : i = n := by omega
      subst this; omega
/-- What a machine that is right has. -/
theorem right_row {M : MS} (h : rightM M = true) {i : Nat} (hi : i < M.nx.length) {b : Nat} (hb : b < 256) : ∃ r y, M.nx[i]? = some r ∧ (r.length : Int) = M.wd ∧ r[M.cl b]? = some y ∧ -1 ≤ y ∧ y < (M.nx.length : Int) := by
  have hg := rightM_row h hi
  obtain ⟨_, _, _, hw⟩ := rightM_parts h
  unfold rowGood at hg
  rw [List.getElem?_eq_getElem hi] at hg ⊢
  simp only [Bool.and_eq_true, decide_eq_true_eq] at hg
  have hlt := widthC_lt M.cl 256 b hb
  have hc : M.cl b < (M.nx[i]).length := by omega
  refine ⟨_, (M.nx[i])[M.cl b], rfl, hg.1.1, List.getElem?_eq_getElem hc, ?_⟩
  have := List.all_eq_true.1 hg.1.2 _ (List.getElem_mem hc)
  unfold stOk at this
  simp only [Bool.and_eq_true, decide_eq_true_eq] at this
  exact this
theorem goM_at {M : MS} {i : Nat} {r : List Int} {b : Nat} {y : Int} (h1 : M.nx[i]? = some r) (h2 : r[M.cl b]? = some y) : goM M (i : Int) b = y := by
  unfold goM; rw [if_pos (by omega), Int.toNat_natCast, h1]; simp [h2]
theorem goM_neg {M : MS} {z : Int} {b : Nat} (h : z < 0) : goM M z b = z := by unfold goM; rw [if_neg (by omega)]
theorem goL_neg {M : MS} {z : Int} (h : z < 0) : ∀ l, goL M z l = z := by
  intro l
  induction l with
  | nil => rfl
  | cons c l ih => show goL M (goM M z c.toNat) l = z; rw [goM_neg h]; exact ih
theorem goL_snoc (M : MS) (z : Int) (l : List UInt8) (c : UInt8) : goL M z (l ++ [c]) = goM M (goL M z l) c.toNat := by simp [goL]
theorem goL_app (M : MS) (z : Int) (l m : List UInt8) : goL M z (l ++ m) = goL M (goL M z l) m := by simp [goL]
theorem goM_range {M : MS} (h : rightM M = true) {z : Int} (hz : -1 ≤ z ∧ z < (M.nx.length : Int)) {b : Nat} (hb : b < 256) : -1 ≤ goM M z b ∧ goM M z b < (M.nx.length : Int) := by
  by_cases h0 : z < 0
  · rw [goM_neg h0]; exact hz
  · obtain ⟨i, rfl⟩ : ∃ i : Nat, z = (i : Int) := ⟨z.toNat, by omega⟩
    obtain ⟨r, y, h1, _, h2, h3⟩ := right_row h (i := i) (by omega) hb
    rw [goM_at h1 h2]; exact h3
theorem goL_range' {M : MS} (h : rightM M = true) : ∀ (l : List UInt8) (z : Int), (-1 ≤ z ∧ z < (M.nx.length : Int)) → -1 ≤ goL M z l ∧ goL M z l < (M.nx.length : Int)
  | [], z, hz => hz
  | c :: l, z, hz => goL_range' h l (goM M z c.toNat) (goM_range h hz c.toNat_lt)
theorem goL_range {M : MS} (h : rightM M = true) (l : List UInt8) : -1 ≤ goL M 0 l ∧ goL M 0 l < (M.nx.length : Int) :=
  goL_range' h l 0 (by have := (rightM_parts h).1; omega)
def LS (s : ByteArray) : List UInt8 := s.data.toList
theorem LS_len (s : ByteArray) : (LS s).length = s.size := Array.length_toList
theorem LS_at (s : ByteArray) (k : Nat) (h : k < s.size) : (LS s)[k]? = some (s[k]'h) := by
  show s.data.toList[k]? = _
  rw [Array.getElem?_toList, Array.getElem?_eq_getElem h]; rfl
theorem LS_ext (s : ByteArray) (i j : Nat) : LS (s.extract i j) = ((LS s).drop i).take (j - i) := by
  show (s.extract i j).data.toList = _
  rw [ByteArray.data_extract, Array.toList_extract, List.extract_eq_take_drop]; rfl
/-- The boxed machine: what a call that is handed one begins with. -/
theorem box_dfa {w : World} {g : Nat} (hg : w.heap.size = g) (D : Df) : ∃ W, W = w.alloc (.cells (dfA D) 32) ∧ W.heap.size = g + 1 ∧ Below g w W ∧ DfaAt W g D := by
  refine ⟨_, rfl, by simp [hg], ?_, DfaAt.new w D g hg⟩
  rw [← hg]; exact (Below.refl _ _).alloc (Nat.le_refl _) _
attribute [local go_sem ↓] loadA_eq storeA_eq loadD_eq
set_option maxHeartbeats 4000000 in
set_option maxRecDepth 100000 in
theorem rlabel_any (w : World) (D : Df) (M : MS) (z : Int) (h : MAt w D M) (hC : ∀ i, i < 256 → M.cl i < 256) :
    Calls Try.prog 23 #[.agg (dfA D), .int .i64 z] w fun e w' => e = .returned (.int .i64 (labM M z)) ∧ Below w.heap.size w w' := by
  obtain ⟨r, hr⟩ : ∃ r, labM M z = r := ⟨_, rfl⟩
  have HR := Lib.hid hr
  have HLL := Lib.hid h.lb.1
  have HLN := Lib.hid h.nx.len.1
  have hlm := h.lb.2.1
  have HM := Lib.hid h
  rw [hr]
  obtain ⟨g, hg⟩ : ∃ g, w.heap.size = g := ⟨_, rfl⟩
  have HG := Lib.hid hg
  obtain ⟨W1, hW1, hs1, hb1, hd1⟩ := box_dfa hg D
  have HRM := Lib.hid (rdright_any W1 D M (h.below (by rw [hg]; exact hb1)) hC)
  obtain ⟨q, hq⟩ : ∃ q, rightM M = q := ⟨_, rfl⟩
  rw [hq] at HRM
  have HQ := Lib.hid hq
  have HW1 := Lib.hid hW1
  have HB1 := Lib.hid hb1
  have HS1 := Lib.hid hs1
  have HD1 := Lib.hid hd1
  have hld := run_loadD W1 g D hd1
  rw [hW1] at hld
  clear hr h hW1 hs1 hb1 hd1 hq hC
  go_enter Try.func23, Try.ntmps23
  go_wp2_with fail
  rw [← HW1.out]
  refine HRM.out.mono ?_
  rintro e w2 ⟨rfl, hb2⟩
  have HB2 : Hid (Below g w w2) := Lib.hid (HB1.out.trans (hb2.mono (by have := HS1.out; omega)))
  have hd2 := HD1.out.below hb2 HD1.out.lt
  have c258 := hd2.lb
  clear hb2 hd2 hld
  cases q with
  | false =>
    have HE : Hid (r = -1) := Lib.hid (by rw [← HR.out]; unfold labM; rw [HQ.out]; simp)
    go_wp2
    go_ret
    exact ⟨ret_int HE.out.symm, by first | exact HB2.out | (rw [HG.out]; exact HB2.out)⟩
  | true =>
    by_cases hz : z < 0
    · have HE : Hid (r = -1) := Lib.hid (by rw [← HR.out]; unfold labM; rw [if_neg (by omega)])
      go_wp2
      go_ret
      exact ⟨ret_int HE.out.symm, by first | exact HB2.out | (rw [HG.out]; exact HB2.out)⟩
    · by_cases hz2 : (D.ll : Int) ≤ z
      · have HE : Hid (r = -1) := Lib.hid (by rw [← HR.out]; unfold labM; rw [if_pos ⟨HQ.out, by omega⟩, List.getElem?_eq_none (by rw [HLL.out]; omega)]; rfl)
        go_wp2
        go_ret
        exact ⟨ret_int HE.out.symm, by first | exact HB2.out | (rw [HG.out]; exact HB2.out)⟩
      · obtain ⟨k, rfl⟩ : ∃ k : Nat, z = (k : Int) := ⟨z.toNat, by omega⟩
        obtain ⟨b1, off1, y, ha1, hbl1, hy, d1⟩ := (HM.out.lb.below (w' := w2) (by rw [HG.out]; exact HB2.out)).int (k := k) (by omega)
        have HE : Hid (r = y) := Lib.hid (by rw [← HR.out]; unfold labM; rw [if_pos ⟨HQ.out, by omega⟩, Int.toNat_natCast, hy]; rfl)
        rw [ha1] at c258
        have z1 : (k : Int) < (D.ll : Int) := by omega
        clear hy ha1
        go_wp2
        go_ret
        exact ⟨ret_int HE.out.symm, by first | exact HB2.out | (rw [HG.out]; exact HB2.out)⟩
set_option maxHeartbeats 4000000 in
set_option maxRecDepth 100000 in
theorem rrun_any (w : World) (D : Df) (M : MS) (s : ByteArray) (h : MAt w D M) (hC : ∀ i, i < 256 → M.cl i < 256) (hs : s.size ≤ 100000) :
    Calls Try.prog 22 #[.agg (dfA D), .string s] w fun e w' => e = .returned (.int .i64 (runM M (LS s))) ∧ Below w.heap.size w w' := by
  obtain ⟨r, hr⟩ : ∃ r, runM M (LS s) = r := ⟨_, rfl⟩
  have HR := Lib.hid hr
  have HSL := Lib.hid (LS_len s)
  have HLN := Lib.hid h.nx.len.1
  have hnm := h.nx.len.2
  have HM := Lib.hid h
  have HCL := Lib.hid h.cl
  have HCC := Lib.hid hC
  rw [hr]
  obtain ⟨g, hg⟩ : ∃ g, w.heap.size = g := ⟨_, rfl⟩
  have HG := Lib.hid hg
  obtain ⟨W1, hW1, hs1, hb1, hd1⟩ := box_dfa hg D
  have HRM := Lib.hid (rdright_any W1 D M (h.below (by rw [hg]; exact hb1)) hC)
  obtain ⟨q, hq⟩ : ∃ q, rightM M = q := ⟨_, rfl⟩
  rw [hq] at HRM
  have HQ := Lib.hid hq
  have HW1 := Lib.hid hW1
  have HB1 := Lib.hid hb1
  have HS1 := Lib.hid hs1
  have HD1 := Lib.hid hd1
  have hld := run_loadD W1 g D hd1
  rw [hW1] at hld
  clear hr h hW1 hs1 hb1 hd1 hq hC
  go_enter Try.func22, Try.ntmps22
  go_wp2_with fail
  rw [← HW1.out]
  refine HRM.out.mono ?_
  rintro e w2 ⟨rfl, hb2⟩
  have HB2 : Hid (Below g w w2) := Lib.hid (HB1.out.trans (hb2.mono (by have := HS1.out; omega)))
  have HD2 := Lib.hid (HD1.out.below hb2 HD1.out.lt)
  have hs2 : g + 1 ≤ w2.heap.size := by have := hb2.size; have := HS1.out; omega
  clear hb2 hld
  cases q with
  | false =>
    have HE : Hid (r = -1) := Lib.hid (by rw [← HR.out]; unfold runM; rw [HQ.out]; rfl)
    go_wp2
    go_ret
    exact ⟨ret_int HE.out.symm, by first | exact HB2.out | (rw [HG.out]; exact HB2.out)⟩
  | true =>
    have HE : Hid (r = goL M 0 (LS s)) := Lib.hid (by rw [← HR.out]; unfold runM; rw [HQ.out]; rfl)
    go_wp2
    go_loopw [5, 6] (fun u i wr => ∃ k m : Nat, k ≤ s.size ∧ i = .int .i64 (k : Int) ∧ u = .int .i64 (goL M 0 ((LS s).take k)) ∧ wr = w2.drewN m) (fun _ i _ => s.size - (intOf i).toNat)
    case atStart => exact ⟨0, 0, by omega, rfl, rfl, rfl⟩
    case round =>
      obtain ⟨k, m, hk, rfl, rfl, hwr⟩ := hrel
      have HWR := Lib.hid hwr
      have hbm : Below w2.heap.size w2 wr := by rw [hwr]; exact below_drewN w2 m
      have hdw := HD2.out.below hbm HD2.out.lt
      have HDW := Lib.hid hdw
      have f257 := hdw.nx
      have HBWR : Hid (Below g w wr) := Lib.hid (HB2.out.trans (hbm.mono (by omega)))
      have hgl : g + 1 ≤ wr.heap.size := by have := hbm.size; omega
      have HMW := Lib.hid (HM.out.below (w' := wr) (by rw [HG.out]; exact HBWR.out))
      have hrg := goL_range HQ.out ((LS s).take k)
      rw [HLN.out] at hrg
      clear hwr hbm hdw
      by_cases hlt : k < s.size
      case neg =>
        have hk2 : k = s.size := by omega
        have HF : Hid (goL M 0 ((LS s).take k) = r) := Lib.hid (by rw [HE.out, List.take_of_length_le (by rw [HSL.out]; omega)])
        rw [HF.out] at hrg ⊢
        have z1 : decide (k < s.size) = false := decide_eq_false hlt
        clear hk2
        go_wp2
        go_ret
        exact ⟨rfl, by first | exact HBWR.out | (rw [HG.out]; exact HBWR.out)⟩
      case pos =>
        have z0 : (0 : Int) ≤ (k : Int) := by omega
        have z1 : (k : Int) < (s.size : Int) := by omega
        have z2 : decide (k < s.size) = true := decide_eq_true hlt
        have HTK : Hid (goL M 0 ((LS s).take (k + 1)) = goM M (goL M 0 ((LS s).take k)) (s[k]'hlt).toNat) := Lib.hid (by rw [take_snoc (LS_at s k hlt), goL_snoc])
        obtain ⟨z, hz⟩ : ∃ z, goL M 0 ((LS s).take k) = z := ⟨_, rfl⟩
        rw [hz] at hrg HTK ⊢
        by_cases hz0 : z < 0
        · have HF : Hid (z = r) := Lib.hid (by
            rw [HE.out, ← hz]
            have h1 := goL_app M 0 ((LS s).take k) ((LS s).drop k)
            rw [List.take_append_drop, hz, goL_neg hz0] at h1
            rw [h1, hz])
          have z3 : ¬ 0 ≤ z := by omega
          clear hz
          go_wp2
          go_ret
          exact ⟨ret_int HF.out, by first | exact HBWR.out | (rw [HG.out]; exact HBWR.out)⟩
        · obtain ⟨i, rfl⟩ : ∃ i : Nat, z = (i : Int) := ⟨z.toNat, by omega⟩
          have hb256 : (s[k]'hlt).toNat < 256 := (s[k]'hlt).toNat_lt
          obtain ⟨b, hb⟩ : ∃ b : Nat, (s[k]'hlt).toNat = b := ⟨_, rfl⟩
          have hbI : ((s[k]'hlt).toNat : Int) = (b : Int) := by rw [hb]
          rw [hb] at HTK hb256
          obtain ⟨row, y, h1, h2, h3, h4, h5⟩ := right_row HQ.out (i := i) (by rw [HLN.out]; omega) hb256
          have HNE : Hid (goL M 0 ((LS s).take (k + 1)) = y) := Lib.hid (by rw [HTK.out]; exact goM_at h1 h3)
          obtain ⟨b3, off3, l3, ha3, hbl3, hl3, A3, cc3, d3, hr3⟩ := HMW.out.nx.at_ (i := i) (by omega)
          rw [h1] at hl3
          obtain rfl := Option.some.inj hl3
          have hcb : M.cl b < row.length := (List.getElem?_eq_some_iff.1 h3).1
          obtain ⟨b4, off4, y', rfl, hbl4, hy, dy⟩ := hr3.int hcb
          rw [h3] at hy
          obtain rfl := Option.some.inj hy
          have c0 := HDW.out.cl b hb256
          rw [HCL.out] at c0
          have hc2 := HCC.out b hb256
          rw [ha3] at f257
          obtain ⟨cb, hcbE⟩ : ∃ c, M.cl b = c := ⟨_, rfl⟩
          rw [hcbE] at c0 dy hcb hc2
          have y1 : (i : Int) < (D.nl : Int) := by omega
          have y2 : (0 : Int) ≤ (i : Int) := by omega
          have y3 : (cb : Int) < (row.length : Int) := by omega
          have y4 : (0 : Int) ≤ (cb : Int) := by omega
          have y5 : (b : Int) < 256 := by omega
          have y6 : (0 : Int) ≤ (b : Int) := by omega
          have y7 : decide ((0 : Int) ≤ (i : Int)) = true := decide_eq_true y2
          have HWN : Hid (∀ n, wr.drewN n = w2.drewN (m + n)) := Lib.hid fun n => by rw [HWR.out]; simp [World.drewN, Nat.add_assoc]
          clear h1 h2 h3 ha3 hcbE hz hr3 hl3 hy hb
          go_wp2
          go_quiet (fail)
          go_wp2
          go_roundw
          case rel => exact ⟨k + 1, _, by omega, by go_num, by rw [HNE.out], HWN.out _⟩
          case measure => simp [intOf]; omega
end Go.Proofs.Ytmkgipoljbiocaa
/- The reader's small functions. -/
namespace Go.Proofs.Ytmkgipoljbiocaa
open Go.RowKit Go.PlainAid
set_option linter.unusedVariables false

/-- Is a byte one of a text's? -/
def inB (s : ByteArray) (c : Nat) : Bool := (LS s).any fun x => x.toNat == c
theorem bt_LS (s : ByteArray) (k : Nat) (h : k < s.size) : ∃ x : UInt8, (LS s)[k]? = some x ∧ bt s k = (x.toNat : Int) :=
  ⟨_, LS_at s k h, (get_bt s k h).symm⟩
theorem inB_yes {s : ByteArray} {c k : Nat} (h : k < s.size) (e : bt s k = (c : Int)) : inB s c = true := by
  obtain ⟨x, h1, h2⟩ := bt_LS s k h
  unfold inB
  rw [List.any_eq_true]
  exact ⟨x, List.mem_of_getElem? h1, by rw [beq_iff_eq]; omega⟩
theorem inB_no {s : ByteArray} {c : Nat} (h : ∀ k, k < s.size → bt s k ≠ (c : Int)) : inB s c = false := by
  unfold inB
  rw [List.any_eq_false]
  intro x hx
  obtain ⟨k, hk⟩ := List.getElem?_of_mem hx
  have hlt : k < s.size := by rw [← LS_len]; exact (List.getElem?_eq_some_iff.1 hk).1
  obtain ⟨y, h1, h2⟩ := bt_LS s k hlt
  obtain rfl : x = y := Option.some.inj (hk.symm.trans h1)
  have := h k hlt
  simp only [beq_iff_eq]
  omega
theorem all_succ {P : Nat → Prop} {k : Nat} (h : ∀ j, j < k → P j) (hk : P k) : ∀ j, j < k + 1 → P j := fun j hj => by
  by_cases e : j = k
  · rw [e]; exact hk
  · exact h j (by omega)
theorem in_any (s : ByteArray) (c : Nat) (w : World) (hs : s.size ≤ 100000) :
    Calls Try.prog 82 #[.string s, .int .u8 (c : Int)] w fun e w' => e = .returned (.bool (inB s c)) ∧ w = w' := by
  have gb := get_bt s
  have hy := Lib.hid fun k h e => inB_yes (s := s) (c := c) (k := k) h e
  have hn := Lib.hid fun h => inB_no (s := s) (c := c) h
  go_enter Try.func82, Try.ntmps82
  go_wp2
  go_loop [5] (fun i => ∃ k : Nat, k ≤ s.size ∧ i = .int .i64 (k : Int) ∧ ∀ j, j < k → bt s j ≠ (c : Int)) (fun i => s.size - (intOf i).toNat)
  case atStart => exact ⟨0, by omega, rfl, fun j h => by omega⟩
  case round =>
    obtain ⟨k, hk, rfl, hno⟩ := hrel
    have HN := Lib.hid hno
    clear hno
    by_cases hlt : k < s.size
    · have h0 : (0 : Int) ≤ (k : Int) := by omega
      have h1 : (k : Int) < (s.size : Int) := by omega
      by_cases he : bt s k = (c : Int)
      · have t1 : (bt s k == (c : Int)) = true := by rw [beq_iff_eq]; exact he
        have HE := Lib.hid (hy.out k hlt he)
        clear he
        go_wp2
        go_ret
        exact ⟨ret_bool HE.out.symm, rfl⟩
      · have t1 : (bt s k == (c : Int)) = false := by rw [beq_eq_false_iff_ne]; exact he
        have HE := Lib.hid he
        clear he
        go_wp2
        go_round
        case rel => exact ⟨k + 1, by omega, by go_num, all_succ HN.out HE.out⟩
        case measure => simp [intOf]; omega
    · have HE := Lib.hid (hn.out fun j hj => HN.out j (by omega))
      have h1 : ¬ (k : Int) < (s.size : Int) := by omega
      go_wp2
      go_ret
      exact ⟨ret_bool HE.out.symm, rfl⟩
/-- May a byte be seen? -/
def seenB (c : Nat) : Bool := decide (33 ≤ c) && decide (c ≤ 126)
theorem seen_any (c : Nat) (w : World) :
    Calls Try.prog 100 #[.int .u8 (c : Int)] w fun e w' => e = .returned (.bool (seenB c)) ∧ w = w' := by
  by_cases h1 : (33 : Int) ≤ (c : Int)
  · by_cases h2 : (c : Int) ≤ 126
    · have HE : Hid (seenB c = true) := Lib.hid (by unfold seenB; rw [decide_eq_true (by omega : 33 ≤ c), decide_eq_true (by omega : c ≤ 126)]; rfl)
      go_enter Try.func100, Try.ntmps100
      go_wp2
      go_ret
      exact ⟨ret_bool HE.out.symm, rfl⟩
    · have HE : Hid (seenB c = false) := Lib.hid (by unfold seenB; rw [decide_eq_false (by omega : ¬ c ≤ 126), Bool.and_false])
      go_enter Try.func100, Try.ntmps100
      go_wp2
      go_ret
      exact ⟨ret_bool HE.out.symm, rfl⟩
  · have HE : Hid (seenB c = false) := Lib.hid (by unfold seenB; rw [decide_eq_false (by omega : ¬ 33 ≤ c), Bool.false_and])
    go_enter Try.func100, Try.ntmps100
    go_wp2
    go_ret
    exact ⟨ret_bool HE.out.symm, rfl⟩
/-- A char that stands for itself. -/
theorem char_any (s but : ByteArray) (k c : Nat) (w : World) (hs : s.size ≤ 100000) (hb : but.size ≤ 100000) (hk : k < s.size) (hc : bt s k = (c : Int)) (h92 : c ≠ 92) (h1 : seenB c = true) (h2 : inB but c = false) :
    Calls Try.prog 93 #[.string s, .int .i64 (k : Int), .string but] w fun e w' => e = .returned (.tuple #[.int .u8 (c : Int), .int .i64 ((k : Int) + 1), .bool true]) ∧ w = w' := by
  have gb := get_bt s
  have HSE := Lib.hid (seen_any c w)
  have HIN := Lib.hid (in_any but c w hb)
  rw [h1] at HSE
  rw [h2] at HIN
  have HC := Lib.hid hc
  have t1 : (bt s k == 92) = false := by rw [beq_eq_false_iff_ne, hc]; omega
  have z0 : (0 : Int) ≤ (k : Int) := by omega
  have z1 : (k : Int) < (s.size : Int) := by omega
  have z2 : ¬ (s.size : Int) ≤ (k : Int) := by omega
  clear h1 h2 hc
  go_enter Try.func93, Try.ntmps93
  go_wp2_with fail
  rw [HC.out]
  refine HSE.out.mono ?_
  rintro e w2 ⟨rfl, rfl⟩
  go_wp2_with fail
  rw [HC.out]
  refine HIN.out.mono ?_
  rintro e w3 ⟨rfl, rfl⟩
  go_wp2
  go_ret3
  rw [HC.out]
  exact ⟨rfl, rfl⟩
end Go.Proofs.Ytmkgipoljbiocaa
namespace Go.Proofs.Ytmkgipoljbiocaa
open Go.RowKit

def addS (S : Nat → Bool) (b : Nat) : Nat → Bool := fun x => S x || x == b
theorem or_bit (S : Nat → Bool) (b : Nat) : bits .or .u64 (wd S (b / 64) : Int) (IntKind.u64.wrap ((2 : Int) ^ (b % 64))) = (wd (addS S b) (b / 64) : Int) := by
  have hk : b % 64 < 64 := by omega
  have hlt : 2 ^ (b % 64) < 2 ^ 64 := Nat.pow_lt_pow_right (by omega) hk
  have h1 := wd_one b (b / 64)
  rw [if_pos rfl] at h1
  rw [wrap_pow _ hk, bits_or_u64 _ _ (wd_lt _ _) hlt, ← h1, wd_or]
  rfl
theorem or_far (S : Nat → Bool) (b i : Nat) (h : i ≠ b / 64) : wd (addS S b) i = wd S i := by
  refine wd_congr fun k hk => ?_
  have : ¬ 64 * i + k = b := by omega
  simp [addS, this]
theorem words_set (S T : Nat → Bool) (i : Nat) (h : i < 4) (hT : ∀ j, j ≠ i → wd T j = wd S j) :
    (#[Value.int .u64 (wd S 0), .int .u64 (wd S 1), .int .u64 (wd S 2), .int .u64 (wd S 3)] : Array Value).setIfInBounds i (.int .u64 (wd T i)) = #[.int .u64 (wd T 0), .int .u64 (wd T 1), .int .u64 (wd T 2), .int .u64 (wd T 3)] := by
  have : i = 0 ∨ i = 1 ∨ i = 2 ∨ i = 3 := by omega
  rcases this with rfl | rfl | rfl | rfl
  · rw [hT 1 (by omega), hT 2 (by omega), hT 3 (by omega)]; rfl
  · rw [hT 0 (by omega), hT 2 (by omega), hT 3 (by omega)]; rfl
  · rw [hT 0 (by omega), hT 1 (by omega), hT 3 (by omega)]; rfl
  · rw [hT 0 (by omega), hT 1 (by omega), hT 2 (by omega)]; rfl

theorem with_any (S : Nat → Bool) (b : Nat) (w : World) (h : b < 256) :
    Calls Try.prog 98 #[setV S, .int .i64 b] w fun e w' => e = .returned (setV (addS S b)) ∧ Below w.heap.size w w' := by
  have hw := words_at S (b / 64) (by omega)
  have hl := wd_lt S (b / 64)
  have hor := or_bit S b
  have hset := words_set S (addS S b) (b / 64) (by omega) (fun j hj => or_far S b j hj)
  unfold setV
  go_enter Try.func98, Try.ntmps98
  go_wp2
  refine bodyPost_ret (results_cell_row rfl _ _ (w.heap.size + 1) 74 _ (0, 0) _ rfl (heap_alloc2_new w _ _) Try.underlying74 rfl (by kernel_rfl)) rfl ⟨rfl, ?_⟩
  exact ((Below.refl _ _).alloc (Nat.le_refl _) _).alloc (by simp) _

def emptyS : Nat → Bool := fun _ => false
theorem wd_emptyS (i : Nat) : wd emptyS i = 0 := (wd_ext (by decide) fun k _ => by simp [emptyS]).symm
theorem setV_empty : setV emptyS = .agg #[.int .u64 0, .int .u64 0, .int .u64 0, .int .u64 0] := by unfold setV; simp only [wd_emptyS]; rfl
/-- Block g is a set. -/
def SetAt (w : World) (g : Nat) (S : Nat → Bool) : Prop := w.heap[g]? = some (.cells #[.int .u64 (wd S 0), .int .u64 (wd S 1), .int .u64 (wd S 2), .int .u64 (wd S 3)] 74 (0, 0))
theorem SetAt.lt {w : World} {g : Nat} {S : Nat → Bool} (h : SetAt w g S) : g < w.heap.size := by
  rcases Nat.lt_or_ge g w.heap.size with hl | hl
  · exact hl
  · unfold SetAt at h; rw [Array.getElem?_eq_none hl] at h; cases h
theorem SetAt.below {B g : Nat} {w w' : World} {S : Nat → Bool} (h : SetAt w g S) (hb : Below B w w') (hg : g < B) : SetAt w' g S := (hb.block g hg).trans h
theorem SetAt.cell {w : World} {g : Nat} {S : Nat → Bool} (h : SetAt w g S) (i : Nat) (hi : i < 4) : w.cell? ⟨g, i, none⟩ = some (.int .u64 (wd S i)) := by
  rw [cell_of_row w g i _ _ _ h]; exact words_at S i hi
theorem SetAt.of_empty {w : World} {g : Nat} (h : w.heap[g]? = some (.cells #[.int .u64 0, .int .u64 0, .int .u64 0, .int .u64 0] 74 (0, 0))) : SetAt w g emptyS := by
  unfold SetAt; simp only [wd_emptyS]; exact h
theorem sizeSet : (Try.prog.info? 74).map (·.size) = some 4 := by kernel_rfl
theorem wpList_store_set {ops : Array Oper} {rest : List Oper} {o : Oper} {a : Act} {w : World} {Q : Exit → Act → World → Prop} (hgd : o.guard = none) (x y : Operand) (ho : o.op = .store 74 x y)
    (g : Nat) (S T : Nat → Bool) (hx : a.eval x = .pointer (some ⟨g, 0, none⟩)) (hy : a.eval y = setV T) (hg : SetAt w g S)
    (h : ∀ w', SetAt w' g T → (∀ B, B ≤ g → Below B w w') → (∀ k, k ≠ g → w'.heap[k]? = w.heap[k]?) → w'.heap.size = w.heap.size → wpList Try.prog ops Q rest (a.put o.dst undef) w') : wpList Try.prog ops Q (o :: rest) a w := by
  refine wpList_store_row hgd 74 x y ho g _ hx hy 74 _ hg sizeSet rfl (by simp [Value.oneCell']) ?_
  exact h _ (setRow_heap w g _ _ _ _ hg) (fun B hB => (Below.refl _ _).trans ⟨rfl, rfl, rfl, by simp, fun k hk => setRow_other w g k _ (by omega)⟩) (fun k hk => setRow_other w g k _ hk) (by simp)
theorem one_any (b : Nat) (w : World) (h : b < 256) :
    Calls Try.prog 91 #[.int .u8 b] w fun e w' => e = .returned (setV (fun x => x == b)) ∧ Below w.heap.size w w' := by
  have hw := fun w' => with_any emptyS b w' h
  rw [setV_empty] at hw
  have he : setV (addS emptyS b) = setV (fun x => x == b) := SameSet.val fun x _ => by simp [addS, emptyS]
  rw [he] at hw
  have hz := SetAt.of_empty (heap_alloc_new w (.cells #[.int .u64 0, .int .u64 0, .int .u64 0, .int .u64 0] 74))
  unfold setV at hw ⊢
  have HW := Lib.hid hw
  have HZ := Lib.hid hz
  clear hw he hz
  go_enter Try.func91, Try.ntmps91
  go_wp2_with (first
    | (go_at_call 98; (with_reducible refine (HW.out _).mono ?_); rintro e w1 ⟨rfl, hb1⟩; have HZ1 := Lib.hid (HZ.out.below hb1 (by simp)))
    | (refine wpList_store_set rfl _ _ rfl w.heap.size emptyS (fun x => x == b) rfl rfl HZ1.out ?_; intro w9 hR hB9 hO9 hS9))
  refine bodyPost_ret (results_cell_row rfl _ _ w.heap.size 74 _ (0, 0) _ rfl hR Try.underlying74 rfl sizeSet) rfl ⟨rfl, ?_⟩
  exact (((Below.refl _ _).alloc (Nat.le_refl _) _).trans (hb1.mono (by simp))).trans (hB9 _ (Nat.le_refl _))

/-- The bytes from lo to hi, below n. -/
def spanS (lo hi : Int) (n : Nat) : Nat → Bool := fun x => decide (lo ≤ (x : Int)) && decide ((x : Int) ≤ hi) && decide (x < n)
set_option maxHeartbeats 1000000 in
set_option maxRecDepth 100000 in
theorem span_any (lo hi : Int) (w : World) :
    Calls Try.prog 97 #[.int .i64 lo, .int .i64 hi] w fun e w' => e = .returned (setV (spanS lo hi 256)) ∧ Below w.heap.size w w' := by
  have hz := SetAt.of_empty (heap_alloc2_new w (.cells #[.int .u64 0, .int .u64 0, .int .u64 0, .int .u64 0] 74) (.cells #[.int .u64 0, .int .u64 0, .int .u64 0, .int .u64 0] 74))
  have hy := SetAt.of_empty (heap_alloc2_old w (.cells #[.int .u64 0, .int .u64 0, .int .u64 0, .int .u64 0] 74) (.cells #[.int .u64 0, .int .u64 0, .int .u64 0, .int .u64 0] 74))
  have HZ := Lib.hid hz
  have HY := Lib.hid hy
  clear hz hy
  unfold setV
  go_enter Try.func97, Try.ntmps97
  go_wp2
  go_loopw [6] (fun i wr => ∃ k : Nat, k ≤ 256 ∧ i = .int .i64 k ∧ SetAt wr w.heap.size emptyS ∧ SetAt wr (w.heap.size + 1) (spanS lo hi k) ∧ Below w.heap.size w wr) (fun i _ => 256 - (intOf i).toNat)
  case atStart =>
    refine ⟨0, by omega, rfl, HY.out, ?_, ((Below.refl _ _).alloc (Nat.le_refl _) _).alloc (by simp) _⟩
    have : setV (spanS lo hi 0) = setV emptyS := SameSet.val fun x _ => by simp [spanS, emptyS]
    have hz := HZ.out
    unfold SetAt at hz ⊢
    unfold setV at this
    have this := Value.agg.inj this
    rw [this]; exact hz
  case round =>
    obtain ⟨k, hk, rfl, hY, hZ, hb⟩ := hrel
    by_cases hlt : k < 256
    · have hnext : SameSet (if lo ≤ (k : Int) ∧ (k : Int) ≤ hi then addS (spanS lo hi k) k else spanS lo hi k) (spanS lo hi (k + 1)) := by
        intro x _
        by_cases hx : x = k
        · subst hx
          split
          · rename_i hc; simp [addS, spanS, hc.1, hc.2]
          · rename_i hc
            have : (decide (lo ≤ (x : Int)) && decide ((x : Int) ≤ hi)) = false := by
              rw [Bool.and_eq_false_iff]
              by_cases hl : lo ≤ (x : Int)
              · right; simp; have : ¬ (x : Int) ≤ hi := fun hh => hc ⟨hl, hh⟩; omega
              · left; simpa using hl
            simp [spanS, this]
        · have e : decide (x < k + 1) = decide (x < k) := by
            rw [decide_eq_decide]; omega
          split
          · simp [addS, spanS, e, hx]
          · simp [spanS, e]
      have c0 := hZ.cell 0 (by omega)
      have c1 := hZ.cell 1 (by omega)
      have c2 := hZ.cell 2 (by omega)
      have c3 := hZ.cell 3 (by omega)
      by_cases hlo : lo ≤ (k : Int)
      · by_cases hhi : (k : Int) ≤ hi
        · rw [if_pos ⟨hlo, hhi⟩] at hnext
          have HN := Lib.hid hnext
          have hw := fun w' => with_any (spanS lo hi k) k w' hlt
          unfold setV at hw
          have HW := Lib.hid hw
          clear hnext hw
          have hz0 := hZ.lt
          have HZ2 := Lib.hid hZ
          have HY2 := Lib.hid hY
          clear hZ hY
          go_wp2_with (first
            | (go_at_call 98; (with_reducible refine (HW.out _).mono ?_); rintro e w1 ⟨rfl, hb1⟩; have HZ1 := Lib.hid (HZ2.out.below hb1 hz0))
            | ((with_reducible refine wpList_store_set rfl _ _ rfl (w.heap.size + 1) (spanS lo hi k) (addS (spanS lo hi k) k) ?_ ?_ HZ1.out ?_); rfl; rfl; intro w9 hR hB9 hO9 hS9; have HR := Lib.hid hR; have HO := Lib.hid hO9; have HB := Lib.hid hB9; clear hR hO9 hB9))
          go_roundw
          case rel =>
            refine ⟨k + 1, by omega, by go_num, (HO.out _ (by omega)).trans (HY2.out.below hb1 (by omega)), ?_, (hb.trans (hb1.mono hb.size)).trans (HB.out _ (by omega))⟩
            have e := HN.out.val
            unfold setV at e
            have e := Value.agg.inj e
            have hr := HR.out
            unfold SetAt at hr ⊢
            rw [← e]; exact hr
          case measure => simp [intOf]; omega
        · rw [if_neg (fun hc => hhi hc.2)] at hnext
          have HN := Lib.hid hnext
          clear hnext
          go_wp2
          go_roundw
          case rel =>
            refine ⟨k + 1, by omega, by go_num, hY, ?_, hb⟩
            have e := HN.out.val
            unfold setV at e
            have e := Value.agg.inj e
            unfold SetAt at hZ ⊢
            rw [← e]; exact hZ
          case measure => simp [intOf]; omega
      · rw [if_neg (fun hc => hlo hc.1)] at hnext
        have HN := Lib.hid hnext
        clear hnext
        go_wp2
        go_roundw
        case rel =>
          refine ⟨k + 1, by omega, by go_num, hY, ?_, hb⟩
          have e := HN.out.val
          unfold setV at e
          have e := Value.agg.inj e
          unfold SetAt at hZ ⊢
          rw [← e]; exact hZ
        case measure => simp [intOf]; omega
    · have hk2 : k = 256 := by omega
      have Hk := Lib.hid hk2
      have c0 := hZ.cell 0 (by omega)
      have c1 := hZ.cell 1 (by omega)
      have c2 := hZ.cell 2 (by omega)
      have c3 := hZ.cell 3 (by omega)
      clear hk2
      go_wp2_with (refine wpList_store_set rfl _ _ rfl w.heap.size emptyS (spanS lo hi k) rfl rfl hY ?_; intro w9 hR hB9 hO9 hS9)
      have hR2 := hR
      rw [Hk.out] at hR2
      refine bodyPost_ret (results_cell_row rfl _ _ w.heap.size 74 _ (0, 0) _ rfl hR2 Try.underlying74 rfl sizeSet) rfl ⟨rfl, ?_⟩
      exact hb.trans (hB9 _ (Nat.le_refl _))
end Go.Proofs.Ytmkgipoljbiocaa
/- append(v, s...): a row of elements behind a row of the call's own; s may be empty, or none. -/
namespace Go.Proofs.Ytmkgipoljbiocaa
open Go.RowKit
set_option linter.unusedVariables false

theorem setCells_nil (w : World) (b i : Nat) : w.setCells b i [] = w := rfl
theorem run_append_row {P : Program} {α : Type} {C : α → List Value} {k : Nat} (w : World) (t ty : TypeId) (base : Nat) (e : TypeId) (i : TypeInfo) (z : Value) (bytes : Nat) (ht : P.underlying t = some (.slice e)) (hi : P.info? e = some i) (hz : i.zero = some z)
    (hsize : i.size = k) (hby : i.bytes = bytes) (hzs : z.cells.size = k) (hk0 : 0 < k) (hC : ∀ o, (C o).length = k) (hC1 : ∀ o, ∀ u ∈ C o, u.oneCell' = true)
    (v : Value) (n : Nat) (xs : List Value) (hown : w.ownsRow base e k v n xs)
    (a : Option Addr) (m c : Nat) (os : List α) (hr : CRow C k w a m os)
    (h63 : n + m ≤ maxLen) (hbytes : (n + m) * bytes ≤ 140737488355328) (hbase : base ≤ w.heap.size) :
    ∃ v' w', (Builtin.append_ #[t, t] ty #[v, .slice a m c]).run P w = .ok v' w' ∧ w'.ownsRow base e k v' (n + m) (xs ++ os.flatMap C) ∧ w.grownBy w' v.ownBlock ∧ (v'.ownBlock = v.ownBlock ∨ v'.ownBlock = some w.heap.size) := by
  have h1 : ∀ u ∈ os.flatMap C, u.oneCell' = true := fun u hu => by
    obtain ⟨o, _, ho⟩ := List.mem_flatMap.1 hu
    exact hC1 o u ho
  have hlen : ∀ l : List α, (l.flatMap C).length = l.length * k := fun l => by
    induction l with
    | nil => simp
    | cons x l ih => rw [List.flatMap_cons, List.length_append, ih, hC, List.length_cons, Nat.succ_mul, Nat.add_comm]
  have hl : (os.flatMap C).length = m * k := by rw [hlen, hr.1]
  cases a with
  | some ad =>
    have hnews : ∀ j u, (os.flatMap C)[j]? = some u → w.cell? (ad.add j) = some u := by
      intro j u hu
      have hj : j < m * k := by rw [← hl]; exact (List.getElem?_eq_some_iff.1 hu).1
      have hm : 0 < m := by
        rcases Nat.eq_zero_or_pos m with h0 | h0
        · subst h0; simp at hj
        · exact h0
      obtain ⟨b, off, ha, hlt, hc⟩ := hr.2.2 hm
      obtain rfl := Option.some.inj ha
      have hdm : j / k < m := by
        rw [Nat.div_lt_iff_lt_mul hk0]; exact hj
      have hjm : j % k < k := Nat.mod_lt _ hk0
      have ho : os[j / k]? = some (os[j / k]'(by rw [hr.1]; exact hdm)) := List.getElem?_eq_getElem (by rw [hr.1]; exact hdm)
      have hv : (C (os[j / k]'(by rw [hr.1]; exact hdm)))[j % k]? = some ((C (os[j / k]'(by rw [hr.1]; exact hdm)))[j % k]'(by rw [hC]; exact hjm)) := List.getElem?_eq_getElem (by rw [hC]; exact hjm)
      have e1 := flat_get hC os (j / k) _ ho (j % k) _ hv
      have e2 : j / k * k + j % k = j := by rw [Nat.mul_comm]; exact Nat.div_add_mod j k
      rw [e2, hu] at e1
      obtain rfl := Option.some.inj e1
      have := hc (j / k) _ ho (j % k) _ hv
      rw [show off + j / k * k + j % k = off + j by omega] at this
      have e : (⟨b, off, none⟩ : Addr).add j = ⟨b, off + j, none⟩ := by unfold Addr.add; split <;> simp_all
      rw [e]; exact this
    obtain ⟨v', w', hrun, h2, h3, _, h5⟩ := run_append_own_at (P := P) w base t ty e i z k bytes ht hi hz hsize hby hzs hk0 v n xs hown ad m c (os.flatMap C) hl hnews h1 h63 hbytes hbase
    exact ⟨v', w', hrun, h2, h3, h5⟩
  | none =>
    have hm : m = 0 := by
      rcases Nat.eq_zero_or_pos m with h0 | h0
      · exact h0
      · obtain ⟨b, off, ha, _⟩ := hr.2.2 h0; cases ha
    subst hm
    have hos : os = [] := List.length_eq_zero_iff.1 hr.1
    subst hos
    have grow0 : w.grownBy w v.ownBlock := World.grownBy.refl _ _
    refine ⟨v, w, ?_, by simpa using hown, grow0, .inl rfl⟩
    rcases hown.2 with ⟨rfl, rfl⟩ | ⟨g, cap, cur, rfl, hbg, hg, hnc, hcm, hcs, htake⟩
    · simp [Builtin.append_, run_underlying ht, sizeOf, typeInfo, hi, Builtin.lenOf, Builtin.firstCells]
    · have := run_append_room_src (P := P) w t t ty e i ht hi g 0 n cap (.slice none 0 c) 0 [] (Src.ofNil w ht c) (by omega) (by simp) (by simp)
      rw [this, setCells_nil]; rfl
/-- At a plain region's list. -/
theorem wpList_append_row {P : Program} {α : Type} {C : α → List Value} {k : Nat} (w : World) {ops : Array Oper} {rest : List Oper} {o : Oper} {act : Act} {Q : Exit → Act → World → Prop} (hgd : o.guard = none) (s x : Operand) (t : TypeId)
    (ho : o.op = .call { callee := .builtin .append, args := #[s, x], argTypes := #[t, t] })
    (base : Nat) (e : TypeId) (i : TypeInfo) (z : Value) (bytes : Nat) (ht : P.underlying t = some (.slice e)) (hi : P.info? e = some i) (hz : i.zero = some z)
    (hsize : i.size = k) (hby : i.bytes = bytes) (hzs : z.cells.size = k) (hk0 : 0 < k) (hC : ∀ o, (C o).length = k) (hC1 : ∀ o, ∀ u ∈ C o, u.oneCell' = true)
    (v : Value) (n : Nat) (xs : List Value) (hs : act.eval s = v) (hown : w.ownsRow base e k v n xs)
    (a : Option Addr) (m c : Nat) (os : List α) (hx : act.eval x = .slice a m c) (hr : CRow C k w a m os)
    (h63 : n + m ≤ maxLen) (hbytes : (n + m) * bytes ≤ 140737488355328) (hbase : base ≤ w.heap.size)
    (h : ∀ v' w', w'.ownsRow base e k v' (n + m) (xs ++ os.flatMap C) → w.grownBy w' v.ownBlock → (v'.ownBlock = v.ownBlock ∨ v'.ownBlock = some w.heap.size) → wpList P ops Q rest (act.put o.dst v') w') : wpList P ops Q (o :: rest) act w := by
  refine wpList_plain hgd fun K hK => ?_
  obtain ⟨v', w', hrun, h2, h3, h4⟩ := run_append_row (P := P) w t o.type base e i z bytes ht hi hz hsize hby hzs hk0 hC hC1 v n xs hown a m c os hr h63 hbytes hbase
  unfold Oper.wp execOp
  simp only [ho, resolve, invoke, builtin, Sem.run_bind, Sem.run_pure, Result.andThen_ok, List.map_toArray, List.map_cons, List.map_nil, hs, hx, hrun]
  exact hK _ _ (h v' w' h2 h3 h4)
end Go.Proofs.Ytmkgipoljbiocaa
/- Steps of expressions as rows; which are the same. -/
namespace Go.Proofs.Ytmkgipoljbiocaa
open Go.RowKit Go.Extern.Stop
set_option linter.unusedVariables false

/-- A step. -/
structure Rx where
  k : Int
  s : Nat → Bool
instance : Inhabited Rx := ⟨⟨0, emptyS⟩⟩
def rxC (r : Rx) : List Value := [.int .i64 r.k, .int .u64 (wd r.s 0), .int .u64 (wd r.s 1), .int .u64 (wd r.s 2), .int .u64 (wd r.s 3)]
theorem rxC_len (r : Rx) : (rxC r).length = 5 := rfl
theorem rxC_one (r : Rx) : ∀ u ∈ rxC r, u.oneCell' = true := fun u hu => by
  simp [rxC] at hu
  rcases hu with rfl | rfl | rfl | rfl | rfl <;> rfl
/-- A step without a set. -/
def stp0 (k : Int) : Rx := ⟨k, emptyS⟩
theorem stp0_C (k : Int) : rxC (stp0 k) = [.int .i64 k, .int .u64 0, .int .u64 0, .int .u64 0, .int .u64 0] := by
  simp [rxC, stp0, wd_emptyS]
theorem infoRx : (Try.prog.info? 88).map (fun i => (i.zero, i.size, i.bytes)) = some (some (.agg #[.int .i64 0, .int .u64 0, .int .u64 0, .int .u64 0, .int .u64 0]), 5, 40) := by kernel_rfl
theorem infoSet : (Try.prog.info? 74).map (fun i => (i.zero, i.size, i.bytes)) = some (some (.agg #[.int .u64 0, .int .u64 0, .int .u64 0, .int .u64 0]), 4, 32) := by kernel_rfl
theorem infoKind : (Try.prog.info? 86).map (fun i => (i.zero, i.size, i.bytes)) = some (some (.int .i64 0), 1, 8) := by kernel_rfl
theorem infoU64 : (Try.prog.info? 72).map (fun i => (i.zero, i.size, i.bytes)) = some (some (.int .u64 0), 1, 8) := by kernel_rfl
theorem run_equalIn_ints {P : Program} (w : World) (d : Nat) (t e : TypeId) (n : Nat) (k : IntKind) (ht : P.underlying t = some (.array n e)) (he : P.underlying e = some (.int k)) (hsz : ∀ w, (sizeOf e).run P w = .ok 1 w)
    (xs ys : List Int) (hx : xs.length = n) (hy : ys.length = n) :
    (Op.equalIn (d + 2) t (.agg (xs.map fun x => Value.int k x).toArray) (.agg (ys.map fun x => Value.int k x).toArray)).run P w = .ok ((List.range' 0 n 1).all fun i => xs.getD i 0 == ys.getD i 0) w := by
  rw [Op.equalIn]
  simp only [Sem.run_bind, run_underlying ht, Result.andThen_ok, hsz, Std.Legacy.Range.forIn_eq_forIn_range', Std.Legacy.Range.size, Nat.sub_zero, Nat.add_sub_cancel, Nat.div_one]
  have hl : ∀ i ∈ List.range' 0 n 1, i < n := fun i hi => by simpa using (List.mem_range'_1.1 hi).2
  generalize List.range' 0 n 1 = l at hl ⊢
  induction l with
  | nil => simp
  | cons i l ih =>
    have hi : i < n := hl i (by simp)
    have px : (part e (xs.map fun x => Value.int k x).toArray (i * 1)).run P w = .ok (.int k (xs.getD i 0)) w := by
      simp [part, isAgg, run_underlying he, List.getD, List.getElem?_eq_getElem (show i < xs.length by omega)]
    have py : (part e (ys.map fun x => Value.int k x).toArray (i * 1)).run P w = .ok (.int k (ys.getD i 0)) w := by
      simp [part, isAgg, run_underlying he, List.getD, List.getElem?_eq_getElem (show i < ys.length by omega)]
    have pe : (Op.equalIn (d + 1) e (.int k (xs.getD i 0)) (.int k (ys.getD i 0))).run P w = .ok (xs.getD i 0 == ys.getD i 0) w := by
      rw [run_equalIn_int w d e k k _ _ he]
    simp only [List.forIn_cons, Sem.run_bind, px, py, pe, Result.andThen_ok, List.all_cons]
    cases hb : (xs.getD i 0 == ys.getD i 0)
    · simp
    · simp only [Bool.not_true, Bool.false_eq_true, if_false, Sem.run_pure, Result.andThen_ok, Bool.true_and]
      exact ih fun j hj => hl j (by simp [hj])
theorem run_eq_set (d : Nat) (a b c e a' b' c' e' : Int) (w : World) : (Op.equalIn (d + 2) 74 (.agg #[.int .u64 a, .int .u64 b, .int .u64 c, .int .u64 e]) (.agg #[.int .u64 a', .int .u64 b', .int .u64 c', .int .u64 e'])).run Try.prog w = .ok (a == a' && (b == b' && (c == c' && e == e'))) w := by
  obtain ⟨i0, hi, _, hz1, _⟩ := info_parts infoU64
  have := run_equalIn_ints (P := Try.prog) w d 74 72 4 .u64 Try.underlying74 Try.underlying72 (fun w => by simp [sizeOf, typeInfo, hi, hz1]) [a, b, c, e] [a', b', c', e'] rfl rfl
  refine Eq.trans this ?_
  simp [List.range']
def eqS (x y : Value) : Sem Bool := Op.equalIn 10000 74 x y
theorem eqS_eq (x y : Value) : Op.equalIn 10000 74 x y = eqS x y := rfl
theorem eqS_eq' (x y : Value) : Op.equal 74 x y = eqS x y := rfl
theorem run_eqS (a b c d a' b' c' d' : Int) (w : World) : (eqS (.agg #[.int .u64 a, .int .u64 b, .int .u64 c, .int .u64 d]) (.agg #[.int .u64 a', .int .u64 b', .int .u64 c', .int .u64 d'])).run Try.prog w = .ok (a == a' && (b == b' && (c == c' && d == d'))) w := run_eq_set 9998 _ _ _ _ _ _ _ _ w
/-- Equality of steps, behind a name of its own. -/
def eqX (x y : Value) : Sem Bool := Op.equalIn 10000 88 x y
theorem eqX_eq (x y : Value) : Op.equalIn 10000 88 x y = eqX x y := rfl
theorem eqX_eq' (x y : Value) : Op.equal 88 x y = eqX x y := rfl
theorem run_eqX (k a b c d : Int) (w : World) : (eqX (.agg #[.int .i64 k, .int .u64 a, .int .u64 b, .int .u64 c, .int .u64 d]) (.agg #[.int .i64 k, .int .u64 a, .int .u64 b, .int .u64 c, .int .u64 d])).run Try.prog w = .ok true w := by
  have hs := run_eq_set 9997 a b c d a b c d w
  simp only [beq_self_eq_true, Bool.and_self] at hs
  have hk := run_equalIn_int (P := Try.prog) w 9998 86 .i64 .i64 k k Try.underlying86
  simp only [beq_self_eq_true] at hk
  unfold eqX
  rw [show (10000 : Nat) = 9999 + 1 from rfl, Op.equalIn]
  simp only [Sem.run_bind, run_underlying Try.underlying88, Result.andThen_ok]
  have hst : Try.prog.stoodInHeld 88 = false := by kernel_rfl
  obtain ⟨iS, hiS, _, hzS, _⟩ := info_parts infoSet
  obtain ⟨iK, hiK, _, hzK, _⟩ := info_parts infoKind
  have h1 : (part 86 #[Value.int .i64 k, .int .u64 a, .int .u64 b, .int .u64 c, .int .u64 d] 0).run Try.prog w = .ok (.int .i64 k) w := by
    simp [part, isAgg, run_underlying Try.underlying86, sizeOf, typeInfo, hiK, hzK]
  have h2 : (part 74 #[Value.int .i64 k, .int .u64 a, .int .u64 b, .int .u64 c, .int .u64 d] 1).run Try.prog w = .ok (.agg #[.int .u64 a, .int .u64 b, .int .u64 c, .int .u64 d]) w := by
    simp [part, isAgg, run_underlying Try.underlying74, sizeOf, typeInfo, hiS, hzS]
  have hpr : (program).run Try.prog w = .ok Try.prog w := rfl
  simp [hpr, hst, h1, h2, hs, hk]
end Go.Proofs.Ytmkgipoljbiocaa
/- rx: Same, Set, Empty, one step behind, parts one behind the other. -/
namespace Go.Proofs.Ytmkgipoljbiocaa
open Go.RowKit
set_option linter.unusedVariables false

attribute [local go_sem ↓] eqS_eq eqS_eq' eqX_eq eqX_eq'
theorem drewN_drewN (w : World) (a b : Nat) : (w.drewN a).drewN b = w.drewN (a + b) := by simp [World.drewN, Nat.add_assoc]
/-- What is handed out: a row of the call's own of these steps. -/
def Gives (w : World) (rs : List Rx) (e : Ending) (w' : World) : Prop := ∃ v, e = .returned v ∧ w'.ownsRow w.heap.size 88 5 v rs.length (rs.flatMap rxC) ∧ Below w.heap.size w w'
theorem own_lit1 (w : World) (base : Nat) (hb : base ≤ w.heap.size) (r : Rx) (cs : Array Value) (hcs : cs = (rxC r).toArray) : (w.alloc (.cells cs 88)).ownsRow base 88 5 (.slice (some ⟨w.heap.size, 0, none⟩) 1 1) 1 ([r].flatMap rxC) := by
  subst hcs
  refine ⟨rfl, .inr ⟨w.heap.size, 1, _, rfl, hb, heap_alloc_new w _, Nat.le_refl _, by decide, rfl, by simp; exact List.take_of_length_le (Nat.le_of_eq (rxC_len r))⟩⟩
theorem refset_any (S : Nat → Bool) (w : World) : Calls Try.prog 85 #[setV S] w (Gives w [⟨1, S⟩]) := by
  have ho := own_lit1 (w.alloc (.cells #[.int .u64 (wd S 0), .int .u64 (wd S 1), .int .u64 (wd S 2), .int .u64 (wd S 3)] 74)) w.heap.size (by simp) ⟨1, S⟩ #[.int .i64 1, .int .u64 (wd S 0), .int .u64 (wd S 1), .int .u64 (wd S 2), .int .u64 (wd S 3)] rfl
  have HO := Lib.hid ho
  clear ho
  unfold setV Gives
  go_enter Try.func85, Try.ntmps85
  go_wp2
  go_ret
  exact ⟨_, rfl, by simpa using HO.out, ((Below.refl _ _).alloc (Nat.le_refl _) _).alloc (by simp) _⟩
theorem refempty_any (w : World) : Calls Try.prog 94 #[] w (Gives w [stp0 2]) := by
  have HO := Lib.hid (own_lit1 w w.heap.size (Nat.le_refl _) (stp0 2) #[.int .i64 2, .int .u64 0, .int .u64 0, .int .u64 0, .int .u64 0] (by rw [stp0_C]))
  unfold Gives
  go_enter Try.func94, Try.ntmps94
  go_wp2
  go_ret
  exact ⟨_, rfl, HO.out, (Below.refl _ _).alloc (Nat.le_refl _) _⟩
/-- Steps behind a row of the call's own. -/
theorem app_rxs {w : World} {base n : Nat} {v : Value} {xs : List Rx} (hown : w.ownsRow base 88 5 v n (xs.flatMap rxC)) {a : Option Addr} {m c : Nat} {os : List Rx} (hr : CRow rxC 5 w a m os) (hn : n + m ≤ 200000) (hbase : base ≤ w.heap.size)
    (ops : Array Oper) (rest : List Oper) (o : Oper) (act : Act) (Q : Exit → Act → World → Prop) (hg : o.guard = none) (s x : Operand) (ho : o.op = .call { callee := .builtin .append, args := #[s, x], argTypes := #[43, 43] })
    (hs : act.eval s = v) (hx : act.eval x = .slice a m c)
    (h : ∀ v' w', w'.ownsRow base 88 5 v' (n + m) ((xs ++ os).flatMap rxC) → w.grownBy w' v.ownBlock → (v'.ownBlock = v.ownBlock ∨ v'.ownBlock = some w.heap.size) →
      wpList Try.prog ops Q rest (act.put o.dst v') w') : wpList Try.prog ops Q (o :: rest) act w := by
  obtain ⟨i0, hii, hz0, hz1, hz2⟩ := info_parts infoRx
  exact wpList_append_row w hg s x 43 ho base 88 i0 _ 40 Try.underlying43 hii hz0 hz1 hz2 rfl (by omega) rxC_len rxC_one v n (xs.flatMap rxC) hs hown a m c os hx hr (by unfold maxLen; omega) (by omega) hbase
    fun v' w' h1 h2 h3 => h v' w' (by rw [List.flatMap_append]; exact h1) h2 h3
end Go.Proofs.Ytmkgipoljbiocaa
/- rx: one step behind; parts one behind the other. -/
namespace Go.Proofs.Ytmkgipoljbiocaa
open Go.RowKit
set_option linter.unusedVariables false

def oneF (rs : List Rx) (k : Int) : List Rx := rs ++ [stp0 k]
theorem app_rx {w : World} {base n : Nat} {v : Value} {os : List Rx} (hown : w.ownsRow base 88 5 v n (os.flatMap rxC)) (k : Int) (hn : n ≤ 200000) (hbase : base ≤ w.heap.size) (H : Nat) (hH : w.heap.size = H)
    (ops : Array Oper) (rest : List Oper) (o : Oper) (a : Act) (Q : Exit → Act → World → Prop) (hg : o.guard = none) (s x : Operand) (ho : o.op = .call { callee := .builtin .append, args := #[s, x], argTypes := #[43, 43] })
    (hs : a.eval s = v) (hx : a.eval x = .slice (some ⟨H, 0, none⟩) 1 1)
    (h : ∀ g cap w', w'.ownsRow base 88 5 (.slice (some ⟨g, 0, none⟩) (n + 1) cap) (n + 1) ((os ++ [stp0 k]).flatMap rxC) → (w.alloc (.cells #[.int .i64 k, .int .u64 0, .int .u64 0, .int .u64 0, .int .u64 0] 88)).grownBy w' v.ownBlock → (v.ownBlock = some g ∨ g = H + 1) →
      wpList Try.prog ops Q rest (a.put o.dst (.slice (some ⟨g, 0, none⟩) (n + 1) cap)) w') : wpList Try.prog ops Q (o :: rest) a (w.alloc (.cells #[.int .i64 k, .int .u64 0, .int .u64 0, .int .u64 0, .int .u64 0] 88)) :=
  app_el (P := Try.prog) (C := rxC) (T := 43) (by decide) rxC_len rxC_one Try.underlying43 infoRx rfl hown (stp0 k) (by unfold maxLen; omega) (by omega) hbase H hH _ (by rw [stp0_C]) ops rest o a Q hg s x ho hs hx h
set_option maxHeartbeats 1000000 in
theorem refone_any (w : World) (a : Option Addr) (n c : Nat) (rs : List Rx) (k : Int) (h : CRow rxC 5 w a n rs) (hn : n ≤ 100000) :
    Calls Try.prog 83 #[.slice a n c, .int .i64 k] w (Gives w (oneF rs k)) := by
  have HR := Lib.hid h
  have HL := Lib.hid h.1
  clear h
  unfold Gives
  obtain ⟨g, hg⟩ : ∃ g, w.heap.size = g := ⟨_, rfl⟩
  have HG := Lib.hid hg
  have HB0 := Lib.hid (show Below g w (w.alloc (.cells #[] 88)) by rw [← hg]; exact (Below.refl _ _).alloc (Nat.le_refl _) _)
  have HO0 := Lib.hid (World.ownsRow_made (base := g) (e := 88) (size := 5) w #[] 0 (Nat.le_of_eq HG.out.symm) (by decide) (by simp))
  rw [hg] at HO0
  go_enter Try.func83, Try.ntmps83
  go_wp2
  clear hg
  go_loopw [5, 6] (fun v i wr => ∃ j : Nat, j ≤ n ∧ i = .int .i64 (j : Int) ∧ wr.ownsRow g 88 5 v j ((rs.take j).flatMap rxC) ∧ Below g w wr) (fun _ i _ => n - (intOf i).toNat)
  case atStart => exact ⟨0, by omega, rfl, HO0.out, HB0.out⟩
  case round =>
    obtain ⟨j, hj, rfl, hown, hb⟩ := hrel
    clear HO0 HB0
    have HO := Lib.hid hown
    have HB := Lib.hid hb
    have hgl : g ≤ wr.heap.size := by have := HG.out; have := hb.size; omega
    clear hown hb
    by_cases hlt : j < n
    · obtain ⟨b1, o1, r, rfl, hbl, hr, hc⟩ := HR.out.at_ hlt
      have hbg : b1 < g := by have := HG.out; omega
      have kp : ∀ i u, w.cell? ⟨b1, i, none⟩ = some u → wr.cell? ⟨b1, i, none⟩ = some u := fun i u h => (HB.out.cell (p := ⟨b1, i, none⟩) hbg).trans h
      have c0 : wr.cell? ⟨b1, o1 + j * 5, none⟩ = some (.int .i64 r.k) := kp _ _ (hc 0 _ rfl)
      have c1 : wr.cell? ⟨b1, o1 + j * 5 + 1, none⟩ = some (.int .u64 (wd r.s 0)) := kp _ _ (hc 1 _ rfl)
      have c2 : wr.cell? ⟨b1, o1 + j * 5 + 2, none⟩ = some (.int .u64 (wd r.s 1)) := kp _ _ (hc 2 _ rfl)
      have c3 : wr.cell? ⟨b1, o1 + j * 5 + 3, none⟩ = some (.int .u64 (wd r.s 2)) := kp _ _ (hc 3 _ rfl)
      have c4 : wr.cell? ⟨b1, o1 + j * 5 + 4, none⟩ = some (.int .u64 (wd r.s 3)) := kp _ _ (hc 4 _ rfl)
      have HT := Lib.hid (take_snoc hr)
      have HAP := Lib.hid (app_el (P := Try.prog) (C := rxC) (T := 43) (by decide) rxC_len rxC_one Try.underlying43 infoRx rfl HO.out r (by unfold maxLen; omega) (by omega) hgl wr.heap.size rfl #[.int .i64 r.k, .int .u64 (wd r.s 0), .int .u64 (wd r.s 1), .int .u64 (wd r.s 2), .int .u64 (wd r.s 3)] rfl)
      have h0 : (0 : Int) ≤ (j : Int) := by omega
      have h1 : (j : Int) < (n : Int) := by omega
      clear kp hc hr
      go_wp2_with (at_builtin; refine HAP.out _ _ _ _ _ rfl _ _ rfl rfl rfl ?_; intro gg cap w2 hown1 hgrow hat; have HW := Lib.hid hown1; have HBW := Lib.hid (below_grown (HB.out.alloc hgl (.cells #[.int .i64 r.k, .int .u64 (wd r.s 0), .int .u64 (wd r.s 1), .int .u64 (wd r.s 2), .int .u64 (wd r.s 3)] 88)) (by simp; omega) hgrow (fun j hj => (own_ge HO.out hj).1)); clear hown1 hgrow hat)
      go_roundw
      case rel => exact ⟨j + 1, by omega, by go_num, by rw [HT.out]; exact HW.out, HBW.out⟩
      case measure => simp [intOf]; omega
    · have hjn : j = n := by omega
      subst hjn
      have HK : Hid (rs.take j = rs) := by show _ = _; exact List.take_of_length_le (by rw [HL.out]; exact Nat.le_refl _)
      rw [HK.out] at HO
      have HAP := Lib.hid (app_rx HO.out k (by omega) hgl wr.heap.size rfl)
      go_wp2_with (at_builtin; refine HAP.out _ _ _ _ _ rfl _ _ rfl rfl rfl ?_; intro gg cap w2 hown1 hgrow hat; have HW := Lib.hid hown1; have HBW := Lib.hid (below_grown (HB.out.alloc hgl (.cells #[.int .i64 k, .int .u64 0, .int .u64 0, .int .u64 0, .int .u64 0] 88)) (by simp; omega) hgrow (fun j hj => (own_ge HO.out hj).1)); clear hown1 hgrow hat)
      go_ret
      exact ⟨_, rfl, by unfold oneF; rw [List.length_append, HL.out, HG.out]; exact HW.out, by rw [HG.out]; exact HBW.out⟩
end Go.Proofs.Ytmkgipoljbiocaa
/- rx: parts one behind the other. -/
namespace Go.Proofs.Ytmkgipoljbiocaa
open Go.RowKit
set_option linter.unusedVariables false

theorem blk_lt {w : World} {g : Nat} {o : Obj} (h : w.heap[g]? = some o) : g < w.heap.size := by
  rcases Nat.lt_or_ge g w.heap.size with hl | hl
  · exact hl
  · rw [Array.getElem?_eq_none hl] at h; cases h
theorem own_keep {w w' : World} {base : Nat} {e : TypeId} {size : Nat} {v : Value} {n : Nat} {xs : List Value} (h : w.ownsRow base e size v n xs) (hk : ∀ k cur, v.ownBlock = some k → w.heap[k]? = some (.cells cur e (0, 0)) → w'.heap[k]? = w.heap[k]?) : w'.ownsRow base e size v n xs := by
  refine ⟨h.1, ?_⟩
  rcases h.2 with h2 | ⟨g, cap, cur, rfl, hbg, hg, r⟩
  · exact Or.inl h2
  · exact Or.inr ⟨g, cap, cur, rfl, hbg, (hk g cur rfl hg).trans hg, r⟩
theorem own_obj {w : World} {base : Nat} {e : TypeId} {size : Nat} {v : Value} {n : Nat} {xs : List Value} (h : w.ownsRow base e size v n xs) {k : Nat} (hk : v.ownBlock = some k) : ∃ cur, w.heap[k]? = some (.cells cur e (0, 0)) := by
  rcases h.2 with ⟨rfl, _⟩ | ⟨g, cap, cur, rfl, hbg, hg, r⟩
  · simp [Value.ownBlock] at hk
  · have : g = k := by simpa [Value.ownBlock] using hk
    subst this; exact ⟨cur, hg⟩
theorem obj_ne {w : World} {i j : Nat} {a b : Array Value} {s t : TypeId} (h : w.heap[i]? = some (.cells a s (0, 0))) (k : w.heap[j]? = some (.cells b t (0, 0))) (hst : s ≠ t) : i ≠ j := by
  intro e; subst e
  rw [h] at k
  have := Option.some.inj k
  injection this with _ h2 _
  exact hst h2
/-- A part: where its steps lie, and which. -/
structure Rw where
  a : Option Addr
  l : Nat
  c : Nat
  rs : List Rx
instance : Inhabited Rw := ⟨⟨none, 0, 0, []⟩⟩
def slC (o : Rw) : List Value := [.slice o.a o.l o.c]
theorem slC_len (o : Rw) : (slC o).length = 1 := rfl
theorem slC_one (o : Rw) : ∀ u ∈ slC o, u.oneCell' = true := fun u hu => by simp [slC] at hu; subst hu; rfl
def RRow (w : World) (A : Option Addr) (n : Nat) (os : List Rw) : Prop := CRow slC 1 w A n os ∧ ∀ o ∈ os, CRow rxC 5 w o.a o.l o.rs
theorem RRow.below {w w' : World} {A : Option Addr} {n : Nat} {os : List Rw} (h : RRow w A n os) (hb : Below w.heap.size w w') : RRow w' A n os := ⟨h.1.below hb, fun o ho => (h.2 o ho).below hb⟩
/-- Parts with a step behind each but the first one. -/
def behUp (k : Int) (ls : List (List Rx)) : Nat → List Rx
  | 0 => []
  | j + 1 => behUp k ls j ++ ((ls[j]?).getD [] ++ if 0 < j then [stp0 k] else [])
def tot (ls : List (List Rx)) : Nat := (ls.map List.length).sum
theorem sum_take_le (l : List Nat) : ∀ k, (l.take k).sum ≤ l.sum := by
  induction l with
  | nil => intro k; simp
  | cons x l ih =>
    intro k
    cases k with
    | zero => simp
    | succ k => simp [ih k]
theorem beh_len (k : Int) (ls : List (List Rx)) : ∀ j, (behUp k ls j).length ≤ tot (ls.take j) + j
  | 0 => by simp [behUp]
  | j + 1 => by
    have ih := beh_len k ls j
    have h1 : (if 0 < j then [stp0 k] else []).length ≤ 1 := by split <;> simp
    have h2 : tot (ls.take (j + 1)) = tot (ls.take j) + ((ls[j]?).getD []).length := by
      unfold tot; rw [List.take_add_one]
      cases ls[j]? <;> simp
    simp only [behUp, List.length_append]; omega
theorem tot_take (ls : List (List Rx)) (j : Nat) : tot (ls.take j) ≤ tot ls := by
  unfold tot; rw [List.map_take]; exact sum_take_le _ j
theorem tot_at {ls : List (List Rx)} {j : Nat} {l : List Rx} (h : ls[j]? = some l) : l.length ≤ tot ls := by
  have h1 := tot_take ls (j + 1)
  have h2 : tot (ls.take (j + 1)) = tot (ls.take j) + l.length := by unfold tot; rw [List.take_add_one, h]; simp
  omega
theorem beh_next {k : Int} {os : List Rw} {j : Nat} {o : Rw} (h : os[j]? = some o) : behUp k (os.map Rw.rs) (j + 1) = behUp k (os.map Rw.rs) j ++ (o.rs ++ if 0 < j then [stp0 k] else []) := by
  simp only [behUp]; rw [List.getElem?_map, h]; rfl
/-- A box that holds a row of the call's own. -/
structure BoxRow (B : Nat) (w : World) (X : Nat) (v : Value) (rs : List Rx) : Prop where
  blk : w.heap[X]? = some (.cells #[v] 43 (0, 0))
  ow : w.ownsRow B 88 5 v rs.length (rs.flatMap rxC)
theorem BoxRow.below {B : Nat} {w w' : World} {X : Nat} {v : Value} {rs : List Rx} (h : BoxRow B w X v rs) (hb : Below w.heap.size w w') : BoxRow B w' X v rs := ⟨(hb.block X (blk_lt h.blk)).trans h.blk, ownB h.ow hb⟩
set_option maxHeartbeats 4000000 in
theorem many_any (w : World) (A : Option Addr) (n d : Nat) (os : List Rw) (k : Int) (h : RRow w A n os) (hsm : tot (os.map Rw.rs) + n ≤ 2000) :
    Calls Try.prog 86 #[.slice A n d, .int .i64 k] w (Gives w (behUp k (os.map Rw.rs) n)) := by
  have hl2 := h.1.2.1
  have HH := Lib.hid h
  have HL := Lib.hid h.1.1
  have HSM := Lib.hid hsm
  have hn2 : n ≤ 2000 := by omega
  obtain ⟨g, hg⟩ : ∃ g, w.heap.size = g := ⟨_, rfl⟩
  have HG := Lib.hid hg
  have HB0 := Lib.hid (show Below g w (w.alloc (.cells #[] 88)) by rw [← hg]; exact (Below.refl _ _).alloc (Nat.le_refl _) _)
  have HO0 := Lib.hid (World.ownsRow_made (base := g) (e := 88) (size := 5) w #[] 0 (Nat.le_of_eq HG.out.symm) (by decide) (by simp))
  rw [hg] at HO0
  unfold Gives
  clear h hsm
  go_enter Try.func86, Try.ntmps86
  go_wp2
  clear hg
  go_loopw [5, 6] (fun v i wr => ∃ (j : Nat), j ≤ n ∧ i = .int .i64 (j : Int) ∧ wr.ownsRow g 88 5 v (behUp k (os.map Rw.rs) j).length ((behUp k (os.map Rw.rs) j).flatMap rxC) ∧ Below g w wr) (fun _ i _ => n - (intOf i).toNat)
  case atStart => exact ⟨0, by omega, rfl, HO0.out, HB0.out⟩
  case round =>
    obtain ⟨j, hj, rfl, hown, hb⟩ := hrel
    clear HO0 HB0
    have HO := Lib.hid hown
    have HB := Lib.hid hb
    have hgl : g ≤ wr.heap.size := by have := HG.out; have := hb.size; omega
    have HLEN : Hid ((behUp k (os.map Rw.rs) j).length ≤ 2000) := Lib.hid (by have := beh_len k (os.map Rw.rs) j; have h2 := tot_take (os.map Rw.rs) j; have := HSM.out; omega)
    clear hown hb
    by_cases hlt : j < n
    · obtain ⟨b1, o1, o, rfl, hbl, ho, hc⟩ := HH.out.1.at_ hlt
      have hbg : b1 < g := by have := HG.out; omega
      have HR := Lib.hid (HH.out.2 o (List.mem_of_getElem? ho))
      have HNX := Lib.hid (beh_next (k := k) ho)
      have HTA : Hid (o.rs.length ≤ 2000) := Lib.hid (by have := tot_at (ls := os.map Rw.rs) (j := j) (l := o.rs) (by rw [List.getElem?_map, ho]; rfl); have := HSM.out; omega)
      obtain ⟨oa, ol, oc, ors⟩ := o
      dsimp only at HR HNX HTA
      have HOL := Lib.hid HR.out.1
      have c0 : wr.cell? ⟨b1, o1 + j, none⟩ = some (.slice oa ol oc) := (HB.out.cell (p := ⟨b1, o1 + j, none⟩) hbg).trans (by have := hc 0 _ rfl; simpa using this)
      have HAP := Lib.hid (app_rxs HO.out (HR.out.below (by rw [HG.out]; exact HB.out)) (c := oc) (by have := HLEN.out; have := HTA.out; have := HOL.out; omega) hgl)
      have h0 : (0 : Int) ≤ (j : Int) := by omega
      have h1 : (j : Int) < (n : Int) := by omega
      clear hc ho
      obtain ⟨xs, hxs⟩ : ∃ xs, behUp k (os.map Rw.rs) j = xs := ⟨_, rfl⟩
      rw [hxs] at HAP HNX HLEN
      clear hxs
      by_cases hj0 : j = 0
      · have q1 : ¬ 0 < j := by omega
        have q2 : decide (0 < j) = false := decide_eq_false q1
        have HNX2 : Hid (behUp k (os.map Rw.rs) (j + 1) = xs ++ ors) := Lib.hid (by rw [HNX.out, if_neg q1]; simp)
        clear hj0
        go_wp2_with (at_builtin; refine HAP.out _ _ _ _ _ rfl _ _ rfl rfl rfl ?_; intro v2 w2 hown1 hgrow hat; have HW := Lib.hid hown1; have HBW := Lib.hid (below_grown HB.out hgl hgrow (fun j hj => (own_ge HO.out hj).1)); clear hown1 hgrow hat)
        go_roundw
        case rel => exact ⟨j + 1, by omega, by go_num, by rw [HNX2.out, List.length_append, HOL.out]; exact HW.out, HBW.out⟩
        case measure => simp [intOf]; omega
      · have q1 : 0 < j := by omega
        have q2 : decide (0 < j) = true := decide_eq_true q1
        have HNX2 : Hid (behUp k (os.map Rw.rs) (j + 1) = (xs ++ ors) ++ [stp0 k]) := Lib.hid (by rw [HNX.out, if_pos q1, List.append_assoc])
        clear hj0
        go_wp2_with (first
          | (at_builtin; refine HAP.out _ _ _ _ _ rfl _ _ rfl rfl rfl ?_; intro v2 w2 hown1 hgrow hat; have HW := Lib.hid hown1; have HBW := Lib.hid (below_grown HB.out hgl hgrow (fun j hj => (own_ge HO.out hj).1)); have hg2 : g ≤ w2.heap.size := (by have := HBW.out.size; have := HG.out; omega); have HA3 := Lib.hid (app_rx HW.out k (by have := HLEN.out; have := HTA.out; have := HOL.out; omega) hg2 w2.heap.size rfl); clear hown1 hgrow hat)
          | (at_builtin; refine HA3.out _ _ _ _ _ rfl _ _ rfl rfl rfl ?_; intro gg cap w3 hown2 hgrow2 hat2; have HW2 := Lib.hid hown2; have HBW2 := Lib.hid (below_grown (HBW.out.alloc hg2 (.cells #[.int .i64 k, .int .u64 0, .int .u64 0, .int .u64 0, .int .u64 0] 88)) (by simp; omega) hgrow2 (fun j hj => (own_ge HW.out hj).1)); clear hown2 hgrow2 hat2))
        go_roundw
        case rel => exact ⟨j + 1, by omega, by go_num, by rw [HNX2.out, List.length_append, List.length_append, HOL.out]; exact HW2.out, HBW2.out⟩
        case measure => simp [intOf]; omega
    · have hjn : j = n := by omega
      subst hjn
      go_wp2
      go_ret
      exact ⟨_, rfl, by first | exact HO.out | (rw [HG.out]; exact HO.out), by first | exact HB.out | (rw [HG.out]; exact HB.out)⟩
end Go.Proofs.Ytmkgipoljbiocaa
/- rx: Cat, Alt; are these few steps. -/
namespace Go.Proofs.Ytmkgipoljbiocaa
open Go.RowKit
set_option linter.unusedVariables false

def catR (os : List Rw) (n : Nat) : List Rx := if n = 0 then [stp0 2] else behUp 3 (os.map Rw.rs) n
def altR (os : List Rw) (n : Nat) : List Rx := if n = 0 then [⟨1, emptyS⟩] else behUp 4 (os.map Rw.rs) n
theorem refcat_any (w : World) (A : Option Addr) (n d : Nat) (os : List Rw) (h : RRow w A n os) (hsm : tot (os.map Rw.rs) + n ≤ 2000) :
    Calls Try.prog 84 #[.slice A n d] w (Gives w (catR os n)) := by
  have hl2 := h.1.2.1
  have HE := Lib.hid (refempty_any w)
  have HM := Lib.hid (many_any w A n d os 3 h hsm)
  unfold Gives catR at *
  clear h hsm
  by_cases h0 : n = 0
  · rw [if_pos h0]
    have j1 : ((n : Int) == 0) = true := by simp [h0]
    clear HM
    go_enter Try.func84, Try.ntmps84
    go_wp2_with fail
    refine HE.out.mono ?_
    rintro e w1 ⟨v, rfl, hown, hb⟩
    have HO := Lib.hid hown
    have HB := Lib.hid hb
    clear hown hb HE
    go_wp2
    go_ret
    exact ⟨_, rfl, HO.out, HB.out⟩
  · rw [if_neg h0]
    have j1 : ((n : Int) == 0) = false := by simp [h0]
    clear HE
    go_enter Try.func84, Try.ntmps84
    go_wp2_with fail
    refine HM.out.mono ?_
    rintro e w1 ⟨v, rfl, hown, hb⟩
    have HO := Lib.hid hown
    have HB := Lib.hid hb
    clear hown hb HM
    go_wp2
    go_ret
    exact ⟨_, rfl, HO.out, HB.out⟩
theorem refalt_any (w : World) (A : Option Addr) (n d : Nat) (os : List Rw) (h : RRow w A n os) (hsm : tot (os.map Rw.rs) + n ≤ 2000) :
    Calls Try.prog 65 #[.slice A n d] w (Gives w (altR os n)) := by
  have hl2 := h.1.2.1
  have HE := Lib.hid (refset_any emptyS w)
  have HM := Lib.hid (many_any w A n d os 4 h hsm)
  rw [setV_empty] at HE
  unfold Gives altR at *
  clear h hsm
  by_cases h0 : n = 0
  · rw [if_pos h0]
    have j1 : ((n : Int) == 0) = true := by simp [h0]
    clear HM
    go_enter Try.func65, Try.ntmps65
    go_wp2_with fail
    refine HE.out.mono ?_
    rintro e w1 ⟨v, rfl, hown, hb⟩
    have HO := Lib.hid hown
    have HB := Lib.hid hb
    clear hown hb HE
    go_wp2
    go_ret
    exact ⟨_, rfl, HO.out, HB.out⟩
  · rw [if_neg h0]
    have j1 : ((n : Int) == 0) = false := by simp [h0]
    clear HE
    go_enter Try.func65, Try.ntmps65
    go_wp2_with fail
    refine HM.out.mono ?_
    rintro e w1 ⟨v, rfl, hown, hb⟩
    have HO := Lib.hid hown
    have HB := Lib.hid hb
    clear hown hb HM
    go_wp2
    go_ret
    exact ⟨_, rfl, HO.out, HB.out⟩
def msum (ws : List Rw) : Nat := (ws.map fun o => min o.l 1000).sum
theorem msum_take {ws : List Rw} {k : Nat} {o : Rw} (h : ws[k]? = some o) : msum (ws.take (k + 1)) = msum (ws.take k) + min o.l 1000 := by
  unfold msum; rw [List.take_add_one, h]; simp
theorem msum_le (ws : List Rw) (k : Nat) : msum (ws.take k) ≤ 1000 * k := by
  have : ∀ (l : List Rw), msum l ≤ 1000 * l.length := by
    intro l
    induction l with
    | nil => simp [msum]
    | cons o l ih =>
      have e : msum (o :: l) = min o.l 1000 + msum l := by simp [msum]
      rw [e, List.length_cons]; omega
  have h1 := this (ws.take k)
  have h2 : (ws.take k).length ≤ k := List.length_take_le _ _
  omega
def fewR (ws : List Rw) : Bool := decide (ws.length ≤ 40) && decide (msum ws ≤ 900)
theorem few_sum {ws : List Rw} (hl : ∀ o ∈ ws, o.l = o.rs.length) (h : fewR ws = true) : ws.length ≤ 40 ∧ tot (ws.map Rw.rs) ≤ 900 := by
  unfold fewR at h
  simp only [Bool.and_eq_true, decide_eq_true_eq] at h
  refine ⟨h.1, ?_⟩
  have : ∀ (l : List Rw), (∀ o ∈ l, o.l = o.rs.length) → msum l ≤ 900 → tot (l.map Rw.rs) ≤ msum l := by
    intro l
    induction l with
    | nil => intro _ _; simp [tot, msum]
    | cons o l ih =>
      intro hl hm
      have e : msum (o :: l) = min o.l 1000 + msum l := by simp [msum]
      have e2 : tot ((o :: l).map Rw.rs) = o.rs.length + tot (l.map Rw.rs) := by simp [tot]
      have h3 := hl o (by simp)
      rw [e] at hm ⊢
      rw [e2]
      have := ih (fun q hq => hl q (by simp [hq])) (by omega)
      omega
  have := this ws hl h.2
  omega
end Go.Proofs.Ytmkgipoljbiocaa
/- The reader: an atom. -/
namespace Go.Proofs.Ytmkgipoljbiocaa
open Go.RowKit Go.PlainAid
set_option linter.unusedVariables false

/-- The byte at a place. -/
def byteAt (s : ByteArray) (k : Nat) : Nat := ((LS s)[k]?.getD 0).toNat
theorem bt_at (s : ByteArray) (k : Nat) (h : k < s.size) : bt s k = (byteAt s k : Int) := by
  obtain ⟨x, h1, h2⟩ := bt_LS s k h
  unfold byteAt
  rw [h1]; exact h2
theorem byteAt_lt (s : ByteArray) (k : Nat) : byteAt s k < 256 := by unfold byteAt; exact UInt8.toNat_lt _
/-- The bytes that may not stand by themselves. -/
def loneB : ByteArray := ⟨#[40, 41, 91, 93, 124, 42, 43, 63, 46]⟩
/-- An atom: a text in brackets, or a byte that stands for itself; the others are not spoken of. -/
def atomF (tx : Nat → Option (List Rx × Nat)) (s : ByteArray) (k : Nat) : Option (List Rx × Nat) :=
  if k < s.size then
    if byteAt s k = 40 then
      match tx (k + 1) with
      | none => none
      | some (l, nx) => if nx < s.size ∧ byteAt s nx = 41 then some (l, nx + 1) else none
    else if byteAt s k = 92 ∨ seenB (byteAt s k) = false ∨ inB loneB (byteAt s k) = true then none
    else some ([⟨1, fun x => x == byteAt s k⟩], k + 1)
  else none
/-- What the reader's functions give where all is well. -/
def Rd (w : World) (l : List Rx) (nx : Nat) (e : Ending) (w' : World) : Prop :=
  ∃ A c, e = .returned (.tuple #[.slice A l.length c, .int .i64 (nx : Int), .bool true]) ∧ w'.ownsRow w.heap.size 88 5 (.slice A l.length c) l.length (l.flatMap rxC) ∧ Below w.heap.size w w'
theorem lone_sep {c : Nat} (h : inB loneB c = false) : c ≠ 46 ∧ c ≠ 91 ∧ c ≠ 40 := by
  refine ⟨?_, ?_, ?_⟩ <;> (rintro rfl; revert h; decide)
set_option maxHeartbeats 2000000 in
theorem atom_any (s : ByteArray) (k : Nat) (tx : Nat → Option (List Rx × Nat)) (hs : s.size ≤ 1000)
    (htx : ∀ (w : World) l nx, tx (k + 1) = some (l, nx) → Calls Try.prog 52 #[.string s, .int .i64 ((k + 1 : Nat) : Int)] w (Rd w l nx))
    (w : World) (l : List Rx) (nx : Nat) (h : atomF tx s k = some (l, nx)) :
    Calls Try.prog 81 #[.string s, .int .i64 (k : Int)] w (Rd w l nx) := by
  have gb := get_bt s
  unfold atomF at h
  by_cases hk : k < s.size
  case neg => rw [if_neg hk] at h; cases h
  rw [if_pos hk] at h
  have z0 : (0 : Int) ≤ (k : Int) := by omega
  have z1 : (k : Int) < (s.size : Int) := by omega
  have hba := bt_at s k hk
  by_cases h40 : byteAt s k = 40
  case pos =>
    rw [if_pos h40] at h
    cases htk : tx (k + 1) with
    | none => rw [htk] at h; cases h
    | some p =>
      obtain ⟨l1, n1⟩ := p
      rw [htk] at h
      simp only at h
      split at h
      case isFalse => cases h
      case isTrue hn =>
        simp only [Option.some.injEq, Prod.mk.injEq] at h
        obtain ⟨rfl, rfl⟩ := h
        have HT := Lib.hid (htx w l1 n1 htk)
        have t1 : (bt s k == 40) = true := by rw [beq_iff_eq, hba, h40]; rfl
        have y0 : (0 : Int) ≤ (n1 : Int) := by omega
        have y1 : (n1 : Int) < (s.size : Int) := by have := hn.1; omega
        have y2 : ¬ (s.size : Int) ≤ (n1 : Int) := by have := hn.1; omega
        have t2 : (bt s n1 != 41) = false := by rw [bne_eq_false_iff_eq, bt_at s n1 hn.1, hn.2]; rfl
        clear hn htk h40 hba htx
        go_enter Try.func81, Try.ntmps81
        go_wp2_with fail
        refine HT.out.mono ?_
        rintro e w2 ⟨A, c, rfl, ho, hb⟩
        have HO := Lib.hid ho
        have HB := Lib.hid hb
        clear ho hb
        go_wp2
        go_ret3
        exact ⟨A, c, rfl, HO.out, HB.out⟩
  case neg =>
    rw [if_neg h40] at h
    split at h
    case isTrue => cases h
    case isFalse hn =>
      simp only [Option.some.injEq, Prod.mk.injEq] at h
      obtain ⟨rfl, rfl⟩ := h
      simp only [not_or] at hn
      obtain ⟨h92, hse, hlo⟩ := hn
      have hse : seenB (byteAt s k) = true := by simpa using hse
      have hlo : inB loneB (byteAt s k) = false := by simpa using hlo
      obtain ⟨h46, h91, _⟩ := lone_sep hlo
      obtain ⟨b, hbb⟩ : ∃ b, byteAt s k = b := ⟨_, rfl⟩
      have hb256 : b < 256 := by rw [← hbb]; exact byteAt_lt _ _
      rw [hbb] at h40 h92 hse hlo h46 h91 hba ⊢
      have HCH := Lib.hid (char_any s loneB k b w (by omega) (by decide) hk hba h92 hse hlo)
      have HON := Lib.hid fun w' => one_any b w' hb256
      have HSE := Lib.hid fun w' => refset_any (fun x => x == b) w'
      have t1 : (bt s k == 40) = false := by rw [beq_eq_false_iff_ne, hba]; omega
      have t2 : (bt s k == 46) = false := by rw [beq_eq_false_iff_ne, hba]; omega
      have t3 : (bt s k == 91) = false := by rw [beq_eq_false_iff_ne, hba]; omega
      clear h40 h92 hse hlo h46 h91 hba htx hbb
      go_enter Try.func81, Try.ntmps81
      go_wp2_with fail
      refine HCH.out.mono ?_
      rintro e w2 ⟨rfl, rfl⟩
      go_wp2_with fail
      refine (HON.out _).mono ?_
      rintro e w3 ⟨rfl, hb3⟩
      have HB3 := Lib.hid hb3
      clear hb3
      go_wp2_with fail
      refine (HSE.out _).mono ?_
      rintro e w4 ⟨v, rfl, ho4, hb4⟩
      obtain ⟨A, c, rfl, _, _⟩ := own_form ho4
      have HO4 := Lib.hid (own_mono ho4 HB3.out.size)
      have HB4 := Lib.hid (HB3.out.trans (hb4.mono HB3.out.size))
      clear ho4 hb4
      go_wp2
      go_ret3
      exact ⟨A, c, rfl, HO4.out, HB4.out⟩
end Go.Proofs.Ytmkgipoljbiocaa
