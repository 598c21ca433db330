/- Several texts in one: DfaQ, DfaU, With, AppRow, RxE, MunchS, MunchN, MunchR, MunchP, EscBuild, BldStr. -/
import Derived.Test.YtenijacffcdnaaaDoorTw2
import Derived.PlainAid
import Derived.Test.YtenijacffcdnaaaDoorTw1
import Derived.Laws.ResultCell
import Derived.Deep.AppendSrc
import Derived.Stop.BytesEq
import Derived.Lib.QuietBelow
import Derived.Test.YtenijacffcdnaaaDoorRows
import Derived.WalkKit
import Derived.WalkLawsBesides
import Derived.WalkSpells
import Derived.Lib.Builder
import Derived.Lib.AppendStr
import Derived.Lib.UnsafeStr
import Derived.Lib.Hide
import Derived.Laws.Externs
import Derived.Shelf.Strings.Builder1
import Derived.Test.YtenijacffcdnaaaDoorProg
/- Is it a machine: the document's answer. -/
namespace Go.Proofs.YtenijacffcdnaaaDoor
open Go.RowKit Go.Sort
set_option linter.unusedVariables false

attribute [local go_sem ↓] loadA_eq storeA_eq loadD_eq
set_option maxHeartbeats 8000000 in
set_option maxRecDepth 100000 in
theorem rdright_any (w : World) (D : Df) (M : MS) (h : MAt w D M) (hC : ∀ i, i < 256 → M.cl i < 256) :
    Calls Tryd.prog 18 #[.agg (dfA D)] w fun e w' => e = .returned (.bool (rightM M)) ∧ Below w.heap.size w w' := by
  obtain ⟨r, hr⟩ : ∃ r, rightM M = r := ⟨_, rfl⟩
  have HR := Lib.hid hr
  have hln := h.nx.len
  have HLN := Lib.hid hln.1
  have hnm := hln.2
  have HLL := Lib.hid h.lb.1
  have hlm := h.lb.2.1
  have HM := Lib.hid h
  have HWD := Lib.hid h.wd
  rw [hr]
  obtain ⟨g, hg⟩ : ∃ g, w.heap.size = g := ⟨_, rfl⟩
  have HG := Lib.hid hg
  obtain ⟨W1, hW1⟩ : ∃ W, W = w.alloc (.cells (dfA D) 26) := ⟨_, rfl⟩
  have hb1 : Below g w W1 := by rw [hW1, ← hg]; exact (Below.refl _ _).alloc (Nat.le_refl _) _
  have hs1 : W1.heap.size = g + 1 := by rw [hW1, ← hg]; simp
  have hd1 : DfaAt W1 g D := by rw [hW1]; exact DfaAt.new w D g hg
  have HW1 := Lib.hid hW1
  have HB1 := Lib.hid hb1
  have HS1 := Lib.hid hs1
  have HD1 := Lib.hid hd1
  have c256 := hd1.wd
  have c257 := hd1.nx
  have c258 := hd1.lb
  have k256 := cell_regrown c256
  have k257 := cell_regrown c257
  have k258 := cell_regrown c258
  have kL : ∀ d os, (loadA ⟨g, 0, none⟩).run Tryd.prog (grow (redrawn W1 d) os) = .ok (.agg (arrC D.cl)) (grow (redrawn W1 d) os) := fun d os => run_loadAD _ _ D (hd1.below (below_regrown W1 d os) hd1.lt)
  have hcl := h.cl
  have HRB := Lib.hid fun w' => refright_any D.cl (by rw [hcl]; exact hC) w'
  have HWC := Lib.hid fun w' => refwidth_any D.cl (by rw [hcl]; exact hC) w'
  have HCL := Lib.hid hcl
  have wl := widthC_le D.cl 256 (by rw [hcl]; exact hC)
  have HRV : Hid (∀ p, rightB D.cl = p → rightB M.cl = p) := Lib.hid fun p hp => by rw [← hcl]; exact hp
  have HWV : Hid (∀ p, widthC D.cl 256 = p → widthC M.cl 256 = p) := Lib.hid fun p hp => by rw [← hcl]; exact hp
  obtain ⟨rb, hrb⟩ : ∃ p, rightB D.cl = p := ⟨_, rfl⟩
  obtain ⟨wc, hwc⟩ : ∃ p, widthC D.cl 256 = p := ⟨_, rfl⟩
  rw [hrb] at HRB
  rw [hwc] at HWC wl
  have HRE := Lib.hid (HRV.out _ hrb)
  have HWE := Lib.hid (HWV.out _ hwc)
  clear hr hln h hrb hwc hcl hW1 hb1 hs1 hd1 hC HRV HWV
  cases rb with
  | false =>
    have HE : Hid (r = false) := Lib.hid (by rw [← HR.out]; exact rightM_no (.inr (.inr (.inl HRE.out))))
    go_enter Tryd.func18, Tryd.ntmps18
    go_wp2
    rw [← HW1.out]
    refine wp_region_quiet_below (by kernel_rfl) (by kernel_rfl) ?_
    repeat (go_big_quiet_step (first | (with_reducible exact regrown_call HRB.out _ _) | (with_reducible exact regrown_call HWC.out _ _)))
    refine wpQuiet_nil ?_
    intro _ hw'
    obtain ⟨⟨dq, osq⟩, hw''⟩ := hw'
    subst hw''
    go_wp2
    go_ret
    exact ⟨ret_bool HE.out.symm, by first | exact HB1.out.trans ((below_regrown W1 dq osq).mono (by have := HB1.out.size; have := HG.out; omega)) | (rw [HG.out]; exact HB1.out.trans ((below_regrown W1 dq osq).mono (by have := HB1.out.size; have := HG.out; omega)))⟩
  | true =>
    by_cases h2 : (wc : Int) = D.wd
    case neg =>
      have HE : Hid (r = false) := Lib.hid (by rw [← HR.out]; exact rightM_no (.inr (.inr (.inr (by rw [HWE.out, ← HWD.out]; exact h2)))))
      have e2 : (D.wd != (wc : Int)) = true := by rw [bne_iff_ne]; exact fun h => h2 h.symm
      clear h2
      go_enter Tryd.func18, Tryd.ntmps18
      go_wp2
      rw [← HW1.out]
      refine wp_region_quiet_below (by kernel_rfl) (by kernel_rfl) ?_
      repeat (go_big_quiet_step (first | (with_reducible exact regrown_call HRB.out _ _) | (with_reducible exact regrown_call HWC.out _ _)))
      refine wpQuiet_nil ?_
      intro _ hw'
      obtain ⟨⟨dq, osq⟩, hw''⟩ := hw'
      subst hw''
      go_wp2
      go_ret
      exact ⟨ret_bool HE.out.symm, by first | exact HB1.out.trans ((below_regrown W1 dq osq).mono (by have := HB1.out.size; have := HG.out; omega)) | (rw [HG.out]; exact HB1.out.trans ((below_regrown W1 dq osq).mono (by have := HB1.out.size; have := HG.out; omega)))⟩
    have H2 := Lib.hid h2
    have e2 : (D.wd != (wc : Int)) = false := by rw [h2]; simp
    clear h2
    by_cases h0 : D.nl = 0
    · have HE : Hid (r = false) := Lib.hid (by rw [← HR.out]; exact rightM_no (.inl (by rw [HLN.out]; exact h0)))
      have e0 : ((D.nl : Int) == 0) = true := by rw [h0]; rfl
      clear h0
      go_enter Tryd.func18, Tryd.ntmps18
      go_wp2
      rw [← HW1.out]
      refine wp_region_quiet_below (by kernel_rfl) (by kernel_rfl) ?_
      repeat (go_big_quiet_step (first | (with_reducible exact regrown_call HRB.out _ _) | (with_reducible exact regrown_call HWC.out _ _)))
      refine wpQuiet_nil ?_
      intro _ hw'
      obtain ⟨⟨dq, osq⟩, hw''⟩ := hw'
      subst hw''
      go_wp2
      go_ret
      exact ⟨ret_bool HE.out.symm, by first | exact HB1.out.trans ((below_regrown W1 dq osq).mono (by have := HB1.out.size; have := HG.out; omega)) | (rw [HG.out]; exact HB1.out.trans ((below_regrown W1 dq osq).mono (by have := HB1.out.size; have := HG.out; omega)))⟩
    have e0 : ((D.nl : Int) == 0) = false := by simp; omega
    have HPOS : Hid (0 < D.nl) := Lib.hid (by omega)
    by_cases h1 : D.ll = D.nl
    case neg =>
      have HE : Hid (r = false) := Lib.hid (by rw [← HR.out]; exact rightM_no (.inr (.inl (by rw [HLN.out, HLL.out]; exact h1))))
      have e1 : ((D.ll : Int) != (D.nl : Int)) = true := by rw [bne_iff_ne]; omega
      clear h0 h1
      go_enter Tryd.func18, Tryd.ntmps18
      go_wp2
      rw [← HW1.out]
      refine wp_region_quiet_below (by kernel_rfl) (by kernel_rfl) ?_
      repeat (go_big_quiet_step (first | (with_reducible exact regrown_call HRB.out _ _) | (with_reducible exact regrown_call HWC.out _ _)))
      refine wpQuiet_nil ?_
      intro _ hw'
      obtain ⟨⟨dq, osq⟩, hw''⟩ := hw'
      subst hw''
      go_wp2
      go_ret
      exact ⟨ret_bool HE.out.symm, by first | exact HB1.out.trans ((below_regrown W1 dq osq).mono (by have := HB1.out.size; have := HG.out; omega)) | (rw [HG.out]; exact HB1.out.trans ((below_regrown W1 dq osq).mono (by have := HB1.out.size; have := HG.out; omega)))⟩
    have e1 : ((D.ll : Int) != (D.nl : Int)) = false := by rw [h1]; simp
    have HL1 := Lib.hid h1
    have HE : Hid (r = (List.range M.nx.length).all (rowGood M)) := Lib.hid (by rw [← HR.out]; exact rightM_yes (by rw [HLN.out]; omega) (by rw [HLN.out, HLL.out]; exact HL1.out) HRE.out (by rw [HWE.out, ← HWD.out]; exact H2.out))
    clear h0 h1
    go_enter Tryd.func18, Tryd.ntmps18
    go_wp2
    rw [← HW1.out]
    refine wp_region_quiet_below (by kernel_rfl) (by kernel_rfl) ?_
    repeat (go_big_quiet_step (first | (with_reducible exact regrown_call HRB.out _ _) | (with_reducible exact regrown_call HWC.out _ _)))
    refine wpQuiet_nil ?_
    intro _ hw'
    obtain ⟨⟨dq, osq⟩, hw''⟩ := hw'
    subst hw''
    obtain ⟨W2, hW2⟩ : ∃ W, W = grow (redrawn W1 dq) osq := ⟨_, rfl⟩
    have hb2 : Below W1.heap.size W1 W2 := by rw [hW2]; exact below_regrown W1 dq osq
    rw [← hW2]
    have HBW : Hid (Below g w W2) := Lib.hid (HB1.out.trans (hb2.mono (by have := HS1.out; omega)))
    have hs2 : g + 1 ≤ W2.heap.size := by have := hb2.size; have := HS1.out; omega
    have HD2 : Hid (DfaAt W2 g D) := Lib.hid (HD1.out.below hb2 HD1.out.lt)
    have HM2 := Lib.hid (HM.out.below (by rw [HG.out]; exact HBW.out))
    clear hW2 hb2 k256 k257 k258 kL c256 c257 c258 e0 e1 e2
    go_wp2
    go_loopw [3] (fun i wr => ∃ k m : Nat, k ≤ D.nl ∧ i = .int .i64 (k : Int) ∧ wr = W2.drewN m ∧ ∀ j, j < k → rowGood M j = true) (fun i _ => D.nl - (intOf i).toNat)
    case atStart => exact ⟨0, 0, by omega, rfl, rfl, by omega⟩
    case round =>
      obtain ⟨k, m, hk, rfl, hwr, hall⟩ := hrel
      have HA := Lib.hid hall
      have HWR := Lib.hid hwr
      have hbm : Below W2.heap.size W2 wr := by rw [hwr]; exact below_drewN W2 m
      have hdw := HD2.out.below hbm HD2.out.lt
      have f256 := hdw.wd
      have f257 := hdw.nx
      have f258 := hdw.lb
      have HMW := Lib.hid (HM2.out.below hbm)
      have HBWR : Hid (Below g w wr) := Lib.hid (HBW.out.trans (hbm.mono (by omega)))
      have hgl : g + 1 ≤ wr.heap.size := by have := hbm.size; omega
      clear hall hwr hbm hdw
      by_cases hlt : k < D.nl
      case neg =>
        have hk2 : k = D.nl := by omega
        have HF : Hid (r = true) := Lib.hid (by
          rw [HE.out, List.all_eq_true]
          intro j hj
          exact HA.out j (by rw [List.mem_range, HLN.out] at hj; omega))
        have z1 : ¬ (k : Int) < (D.nl : Int) := by omega
        clear hk2
        go_wp2
        go_ret
        exact ⟨ret_bool HF.out.symm, by first | exact HBWR.out | (rw [HG.out]; exact HBWR.out)⟩
      case pos =>
        have z0 : (0 : Int) ≤ (k : Int) := by omega
        have z1 : (k : Int) < (D.nl : Int) := by omega
        have z2 : (k : Int) < (D.ll : Int) := by have := HL1.out; omega
        obtain ⟨b3, off3, l3, ha3, hbl3, hl3, A3, cc3, d3, hr3⟩ := HMW.out.nx.at_ hlt
        obtain ⟨b1, off1, z, ha1, hbl1, hz, d1⟩ := HMW.out.lb.int (k := k) (by have := HL1.out; omega)
        have HA3 := Lib.hid ha3
        rw [ha3] at f257
        rw [ha1] at f258
        have HR3 := Lib.hid hr3
        have hll3 := hr3.2.1
        have HROW : Hid (rowGood M k = ((decide ((l3.length : Int) = D.wd) && l3.all (stOk D.nl)) && decide (-1 ≤ z))) := Lib.hid (by unfold rowGood; rw [hl3, hz, HLN.out, HWD.out])
        have HBAD : Hid (rowGood M k = false → r = false) := Lib.hid fun h => by rw [← HR.out]; exact rightM_at (by rw [HLN.out]; exact hlt) h
        clear hr3 hl3 hz ha1 ha3
        by_cases hw3 : (l3.length : Int) = D.wd
        case neg =>
          have HF : Hid (r = false) := Lib.hid (HBAD.out (by rw [HROW.out, decide_eq_false hw3]; rfl))
          have y1 : ((l3.length : Int) != D.wd) = true := by rw [bne_iff_ne]; exact hw3
          clear hw3
          go_wp2
          go_quiet (fail)
          go_wp2
          go_ret
          exact ⟨ret_bool HF.out.symm, by first | exact HBWR.out.trans ((below_drewN wr nq).mono (by omega)) | (rw [HG.out]; exact HBWR.out.trans ((below_drewN wr nq).mono (by omega)))⟩
        case pos =>
          have y1 : ((l3.length : Int) != D.wd) = false := by rw [hw3]; simp
          have HW3 := Lib.hid hw3
          clear hw3
          by_cases hz1 : z < -1
          case pos =>
            have HF : Hid (r = false) := Lib.hid (HBAD.out (by rw [HROW.out, decide_eq_false (by omega : ¬ -1 ≤ z)]; simp))
            go_wp2
            go_quiet (fail)
            go_wp2
            go_ret
            exact ⟨ret_bool HF.out.symm, by first | exact HBWR.out.trans ((below_drewN wr nq).mono (by omega)) | (rw [HG.out]; exact HBWR.out.trans ((below_drewN wr nq).mono (by omega)))⟩
          case neg =>
            have y3 : decide (z < -1) = false := decide_eq_false hz1
            have hw4 : D.wd = (l3.length : Int) := HW3.out.symm
            have HW4 := Lib.hid hw4
            clear hw4
            go_wp2
            go_quiet (fail)
            go_wp2
            obtain ⟨wo, hwo⟩ : ∃ x, x = wr.drewN nq := ⟨_, rfl⟩
            rw [← hwo]
            have hbm : Below wr.heap.size wr wo := by rw [hwo]; exact below_drewN wr nq
            have HWO : Hid (wo = W2.drewN (m + nq)) := Lib.hid (by rw [hwo, HWR.out]; simp [World.drewN, Nat.add_assoc])
            have HBWO : Hid (Below g w wo) := Lib.hid (HBWR.out.trans (hbm.mono (by omega)))
            have hglo : g + 1 ≤ wo.heap.size := by have := hbm.size; omega
            have p256 := (hbm.cell (p := ⟨g, 256, none⟩) (by show g < _; omega)).trans f256
            have p257 := (hbm.cell (p := ⟨g, 257, none⟩) (by show g < _; omega)).trans f257
            have p3 := (hbm.cell (p := ⟨b3, off3 + k, none⟩) hbl3).trans d3
            have HR3O := Lib.hid (HR3.out.below hbm)
            have P256 := Lib.hid p256
            have P257 := Lib.hid p257
            have P3 := Lib.hid p3
            have hbl3o : b3 < wo.heap.size := by have := hbm.size; omega
            clear hwo hbm f256 f257 f258 d3 d1 p3 p256 p257 hbl3 hbl1
            go_loopw [4] (fun i wr => ∃ j q : Nat, j ≤ l3.length ∧ i = .int .i64 (j : Int) ∧ wr = wo.drewN q ∧ (l3.take j).all (stOk D.nl) = true) (fun i _ => l3.length - (intOf i).toNat)
            case atStart => exact ⟨0, 0, by omega, rfl, rfl, rfl⟩
            case round =>
              obtain ⟨j, q, hj, rfl, hwr, hall⟩ := hrel
              have HAL := Lib.hid hall
              have HWQ := Lib.hid hwr
              have hbq : Below wo.heap.size wo wr := by rw [hwr]; exact below_drewN wo q
              have f256 := (hbq.cell (p := ⟨g, 256, none⟩) (by show g < _; omega)).trans P256.out
              have f257 := (hbq.cell (p := ⟨g, 257, none⟩) (by show g < _; omega)).trans P257.out
              have d3 := (hbq.cell (p := ⟨b3, off3 + k, none⟩) hbl3o).trans P3.out
              have HRQ := Lib.hid (HR3O.out.below hbq)
              have HBQ : Hid (Below g w wr) := Lib.hid (HBWO.out.trans (hbq.mono (by omega)))
              have hglq : g + 1 ≤ wr.heap.size := by have := hbq.size; omega
              clear hall hwr hbq
              by_cases hlt2 : j < l3.length
              case neg =>
                have HNX : Hid (∀ i, i < k + 1 → rowGood M i = true) := Lib.hid fun i hi => by
                  rcases Nat.lt_or_ge i k with h7 | h7
                  · exact HA.out i h7
                  · have : i = k := by omega
                    subst this
                    have h8 := HAL.out
                    rw [List.take_of_length_le (by omega)] at h8
                    rw [HROW.out, decide_eq_true HW3.out, h8, decide_eq_true (by omega : -1 ≤ z)]; rfl
                have z3 : ¬ (j : Int) < D.wd := by have := HW4.out; omega
                clear hlt2
                go_wp2
                go_roundw
                case rel => exact ⟨k + 1, m + nq + q, by omega, by go_num, by rw [HWQ.out, HWO.out]; simp [World.drewN, Nat.add_assoc], HNX.out⟩
                case measure => simp [intOf]; omega
              case pos =>
                have z3 : (j : Int) < D.wd := by have := HW4.out; omega
                have z5 : (j : Int) < (l3.length : Int) := by omega
                have z4 : (0 : Int) ≤ (j : Int) := by omega
                obtain ⟨b4, off4, y, rfl, hbl4, hy, dy⟩ := HRQ.out.int hlt2
                have HY := Lib.hid hy
                have HTK : Hid ((l3.take (j + 1)).all (stOk D.nl) = stOk D.nl y) := Lib.hid (by rw [take_snoc hy, List.all_append, HAL.out]; simp)
                clear hy
                by_cases hy1 : y < -1
                · have HF : Hid (r = false) := Lib.hid (HBAD.out (by
                    have : l3.all (stOk D.nl) = false := by
                      rw [Bool.eq_false_iff]; intro h
                      have := List.all_eq_true.1 h y (List.mem_of_getElem? HY.out)
                      unfold stOk at this
                      simp only [Bool.and_eq_true, decide_eq_true_eq] at this
                      omega
                    rw [HROW.out, this]; simp))
                  go_wp2
                  go_quiet (fail)
                  go_wp2
                  go_ret
                  exact ⟨ret_bool HF.out.symm, by first | exact HBQ.out.trans ((below_drewN wr _).mono (by omega)) | (rw [HG.out]; exact HBQ.out.trans ((below_drewN wr _).mono (by omega)))⟩
                · have y2 : decide (y < -1) = false := decide_eq_false hy1
                  by_cases hy2 : (D.nl : Int) ≤ y
                  · have y4 : decide ((D.nl : Int) ≤ y) = true := decide_eq_true hy2
                    have HF : Hid (r = false) := Lib.hid (HBAD.out (by
                      have : l3.all (stOk D.nl) = false := by
                        rw [Bool.eq_false_iff]; intro h
                        have := List.all_eq_true.1 h y (List.mem_of_getElem? HY.out)
                        unfold stOk at this
                        simp only [Bool.and_eq_true, decide_eq_true_eq] at this
                        omega
                      rw [HROW.out, this]; simp))
                    go_wp2
                    go_quiet (fail)
                    go_wp2
                    go_ret
                    exact ⟨ret_bool HF.out.symm, by first | exact HBQ.out.trans ((below_drewN wr _).mono (by omega)) | (rw [HG.out]; exact HBQ.out.trans ((below_drewN wr _).mono (by omega)))⟩
                  · have y4 : decide ((D.nl : Int) ≤ y) = false := decide_eq_false hy2
                    have HNJ : Hid ((l3.take (j + 1)).all (stOk D.nl) = true) := Lib.hid (by
                      rw [HTK.out]; unfold stOk
                      simp only [Bool.and_eq_true, decide_eq_true_eq]; omega)
                    have HQN : Hid (∀ n, wr.drewN n = wo.drewN (q + n)) := Lib.hid fun n => by rw [HWQ.out]; simp [World.drewN, Nat.add_assoc]
                    go_wp2
                    go_quiet (fail)
                    go_wp2
                    go_roundw
                    case rel => exact ⟨j + 1, _, by omega, by go_num, HQN.out _, HNJ.out⟩
                    case measure => simp [intOf]; omega
end Go.Proofs.YtenijacffcdnaaaDoor
/- Where a machine goes, and its labels: the document's. -/
namespace Go.Proofs.YtenijacffcdnaaaDoor
open Go.RowKit Go.Sort Go.PlainAid
set_option linter.unusedVariables false

/-- The state that follows by a byte. -/
def goM (M : MS) (z : Int) (b : Nat) : Int := if 0 ≤ z then ((M.nx[z.toNat]?).bind fun r => r[M.cl b]?).getD (-1) else z
def goL (M : MS) (z : Int) (l : List UInt8) : Int := l.foldl (fun z c => goM M z c.toNat) z
def runM (M : MS) (l : List UInt8) : Int := if rightM M = true then goL M 0 l else -1
def labM (M : MS) (z : Int) : Int := if rightM M = true ∧ 0 ≤ z then (M.lb[z.toNat]?).getD (-1) else -1
theorem widthC_lt (C : Nat → Nat) : ∀ n i, i < n → C i < widthC C n
  | 0, i, h => by omega
  | n + 1, i, h => by
    simp only [widthC]
    rcases Nat.lt_or_ge i n with h1 | h1
    · have := widthC_lt C n i h1; omega
    · have : i = n := by omega
      subst this; omega
/-- What a machine that is right has. -/
theorem right_row {M : MS} (h : rightM M = true) {i : Nat} (hi : i < M.nx.length) {b : Nat} (hb : b < 256) : ∃ r y, M.nx[i]? = some r ∧ (r.length : Int) = M.wd ∧ r[M.cl b]? = some y ∧ -1 ≤ y ∧ y < (M.nx.length : Int) := by
  have hg := rightM_row h hi
  obtain ⟨_, _, _, hw⟩ := rightM_parts h
  unfold rowGood at hg
  rw [List.getElem?_eq_getElem hi] at hg ⊢
  simp only [Bool.and_eq_true, decide_eq_true_eq] at hg
  have hlt := widthC_lt M.cl 256 b hb
  have hc : M.cl b < (M.nx[i]).length := by omega
  refine ⟨_, (M.nx[i])[M.cl b], rfl, hg.1.1, List.getElem?_eq_getElem hc, ?_⟩
  have := List.all_eq_true.1 hg.1.2 _ (List.getElem_mem hc)
  unfold stOk at this
  simp only [Bool.and_eq_true, decide_eq_true_eq] at this
  exact this
theorem goM_at {M : MS} {i : Nat} {r : List Int} {b : Nat} {y : Int} (h1 : M.nx[i]? = some r) (h2 : r[M.cl b]? = some y) : goM M (i : Int) b = y := by
  unfold goM; rw [if_pos (by omega), Int.toNat_natCast, h1]; simp [h2]
theorem goM_neg {M : MS} {z : Int} {b : Nat} (h : z < 0) : goM M z b = z := by unfold goM; rw [if_neg (by omega)]
theorem goL_neg {M : MS} {z : Int} (h : z < 0) : ∀ l, goL M z l = z := by
  intro l
  induction l with
  | nil => rfl
  | cons c l ih => show goL M (goM M z c.toNat) l = z; rw [goM_neg h]; exact ih
theorem goL_snoc (M : MS) (z : Int) (l : List UInt8) (c : UInt8) : goL M z (l ++ [c]) = goM M (goL M z l) c.toNat := by simp [goL]
theorem goL_app (M : MS) (z : Int) (l m : List UInt8) : goL M z (l ++ m) = goL M (goL M z l) m := by simp [goL]
theorem goM_range {M : MS} (h : rightM M = true) {z : Int} (hz : -1 ≤ z ∧ z < (M.nx.length : Int)) {b : Nat} (hb : b < 256) : -1 ≤ goM M z b ∧ goM M z b < (M.nx.length : Int) := by
  by_cases h0 : z < 0
  · rw [goM_neg h0]; exact hz
  · obtain ⟨i, rfl⟩ : ∃ i : Nat, z = (i : Int) := ⟨z.toNat, by omega⟩
    obtain ⟨r, y, h1, _, h2, h3⟩ := right_row h (i := i) (by omega) hb
    rw [goM_at h1 h2]; exact h3
theorem goL_range' {M : MS} (h : rightM M = true) : ∀ (l : List UInt8) (z : Int), (-1 ≤ z ∧ z < (M.nx.length : Int)) → -1 ≤ goL M z l ∧ goL M z l < (M.nx.length : Int)
  | [], z, hz => hz
  | c :: l, z, hz => goL_range' h l (goM M z c.toNat) (goM_range h hz c.toNat_lt)
theorem goL_range {M : MS} (h : rightM M = true) (l : List UInt8) : -1 ≤ goL M 0 l ∧ goL M 0 l < (M.nx.length : Int) :=
  goL_range' h l 0 (by have := (rightM_parts h).1; omega)
def LS (s : ByteArray) : List UInt8 := s.data.toList
theorem LS_len (s : ByteArray) : (LS s).length = s.size := Array.length_toList
theorem LS_at (s : ByteArray) (k : Nat) (h : k < s.size) : (LS s)[k]? = some (s[k]'h) := by
  show s.data.toList[k]? = _
  rw [Array.getElem?_toList, Array.getElem?_eq_getElem h]; rfl
theorem LS_ext (s : ByteArray) (i j : Nat) : LS (s.extract i j) = ((LS s).drop i).take (j - i) := by
  show (s.extract i j).data.toList = _
  rw [ByteArray.data_extract, Array.toList_extract, List.extract_eq_take_drop]; rfl
/-- The boxed machine: what a call that is handed one begins with. -/
theorem box_dfa {w : World} {g : Nat} (hg : w.heap.size = g) (D : Df) : ∃ W, W = w.alloc (.cells (dfA D) 26) ∧ W.heap.size = g + 1 ∧ Below g w W ∧ DfaAt W g D := by
  refine ⟨_, rfl, by simp [hg], ?_, DfaAt.new w D g hg⟩
  rw [← hg]; exact (Below.refl _ _).alloc (Nat.le_refl _) _
attribute [local go_sem ↓] loadA_eq storeA_eq loadD_eq
set_option maxHeartbeats 4000000 in
set_option maxRecDepth 100000 in
theorem rlabel_any (w : World) (D : Df) (M : MS) (z : Int) (h : MAt w D M) (hC : ∀ i, i < 256 → M.cl i < 256) :
    Calls Tryd.prog 19 #[.agg (dfA D), .int .i64 z] w fun e w' => e = .returned (.int .i64 (labM M z)) ∧ Below w.heap.size w w' := by
  obtain ⟨r, hr⟩ : ∃ r, labM M z = r := ⟨_, rfl⟩
  have HR := Lib.hid hr
  have HLL := Lib.hid h.lb.1
  have HLN := Lib.hid h.nx.len.1
  have hlm := h.lb.2.1
  have HM := Lib.hid h
  rw [hr]
  obtain ⟨g, hg⟩ : ∃ g, w.heap.size = g := ⟨_, rfl⟩
  have HG := Lib.hid hg
  obtain ⟨W1, hW1, hs1, hb1, hd1⟩ := box_dfa hg D
  have HRM := Lib.hid (rdright_any W1 D M (h.below (by rw [hg]; exact hb1)) hC)
  obtain ⟨q, hq⟩ : ∃ q, rightM M = q := ⟨_, rfl⟩
  rw [hq] at HRM
  have HQ := Lib.hid hq
  have HW1 := Lib.hid hW1
  have HB1 := Lib.hid hb1
  have HS1 := Lib.hid hs1
  have HD1 := Lib.hid hd1
  have hld := run_loadD W1 g D hd1
  rw [hW1] at hld
  clear hr h hW1 hs1 hb1 hd1 hq hC
  go_enter Tryd.func19, Tryd.ntmps19
  go_wp2_with fail
  rw [← HW1.out]
  refine HRM.out.mono ?_
  rintro e w2 ⟨rfl, hb2⟩
  have HB2 : Hid (Below g w w2) := Lib.hid (HB1.out.trans (hb2.mono (by have := HS1.out; omega)))
  have hd2 := HD1.out.below hb2 HD1.out.lt
  have c258 := hd2.lb
  clear hb2 hd2 hld
  cases q with
  | false =>
    have HE : Hid (r = -1) := Lib.hid (by rw [← HR.out]; unfold labM; rw [HQ.out]; simp)
    go_wp2
    go_ret
    exact ⟨ret_int HE.out.symm, by first | exact HB2.out | (rw [HG.out]; exact HB2.out)⟩
  | true =>
    by_cases hz : z < 0
    · have HE : Hid (r = -1) := Lib.hid (by rw [← HR.out]; unfold labM; rw [if_neg (by omega)])
      go_wp2
      go_ret
      exact ⟨ret_int HE.out.symm, by first | exact HB2.out | (rw [HG.out]; exact HB2.out)⟩
    · by_cases hz2 : (D.ll : Int) ≤ z
      · have HE : Hid (r = -1) := Lib.hid (by rw [← HR.out]; unfold labM; rw [if_pos ⟨HQ.out, by omega⟩, List.getElem?_eq_none (by rw [HLL.out]; omega)]; rfl)
        go_wp2
        go_ret
        exact ⟨ret_int HE.out.symm, by first | exact HB2.out | (rw [HG.out]; exact HB2.out)⟩
      · obtain ⟨k, rfl⟩ : ∃ k : Nat, z = (k : Int) := ⟨z.toNat, by omega⟩
        obtain ⟨b1, off1, y, ha1, hbl1, hy, d1⟩ := (HM.out.lb.below (w' := w2) (by rw [HG.out]; exact HB2.out)).int (k := k) (by omega)
        have HE : Hid (r = y) := Lib.hid (by rw [← HR.out]; unfold labM; rw [if_pos ⟨HQ.out, by omega⟩, Int.toNat_natCast, hy]; rfl)
        rw [ha1] at c258
        have z1 : (k : Int) < (D.ll : Int) := by omega
        clear hy ha1
        go_wp2
        go_ret
        exact ⟨ret_int HE.out.symm, by first | exact HB2.out | (rw [HG.out]; exact HB2.out)⟩
set_option maxHeartbeats 4000000 in
set_option maxRecDepth 100000 in
theorem rrun_any (w : World) (D : Df) (M : MS) (s : ByteArray) (h : MAt w D M) (hC : ∀ i, i < 256 → M.cl i < 256) (hs : s.size ≤ 100000) :
    Calls Tryd.prog 20 #[.agg (dfA D), .string s] w fun e w' => e = .returned (.int .i64 (runM M (LS s))) ∧ Below w.heap.size w w' := by
  obtain ⟨r, hr⟩ : ∃ r, runM M (LS s) = r := ⟨_, rfl⟩
  have HR := Lib.hid hr
  have HSL := Lib.hid (LS_len s)
  have HLN := Lib.hid h.nx.len.1
  have hnm := h.nx.len.2
  have HM := Lib.hid h
  have HCL := Lib.hid h.cl
  have HCC := Lib.hid hC
  rw [hr]
  obtain ⟨g, hg⟩ : ∃ g, w.heap.size = g := ⟨_, rfl⟩
  have HG := Lib.hid hg
  obtain ⟨W1, hW1, hs1, hb1, hd1⟩ := box_dfa hg D
  have HRM := Lib.hid (rdright_any W1 D M (h.below (by rw [hg]; exact hb1)) hC)
  obtain ⟨q, hq⟩ : ∃ q, rightM M = q := ⟨_, rfl⟩
  rw [hq] at HRM
  have HQ := Lib.hid hq
  have HW1 := Lib.hid hW1
  have HB1 := Lib.hid hb1
  have HS1 := Lib.hid hs1
  have HD1 := Lib.hid hd1
  have hld := run_loadD W1 g D hd1
  rw [hW1] at hld
  clear hr h hW1 hs1 hb1 hd1 hq hC
  go_enter Tryd.func20, Tryd.ntmps20
  go_wp2_with fail
  rw [← HW1.out]
  refine HRM.out.mono ?_
  rintro e w2 ⟨rfl, hb2⟩
  have HB2 : Hid (Below g w w2) := Lib.hid (HB1.out.trans (hb2.mono (by have := HS1.out; omega)))
  have HD2 := Lib.hid (HD1.out.below hb2 HD1.out.lt)
  have hs2 : g + 1 ≤ w2.heap.size := by have := hb2.size; have := HS1.out; omega
  clear hb2 hld
  cases q with
  | false =>
    have HE : Hid (r = -1) := Lib.hid (by rw [← HR.out]; unfold runM; rw [HQ.out]; rfl)
    go_wp2
    go_ret
    exact ⟨ret_int HE.out.symm, by first | exact HB2.out | (rw [HG.out]; exact HB2.out)⟩
  | true =>
    have HE : Hid (r = goL M 0 (LS s)) := Lib.hid (by rw [← HR.out]; unfold runM; rw [HQ.out]; rfl)
    go_wp2
    go_loopw [5, 6] (fun u i wr => ∃ k m : Nat, k ≤ s.size ∧ i = .int .i64 (k : Int) ∧ u = .int .i64 (goL M 0 ((LS s).take k)) ∧ wr = w2.drewN m) (fun _ i _ => s.size - (intOf i).toNat)
    case atStart => exact ⟨0, 0, by omega, rfl, rfl, rfl⟩
    case round =>
      obtain ⟨k, m, hk, rfl, rfl, hwr⟩ := hrel
      have HWR := Lib.hid hwr
      have hbm : Below w2.heap.size w2 wr := by rw [hwr]; exact below_drewN w2 m
      have hdw := HD2.out.below hbm HD2.out.lt
      have HDW := Lib.hid hdw
      have f257 := hdw.nx
      have HBWR : Hid (Below g w wr) := Lib.hid (HB2.out.trans (hbm.mono (by omega)))
      have hgl : g + 1 ≤ wr.heap.size := by have := hbm.size; omega
      have HMW := Lib.hid (HM.out.below (w' := wr) (by rw [HG.out]; exact HBWR.out))
      have hrg := goL_range HQ.out ((LS s).take k)
      rw [HLN.out] at hrg
      clear hwr hbm hdw
      by_cases hlt : k < s.size
      case neg =>
        have hk2 : k = s.size := by omega
        have HF : Hid (goL M 0 ((LS s).take k) = r) := Lib.hid (by rw [HE.out, List.take_of_length_le (by rw [HSL.out]; omega)])
        rw [HF.out] at hrg ⊢
        have z1 : decide (k < s.size) = false := decide_eq_false hlt
        clear hk2
        go_wp2
        go_ret
        exact ⟨rfl, by first | exact HBWR.out | (rw [HG.out]; exact HBWR.out)⟩
      case pos =>
        have z0 : (0 : Int) ≤ (k : Int) := by omega
        have z1 : (k : Int) < (s.size : Int) := by omega
        have z2 : decide (k < s.size) = true := decide_eq_true hlt
        have HTK : Hid (goL M 0 ((LS s).take (k + 1)) = goM M (goL M 0 ((LS s).take k)) (s[k]'hlt).toNat) := Lib.hid (by rw [take_snoc (LS_at s k hlt), goL_snoc])
        obtain ⟨z, hz⟩ : ∃ z, goL M 0 ((LS s).take k) = z := ⟨_, rfl⟩
        rw [hz] at hrg HTK ⊢
        by_cases hz0 : z < 0
        · have HF : Hid (z = r) := Lib.hid (by
            rw [HE.out, ← hz]
            have h1 := goL_app M 0 ((LS s).take k) ((LS s).drop k)
            rw [List.take_append_drop, hz, goL_neg hz0] at h1
            rw [h1, hz])
          have z3 : ¬ 0 ≤ z := by omega
          clear hz
          go_wp2
          go_ret
          exact ⟨ret_int HF.out, by first | exact HBWR.out | (rw [HG.out]; exact HBWR.out)⟩
        · obtain ⟨i, rfl⟩ : ∃ i : Nat, z = (i : Int) := ⟨z.toNat, by omega⟩
          have hb256 : (s[k]'hlt).toNat < 256 := (s[k]'hlt).toNat_lt
          obtain ⟨b, hb⟩ : ∃ b : Nat, (s[k]'hlt).toNat = b := ⟨_, rfl⟩
          have hbI : ((s[k]'hlt).toNat : Int) = (b : Int) := by rw [hb]
          rw [hb] at HTK hb256
          obtain ⟨row, y, h1, h2, h3, h4, h5⟩ := right_row HQ.out (i := i) (by rw [HLN.out]; omega) hb256
          have HNE : Hid (goL M 0 ((LS s).take (k + 1)) = y) := Lib.hid (by rw [HTK.out]; exact goM_at h1 h3)
          obtain ⟨b3, off3, l3, ha3, hbl3, hl3, A3, cc3, d3, hr3⟩ := HMW.out.nx.at_ (i := i) (by omega)
          rw [h1] at hl3
          obtain rfl := Option.some.inj hl3
          have hcb : M.cl b < row.length := (List.getElem?_eq_some_iff.1 h3).1
          obtain ⟨b4, off4, y', rfl, hbl4, hy, dy⟩ := hr3.int hcb
          rw [h3] at hy
          obtain rfl := Option.some.inj hy
          have c0 := HDW.out.cl b hb256
          rw [HCL.out] at c0
          have hc2 := HCC.out b hb256
          rw [ha3] at f257
          obtain ⟨cb, hcbE⟩ : ∃ c, M.cl b = c := ⟨_, rfl⟩
          rw [hcbE] at c0 dy hcb hc2
          have y1 : (i : Int) < (D.nl : Int) := by omega
          have y2 : (0 : Int) ≤ (i : Int) := by omega
          have y3 : (cb : Int) < (row.length : Int) := by omega
          have y4 : (0 : Int) ≤ (cb : Int) := by omega
          have y5 : (b : Int) < 256 := by omega
          have y6 : (0 : Int) ≤ (b : Int) := by omega
          have y7 : decide ((0 : Int) ≤ (i : Int)) = true := decide_eq_true y2
          have HWN : Hid (∀ n, wr.drewN n = w2.drewN (m + n)) := Lib.hid fun n => by rw [HWR.out]; simp [World.drewN, Nat.add_assoc]
          clear h1 h2 h3 ha3 hcbE hz hr3 hl3 hy hb
          go_wp2
          go_quiet (fail)
          go_wp2
          go_roundw
          case rel => exact ⟨k + 1, _, by omega, by go_num, by rw [HNE.out], HWN.out _⟩
          case measure => simp [intOf]; omega
end Go.Proofs.YtenijacffcdnaaaDoor
namespace Go.Proofs.YtenijacffcdnaaaDoor
open Go.RowKit

def addS (S : Nat → Bool) (b : Nat) : Nat → Bool := fun x => S x || x == b
theorem or_bit (S : Nat → Bool) (b : Nat) : bits .or .u64 (wd S (b / 64) : Int) (IntKind.u64.wrap ((2 : Int) ^ (b % 64))) = (wd (addS S b) (b / 64) : Int) := by
  have hk : b % 64 < 64 := by omega
  have hlt : 2 ^ (b % 64) < 2 ^ 64 := Nat.pow_lt_pow_right (by omega) hk
  have h1 := wd_one b (b / 64)
  rw [if_pos rfl] at h1
  rw [wrap_pow _ hk, bits_or_u64 _ _ (wd_lt _ _) hlt, ← h1, wd_or]
  rfl
theorem or_far (S : Nat → Bool) (b i : Nat) (h : i ≠ b / 64) : wd (addS S b) i = wd S i := by
  refine wd_congr fun k hk => ?_
  have : ¬ 64 * i + k = b := by omega
  simp [addS, this]
theorem words_set (S T : Nat → Bool) (i : Nat) (h : i < 4) (hT : ∀ j, j ≠ i → wd T j = wd S j) :
    (#[Value.int .u64 (wd S 0), .int .u64 (wd S 1), .int .u64 (wd S 2), .int .u64 (wd S 3)] : Array Value).setIfInBounds i (.int .u64 (wd T i)) = #[.int .u64 (wd T 0), .int .u64 (wd T 1), .int .u64 (wd T 2), .int .u64 (wd T 3)] := by
  have : i = 0 ∨ i = 1 ∨ i = 2 ∨ i = 3 := by omega
  rcases this with rfl | rfl | rfl | rfl
  · rw [hT 1 (by omega), hT 2 (by omega), hT 3 (by omega)]; rfl
  · rw [hT 0 (by omega), hT 2 (by omega), hT 3 (by omega)]; rfl
  · rw [hT 0 (by omega), hT 1 (by omega), hT 3 (by omega)]; rfl
  · rw [hT 0 (by omega), hT 1 (by omega), hT 2 (by omega)]; rfl

theorem with_any (S : Nat → Bool) (b : Nat) (w : World) (h : b < 256) :
    Calls Tryd.prog 81 #[setV S, .int .i64 b] w fun e w' => e = .returned (setV (addS S b)) ∧ Below w.heap.size w w' := by
  have hw := words_at S (b / 64) (by omega)
  have hl := wd_lt S (b / 64)
  have hor := or_bit S b
  have hset := words_set S (addS S b) (b / 64) (by omega) (fun j hj => or_far S b j hj)
  unfold setV
  go_enter Tryd.func81, Tryd.ntmps81
  go_wp2
  refine bodyPost_ret (results_cell_row rfl _ _ (w.heap.size + 1) 90 _ (0, 0) _ rfl (heap_alloc2_new w _ _) Tryd.underlying90 rfl (by kernel_rfl)) rfl ⟨rfl, ?_⟩
  exact ((Below.refl _ _).alloc (Nat.le_refl _) _).alloc (by simp) _

def emptyS : Nat → Bool := fun _ => false
theorem wd_emptyS (i : Nat) : wd emptyS i = 0 := (wd_ext (by decide) fun k _ => by simp [emptyS]).symm
theorem setV_empty : setV emptyS = .agg #[.int .u64 0, .int .u64 0, .int .u64 0, .int .u64 0] := by unfold setV; simp only [wd_emptyS]; rfl
/-- Block g is a set. -/
def SetAt (w : World) (g : Nat) (S : Nat → Bool) : Prop := w.heap[g]? = some (.cells #[.int .u64 (wd S 0), .int .u64 (wd S 1), .int .u64 (wd S 2), .int .u64 (wd S 3)] 90 (0, 0))
theorem SetAt.lt {w : World} {g : Nat} {S : Nat → Bool} (h : SetAt w g S) : g < w.heap.size := by
  rcases Nat.lt_or_ge g w.heap.size with hl | hl
  · exact hl
  · unfold SetAt at h; rw [Array.getElem?_eq_none hl] at h; cases h
theorem SetAt.below {B g : Nat} {w w' : World} {S : Nat → Bool} (h : SetAt w g S) (hb : Below B w w') (hg : g < B) : SetAt w' g S := (hb.block g hg).trans h
theorem SetAt.cell {w : World} {g : Nat} {S : Nat → Bool} (h : SetAt w g S) (i : Nat) (hi : i < 4) : w.cell? ⟨g, i, none⟩ = some (.int .u64 (wd S i)) := by
  rw [cell_of_row w g i _ _ _ h]; exact words_at S i hi
theorem SetAt.of_empty {w : World} {g : Nat} (h : w.heap[g]? = some (.cells #[.int .u64 0, .int .u64 0, .int .u64 0, .int .u64 0] 90 (0, 0))) : SetAt w g emptyS := by
  unfold SetAt; simp only [wd_emptyS]; exact h
theorem sizeSet : (Tryd.prog.info? 90).map (·.size) = some 4 := by kernel_rfl
theorem wpList_store_set {ops : Array Oper} {rest : List Oper} {o : Oper} {a : Act} {w : World} {Q : Exit → Act → World → Prop} (hgd : o.guard = none) (x y : Operand) (ho : o.op = .store 90 x y)
    (g : Nat) (S T : Nat → Bool) (hx : a.eval x = .pointer (some ⟨g, 0, none⟩)) (hy : a.eval y = setV T) (hg : SetAt w g S)
    (h : ∀ w', SetAt w' g T → (∀ B, B ≤ g → Below B w w') → (∀ k, k ≠ g → w'.heap[k]? = w.heap[k]?) → w'.heap.size = w.heap.size → wpList Tryd.prog ops Q rest (a.put o.dst undef) w') : wpList Tryd.prog ops Q (o :: rest) a w := by
  refine wpList_store_row hgd 90 x y ho g _ hx hy 90 _ hg sizeSet rfl (by simp [Value.oneCell']) ?_
  exact h _ (setRow_heap w g _ _ _ _ hg) (fun B hB => (Below.refl _ _).trans ⟨rfl, rfl, rfl, by simp, fun k hk => setRow_other w g k _ (by omega)⟩) (fun k hk => setRow_other w g k _ hk) (by simp)
theorem one_any (b : Nat) (w : World) (h : b < 256) :
    Calls Tryd.prog 75 #[.int .u8 b] w fun e w' => e = .returned (setV (fun x => x == b)) ∧ Below w.heap.size w w' := by
  have hw := fun w' => with_any emptyS b w' h
  rw [setV_empty] at hw
  have he : setV (addS emptyS b) = setV (fun x => x == b) := SameSet.val fun x _ => by simp [addS, emptyS]
  rw [he] at hw
  have hz := SetAt.of_empty (heap_alloc_new w (.cells #[.int .u64 0, .int .u64 0, .int .u64 0, .int .u64 0] 90))
  unfold setV at hw ⊢
  have HW := Lib.hid hw
  have HZ := Lib.hid hz
  clear hw he hz
  go_enter Tryd.func75, Tryd.ntmps75
  go_wp2_with (first
    | (go_at_call 81; (with_reducible refine (HW.out _).mono ?_); rintro e w1 ⟨rfl, hb1⟩; have HZ1 := Lib.hid (HZ.out.below hb1 (by simp)))
    | (refine wpList_store_set rfl _ _ rfl w.heap.size emptyS (fun x => x == b) rfl rfl HZ1.out ?_; intro w9 hR hB9 hO9 hS9))
  refine bodyPost_ret (results_cell_row rfl _ _ w.heap.size 90 _ (0, 0) _ rfl hR Tryd.underlying90 rfl sizeSet) rfl ⟨rfl, ?_⟩
  exact (((Below.refl _ _).alloc (Nat.le_refl _) _).trans (hb1.mono (by simp))).trans (hB9 _ (Nat.le_refl _))

/-- The bytes from lo to hi, below n. -/
def spanS (lo hi : Int) (n : Nat) : Nat → Bool := fun x => decide (lo ≤ (x : Int)) && decide ((x : Int) ≤ hi) && decide (x < n)
set_option maxHeartbeats 1000000 in
set_option maxRecDepth 100000 in
theorem span_any (lo hi : Int) (w : World) :
    Calls Tryd.prog 80 #[.int .i64 lo, .int .i64 hi] w fun e w' => e = .returned (setV (spanS lo hi 256)) ∧ Below w.heap.size w w' := by
  have hz := SetAt.of_empty (heap_alloc2_new w (.cells #[.int .u64 0, .int .u64 0, .int .u64 0, .int .u64 0] 90) (.cells #[.int .u64 0, .int .u64 0, .int .u64 0, .int .u64 0] 90))
  have hy := SetAt.of_empty (heap_alloc2_old w (.cells #[.int .u64 0, .int .u64 0, .int .u64 0, .int .u64 0] 90) (.cells #[.int .u64 0, .int .u64 0, .int .u64 0, .int .u64 0] 90))
  have HZ := Lib.hid hz
  have HY := Lib.hid hy
  clear hz hy
  unfold setV
  go_enter Tryd.func80, Tryd.ntmps80
  go_wp2
  go_loopw [6] (fun i wr => ∃ k : Nat, k ≤ 256 ∧ i = .int .i64 k ∧ SetAt wr w.heap.size emptyS ∧ SetAt wr (w.heap.size + 1) (spanS lo hi k) ∧ Below w.heap.size w wr) (fun i _ => 256 - (intOf i).toNat)
  case atStart =>
    refine ⟨0, by omega, rfl, HY.out, ?_, ((Below.refl _ _).alloc (Nat.le_refl _) _).alloc (by simp) _⟩
    have : setV (spanS lo hi 0) = setV emptyS := SameSet.val fun x _ => by simp [spanS, emptyS]
    have hz := HZ.out
    unfold SetAt at hz ⊢
    unfold setV at this
    have this := Value.agg.inj this
    rw [this]; exact hz
  case round =>
    obtain ⟨k, hk, rfl, hY, hZ, hb⟩ := hrel
    by_cases hlt : k < 256
    · have hnext : SameSet (if lo ≤ (k : Int) ∧ (k : Int) ≤ hi then addS (spanS lo hi k) k else spanS lo hi k) (spanS lo hi (k + 1)) := by
        intro x _
        by_cases hx : x = k
        · subst hx
          split
          · rename_i hc; simp [addS, spanS, hc.1, hc.2]
          · rename_i hc
            have : (decide (lo ≤ (x : Int)) && decide ((x : Int) ≤ hi)) = false := by
              rw [Bool.and_eq_false_iff]
              by_cases hl : lo ≤ (x : Int)
              · right; simp; have : ¬ (x : Int) ≤ hi := fun hh => hc ⟨hl, hh⟩; omega
              · left; simpa using hl
            simp [spanS, this]
        · have e : decide (x < k + 1) = decide (x < k) := by
            rw [decide_eq_decide]; omega
          split
          · simp [addS, spanS, e, hx]
          · simp [spanS, e]
      have c0 := hZ.cell 0 (by omega)
      have c1 := hZ.cell 1 (by omega)
      have c2 := hZ.cell 2 (by omega)
      have c3 := hZ.cell 3 (by omega)
      by_cases hlo : lo ≤ (k : Int)
      · by_cases hhi : (k : Int) ≤ hi
        · rw [if_pos ⟨hlo, hhi⟩] at hnext
          have HN := Lib.hid hnext
          have hw := fun w' => with_any (spanS lo hi k) k w' hlt
          unfold setV at hw
          have HW := Lib.hid hw
          clear hnext hw
          have hz0 := hZ.lt
          have HZ2 := Lib.hid hZ
          have HY2 := Lib.hid hY
          clear hZ hY
          go_wp2_with (first
            | (go_at_call 81; (with_reducible refine (HW.out _).mono ?_); rintro e w1 ⟨rfl, hb1⟩; have HZ1 := Lib.hid (HZ2.out.below hb1 hz0))
            | ((with_reducible refine wpList_store_set rfl _ _ rfl (w.heap.size + 1) (spanS lo hi k) (addS (spanS lo hi k) k) ?_ ?_ HZ1.out ?_); rfl; rfl; intro w9 hR hB9 hO9 hS9; have HR := Lib.hid hR; have HO := Lib.hid hO9; have HB := Lib.hid hB9; clear hR hO9 hB9))
          go_roundw
          case rel =>
            refine ⟨k + 1, by omega, by go_num, (HO.out _ (by omega)).trans (HY2.out.below hb1 (by omega)), ?_, (hb.trans (hb1.mono hb.size)).trans (HB.out _ (by omega))⟩
            have e := HN.out.val
            unfold setV at e
            have e := Value.agg.inj e
            have hr := HR.out
            unfold SetAt at hr ⊢
            rw [← e]; exact hr
          case measure => simp [intOf]; omega
        · rw [if_neg (fun hc => hhi hc.2)] at hnext
          have HN := Lib.hid hnext
          clear hnext
          go_wp2
          go_roundw
          case rel =>
            refine ⟨k + 1, by omega, by go_num, hY, ?_, hb⟩
            have e := HN.out.val
            unfold setV at e
            have e := Value.agg.inj e
            unfold SetAt at hZ ⊢
            rw [← e]; exact hZ
          case measure => simp [intOf]; omega
      · rw [if_neg (fun hc => hlo hc.1)] at hnext
        have HN := Lib.hid hnext
        clear hnext
        go_wp2
        go_roundw
        case rel =>
          refine ⟨k + 1, by omega, by go_num, hY, ?_, hb⟩
          have e := HN.out.val
          unfold setV at e
          have e := Value.agg.inj e
          unfold SetAt at hZ ⊢
          rw [← e]; exact hZ
        case measure => simp [intOf]; omega
    · have hk2 : k = 256 := by omega
      have Hk := Lib.hid hk2
      have c0 := hZ.cell 0 (by omega)
      have c1 := hZ.cell 1 (by omega)
      have c2 := hZ.cell 2 (by omega)
      have c3 := hZ.cell 3 (by omega)
      clear hk2
      go_wp2_with (refine wpList_store_set rfl _ _ rfl w.heap.size emptyS (spanS lo hi k) rfl rfl hY ?_; intro w9 hR hB9 hO9 hS9)
      have hR2 := hR
      rw [Hk.out] at hR2
      refine bodyPost_ret (results_cell_row rfl _ _ w.heap.size 90 _ (0, 0) _ rfl hR2 Tryd.underlying90 rfl sizeSet) rfl ⟨rfl, ?_⟩
      exact hb.trans (hB9 _ (Nat.le_refl _))
end Go.Proofs.YtenijacffcdnaaaDoor
/- append(v, s...): a row of elements behind a row of the call's own; s may be empty, or none. -/
namespace Go.Proofs.YtenijacffcdnaaaDoor
open Go.RowKit
set_option linter.unusedVariables false

theorem setCells_nil (w : World) (b i : Nat) : w.setCells b i [] = w := rfl
theorem run_append_row {P : Program} {α : Type} {C : α → List Value} {k : Nat} (w : World) (t ty : TypeId) (base : Nat) (e : TypeId) (i : TypeInfo) (z : Value) (bytes : Nat) (ht : P.underlying t = some (.slice e)) (hi : P.info? e = some i) (hz : i.zero = some z)
    (hsize : i.size = k) (hby : i.bytes = bytes) (hzs : z.cells.size = k) (hk0 : 0 < k) (hC : ∀ o, (C o).length = k) (hC1 : ∀ o, ∀ u ∈ C o, u.oneCell' = true)
    (v : Value) (n : Nat) (xs : List Value) (hown : w.ownsRow base e k v n xs)
    (a : Option Addr) (m c : Nat) (os : List α) (hr : CRow C k w a m os)
    (h63 : n + m ≤ maxLen) (hbytes : (n + m) * bytes ≤ 140737488355328) (hbase : base ≤ w.heap.size) :
    ∃ v' w', (Builtin.append_ #[t, t] ty #[v, .slice a m c]).run P w = .ok v' w' ∧ w'.ownsRow base e k v' (n + m) (xs ++ os.flatMap C) ∧ w.grownBy w' v.ownBlock ∧ (v'.ownBlock = v.ownBlock ∨ v'.ownBlock = some w.heap.size) := by
  have h1 : ∀ u ∈ os.flatMap C, u.oneCell' = true := fun u hu => by
    obtain ⟨o, _, ho⟩ := List.mem_flatMap.1 hu
    exact hC1 o u ho
  have hlen : ∀ l : List α, (l.flatMap C).length = l.length * k := fun l => by
    induction l with
    | nil => simp
    | cons x l ih => rw [List.flatMap_cons, List.length_append, ih, hC, List.length_cons, Nat.succ_mul, Nat.add_comm]
  have hl : (os.flatMap C).length = m * k := by rw [hlen, hr.1]
  cases a with
  | some ad =>
    have hnews : ∀ j u, (os.flatMap C)[j]? = some u → w.cell? (ad.add j) = some u := by
      intro j u hu
      have hj : j < m * k := by rw [← hl]; exact (List.getElem?_eq_some_iff.1 hu).1
      have hm : 0 < m := by
        rcases Nat.eq_zero_or_pos m with h0 | h0
        · subst h0; simp at hj
        · exact h0
      obtain ⟨b, off, ha, hlt, hc⟩ := hr.2.2 hm
      obtain rfl := Option.some.inj ha
      have hdm : j / k < m := by
        rw [Nat.div_lt_iff_lt_mul hk0]; exact hj
      have hjm : j % k < k := Nat.mod_lt _ hk0
      have ho : os[j / k]? = some (os[j / k]'(by rw [hr.1]; exact hdm)) := List.getElem?_eq_getElem (by rw [hr.1]; exact hdm)
      have hv : (C (os[j / k]'(by rw [hr.1]; exact hdm)))[j % k]? = some ((C (os[j / k]'(by rw [hr.1]; exact hdm)))[j % k]'(by rw [hC]; exact hjm)) := List.getElem?_eq_getElem (by rw [hC]; exact hjm)
      have e1 := flat_get hC os (j / k) _ ho (j % k) _ hv
      have e2 : j / k * k + j % k = j := by rw [Nat.mul_comm]; exact Nat.div_add_mod j k
      rw [e2, hu] at e1
      obtain rfl := Option.some.inj e1
      have := hc (j / k) _ ho (j % k) _ hv
      rw [show off + j / k * k + j % k = off + j by omega] at this
      have e : (⟨b, off, none⟩ : Addr).add j = ⟨b, off + j, none⟩ := by unfold Addr.add; split <;> simp_all
      rw [e]; exact this
    obtain ⟨v', w', hrun, h2, h3, _, h5⟩ := run_append_own_at (P := P) w base t ty e i z k bytes ht hi hz hsize hby hzs hk0 v n xs hown ad m c (os.flatMap C) hl hnews h1 h63 hbytes hbase
    exact ⟨v', w', hrun, h2, h3, h5⟩
  | none =>
    have hm : m = 0 := by
      rcases Nat.eq_zero_or_pos m with h0 | h0
      · exact h0
      · obtain ⟨b, off, ha, _⟩ := hr.2.2 h0; cases ha
    subst hm
    have hos : os = [] := List.length_eq_zero_iff.1 hr.1
    subst hos
    have grow0 : w.grownBy w v.ownBlock := World.grownBy.refl _ _
    refine ⟨v, w, ?_, by simpa using hown, grow0, .inl rfl⟩
    rcases hown.2 with ⟨rfl, rfl⟩ | ⟨g, cap, cur, rfl, hbg, hg, hnc, hcm, hcs, htake⟩
    · simp [Builtin.append_, run_underlying ht, sizeOf, typeInfo, hi, Builtin.lenOf, Builtin.firstCells]
    · have := run_append_room_src (P := P) w t t ty e i ht hi g 0 n cap (.slice none 0 c) 0 [] (Src.ofNil w ht c) (by omega) (by simp) (by simp)
      rw [this, setCells_nil]; rfl
/-- At a plain region's list. -/
theorem wpList_append_row {P : Program} {α : Type} {C : α → List Value} {k : Nat} (w : World) {ops : Array Oper} {rest : List Oper} {o : Oper} {act : Act} {Q : Exit → Act → World → Prop} (hgd : o.guard = none) (s x : Operand) (t : TypeId)
    (ho : o.op = .call { callee := .builtin .append, args := #[s, x], argTypes := #[t, t] })
    (base : Nat) (e : TypeId) (i : TypeInfo) (z : Value) (bytes : Nat) (ht : P.underlying t = some (.slice e)) (hi : P.info? e = some i) (hz : i.zero = some z)
    (hsize : i.size = k) (hby : i.bytes = bytes) (hzs : z.cells.size = k) (hk0 : 0 < k) (hC : ∀ o, (C o).length = k) (hC1 : ∀ o, ∀ u ∈ C o, u.oneCell' = true)
    (v : Value) (n : Nat) (xs : List Value) (hs : act.eval s = v) (hown : w.ownsRow base e k v n xs)
    (a : Option Addr) (m c : Nat) (os : List α) (hx : act.eval x = .slice a m c) (hr : CRow C k w a m os)
    (h63 : n + m ≤ maxLen) (hbytes : (n + m) * bytes ≤ 140737488355328) (hbase : base ≤ w.heap.size)
    (h : ∀ v' w', w'.ownsRow base e k v' (n + m) (xs ++ os.flatMap C) → w.grownBy w' v.ownBlock → (v'.ownBlock = v.ownBlock ∨ v'.ownBlock = some w.heap.size) → wpList P ops Q rest (act.put o.dst v') w') : wpList P ops Q (o :: rest) act w := by
  refine wpList_plain hgd fun K hK => ?_
  obtain ⟨v', w', hrun, h2, h3, h4⟩ := run_append_row (P := P) w t o.type base e i z bytes ht hi hz hsize hby hzs hk0 hC hC1 v n xs hown a m c os hr h63 hbytes hbase
  unfold Oper.wp execOp
  simp only [ho, resolve, invoke, builtin, Sem.run_bind, Sem.run_pure, Result.andThen_ok, List.map_toArray, List.map_cons, List.map_nil, hs, hx, hrun]
  exact hK _ _ (h v' w' h2 h3 h4)
end Go.Proofs.YtenijacffcdnaaaDoor
/- Steps of expressions as rows; which are the same. -/
namespace Go.Proofs.YtenijacffcdnaaaDoor
open Go.RowKit Go.Extern.Stop
set_option linter.unusedVariables false

/-- A step. -/
structure Rx where
  k : Int
  s : Nat → Bool
instance : Inhabited Rx := ⟨⟨0, emptyS⟩⟩
def rxC (r : Rx) : List Value := [.int .i64 r.k, .int .u64 (wd r.s 0), .int .u64 (wd r.s 1), .int .u64 (wd r.s 2), .int .u64 (wd r.s 3)]
theorem rxC_len (r : Rx) : (rxC r).length = 5 := rfl
theorem rxC_one (r : Rx) : ∀ u ∈ rxC r, u.oneCell' = true := fun u hu => by
  simp [rxC] at hu
  rcases hu with rfl | rfl | rfl | rfl | rfl <;> rfl
/-- A step without a set. -/
def stp0 (k : Int) : Rx := ⟨k, emptyS⟩
theorem stp0_C (k : Int) : rxC (stp0 k) = [.int .i64 k, .int .u64 0, .int .u64 0, .int .u64 0, .int .u64 0] := by
  simp [rxC, stp0, wd_emptyS]
theorem infoRx : (Tryd.prog.info? 104).map (fun i => (i.zero, i.size, i.bytes)) = some (some (.agg #[.int .i64 0, .int .u64 0, .int .u64 0, .int .u64 0, .int .u64 0]), 5, 40) := by kernel_rfl
theorem infoSet : (Tryd.prog.info? 90).map (fun i => (i.zero, i.size, i.bytes)) = some (some (.agg #[.int .u64 0, .int .u64 0, .int .u64 0, .int .u64 0]), 4, 32) := by kernel_rfl
theorem infoKind : (Tryd.prog.info? 102).map (fun i => (i.zero, i.size, i.bytes)) = some (some (.int .i64 0), 1, 8) := by kernel_rfl
theorem infoU64 : (Tryd.prog.info? 88).map (fun i => (i.zero, i.size, i.bytes)) = some (some (.int .u64 0), 1, 8) := by kernel_rfl
theorem run_equalIn_ints {P : Program} (w : World) (d : Nat) (t e : TypeId) (n : Nat) (k : IntKind) (ht : P.underlying t = some (.array n e)) (he : P.underlying e = some (.int k)) (hsz : ∀ w, (sizeOf e).run P w = .ok 1 w)
    (xs ys : List Int) (hx : xs.length = n) (hy : ys.length = n) :
    (Op.equalIn (d + 2) t (.agg (xs.map fun x => Value.int k x).toArray) (.agg (ys.map fun x => Value.int k x).toArray)).run P w = .ok ((List.range' 0 n 1).all fun i => xs.getD i 0 == ys.getD i 0) w := by
  rw [Op.equalIn]
  simp only [Sem.run_bind, run_underlying ht, Result.andThen_ok, hsz, Std.Legacy.Range.forIn_eq_forIn_range', Std.Legacy.Range.size, Nat.sub_zero, Nat.add_sub_cancel, Nat.div_one]
  have hl : ∀ i ∈ List.range' 0 n 1, i < n := fun i hi => by simpa using (List.mem_range'_1.1 hi).2
  generalize List.range' 0 n 1 = l at hl ⊢
  induction l with
  | nil => simp
  | cons i l ih =>
    have hi : i < n := hl i (by simp)
    have px : (part e (xs.map fun x => Value.int k x).toArray (i * 1)).run P w = .ok (.int k (xs.getD i 0)) w := by
      simp [part, isAgg, run_underlying he, List.getD, List.getElem?_eq_getElem (show i < xs.length by omega)]
    have py : (part e (ys.map fun x => Value.int k x).toArray (i * 1)).run P w = .ok (.int k (ys.getD i 0)) w := by
      simp [part, isAgg, run_underlying he, List.getD, List.getElem?_eq_getElem (show i < ys.length by omega)]
    have pe : (Op.equalIn (d + 1) e (.int k (xs.getD i 0)) (.int k (ys.getD i 0))).run P w = .ok (xs.getD i 0 == ys.getD i 0) w := by
      rw [run_equalIn_int w d e k k _ _ he]
    simp only [List.forIn_cons, Sem.run_bind, px, py, pe, Result.andThen_ok, List.all_cons]
    cases hb : (xs.getD i 0 == ys.getD i 0)
    · simp
    · simp only [Bool.not_true, Bool.false_eq_true, if_false, Sem.run_pure, Result.andThen_ok, Bool.true_and]
      exact ih fun j hj => hl j (by simp [hj])
theorem run_eq_set (d : Nat) (a b c e a' b' c' e' : Int) (w : World) : (Op.equalIn (d + 2) 90 (.agg #[.int .u64 a, .int .u64 b, .int .u64 c, .int .u64 e]) (.agg #[.int .u64 a', .int .u64 b', .int .u64 c', .int .u64 e'])).run Tryd.prog w = .ok (a == a' && (b == b' && (c == c' && e == e'))) w := by
  obtain ⟨i0, hi, _, hz1, _⟩ := info_parts infoU64
  have := run_equalIn_ints (P := Tryd.prog) w d 90 88 4 .u64 Tryd.underlying90 Tryd.underlying88 (fun w => by simp [sizeOf, typeInfo, hi, hz1]) [a, b, c, e] [a', b', c', e'] rfl rfl
  refine Eq.trans this ?_
  simp [List.range']
def eqS (x y : Value) : Sem Bool := Op.equalIn 10000 90 x y
theorem eqS_eq (x y : Value) : Op.equalIn 10000 90 x y = eqS x y := rfl
theorem eqS_eq' (x y : Value) : Op.equal 90 x y = eqS x y := rfl
theorem run_eqS (a b c d a' b' c' d' : Int) (w : World) : (eqS (.agg #[.int .u64 a, .int .u64 b, .int .u64 c, .int .u64 d]) (.agg #[.int .u64 a', .int .u64 b', .int .u64 c', .int .u64 d'])).run Tryd.prog w = .ok (a == a' && (b == b' && (c == c' && d == d'))) w := run_eq_set 9998 _ _ _ _ _ _ _ _ w
/-- Equality of steps, behind a name of its own. -/
def eqX (x y : Value) : Sem Bool := Op.equalIn 10000 104 x y
theorem eqX_eq (x y : Value) : Op.equalIn 10000 104 x y = eqX x y := rfl
theorem eqX_eq' (x y : Value) : Op.equal 104 x y = eqX x y := rfl
theorem run_eqX (k a b c d : Int) (w : World) : (eqX (.agg #[.int .i64 k, .int .u64 a, .int .u64 b, .int .u64 c, .int .u64 d]) (.agg #[.int .i64 k, .int .u64 a, .int .u64 b, .int .u64 c, .int .u64 d])).run Tryd.prog w = .ok true w := by
  have hs := run_eq_set 9997 a b c d a b c d w
  simp only [beq_self_eq_true, Bool.and_self] at hs
  have hk := run_equalIn_int (P := Tryd.prog) w 9998 102 .i64 .i64 k k Tryd.underlying102
  simp only [beq_self_eq_true] at hk
  unfold eqX
  rw [show (10000 : Nat) = 9999 + 1 from rfl, Op.equalIn]
  simp only [Sem.run_bind, run_underlying Tryd.underlying104, Result.andThen_ok]
  have hst : Tryd.prog.stoodInHeld 104 = false := by kernel_rfl
  obtain ⟨iS, hiS, _, hzS, _⟩ := info_parts infoSet
  obtain ⟨iK, hiK, _, hzK, _⟩ := info_parts infoKind
  have h1 : (part 102 #[Value.int .i64 k, .int .u64 a, .int .u64 b, .int .u64 c, .int .u64 d] 0).run Tryd.prog w = .ok (.int .i64 k) w := by
    simp [part, isAgg, run_underlying Tryd.underlying102, sizeOf, typeInfo, hiK, hzK]
  have h2 : (part 90 #[Value.int .i64 k, .int .u64 a, .int .u64 b, .int .u64 c, .int .u64 d] 1).run Tryd.prog w = .ok (.agg #[.int .u64 a, .int .u64 b, .int .u64 c, .int .u64 d]) w := by
    simp [part, isAgg, run_underlying Tryd.underlying90, sizeOf, typeInfo, hiS, hzS]
  have hpr : (program).run Tryd.prog w = .ok Tryd.prog w := rfl
  simp [hpr, hst, h1, h2, hs, hk]
end Go.Proofs.YtenijacffcdnaaaDoor
/- A text in pieces: what it is; plain laws. -/
namespace Go.Proofs.YtenijacffcdnaaaDoor
open Go.RowKit Go.PlainAid
set_option linter.unusedVariables false

/-- The longest beginning, up to some length, that has a label: the label, its length. -/
def bestK (M : MS) (l : List UInt8) : Nat → Option (Int × Nat)
  | 0 => none
  | k + 1 => if 0 ≤ labM M (goL M 0 (l.take (k + 1))) then some (labM M (goL M 0 (l.take (k + 1))), k + 1) else bestK M l k
def markOf (a : Nat) : Option (Int × Nat) → Int × Int
  | none => (-1, 0)
  | some (t, e) => (t, (a : Int) + (e : Int))
def endOf (a : Nat) : Option (Int × Nat) → Int × Nat
  | none => (-1, a + 1)
  | some (t, e) => (t, a + e)
def nextM (M : MS) (l : List UInt8) (a : Nat) : Int × Nat := endOf a (bestK M (l.drop a) (l.length - a))
theorem labM_neg {M : MS} {z : Int} (h : z < 0) : labM M z = -1 := by unfold labM; rw [if_neg (by omega)]
theorem bestK_some {M : MS} {l : List UInt8} : ∀ {k : Nat} {t : Int} {e : Nat}, bestK M l k = some (t, e) → 0 ≤ t ∧ 1 ≤ e ∧ e ≤ k ∧ t = labM M (goL M 0 (l.take e))
  | 0, t, e, h => by cases h
  | k + 1, t, e, h => by
    simp only [bestK] at h
    split at h
    · rename_i h1
      simp only [Option.some.injEq, Prod.mk.injEq] at h
      obtain ⟨rfl, rfl⟩ := h
      exact ⟨h1, by omega, by omega, rfl⟩
    · obtain ⟨h1, h2, h3, h4⟩ := bestK_some h
      exact ⟨h1, h2, by omega, h4⟩
/-- No longer beginning has a label. -/
theorem bestK_max {M : MS} {l : List UInt8} : ∀ {k : Nat} (j : Nat), 1 ≤ j → j ≤ k → (∀ t e, bestK M l k = some (t, e) → e < j) → labM M (goL M 0 (l.take j)) < 0
  | 0, j, h1, h2, _ => by omega
  | k + 1, j, h1, h2, h => by
    by_cases hl : 0 ≤ labM M (goL M 0 (l.take (k + 1)))
    · have := h _ _ (by simp only [bestK]; rw [if_pos hl])
      omega
    · by_cases e : j = k + 1
      · subst e; omega
      · exact bestK_max (k := k) j h1 (by omega) fun t e h2 => h t e (by simp only [bestK]; rw [if_neg hl]; exact h2)
theorem bestK_skip {M : MS} {l : List UInt8} {k : Nat} (n : Nat) (hk : k ≤ n) (h : ∀ j, k < j → j ≤ n → labM M (goL M 0 (l.take j)) < 0) : bestK M l n = bestK M l k := by
  induction n with
  | zero => have : k = 0 := by omega
            rw [this]
  | succ n ih =>
    by_cases e : k = n + 1
    · rw [e]
    · simp only [bestK]
      rw [if_neg (by have := h (n + 1) (by omega) (by omega); omega)]
      exact ih (by omega) fun j h1 h2 => h j h1 (by omega)
theorem goL_dead {M : MS} {l : List UInt8} {k j : Nat} (h : goL M 0 (l.take k) < 0) (hk : k ≤ j) : goL M 0 (l.take j) < 0 := by
  have e : l.take j = l.take k ++ (l.take j).drop k := by
    have := List.take_append_drop k (l.take j)
    rw [List.take_take, Nat.min_eq_left hk] at this
    exact this.symm
  rw [e, goL_app, goL_neg h]
  exact h
theorem bestK_dead {M : MS} {l : List UInt8} {k : Nat} (n : Nat) (hk : k ≤ n) (h : goL M 0 (l.take (k + 1)) < 0) : bestK M l n = bestK M l k :=
  bestK_skip n hk fun j h1 h2 => by rw [labM_neg (goL_dead h (by omega))]; decide
theorem nextM_end {M : MS} {l : List UInt8} {a : Nat} (h : a < l.length) : a < (nextM M l a).2 ∧ (nextM M l a).2 ≤ l.length := by
  unfold nextM
  cases hb : bestK M (l.drop a) (l.length - a) with
  | none => simp only [endOf]; omega
  | some p =>
    obtain ⟨t, e⟩ := p
    obtain ⟨_, h1, h2, _⟩ := bestK_some hb
    simp only [endOf]; omega
/-- The mark, as it is held against none. -/
theorem mark_eq (a : Nat) (o : Option (Int × Nat)) (h : ∀ t e, o = some (t, e) → 0 ≤ t) : ((markOf a o).1 == -1 && (markOf a o).2 == 0) = o.isNone := by
  cases o with
  | none => rfl
  | some p =>
    obtain ⟨t, e⟩ := p
    have := h t e rfl
    have h1 : (t == -1) = false := by rw [beq_eq_false_iff_ne]; omega
    simp [markOf, h1]
/-! ## Pieces. -/
def cutM (M : MS) (l : List UInt8) : Nat → Nat → List (Int × List UInt8)
  | 0, _ => []
  | f + 1, a => if a < l.length then ((nextM M l a).1, (l.drop a).take ((nextM M l a).2 - a)) :: cutM M l f (nextM M l a).2 else []
/-- All pieces from a place on. -/
def cutS (M : MS) (l : List UInt8) (a : Nat) : List (Int × List UInt8) := cutM M l (l.length - a) a
theorem cutM_enough {M : MS} {l : List UInt8} : ∀ {f g a : Nat}, l.length - a ≤ f → l.length - a ≤ g → cutM M l f a = cutM M l g a
  | 0, 0, a, _, _ => rfl
  | 0, g + 1, a, h1, h2 => by simp only [cutM]; rw [if_neg (by omega)]
  | f + 1, 0, a, h1, h2 => by simp only [cutM]; rw [if_neg (by omega)]
  | f + 1, g + 1, a, h1, h2 => by
    simp only [cutM]
    split
    · rename_i h
      have := (nextM_end (M := M) h).1
      rw [cutM_enough (f := f) (g := g) (by omega) (by omega)]
    · rfl
theorem cutS_step {M : MS} {l : List UInt8} {a : Nat} (h : a < l.length) : cutS M l a = ((nextM M l a).1, (l.drop a).take ((nextM M l a).2 - a)) :: cutS M l (nextM M l a).2 := by
  have hn := (nextM_end (M := M) h).1
  unfold cutS
  obtain ⟨f, hf⟩ : ∃ f, l.length - a = f + 1 := ⟨l.length - a - 1, by omega⟩
  rw [hf]
  simp only [cutM]
  rw [if_pos h, cutM_enough (f := f) (g := l.length - (nextM M l a).2) (by omega) (by omega)]
theorem cutS_end {M : MS} {l : List UInt8} {a : Nat} (h : l.length ≤ a) : cutS M l a = [] := by
  unfold cutS
  rw [show l.length - a = 0 by omega]
  rfl
end Go.Proofs.YtenijacffcdnaaaDoor
/- The token at a place: munch.next's walk. -/
namespace Go.Proofs.YtenijacffcdnaaaDoor
open Go.RowKit Go.Sort Go.PlainAid Go.Extern.Stop
set_option linter.unusedVariables false
set_option linter.unusedSimpArgs false

theorem infoIntQ : (Tryd.prog.info? 3).map (fun i => (i.zero, i.size, i.bytes)) = some (some (.int .i64 0), 1, 8) := by kernel_rfl
/-- Equality of marks, behind a name of its own. -/
def eqM (x y : Value) : Sem Bool := Op.equalIn 10000 60 x y
theorem eqM_eq (x y : Value) : Op.equalIn 10000 60 x y = eqM x y := rfl
theorem eqM_eq' (x y : Value) : Op.equal 60 x y = eqM x y := rfl
theorem run_eqM (a b a' b' : Int) (w : World) : (eqM (.agg #[.int .i64 a, .int .i64 b]) (.agg #[.int .i64 a', .int .i64 b'])).run Tryd.prog w = .ok (a == a' && b == b') w := by
  obtain ⟨i0, hi, _, hz1, _⟩ := info_parts infoIntQ
  have := run_equalIn_ints (P := Tryd.prog) w 9998 60 3 2 .i64 Tryd.underlying60 Tryd.underlying3 (fun w => by simp [sizeOf, typeInfo, hi, hz1]) [a, b] [a', b'] rfl rfl
  refine Eq.trans this ?_
  simp [List.range']
/-- What the listed variable gives. -/
def NoneS (w : World) : Prop := w.cell? ⟨0, 0, none⟩ = some (.int .i64 (-1)) ∧ w.cell? ⟨0, 1, none⟩ = some (.int .i64 0)
theorem NoneS.below {w w' : World} (h : NoneS w) (hb : Below w.heap.size w w') : NoneS w' :=
  ⟨(hb.cell (p := ⟨0, 0, none⟩) (World.block_lt_of_cell? w _ h.1)).trans h.1, (hb.cell (p := ⟨0, 1, none⟩) (World.block_lt_of_cell? w _ h.2)).trans h.2⟩
/-- A mark in a block of its own. -/
def MarkAt (w : World) (g : Nat) (p : Int × Int) : Prop := w.heap[g]? = some (.cells #[.int .i64 p.1, .int .i64 p.2] 60 (0, 0))
theorem MarkAt.c0 {w : World} {g : Nat} {p : Int × Int} (h : MarkAt w g p) : w.cell? ⟨g, 0, none⟩ = some (.int .i64 p.1) := by rw [cell_of_row w g 0 _ _ _ h]; rfl
theorem MarkAt.c1 {w : World} {g : Nat} {p : Int × Int} (h : MarkAt w g p) : w.cell? ⟨g, 1, none⟩ = some (.int .i64 p.2) := by rw [cell_of_row w g 1 _ _ _ h]; rfl
theorem MarkAt.lt {w : World} {g : Nat} {p : Int × Int} (h : MarkAt w g p) : g < w.heap.size := by
  rcases Nat.lt_or_ge g w.heap.size with hl | hl
  · exact hl
  · unfold MarkAt at h; rw [Array.getElem?_eq_none hl] at h; cases h
theorem MarkAt.fr {w : World} {g : Nat} {p : Int × Int} (h : MarkAt w g p) (k : Nat) : w.frozen? ⟨g, k, none⟩ = false := frozen_of_row w g k _ _ h
theorem MarkAt.new (w : World) (p : Int × Int) (g : Nat) (hg : w.heap.size = g) : MarkAt (w.alloc (.cells #[.int .i64 p.1, .int .i64 p.2] 60)) g p := by subst hg; exact heap_alloc_new w _
theorem MarkAt.kept {w w' : World} {g : Nat} {p : Int × Int} (h : MarkAt w g p) (hb : w'.heap[g]? = w.heap[g]?) : MarkAt w' g p := hb.trans h
theorem MarkAt.drew {w : World} {g : Nat} {p : Int × Int} (h : MarkAt w g p) (n : Nat) : MarkAt (w.drewN n) g p := h
theorem MarkAt.set2 {w : World} {g : Nat} {p : Int × Int} (h : MarkAt w g p) (x y : Int) : MarkAt ((w.setCell ⟨g, 0, none⟩ (.int .i64 x)).setCell ⟨g, 1, none⟩ (.int .i64 y)) g (x, y) :=
  heap_setCell_same _ g 1 _ _ _ (heap_setCell_same w g 0 _ _ _ h)
theorem MarkAt.other {w : World} {g k j : Nat} {p : Int × Int} {v : Value} (h : MarkAt w g p) (hk : k ≠ g) : MarkAt (w.setCell ⟨k, j, none⟩ v) g p := (heap_setCell_other w ⟨k, j, none⟩ g v (fun e => hk e.symm)).trans h
theorem DfaAt.other {w : World} {g k j : Nat} {D : Df} {v : Value} (h : DfaAt w g D) (hk : k ≠ g) : DfaAt (w.setCell ⟨k, j, none⟩ v) g D := (heap_setCell_other w ⟨k, j, none⟩ g v (fun e => hk e.symm)).trans h
theorem sizeMark : (Tryd.prog.info? 60).map (·.size) = some 2 := by kernel_rfl
attribute [local go_sem ↓] loadA_eq storeA_eq loadD_eq eqM_eq eqM_eq'
set_option maxHeartbeats 4000000 in
set_option maxRecDepth 100000 in
theorem mnext_any (w : World) (D : Df) (M : MS) (s : ByteArray) (a : Nat) (h : MAt w D M) (hC : ∀ i, i < 256 → M.cl i < 256) (hR : rightM M = true) (hN : NoneS w) (ha : a < s.size) (hs : s.size ≤ 100000) :
    Calls Tryd.prog 25 #[.agg (dfA D), .string s, .int .i64 (a : Int)] w fun e w' => e = .returned (.agg #[.int .i64 (nextM M (LS s) a).1, .int .i64 ((nextM M (LS s) a).2 : Int)]) ∧ Below w.heap.size w w' := by
  have HSL := Lib.hid (LS_len s)
  have HLN := Lib.hid h.nx.len.1
  have hnm := h.nx.len.2
  have HLL := Lib.hid h.lb.1
  have HM := Lib.hid h
  have HCL := Lib.hid h.cl
  have HCC := Lib.hid hC
  have HR := Lib.hid hR
  obtain ⟨L, hL⟩ : ∃ L, (LS s).drop a = L := ⟨_, rfl⟩
  have HL := Lib.hid hL
  obtain ⟨bb, hbb⟩ : ∃ b, bestK M L (s.size - a) = b := ⟨_, rfl⟩
  have HBB := Lib.hid hbb
  have HP : Hid (nextM M (LS s) a = endOf a bb) := Lib.hid (by unfold nextM; rw [hL, HSL.out, hbb])
  rw [HP.out]
  obtain ⟨g, hg⟩ : ∃ g, w.heap.size = g := ⟨_, rfl⟩
  have HG := Lib.hid hg
  obtain ⟨W1, hW1, hs1, hb1, hd1⟩ := box_dfa hg D
  have hba : Below g w (W1.alloc (.cells #[.int .i64 0, .int .i64 0] 60)) := hb1.alloc (by omega) _
  have hna := hN.below (w' := W1.alloc (.cells #[.int .i64 0, .int .i64 0] 60)) (by rw [hg]; exact hba)
  obtain ⟨W3, hW3⟩ : ∃ W, W = (W1.alloc (.cells #[.int .i64 0, .int .i64 0] 60)).alloc (.cells #[.int .i64 (-1), .int .i64 0] 60) := ⟨_, rfl⟩
  have hm1 : MarkAt W3 (g + 1) (0, 0) := by rw [hW3]; exact (MarkAt.new W1 (0, 0) (g + 1) hs1).kept (heap_alloc_old _ _ (by simp; omega))
  have hm2 : MarkAt W3 (g + 2) (-1, 0) := by rw [hW3]; exact MarkAt.new _ (-1, 0) (g + 2) (by simp; omega)
  have hd3 : DfaAt W3 g D := by rw [hW3]; exact (hd1.alloc _).alloc _
  have hb3 : Below g w W3 := by rw [hW3]; exact hba.alloc (by simp; omega) _
  have hs3 : W3.heap.size = g + 3 := by rw [hW3]; simp; omega
  obtain ⟨n0, n1⟩ := hna
  have HNN := Lib.hid hN
  rw [hW1] at n0 n1 hW3
  have HW3 := Lib.hid hW3
  have HM1 := Lib.hid hm1
  have HM2 := Lib.hid hm2
  have HD3 := Lib.hid hd3
  have HB3 := Lib.hid hb3
  clear h hC hR hN hL hbb hW1 hs1 hb1 hd1 hba hW3 hm1 hm2 hd3 hb3
  go_enter Tryd.func25, Tryd.ntmps25
  go_wp2_with fail
  rw [← HW3.out]
  clear n0 n1
  go_loopw [8, 9] (fun iv sv wr => ∃ q k : Nat, q = a + k ∧ q ≤ s.size ∧ iv = .int .i64 (q : Int) ∧ sv = .int .i64 (goL M 0 (L.take k)) ∧ 0 ≤ goL M 0 (L.take k) ∧ MarkAt wr (g + 1) (0, 0) ∧ MarkAt wr (g + 2) (markOf a (bestK M L k)) ∧ DfaAt wr g D ∧ Below g w wr) (fun i _ _ => s.size - (intOf i).toNat)
  case atStart => exact ⟨a, 0, rfl, by omega, rfl, rfl, Int.le_refl _, HM1.out, HM2.out, HD3.out, HB3.out⟩
  case round =>
    obtain ⟨q, k, hqk, hk, rfl, rfl, hz0, hm1, hm2, hd, hb⟩ := hrel
    have HQK := Lib.hid hqk
    have HM1' := Lib.hid hm1
    have HM2' := Lib.hid hm2
    have HD := Lib.hid hd
    have HB := Lib.hid hb
    have hnn := HNN.out.below (w' := wr) (by rw [HG.out]; exact hb)
    have hg1 := hm1.lt
    have hg2 := hm2.lt
    have c20 := hm2.c0
    have c21 := hm2.c1
    have f20 := hm2.fr 0
    have f21 := hm2.fr 1
    have c10 := hm1.c0
    have c11 := hm1.c1
    have f10 := hm1.fr 0
    have f11 := hm1.fr 1
    have d257 := hd.nx
    have d258 := hd.lb
    obtain ⟨n0, n1⟩ := hnn
    by_cases hlt : q < s.size
    case neg =>
      have hkk : k = s.size - a := by omega
      have HBE : Hid (bestK M L k = bb) := Lib.hid (by rw [hkk]; exact HBB.out)
      rw [HBE.out] at c20 c21
      have z1 : ¬ (q : Int) < (s.size : Int) := by omega
      clear hm1 hm2 hd hb d257 d258 hqk
      cases bb with
      | none =>
        simp only [markOf] at c20 c21
        have hq := fun w' => run_eqM (-1) 0 (-1) 0 w'
        simp only [beq_self_eq_true, Bool.and_self] at hq
        go_wp2
        refine bodyPost_ret (results_cell_row rfl _ _ (g + 1) 60 _ (0, 0) _ rfl (MarkAt.set2 (MarkAt.other (HM1'.out) (by omega)) (-1) ((a : Int) + 1)) Tryd.underlying60 rfl sizeMark) rfl ⟨by simp [endOf], ?_⟩
        try rw [HG.out]
        exact (((HB.out).setCell (p := ⟨g + 1 + 1, 1, none⟩) (by show g ≤ g + 1 + 1; omega) _).setCell (p := ⟨g + 1, 0, none⟩) (by show g ≤ g + 1; omega) _).setCell (p := ⟨g + 1, 1, none⟩) (by show g ≤ g + 1; omega) _
      | some q =>
        obtain ⟨t, e⟩ := q
        obtain ⟨ht0, he1, he2, ht2⟩ := bestK_some HBB.out
        clear ht2
        simp only [markOf] at c20 c21
        have hq := fun w' => run_eqM t ((a : Int) + (e : Int)) (-1) 0 w'
        have ht1 : (t == -1) = false := by rw [beq_eq_false_iff_ne]; omega
        rw [ht1, Bool.false_and] at hq
        go_wp2
        refine bodyPost_ret (results_cell_row rfl _ _ (g + 1) 60 _ (0, 0) _ rfl (MarkAt.set2 (HM1'.out) t ((a : Int) + (e : Int))) Tryd.underlying60 rfl sizeMark) rfl ⟨by simp [endOf], ?_⟩
        try rw [HG.out]
        exact ((HB.out).setCell (p := ⟨g + 1, 0, none⟩) (by show g ≤ g + 1; omega) _).setCell (p := ⟨g + 1, 1, none⟩) (by show g ≤ g + 1; omega) _
    case pos =>
      have hLk : L[k]? = some (s[q]'hlt) := by
        have h1 := LS_at s q hlt
        rw [← HL.out, List.getElem?_drop, ← hqk]; exact h1
      have HTK : Hid (goL M 0 (L.take (k + 1)) = goM M (goL M 0 (L.take k)) (s[q]'hlt).toNat) := Lib.hid (by rw [take_snoc hLk, goL_snoc])
      have hrg := goL_range HR.out (L.take k)
      rw [HLN.out] at hrg
      obtain ⟨z, hz⟩ : ∃ z, goL M 0 (L.take k) = z := ⟨_, rfl⟩
      have HZ := Lib.hid hz
      rw [hz] at hrg HTK hz0 ⊢
      obtain ⟨i, rfl⟩ : ∃ i : Nat, z = (i : Int) := ⟨z.toNat, by omega⟩
      have hb256 : (s[q]'hlt).toNat < 256 := (s[q]'hlt).toNat_lt
      obtain ⟨b, hbb⟩ : ∃ b : Nat, (s[q]'hlt).toNat = b := ⟨_, rfl⟩
      have hbI : ((s[q]'hlt).toNat : Int) = (b : Int) := by rw [hbb]
      rw [hbb] at HTK hb256
      have HMW := Lib.hid (HM.out.below (w' := wr) (by rw [HG.out]; exact hb))
      obtain ⟨row, y, h1, h2, h3, h4, h5⟩ := right_row HR.out (i := i) (by rw [HLN.out]; omega) hb256
      have HNE : Hid (goL M 0 (L.take (k + 1)) = y) := Lib.hid (by rw [HTK.out]; exact goM_at h1 h3)
      rw [HLN.out] at h5
      obtain ⟨b3, off3, l3, ha3, hbl3, hl3, A3, cc3, d3, hr3⟩ := HMW.out.nx.at_ (i := i) (by omega)
      rw [h1] at hl3
      obtain rfl := Option.some.inj hl3
      have hcb : M.cl b < row.length := (List.getElem?_eq_some_iff.1 h3).1
      obtain ⟨b4, off4, y', rfl, hbl4, hy, dy⟩ := hr3.int hcb
      rw [h3] at hy
      obtain rfl := Option.some.inj hy
      have c0 := hd.cl b hb256
      rw [HCL.out] at c0
      have hc2 := HCC.out b hb256
      rw [ha3] at d257
      obtain ⟨cb, hcbE⟩ : ∃ c, M.cl b = c := ⟨_, rfl⟩
      rw [hcbE] at c0 dy hcb hc2
      have y1 : (i : Int) < (D.nl : Int) := by omega
      have y2 : (0 : Int) ≤ (i : Int) := by omega
      have y3 : (cb : Int) < (row.length : Int) := by omega
      have y4 : (0 : Int) ≤ (cb : Int) := by omega
      have y5 : (b : Int) < 256 := by omega
      have y6 : (0 : Int) ≤ (b : Int) := by omega
      have z0 : (0 : Int) ≤ (q : Int) := by omega
      have z1 : (q : Int) < (s.size : Int) := by omega
      clear h1 h2 h3 ha3 hcbE hz hr3 hl3 hy hbb hqk hLk hm1 hm2 hd hb
      have hgl : g ≤ wr.heap.size := by omega
      by_cases hy0 : y < 0
      case pos =>
        have HBE : Hid (bestK M L k = bb) := Lib.hid (by rw [← HBB.out]; exact (bestK_dead (s.size - a) (by have := HQK.out; omega) (by rw [HNE.out]; exact hy0)).symm)
        rw [HBE.out] at c20 c21
        clear d258
        go_wp2
        go_quiet (fail)
        cases bb with
        | none =>
          simp only [markOf] at c20 c21
          have hq := fun w' => run_eqM (-1) 0 (-1) 0 w'
          simp only [beq_self_eq_true, Bool.and_self] at hq
          go_wp2
          refine bodyPost_ret (results_cell_row rfl _ _ (g + 1) 60 _ (0, 0) _ rfl (MarkAt.set2 (MarkAt.other (HM1'.out.drew _) (by omega)) (-1) ((a : Int) + 1)) Tryd.underlying60 rfl sizeMark) rfl ⟨by simp [endOf], ?_⟩
          try rw [HG.out]
          exact (((HB.out.trans ((below_drewN wr _).mono hgl)).setCell (p := ⟨g + 1 + 1, 1, none⟩) (by show g ≤ g + 1 + 1; omega) _).setCell (p := ⟨g + 1, 0, none⟩) (by show g ≤ g + 1; omega) _).setCell (p := ⟨g + 1, 1, none⟩) (by show g ≤ g + 1; omega) _
        | some q =>
          obtain ⟨t, e⟩ := q
          obtain ⟨ht0, he1, he2, ht2⟩ := bestK_some HBB.out
          clear ht2
          simp only [markOf] at c20 c21
          have hq := fun w' => run_eqM t ((a : Int) + (e : Int)) (-1) 0 w'
          have ht1 : (t == -1) = false := by rw [beq_eq_false_iff_ne]; omega
          rw [ht1, Bool.false_and] at hq
          go_wp2
          refine bodyPost_ret (results_cell_row rfl _ _ (g + 1) 60 _ (0, 0) _ rfl (MarkAt.set2 (HM1'.out.drew _) t ((a : Int) + (e : Int))) Tryd.underlying60 rfl sizeMark) rfl ⟨by simp [endOf], ?_⟩
          try rw [HG.out]
          exact ((HB.out.trans ((below_drewN wr _).mono hgl)).setCell (p := ⟨g + 1, 0, none⟩) (by show g ≤ g + 1; omega) _).setCell (p := ⟨g + 1, 1, none⟩) (by show g ≤ g + 1; omega) _
      case neg =>
        obtain ⟨j, hj⟩ : ∃ j : Nat, y = (j : Int) := ⟨y.toNat, by omega⟩
        subst hj
        have hlen := (rightM_parts HR.out).2.1
        rw [HLN.out, HLL.out] at hlen
        obtain ⟨b5, off5, t, ha5, hbl5, ht, d5⟩ := HMW.out.lb.int (k := j) (by omega)
        have HLAB : Hid (labM M (goL M 0 (L.take (k + 1))) = t) := Lib.hid (by rw [HNE.out]; unfold labM; rw [if_pos ⟨HR.out, by omega⟩, Int.toNat_natCast, ht]; rfl)
        rw [ha5] at d258
        have x1 : (j : Int) < (D.ll : Int) := by omega
        have x2 : (0 : Int) ≤ (j : Int) := by omega
        clear ht ha5 hlen
        by_cases ht0 : 0 ≤ t
        case neg =>
          have HBN : Hid (bestK M L (k + 1) = bestK M L k) := Lib.hid (by simp only [bestK]; rw [HLAB.out, if_neg ht0])
          go_wp2
          go_quiet (fail)
          go_wp2
          go_roundw
          case rel => exact ⟨q + 1, k + 1, by have := HQK.out; omega, by omega, by go_num, by rw [HNE.out], by rw [HNE.out]; omega, HM1'.out.drew _, by rw [HBN.out]; exact HM2'.out.drew _, HD.out, HB.out.trans ((below_drewN wr _).mono hgl)⟩
          case measure => simp [intOf]; omega
        case pos =>
          have HBN : Hid (markOf a (bestK M L (k + 1)) = (t, (q : Int) + 1)) := Lib.hid (by simp only [bestK]; rw [HLAB.out, if_pos ht0]; have := HQK.out; simp only [markOf, Prod.mk.injEq, true_and]; omega)
          go_wp2
          go_quiet (fail)
          go_wp2
          go_roundw
          case rel => exact ⟨q + 1, k + 1, by have := HQK.out; omega, by omega, by go_num, by rw [HNE.out], by rw [HNE.out]; omega, ((HM1'.out.drew _).other (by omega)).other (by omega), by rw [HBN.out]; exact MarkAt.set2 (HM2'.out.drew _) t ((q : Int) + 1), (HD.out.other (by omega)).other (by omega), ((HB.out.trans ((below_drewN wr _).mono hgl)).setCell (p := ⟨g + 1 + 1, 0, none⟩) (by show g ≤ g + 1 + 1; omega) _).setCell (p := ⟨g + 1 + 1, 1, none⟩) (by show g ≤ g + 1 + 1; omega) _⟩
          case measure => simp [intOf]; omega
end Go.Proofs.YtenijacffcdnaaaDoor
/- The token at a place, of any machine: munch.Next; the document's. -/
namespace Go.Proofs.YtenijacffcdnaaaDoor
open Go.RowKit Go.Sort Go.PlainAid
set_option linter.unusedVariables false
set_option linter.unusedSimpArgs false

def anyNext (M : MS) (l : List UInt8) (z : Int) : Int × Int :=
  if rightM M = true ∧ 0 ≤ z ∧ z < (l.length : Int) then ((nextM M l z.toNat).1, ((nextM M l z.toNat).2 : Int)) else (-1, 0)
attribute [local go_sem ↓] loadA_eq storeA_eq loadD_eq
set_option maxHeartbeats 4000000 in
set_option maxRecDepth 100000 in
theorem munchNext_any (w : World) (D : Df) (M : MS) (s : ByteArray) (z : Int) (h : MAt w D M) (hC : ∀ i, i < 256 → M.cl i < 256) (hN : NoneS w) (hs : s.size ≤ 100000) :
    Calls Tryd.prog 9 #[.agg (dfA D), .string s, .int .i64 z] w fun e w' => e = .returned (.tuple #[.int .i64 (anyNext M (LS s) z).1, .int .i64 (anyNext M (LS s) z).2]) ∧ Below w.heap.size w w' := by
  obtain ⟨r, hr⟩ : ∃ r, anyNext M (LS s) z = r := ⟨_, rfl⟩
  have HR := Lib.hid hr
  rw [hr]
  have HSL := Lib.hid (LS_len s)
  have HM := Lib.hid h
  have HCC := Lib.hid hC
  have HNN := Lib.hid hN
  obtain ⟨g, hg⟩ : ∃ g, w.heap.size = g := ⟨_, rfl⟩
  have HG := Lib.hid hg
  obtain ⟨W1, hW1, hs1, hb1, hd1⟩ := box_dfa hg D
  have HRM := Lib.hid (dright_any W1 D M (h.below (by rw [hg]; exact hb1)) hC)
  obtain ⟨q, hq⟩ : ∃ q, rightM M = q := ⟨_, rfl⟩
  rw [hq] at HRM
  have HQ := Lib.hid hq
  have HW1 := Lib.hid hW1
  have HB1 := Lib.hid hb1
  have HS1 := Lib.hid hs1
  have HD1 := Lib.hid hd1
  have hld := run_loadD W1 g D hd1
  rw [hW1] at hld HRM
  clear hr h hW1 hs1 hb1 hd1 hq hC hN
  by_cases hz : z < 0
  · have HE : Hid (r = (-1, 0)) := Lib.hid (by rw [← HR.out]; unfold anyNext; rw [if_neg (by omega)])
    rw [HE.out]
    go_enter Tryd.func9, Tryd.ntmps9
    go_wp2
    go_ret2
    refine ⟨rfl, ?_⟩
    rw [← HW1.out]
    first | exact HB1.out | (rw [HG.out]; exact HB1.out)
  by_cases hz2 : (s.size : Int) ≤ z
  · have HE : Hid (r = (-1, 0)) := Lib.hid (by rw [← HR.out]; unfold anyNext; rw [if_neg (by rw [HSL.out]; omega)])
    rw [HE.out]
    go_enter Tryd.func9, Tryd.ntmps9
    go_wp2
    go_ret2
    refine ⟨rfl, ?_⟩
    rw [← HW1.out]
    first | exact HB1.out | (rw [HG.out]; exact HB1.out)
  obtain ⟨a, rfl⟩ : ∃ a : Nat, z = (a : Int) := ⟨z.toNat, by omega⟩
  have y1 : (0 : Int) ≤ (a : Int) := by omega
  have y2 : (a : Int) < (s.size : Int) := by omega
  cases q with
  | false =>
    have HE : Hid (r = (-1, 0)) := Lib.hid (by rw [← HR.out]; unfold anyNext; rw [HQ.out]; simp)
    rw [HE.out]
    clear hz hz2
    go_enter Tryd.func9, Tryd.ntmps9
    go_wp2_with fail
    refine HRM.out.mono ?_
    rintro e w2 ⟨rfl, hb2⟩
    have HB2 : Hid (Below g w w2) := Lib.hid (HB1.out.trans (by rw [← HW1.out] at hb2; exact hb2.mono (by have := HS1.out; omega)))
    clear hb2
    go_wp2
    go_ret2
    exact ⟨rfl, by first | exact HB2.out | (rw [HG.out]; exact HB2.out)⟩
  | true =>
    have HE : Hid (r = ((nextM M (LS s) a).1, ((nextM M (LS s) a).2 : Int))) := Lib.hid (by rw [← HR.out]; unfold anyNext; rw [if_pos ⟨HQ.out, by omega, by rw [HSL.out]; omega⟩, Int.toNat_natCast])
    rw [HE.out]
    obtain ⟨⟨t, e⟩, hte⟩ : ∃ p, nextM M (LS s) a = p := ⟨_, rfl⟩
    have HTE := Lib.hid hte
    rw [hte]
    simp only
    clear hz hz2 hte
    go_enter Tryd.func9, Tryd.ntmps9
    go_wp2_with fail
    refine HRM.out.mono ?_
    rintro e w2 ⟨rfl, hb2⟩
    have hb2' : Below W1.heap.size W1 w2 := by rw [← HW1.out] at hb2; exact hb2
    have HB2 : Hid (Below g w w2) := Lib.hid (HB1.out.trans (hb2'.mono (by have := HS1.out; omega)))
    have HD2 := Lib.hid (HD1.out.below hb2' HD1.out.lt)
    have HMN := Lib.hid (mnext_any w2 D M s a (HM.out.below (by rw [HG.out]; exact HB2.out)) HCC.out HQ.out (HNN.out.below (by rw [HG.out]; exact HB2.out)) (by omega) hs)
    rw [HTE.out] at HMN
    have hgl : g + 1 ≤ w2.heap.size := by have := hb2'.size; have := HS1.out; omega
    have hld2 := run_loadD w2 g D HD2.out
    clear hb2 hb2' hld
    go_wp2_with fail
    refine HMN.out.mono ?_
    rintro e w3 ⟨rfl, hb3⟩
    have HB3 : Hid (Below g w w3) := Lib.hid (HB2.out.trans (hb3.mono (by omega)))
    have hgl3 : g + 1 ≤ w3.heap.size := by have := hb3.size; omega
    obtain ⟨h, hh⟩ : ∃ h, w3.heap.size = h := ⟨_, rfl⟩
    have hm := MarkAt.new w3 (t, (e : Int)) h hh
    have c0 := hm.c0
    have c1 := hm.c1
    clear hb3 hm hld2
    go_wp2
    go_quiet (fail)
    go_wp2
    go_ret2
    refine ⟨rfl, ?_⟩
    have hfin : Below g w (w3.alloc (.cells #[.int .i64 t, .int .i64 (e : Int)] 60)) := HB3.out.alloc (by omega) _
    first | exact hfin.trans ((below_drewN _ _).mono (by simp; omega)) | (rw [HG.out]; exact hfin.trans ((below_drewN _ _).mono (by simp; omega)))
set_option maxHeartbeats 4000000 in
set_option maxRecDepth 100000 in
theorem rnext_any (w : World) (D : Df) (M : MS) (s : ByteArray) (z : Int) (h : MAt w D M) (hC : ∀ i, i < 256 → M.cl i < 256) (hs : s.size ≤ 100000) :
    Calls Tryd.prog 10 #[.agg (dfA D), .string s, .int .i64 z] w fun e w' => e = .returned (.tuple #[.int .i64 (anyNext M (LS s) z).1, .int .i64 (anyNext M (LS s) z).2]) ∧ Below w.heap.size w w' := by
  obtain ⟨r, hr⟩ : ∃ r, anyNext M (LS s) z = r := ⟨_, rfl⟩
  have HR := Lib.hid hr
  rw [hr]
  have HSL := Lib.hid (LS_len s)
  have HM := Lib.hid h
  have HCC := Lib.hid hC
  obtain ⟨g, hg⟩ : ∃ g, w.heap.size = g := ⟨_, rfl⟩
  have HG := Lib.hid hg
  obtain ⟨W1, hW1, hs1, hb1, hd1⟩ := box_dfa hg D
  have HRM := Lib.hid (rdright_any W1 D M (h.below (by rw [hg]; exact hb1)) hC)
  obtain ⟨q, hq⟩ : ∃ q, rightM M = q := ⟨_, rfl⟩
  rw [hq] at HRM
  have HQ := Lib.hid hq
  have HW1 := Lib.hid hW1
  have HB1 := Lib.hid hb1
  have HS1 := Lib.hid hs1
  have HD1 := Lib.hid hd1
  have hld := run_loadD W1 g D hd1
  rw [hW1] at hld HRM
  clear hr h hW1 hs1 hb1 hd1 hq hC
  go_enter Tryd.func10, Tryd.ntmps10
  go_wp2_with fail
  refine HRM.out.mono ?_
  rintro e w2 ⟨rfl, hb2⟩
  have hb2' : Below W1.heap.size W1 w2 := by rw [← HW1.out] at hb2; exact hb2
  have HB2 : Hid (Below g w w2) := Lib.hid (HB1.out.trans (hb2'.mono (by have := HS1.out; omega)))
  have HD2 := Lib.hid (HD1.out.below hb2' HD1.out.lt)
  have hgl : g + 1 ≤ w2.heap.size := by have := hb2'.size; have := HS1.out; omega
  clear hb2 hb2' hld
  cases q with
  | false =>
    have HE : Hid (r = (-1, 0)) := Lib.hid (by rw [← HR.out]; unfold anyNext; rw [HQ.out]; simp)
    go_wp2
    go_ret2
    exact ⟨by rw [HE.out]; rfl, by first | exact HB2.out | (rw [HG.out]; exact HB2.out)⟩
  | true =>
    by_cases hz : z < 0
    · have HE : Hid (r = (-1, 0)) := Lib.hid (by rw [← HR.out]; unfold anyNext; rw [if_neg (by omega)])
      go_wp2
      go_ret2
      exact ⟨by rw [HE.out]; rfl, by first | exact HB2.out | (rw [HG.out]; exact HB2.out)⟩
    by_cases hz2 : (s.size : Int) ≤ z
    · have HE : Hid (r = (-1, 0)) := Lib.hid (by rw [← HR.out]; unfold anyNext; rw [if_neg (by rw [HSL.out]; omega)])
      go_wp2
      go_ret2
      exact ⟨by rw [HE.out]; rfl, by first | exact HB2.out | (rw [HG.out]; exact HB2.out)⟩
    obtain ⟨a, rfl⟩ : ∃ a : Nat, z = (a : Int) := ⟨z.toNat, by omega⟩
    have y1 : (0 : Int) ≤ (a : Int) := by omega
    have y2 : (a : Int) < (s.size : Int) := by omega
    have HE : Hid (r = ((nextM M (LS s) a).1, ((nextM M (LS s) a).2 : Int))) := Lib.hid (by rw [← HR.out]; unfold anyNext; rw [if_pos ⟨HQ.out, by omega, by rw [HSL.out]; omega⟩, Int.toNat_natCast])
    obtain ⟨L, hL⟩ : ∃ L, (LS s).drop a = L := ⟨_, rfl⟩
    have HL := Lib.hid hL
    obtain ⟨bb, hbb⟩ : ∃ b, bestK M L (s.size - a) = b := ⟨_, rfl⟩
    have HBB := Lib.hid hbb
    have HP : Hid (nextM M (LS s) a = endOf a bb) := Lib.hid (by unfold nextM; rw [hL, HSL.out, hbb])
    clear hz hz2 hL hbb
    go_wp2_with fail
    go_loopw [8, 9] (fun iv tv wr => ∃ q : Nat, a ≤ q ∧ q ≤ s.size ∧ iv = .int .i64 (q : Int) ∧ bestK M L (q - a) = bb ∧ DfaAt wr g D ∧ Below g w wr) (fun i _ _ => (intOf i).toNat)
    case atStart => exact ⟨s.size, by omega, Nat.le_refl _, rfl, HBB.out, HD2.out, HB2.out⟩
    case round =>
      obtain ⟨q, hq1, hq2, rfl, hbk, hd, hb⟩ := hrel
      have HBK := Lib.hid hbk
      have HD := Lib.hid hd
      have HB := Lib.hid hb
      have hgr : g + 1 ≤ wr.heap.size := hd.lt
      have hmat := HM.out.below (w' := wr) (by rw [HG.out]; exact hb)
      have HRUN := Lib.hid fun d os => rrun_any (grow (redrawn wr d) os) D M (s.extract a q) (hmat.below (below_regrown wr d os)) HCC.out (by simp; omega)
      have HRN : Hid (runM M (LS (s.extract a q)) = goL M 0 (L.take (q - a))) := Lib.hid (by unfold runM; rw [if_pos HQ.out, LS_ext, HL.out])
      obtain ⟨x, hx⟩ : ∃ x, goL M 0 (L.take (q - a)) = x := ⟨_, rfl⟩
      rw [HRN.out, hx] at HRUN
      have HLBL := Lib.hid fun d os => rlabel_any (grow (redrawn wr d) os) D M x (hmat.below (below_regrown wr d os)) HCC.out
      obtain ⟨t, ht⟩ : ∃ t, labM M x = t := ⟨_, rfl⟩
      rw [ht] at HLBL
      have HT : Hid (labM M (goL M 0 (L.take (q - a))) = t) := Lib.hid (by rw [hx, ht])
      have kL : ∀ d os, (loadD ⟨g, 0, none⟩).run Tryd.prog (grow (redrawn wr d) os) = .ok (.agg (dfA D)) (grow (redrawn wr d) os) := fun d os => run_loadD _ g D (hd.below (below_regrown wr d os) hd.lt)
      clear hbk hd hb hmat hx ht
      by_cases hlt : a < q
      case neg =>
        obtain rfl : q = a := by omega
        have HNO : Hid (bb = none) := Lib.hid (by rw [← HBK.out, Nat.sub_self]; rfl)
        have z1 : ¬ (q : Int) < (q : Int) := by omega
        clear kL
        go_wp2
        go_ret2
        exact ⟨by rw [HE.out, HP.out, HNO.out]; simp [endOf], by first | exact HB.out | (rw [HG.out]; exact HB.out)⟩
      case pos =>
        have z1 : (a : Int) < (q : Int) := by omega
        have z2 : (q : Int) ≤ (s.size : Int) := by omega
        have z3 : (a : Int) ≤ (q : Int) := by omega
        have z4 : (0 : Int) ≤ (q : Int) := by omega
        go_wp2
        refine wp_region_quiet_below (by kernel_rfl) (by kernel_rfl) ?_
        repeat (go_big_quiet_step (first | (with_reducible exact Calls.regrown_of (HRUN.out _ _)) | (with_reducible exact Calls.regrown_of (HLBL.out _ _))))
        refine wpQuiet_nil ?_
        intro _ hw'
        obtain ⟨⟨dq, osq⟩, hw''⟩ := hw'
        subst hw''
        have HBQ : Hid (Below g w (grow (redrawn wr dq) osq)) := Lib.hid (HB.out.trans ((below_regrown wr dq osq).mono (by omega)))
        by_cases ht0 : 0 ≤ t
        case pos =>
          have HYES : Hid (bb = some (t, q - a)) := Lib.hid (by
            rw [← HBK.out]
            obtain ⟨m, hm⟩ : ∃ m, q - a = m + 1 := ⟨q - a - 1, by omega⟩
            rw [hm]
            simp only [bestK]
            rw [← hm, HT.out, if_pos ht0])
          go_wp2
          go_ret2
          exact ⟨by rw [HE.out, HP.out, HYES.out]; simp only [endOf]; rw [show a + (q - a) = q by omega]; rfl, by first | exact HBQ.out | (rw [HG.out]; exact HBQ.out)⟩
        case neg =>
          have HNX : Hid (bestK M L (q - 1 - a) = bb) := Lib.hid (by
            rw [← HBK.out]
            obtain ⟨m, hm⟩ : ∃ m, q - a = m + 1 := ⟨q - a - 1, by omega⟩
            rw [hm, show q - 1 - a = m by omega]
            simp only [bestK]
            rw [← hm, HT.out, if_neg ht0])
          have hq9 : ((q : Int) - 1) = ((q - 1 : Nat) : Int) := by omega
          go_wp2
          go_roundw
          case rel => exact ⟨q - 1, by omega, by omega, by first | exact congrArg (Value.int .i64) hq9 | go_num, HNX.out, HD.out.below (below_regrown wr dq osq) HD.out.lt, HBQ.out⟩
          case measure => simp [intOf]; omega
end Go.Proofs.YtenijacffcdnaaaDoor
/- Pieces: which are the same; the document's Cut and Join. -/
namespace Go.Proofs.YtenijacffcdnaaaDoor
open Go.RowKit Go.Sort Go.PlainAid
set_option linter.unusedVariables false
set_option linter.unusedSimpArgs false

/-- A piece. -/
structure Pc where
  t : Int
  s : ByteArray
instance : Inhabited Pc := ⟨⟨0, .empty⟩⟩
def pcC (p : Pc) : List Value := [.int .i64 p.t, .string p.s]
theorem pcC_len (p : Pc) : (pcC p).length = 2 := rfl
theorem pcC_one (p : Pc) : ∀ u ∈ pcC p, u.oneCell' = true := fun u hu => by
  simp [pcC] at hu
  rcases hu with rfl | rfl <;> rfl
def samePc (p q : Pc) : Bool := p.t == q.t && p.s.toList == q.s.toList
def samePs (xs ys : List Pc) : Bool := decide (xs.length = ys.length) && (List.range xs.length).all fun k => match xs[k]?, ys[k]? with | some p, some q => samePc p q | _, _ => true
theorem samePs_no {xs ys : List Pc} {k : Nat} {p q : Pc} (h1 : xs[k]? = some p) (h2 : ys[k]? = some q) (h : samePc p q = false) : samePs xs ys = false := by
  unfold samePs
  rw [Bool.and_eq_false_iff]
  right
  rw [List.all_eq_false]
  exact ⟨k, List.mem_range.2 (List.getElem?_eq_some_iff.1 h1).1, by rw [h1, h2]; simp [h]⟩
theorem samePs_yes {xs ys : List Pc} (hl : xs.length = ys.length) (h : ∀ (k : Nat) p q, k < xs.length → xs[k]? = some p → ys[k]? = some q → samePc p q = true) : samePs xs ys = true := by
  unfold samePs
  rw [decide_eq_true hl, Bool.true_and, List.all_eq_true]
  intro k hk
  have hk := List.mem_range.1 hk
  cases h1 : xs[k]? with
  | none => rfl
  | some p =>
    cases h2 : ys[k]? with
    | none => rfl
    | some q => exact h k p q hk h1 h2
theorem samePc_refl (p : Pc) : samePc p p = true := by unfold samePc; simp
theorem samePs_refl (xs : List Pc) : samePs xs xs = true := samePs_yes rfl fun k p q _ h1 h2 => by
  rw [h1] at h2; obtain rfl := Option.some.inj h2; exact samePc_refl p
set_option maxHeartbeats 800000 in
theorem psame_any (w : World) (a b : Option Addr) (n m c d : Nat) (xs ys : List Pc) (ha : CRow pcC 2 w a n xs) (hb : CRow pcC 2 w b m ys) :
    Calls Tryd.prog 12 #[.slice a n c, .slice b m d] w fun e w' => e = .returned (.bool (samePs xs ys)) ∧ Below w.heap.size w w' := by
  have hl1 := ha.1
  have hl1' := hb.1
  have hl2 := ha.2.1
  have hl2' := hb.2.1
  have HA := Lib.hid ha
  have HB := Lib.hid hb
  obtain ⟨r, hr⟩ : ∃ r, samePs xs ys = r := ⟨_, rfl⟩
  have HR := Lib.hid hr
  rw [hr]
  by_cases hnm : n = m
  case neg =>
    have HF : Hid (r = false) := Lib.hid (by rw [← HR.out]; unfold samePs; rw [decide_eq_false (by omega), Bool.false_and])
    have e0 : ((n : Int) != (m : Int)) = true := by rw [bne_iff_ne]; omega
    clear ha hb hr hl1 hl1'
    go_enter Tryd.func12, Tryd.ntmps12
    go_wp2
    go_ret
    exact ⟨ret_bool HF.out.symm, Below.refl _ _⟩
  subst hnm
  have e0 : ((n : Int) != (n : Int)) = false := by simp
  have HL := Lib.hid (hl1.trans hl1'.symm)
  have HL1 := Lib.hid hl1
  clear ha hb hr hl1 hl1'
  go_enter Tryd.func12, Tryd.ntmps12
  go_wp2
  go_loopw [5] (fun i wr => ∃ k q : Nat, k ≤ n ∧ i = .int .i64 k ∧ wr = w.drewN q ∧ ∀ j p q, j < k → xs[j]? = some p → ys[j]? = some q → samePc p q = true) (fun i _ => n - (intOf i).toNat)
  case atStart => exact ⟨0, 0, by omega, rfl, rfl, fun j p q h => by omega⟩
  case round =>
    obtain ⟨k, dq, hk, rfl, hwr, hall⟩ := hrel
    have HW := Lib.hid hwr
    have HALL := Lib.hid hall
    clear hall
    by_cases hlt : k < n
    · obtain ⟨b1, o1, p, rfl, _, hp, hc1⟩ := HA.out.at_ hlt
      obtain ⟨b2, o2, q, rfl, _, hq, hc2⟩ := HB.out.at_ hlt
      have c10 : wr.cell? ⟨b1, o1 + k * 2, none⟩ = some (.int .i64 p.t) := by subst hwr; exact hc1 0 _ rfl
      have c11 : wr.cell? ⟨b1, o1 + k * 2 + 1, none⟩ = some (.string p.s) := by subst hwr; exact hc1 1 _ rfl
      have c20 : wr.cell? ⟨b2, o2 + k * 2, none⟩ = some (.int .i64 q.t) := by subst hwr; exact hc2 0 _ rfl
      have c21 : wr.cell? ⟨b2, o2 + k * 2 + 1, none⟩ = some (.string q.s) := by subst hwr; exact hc2 1 _ rfl
      have h0 : (0 : Int) ≤ (k : Int) := by omega
      have h1 : (k : Int) < (n : Int) := by omega
      have HP := Lib.hid hp
      have HQ := Lib.hid hq
      obtain ⟨pt, ps⟩ := p
      obtain ⟨qt, qs⟩ := q
      obtain ⟨b1', he1⟩ : ∃ x, (pt == qt) = x := ⟨_, rfl⟩
      obtain ⟨b2', he2⟩ : ∃ x, (ps.toList == qs.toList) = x := ⟨_, rfl⟩
      have HE1 := Lib.hid he1
      have HE2 := Lib.hid he2
      simp only at c10 c11 c20 c21
      clear hwr hp hq hc1 hc2
      cases b1' with
      | false =>
        have HF : Hid (r = false) := Lib.hid (by rw [← HR.out]; exact samePs_no HP.out HQ.out (by unfold samePc; simp only; rw [HE1.out, Bool.false_and]))
        go_wp2
        go_quiet (fail)
        go_wp2
        go_ret
        exact ⟨ret_bool HF.out.symm, by rw [HW.out]; exact (below_drewN w dq).trans ((below_drewN (w.drewN dq) _).mono (Nat.le_refl _))⟩
      | true =>
        cases b2' with
        | false =>
          have HF : Hid (r = false) := Lib.hid (by rw [← HR.out]; exact samePs_no HP.out HQ.out (by unfold samePc; simp only; rw [HE1.out, HE2.out, Bool.and_false]))
          go_wp2
          go_quiet (fail)
          go_wp2
          go_ret
          exact ⟨ret_bool HF.out.symm, by rw [HW.out]; exact (below_drewN w dq).trans ((below_drewN (w.drewN dq) _).mono (Nat.le_refl _))⟩
        | true =>
          go_wp2
          go_quiet (fail)
          go_wp2
          go_roundw
          case rel => exact ⟨k + 1, dq + _, by omega, by go_num, by rw [HW.out]; simp [World.drewN, Nat.add_assoc]; rfl, fun j p q hj h1' h2' => by
            by_cases e : j = k
            · subst e
              rw [HP.out] at h1'; rw [HQ.out] at h2'
              obtain rfl := Option.some.inj h1'
              obtain rfl := Option.some.inj h2'
              unfold samePc; simp only; rw [HE1.out, HE2.out]; rfl
            · exact HALL.out j p q (by omega) h1' h2'⟩
          case measure => simp [intOf]; omega
    · have HF : Hid (r = true) := Lib.hid (by rw [← HR.out]; exact samePs_yes HL.out fun j p q hj => HALL.out j p q (by have := HL1.out; omega))
      subst hwr
      go_wp2
      go_ret
      exact ⟨ret_bool HF.out.symm, below_drewN w _⟩
/-! ## The document's Cut. -/
def toPc (p : Int × List UInt8) : Pc := ⟨p.1, ⟨p.2.toArray⟩⟩
def pcsA (M : MS) (l : List UInt8) (a : Nat) : List Pc := (cutS M l a).map toPc
def pcsR (M : MS) (l : List UInt8) : List Pc := if rightM M = true then pcsA M l 0 else []
theorem str_ext (s : ByteArray) (a e : Nat) : s.extract a e = ⟨(((LS s).drop a).take (e - a)).toArray⟩ := by
  rw [← LS_ext]
  show _ = ByteArray.mk (s.extract a e).data.toList.toArray
  rw [Array.toArray_toList]
theorem pcsA_step {M : MS} {s : ByteArray} {a : Nat} (h : a < s.size) : pcsA M (LS s) a = ⟨(nextM M (LS s) a).1, s.extract a (nextM M (LS s) a).2⟩ :: pcsA M (LS s) (nextM M (LS s) a).2 := by
  unfold pcsA
  rw [cutS_step (by rw [LS_len]; exact h), List.map_cons, str_ext]
  rfl
theorem pcsA_end {M : MS} {s : ByteArray} {a : Nat} (h : s.size ≤ a) : pcsA M (LS s) a = [] := by unfold pcsA; rw [cutS_end (by rw [LS_len]; exact h)]; rfl
theorem infoPc : (Tryd.prog.info? 33).map (fun i => (i.zero, i.size, i.bytes)) = some (some (.agg #[.int .i64 0, .string ⟨#[]⟩]), 2, 24) := by kernel_rfl
theorem app_pc {w : World} {base n : Nat} {v : Value} {xs : List Pc} (hown : w.ownsRow base 33 2 v n (xs.flatMap pcC)) (p : Pc) (hn : n ≤ 200000) (hbase : base ≤ w.heap.size) (H : Nat) (hH : w.heap.size = H)
    (ops : Array Oper) (rest : List Oper) (o : Oper) (a : Act) (Q : Exit → Act → World → Prop) (hg : o.guard = none) (s x : Operand) (ho : o.op = .call { callee := .builtin .append, args := #[s, x], argTypes := #[34, 34] })
    (hs : a.eval s = v) (hx : a.eval x = .slice (some ⟨H, 0, none⟩) 1 1)
    (h : ∀ g cap w', w'.ownsRow base 33 2 (.slice (some ⟨g, 0, none⟩) (n + 1) cap) (n + 1) ((xs ++ [p]).flatMap pcC) → (w.alloc (.cells #[.int .i64 p.t, .string p.s] 33)).grownBy w' v.ownBlock → (v.ownBlock = some g ∨ g = H + 1) →
      wpList Tryd.prog ops Q rest (a.put o.dst (.slice (some ⟨g, 0, none⟩) (n + 1) cap)) w') : wpList Tryd.prog ops Q (o :: rest) a (w.alloc (.cells #[.int .i64 p.t, .string p.s] 33)) :=
  app_el (P := Tryd.prog) (C := pcC) (T := 34) (by decide) pcC_len pcC_one Tryd.underlying34 infoPc rfl hown p (by unfold maxLen; omega) (by omega) hbase H hH #[.int .i64 p.t, .string p.s] rfl ops rest o a Q hg s x ho hs hx h
attribute [local go_sem ↓] loadA_eq storeA_eq loadD_eq
set_option maxHeartbeats 4000000 in
set_option maxRecDepth 100000 in
theorem rcut_any (w : World) (D : Df) (M : MS) (s : ByteArray) (h : MAt w D M) (hC : ∀ i, i < 256 → M.cl i < 256) (hs : s.size ≤ 100000) :
    Calls Tryd.prog 13 #[.agg (dfA D), .string s] w fun e w' => ∃ A c, e = .returned (.slice A (pcsR M (LS s)).length c) ∧ w'.ownsRow w.heap.size 33 2 (.slice A (pcsR M (LS s)).length c) (pcsR M (LS s)).length ((pcsR M (LS s)).flatMap pcC) ∧ Below w.heap.size w w' := by
  have HM := Lib.hid h
  have HCC := Lib.hid hC
  obtain ⟨g, hg⟩ : ∃ g, w.heap.size = g := ⟨_, rfl⟩
  have HG := Lib.hid hg
  obtain ⟨W1, hW1⟩ : ∃ W, W = (w.alloc (.cells (dfA D) 26)).alloc (.cells #[] 33) := ⟨_, rfl⟩
  have hs1 : W1.heap.size = g + 2 := by rw [hW1]; simp [hg]
  have hb1 : Below g w W1 := by rw [hW1, ← hg]; exact ((Below.refl _ _).alloc (Nat.le_refl _) _).alloc (by simp) _
  have hd1 : DfaAt W1 g D := by rw [hW1]; exact (DfaAt.new w D g hg).alloc _
  have ho1 : W1.ownsRow (g + 1) 33 2 (.slice (some ⟨g + 1, 0, none⟩) 0 0) 0 [] := by
    have := own_zero (w.alloc (.cells (dfA D) 26)) (g + 1) 33 2 (by simp; omega)
    rw [hW1]
    simpa [hg] using this
  have HRM := Lib.hid (rdright_any W1 D M (h.below (by rw [hg]; exact hb1)) hC)
  obtain ⟨q, hq⟩ : ∃ q, rightM M = q := ⟨_, rfl⟩
  rw [hq] at HRM
  have HQ := Lib.hid hq
  have HW1 := Lib.hid hW1
  have HB1 := Lib.hid hb1
  have HS1 := Lib.hid hs1
  have HD1 := Lib.hid hd1
  have HO1 := Lib.hid ho1
  have hld := run_loadD W1 g D hd1
  rw [hW1] at hld HRM
  obtain ⟨ps, hps⟩ : ∃ ps, pcsR M (LS s) = ps := ⟨_, rfl⟩
  have HPS := Lib.hid hps
  rw [hps]
  clear h hW1 hs1 hb1 hd1 ho1 hq hC hps
  go_enter Tryd.func13, Tryd.ntmps13
  go_wp2_with fail
  refine HRM.out.mono ?_
  rintro e w2 ⟨rfl, hb2⟩
  have hb2' : Below W1.heap.size W1 w2 := by rw [← HW1.out] at hb2; exact hb2
  have HB2 : Hid (Below g w w2) := Lib.hid (HB1.out.trans (hb2'.mono (by have := HS1.out; omega)))
  have HD2 := Lib.hid (HD1.out.below hb2' (by have := HS1.out; omega))
  have HO2 := Lib.hid (ownB HO1.out hb2')
  have hgl : g + 2 ≤ w2.heap.size := by have := hb2'.size; have := HS1.out; omega
  clear hb2 hb2' hld
  cases q with
  | false =>
    have HE : Hid (ps = []) := Lib.hid (by rw [← HPS.out]; unfold pcsR; rw [HQ.out]; rfl)
    go_wp2
    go_ret
    rw [HE.out]
    exact ⟨_, _, rfl, by first | exact own_mono HO2.out (by omega) | (rw [HG.out]; exact own_mono HO2.out (by omega)), by first | exact HB2.out | (rw [HG.out]; exact HB2.out)⟩
  | true =>
    have HE : Hid (pcsA M (LS s) 0 = ps) := Lib.hid (by rw [← HPS.out]; unfold pcsR; rw [if_pos HQ.out])
    go_wp2_with fail
    go_loopw [5, 6, 7, 8] (fun lv iv tv ev wr => ∃ (a : Nat) (dn : List Pc), a ≤ s.size ∧ iv = .int .i64 (a : Int) ∧ wr.ownsRow (g + 1) 33 2 lv dn.length (dn.flatMap pcC) ∧ dn ++ pcsA M (LS s) a = ps ∧ dn.length ≤ a ∧ DfaAt wr g D ∧ Below g w wr) (fun _ i _ _ _ => s.size - (intOf i).toNat)
    case atStart => exact ⟨0, [], by omega, rfl, HO2.out, HE.out, by simp, HD2.out, HB2.out⟩
    case round =>
      obtain ⟨a, dn, ha, rfl, hown, hdn, hdl, hd, hb⟩ := hrel
      have HOW := Lib.hid hown
      have HDN := Lib.hid hdn
      have HD := Lib.hid hd
      have HB := Lib.hid hb
      obtain ⟨A, c, rfl, _, _⟩ := own_form hown
      have hgr : g + 1 ≤ wr.heap.size := hd.lt
      by_cases hlt : a < s.size
      case neg =>
        have HFN : Hid (ps = dn) := Lib.hid (by rw [← HDN.out, pcsA_end (by omega), List.append_nil])
        have z1 : ¬ (a : Int) < (s.size : Int) := by omega
        clear hown hdn hd hb
        go_wp2
        go_ret
        rw [HFN.out]
        exact ⟨_, _, rfl, by first | exact own_mono HOW.out (by omega) | (rw [HG.out]; exact own_mono HOW.out (by omega)), by first | exact HB.out | (rw [HG.out]; exact HB.out)⟩
      case pos =>
        have z0 : (0 : Int) ≤ (a : Int) := by omega
        have z1 : (a : Int) < (s.size : Int) := by omega
        have hmat := HM.out.below (w' := wr) (by rw [HG.out]; exact hb)
        have hrn := rnext_any wr D M s (a : Int) hmat HCC.out hs
        have hany : anyNext M (LS s) (a : Int) = ((nextM M (LS s) a).1, ((nextM M (LS s) a).2 : Int)) := by
          unfold anyNext; rw [if_pos ⟨HQ.out, by omega, by rw [LS_len]; omega⟩, Int.toNat_natCast]
        rw [hany] at hrn
        have hend := nextM_end (M := M) (l := LS s) (a := a) (by rw [LS_len]; exact hlt)
        rw [LS_len] at hend
        have hstep := pcsA_step (M := M) (s := s) hlt
        obtain ⟨⟨t, e⟩, hte⟩ : ∃ p, nextM M (LS s) a = p := ⟨_, rfl⟩
        rw [hte] at hrn hend hstep
        simp only at hrn hend hstep
        have HRN := Lib.hid hrn
        have HST := Lib.hid hstep
        have hld := run_loadD wr g D hd
        obtain ⟨he1, he2⟩ := hend
        clear hown hdn hd hb hmat hany hte hrn hstep
        go_wp2_with fail
        refine HRN.out.mono ?_
        rintro x w3 ⟨rfl, hb3⟩
        have HO3 := Lib.hid (ownB HOW.out hb3)
        have HB3 := Lib.hid (HB.out.trans (hb3.mono (by omega)))
        have HD3 := Lib.hid (HD.out.below hb3 HD.out.lt)
        have hg3 : g + 1 ≤ w3.heap.size := by have := hb3.size; omega
        have HAP := Lib.hid (app_pc HO3.out ⟨t, s.extract a e⟩ (by omega) (by omega) w3.heap.size rfl)
        have e0 : (0 : Int) ≤ (e : Int) := by omega
        have e1 : (a : Int) ≤ (e : Int) := by omega
        have e2 : (e : Int) ≤ (s.size : Int) := by omega
        clear hb3 hld
        go_wp2_with (at_builtin; refine HAP.out _ _ _ _ _ rfl _ _ rfl rfl rfl ?_; intro gg cap w5 hownB hgrow hat; have HOB := Lib.hid hownB; have HB5 := Lib.hid (below_grown (HB3.out.alloc (by omega) (.cells #[.int .i64 t, .string (s.extract a e)] 33)) (by simp; omega) hgrow (fun j hj => by have := (own_ge HO3.out hj).1; omega)); have HGR := Lib.hid hgrow; clear hownB hgrow hat)
        go_roundw
        case rel =>
          refine ⟨e, dn ++ [⟨t, s.extract a e⟩], by omega, rfl, by simpa using HOB.out, by rw [List.append_assoc, List.singleton_append, ← HST.out]; exact HDN.out, by simp; omega, ?_, HB5.out⟩
          exact (HGR.out.block g (by simp; omega) (fun e' => by have := (own_ge HO3.out e'.symm).1; omega)).trans ((HD3.out.alloc _))
        case measure => simp [intOf]; omega
end Go.Proofs.YtenijacffcdnaaaDoor
/- strings.Builder: copyCheck, WriteByte, WriteString, String: by the names of this translation. -/
namespace Go.Proofs.YtenijacffcdnaaaDoor
open Go.RowKit
set_option linter.unusedVariables false

theorem infoB : (Tryd.prog.info? 68).map (·.size) = some 2 := by kernel_rfl
theorem liesB : liesAt Tryd.prog Tryd.prog.depth 68 (2 / Tryd.prog.cellsOf 68) 0 68 1 = true := by kernel_rfl
/-- A builder at block b of just these bytes; used. -/
def Bld (B b : Nat) (l : List UInt8) (w : World) : Prop := Lib.BuilderAt 68 5 B b (.pointer (some ⟨b, 0, none⟩)) (Lib.byteCells l) w
set_option maxRecDepth 100000 in
theorem copycheck_used (b : Nat) (w : World) (h0 : w.cell? ⟨b, 0, none⟩ = some (.pointer (some ⟨b, 0, none⟩))) :
    Calls Tryd.prog 48 #[.pointer (some ⟨b, 0, none⟩)] w fun e w' => e = .returned (.tuple #[]) ∧ w' = w := by
  obtain ⟨j, hj, _⟩ := Option.map_eq_some_iff.1 infoB
  go_enter Tryd.func48, Tryd.ntmps48
  go_wp2
  rw [Lib.run_neq_ptr_same w _ Tryd.underlying65 hj]
  go_wp2
  go_end0
  exact ⟨rfl, rfl⟩
set_option maxRecDepth 100000 in
theorem copycheck_new (b : Nat) (w : World) (h0 : w.cell? ⟨b, 0, none⟩ = some (.pointer none)) (hsh : w.shape? b = some (68, 2)) (hfz : w.frozen? ⟨b, 0, none⟩ = false) :
    Calls Tryd.prog 48 #[.pointer (some ⟨b, 0, none⟩)] w fun e w' => e = .returned (.tuple #[]) ∧ w' = w.setCell ⟨b, 0, none⟩ (.pointer (some ⟨b, 0, none⟩)) := by
  obtain ⟨j, hj, hjs⟩ := Option.map_eq_some_iff.1 infoB
  go_enter Tryd.func48, Tryd.ntmps48
  go_wp2
  rw [Lib.run_to_unsafe w ⟨b, 0, none⟩ Tryd.underlying65 Tryd.underlying108 hj (by rw [hjs]; decide) hsh (Nat.zero_lt_succ 1)]
  simp only [Result.andThen]
  rw [Oper.upon_value]
  go_wp2
  rw [run_callFunc_extern Tryd.func59 (by kernel_rfl) (by kernel_rfl) (by kernel_rfl) (e := Extern.AbiNoEscape.same) (by kernel_rfl)]
  rw [Lib.run_noEscape]
  simp only [Result.andThen]
  rw [Oper.upon_value]
  go_wp2
  rw [Lib.run_from_unsafe w ⟨b, 0, none⟩ Tryd.underlying108 Tryd.underlying65 hj hsh liesB]
  simp only [Result.andThen]
  rw [Oper.upon_value]
  go_wp2
  go_end0
  exact ⟨rfl, rfl⟩
theorem copycheck_any (B b : Nat) (bs : List Value) (w : World) (h : Lib.IsBuilder 68 5 B b bs w) :
    Calls Tryd.prog 48 #[.pointer (some ⟨b, 0, none⟩)] w fun e w' => e = .returned (.tuple #[]) ∧ Lib.BuilderAt 68 5 B b (.pointer (some ⟨b, 0, none⟩)) bs w' ∧ Below B w w' ∧ w'.heap.size = w.heap.size := by
  rcases h with h | h
  · refine (copycheck_new b w h.cell0 h.shape h.frozen0).mono ?_
    rintro e w' ⟨rfl, rfl⟩
    exact ⟨rfl, h.used _, (Below.refl B w).setCell (p := ⟨b, 0, none⟩) h.1 _, by simp⟩
  · refine (copycheck_used b w h.cell0).mono ?_
    rintro e w' ⟨rfl, rfl⟩
    exact ⟨rfl, h, Below.refl B _, rfl⟩
def by1 (c : UInt8) : List Value := [.int .u8 c.toNat]
theorem by1_len (c : UInt8) : (by1 c).length = 1 := rfl
theorem by1_one (c : UInt8) : ∀ u ∈ by1 c, u.oneCell' = true := fun u hu => by simp [by1] at hu; subst hu; rfl
theorem by1_flat (l : List UInt8) : l.flatMap by1 = Lib.byteCells l := by
  induction l with
  | nil => rfl
  | cons c l ih => simp [by1, Lib.byteCells] at ih ⊢; exact ih
set_option maxRecDepth 100000 in
theorem wstr_any (B b : Nat) (l m : List UInt8) (w : World) (h : Lib.IsBuilder 68 5 B b (Lib.byteCells l) w) (hlen : l.length + m.length ≤ 100000) (hBw : B ≤ w.heap.size) :
    Calls Tryd.prog 27 #[.pointer (some ⟨b, 0, none⟩), .string ⟨m.toArray⟩] w fun e w' => (∃ v, e = .returned v) ∧ Bld B b (l ++ m) w' ∧ Below B w w' := by
  have HCC := Lib.hid (copycheck_any B b _ w h)
  obtain ⟨i0, hi, hz0, hz1, hz2⟩ := info_parts infoU8
  unfold Bld
  obtain ⟨s, hs⟩ : ∃ s : ByteArray, s = ⟨m.toArray⟩ := ⟨_, rfl⟩
  have hsz : s.size = m.length := by rw [hs]; simp [ByteArray.size]
  have HSC : Hid (Lib.strCells s = Lib.byteCells m) := Lib.hid (by rw [hs]; rfl)
  rw [← hs]
  clear h hs
  go_enter Tryd.func27, Tryd.ntmps27
  go_wp2_with fail
  refine HCC.out.mono ?_
  rintro e w1 ⟨rfl, h1, hb1, hs1⟩
  have hle1 : w.heap.size ≤ w1.heap.size := hb1.size
  clear hs1
  obtain ⟨hB, v, hbk, hown, hne⟩ := h1
  have hlt : b < w1.heap.size := Lib.BuilderAt.lt ⟨hB, v, hbk, hown, hne⟩
  have c1 : w1.cell? ⟨b, 1, none⟩ = some v := by rw [Lib.cell_of_heap hbk]; rfl
  rw [Lib.byteCells_length] at hown
  have HH := Lib.hid fun ops rest o a Q hg sl x ho hs hx => @Lib.wpList_append_own_string Tryd.prog w1 ops rest o a Q hg sl x 66 9 ho B 5 i0 Tryd.underlying66 Tryd.underlying9 hi hz0 hz1 hz2 v l.length (Lib.byteCells l) hs hown s hx (by unfold maxLen; omega) (by omega) (by omega)
  have HBK := Lib.hid hbk
  have HNE := Lib.hid hne
  have HB1 := Lib.hid hb1
  have HOW := Lib.hid hown
  have HSZ := Lib.hid hsz
  have hsz2 : s.size ≤ 100000 := by omega
  clear hbk hne hown HCC hb1 hsz hi hz0 hz1 hz2
  go_wp2_with (at_builtin; refine HH.out _ _ _ _ _ rfl _ _ rfl rfl rfl ?_; intro v2 w2 hown1 hgrow hat; have HW := Lib.hid hown1; have HGR := Lib.hid hgrow; have HB2 : Hid (w2.heap[b]? = some (.cells #[.pointer (some ⟨b, 0, none⟩), v] 68 (0, 0))) := Lib.hid ((hgrow.block b hlt (fun e => HNE.out e.symm)).trans HBK.out); have d1 : w2.cell? ⟨b, 1, none⟩ = some v := (Lib.cell_of_heap HB2.out 1).trans rfl; have f1 : w2.frozen? ⟨b, 1, none⟩ = false := Lib.frozen_of_heap HB2.out 1; have HF := Lib.hid (own_form hown1); clear hown1 hgrow hat; obtain ⟨A2, cc2, rfl, hle2, hcc2⟩ := HF.out; clear HF)
  go_ret2
  have hw := HW.out
  rw [HSC.out, ← Lib.byteCells_append] at hw
  refine ⟨⟨_, rfl⟩, Lib.BuilderAt.put (T := 68) (e := 5) hB HB2.out (bs' := Lib.byteCells (l ++ m)) (by rw [Lib.byteCells_length, List.length_append, ← HSZ.out]; exact hw) (by decide), ?_⟩
  exact (below_grown HB1.out (by omega) HGR.out (fun j hj => (own_ge HOW.out hj).1)).setCell (p := ⟨b, 1, none⟩) hB _
end Go.Proofs.YtenijacffcdnaaaDoor
/- strings.Builder's String at this translation, laid by the kit's tools (lay-shelf, lay-plain). -/
namespace Go.Proofs.YtenijacffcdnaaaDoor
open Go.Shelf Go.RowKit Go.Lib
def lays169_ren : Go.Shelf.Ren := ⟨fun | 169 => 28 | n => n, fun | 70 => 65 | 9 => 9 | 0 => 0 | 72 => 68 | 37 => 66 | 127 => 95 | 3 => 3 | 5 => 5 | n => n, fun | n => n⟩
theorem lays169 : Go.Proofs.Lays.n169 Tryd.prog lays169_ren := {
  mixed := by kernel_rfl
  f169 := Tryd.func28.trans (congrArg some (by kernel_rfl))
  t0 := Tryd.underlying0
  a0 := Tryd.isAgg0
  z0 := Tryd.sizeOf0
  v0 := Tryd.zeroValue0
  t3 := Tryd.underlying3
  a3 := Tryd.isAgg3
  z3 := Tryd.sizeOf3
  v3 := Tryd.zeroValue3
  t9 := Tryd.underlying9
  a9 := Tryd.isAgg9
  z9 := Tryd.sizeOf9
  v9 := Tryd.zeroValue9
  t37 := Tryd.underlying66
  a37 := Tryd.isAgg66
  z37 := Tryd.sizeOf66
  v37 := Tryd.zeroValue66
  t70 := Tryd.underlying65
  a70 := Tryd.isAgg65
  z70 := Tryd.sizeOf65
  v70 := Tryd.zeroValue65
  t72 := Tryd.underlying68
  a72 := Tryd.isAgg68
  z72 := Tryd.sizeOf68
  v72 := Tryd.zeroValue68
  t127 := Tryd.underlying95
  a127 := Tryd.isAgg95
  z127 := Tryd.sizeOf95
  v127 := Tryd.zeroValue95 }
theorem Builder_Extra_169 : Builder.Extra Tryd.prog lays169_ren := {
  sizeBuilder := by kernel_rfl
  liesBuilder := by kernel_rfl
  t5 := Tryd.underlying5
  a5 := Tryd.isAgg5
  z5 := Tryd.sizeOf5
  v5 := Tryd.zeroValue5
  infoByte := by kernel_rfl
  cellsByte := by kernel_rfl
  sizeByte := by kernel_rfl
  neB5 := by decide }
theorem Builder_String_any (B b : Nat) (l : List UInt8) (w : World) (h : Lib.IsBuilder 68 5 B b (Lib.byteCells l) w) (hBw : B ≤ w.heap.size) :
    Calls Tryd.prog 28 #[.pointer (some ⟨b, 0, none⟩)] w fun e w' => e = .returned (.string ⟨l.toArray⟩) ∧ Below B w w' := Any.Builder_String_any lays169 Builder_Extra_169 B b l w h hBw
end Go.Proofs.YtenijacffcdnaaaDoor
