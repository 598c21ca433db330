/- The law of all pieces. -/
import Derived.Test.YtenijacffcdnaaaDoorTw8
namespace Go.Proofs.YtenijacffcdnaaaDoor
open Go.RowKit Go.Sort Go.PlainAid
set_option linter.unusedVariables false
set_option linter.unusedSimpArgs false

/-- What stands at a place of the pieces. -/
theorem piece_at {M : MS} {s : ByteArray} {k : Nat} {p : Pc} (hp : (pcsA M (LS s) 0)[k]? = some p) : ∃ a, a < s.size ∧ joinL ((pcsA M (LS s) 0).take k) = (LS s).take a ∧ p.t = (nextM M (LS s) a).1 ∧ p.s = s.extract a (nextM M (LS s) a).2 := by
  have hk := (List.getElem?_eq_some_iff.1 hp).1
  obtain ⟨a, ha, h1, h2⟩ := pcsA_at (M := M) (l := LS s) k (by omega)
  have hl : a < s.size := by
    apply Nat.lt_of_not_le
    intro h
    rw [pcsA_end h] at h1
    have := congrArg List.length h1
    rw [List.length_drop] at this
    have h0 : (pcsA M (LS s) 0).length - k = 0 := this
    omega
  rw [pcsA_step hl] at h1
  have h3 : ((pcsA M (LS s) 0).drop k)[0]? = some p := by rw [List.getElem?_drop]; exact hp
  rw [h1] at h3
  simp only [List.getElem?_cons_zero, Option.some.injEq] at h3
  subst h3
  exact ⟨a, hl, h2, rfl, rfl⟩
theorem take_inj {l : List UInt8} {a b : Nat} (ha : a ≤ l.length) (hb : b ≤ l.length) (h : l.take a = l.take b) : a = b := by
  have := congrArg List.length h
  rw [List.length_take, List.length_take] at this; omega
attribute [local go_sem ↓] loadA_eq storeA_eq loadD_eq
set_option maxHeartbeats 8000000 in
set_option maxRecDepth 100000 in
theorem lawAll_any (w : World) (D : Df) (M : MS) (s : ByteArray) (h : MAt w D M) (hC : ∀ i, i < 256 → M.cl i < 256) (hN : NoneS w) :
    Calls Tryd.prog 5 #[.agg (dfA D), .string s] w fun e w' => e = .returned (.bool true) ∧ Below w.heap.size w w' := by
  have HM := Lib.hid h
  have HCC := Lib.hid hC
  have HNN := Lib.hid hN
  have hnm := h.nx.len.2
  obtain ⟨g, hg⟩ : ∃ g, w.heap.size = g := ⟨_, rfl⟩
  have HG := Lib.hid hg
  obtain ⟨W1, hW1, hs1, hb1, hd1⟩ := box_dfa hg D
  have HSM := Lib.hid (small_any W1 D M (h.below (by rw [hg]; exact hb1)))
  have HK := Lib.hid fun X (hX : Below g w X) => mknows_any X (hN.below (by rw [hg]; exact hX))
  have HW1 := Lib.hid hW1
  have HB1 := Lib.hid hb1
  have HS1 := Lib.hid hs1
  have HD1 := Lib.hid hd1
  have hld := run_loadD W1 g D hd1
  have d257 := hd1.nx
  rw [hW1] at hld HSM d257
  clear h hC hN hW1 hs1 hb1 hd1
  go_enter Tryd.func5, Tryd.ntmps5
  go_wp2_with fail
  refine HSM.out.mono ?_
  rintro e w2 ⟨⟨b, rfl⟩, hb2⟩
  have hb2' : Below W1.heap.size W1 w2 := by rw [← HW1.out] at hb2; exact hb2
  have HB2 : Hid (Below g w w2) := Lib.hid (HB1.out.trans (hb2'.mono (by have := HS1.out; omega)))
  have HB12 := Lib.hid hb2'
  have HD2 := Lib.hid (HD1.out.below hb2' HD1.out.lt)
  have hgl : g + 1 ≤ w2.heap.size := HD2.out.lt
  have e257 := HD2.out.nx
  have hld2 := run_loadD w2 g D HD2.out
  have HK2 := Lib.hid (HK.out w2 HB2.out)
  clear hb2 hb2' hld d257
  have HFN : ∀ e w3, (e = Ending.returned (.bool true) ∧ Below w2.heap.size w2 w3) → Below g w w3 := fun e w3 hh => HB2.out.trans (hh.2.mono (by omega))
  cases b with
  | false =>
    go_wp2_with fail
    refine HK2.out.mono ?_
    rintro e w3 hh
    have HB3 := Lib.hid (HFN e w3 hh)
    obtain ⟨rfl, _⟩ := hh
    go_wp2
    go_ret
    exact ⟨rfl, by first | exact HB3.out | (rw [HG.out]; exact HB3.out)⟩
  | true =>
  by_cases hb60 : 60 < D.nl
  · have z1 : (60 : Int) < (D.nl : Int) := by omega
    go_wp2_with fail
    refine HK2.out.mono ?_
    rintro e w3 hh
    have HB3 := Lib.hid (HFN e w3 hh)
    obtain ⟨rfl, _⟩ := hh
    go_wp2
    go_ret
    exact ⟨rfl, by first | exact HB3.out | (rw [HG.out]; exact HB3.out)⟩
  by_cases hs60 : 60 < s.size
  · have z1 : ¬ (60 : Int) < (D.nl : Int) := by omega
    have z2 : (60 : Int) < (s.size : Int) := by omega
    go_wp2_with fail
    refine HK2.out.mono ?_
    rintro e w3 hh
    have HB3 := Lib.hid (HFN e w3 hh)
    obtain ⟨rfl, _⟩ := hh
    go_wp2
    go_ret
    exact ⟨rfl, by first | exact HB3.out | (rw [HG.out]; exact HB3.out)⟩
  have z1 : ¬ (60 : Int) < (D.nl : Int) := by omega
  have z2 : ¬ (60 : Int) < (s.size : Int) := by omega
  have HM2 := Lib.hid (HM.out.below (by rw [HG.out]; exact HB2.out))
  have hrm := rdright_any w2 D M HM2.out HCC.out
  obtain ⟨q, hq⟩ : ∃ q, rightM M = q := ⟨_, rfl⟩
  rw [hq] at hrm
  have HRM := Lib.hid hrm
  have HQ := Lib.hid hq
  clear hrm hq
  go_wp2_with fail
  refine HRM.out.mono ?_
  rintro e w3 ⟨rfl, hb3⟩
  have HB3 : Hid (Below g w w3) := Lib.hid (HB2.out.trans (hb3.mono (by omega)))
  have HD3 := Lib.hid (HD2.out.below hb3 HD2.out.lt)
  have HM3 := Lib.hid (HM2.out.below hb3)
  have hg3 : g + 1 ≤ w3.heap.size := HD3.out.lt
  have hld3 := run_loadD w3 g D HD3.out
  have HK3 := Lib.hid (HK.out w3 HB3.out)
  have HN3 := Lib.hid (HNN.out.below (w' := w3) (by rw [HG.out]; exact HB3.out))
  clear hb3 hld2 e257
  cases q with
  | false =>
    go_wp2_with fail
    refine HK3.out.mono ?_
    rintro e w4 ⟨rfl, hb4⟩
    have HB4 : Hid (Below g w w4) := Lib.hid (HB3.out.trans (hb4.mono (by omega)))
    clear hb4
    go_wp2
    go_ret
    exact ⟨rfl, by first | exact HB4.out | (rw [HG.out]; exact HB4.out)⟩
  | true =>
    have hcu := mcutc_any w3 D M s HM3.out HCC.out HN3.out (by omega)
    have hps : pcsR M (LS s) = pcsA M (LS s) 0 := by unfold pcsR; rw [if_pos HQ.out]
    rw [hps] at hcu
    have hjl := pcsA_join (M := M) (l := LS s)
    obtain ⟨ps, hpp⟩ : ∃ ps, pcsA M (LS s) 0 = ps := ⟨_, rfl⟩
    have HPP := Lib.hid hpp
    rw [hpp] at hcu hjl
    obtain ⟨n, hn⟩ : ∃ n, ps.length = n := ⟨_, rfl⟩
    have HNL := Lib.hid hn
    rw [hn] at hcu
    have HC0 := Lib.hid hcu
    have HJL := Lib.hid hjl
    clear hcu hps hpp hn hjl
    go_wp2_with fail
    refine HC0.out.mono ?_
    rintro e w4 ⟨A, c, rfl, ⟨hrow, hnc, hcm⟩, hb4⟩
    have HB4 : Hid (Below g w w4) := Lib.hid (HB3.out.trans (hb4.mono (by omega)))
    have HD4 := Lib.hid (HD3.out.below hb4 HD3.out.lt)
    have HM4 := Lib.hid (HM3.out.below hb4)
    have hg4 : g + 1 ≤ w4.heap.size := HD4.out.lt
    have hld4 := run_loadD w4 g D HD4.out
    have HROW := Lib.hid hrow
    have HK4 := Lib.hid (HK.out w4 HB4.out)
    have HN4 := Lib.hid (HNN.out.below (w' := w4) (by rw [HG.out]; exact HB4.out))
    clear hb4 hld3
    have hjs : joinB ps = s := LS_inj (by rw [LS_joinB, HJL.out])
    have hmj := mjoin_any w4 A n c ps HROW.out (by rw [HJL.out, LS_len]; omega)
    rw [hjs] at hmj
    have HMJ := Lib.hid hmj
    clear hmj hjs hrow
    go_wp2_with fail
    refine HMJ.out.mono ?_
    rintro e w5 ⟨rfl, hb5⟩
    have HB45 := Lib.hid hb5
    clear hb5 hld4
    go_wp2
    go_loopw [6, 7] (fun av iv wr => ∃ k a : Nat, k ≤ n ∧ a ≤ s.size ∧ iv = .int .i64 (k : Int) ∧ av = .int .i64 (a : Int) ∧ joinL (ps.take k) = (LS s).take a ∧ Below g w wr ∧ Below w4.heap.size w4 wr) (fun _ i _ => n - (intOf i).toNat)
    case atStart => exact ⟨0, 0, by omega, by omega, rfl, rfl, rfl, HB4.out.trans (HB45.out.mono (by omega)), HB45.out⟩
    case round =>
      obtain ⟨k, a, hk, ha, rfl, rfl, hj, _, hbw⟩ := hrel
      have HJ := Lib.hid hj
      clear hj
      by_cases hlt : k < n
      case neg =>
        have hkn : k = n := by omega
        have hae : a = s.size := by
          have h9 := HJ.out
          rw [List.take_of_length_le (by rw [HNL.out]; omega), HJL.out] at h9
          have := congrArg List.length h9
          rw [List.length_take, LS_len] at this; omega
        have z10 : ¬ (k : Int) < (n : Int) := by omega
        have HBW : Hid (Below g w wr) := Lib.hid (HB4.out.trans (hbw.mono (by omega)))
        have HKW := Lib.hid (HK.out wr HBW.out)
        have z11 : (a : Int) = (s.size : Int) := by omega
        clear hbw hkn
        subst hae
        go_wp2_with fail
        refine HKW.out.mono ?_
        rintro e w6 ⟨rfl, hb6⟩
        have HB6 : Hid (Below g w w6) := Lib.hid (HBW.out.trans (hb6.mono (by have := HBW.out.size; rw [HG.out] at this; exact this)))
        clear hb6
        go_wp2
        go_ret
        exact ⟨rfl, by first | exact HB6.out | (rw [HG.out]; exact HB6.out)⟩
      case pos =>
        obtain ⟨b1, off1, p, rfl, hb1', hp, hcp⟩ := HROW.out.at_ hlt
        have HPK := Lib.hid hp
        obtain ⟨a', ha', hj', hpt, hps⟩ := piece_at (M := M) (s := s) (k := k) (p := p) (by rw [HPP.out]; exact hp)
        rw [HPP.out, HJ.out] at hj'
        obtain rfl : a = a' := take_inj (l := LS s) (by rw [LS_len]; omega) (by rw [LS_len]; omega) hj'
        have hend := nextM_end (M := M) (l := LS s) (a := a) (by rw [LS_len]; exact ha')
        have htok := nextM_tok (M := M) (l := LS s) (a := a) (by rw [LS_len]; exact ha')
        have hjn := joinL_take hp
        rw [HJ.out] at hjn
        obtain ⟨⟨t, e⟩, hte⟩ : ∃ x, nextM M (LS s) a = x := ⟨_, rfl⟩
        rw [hte] at hend htok hpt hps
        rw [LS_len] at hend htok
        simp only at hend htok hpt hps
        have hLS : LS p.s = ((LS s).drop a).take (e - a) := by rw [hps, LS_ext]
        obtain ⟨pn, hpn⟩ : ∃ x, e - a = x := ⟨_, rfl⟩
        have hsz : p.s.size = pn := by rw [← LS_len, hLS, List.length_take, List.length_drop, LS_len]; omega
        have HJ2 : Hid (joinL (ps.take (k + 1)) = (LS s).take e) := Lib.hid (by rw [hjn, hLS]; exact take_app (by omega))
        have hpz : (p.s.size : Int) = (pn : Int) := by omega
        obtain ⟨a2, ha2⟩ : ∃ x, x = e := ⟨_, rfl⟩
        rw [← ha2] at HJ2
        have HPT := Lib.hid hpt
        have HMR := Lib.hid (HM4.out.below hbw)
        have HDR := Lib.hid (HD4.out.below hbw HD4.out.lt)
        have HROWR := Lib.hid (HROW.out.below hbw)
        have hgr : g + 1 ≤ wr.heap.size := HDR.out.lt
        have kL : ∀ d os, (loadD ⟨g, 0, none⟩).run Tryd.prog (grow (redrawn wr d) os) = .ok (.agg (dfA D)) (grow (redrawn wr d) os) := fun d os => run_loadD _ g D (HDR.out.below (below_regrown wr d os) HDR.out.lt)
        have c0 : wr.cell? ⟨b1, off1 + k * 2, none⟩ = some (.int .i64 p.t) := (hbw.cell (p := ⟨b1, off1 + k * 2, none⟩) hb1').trans (hcp 0 _ rfl)
        have c1 : wr.cell? ⟨b1, off1 + k * 2 + 1, none⟩ = some (.string p.s) := (hbw.cell (p := ⟨b1, off1 + k * 2 + 1, none⟩) hb1').trans (hcp 1 _ rfl)
        rw [hpt] at c0
        have k0 := cell_regrown c0
        have k1 := cell_regrown c1
        have z10 : (0 : Int) ≤ (k : Int) := by omega
        have z11 : (k : Int) < (n : Int) := by omega
        have HB : Hid (Below g w wr) := Lib.hid (HB4.out.trans (hbw.mono (by omega)))
        have HB4W := Lib.hid hbw
        have hea : a2 ≤ s.size := by omega
        by_cases ht : t < 0
        case pos =>
          rcases htok with ⟨ht1, he1, hmax⟩ | ⟨ht1, _, _⟩
          case inr => omega
          have HMAX : Hid (∀ j, 1 ≤ j → j ≤ s.size - a → labM M (goL M 0 (((LS s).drop a).take j)) < 0) := Lib.hid hmax
          have hpn1 : pn = 1 := by omega
          subst hpn1
          have HA2 : Hid ((a : Int) + 1 = (a2 : Int)) := Lib.hid (by omega)
          rw [ht1] at c0 k0 HPT
          have hpz' : (p.s.size : Int) = 1 := by omega
          clear hp hcp hb1' hj' hpt hps hend hte hjn hLS hmax hpz hsz hpn ht hbw ha'
          go_wp2
          refine wp_region_quiet_below (by kernel_rfl) (by kernel_rfl) ?_
          repeat (go_big_quiet_step (fail))
          refine wpQuiet_nil ?_
          intro _ hw'
          obtain ⟨⟨dq, osq⟩, hw''⟩ := hw'
          subst hw''
          have hbA : Below wr.heap.size wr (grow (redrawn wr dq) osq) := below_regrown wr dq osq
          obtain ⟨wa, hwa⟩ : ∃ x, x = grow (redrawn wr dq) osq := ⟨_, rfl⟩
          rw [← hwa] at hbA ⊢
          have HBA := Lib.hid hbA
          clear hbA hwa kL
          go_wp2
          obtain ⟨wo, hwo⟩ : ∃ x, x = wr := ⟨_, rfl⟩
          rw [← hwo] at HB HROWR HDR HMR HBA HB4W
          have hgo : g + 1 ≤ wo.heap.size := by rw [hwo]; exact hgr
          clear hwo
          go_loopw [9] (fun ev wr => ∃ q : Nat, a + 1 ≤ q ∧ q ≤ s.size + 1 ∧ ev = .int .i64 (q : Int) ∧ Below wo.heap.size wo wr) (fun ev _ => s.size + 1 - (intOf ev).toNat)
          case atStart => exact ⟨a + 1, by omega, by omega, by go_num, HBA.out⟩
          case round =>
            obtain ⟨q, hq1, hq2, rfl, hbi⟩ := hrel
            have HBI := Lib.hid hbi
            have hd := HDR.out.below hbi HDR.out.lt
            have hmat := HMR.out.below hbi
            have hrow := HROWR.out.below hbi
            obtain ⟨b1', off1', p', hbe, hb1i, hp', hcp'⟩ := hrow.at_ hlt
            rw [HPK.out] at hp'
            obtain rfl := Option.some.inj hp'
            simp only [Option.some.injEq, Addr.mk.injEq, and_true] at hbe
            obtain ⟨rfl, rfl⟩ := hbe
            have c0' : wr.cell? ⟨b1, off1 + k * 2, none⟩ = some (.int .i64 p.t) := hcp' 0 _ rfl
            rw [HPT.out] at c0'
            have k0' := cell_regrown c0'
            have kL : ∀ d os, (loadD ⟨g, 0, none⟩).run Tryd.prog (grow (redrawn wr d) os) = .ok (.agg (dfA D)) (grow (redrawn wr d) os) := fun d os => run_loadD _ g D (hd.below (below_regrown wr d os) hd.lt)
            have hgw : g + 1 ≤ wr.heap.size := hd.lt
            by_cases hqs : q ≤ s.size
            case neg =>
              have z20 : ¬ (q : Int) ≤ (s.size : Int) := by omega
              clear kL k0' c0' hcp' hrow hmat hd hbi
              go_wp2
              go_roundw
              case rel => exact ⟨k + 1, a2, by omega, by omega, rfl, by first | exact congrArg (Value.int .i64) HA2.out | go_num, HJ2.out, HB.out.trans (HBI.out.mono (by omega)), HB4W.out.trans (HBI.out.mono (by have := HB4W.out.size; omega))⟩
              case measure => simp [intOf]; omega
            case pos =>
              have z20 : (q : Int) ≤ (s.size : Int) := by omega
              have z21 : (a : Int) ≤ (q : Int) := by omega
              have z22 : (0 : Int) ≤ (q : Int) := by omega
              have z23 : (0 : Int) ≤ (a : Int) := by omega
              obtain ⟨y, hy⟩ : ∃ y, goL M 0 (((LS s).drop a).take (q - a)) = y := ⟨_, rfl⟩
              obtain ⟨u, hu⟩ : ∃ u, labM M y = u := ⟨_, rfl⟩
              have hun : ¬ (0 : Int) ≤ u := by
                rw [← hu, ← hy]; have := HMAX.out (q - a) (by omega) (by omega); omega
              have jun : decide ((0 : Int) ≤ u) = false := decide_eq_false hun
              have hrn := fun d os => rrun_any (grow (redrawn wr d) os) D M (s.extract a q) (hmat.below (below_regrown wr d os)) HCC.out (by simp; omega)
              have e9 : runM M (LS (s.extract a q)) = y := by unfold runM; rw [if_pos HQ.out, LS_ext, hy]
              rw [e9] at hrn
              have hln := fun d os => rlabel_any (grow (redrawn wr d) os) D M y (hmat.below (below_regrown wr d os)) HCC.out
              rw [hu] at hln
              have HRUN2 := Lib.hid hrn
              have HLBL2 := Lib.hid hln
              clear hrn hln e9 hu hy hrow hmat hd hcp' hbi c0'
              by_cases hqa : a + 1 < q
              case pos =>
                have z24 : ((a : Int) + 1 < (q : Int)) := by omega
                have j24 : decide ((a : Int) + 1 < (q : Int)) = true := decide_eq_true (by omega)
                go_wp2
                refine wp_region_quiet_below (by kernel_rfl) (by kernel_rfl) ?_
                repeat (go_big_quiet_step (first | (with_reducible exact Calls.regrown_of (HRUN2.out _ _)) | (with_reducible exact Calls.regrown_of (HLBL2.out _ _))))
                refine wpQuiet_nil ?_
                intro _ hw'
                obtain ⟨⟨dq, osq⟩, hw''⟩ := hw'
                subst hw''
                have HBN : Hid (Below wo.heap.size wo (grow (redrawn wr dq) osq)) := Lib.hid (HBI.out.trans ((below_regrown wr dq osq).mono HBI.out.size))
                go_wp2
                go_roundw
                case rel => exact ⟨q + 1, by omega, by omega, by go_num, HBN.out⟩
                case measure => simp [intOf]; omega
              case neg =>
                have z24 : ¬ ((a : Int) + 1 < (q : Int)) := by omega
                have j24 : decide ((a : Int) + 1 < (q : Int)) = false := decide_eq_false (by omega)
                go_wp2
                refine wp_region_quiet_below (by kernel_rfl) (by kernel_rfl) ?_
                repeat (go_big_quiet_step (first | (with_reducible exact Calls.regrown_of (HRUN2.out _ _)) | (with_reducible exact Calls.regrown_of (HLBL2.out _ _))))
                refine wpQuiet_nil ?_
                intro _ hw'
                obtain ⟨⟨dq, osq⟩, hw''⟩ := hw'
                subst hw''
                have HBN : Hid (Below wo.heap.size wo (grow (redrawn wr dq) osq)) := Lib.hid (HBI.out.trans ((below_regrown wr dq osq).mono HBI.out.size))
                go_wp2
                go_roundw
                case rel => exact ⟨q + 1, by omega, by omega, by go_num, HBN.out⟩
                case measure => simp [intOf]; omega
        case neg =>
          rcases htok with ⟨ht1, _, _⟩ | ⟨ht1, htl, hmax⟩
          case inl => omega
          rw [hpn] at htl hmax
          have HMAX : Hid (∀ j, pn < j → j ≤ s.size - a → labM M (goL M 0 (((LS s).drop a).take j)) < 0) := Lib.hid hmax
          have HA2 : Hid ((a : Int) + (pn : Int) = (a2 : Int)) := Lib.hid (by omega)
          have z12 : ((pn : Int) == 0) = false := by rw [beq_eq_false_iff_ne]; omega
          have z13 : ¬ t < 0 := ht
          have z14 : 0 ≤ t := ht1
          have j13 : decide (t < 0) = false := decide_eq_false ht
          have j14 : decide (0 ≤ t) = true := decide_eq_true ht1
          have z15 : (t != t) = false := by simp
          obtain ⟨x, hx⟩ : ∃ x, goL M 0 (((LS s).drop a).take pn) = x := ⟨_, rfl⟩
          have hrn := fun d os => rrun_any (grow (redrawn wr d) os) D M p.s (HMR.out.below (below_regrown wr d os)) HCC.out (by omega)
          have e9 : runM M (LS p.s) = x := by unfold runM; rw [if_pos HQ.out, hLS, hpn, hx]
          rw [e9] at hrn
          have hln := fun d os => rlabel_any (grow (redrawn wr d) os) D M x (HMR.out.below (below_regrown wr d os)) HCC.out
          have e8 : labM M x = t := by rw [← hx, ← htl]
          rw [e8] at hln
          have HRUN := Lib.hid hrn
          have HLBL := Lib.hid hln
          have hpn1 : 1 ≤ pn := by omega
          have hpna : a + pn ≤ s.size := by omega
          clear hp hcp hb1' hj' hpt hps hend hte hjn hLS hmax hsz hpn ht1 hbw ha' hrn e9 hln e8 hx htl ht
          go_wp2
          refine wp_region_quiet_below (by kernel_rfl) (by kernel_rfl) ?_
          repeat (go_big_quiet_step (first | (with_reducible exact Calls.regrown_of (HRUN.out _ _)) | (with_reducible exact Calls.regrown_of (HLBL.out _ _))))
          refine wpQuiet_nil ?_
          intro _ hw'
          obtain ⟨⟨dq, osq⟩, hw''⟩ := hw'
          subst hw''
          have hbA : Below wr.heap.size wr (grow (redrawn wr dq) osq) := below_regrown wr dq osq
          obtain ⟨wa, hwa⟩ : ∃ x, x = grow (redrawn wr dq) osq := ⟨_, rfl⟩
          rw [← hwa] at hbA ⊢
          have HBA := Lib.hid hbA
          clear hbA hwa kL
          go_wp2
          obtain ⟨wo, hwo⟩ : ∃ x, x = wr := ⟨_, rfl⟩
          rw [← hwo] at HB HROWR HDR HMR HBA HB4W
          have hgo : g + 1 ≤ wo.heap.size := by rw [hwo]; exact hgr
          clear hwo
          go_loopw [9] (fun ev wr => ∃ q : Nat, a + 1 ≤ q ∧ q ≤ s.size + 1 ∧ ev = .int .i64 (q : Int) ∧ Below wo.heap.size wo wr) (fun ev _ => s.size + 1 - (intOf ev).toNat)
          case atStart => exact ⟨a + 1, by omega, by omega, by go_num, HBA.out⟩
          case round =>
            obtain ⟨q, hq1, hq2, rfl, hbi⟩ := hrel
            have HBI := Lib.hid hbi
            have hd := HDR.out.below hbi HDR.out.lt
            have hmat := HMR.out.below hbi
            have hrow := HROWR.out.below hbi
            obtain ⟨b1', off1', p', hbe, hb1i, hp', hcp'⟩ := hrow.at_ hlt
            rw [HPK.out] at hp'
            obtain rfl := Option.some.inj hp'
            simp only [Option.some.injEq, Addr.mk.injEq, and_true] at hbe
            obtain ⟨rfl, rfl⟩ := hbe
            have c0' : wr.cell? ⟨b1, off1 + k * 2, none⟩ = some (.int .i64 p.t) := hcp' 0 _ rfl
            rw [HPT.out] at c0'
            have k0' := cell_regrown c0'
            have kL : ∀ d os, (loadD ⟨g, 0, none⟩).run Tryd.prog (grow (redrawn wr d) os) = .ok (.agg (dfA D)) (grow (redrawn wr d) os) := fun d os => run_loadD _ g D (hd.below (below_regrown wr d os) hd.lt)
            have hgw : g + 1 ≤ wr.heap.size := hd.lt
            by_cases hqs : q ≤ s.size
            case neg =>
              have z20 : ¬ (q : Int) ≤ (s.size : Int) := by omega
              clear kL k0' c0' hcp' hrow hmat hd hbi
              go_wp2
              go_roundw
              case rel => exact ⟨k + 1, a2, by omega, by omega, rfl, by first | exact congrArg (Value.int .i64) HA2.out | go_num, HJ2.out, HB.out.trans (HBI.out.mono (by omega)), HB4W.out.trans (HBI.out.mono (by have := HB4W.out.size; omega))⟩
              case measure => simp [intOf]; omega
            case pos =>
              have z20 : (q : Int) ≤ (s.size : Int) := by omega
              have z21 : (a : Int) ≤ (q : Int) := by omega
              have z22 : (0 : Int) ≤ (q : Int) := by omega
              have z23 : (0 : Int) ≤ (a : Int) := by omega
              by_cases hqa : a + pn < q
              case pos =>
                have z24 : (a : Int) + (pn : Int) < (q : Int) := by omega
                have j24 : decide ((a : Int) + (pn : Int) < (q : Int)) = true := decide_eq_true z24
                obtain ⟨y, hy⟩ : ∃ y, goL M 0 (((LS s).drop a).take (q - a)) = y := ⟨_, rfl⟩
                obtain ⟨u, hu⟩ : ∃ u, labM M y = u := ⟨_, rfl⟩
                have hun : ¬ (0 : Int) ≤ u := by
                  rw [← hu, ← hy]; have := HMAX.out (q - a) (by omega) (by omega); omega
                have jun : decide ((0 : Int) ≤ u) = false := decide_eq_false hun
                have hrn := fun d os => rrun_any (grow (redrawn wr d) os) D M (s.extract a q) (hmat.below (below_regrown wr d os)) HCC.out (by simp; omega)
                have e9 : runM M (LS (s.extract a q)) = y := by unfold runM; rw [if_pos HQ.out, LS_ext, hy]
                rw [e9] at hrn
                have hln := fun d os => rlabel_any (grow (redrawn wr d) os) D M y (hmat.below (below_regrown wr d os)) HCC.out
                rw [hu] at hln
                have HRUN2 := Lib.hid hrn
                have HLBL2 := Lib.hid hln
                clear hrn hln e9 hu hy hrow hmat hd hcp' hbi c0'
                go_wp2
                refine wp_region_quiet_below (by kernel_rfl) (by kernel_rfl) ?_
                repeat (go_big_quiet_step (first | (with_reducible exact Calls.regrown_of (HRUN2.out _ _)) | (with_reducible exact Calls.regrown_of (HLBL2.out _ _))))
                refine wpQuiet_nil ?_
                intro _ hw'
                obtain ⟨⟨dq, osq⟩, hw''⟩ := hw'
                subst hw''
                have HBN : Hid (Below wo.heap.size wo (grow (redrawn wr dq) osq)) := Lib.hid (HBI.out.trans ((below_regrown wr dq osq).mono HBI.out.size))
                go_wp2
                go_roundw
                case rel => exact ⟨q + 1, by omega, by omega, by go_num, HBN.out⟩
                case measure => simp [intOf]; omega
              case neg =>
                have z24 : ¬ ((a : Int) + (pn : Int) < (q : Int)) := by omega
                have j24 : decide ((a : Int) + (pn : Int) < (q : Int)) = false := decide_eq_false z24
                clear hrow hmat hd hcp' hbi c0'
                go_wp2
                refine wp_region_quiet_below (by kernel_rfl) (by kernel_rfl) ?_
                repeat (go_big_quiet_step (fail))
                refine wpQuiet_nil ?_
                intro _ hw'
                obtain ⟨⟨dq, osq⟩, hw''⟩ := hw'
                subst hw''
                have HBN : Hid (Below wo.heap.size wo (grow (redrawn wr dq) osq)) := Lib.hid (HBI.out.trans ((below_regrown wr dq osq).mono HBI.out.size))
                go_wp2
                go_roundw
                case rel => exact ⟨q + 1, by omega, by omega, by go_num, HBN.out⟩
                case measure => simp [intOf]; omega
end Go.Proofs.YtenijacffcdnaaaDoor
