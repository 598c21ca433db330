/- The law of what stands behind a piece. -/
import Derived.Test.YtenijacffcdnaaaDoorTw8
namespace Go.Proofs.YtenijacffcdnaaaDoor
open Go.RowKit Go.Sort Go.PlainAid
set_option linter.unusedVariables false
set_option linter.unusedSimpArgs false

theorem crow_take {α : Type} {C : α → List Value} {k : Nat} {w : World} {a : Option Addr} {n m : Nat} {xs : List α} (h : CRow C k w a n xs) (hm : m ≤ n) : CRow C k w a m (xs.take m) := by
  obtain ⟨h1, h2, h3⟩ := h
  refine ⟨by rw [List.length_take]; omega, by omega, fun hp => ?_⟩
  obtain ⟨b, off, ha, hb, hc⟩ := h3 (by omega)
  refine ⟨b, off, ha, hb, fun i o hi j v hv => hc i o ?_ j v hv⟩
  have hlt : i < m := by have := (List.getElem?_eq_some_iff.1 hi).1; rw [List.length_take] at this; omega
  rwa [List.getElem?_take_of_lt hlt] at hi
theorem crow_drop {α : Type} {C : α → List Value} {k : Nat} {w : World} {b off n m : Nat} {xs : List α} (h : CRow C k w (some ⟨b, off, none⟩) n xs) (hm : m < n) : CRow C k w (some ⟨b, off + m * k, none⟩) (n - m) (xs.drop m) := by
  obtain ⟨h1, h2, h3⟩ := h
  refine ⟨by rw [List.length_drop]; omega, by omega, fun hp => ?_⟩
  obtain ⟨b', off', ha, hb, hc⟩ := h3 (by omega)
  simp only [Option.some.injEq, Addr.mk.injEq, and_true] at ha
  obtain ⟨rfl, rfl⟩ := ha
  refine ⟨b, _, rfl, hb, fun i o hi j v hv => ?_⟩
  rw [List.getElem?_drop] at hi
  have := hc (m + i) o hi j v hv
  rwa [show off + (m + i) * k + j = off + m * k + i * k + j by rw [Nat.add_mul]; omega] at this
attribute [local go_sem ↓] loadA_eq storeA_eq loadD_eq
set_option maxHeartbeats 8000000 in
set_option maxRecDepth 100000 in
theorem lawParts_any (w : World) (D : Df) (M : MS) (s : ByteArray) (k : Nat) (hk : k < 256) (h : MAt w D M) (hC : ∀ i, i < 256 → M.cl i < 256) (hN : NoneS w) :
    Calls Tryd.prog 6 #[.agg (dfA D), .string s, .int .u8 (k : Int)] w fun e w' => e = .returned (.bool true) ∧ Below w.heap.size w w' := by
  have HM := Lib.hid h
  have HCC := Lib.hid hC
  have HNN := Lib.hid hN
  have hnm := h.nx.len.2
  obtain ⟨g, hg⟩ : ∃ g, w.heap.size = g := ⟨_, rfl⟩
  have HG := Lib.hid hg
  obtain ⟨W1, hW1, hs1, hb1, hd1⟩ := box_dfa hg D
  have HSM := Lib.hid (small_any W1 D M (h.below (by rw [hg]; exact hb1)))
  have HK := Lib.hid fun X (hX : Below g w X) => mknows_any X (hN.below (by rw [hg]; exact hX))
  have HW1 := Lib.hid hW1
  have HB1 := Lib.hid hb1
  have HS1 := Lib.hid hs1
  have HD1 := Lib.hid hd1
  have hld := run_loadD W1 g D hd1
  have d257 := hd1.nx
  rw [hW1] at hld HSM d257
  clear h hC hN hW1 hs1 hb1 hd1
  go_enter Tryd.func6, Tryd.ntmps6
  go_wp2_with fail
  refine HSM.out.mono ?_
  rintro e w2 ⟨⟨b, rfl⟩, hb2⟩
  have hb2' : Below W1.heap.size W1 w2 := by rw [← HW1.out] at hb2; exact hb2
  have HB2 : Hid (Below g w w2) := Lib.hid (HB1.out.trans (hb2'.mono (by have := HS1.out; omega)))
  have HB12 := Lib.hid hb2'
  have HD2 := Lib.hid (HD1.out.below hb2' HD1.out.lt)
  have hgl : g + 1 ≤ w2.heap.size := HD2.out.lt
  have e257 := HD2.out.nx
  have hld2 := run_loadD w2 g D HD2.out
  have HK2 := Lib.hid (HK.out w2 HB2.out)
  clear hb2 hb2' hld d257
  have HFN : ∀ e w3, (e = Ending.returned (.bool true) ∧ Below w2.heap.size w2 w3) → Below g w w3 := fun e w3 hh => HB2.out.trans (hh.2.mono (by omega))
  cases b with
  | false =>
    go_wp2_with fail
    refine HK2.out.mono ?_
    rintro e w3 hh
    have HB3 := Lib.hid (HFN e w3 hh)
    obtain ⟨rfl, _⟩ := hh
    go_wp2
    go_ret
    exact ⟨rfl, by first | exact HB3.out | (rw [HG.out]; exact HB3.out)⟩
  | true =>
  by_cases hb60 : 60 < D.nl
  · have z1 : (60 : Int) < (D.nl : Int) := by omega
    go_wp2_with fail
    refine HK2.out.mono ?_
    rintro e w3 hh
    have HB3 := Lib.hid (HFN e w3 hh)
    obtain ⟨rfl, _⟩ := hh
    go_wp2
    go_ret
    exact ⟨rfl, by first | exact HB3.out | (rw [HG.out]; exact HB3.out)⟩
  by_cases hs60 : 60 < s.size
  · have z1 : ¬ (60 : Int) < (D.nl : Int) := by omega
    have z2 : (60 : Int) < (s.size : Int) := by omega
    go_wp2_with fail
    refine HK2.out.mono ?_
    rintro e w3 hh
    have HB3 := Lib.hid (HFN e w3 hh)
    obtain ⟨rfl, _⟩ := hh
    go_wp2
    go_ret
    exact ⟨rfl, by first | exact HB3.out | (rw [HG.out]; exact HB3.out)⟩
  have z1 : ¬ (60 : Int) < (D.nl : Int) := by omega
  have z2 : ¬ (60 : Int) < (s.size : Int) := by omega
  have HM2 := Lib.hid (HM.out.below (by rw [HG.out]; exact HB2.out))
  have hrm := rdright_any w2 D M HM2.out HCC.out
  obtain ⟨q, hq⟩ : ∃ q, rightM M = q := ⟨_, rfl⟩
  rw [hq] at hrm
  have HRM := Lib.hid hrm
  have HQ := Lib.hid hq
  clear hrm hq
  go_wp2_with fail
  refine HRM.out.mono ?_
  rintro e w3 ⟨rfl, hb3⟩
  have HB3 : Hid (Below g w w3) := Lib.hid (HB2.out.trans (hb3.mono (by omega)))
  have HD3 := Lib.hid (HD2.out.below hb3 HD2.out.lt)
  have HM3 := Lib.hid (HM2.out.below hb3)
  have hg3 : g + 1 ≤ w3.heap.size := HD3.out.lt
  have hld3 := run_loadD w3 g D HD3.out
  have HK3 := Lib.hid (HK.out w3 HB3.out)
  have HN3 := Lib.hid (HNN.out.below (w' := w3) (by rw [HG.out]; exact HB3.out))
  clear hb3 hld2 e257
  cases q with
  | false =>
    go_wp2_with fail
    refine HK3.out.mono ?_
    rintro e w4 ⟨rfl, hb4⟩
    have HB4 : Hid (Below g w w4) := Lib.hid (HB3.out.trans (hb4.mono (by omega)))
    clear hb4
    go_wp2
    go_ret
    exact ⟨rfl, by first | exact HB4.out | (rw [HG.out]; exact HB4.out)⟩
  | true =>
    have hcu := mcutc_any w3 D M s HM3.out HCC.out HN3.out (by omega)
    have hps : pcsR M (LS s) = pcsA M (LS s) 0 := by unfold pcsR; rw [if_pos HQ.out]
    rw [hps] at hcu
    have hjl := pcsA_join (M := M) (l := LS s)
    obtain ⟨ps, hpp⟩ : ∃ ps, pcsA M (LS s) 0 = ps := ⟨_, rfl⟩
    have HPP := Lib.hid hpp
    rw [hpp] at hcu hjl
    obtain ⟨n, hn⟩ : ∃ n, ps.length = n := ⟨_, rfl⟩
    have HNL := Lib.hid hn
    rw [hn] at hcu
    have HC0 := Lib.hid hcu
    have HJL := Lib.hid hjl
    clear hcu hps hpp hn hjl
    go_wp2_with fail
    refine HC0.out.mono ?_
    rintro e w4 ⟨A, c, rfl, ⟨hrow, hnc, hcm⟩, hb4⟩
    have HB4 : Hid (Below g w w4) := Lib.hid (HB3.out.trans (hb4.mono (by omega)))
    have HD4 := Lib.hid (HD3.out.below hb4 HD3.out.lt)
    have HM4 := Lib.hid (HM3.out.below hb4)
    have hg4 : g + 1 ≤ w4.heap.size := HD4.out.lt
    have hld4 := run_loadD w4 g D HD4.out
    have HROW := Lib.hid hrow
    have HK4 := Lib.hid (HK.out w4 HB4.out)
    have HN4 := Lib.hid (HNN.out.below (w' := w4) (by rw [HG.out]; exact HB4.out))
    clear hb4 hld3
    by_cases hn0 : n = 0
    case pos =>
      have hsz : s.size = 0 := by
        have := pcsA_nil (M := M) (l := LS s) (by rw [HPP.out, HNL.out]; exact hn0)
        rw [LS_len] at this; exact this
      have HNE : s.toList.isEmpty = true := by
        have hl : s.data.toList = [] := List.length_eq_zero_iff.1 (by rw [Array.length_toList]; exact hsz)
        rw [Lib.toList_data, hl]; rfl
      have z5 : (n : Int) = 0 := by omega
      go_wp2_with fail
      refine HK4.out.mono ?_
      rintro e w5 ⟨rfl, hb5⟩
      have HB5 : Hid (Below g w w5) := Lib.hid (HB4.out.trans (hb5.mono (by omega)))
      clear hb5
      go_wp2
      go_ret
      exact ⟨rfl, by first | exact HB5.out | (rw [HG.out]; exact HB5.out)⟩
    case neg =>
      have z5 : ¬ (n : Int) = 0 := by omega
      have z6 : ((n : Int) == 0) = false := by rw [beq_eq_false_iff_ne]; exact z5
      obtain ⟨m, hm⟩ : ∃ m : Nat, k % n = m := ⟨_, rfl⟩
      have hmn : m < n := by rw [← hm]; exact Nat.mod_lt _ (by omega)
      have hmod : (k : Int) % (n : Int) = (m : Int) := by rw [← hm]; rfl
      obtain ⟨a, p, hal, hja, hpa, hp, hwp⟩ := parts_law HQ.out (l := LS s) (n := m) (by rw [HPP.out, HNL.out]; exact hmn)
      rw [HPP.out] at hja hpa hp
      rw [LS_len] at hal
      have hfr : joinB (ps.take m) = s.extract 0 a := LS_inj (by rw [LS_joinB, hja, LS_ext]; simp)
      have hfs : (s.extract 0 a).size = a := by simp; omega
      obtain ⟨b1, off1, p1, rfl, hb1', hp1, hcp⟩ := HROW.out.at_ hmn
      rw [hp] at hp1
      obtain rfl := Option.some.inj hp1
      obtain ⟨fr, hfrE⟩ : ∃ x, s.extract 0 a = x := ⟨_, rfl⟩
      have hmj := mjoin_any w4 (some ⟨b1, off1, none⟩) m c (ps.take m) (crow_take HROW.out (by omega)) (by have := joinL_le ps m; rw [HJL.out, LS_len] at this; omega)
      rw [hfr, hfrE] at hmj
      rw [hfrE] at hfs
      have HMJ := Lib.hid hmj
      have z7 : (0 : Int) ≤ (m : Int) := by omega
      have z8 : (m : Int) ≤ (c : Int) := by omega
      have hfz : (fr.size : Int) = (a : Int) := by omega
      have z9 : ¬ (s.size : Int) < (a : Int) := by omega
      have z10 : (a : Int) ≤ (s.size : Int) := by omega
      have z11 : (0 : Int) ≤ (a : Int) := by omega
      have HP := Lib.hid hp
      have HCP := Lib.hid hcp
      have HPA := Lib.hid hpa
      have HWP := Lib.hid hwp
      have HFR := Lib.hid hfrE
      clear hm hja hfr hmj hp hcp hpa hwp
      go_wp2_with fail
      refine HMJ.out.mono ?_
      rintro e w5 ⟨rfl, hb5⟩
      have HB5 : Hid (Below g w w5) := Lib.hid (HB4.out.trans (hb5.mono (by omega)))
      have hb5' := hb5
      have HD5 := Lib.hid (HD4.out.below hb5 HD4.out.lt)
      have HM5 := Lib.hid (HM4.out.below hb5)
      have HROW5 := Lib.hid (HROW.out.below hb5)
      have hX5 : ∀ X, Onto w5.drew X → Below g w X := fun X hX => HB5.out.trans ((onto_drew hX).mono (by have := HD5.out.lt; omega))
      have HLD := Lib.hid fun X (hX : Onto w5.drew X) => run_loadD X g D (HD5.out.below (onto_drew hX) HD5.out.lt)
      obtain ⟨ds, hds⟩ : ∃ x, ps.drop m = x := ⟨_, rfl⟩
      have HDS := Lib.hid hds
      clear hds
      have HCT : Hid (∀ X, Onto w5.drew X → Calls Tryd.prog 11 #[.agg (dfA D), .string (s.extract a s.size)] X fun e w' => ∃ A c, e = .returned (.slice A (ds).length c) ∧ CRow pcC 2 w' A (ds).length (ds) ∧ Below X.heap.size X w') := Lib.hid fun X hX => by
        have h9 := mcut_any X D M (s.extract a s.size) (HM5.out.below (onto_drew hX)) HCC.out (HNN.out.below (by rw [HG.out]; exact hX5 X hX)) (by simp; omega)
        have e9 : pcsR M (LS (s.extract a s.size)) = ds := by
          unfold pcsR
          rw [if_pos HQ.out, LS_ext, List.take_of_length_le (by rw [List.length_drop, LS_len]; omega), HPA.out, HDS.out]
        rw [e9] at h9; exact h9
      have HSA : Hid (∀ X, Onto w5.drew X → ∀ A2 c2, CRow pcC 2 X A2 (ds).length (ds) → Calls Tryd.prog 12 #[.slice A2 (ds).length c2, .slice (some ⟨b1, off1 + m * 2, none⟩) (n - m) (c - m)] X fun e w' => e = .returned (.bool true) ∧ Below X.heap.size X w') := Lib.hid fun X hX A2 c2 r2 => by
        have h9 := psame_any X A2 (some ⟨b1, off1 + m * 2, none⟩) (ds).length (n - m) c2 (c - m) ds ds r2 (by rw [← HDS.out]; exact crow_drop (HROW5.out.below (onto_drew hX)) hmn)
        rw [samePs_refl] at h9; exact h9
      have hpsz : p.s.size ≤ 100000 := by
        have h9 := joinL_take HP.out
        have h8 := joinL_le ps (m + 1)
        rw [h9, List.length_append, HJL.out, LS_len, LS_len] at h8
        omega
      have HMW : Hid (∀ X, Onto w5.drew X → Calls Tryd.prog 16 #[.agg (dfA D), .agg #[.int .i64 p.t, .string p.s]] X fun e w' => e = .returned (.bool true) ∧ Below X.heap.size X w') := Lib.hid fun X hX => by
        have h9 := mwhole_any X D M p (HM5.out.below (onto_drew hX)) HCC.out (HNN.out.below (by rw [HG.out]; exact hX5 X hX)) hpsz
        rw [HWP.out] at h9; exact h9
      have HKN := Lib.hid fun X (hX : Onto w5.drew X) => HK.out X (hX5 X hX)
      have q0 : w5.cell? ⟨b1, off1 + m * 2, none⟩ = some (.int .i64 p.t) := (hb5'.cell (p := ⟨b1, off1 + m * 2, none⟩) hb1').trans (HCP.out 0 _ rfl)
      have q1 : w5.cell? ⟨b1, off1 + m * 2 + 1, none⟩ = some (.string p.s) := (hb5'.cell (p := ⟨b1, off1 + m * 2 + 1, none⟩) hb1').trans (HCP.out 1 _ rfl)
      have z12 : ¬ c = m := by omega
      have z13 : (m : Int) < (n : Int) := by omega
      have z14 : (m : Int) ≤ (n : Int) := by omega
      clear hb5 hb5' hld4
      go_wp2_with fail
      refine wp_region_fam_lit (E := Onto)
        [isV (.agg (dfA D)),
         isV (.string s),
         isV (.string fr),
         isV (.int .i64 (a : Int)),
         isV (.string (s.extract a s.size)),
         pcX ds,
         isV (.slice (some ⟨b1, off1, none⟩) n c),
         isV (.int .i64 (m : Int)),
         isV (.slice (some ⟨b1, off1 + m * 2, none⟩) (n - m) (c - m)),
         isV (.bool true),
         isV (.bool true),
         isV (.agg (dfA D)),
         isV (.slice (some ⟨b1, off1, none⟩) n c),
         isV (.int .i64 (m : Int)),
         isV (.pointer (some ⟨b1, off1 + m * 2, none⟩)),
         isV (.agg #[.int .i64 p.t, .string p.s]),
         isV (.bool true),
         isV (.bool true),
         isV (.bool true),
         isV (.bool true),
         isV (.bool true),
         isV (.bool true)]
        [some 63, some 64, some 65, some 66, some 67, some 68, some 69, some 70, some 71, some 72, some 73, some 74, some 75, some 76, some 77, some 78, some 79, some 80, some 81, some 82, some 83, some 6] (by kernel_rfl) rfl (by kernel_rfl) rfl Onto.trans Onto.refl ?mono ?ob ?q
      case mono => exact ⟨isV_mono _ _, isV_mono _ _, isV_mono _ _, isV_mono _ _, isV_mono _ _, pcX_mono _, isV_mono _ _, isV_mono _ _, isV_mono _ _, isV_mono _ _, isV_mono _ _, isV_mono _ _, isV_mono _ _, isV_mono _ _, isV_mono _ _, isV_mono _ _, isV_mono _ _, isV_mono _ _, isV_mono _ _, isV_mono _ _, isV_mono _ _, isV_mono _ _, trivial⟩
      case ob =>
        refine Obs.cons (j := 1) rfl ?_ ?_
        · refine Ob.free [(3, none)] (by kernel_rfl) (isV (.agg (dfA D))) rfl rfl (fun a X hE hL => ?_)
          simp [Seen, slotAt] at hL
          have h3 := hL
          rw [relAt_eq]
          have hl := HLD.out X hE
          go_simp
          exact ⟨Onto.refl _, rfl⟩
        refine Obs.cons (j := 2) rfl ?_ ?_
        · refine Ob.free [(1, none)] (by kernel_rfl) (isV (.string s)) rfl rfl (fun a X hE hL => ?_)
          simp [Seen, slotAt] at hL
          have h1 := hL
          rw [relAt_eq]
          go_simp
          exact ⟨Onto.refl _, rfl⟩
        refine Obs.cons (j := 3) rfl ?_ ?_
        · refine Ob.free [(9, none)] (by kernel_rfl) (isV (.string fr)) rfl rfl (fun a X hE hL => ?_)
          simp [Seen, slotAt] at hL
          have h9 := hL
          rw [relAt_eq]
          go_simp
          exact ⟨Onto.refl _, rfl⟩
        refine Obs.cons (j := 4) rfl ?_ ?_
        · refine Ob.free [(65, some 2)] (by kernel_rfl) (isV (.int .i64 (a : Int))) rfl rfl (fun a X hE hL => ?_)
          simp [Seen, slotAt, famV, isV] at hL
          have h65 := hL
          rw [relAt_eq]
          go_simp
          exact ⟨Onto.refl _, rfl⟩
        refine Obs.cons (j := 5) rfl ?_ ?_
        · refine Ob.free [(64, some 1), (66, some 3)] (by kernel_rfl) (isV (.string (s.extract a s.size))) rfl rfl (fun a X hE hL => ?_)
          simp [Seen, slotAt, famV, isV] at hL
          obtain ⟨h64, h66⟩ := hL
          rw [relAt_eq]
          go_simp
          exact ⟨Onto.refl _, rfl⟩
        refine Obs.cons (j := 6) rfl ?_ ?_
        · refine Ob.free [(63, some 0), (67, some 4)] (by kernel_rfl) (pcX ds) rfl rfl (fun a X hE hL => ?_)
          simp [Seen, slotAt, famV, isV] at hL
          obtain ⟨h63, h67⟩ := hL
          rw [relAt_eq]
          go_simp
          rw [relUpon_enter]
          go_at_call 11
          refine (HCT.out X hE).mono ?_
          rintro e Y ⟨A', c', rfl, ho, hY⟩
          exact ⟨_, rfl, hY, A', c', rfl, ho⟩
        refine Obs.cons (j := 7) rfl ?_ ?_
        · refine Ob.free [(7, none)] (by kernel_rfl) (isV (.slice (some ⟨b1, off1, none⟩) n c)) rfl rfl (fun a X hE hL => ?_)
          simp [Seen, slotAt] at hL
          have h7 := hL
          rw [relAt_eq]
          go_simp
          exact ⟨Onto.refl _, rfl⟩
        refine Obs.cons (j := 8) rfl ?_ ?_
        · refine Ob.free [(8, none)] (by kernel_rfl) (isV (.int .i64 (m : Int))) rfl rfl (fun a X hE hL => ?_)
          simp [Seen, slotAt] at hL
          have h8 := hL
          rw [relAt_eq]
          go_simp
          exact ⟨Onto.refl _, rfl⟩
        refine Obs.cons (j := 9) rfl ?_ ?_
        · refine Ob.free [(69, some 6), (70, some 7)] (by kernel_rfl) (isV (.slice (some ⟨b1, off1 + m * 2, none⟩) (n - m) (c - m))) rfl rfl (fun a X hE hL => ?_)
          simp [Seen, slotAt, famV, isV] at hL
          obtain ⟨h69, h70⟩ := hL
          rw [relAt_eq]
          go_simp
          exact ⟨Onto.refl _, rfl⟩
        refine Obs.cons (j := 10) rfl ?_ ?_
        · refine Ob.free [(68, some 5), (71, some 8)] (by kernel_rfl) (isV (.bool true)) rfl rfl (fun a X hE hL => ?_)
          simp [Seen, slotAt, famV, isV] at hL
          obtain ⟨h68, h71⟩ := hL
          rw [relAt_eq]
          obtain ⟨A2, c2, e2, r2⟩ := h68
          go_simp
          rw [relUpon_enter]
          go_at_call 12
          refine (HSA.out X hE A2 c2 r2).mono ?_
          rintro e Y ⟨rfl, hY⟩
          exact ⟨_, rfl, hY, rfl⟩
        refine Obs.cons (j := 11) rfl ?_ ?_
        · refine Ob.free [(72, some 9)] (by kernel_rfl) (isV (.bool true)) rfl rfl (fun a X hE hL => ?_)
          simp [Seen, slotAt, famV, isV] at hL
          have h72 := hL
          rw [relAt_eq]
          go_simp
          exact ⟨Onto.refl _, rfl⟩
        refine Obs.cons (j := 12) rfl ?_ ?_
        · refine Ob.guarded [(3, none), (73, some 10)] (by kernel_rfl) (isV (.agg (dfA D))) rfl 10 true 73 rfl rfl (fun a X hE hL => ?_)
          simp [Seen, slotAt, famV, isV] at hL
          obtain ⟨h3, h73⟩ := hL
          refine ⟨by simpa using h73, ?_⟩
          clear h73
          rw [relAt_eq]
          have hl := HLD.out X hE
          go_simp
          exact ⟨Onto.refl _, rfl⟩
        refine Obs.cons (j := 13) rfl ?_ ?_
        · refine Ob.guarded [(7, none), (73, some 10)] (by kernel_rfl) (isV (.slice (some ⟨b1, off1, none⟩) n c)) rfl 10 true 73 rfl rfl (fun a X hE hL => ?_)
          simp [Seen, slotAt, famV, isV] at hL
          obtain ⟨h7, h73⟩ := hL
          refine ⟨by simpa using h73, ?_⟩
          clear h73
          rw [relAt_eq]
          go_simp
          exact ⟨Onto.refl _, rfl⟩
        refine Obs.cons (j := 14) rfl ?_ ?_
        · refine Ob.guarded [(8, none), (73, some 10)] (by kernel_rfl) (isV (.int .i64 (m : Int))) rfl 10 true 73 rfl rfl (fun a X hE hL => ?_)
          simp [Seen, slotAt, famV, isV] at hL
          obtain ⟨h8, h73⟩ := hL
          refine ⟨by simpa using h73, ?_⟩
          clear h73
          rw [relAt_eq]
          go_simp
          exact ⟨Onto.refl _, rfl⟩
        refine Obs.cons (j := 15) rfl ?_ ?_
        · refine Ob.guarded [(75, some 12), (76, some 13), (73, some 10)] (by kernel_rfl) (isV (.pointer (some ⟨b1, off1 + m * 2, none⟩))) rfl 10 true 73 rfl rfl (fun a X hE hL => ?_)
          simp [Seen, slotAt, famV, isV] at hL
          obtain ⟨h75, h76, h73⟩ := hL
          refine ⟨by simpa using h73, ?_⟩
          clear h73
          rw [relAt_eq]
          go_simp
          exact ⟨Onto.refl _, rfl⟩
        refine Obs.cons (j := 16) rfl ?_ ?_
        · refine Ob.guarded [(77, some 14), (73, some 10)] (by kernel_rfl) (isV (.agg #[.int .i64 p.t, .string p.s])) rfl 10 true 73 rfl rfl (fun a X hE hL => ?_)
          simp [Seen, slotAt, famV, isV] at hL
          obtain ⟨h77, h73⟩ := hL
          refine ⟨by simpa using h73, ?_⟩
          clear h73
          rw [relAt_eq]
          have f0 := keeps hE _ _ q0; have f1 := keeps hE _ _ q1
          go_simp
          exact ⟨Onto.refl _, rfl⟩
        refine Obs.cons (j := 17) rfl ?_ ?_
        · refine Ob.guarded [(74, some 11), (78, some 15), (73, some 10)] (by kernel_rfl) (isV (.bool true)) rfl 10 true 73 rfl rfl (fun a X hE hL => ?_)
          simp [Seen, slotAt, famV, isV] at hL
          obtain ⟨h74, h78, h73⟩ := hL
          refine ⟨by simpa using h73, ?_⟩
          clear h73
          rw [relAt_eq]
          go_simp
          rw [relUpon_enter]
          go_at_call 16
          refine (HMW.out X hE).mono ?_
          rintro e Y ⟨rfl, hY⟩
          exact ⟨_, rfl, hY, rfl⟩
        refine Obs.cons (j := 18) rfl ?_ ?_
        · refine Ob.free [(73, some 10), (79, some 16)] (by kernel_rfl) (isV (.bool true)) rfl rfl (fun a X hE hL => ?_)
          simp [Seen, slotAt, famV, isV] at hL
          obtain ⟨h73, h79⟩ := hL
          rw [relAt_eq]
          go_simp
          exact ⟨Onto.refl _, rfl⟩
        refine Obs.cons (j := 19) rfl ?_ ?_
        · refine Ob.free [(80, some 17)] (by kernel_rfl) (isV (.bool true)) rfl rfl (fun a X hE hL => ?_)
          simp [Seen, slotAt, famV, isV] at hL
          have h80 := hL
          rw [relAt_eq]
          go_simp
          exact ⟨Onto.refl _, rfl⟩
        refine Obs.cons (j := 20) rfl ?_ ?_
        · refine Ob.guarded [(81, some 18)] (by kernel_rfl) (isV (.bool true)) rfl 18 true 81 rfl rfl (fun a X hE hL => ?_)
          simp [Seen, slotAt, famV, isV] at hL
          have h81 := hL
          refine ⟨by simpa using h81, ?_⟩
          clear h81
          rw [relAt_eq]
          go_simp
          rw [relUpon_enter]
          go_at_call 8
          refine (HKN.out X hE).mono ?_
          rintro e Y ⟨rfl, hY⟩
          exact ⟨_, rfl, hY, rfl⟩
        refine Obs.cons (j := 21) rfl ?_ ?_
        · refine Ob.free [(81, some 18), (82, some 19)] (by kernel_rfl) (isV (.bool true)) rfl rfl (fun a X hE hL => ?_)
          simp [Seen, slotAt, famV, isV] at hL
          obtain ⟨h81, h82⟩ := hL
          rw [relAt_eq]
          go_simp
          exact ⟨Onto.refl _, rfl⟩
        refine Obs.cons (j := 22) rfl ?_ ?_
        · refine Ob.free [(83, some 20)] (by kernel_rfl) (isV (.bool true)) rfl rfl (fun a X hE hL => ?_)
          simp [Seen, slotAt, famV, isV] at hL
          have h83 := hL
          rw [relAt_eq]
          go_simp
          exact ⟨Onto.refl _, rfl⟩
        exact trivial
      case q =>
        intro x wq hE hV
        simp [AllV, famV, isV] at hV
        obtain ⟨-, -, -, -, -, -, -, -, -, -, -, -, -, -, -, -, -, -, -, -, -, h6⟩ := hV
        simp only [puts, Act.put, List.setIfInBounds_toArray, List.set_cons_zero, List.set_cons_succ, h6]
        generalize x 63 = y63
        generalize x 64 = y64
        generalize x 65 = y65
        generalize x 66 = y66
        generalize x 67 = y67
        generalize x 68 = y68
        generalize x 69 = y69
        generalize x 70 = y70
        generalize x 71 = y71
        generalize x 72 = y72
        generalize x 73 = y73
        generalize x 74 = y74
        generalize x 75 = y75
        generalize x 76 = y76
        generalize x 77 = y77
        generalize x 78 = y78
        generalize x 79 = y79
        generalize x 80 = y80
        generalize x 81 = y81
        generalize x 82 = y82
        generalize x 83 = y83
        clear h6
        have HBQ := Lib.hid (hX5 wq hE)
        clear hE
        go_wp2
        go_ret
        exact ⟨rfl, by first | exact HBQ.out | (rw [HG.out]; exact HBQ.out)⟩
end Go.Proofs.YtenijacffcdnaaaDoor
