/- The stage's theorem of words. -/
import Derived.Test.YtdffilenphglgaaLFew
namespace Go.Proofs.Ytdffilenphglgaa
open Go.RowKit
set_option linter.unusedVariables false

def anyE (ps : List Pc) : Bool := ps.any fun p => p.t == -2
theorem anyE_next {ps : List Pc} {k : Nat} {p : Pc} (h : ps[k]? = some p) : anyE (ps.take (k + 1)) = (anyE (ps.take k) || p.t == -2) := by
  unfold anyE; rw [List.take_add_one, h]; simp
theorem anyE_no {ps : List Pc} (h : anyE ps = false) : ∀ p ∈ ps, p.t ≠ -2 := by
  intro p hp e
  unfold anyE at h
  rw [List.any_eq_false] at h
  exact h p hp (by simp [e])
theorem lsum_pieces (ws : List Wd) : lsum ws ≤ (piecesA (ws.map wabs)).length := by
  induction ws with
  | nil => simp [lsum]
  | cons o l ih =>
    have e : (piecesA ((o :: l).map wabs)).length = (pcsA (wabs o)).length + (piecesA (l.map wabs)).length := by simp [piecesA]
    have h1 : o.ps.length ≤ (pcsA (wabs o)).length := by unfold pcsA wabs; simp
    have h3 : lsum (o :: l) = o.ps.length + lsum l := by simp [lsum]
    rw [e, h3]; omega
/-- Words of the call's own whose trivia may be written over. -/
structure MutAt (B : Nat) (w : World) (V : Option Addr) (m c : Nat) (ws : List Wd) : Prop where
  ox : w.ownsRow B 38 3 (.slice V m c) m (ws.flatMap wdC)
  ld : ∀ o ∈ ws, 0 < o.l → ∃ g cur, o.a = some ⟨g, 0, none⟩ ∧ B ≤ g ∧ w.heap[g]? = some (.cells cur 36 (0, 0)) ∧ o.l * 2 ≤ cur.size
theorem MutAt.of {B : Nat} {w : World} {V : Option Addr} {m c : Nat} {ws : List Wd} (ho : w.ownsRow B 38 3 (.slice V m c) m (ws.flatMap wdC)) (hl : OwnLeads B w ws) : MutAt B w V m c ws := by
  refine ⟨ho, fun o hm hp => ?_⟩
  obtain ⟨h1, h2⟩ := hl.1 o hm
  unfold leadV at h1
  rw [h2] at h1 hp ⊢
  rcases h1.2 with ⟨_, h0⟩ | ⟨g, cap, cur, hv, hbg, hg, hnc, hcm, hcs, htake⟩
  · omega
  · injection hv with e1 e2 e3
    refine ⟨g, cur, e1, hbg, hg, ?_⟩
    rw [hcs]
    exact Nat.mul_le_mul_right 2 hnc
theorem MutAt.below {B : Nat} {w w' : World} {V : Option Addr} {m c : Nat} {ws : List Wd} (h : MutAt B w V m c ws) (hb : Below w.heap.size w w') : MutAt B w' V m c ws :=
  ⟨ownB h.ox hb, fun o ho hp => by
    obtain ⟨g, cur, e, hB, hg, hs⟩ := h.ld o ho hp
    exact ⟨g, cur, e, hB, (hb.block g (blk_lt hg)).trans hg, hs⟩⟩
theorem MutAt.step {B : Nat} {w : World} {V : Option Addr} {m c : Nat} {ws : List Wd} (h : MutAt B w V m c ws) {o : Wd} (ho : o ∈ ws) {k : Nat} (hk : k < o.l) (v : Value) :
    ∃ g, o.a = some ⟨g, 0, none⟩ ∧ B ≤ g ∧ g < w.heap.size ∧ (∃ u, w.cell? ⟨g, k * 2 + 1, none⟩ = some u) ∧ w.frozen? ⟨g, k * 2 + 1, none⟩ = false ∧ MutAt B (w.setCell ⟨g, k * 2 + 1, none⟩ v) V m c ws := by
  obtain ⟨g, cur, e, hB, hg, hs⟩ := h.ld o ho (by omega)
  refine ⟨g, e, hB, blk_lt hg, ⟨cur[k * 2 + 1]'(by omega), ?_⟩, frozen_of_row w g _ _ _ hg, ?_, ?_⟩
  · rw [cell_of_row w g _ _ _ _ hg]
    exact Array.getElem?_eq_getElem (by omega)
  · refine own_keep h.ox fun j cj hj hcj => heap_setCell_other _ _ _ _ ?_
    exact obj_ne hcj hg (by decide)
  · intro o' ho' hp'
    obtain ⟨g', cur', e', hB', hg', hs'⟩ := h.ld o' ho' hp'
    by_cases hgg : g' = g
    · subst hgg
      rw [hg] at hg'
      obtain rfl : cur = cur' := by
        have := Option.some.inj hg'
        injection this
      exact ⟨g', _, e', hB', heap_setCell_same w g' _ _ _ v hg, by simpa using hs'⟩
    · exact ⟨g', cur', e', hB', (heap_setCell_other _ _ _ _ hgg).trans hg', hs'⟩
theorem wdC_flat (ws : List Wd) : (ws.flatMap wdC).length = ws.length * 3 := by
  induction ws with
  | nil => rfl
  | cons x l ih => rw [List.flatMap_cons, List.length_append, List.length_cons, ih, wdC_len]; omega
theorem own_cut {w : World} {B : Nat} {e : TypeId} {V : Option Addr} {m c : Nat} {ws : List Wd} (h : w.ownsRow B e 3 (.slice V m c) m (ws.flatMap wdC)) : ws.length = m := by
  have := h.1
  rw [wdC_flat] at this
  omega
theorem MutAt.lead {B : Nat} {w : World} {V : Option Addr} {m c : Nat} {ws : List Wd} (h : MutAt B w V m c ws) (hm : m ≤ 1001) {b off i : Nat} (hV : V = some ⟨b, off, none⟩) {o : Wd} (hi : ws[i]? = some o) : w.cell? ⟨b, off + i * 3, none⟩ = some (.slice o.a o.l o.c) := by
  have hl := own_cut h.ox
  have ho := h.ox
  rw [← hl] at ho
  obtain ⟨b', off', e, _, hc⟩ := (own_crow wdC_len ho (by omega)).2.2 (by have := (List.getElem?_eq_some_iff.1 hi).1; omega)
  rw [hV] at e
  have e1 := Option.some.inj e
  injection e1 with e2 e3
  subst e2 e3
  exact hc i o hi 0 _ rfl
set_option maxHeartbeats 8000000 in
theorem leadBack_any (w : World) (T P A : Option Addr) (len cap n d m e : Nat) (ts : List Tk) (ps : List Pc) (vs : List Wd) (hT : CRow tkC 3 w T len ts) (hP : CRow pcC 2 w P n ps) (hA : WRow w A m vs) :
    Calls Try.prog 5 #[.slice T len cap, .slice P n d, .slice A m e] w fun e w' => e = .returned (.bool true) ∧ Below w.heap.size w w' := by
  have HK := Lib.hid fun w' => knows_any w'
  have hl := hT.2.1
  have hl2 := hA.1.2.1
  have hl3 := hP.2.1
  have HT := Lib.hid hT
  have HP := Lib.hid hP
  have HA := Lib.hid hA
  have HL := Lib.hid hP.1
  have HFW := Lib.hid (fewW_any w A m e vs hA)
  have HFS := Lib.hid (few_sum (ws := vs) (fun o ho => (hA.2 o ho).1.symm))
  clear hT hA hP
  by_cases h1 : (100 : Int) < (len : Int)
  · have j1 : decide ((100 : Int) < (len : Int)) = true := decide_eq_true h1
    go_enter Try.func5, Try.ntmps5
    go_wp2_with (go_at_call 6; (with_reducible refine (HK.out _).mono ?_); rintro e w1 ⟨rfl, hb⟩)
    go_ret
    exact ⟨rfl, hb⟩
  · have j1 : decide ((100 : Int) < (len : Int)) = false := decide_eq_false h1
    by_cases h2 : (200 : Int) < (n : Int)
    · have j2 : decide ((200 : Int) < (n : Int)) = true := decide_eq_true h2
      go_enter Try.func5, Try.ntmps5
      go_wp2_with (go_at_call 6; (with_reducible refine (HK.out _).mono ?_); rintro e w1 ⟨rfl, hb⟩)
      go_ret
      exact ⟨rfl, hb⟩
    · have j2 : decide ((200 : Int) < (n : Int)) = false := decide_eq_false h2
      cases hf : fewW vs with
      | false =>
        rw [hf] at HFW
        go_enter Try.func5, Try.ntmps5
        go_wp2_with fail
        refine HFW.out.mono ?_
        rintro e w1 ⟨rfl, rfl⟩
        go_wp2_with fail
        refine (HK.out _).mono ?_
        rintro e w2 ⟨rfl, hb⟩
        go_wp2
        go_ret
        exact ⟨rfl, hb⟩
      | true =>
        rw [hf] at HFW
        have HSM : Hid (lsum vs + m ≤ 400) := Lib.hid (by have hs := HFS.out hf; have := HA.out.1.1; omega)
        have HN : Hid (n ≤ 200) := Lib.hid (by omega)
        obtain ⟨g, hg⟩ : ∃ g, w.heap.size = g := ⟨_, rfl⟩
        have HG := Lib.hid hg
        clear hf HFS hg
        go_enter Try.func5, Try.ntmps5
        go_wp2_with fail
        refine HFW.out.mono ?_
        rintro e1 w1 ⟨rfl, hw1⟩
        obtain rfl := hw1.symm
        go_wp2
        go_loop [7, 8] (fun v i => ∃ (k : Nat), k ≤ n ∧ i = .int .i64 k ∧ v = .bool (anyE (ps.take k))) (fun _ i => n - (intOf i).toNat)
        case atStart => exact ⟨0, by omega, rfl, rfl⟩
        case round =>
          obtain ⟨k, hk, rfl, rfl⟩ := hrel
          by_cases hlt : k < n
          · obtain ⟨b1, o1, p, rfl, hbl, hp, hc⟩ := HP.out.at_ hlt
            have HST := Lib.hid (anyE_next hp)
            have c0 : w.cell? ⟨b1, o1 + k * 2, none⟩ = some (.int .i64 p.t) := hc 0 _ rfl
            have h0 : (0 : Int) ≤ (k : Int) := by omega
            have h1 : (k : Int) < (n : Int) := by omega
            obtain ⟨t, s⟩ := p
            dsimp only at c0 HST
            obtain ⟨q, hq⟩ : ∃ q, anyE (ps.take k) = q := ⟨_, rfl⟩
            rw [hq] at HST ⊢
            clear hp hc hq
            cases q with
            | true =>
              go_wp2
              go_round
              case rel => exact ⟨k + 1, by omega, by go_num, by rw [HST.out]; rfl⟩
              case measure => simp [intOf]; omega
            | false =>
              go_wp2
              go_round
              case rel => exact ⟨k + 1, by omega, by go_num, by rw [HST.out]; simp⟩
              case measure => simp [intOf]; omega
          · have HKK : Hid (ps.take k = ps) := by show _ = _; exact List.take_of_length_le (by rw [HL.out]; omega)
            rw [HKK.out]
            have HB1 := Lib.hid (show Below g w (w.alloc (.cells #[] 36)) by rw [← HG.out]; exact (Below.refl _ _).alloc (Nat.le_refl _) _)
            have HO0 := Lib.hid (World.ownsRow_made (base := g) (e := 36) (size := 2) w #[] 0 (Nat.le_of_eq HG.out.symm) (by decide) (by simp))
            have HR1 : Hid (CRow pcC 2 (w.alloc (.cells #[] 36)) P n ps) := Lib.hid (HP.out.below (by rw [HG.out]; exact HB1.out))
            have HAP := Lib.hid (app_pcs (xs := []) HO0.out HR1.out (c := d) (by have := HN.out; omega) (by have := HG.out; simp; omega))
            have hgl : g ≤ w.heap.size := by have := HG.out; omega
            obtain ⟨q, hq⟩ : ∃ q, anyE ps = q := ⟨_, rfl⟩
            have HQ := Lib.hid hq
            rw [hq]
            clear hq
            have HWD := Lib.hid fun v (hv : Below g w v) => words_any v T P len cap n d ts ps (HT.out.below (by rw [HG.out]; exact hv)) (HP.out.below (by rw [HG.out]; exact hv)) (by have := HN.out; omega)
            go_wp2_with (at_builtin; refine HAP.out _ _ _ _ _ rfl _ _ rfl rfl rfl ?_; intro v2 w2 hown1 hgrow hat; have HOW := Lib.hid hown1; have HB2 := Lib.hid (below_grown HB1.out (by simp; omega) hgrow (fun j hj => (own_ge HO0.out hj).1)); clear hown1 hgrow hat)
            refine (HWD.out _ HB2.out).mono ?_
            rintro e1 w3 ⟨V, mx, cx, ws, rfl, hrow, ⟨hol, how⟩, habs, hmx, hb3⟩
            have HB3 := Lib.hid (HB2.out.trans (hb3.mono (by have := HB2.out.size; have := HG.out; omega)))
            have HMU := Lib.hid ((MutAt.of how hol))
            have HXR := Lib.hid hrow
            have HAB := Lib.hid habs
            have HB23 := Lib.hid hb3
            obtain ⟨g2, hg2⟩ : ∃ g2, w2.heap.size = g2 := ⟨_, rfl⟩
            have HGE : Hid (g ≤ w2.heap.size) := Lib.hid (by have := HB2.out.size; have := HG.out; omega)
            have HML : Hid (ws.length = mx) := Lib.hid (own_cut how)
            rw [hg2] at HMU HB23 HGE
            have HG2 := Lib.hid hg2
            clear hrow hol how habs hb3 hg2
            cases q
            case' true =>
              obtain ⟨w6, hw6, HFR⟩ : ∃ w6, w3 = w6 ∧ Hid (Below w3.heap.size w3 w6) := ⟨w3, rfl, Lib.hid (Below.refl w3.heap.size w3)⟩
              go_wp2
              clear hw6
            case' false =>
              have HRT : Hid (rightA ts (ws.map wabs) = true) := Lib.hid (by rw [HAB.out]; exact (words_pieces ts ps (anyE_no HQ.out)).2)
              have HPC : Hid (piecesA (ws.map wabs) = ps) := Lib.hid (by rw [HAB.out]; exact (words_pieces ts ps (anyE_no HQ.out)).1)
              have HLS : Hid (lsum ws + mx ≤ 1000) := Lib.hid (by
                have h1 := lsum_pieces ws
                rw [HPC.out, HL.out] at h1
                have h2 := stp_wlen ts ps
                rw [← HAB.out, List.length_map, HML.out, HL.out] at h2
                have := HN.out; omega)
              have HRI := Lib.hid (right_any w3 T V len cap mx cx ts ws (HT.out.below (by rw [HG.out]; exact HB3.out)) HXR.out)
              rw [HRT.out] at HRI
              go_wp2_with fail
              refine HRI.out.mono ?_
              rintro e1 w4 ⟨rfl, hb4⟩
              have HB4 := Lib.hid hb4
              have HPI := Lib.hid (pieces_any w4 V mx cx ws (HXR.out.below hb4) HLS.out)
              rw [HPC.out] at HPI
              clear hb4
              go_wp2_with fail
              refine HPI.out.mono ?_
              rintro e1 w5 ⟨V5, m5, c5, rfl, hr5, hb5⟩
              have HB5 := Lib.hid (HB4.out.trans (hb5.mono HB4.out.size))
              have hmm : n = m5 := by have h1 := hr5.1; have h2 := HL.out; omega
              subst hmm
              have HSA := Lib.hid (same_yes w5 V5 P n c5 d ps hr5 (HP.out.below (by rw [HG.out]; exact HB3.out.trans (HB5.out.mono (by have := HB3.out.size; have := HG.out; omega)))))
              clear hr5 hb5
              go_wp2_with fail
              refine HSA.out.mono ?_
              rintro e1 w6 ⟨rfl, kk, hw6⟩
              have HFR : Hid (Below w3.heap.size w3 w6) := Lib.hid (by rw [hw6]; exact HB5.out.trans ((below_drewN w5 kk).mono HB5.out.size))
              clear hw6
              go_wp2
            all_goals
              have HM6 := Lib.hid (HMU.out.below HFR.out)
              have HB26 : Hid (Below g2 w2 w6) := Lib.hid (HB23.out.trans (HFR.out.mono (by have := HB23.out.size; have := HG2.out; omega)))
              clear HFR HMU
              have hmx2 : mx ≤ 9223372036854775807 := by omega
              go_loopw [11] (fun i wr => ∃ (k : Nat), k ≤ mx ∧ i = .int .i64 k ∧ MutAt g2 wr V mx cx ws ∧ Below g2 w2 wr) (fun i _ => mx - (intOf i).toNat)
              case atStart => exact ⟨0, by omega, rfl, HM6.out, HB26.out⟩
              case round =>
                obtain ⟨k2, hk2, rfl, hmu, hbw⟩ := hrel
                have HMO := Lib.hid hmu
                have HBO := Lib.hid hbw
                clear hmu hbw HM6 HB26
                generalize wr = wo at *
                by_cases hlt2 : k2 < mx
                · obtain ⟨o, ho⟩ : ∃ o, ws[k2]? = some o := ⟨_, List.getElem?_eq_getElem (by have := HML.out; omega)⟩
                  obtain ⟨bx, ox, rfl, _, _⟩ := HXR.out.1.2.2 (by omega)
                  have hol2 := (HXR.out.2 o (List.mem_of_getElem? ho)).2.1
                  have HLD := Lib.hid fun (v : World) (hv : MutAt g2 v (some ⟨bx, ox, none⟩) mx cx ws) => hv.lead hmx rfl ho
                  have HSP := Lib.hid fun (v : World) (hv : MutAt g2 v (some ⟨bx, ox, none⟩) mx cx ws) (k3 : Nat) (hk3 : k3 < o.l) => hv.step (List.mem_of_getElem? ho) hk3 (.string ⟨#[33]⟩)
                  obtain ⟨oa, ol, oc, ops, ot, os⟩ := o
                  dsimp only at HLD HSP hol2
                  have p0 : (0 : Int) ≤ (k2 : Int) := by omega
                  have p1 : (k2 : Int) < (mx : Int) := by omega
                  clear ho
                  go_wp2
                  go_loopw [12] (fun i wr => ∃ (k3 : Nat), k3 ≤ ol ∧ i = .int .i64 k3 ∧ MutAt g2 wr (some ⟨bx, ox, none⟩) mx cx ws ∧ Below g2 w2 wr) (fun i _ => ol - (intOf i).toNat)
                  case atStart => exact ⟨0, by omega, rfl, HMO.out, HBO.out⟩
                  case round =>
                    obtain ⟨k3, hk3, rfl, hmu, hbw⟩ := hrel
                    have HMI := Lib.hid hmu
                    have HBI := Lib.hid hbw
                    have c0 := HLD.out wr hmu
                    clear hmu hbw
                    by_cases hlt3 : k3 < ol
                    · obtain ⟨gg, rfl, hg1, hg3, ⟨u, hu⟩, hfz, hms⟩ := HSP.out wr HMI.out k3 hlt3
                      have HMS := Lib.hid hms
                      have HBS := Lib.hid (HBI.out.setCell (p := ⟨gg, k3 * 2 + 1, none⟩) hg1 (.string ⟨#[33]⟩))
                      have r0 : (0 : Int) ≤ (k3 : Int) := by omega
                      have r1 : (k3 : Int) < (ol : Int) := by omega
                      clear hms
                      go_wp2
                      go_roundw
                      case rel => exact ⟨k3 + 1, by omega, by go_num, HMS.out, HBS.out⟩
                      case measure => simp [intOf]; omega
                    · go_wp2
                      go_roundw
                      case rel => exact ⟨k2 + 1, by omega, by go_num, HMI.out, HBI.out⟩
                      case measure => simp [intOf]; omega
                · have HB7 : Hid (Below g w wo) := Lib.hid (HB2.out.trans (HBO.out.mono HGE.out))
                  have HO7 := Lib.hid (ownB HOW.out (by rw [HG2.out]; exact HBO.out))
                  obtain ⟨A2, c2, hv2, hnc2, hcm2⟩ := own_form HO7.out
                  subst hv2
                  have HR7 : Hid (CRow pcC 2 wo A2 n ps) := Lib.hid (by
                    have h := HO7.out
                    have e : 0 + n = ps.length := by rw [HL.out, Nat.zero_add]
                    rw [e, List.nil_append] at h
                    have h2 := own_crow pcC_len h (by rw [HL.out]; have := HN.out; omega)
                    rwa [HL.out] at h2)
                  have HSA := Lib.hid (same_yes wo P A2 n d c2 ps (HP.out.below (by rw [HG.out]; exact HB7.out)) HR7.out)
                  have e0 : 0 + n = n := Nat.zero_add n
                  have HNC : Hid (n ≤ c2 ∧ c2 ≤ 9223372036854775807) := Lib.hid ⟨by omega, hcm2⟩
                  simp only [e0]
                  clear e0 hnc2 hcm2 HO7
                  go_wp2_with fail
                  refine HSA.out.mono ?_
                  rintro e1 w8 ⟨rfl, kk8, hw8⟩
                  have HB8 : Hid (Below g w w8) := Lib.hid (by rw [hw8]; exact HB7.out.trans ((below_drewN wo kk8).mono (by have := HB7.out.size; have := HG.out; omega)))
                  have HR8 : Hid (CRow pcC 2 w8 A2 n ps) := Lib.hid (by rw [hw8]; exact HR7.out.below (below_drewN wo kk8))
                  clear hw8
                  go_wp2_with fail
                  refine (HWD.out _ HB8.out).mono ?_
                  rintro e1 w9 ⟨V9, m9, c9, ws9, rfl, hrow9, _, habs9, hm9, hb9⟩
                  have HB9 := Lib.hid (HB8.out.trans (hb9.mono (by have := HB8.out.size; have := HG.out; omega)))
                  have HX9 := Lib.hid hrow9
                  have HA9 := Lib.hid habs9
                  have HRW := Lib.hid (refwords_any w9 T A2 len cap n c2 ts ps (HT.out.below (by rw [HG.out]; exact HB9.out)) (HR8.out.below hb9) (by have := HN.out; omega) HNC.out.1 HNC.out.2)
                  clear hrow9 habs9 hb9
                  go_wp2_with fail
                  refine HRW.out.mono ?_
                  rintro e1 w10 ⟨V10, m10, c10, ws10, rfl, hrow10, habs10, hm10, hb10⟩
                  have he : ws9.map wabs = ws10.map wabs := by rw [HA9.out, habs10]
                  have hmm : m9 = m10 := by
                    have h1 := HX9.out.1.1
                    have h2 := hrow10.1.1
                    have := congrArg List.length he
                    simp at this; omega
                  subst hmm
                  have HB10 := Lib.hid (HB9.out.trans (hb10.mono (by have := HB9.out.size; have := HG.out; omega)))
                  have HS10 := Lib.hid (samewords_yes w10 V9 V10 m9 c9 c10 ws9 ws10 (HX9.out.below hb10) hrow10 he)
                  clear hrow10 habs10 hb10 he
                  go_wp2_with fail
                  refine HS10.out.mono ?_
                  rintro e1 w11 ⟨rfl, kk11, hw11⟩
                  have HB11 : Hid (Below g w w11) := Lib.hid (by rw [hw11]; exact HB10.out.trans ((below_drewN w10 kk11).mono (by have := HB10.out.size; have := HG.out; omega)))
                  clear hw11
                  have HRI := Lib.hid (right_any w11 T A len cap m e ts vs (HT.out.below (by rw [HG.out]; exact HB11.out)) (HA.out.below (by rw [HG.out]; exact HB11.out)))
                  cases hrv : rightA ts (vs.map wabs) with
                  | false =>
                    rw [hrv] at HRI
                    go_wp2_with fail
                    refine HRI.out.mono ?_
                    rintro e1 w12 ⟨rfl, hb12⟩
                    have HB12 := Lib.hid (HB11.out.trans (hb12.mono (by have := HB11.out.size; have := HG.out; omega)))
                    clear hb12
                    go_wp2_with fail
                    refine (HK.out _).mono ?_
                    rintro e1 w13 ⟨rfl, hb13⟩
                    have HB13 := Lib.hid (HB12.out.trans (hb13.mono (by have := HB12.out.size; have := HG.out; omega)))
                    clear hb13
                    go_wp2
                    go_ret
                    exact ⟨rfl, by first | exact HB13.out | (rw [HG.out]; exact HB13.out)⟩
                  | true =>
                    have HPW := Lib.hid (pieces_words ts _ hrv)
                    rw [hrv] at HRI
                    go_wp2_with fail
                    refine HRI.out.mono ?_
                    rintro e1 w12 ⟨rfl, hb12⟩
                    have HB12 := Lib.hid (HB11.out.trans (hb12.mono (by have := HB11.out.size; have := HG.out; omega)))
                    clear hb12
                    have HPI := Lib.hid (pieces_any w12 A m e vs (HA.out.below (by rw [HG.out]; exact HB12.out)) (by have := HSM.out; omega))
                    go_wp2_with fail
                    refine HPI.out.mono ?_
                    rintro e1 w13 ⟨V13, m13, c13, rfl, hr13, hb13⟩
                    have HB13 := Lib.hid (HB12.out.trans (hb13.mono (by have := HB12.out.size; have := HG.out; omega)))
                    have HW13 := Lib.hid (words_any w13 T V13 len cap m13 c13 ts _ (HT.out.below (by rw [HG.out]; exact HB13.out)) hr13 (by rw [← hr13.1]; have := pieces_len vs; have := HSM.out; have := HA.out.1.1; omega))
                    rw [HPW.out] at HW13
                    clear hr13 hb13
                    go_wp2_with fail
                    refine HW13.out.mono ?_
                    rintro e1 w14 ⟨V14, m14, c14, ws14, rfl, hrow14, _, habs14, hm14, hb14⟩
                    have HB14 := Lib.hid (HB13.out.trans (hb14.mono (by have := HB13.out.size; have := HG.out; omega)))
                    have hmm : m14 = m := by
                      have h1 := hrow14.1.1
                      have h2 := HA.out.1.1
                      have := congrArg List.length habs14
                      simp at this; omega
                    have HS14 := Lib.hid (samewords_yes w14 V14 A m14 c14 e ws14 vs hrow14 (by rw [hmm]; exact HA.out.below (by rw [HG.out]; exact HB14.out)) habs14)
                    rw [hmm] at HS14 ⊢
                    clear hrow14 habs14 hb14
                    go_wp2_with fail
                    refine HS14.out.mono ?_
                    rintro e1 w15 ⟨rfl, kk15, hw15⟩
                    have HB15 : Hid (Below g w w15) := Lib.hid (by rw [hw15]; exact HB14.out.trans ((below_drewN w14 kk15).mono (by have := HB14.out.size; have := HG.out; omega)))
                    clear hw15
                    go_wp2_with fail
                    refine (HK.out _).mono ?_
                    rintro e1 w16 ⟨rfl, hb16⟩
                    have HB16 := Lib.hid (HB15.out.trans (hb16.mono (by have := HB15.out.size; have := HG.out; omega)))
                    clear hb16
                    go_wp2
                    go_ret
                    exact ⟨rfl, by first | exact HB16.out | (rw [HG.out]; exact HB16.out)⟩
theorem leadBack_walk (T : Option Addr) (len cap : Nat) (ts : List Tk) (P : Option Addr) (n d : Nat) (ps : List Pc) (A : Option Addr) (m e : Nat) (vs : List Wd) (w : World) (hT : CRow tkC 3 w T len ts) (hP : CRow pcC 2 w P n ps) (_ : ∀ p ∈ ps, PcOk p) (_ : n ≤ d) (_ : d ≤ 9223372036854775807) (hA : CRow wdC 3 w A m vs) (hk : ∀ o ∈ vs, WdOk w o) (_ : m ≤ e) (_ : e ≤ 9223372036854775807) :
    Calls Try.prog 5 #[.slice T len cap, .slice P n d, .slice A m e] w fun e w' => e = .returned (.bool true) ∧ Below w.heap.size w w' := leadBack_any w T P A len cap n d m e ts ps vs hT hP (WRow.ofOk hA hk)
end Go.Proofs.Ytdffilenphglgaa
