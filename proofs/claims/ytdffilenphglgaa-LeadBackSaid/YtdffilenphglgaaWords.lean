/- Pieces as words: the program. -/
import Derived.Test.YtdffilenphglgaaLine
namespace Go.Proofs.Ytdffilenphglgaa
open Go.RowKit

/-- Words whose trivia are each a row of its own, all made by the call. -/
def OwnLeads (B : Nat) (w : World) (ws : List Wd) : Prop := (∀ o ∈ ws, w.ownsRow B 36 2 (leadV o) o.ps.length (o.ps.flatMap pcC) ∧ o.l = o.ps.length) ∧ ws.Pairwise fun o o' => (leadV o).ownBlock = none ∨ (leadV o).ownBlock ≠ (leadV o').ownBlock
theorem line_new (w : World) : LineAt w.heap.size (w.alloc (.cells #[.slice none 0 0, .slice none 0 0] 47)) w.heap.size (.slice none 0 0) (.slice none 0 0) [] [] :=
  ⟨heap_alloc_new _ _, own_new _ _ _ _, own_new _ _ _ _, by simp, .nil⟩
theorem stW_wait (ts : List Tk) (ps : List Pc) : (stW ts ps).2.length ≤ ps.length := by
  have : ∀ (l : List Pc) (st : List WA × List Pc), (l.foldl (stp ts) st).2.length ≤ st.2.length + l.length := by
    intro l
    induction l with
    | nil => intro st; simp
    | cons p l ih =>
      intro st
      have := ih (stp ts st p)
      have h2 : (stp ts st p).2.length ≤ st.2.length + 1 := by unfold stp; split <;> simp
      simp only [List.foldl_cons, List.length_cons]; omega
  simpa [stW] using this ps ([], [])

set_option maxHeartbeats 2000000 in
theorem words_any (w : World) (A B : Option Addr) (len cap n d : Nat) (ts : List Tk) (ps : List Pc) (hA : CRow tkC 3 w A len ts) (hB : CRow pcC 2 w B n ps) (hn : n ≤ 1000) :
    Calls Try.prog 10 #[.slice A len cap, .slice B n d] w fun e w' => ∃ V m c ws, e = .returned (.slice V m c) ∧ WRow w' V m ws ∧ (OwnLeads w.heap.size w' ws ∧ w'.ownsRow w.heap.size 38 3 (.slice V m c) m (ws.flatMap wdC)) ∧ ws.map wabs = wordsF ts ps ∧ m ≤ 1001 ∧ Below w.heap.size w w' := by
  have hl2 := hB.2.1
  have HT := Lib.hid fun v (hv : Below w.heap.size w v) t => trivia_any v A len cap ts t (hA.below hv)
  have HB := Lib.hid hB
  have HL := Lib.hid hB.1
  have HN := Lib.hid (line_new w)
  have HBN : Hid (Below w.heap.size w (w.alloc (.cells #[.slice none 0 0, .slice none 0 0] 47))) := Lib.hid ((Below.refl _ _).alloc (Nat.le_refl _) _)
  clear hA hB
  obtain ⟨g, hg⟩ : ∃ g, w.heap.size = g := ⟨_, rfl⟩
  have HG := Lib.hid hg
  go_enter Try.func10, Try.ntmps10
  go_wp2
  rw [hg] at HN HBN
  clear hg
  go_loopw [11] (fun i wr => ∃ (k : Nat) (ws : List Wd) (qs : List Pc) (vw vt : Value), k ≤ n ∧ i = .int .i64 k ∧ LineAt g wr g vw vt ws qs ∧ ws.map wabs = (stW ts (ps.take k)).1 ∧ qs = (stW ts (ps.take k)).2 ∧ Below g w wr) (fun i _ => n - (intOf i).toNat)
  case atStart => exact ⟨0, [], [], _, _, by omega, rfl, HN.out, rfl, rfl, HBN.out⟩
  case round =>
    obtain ⟨k, ws, qs, vw, vt, hk, rfl, hln, hws, hqs, hb⟩ := hrel
    have HLN := Lib.hid hln
    have HWS := Lib.hid hws
    have HQS := Lib.hid hqs
    have HBW := Lib.hid hb
    have HX := Lib.hid hln.lt
    clear hln hws hqs hb
    by_cases hlt : k < n
    · obtain ⟨b1, o1, p, rfl, hbl, hp, hc⟩ := HB.out.at_ hlt
      have hbg : b1 < g := by have := HG.out; omega
      have c0 : wr.cell? ⟨b1, o1 + k * 2, none⟩ = some (.int .i64 p.t) := (HBW.out.cell (p := ⟨b1, o1 + k * 2, none⟩) hbg).trans (hc 0 _ rfl)
      have c1 : wr.cell? ⟨b1, o1 + k * 2 + 1, none⟩ = some (.string p.s) := (HBW.out.cell (p := ⟨b1, o1 + k * 2 + 1, none⟩) hbg).trans (hc 1 _ rfl)
      have HP := Lib.hid hp
      have hgl : g ≤ wr.heap.size := Nat.le_of_lt HX.out
      have HLN2 := Lib.hid (HLN.out.below ((Below.refl _ _).alloc (Nat.le_refl _) (.cells #[.int .i64 p.t, .string p.s] 36)))
      have HBW2 := Lib.hid (HBW.out.alloc hgl (.cells #[.int .i64 p.t, .string p.s] 36))
      have HTK := Lib.hid (HT.out _ (by rw [HG.out]; exact HBW2.out) p.t)
      have HST := Lib.hid (stW_take (ts := ts) hp)
      cases ht : trivB ts p.t with
      | true =>
        rw [ht] at HTK
        have HQL := Lib.hid (show qs.length ≤ 2000 by rw [HQS.out]; have := stW_wait ts (ps.take k); have h2 : (ps.take k).length ≤ k := List.length_take_le _ _; omega)
        have HPUT := Lib.hid (ltrivia_any _ w g g vw vt ws qs p HLN2.out HBW2.out (Nat.le_refl _) HQL.out)
        clear hp hc
        go_wp2_with fail
        refine HTK.out.mono ?_
        rintro e w1 ⟨rfl, rfl⟩
        go_wp2_with fail
        refine HPUT.out.mono ?_
        rintro e w2 ⟨rfl, vt', hln2, hb2⟩
        have HLN3 := Lib.hid hln2
        have HBW3 := Lib.hid hb2
        clear hln2 hb2
        go_wp2
        go_roundw
        case rel =>
          refine ⟨k + 1, ws, qs ++ [p], vw, vt', by omega, by go_num, HLN3.out, ?_, ?_, HBW3.out⟩
          · rw [HST.out]; unfold stp; rw [if_pos ht]; exact HWS.out
          · rw [HST.out]; unfold stp; rw [if_pos ht, HQS.out]
        case measure => simp [intOf]; omega
      | false =>
        rw [ht] at HTK
        have HWL := Lib.hid (show ws.length ≤ 2000 by have := congrArg List.length HWS.out; simp at this; rw [this]; have := stW_lenT ts ps k; omega)
        obtain ⟨va, vc, hv, _⟩ := own_form HLN.out.ot
        subst hv
        have HPUT := Lib.hid (lword_any _ w g g vw va qs.length vc ws qs p HLN2.out rfl HBW2.out (Nat.le_refl _) HWL.out)
        clear hp hc
        go_wp2_with fail
        refine HTK.out.mono ?_
        rintro e w1 ⟨rfl, rfl⟩
        go_wp2_with fail
        refine HPUT.out.mono ?_
        rintro e w2 ⟨rfl, vw', hln2, hb2⟩
        have HLN3 := Lib.hid hln2
        have HBW3 := Lib.hid hb2
        clear hln2 hb2
        go_wp2
        go_roundw
        case rel =>
          refine ⟨k + 1, _, [], vw', _, by omega, by go_num, HLN3.out, ?_, ?_, HBW3.out⟩
          · rw [HST.out]; unfold stp; rw [if_neg (by rw [ht]; decide), List.map_append, HWS.out, HQS.out]; rfl
          · rw [HST.out]; unfold stp; rw [if_neg (by rw [ht]; decide)]
        case measure => simp [intOf]; omega
    · have HK : Hid (ps.take k = ps) := by show _ = _; exact List.take_of_length_le (by rw [HL.out]; omega)
      rw [HK.out] at HWS HQS
      have HWL := Lib.hid (show ws.length ≤ 1000 by have := congrArg List.length HWS.out; simp at this; rw [this]; have := stW_len ts ps; rw [HL.out] at this; omega)
      have HQL := Lib.hid (show qs.length ≤ 1000 by rw [HQS.out]; have := stW_wait ts ps; rw [HL.out] at this; omega)
      obtain ⟨va, vc, hv, _⟩ := own_form HLN.out.ot
      subst hv
      have HPUT := Lib.hid (lword_any _ w g g vw va qs.length vc ws qs ⟨-2, ⟨#[]⟩⟩ HLN.out rfl HBW.out (Nat.le_refl _) (by have := HWL.out; omega))
      go_wp2_with fail
      refine HPUT.out.mono ?_
      rintro e w2 ⟨rfl, vw', hln2, hb2⟩
      have HLN3 := Lib.hid hln2
      have HBW3 := Lib.hid hb2
      have c0 := hln2.c0
      obtain ⟨wa, wc, hv2, _⟩ := own_form hln2.ow
      subst hv2
      clear hln2 hb2
      have e1 : (ws ++ [(⟨va, qs.length, vc, qs, -2, ⟨#[]⟩⟩ : Wd)]).length = ws.length + 1 := by simp
      have HFIN : Hid (WRow w2 wa (ws ++ [(⟨va, qs.length, vc, qs, -2, ⟨#[]⟩⟩ : Wd)]).length (ws ++ [⟨va, qs.length, vc, qs, -2, ⟨#[]⟩⟩]) ∧ (OwnLeads g w2 (ws ++ [⟨va, qs.length, vc, qs, -2, ⟨#[]⟩⟩]) ∧ w2.ownsRow g 38 3 (.slice wa (ws ++ [(⟨va, qs.length, vc, qs, -2, ⟨#[]⟩⟩ : Wd)]).length wc) (ws ++ [(⟨va, qs.length, vc, qs, -2, ⟨#[]⟩⟩ : Wd)]).length ((ws ++ [(⟨va, qs.length, vc, qs, -2, ⟨#[]⟩⟩ : Wd)]).flatMap wdC)) ∧ (ws ++ [(⟨va, qs.length, vc, qs, -2, ⟨#[]⟩⟩ : Wd)]).map wabs = wordsF ts ps ∧ (ws ++ [(⟨va, qs.length, vc, qs, -2, ⟨#[]⟩⟩ : Wd)]).length ≤ 1001) := by
        have h := HLN3.out
        refine ⟨⟨own_crow wdC_len h.ow (by have := HWL.out; omega), fun o ho => ?_⟩, ⟨⟨fun o ho => ⟨(h.ld o ho).1, (h.ld o ho).2.1⟩, h.pw⟩, h.ow⟩, ?_, by have := HWL.out; omega⟩
        · have g1 := (h.ld o ho).1
          have g2 := (h.ld o ho).2.1
          unfold leadV at g1
          rw [g2] at g1 ⊢
          obtain ⟨_, _, _, l1, l2⟩ := own_form g1
          exact own_crow pcC_len g1 (by omega)
        · rw [List.map_append, HWS.out, HQS.out]; rfl
      obtain ⟨m, hm⟩ : ∃ m, (ws ++ [(⟨va, qs.length, vc, qs, -2, ⟨#[]⟩⟩ : Wd)]).length = m := ⟨_, rfl⟩
      rw [hm] at c0 HFIN
      clear hm e1
      go_wp2
      go_ret
      exact ⟨_, _, _, _, rfl, HFIN.out.1, by rw [HG.out]; exact HFIN.out.2.1, HFIN.out.2.2.1, HFIN.out.2.2.2, by rw [HG.out]; exact HBW3.out⟩
end Go.Proofs.Ytdffilenphglgaa
