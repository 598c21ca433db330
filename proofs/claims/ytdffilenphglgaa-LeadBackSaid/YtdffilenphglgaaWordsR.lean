/- Pieces as words: the law's answer, and the document's. -/
import Derived.Test.YtdffilenphglgaaSameW
import Derived.Test.YtdffilenphglgaaOwnRow
import Derived.Deep.RegionHeld3
import Derived.Deep.DrawnRows
namespace Go.Proofs.Ytdffilenphglgaa
open Go.RowKit

abbrev WA := List Pc × Int × ByteArray
def stp (ts : List Tk) (st : List WA × List Pc) (p : Pc) : List WA × List Pc := if trivB ts p.t then (st.1, st.2 ++ [p]) else (st.1 ++ [(st.2, p.t, p.s)], [])
def stW (ts : List Tk) (ps : List Pc) : List WA × List Pc := ps.foldl (stp ts) ([], [])
def wordsF (ts : List Tk) (ps : List Pc) : List WA := (stW ts ps).1 ++ [((stW ts ps).2, -2, ⟨#[]⟩)]
theorem stW_take {ts : List Tk} {ps : List Pc} {k : Nat} {p : Pc} (h : ps[k]? = some p) : stW ts (ps.take (k + 1)) = stp ts (stW ts (ps.take k)) p := by
  rw [List.take_add_one, h]; simp [stW, List.foldl_append]
theorem stW_len (ts : List Tk) (ps : List Pc) : (stW ts ps).1.length ≤ ps.length := by
  have : ∀ (l : List Pc) (st : List WA × List Pc), (l.foldl (stp ts) st).1.length ≤ st.1.length + l.length := by
    intro l
    induction l with
    | nil => intro st; simp
    | cons p l ih =>
      intro st
      have := ih (stp ts st p)
      have h2 : (stp ts st p).1.length ≤ st.1.length + 1 := by unfold stp; split <;> simp
      simp only [List.foldl_cons, List.length_cons]; omega
  simpa [stW] using this ps ([], [])
theorem stW_lenT (ts : List Tk) (ps : List Pc) (k : Nat) : (stW ts (ps.take k)).1.length ≤ k := by
  have := stW_len ts (ps.take k); have h2 : (ps.take k).length ≤ k := List.length_take_le _ _; omega
theorem infoWd : (Try.prog.info? 38).map (fun i => (i.zero, i.size, i.bytes)) = some (some (.agg #[.slice none 0 0, .int .i64 0, .string ⟨#[]⟩]), 3, 48) := by kernel_rfl
theorem infoPc : (Try.prog.info? 36).map (fun i => (i.zero, i.size, i.bytes)) = some (some (.agg #[.int .i64 0, .string ⟨#[]⟩]), 2, 24) := by kernel_rfl
theorem wdC_len (o : Wd) : (wdC o).length = 3 := rfl
theorem pcC_len (o : Pc) : (pcC o).length = 2 := rfl
theorem own_snoc {α : Type} {C : α → List Value} {w : World} {base : Nat} {e : TypeId} {k n : Nat} {v : Value} {os : List α} {o : α} (h : w.ownsRow base e k v n (os.flatMap C ++ C o)) : w.ownsRow base e k v n ((os ++ [o]).flatMap C) := by
  simpa using h
/-- A part of a row. -/
theorem crow_sub {α : Type} {C : α → List Value} {k : Nat} {w : World} {b off len : Nat} {os : List α} (h : CRow C k w (some ⟨b, off, none⟩) len os) {i j : Nat} (hij : i ≤ j) (hj : j ≤ len) :
    CRow C k w (some ⟨b, off + i * k, none⟩) (j - i) ((os.take j).drop i) := by
  obtain ⟨h1, h2, h3⟩ := h
  refine ⟨by simp; omega, by omega, fun hp => ?_⟩
  obtain ⟨b', off', ha, hlt, hc⟩ := h3 (by omega)
  have e := Option.some.inj ha
  injection e with e1 e2
  subst e1 e2
  refine ⟨_, _, rfl, hlt, fun x o hx y v hv => ?_⟩
  rw [List.getElem?_drop] at hx
  have hxl : i + x < j := by have := (List.getElem?_eq_some_iff.1 hx).1; simp at this; omega
  rw [List.getElem?_take_of_lt hxl] at hx
  have := hc (i + x) o hx y v hv
  rw [show off + i * k + x * k + y = off + (i + x) * k + y by rw [Nat.add_mul]; omega]
  exact this
theorem crow_zero {α : Type} {C : α → List Value} {k : Nat} {w : World} {a : Option Addr} : CRow C k w a 0 ([] : List α) := CRow.nil _ _
theorem triv_step {ts : List Tk} {ps : List Pc} {k f : Nat} {p : Pc} (hp : ps[k]? = some p) (hf : f ≤ k) (hw : (stW ts (ps.take k)).2 = (ps.take k).drop f) (ht : trivB ts p.t = true) :
    (stW ts (ps.take (k + 1))).1 = (stW ts (ps.take k)).1 ∧ (stW ts (ps.take (k + 1))).2 = (ps.take (k + 1)).drop f := by
  have hk := (List.getElem?_eq_some_iff.1 hp).1
  rw [stW_take hp]
  unfold stp
  rw [if_pos ht]
  refine ⟨rfl, ?_⟩
  show (stW ts (ps.take k)).2 ++ [p] = _
  rw [hw, List.take_add_one, hp, List.drop_append_of_le_length (by simp; omega)]
  rfl
theorem word_step {ts : List Tk} {ps : List Pc} {k f : Nat} {p : Pc} (hp : ps[k]? = some p) (hw : (stW ts (ps.take k)).2 = (ps.take k).drop f) (ht : trivB ts p.t = false) :
    (stW ts (ps.take (k + 1))).1 = (stW ts (ps.take k)).1 ++ [((ps.take k).drop f, p.t, p.s)] ∧ (stW ts (ps.take (k + 1))).2 = (ps.take (k + 1)).drop (k + 1) := by
  have hk := (List.getElem?_eq_some_iff.1 hp).1
  rw [stW_take hp]
  unfold stp
  rw [if_neg (by rw [ht]; decide)]
  refine ⟨?_, ?_⟩
  · show _ ++ [(_, _, _)] = _
    rw [hw]
  · show [] = _
    rw [List.drop_of_length_le (by simp; omega)]

set_option maxHeartbeats 1000000 in
theorem refwords_any (w : World) (A B : Option Addr) (len cap n d : Nat) (ts : List Tk) (ps : List Pc) (hA : CRow tkC 3 w A len ts) (hB : CRow pcC 2 w B n ps) (hn : n ≤ 1000) (hd : n ≤ d) (hd2 : d ≤ 9223372036854775807) :
    Calls Try.prog 11 #[.slice A len cap, .slice B n d] w fun e w' => ∃ V m c ws, e = .returned (.slice V m c) ∧ WRow w' V m ws ∧ ws.map wabs = wordsF ts ps ∧ m ≤ 1001 ∧ Below w.heap.size w w' := by
  have hl2 := hB.2.1
  have HT := Lib.hid fun v (hv : Below w.heap.size w v) t => reftriv_any v A len cap ts t (hA.below hv)
  have HB := Lib.hid hB
  have HL := Lib.hid hB.1
  clear hA hB
  obtain ⟨i0, hii, hz0, hz1, hz2⟩ := info_parts infoWd
  obtain ⟨g, hg⟩ : ∃ g, w.heap.size = g := ⟨_, rfl⟩
  have HG := Lib.hid hg
  go_enter Try.func11, Try.ntmps11
  go_wp2
  go_loopw [5, 6, 7] (fun v f i wr => ∃ (k f' : Nat) (ws : List Wd), k ≤ n ∧ f' ≤ k ∧ i = .int .i64 k ∧ f = .int .i64 f' ∧ wr.ownsRow g 38 3 v ws.length (ws.flatMap wdC) ∧ ws.map wabs = (stW ts (ps.take k)).1 ∧
    (stW ts (ps.take k)).2 = (ps.take k).drop f' ∧ (∀ o ∈ ws, CRow pcC 2 w o.a o.l o.ps) ∧ Below g w wr) (fun _ _ i _ => n - (intOf i).toNat)
  case atStart =>
    refine ⟨0, 0, [], by omega, by omega, rfl, rfl, ?_, rfl, rfl, by simp, ?_⟩
    · have h := World.ownsRow_made (base := g) (e := 38) (size := 3) w #[] 0 (Nat.le_of_eq HG.out.symm) (by decide) (by simp)
      rw [HG.out] at h
      exact h
    · exact by rw [← HG.out]; exact (Below.refl _ _).alloc (Nat.le_refl _) _
  case round =>
    obtain ⟨k, f', ws, hk, hf, rfl, rfl, hown, hws, hwt, hlead, hb⟩ := hrel
    have HOWN := Lib.hid hown
    have HWS := Lib.hid hws
    have HWT := Lib.hid hwt
    have HLD := Lib.hid hlead
    have HBW := Lib.hid hb
    clear hown hws hwt hlead hb
    have HTT := Lib.hid fun t => HT.out wr (by rw [HG.out]; exact HBW.out) t
    by_cases hlt : k < n
    · obtain ⟨b1, o1, p, rfl, hbl, hp, hc⟩ := HB.out.at_ hlt
      have hbg : b1 < g := by have := HG.out; omega
      have c0 : wr.cell? ⟨b1, o1 + k * 2, none⟩ = some (.int .i64 p.t) := (HBW.out.cell (p := ⟨b1, o1 + k * 2, none⟩) hbg).trans (hc 0 _ rfl)
      have c1 : wr.cell? ⟨b1, o1 + k * 2 + 1, none⟩ = some (.string p.s) := (HBW.out.cell (p := ⟨b1, o1 + k * 2 + 1, none⟩) hbg).trans (hc 1 _ rfl)
      have HTK := Lib.hid (HTT.out p.t)
      cases ht : trivB ts p.t with
      | true =>
        have HST := Lib.hid (triv_step hp hf HWT.out ht)
        rw [ht] at HTK
        clear ht hp hc
        go_wp2_with (go_at_call 8; (with_reducible refine HTK.out.mono ?_); rintro e w1 ⟨rfl, rfl⟩)
        go_roundw
        case rel => exact ⟨k + 1, f', ws, by omega, by omega, by go_num, rfl, HOWN.out, by rw [HST.out.1]; exact HWS.out, HST.out.2, HLD.out, HBW.out⟩
        case measure => simp [intOf]; omega
      | false =>
        have HST := Lib.hid (word_step hp HWT.out ht)
        have HSUB := Lib.hid (crow_sub HB.out hf (by omega : k ≤ n))
        have HWL := Lib.hid (show ws.length ≤ k by have := congrArg List.length HWS.out; simp at this; rw [this]; exact stW_lenT ts ps k)
        rw [ht] at HTK
        have hgl : g ≤ wr.heap.size := HBW.out.size |> fun h => by have := HG.out; omega
        have hi0 : (0 : Int) ≤ (k : Int) := by omega
        have hi1 : (k : Int) < (n : Int) := by omega
        have hf0 : (0 : Int) ≤ (f' : Int) := by omega
        have hf1 : (f' : Int) ≤ (k : Int) := by omega
        have hk1 : (k : Int) ≤ (d : Int) := by omega
        have hfd : ¬ d = f' := by omega
        clear ht hp hc
        go_wp2_with (go_at_call 8; (with_reducible refine HTK.out.mono ?_); rintro e w1 ⟨rfl, rfl⟩)
        have hwl := HWL.out
        go_region_held3 (fun w' => w'.cell? ⟨b1, o1 + k * 2, none⟩ = some (.int .i64 p.t) ∧ w'.cell? ⟨b1, o1 + k * 2 + 1, none⟩ = some (.string p.s))
          (first
            | go_keep
            | (go_split_ands
               refine ⟨?_, ?_⟩
               · (rw [hgrow.cell_far _ (by simp; omega) (by intro e; exact absurd (own_ge HOWN.out e.symm).1 (by show ¬ g ≤ b1; omega))]; assumption)
               · (rw [hgrow.cell_far _ (by simp; omega) (by intro e; exact absurd (own_ge HOWN.out e.symm).1 (by show ¬ g ≤ b1; omega))]; assumption)))
          ((refine step_append_lies _ (by rfl) _ _ _ (by rfl) g 38 i0 _ 3 48 Try.underlying27 hii hz0 hz1 hz2 rfl (by omega) _ ws.length (ws.flatMap wdC) (by rfl) ((HOWN.out.alloc _).drew)
              ⟨w1.heap.size, 0, none⟩ 1 1 [.slice (some ⟨b1, o1 + f' * 2, none⟩) (k - f') (d - f'), .int .i64 p.t, .string p.s] (by rfl) (by rfl) (World.news_of_block (cs := #[.slice (some ⟨b1, o1 + f' * 2, none⟩) (k - f') (d - f'), .int .i64 p.t, .string p.s]) (t := 38) (fr := (0, 0)) (heap_alloc_new w1 _)) (by simp [Value.oneCell'])
              (by omega) (by unfold maxLen; omega) (by omega) (by simp; omega) (w1.heap.size + 1) (by simp) ?_; intro gg cap2 w2 hown1 hgrow hat hlt2))
        have HOW1 := Lib.hid hown1
        have HBW1 := Lib.hid (below_grown (HBW.out.alloc hgl (.cells #[.slice (some ⟨b1, o1 + f' * 2, none⟩) (k - f') (d - f'), .int .i64 p.t, .string p.s] 38)).drew (by simp; omega) hgrow (fun j hj => (own_ge HOWN.out hj).1))
        clear hown1 hgrow hat hlt2
        go_wp2
        go_roundw
        case rel =>
          refine ⟨k + 1, k + 1, ws ++ [⟨some ⟨b1, o1 + f' * 2, none⟩, k - f', d - f', (ps.take k).drop f', p.t, p.s⟩], by omega, by omega, by go_num, by go_num, ?_, ?_, HST.out.2, ?_, HBW1.out⟩
          · rw [List.length_append]; exact own_snoc (o := (⟨some ⟨b1, o1 + f' * 2, none⟩, k - f', d - f', (ps.take k).drop f', p.t, p.s⟩ : Wd)) HOW1.out
          · rw [List.map_append, HWS.out, HST.out.1]; rfl
          · intro o ho
            rcases List.mem_append.1 ho with h | h
            · exact HLD.out o h
            · obtain rfl := List.mem_singleton.1 h
              exact HSUB.out
        case measure => simp [intOf]; omega
    · have hkn : k = n := by omega
      subst hkn
      have HK : Hid (ps.take k = ps) := by show _ = _; exact List.take_of_length_le (by rw [HL.out]; exact Nat.le_refl _)
      rw [HK.out] at HWS HWT
      have HWL := Lib.hid (show ws.length ≤ 1000 by have := congrArg List.length HWS.out; simp at this; rw [this]; have := stW_len ts ps; rw [HL.out] at this; omega)
      have hwl := HWL.out
      have hgl : g ≤ wr.heap.size := HBW.out.size |> fun h => by have := HG.out; omega
      have fin : ∀ (a : Option Addr) (c : Nat) (w' : World) (gg cap2 : Nat), CRow pcC 2 w a (k - f') (ps.drop f') → Below g w w' → w'.ownsRow g 38 3 (.slice (some ⟨gg, 0, none⟩) (ws.length + 1) cap2) (ws.length + 1) (ws.flatMap wdC ++ [.slice a (k - f') c, .int .i64 (-2), .string ⟨#[]⟩]) →
          ∃ V m' c' ws', Ending.returned (.slice (some ⟨gg, 0, none⟩) (ws.length + 1) cap2) = .returned (.slice V m' c') ∧ WRow w' V m' ws' ∧ ws'.map wabs = wordsF ts ps ∧ m' ≤ 1001 ∧ Below w.heap.size w w' := by
        intro a c w' gg cap2 hr hbw ho
        have e : (ws ++ [(⟨a, k - f', c, ps.drop f', -2, ⟨#[]⟩⟩ : Wd)]).length = ws.length + 1 := by simp
        have ho2 := own_snoc (o := (⟨a, k - f', c, ps.drop f', -2, ⟨#[]⟩⟩ : Wd)) ho
        refine ⟨_, _, _, ws ++ [⟨a, k - f', c, ps.drop f', -2, ⟨#[]⟩⟩], rfl, ⟨?_, fun o ho => ?_⟩, ?_, by omega, by rw [HG.out]; exact hbw⟩
        · rw [← e] at ho2 ⊢
          exact own_crow wdC_len ho2 (by rw [e]; omega)
        · rcases List.mem_append.1 ho with h | h
          · exact (HLD.out o h).below (by rw [HG.out]; exact hbw)
          · obtain rfl := List.mem_singleton.1 h
            exact hr.below (by rw [HG.out]; exact hbw)
        · rw [List.map_append, HWS.out]
          unfold wordsF
          rw [HWT.out]; rfl
      have FIN := Lib.hid fin
      clear fin
      have hf0 : (0 : Int) ≤ (f' : Int) := by omega
      have hf1 : (f' : Int) ≤ (k : Int) := by omega
      have hk1 : (k : Int) ≤ (d : Int) := by omega
      have HA := Lib.hid fun (w1 : World) (hw1 : w1 = wr) (la : Option Addr) (ll lc : Nat) => fun ops rest o a Q hg s x ho hs hx h => wpList_append_lies (P := Try.prog) (w := w1.alloc (.cells #[.slice la ll lc, .int .i64 (-2), .string ⟨#[]⟩] 38)) (ops := ops) (rest := rest) (o := o) (a := a) (Q := Q) hg s x 27 ho g 38 i0 _ 3 48 Try.underlying27 hii hz0 hz1 hz2 rfl (by omega) _ ws.length (ws.flatMap wdC) hs ((by subst hw1; exact HOWN.out.alloc _))
              ⟨w1.heap.size, 0, none⟩ 1 1 [.slice la ll lc, .int .i64 (-2), .string ⟨#[]⟩] hx rfl (World.news_of_block (cs := #[.slice la ll lc, .int .i64 (-2), .string ⟨#[]⟩]) (t := 38) (fr := (0, 0)) (heap_alloc_new w1 _)) (by simp [Value.oneCell'])
              (by omega) (by unfold maxLen; omega) (by omega) (by subst hw1; simp; omega) (w1.heap.size + 1) (by simp) h
      by_cases hk0 : k = 0
      · subst hk0
        have hf00 : f' = 0 := by omega
        subst hf00
        have HPS : Hid (ps.drop 0 = []) := Lib.hid (by have := HL.out; rw [List.drop_zero]; exact List.length_eq_zero_iff.1 this)
        cases B with
        | none =>
          go_wp2_with (at_builtin; refine HA.out _ rfl _ _ _ _ _ _ _ _ rfl _ _ rfl rfl rfl ?_; intro gg cap2 w2 hown1 hgrow hat hlt2)
          go_ret
          exact FIN.out _ _ w2 gg cap2 (by rw [HPS.out]; exact crow_zero) (below_grown (HBW.out.alloc hgl _) (by simp; omega) hgrow (fun j hj => (own_ge HOWN.out hj).1)) hown1
        | some q =>
          go_wp2_with (at_builtin; refine HA.out _ rfl _ _ _ _ _ _ _ _ rfl _ _ rfl rfl rfl ?_; intro gg cap2 w2 hown1 hgrow hat hlt2)
          all_goals
            go_ret
            exact FIN.out _ _ w2 gg cap2 (by rw [HPS.out]; exact crow_zero) (below_grown (HBW.out.alloc hgl _) (by simp; omega) hgrow (fun j hj => (own_ge HOWN.out hj).1)) hown1
      · obtain ⟨b1, o1, rfl, hbl, _⟩ := HB.out.2.2 (by omega)
        have HSUB := Lib.hid (crow_sub HB.out hf (Nat.le_refl k))
        rw [HK.out] at HSUB
        by_cases hfd : d = f'
        · subst hfd
          have hfk : k = d := by omega
          subst hfk
          have HPS : Hid (ps.drop k = []) := Lib.hid (List.drop_of_length_le (by rw [HL.out]; exact Nat.le_refl _))
          go_wp2_with (at_builtin; refine HA.out _ rfl _ _ _ _ _ _ _ _ rfl _ _ rfl rfl rfl ?_; intro gg cap2 w2 hown1 hgrow hat hlt2)
          go_ret
          have hkk : k - k = 0 := Nat.sub_self k
          exact FIN.out (some ⟨b1, o1, none⟩) _ w2 gg cap2 (by rw [HPS.out, hkk]; exact crow_zero) (below_grown (HBW.out.alloc hgl _) (by simp; omega) hgrow (fun j hj => (own_ge HOWN.out hj).1)) (by rw [hkk]; exact hown1)
        · go_wp2_with (at_builtin; refine HA.out _ rfl _ _ _ _ _ _ _ _ rfl _ _ rfl rfl rfl ?_; intro gg cap2 w2 hown1 hgrow hat hlt2)
          go_ret
          exact FIN.out _ _ w2 gg cap2 HSUB.out (below_grown (HBW.out.alloc hgl _) (by simp; omega) hgrow (fun j hj => (own_ge HOWN.out hj).1)) hown1
end Go.Proofs.Ytdffilenphglgaa
