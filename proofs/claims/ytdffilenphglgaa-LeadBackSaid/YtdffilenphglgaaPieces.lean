/- Words as pieces: the program's, and the document's. -/
import Derived.Test.YtdffilenphglgaaLeadLaw
import Derived.Test.YtdffilenphglgaaAppRow
import Derived.Test.YtdffilenphglgaaNotes
import Derived.Test.YtdffilenphglgaaLine
namespace Go.Proofs.Ytdffilenphglgaa
open Go.RowKit
set_option linter.unusedVariables false

theorem pcC_one (o : Pc) : ∀ u ∈ pcC o, u.oneCell' = true := by
  intro u hu
  simp [pcC] at hu
  rcases hu with rfl | rfl <;> rfl
/-- A row of pieces behind a row of the call's own. -/
theorem app_pcs {w : World} {base n : Nat} {v : Value} {xs : List Pc} (hown : w.ownsRow base 36 2 v n (xs.flatMap pcC)) {a : Option Addr} {m c : Nat} {os : List Pc} (hr : CRow pcC 2 w a m os) (hn : n + m ≤ 200000) (hbase : base ≤ w.heap.size)
    (ops : Array Oper) (rest : List Oper) (o : Oper) (act : Act) (Q : Exit → Act → World → Prop) (hg : o.guard = none) (s x : Operand) (ho : o.op = .call { callee := .builtin .append, args := #[s, x], argTypes := #[23, 23] })
    (hs : act.eval s = v) (hx : act.eval x = .slice a m c)
    (h : ∀ v' w', w'.ownsRow base 36 2 v' (n + m) ((xs ++ os).flatMap pcC) → w.grownBy w' v.ownBlock → (v'.ownBlock = v.ownBlock ∨ v'.ownBlock = some w.heap.size) →
      wpList Try.prog ops Q rest (act.put o.dst v') w') : wpList Try.prog ops Q (o :: rest) act w := by
  obtain ⟨i0, hii, hz0, hz1, hz2⟩ := info_parts infoPc
  exact wpList_append_row w hg s x 23 ho base 36 i0 _ 24 Try.underlying23 hii hz0 hz1 hz2 rfl (by omega) pcC_len pcC_one v n (xs.flatMap pcC) hs hown a m c os hx hr (by unfold maxLen; omega) (by omega) hbase
    fun v' w' h1 h2 h3 => h v' w' (by rw [List.flatMap_append]; exact h1) h2 h3
theorem pcsA_len (o : WA) : (pcsA o).length ≤ o.1.length + 1 := by unfold pcsA; split <;> simp
/-- How many trivia there are. -/
def lsum (ws : List Wd) : Nat := (ws.map fun o => o.ps.length).sum
theorem lsum_take {ws : List Wd} {k : Nat} {o : Wd} (h : ws[k]? = some o) : lsum (ws.take (k + 1)) = lsum (ws.take k) + o.ps.length := by
  unfold lsum; rw [List.take_add_one, h]; simp
theorem sum_take_le (l : List Nat) : ∀ k, (l.take k).sum ≤ l.sum := by
  induction l with
  | nil => intro k; simp
  | cons x l ih =>
    intro k
    cases k with
    | zero => simp
    | succ k => simp [ih k]
theorem lsum_le (ws : List Wd) (k : Nat) : lsum (ws.take k) ≤ lsum ws := by
  unfold lsum; rw [List.map_take]; exact sum_take_le _ k
theorem pieces_len (ws : List Wd) : (piecesA (ws.map wabs)).length ≤ lsum ws + ws.length := by
  induction ws with
  | nil => simp [piecesA]
  | cons o l ih =>
    have e : (piecesA ((o :: l).map wabs)).length = (pcsA (wabs o)).length + (piecesA (l.map wabs)).length := by simp [piecesA]
    have h1 := pcsA_len (wabs o)
    have h2 : (wabs o).1.length = o.ps.length := rfl
    have h3 : lsum (o :: l) = o.ps.length + lsum l := by simp [lsum]
    rw [e, h3]; simp only [List.length_cons]; omega
theorem wmap_at {ws : List Wd} {k : Nat} {o : Wd} (h : ws[k]? = some o) : (ws.map wabs)[k]? = some (wabs o) := by rw [List.getElem?_map, h]; rfl
theorem wpieces_take {ws : List Wd} {k : Nat} {o : Wd} (h : ws[k]? = some o) : piecesA ((ws.take (k + 1)).map wabs) = piecesA ((ws.take k).map wabs) ++ pcsA (wabs o) := by
  rw [List.map_take, List.map_take]; exact piecesA_take (wmap_at h)

set_option maxHeartbeats 2000000 in
theorem pieces_any (w : World) (A : Option Addr) (n d : Nat) (ws : List Wd) (hA : WRow w A n ws) (hsm : lsum ws + n ≤ 1000) :
    Calls Try.prog 16 #[.slice A n d] w fun e w' => ∃ V m c, e = .returned (.slice V m c) ∧ CRow pcC 2 w' V m (piecesA (ws.map wabs)) ∧ Below w.heap.size w w' := by
  have hl2 := hA.1.2.1
  have HA := Lib.hid hA
  have HL := Lib.hid hA.1.1
  have HSM := Lib.hid hsm
  clear hA hsm
  obtain ⟨g, hg⟩ : ∃ g, w.heap.size = g := ⟨_, rfl⟩
  have HG := Lib.hid hg
  have HR := Lib.hid (show Below g w w by rw [← hg]; exact Below.refl _ _)
  clear hg
  go_enter Try.func16, Try.ntmps16
  go_wp2
  go_loopw [3, 8] (fun v i wr => ∃ (k : Nat), k ≤ n ∧ i = .int .i64 k ∧ wr.ownsRow g 36 2 v (piecesA ((ws.take k).map wabs)).length ((piecesA ((ws.take k).map wabs)).flatMap pcC) ∧ Below g w wr) (fun _ i _ => n - (intOf i).toNat)
  case atStart => exact ⟨0, by omega, rfl, own_new _ _ _ _, HR.out⟩
  case round =>
    obtain ⟨k, hk, rfl, hown, hb⟩ := hrel
    have HLN : Hid ((piecesA ((ws.take k).map wabs)).length ≤ 1000) := Lib.hid (by have := pieces_len (ws.take k); have h2 := lsum_le ws k; have h3 : (ws.take k).length ≤ k := List.length_take_le _ _; have := HSM.out; omega)
    have HBW := Lib.hid hb
    have hgl : g ≤ wr.heap.size := by have := HG.out; have := hb.size; omega
    have HOWN := Lib.hid hown
    clear hown hb
    by_cases hlt : k < n
    · obtain ⟨b1, o1, o, rfl, hbl, ho, hc⟩ := HA.out.1.at_ hlt
      have hbg : b1 < g := by have := HG.out; omega
      have HOM := Lib.hid (HA.out.2 o (List.mem_of_getElem? ho))
      have HST := Lib.hid (wpieces_take ho)
      have HLO : Hid (o.ps.length ≤ 1000) := Lib.hid (by have := lsum_take ho; have h2 := lsum_le ws (k + 1); have := HSM.out; omega)
      obtain ⟨oa, ol, oc, ops, ot, os⟩ := o
      have c0 : wr.cell? ⟨b1, o1 + k * 3, none⟩ = some (.slice oa ol oc) := (HBW.out.cell (p := ⟨b1, o1 + k * 3, none⟩) hbg).trans (hc 0 _ rfl)
      have c1 : wr.cell? ⟨b1, o1 + k * 3 + 1, none⟩ = some (.int .i64 ot) := (HBW.out.cell (p := ⟨b1, o1 + k * 3 + 1, none⟩) hbg).trans (hc 1 _ rfl)
      have c2 : wr.cell? ⟨b1, o1 + k * 3 + 2, none⟩ = some (.string os) := (HBW.out.cell (p := ⟨b1, o1 + k * 3 + 2, none⟩) hbg).trans (hc 2 _ rfl)
      dsimp only at HOM HLO
      have HO2 := Lib.hid (HOWN.out.alloc (.cells #[.slice oa ol oc, .int .i64 ot, .string os] 38))
      have HB2 := Lib.hid (HBW.out.alloc hgl (.cells #[.slice oa ol oc, .int .i64 ot, .string os] 38))
      have HR2 : Hid (CRow pcC 2 (wr.alloc (.cells #[.slice oa ol oc, .int .i64 ot, .string os] 38)) oa ol ops) := Lib.hid (HOM.out.below (by rw [HG.out]; exact HB2.out))
      have HOL := Lib.hid HOM.out.1
      have HAP := Lib.hid (app_pcs HO2.out HR2.out (c := oc) (by have := HLN.out; have := HLO.out; have := HOL.out; omega) (by simp; omega))
      have hne : ∀ {v : Value}, (wr.alloc (.cells #[.slice oa ol oc, .int .i64 ot, .string os] 38)).ownsRow g 36 2 v (piecesA ((ws.take k).map wabs)).length ((piecesA ((ws.take k).map wabs)).flatMap pcC) → some wr.heap.size ≠ v.ownBlock := fun h e => by
        obtain ⟨cur, hcur⟩ := own_obj h e.symm
        rw [heap_alloc_new] at hcur
        have := Option.some.inj hcur
        injection this with _ h2 _
        exact absurd h2 (by decide)
      have HNE := Lib.hid (hne HO2.out)
      obtain ⟨xs, hxs⟩ : ∃ xs, piecesA ((ws.take k).map wabs) = xs := ⟨_, rfl⟩
      rw [hxs] at HAP HST HLN
      clear hne hc ho hxs
      by_cases ht : ot = -2
      · have j1 : (ot == -2) = true := by simp [ht]
        have HPC : Hid (pcsA (ops, ot, os) = ops) := Lib.hid (by unfold pcsA; simp [ht])
        subst ht
        go_wp2_with (at_builtin; refine HAP.out _ _ _ _ _ rfl _ _ rfl rfl rfl ?_; intro v2 w2 hown1 hgrow hat; have HW1 := Lib.hid hown1; have HGR := Lib.hid hgrow; have c1' : w2.cell? ⟨wr.heap.size, 1, none⟩ = some (.int .i64 (-2)) := (HGR.out.cell_far ⟨wr.heap.size, 1, none⟩ (by simp) HNE.out).trans (by simp); clear hown1 hgrow hat)
        go_roundw
        case rel =>
          refine ⟨k + 1, by omega, by go_num, ?_, ?_⟩
          · rw [HST.out]; unfold wabs; rw [HPC.out, List.length_append, HOL.out]; exact HW1.out
          · exact below_grown HB2.out (by simp; omega) HGR.out (fun j hj => (own_ge HOWN.out hj).1)
        case measure => simp [intOf]; omega
      · have j1 : (ot == -2) = false := by simp [ht]
        have HPC : Hid (pcsA (ops, ot, os) = ops ++ [⟨ot, os⟩]) := Lib.hid (by unfold pcsA; simp [ht])
        clear ht
        go_wp2_with (first
          | (at_builtin; refine HAP.out _ _ _ _ _ rfl _ _ rfl rfl rfl ?_; intro v2 w2 hown1 hgrow hat; have HW1 := Lib.hid hown1; have HGR := Lib.hid hgrow; have c1' : w2.cell? ⟨wr.heap.size, 1, none⟩ = some (.int .i64 ot) := (HGR.out.cell_far ⟨wr.heap.size, 1, none⟩ (by simp) HNE.out).trans (by simp); have c2' : w2.cell? ⟨wr.heap.size, 2, none⟩ = some (.string os) := (HGR.out.cell_far ⟨wr.heap.size, 2, none⟩ (by simp) HNE.out).trans (by simp); have HB3 := Lib.hid (below_grown HB2.out (by simp; omega) HGR.out (fun j hj => (own_ge HOWN.out hj).1)); have HA3 := Lib.hid (app_pc HW1.out ⟨ot, os⟩ (by have := HLN.out; have := HLO.out; have := HOL.out; omega) (by have := HB3.out.size; have := HG.out; omega) w2.heap.size rfl); clear hown1 hgrow hat)
          | (at_builtin; refine HA3.out _ _ _ _ _ rfl _ _ rfl rfl rfl ?_; intro gg cap3 w3 hown2 hgrow2 hat2; have HW2 := Lib.hid hown2; have HGR2 := Lib.hid hgrow2; clear hown2 hgrow2 hat2))
        go_roundw
        case rel =>
          refine ⟨k + 1, by omega, by go_num, ?_, ?_⟩
          · rw [HST.out]; unfold wabs; rw [HPC.out, ← List.append_assoc, List.length_append, List.length_append, HOL.out]; exact HW2.out
          · exact below_grown (HB3.out.alloc (by have := HB3.out.size; have := HG.out; omega) _) (by simp; have := HB3.out.size; have := HG.out; omega) HGR2.out (fun j hj => (own_ge HW1.out hj).1)
        case measure => simp [intOf]; omega
    · have HK : Hid (ws.take k = ws) := by show _ = _; exact List.take_of_length_le (by rw [HL.out]; omega)
      rw [HK.out] at HOWN HLN
      obtain ⟨V, c, hv, _⟩ := own_form HOWN.out
      subst hv
      have HC := Lib.hid (own_crow pcC_len HOWN.out (by have := HLN.out; omega))
      go_wp2
      go_ret
      exact ⟨_, _, _, rfl, HC.out, by rw [HG.out]; exact HBW.out⟩
end Go.Proofs.Ytdffilenphglgaa
