/- Words as pieces: the document's. -/
import Derived.Test.YtdffilenphglgaaPieces
namespace Go.Proofs.Ytdffilenphglgaa
open Go.RowKit
set_option linter.unusedVariables false

set_option maxHeartbeats 2000000 in
theorem refpieces_any (w : World) (A : Option Addr) (n d : Nat) (ws : List Wd) (hA : WRow w A n ws) (hsm : lsum ws + n ≤ 1000) :
    Calls Try.prog 17 #[.slice A n d] w fun e w' => ∃ V m c, e = .returned (.slice V m c) ∧ CRow pcC 2 w' V m (piecesA (ws.map wabs)) ∧ Below w.heap.size w w' := by
  have hl2 := hA.1.2.1
  have HA := Lib.hid hA
  have HL := Lib.hid hA.1.1
  have HSM := Lib.hid hsm
  clear hA hsm
  obtain ⟨i0, hii, hz0, hz1, hz2⟩ := info_parts infoPc
  obtain ⟨g, hg⟩ : ∃ g, w.heap.size = g := ⟨_, rfl⟩
  have HG := Lib.hid hg
  have HR := Lib.hid (show Below g w (w.alloc (.cells #[] 36)) by rw [← hg]; exact (Below.refl _ _).alloc (Nat.le_refl _) _)
  have HO0 := Lib.hid (World.ownsRow_made (base := g) (e := 36) (size := 2) w #[] 0 (Nat.le_of_eq HG.out.symm) (by decide) (by simp))
  rw [hg] at HO0
  go_enter Try.func17, Try.ntmps17
  go_wp2
  clear hg
  go_loopw [3, 4] (fun v i wr => ∃ (k : Nat), k ≤ n ∧ i = .int .i64 k ∧ wr.ownsRow g 36 2 v (piecesA ((ws.take k).map wabs)).length ((piecesA ((ws.take k).map wabs)).flatMap pcC) ∧ Below g w wr) (fun _ i _ => n - (intOf i).toNat)
  case atStart => exact ⟨0, by omega, rfl, HO0.out, HR.out⟩
  case round =>
    obtain ⟨k, hk, rfl, hown, hb⟩ := hrel
    have HLN : Hid ((piecesA ((ws.take k).map wabs)).length ≤ 1000) := Lib.hid (by have := pieces_len (ws.take k); have h2 := lsum_le ws k; have h3 : (ws.take k).length ≤ k := List.length_take_le _ _; have := HSM.out; omega)
    have HBW := Lib.hid hb
    have hgl : g ≤ wr.heap.size := by have := HG.out; have := hb.size; omega
    have HOWN := Lib.hid hown
    clear hown hb
    by_cases hlt : k < n
    · obtain ⟨b1, o1, o, rfl, hbl, ho, hc⟩ := HA.out.1.at_ hlt
      have hbg : b1 < g := by have := HG.out; omega
      have HOM := Lib.hid (HA.out.2 o (List.mem_of_getElem? ho))
      have HST := Lib.hid (wpieces_take ho)
      have HLO : Hid (o.ps.length ≤ 1000) := Lib.hid (by have := lsum_take ho; have h2 := lsum_le ws (k + 1); have := HSM.out; omega)
      obtain ⟨oa, ol, oc, ops, ot, os⟩ := o
      have HC0 := Lib.hid (hc 0 _ rfl)
      have HC1 := Lib.hid (hc 1 _ rfl)
      have HC2 := Lib.hid (hc 2 _ rfl)
      have c0 : wr.cell? ⟨b1, o1 + k * 3, none⟩ = some (.slice oa ol oc) := (HBW.out.cell (p := ⟨b1, o1 + k * 3, none⟩) hbg).trans (hc 0 _ rfl)
      dsimp only at HOM HLO
      have HR2 : Hid (CRow pcC 2 wr oa ol ops) := Lib.hid (HOM.out.below (by rw [HG.out]; exact HBW.out))
      have HOL := Lib.hid HOM.out.1
      have HAP := Lib.hid (app_pcs HOWN.out HR2.out (c := oc) (by have := HLN.out; have := HLO.out; have := HOL.out; omega) hgl)
      obtain ⟨xs, hxs⟩ : ∃ xs, piecesA ((ws.take k).map wabs) = xs := ⟨_, rfl⟩
      rw [hxs] at HAP HST HLN
      have h0 : (0 : Int) ≤ (k : Int) := by omega
      have h1 : (k : Int) < (n : Int) := by omega
      clear hc ho hxs
      by_cases ht : ot = -2
      · have j1 : (ot == -2) = true := by simp [ht]
        have HPC : Hid (pcsA (ops, ot, os) = ops) := Lib.hid (by unfold pcsA; simp [ht])
        clear ht
        go_wp2_with (at_builtin; refine HAP.out _ _ _ _ _ rfl _ _ rfl rfl rfl ?_; intro v2 w2 hown1 hgrow hat; have HW1 := Lib.hid hown1; have HGR := Lib.hid hgrow; have HB2 := Lib.hid (below_grown HBW.out hgl HGR.out (fun j hj => (own_ge HOWN.out hj).1)); have c1' : w2.cell? ⟨b1, o1 + k * 3 + 1, none⟩ = some (.int .i64 ot) := (HB2.out.cell (p := ⟨b1, o1 + k * 3 + 1, none⟩) hbg).trans HC1.out; clear hown1 hgrow hat)
        go_roundw
        case rel =>
          refine ⟨k + 1, by omega, by go_num, ?_, HB2.out⟩
          rw [HST.out]; unfold wabs; rw [HPC.out, List.length_append, HOL.out]; exact HW1.out
        case measure => simp [intOf]; omega
      · have j1 : (ot == -2) = false := by simp [ht]
        have HPC : Hid (pcsA (ops, ot, os) = ops ++ [⟨ot, os⟩]) := Lib.hid (by unfold pcsA; simp [ht])
        clear ht
        go_wp2_with (at_builtin; refine HAP.out _ _ _ _ _ rfl _ _ rfl rfl rfl ?_; intro v2 w2 hown1 hgrow hat; have HW1 := Lib.hid hown1; have HGR := Lib.hid hgrow; have HB2 := Lib.hid (below_grown HBW.out hgl HGR.out (fun j hj => (own_ge HOWN.out hj).1)); have c1' : w2.cell? ⟨b1, o1 + k * 3 + 1, none⟩ = some (.int .i64 ot) := (HB2.out.cell (p := ⟨b1, o1 + k * 3 + 1, none⟩) hbg).trans HC1.out; have c2' : w2.cell? ⟨b1, o1 + k * 3 + 2, none⟩ = some (.string os) := (HB2.out.cell (p := ⟨b1, o1 + k * 3 + 2, none⟩) hbg).trans HC2.out; clear hown1 hgrow hat)
        have hgl2 : g ≤ w2.heap.size := by have := HB2.out.size; have := HG.out; omega
        have hb2 : b1 < w2.heap.size := by omega
        have hx1 := HLN.out
        have hx2 := HLO.out
        have hx3 := HOL.out
        go_region_held3 (fun w' => w'.cell? ⟨b1, o1 + k * 3 + 1, none⟩ = some (.int .i64 ot) ∧ w'.cell? ⟨b1, o1 + k * 3 + 2, none⟩ = some (.string os))
          (first
            | go_keep
            | (go_split_ands
               refine ⟨?_, ?_⟩
               · (rw [hgrow.cell_far _ (by simp; omega) (by intro e; exact absurd (own_ge HW1.out e.symm).1 (by show ¬ g ≤ b1; omega))]; assumption)
               · (rw [hgrow.cell_far _ (by simp; omega) (by intro e; exact absurd (own_ge HW1.out e.symm).1 (by show ¬ g ≤ b1; omega))]; assumption)))
          ((refine step_append_lies _ (by rfl) _ _ _ (by rfl) g 36 i0 _ 2 24 Try.underlying23 hii hz0 hz1 hz2 rfl (by omega) _ (xs.length + ol) ((xs ++ ops).flatMap pcC) (by rfl) ((HW1.out.alloc _).drew)
              ⟨w2.heap.size, 0, none⟩ 1 1 [.int .i64 ot, .string os] (by rfl) (by rfl) (World.news_of_block (cs := #[.int .i64 ot, .string os]) (t := 36) (fr := (0, 0)) (heap_alloc_new w2 _)) (by simp [Value.oneCell'])
              (by omega) (by unfold maxLen; omega) (by omega) (by simp; omega) (w2.heap.size + 1) (by simp) ?_; intro gg cap2 w3 hown1 hgrow hat hlt2))
        have HOW1 := Lib.hid hown1
        have HBW1 := Lib.hid (below_grown (HB2.out.alloc hgl2 (.cells #[.int .i64 ot, .string os] 36)).drew (by simp; omega) hgrow (fun j hj => (own_ge HW1.out hj).1))
        clear hown1 hgrow hat hlt2
        go_wp2
        go_roundw
        case rel =>
          refine ⟨k + 1, by omega, by go_num, ?_, HBW1.out⟩
          rw [HST.out]; unfold wabs; rw [HPC.out, ← List.append_assoc, List.length_append, List.length_append, HOL.out]; exact own_snoc (o := (⟨ot, os⟩ : Pc)) HOW1.out
        case measure => simp [intOf]; omega
    · have HK : Hid (ws.take k = ws) := by show _ = _; exact List.take_of_length_le (by rw [HL.out]; omega)
      rw [HK.out] at HOWN HLN
      obtain ⟨V, c, hv, _⟩ := own_form HOWN.out
      subst hv
      have HC := Lib.hid (own_crow pcC_len HOWN.out (by have := HLN.out; omega))
      go_wp2
      go_ret
      exact ⟨_, _, _, rfl, HC.out, by rw [HG.out]; exact HBW.out⟩
end Go.Proofs.Ytdffilenphglgaa
