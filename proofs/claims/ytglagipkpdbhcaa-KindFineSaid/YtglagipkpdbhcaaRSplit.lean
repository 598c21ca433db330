import Derived.Test.YtglagipkpdbhcaaWidth
import Derived.Test.YtglagipkpdbhcaaClasses
import Derived.Test.YtglagipkpdbhcaaArrAt
import Derived.Laws.ResultCell
namespace Go.Proofs.Ytglagipkpdbhcaa
open Go.RowKit Go.Sort

def pairC (C : Nat → Nat) (S : Nat → Bool) : Nat → Nat × Bool := fun x => (C x, S x)
theorem pairC_fi (C : Nat → Nat) (S : Nat → Bool) (b : Nat) : C (fi (pairC C S) b) = C b ∧ S (fi (pairC C S) b) = S b := by
  have := fi_eq (pairC C S) b
  simp only [pairC, Prod.mk.injEq] at this
  exact this
theorem pairC_ne (C : Nat → Nat) (S : Nat → Bool) {a b : Nat} (h : a < fi (pairC C S) b) (hc : C a = C b) : S a ≠ S b := by
  intro e
  exact fi_first (pairC C S) b a h (by simp only [pairC, hc, e])
/-- The new classes, as far as they stand. -/
def outC {α : Type} [DecidableEq α] (p : Nat → α) (n : Nat) : Nat → Nat := fun x => if x < n then cls p x else 0
theorem outC_next {α : Type} [DecidableEq α] (p : Nat → α) (n v : Nat) (hv : v = cls p n) (i : Nat) (_h : i < 256) : upd (outC p n) n v i = outC p (n + 1) i := by
  unfold upd outC
  by_cases e : i = n
  · subst e; rw [if_pos rfl, if_pos (by omega)]; exact hv
  · rw [if_neg e]
    by_cases h : i < n
    · rw [if_pos h, if_pos (by omega)]
    · rw [if_neg h, if_neg (by omega)]
theorem outC_all {α : Type} [DecidableEq α] (p : Nat → α) (i : Nat) (h : i < 256) : outC p 256 i = cls p i := if_pos h

set_option maxHeartbeats 1000000 in
set_option maxRecDepth 100000 in
theorem refsplit_any (C : Nat → Nat) (S : Nat → Bool) (w : World) :
    Calls Try.prog 18 #[.agg (arrC C), setV S] w fun e w' => e = .returned (.agg (arrC (cls (pairC C S)))) ∧ Below w.heap.size w w' := by
  have hal := run_zero_arr
  have hbu := run_build_arr
  have a0 := BlkAt.new w (.cells (arrC C) 24) _ rfl
  have a1 := a0.alloc (setO S)
  have b1 := BlkAt.new (w.alloc (.cells (arrC C) 24)) (setO S) (w.heap.size + 1) (by simp)
  have a2 := (a1.alloc (.cells (arrC zeroC) 24)).alloc (.cells (arrC zeroC) 24)
  have b2 := (b1.alloc (.cells (arrC zeroC) 24)).alloc (.cells (arrC zeroC) 24)
  have c2 := (BlkAt.new ((w.alloc (.cells (arrC C) 24)).alloc (setO S)) (.cells (arrC zeroC) 24) (w.heap.size + 2) (by simp)).alloc (.cells (arrC zeroC) 24)
  have d2 := BlkAt.new (((w.alloc (.cells (arrC C) 24)).alloc (setO S)).alloc (.cells (arrC zeroC) 24)) (.cells (arrC zeroC) 24) (w.heap.size + 3) (by simp)
  have bel : Below w.heap.size w ((((w.alloc (.cells (arrC C) 24)).alloc (setO S)).alloc (.cells (arrC zeroC) 24)).alloc (.cells (arrC zeroC) 24)) :=
    ((((Below.refl _ _).alloc (Nat.le_refl _) _).alloc (by simp) _).alloc (by simp; omega) _).alloc (by simp; omega) _
  have hs : ((((w.alloc (.cells (arrC C) 24)).alloc (setO S)).alloc (.cells (arrC zeroC) 24)).alloc (.cells (arrC zeroC) 24)).heap.size = w.heap.size + 4 := by simp
  have A2 := Lib.hid a2
  have B2 := Lib.hid b2
  have C2 := Lib.hid c2
  have D2 := Lib.hid d2
  have BEL := Lib.hid bel
  have HS := Lib.hid hs
  clear a0 a1 b1 a2 b2 c2 d2 bel hs
  unfold setV
  go_enter Try.func18, Try.ntmps18
  go_wp2_with (refine wpList_store_arr rfl _ _ rfl (w.heap.size + 3) zeroC zeroC rfl rfl D2.out ?_; intro w1 hD hB1 hO1 hS1)
  have A1 : ArrAt w1 w.heap.size C := (hO1 _ (by omega)).trans A2.out
  have B1 : BlkAt w1 (w.heap.size + 1) (setO S) := (hO1 _ (by omega)).trans B2.out
  have C1 : ArrAt w1 (w.heap.size + 1 + 1) zeroC := (hO1 _ (by omega)).trans C2.out
  have bel1 : Below w.heap.size w w1 := BEL.out.trans (hB1 _ (by omega))
  have hs1 : w1.heap.size = w.heap.size + 4 := hS1.trans HS.out
  clear A2 B2 C2 D2 BEL HS hB1 hO1 hS1 hal hbu
  generalize hg3 : w.heap.size + 1 + 1 + 1 = g3
  generalize hg2 : w.heap.size + 1 + 1 = g2
  generalize hg1 : w.heap.size + 1 = g1
  have e3 : w.heap.size + 3 = g3 := by omega
  rw [e3] at hD
  rw [hg2] at C1
  rw [hg1] at B1
  have l1 : w.heap.size < g1 := by omega
  have l2 : g1 < g2 := by omega
  have l3 : g2 < g3 := by omega
  have l4 : g3 < w1.heap.size := by omega
  clear hg3 hg2 hg1 e3 hs1
  have hD0 : ArrAt w1 g3 (outC (pairC C S) 0) := hD.congr fun i _ => by simp [outC, zeroC]
  clear hD
  go_loopw [6, 7] (fun n i wr => ∃ k : Nat, k ≤ 256 ∧ i = .int .i64 k ∧ n = .int .i64 (cnt (pairC C S) k) ∧ ArrAt wr g3 (outC (pairC C S) k) ∧ Below g3 w1 wr ∧ g3 < wr.heap.size) (fun _ i _ => 256 - (intOf i).toNat)
  case atStart => exact ⟨0, by omega, rfl, rfl, hD0, Below.refl _ _, l4⟩
  case round =>
    obtain ⟨k, hk, rfl, rfl, hD, hb, hl⟩ := hrel
    obtain ⟨wo, rfl⟩ : ∃ wo : World, wo = wr := ⟨_, rfl⟩
    by_cases hlt : k < 256
    · have hfk := fi_le (pairC C S) k
      have hcn := cnt_le (pairC C S) k
      have bk : (k : Int) < 256 := by omega
      go_wp2
      go_loopw [8] (fun i wr2 => ∃ a : Nat, a ≤ fi (pairC C S) k ∧ i = .int .i64 a ∧ Below wo.heap.size wo wr2) (fun i _ => 256 - (intOf i).toNat)
      case atStart => exact ⟨0, by omega, rfl, Below.refl _ _⟩
      case round =>
        obtain ⟨a, ha, rfl, hb2⟩ := hrel
        have hA2 : ArrAt wr w.heap.size C := (A1.below hb (by omega)).below hb2 (by omega)
        have hB2 : BlkAt wr g1 (setO S) := (B1.below hb (by omega)).below hb2 (by omega)
        have ka := cell_regrown (hA2.cell a (by omega))
        have kk := cell_regrown (hA2.cell k hlt)
        have k0 := cell_regrown (setO_cell hB2 0 (by omega))
        have k1 := cell_regrown (setO_cell hB2 1 (by omega))
        have k2 := cell_regrown (setO_cell hB2 2 (by omega))
        have k3 := cell_regrown (setO_cell hB2 3 (by omega))
        have h1 := fun w' => refhas_any S a w' (by omega)
        have h2 := fun w' => refhas_any S k w' hlt
        unfold setV at h1 h2
        have H1 := Lib.hid h1
        have H2 := Lib.hid h2
        have wx : IntKind.u8.wrap (a : Int) = a := IntWalk.u8_in _ ⟨by omega, by omega⟩
        have wy : IntKind.u8.wrap (k : Int) = k := IntWalk.u8_in _ ⟨by omega, by omega⟩
        have ba : (a : Int) < 256 := by omega
        clear h1 h2 hA2 hB2
        by_cases hne : C a = C k
        · have hcb : ((C a : Int) != (C k : Int)) = false := by simp [hne]
          by_cases hfi : a < fi (pairC C S) k
          · have hS := pairC_ne C S hfi hne
            have hSb : (S a == S k) = false := by simpa using hS
            clear hS hne
            go_wp2
            refine wp_region_quiet_below (by kernel_rfl) (by kernel_rfl) ?_
            repeat (go_big_quiet_step (first | (with_reducible exact regrown_call H1.out _ _) | (with_reducible exact regrown_call H2.out _ _)))
            refine wpQuiet_nil ?_
            intro _ hw'
            obtain ⟨⟨dq, osq⟩, hw''⟩ := hw'
            subst hw''
            have hb3 := hb2.trans ((below_regrown wr dq osq).mono hb2.size)
            clear wx wy ka kk k0 k1 k2 k3
            go_wp2
            go_roundw
            case rel => exact ⟨a + 1, by omega, by go_num, hb3⟩
            case measure => simp [intOf]; omega
          · have hak : a = fi (pairC C S) k := by omega
            have hS := (pairC_fi C S k).2
            rw [← hak] at hS
            have hSb : (S a == S k) = true := by simp [hS]
            have Hak := Lib.hid hak
            clear hS hne hak
            go_wp2
            refine wp_region_quiet_below (by kernel_rfl) (by kernel_rfl) ?_
            repeat (go_big_quiet_step (first | (with_reducible exact regrown_call H1.out _ _) | (with_reducible exact regrown_call H2.out _ _)))
            refine wpQuiet_nil ?_
            intro _ hw'
            obtain ⟨⟨dq, osq⟩, hw''⟩ := hw'
            subst hw''
            have hb3 := hb2.trans ((below_regrown wr dq osq).mono hb2.size)
            clear wx wy ka kk k0 k1 k2 k3
            generalize grow (redrawn wr dq) osq = wq at hb3 ⊢
            have hDq := hD.below hb3 hl
            have hcell := hDq.cell k hlt
            have hfr := hDq.frozen k
            have hca := hDq.cell a (by omega)
            have hlq : g3 < wq.heap.size := by have := hb3.size; omega
            have Hb := Lib.hid (hb.trans (hb3.mono (by omega : g3 ≤ wo.heap.size)))
            clear hb3
            have HD := Lib.hid hDq
            clear hDq
            go_wp2
            · have hak : a < k := by assumption
              have hcl : outC (pairC C S) k a = cls (pairC C S) k := by
                rw [outC, if_pos hak, Hak.out]
                exact (cls_eq_iff _ _ _).2 (fi_eq _ _)
              have hnn : cnt (pairC C S) (k + 1) = cnt (pairC C S) k := by
                have : isNew (pairC C S) k = false := by
                  unfold isNew; rw [← Hak.out, beq_eq_false_iff_ne]; omega
                simp [cnt, this]
              go_roundw
              case rel =>
                refine ⟨k + 1, by omega, by go_num, by rw [hnn], ((HD.out).set_ k _ hlt).congr (outC_next _ k _ hcl), Hb.out.setCell (Nat.le_refl _) _, ?_⟩
                simpa [World.setCell] using hlq
              case measure => simp [intOf]; omega
            · have hak : a = k := by
                have : ¬ a < k := by assumption
                omega
              have hnew : isNew (pairC C S) k = true := by
                unfold isNew; rw [← Hak.out, beq_iff_eq]; exact hak
              have hcl : cnt (pairC C S) k = cls (pairC C S) k := (cls_new _ hnew).symm
              have hnn : cnt (pairC C S) (k + 1) = cnt (pairC C S) k + 1 := by simp [cnt, hnew]
              go_roundw
              case rel =>
                refine ⟨k + 1, by omega, by go_num, by rw [hnn]; go_num, ((HD.out).set_ k _ hlt).congr (outC_next _ k _ hcl), Hb.out.setCell (Nat.le_refl _) _, ?_⟩
                simpa [World.setCell] using hlq
              case measure => simp [intOf]; omega
        · have hcb : ((C a : Int) != (C k : Int)) = true := by rw [bne_iff_ne]; omega
          have hfi : a < fi (pairC C S) k := by
            rcases Nat.lt_or_ge a (fi (pairC C S) k) with h | h
            · exact h
            · have : a = fi (pairC C S) k := by omega
              exact absurd (by rw [this]; exact (pairC_fi C S k).1) hne
          clear hne
          go_wp2
          refine wp_region_quiet_below (by kernel_rfl) (by kernel_rfl) ?_
          repeat (go_big_quiet_step (first | (with_reducible exact regrown_call H1.out _ _) | (with_reducible exact regrown_call H2.out _ _)))
          refine wpQuiet_nil ?_
          intro _ hw'
          obtain ⟨⟨dq, osq⟩, hw''⟩ := hw'
          subst hw''
          have hb3 := hb2.trans ((below_regrown wr dq osq).mono hb2.size)
          clear wx wy ka kk k0 k1 k2 k3
          go_wp2
          go_roundw
          case rel => exact ⟨a + 1, by omega, by go_num, hb3⟩
          case measure => simp [intOf]; omega
    · have hk2 : k = 256 := by omega
      have Hk := Lib.hid hk2
      clear hk2
      have hC2 := C1.below hb l3
      go_wp2_with (first | (refine wpList_load_arr rfl _ rfl g3 (outC (pairC C S) k) rfl hD ?_) | (refine wpList_store_arr rfl _ _ rfl g2 zeroC (outC (pairC C S) k) rfl rfl hC2 ?_; intro w9 hR hB9 hO9 hS9))
      have hR2 := hR
      rw [Hk.out] at hR2
      have hR3 := hR2.congr (outC_all (pairC C S))
      refine bodyPost_ret (results_cell_row rfl _ _ g2 24 (arrC (cls (pairC C S))) (0, 0) _ rfl hR3 Try.underlying24 rfl (sizeArr _)) rfl ⟨rfl, ?_⟩
      exact (bel1.trans (hb.mono (by omega))).trans (hB9 _ (by omega))
end Go.Proofs.Ytglagipkpdbhcaa
