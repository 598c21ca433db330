/- Several texts in one: OverP. -/
import Derived.Test.YtbefndibkpjgaaaTw9
/- rxfact: over the steps, with the machine that is made. -/
namespace Go.Proofs.Ytbefndibkpjgaaa
open Go.RowKit
set_option linter.unusedVariables false
set_option linter.unusedSimpArgs false
attribute [local go_sem ↓] loadP_eq

set_option maxRecDepth 100000 in
set_option maxHeartbeats 16000000 in
theorem overP_any (B0 : Nat) (v0 w : World) (hv0 : v0.heap.size = B0) (hb0 : Below B0 v0 w) (hm0 : MX B0 w mc0 []) (a : Option Addr) (n c : Nat) (o : Option RxT) (h : IsRx v0 a n o) (hn : n ≤ 300) :
    Calls Try.prog 33 #[.slice a n c, .func (.func 34) #[.pointer (some ⟨B0, 0, none⟩)] #[]] w fun e w' => GivOP B0 o w e w' := by
  obtain ⟨g, hg⟩ : ∃ g, w.heap.size = g := ⟨_, rfl⟩
  have HG := Lib.hid hg
  have HB0g : Hid (B0 < g) := Lib.hid (by have := hm0.le; omega)
  obtain ⟨W0, hW0⟩ : ∃ W, W = (w.alloc ZP).alloc ZP := ⟨_, rfl⟩
  have hs0 : W0.heap.size = g + 2 := by rw [hW0]; simp [hg]
  have hbg : Below g w W0 := by rw [hW0, ← hg]; exact ((Below.refl _ _).alloc (Nat.le_refl _) _).alloc (by simp) _
  have hbg' : Below w.heap.size w W0 := by rw [hg]; exact hbg
  have hz1 : Held B0 W0 g ZP := ⟨hm0.free hbg' (by omega) (by omega), by rw [hW0, ← hg]; exact (heap_alloc_old _ _ (by simp)).trans (heap_alloc_new w _)⟩
  have hz2 : Held B0 W0 (g + 1) ZP := ⟨hm0.free hbg' (by omega) (by omega), by
    rw [hW0]
    have := heap_alloc_new (w.alloc ZP) ZP
    rw [show (w.alloc ZP).heap.size = g + 1 by simp [hg]] at this
    exact this⟩
  have hmx : MX B0 W0 mc0 [] := hm0.below hbg'
  have HZ1 := Lib.hid hz1
  have HZ2 := Lib.hid hz2
  have HMX := Lib.hid hmx
  have HB0 := Lib.hid (hbg.mono (by have := HB0g.out; omega) : Below B0 w W0)
  have HV0 : Hid (Below B0 v0 W0) := Lib.hid (hb0.trans HB0.out)
  have HS0 := Lib.hid hs0
  have HW0 := Lib.hid hW0
  have HCK : Hid (∃ q : Nat, (q = 0 ↔ o.isSome = true) ∧ Calls Try.prog 24 #[.slice a n c] W0 fun e w' => e = .returned (.int .i64 (q : Nat)) ∧ Below W0.heap.size W0 w') := Lib.hid (by
    cases o with
    | some T => exact ⟨chkR (post T), by rw [h.2]; simp, check_any W0 a n c _ (h.1.below (by rw [hv0]; exact HV0.out))⟩
    | none =>
      obtain ⟨rs, h1, h2⟩ := h
      exact ⟨chkR rs, by simp [h2], check_any W0 a n c _ (h1.below (by rw [hv0]; exact HV0.out))⟩)
  obtain ⟨q, hq, hck⟩ := HCK.out
  have HQ := Lib.hid hq
  rw [hW0] at hck
  unfold ZP at hW0 hck
  have HCC := Lib.hid hck
  have HH := Lib.hid h
  have HVS := Lib.hid hv0
  clear hs0 hbg hbg' hz1 hz2 hmx hq hck h HCK hv0 hb0 hm0
  go_enter Try.func33, Try.ntmps33
  go_wp2_with fail
  refine HCC.out.mono ?_
  rintro e w1 ⟨rfl, hb1⟩
  rw [← hW0] at hb1
  have HK1 : Hid (KeepsR B0 W0 w1) := Lib.hid (HMX.out.onto hb1)
  have HB1' : Hid (Below B0 W0 w1) := Lib.hid (hb1.mono (by have := HS0.out; have := HB0g.out; omega))
  have HB1 := Lib.hid (HB0.out.trans HB1'.out)
  have HV1 : Hid (Below B0 v0 w1) := Lib.hid (HV0.out.trans HB1'.out)
  have HZ11 := Lib.hid (HZ1.out.keeps HK1.out)
  have HZ21 := Lib.hid (HZ2.out.keeps HK1.out)
  have HM1 := Lib.hid (HMX.out.below hb1)
  have hs1 : g + 2 ≤ w1.heap.size := by have := hb1.size; have := HS0.out; omega
  clear hb1 HCC
  cases o with
  | none =>
    have he : ((q : Int) != 0) = true := by rw [bne_iff_ne]; intro h; have := HQ.out.1 (by omega); simp at this
    have hl6 : (loadP ⟨g + 1, 0, none⟩).run Try.prog w1 = .ok (.agg #[.int .i64 0, .int .i64 0]) w1 := run_loadP0 w1 (g + 1) 0 0 HZ21.out.2
    go_wp2_with (refine wpList_store_pt rfl _ _ rfl g 0 0 0 0 rfl rfl HZ11.out.2 ?_; intro wR hR hBR hOR hSR; have HR := Lib.hid hR; have HMR := Lib.hid (HM1.out.kept HZ11.out.1 hOR hSR); have HBR := Lib.hid (HB1.out.trans (hBR B0 (Nat.le_of_lt HB0g.out))); clear hR hBR hOR hSR)
    refine bodyPost_ret (results_pt2 rfl _ _ g 0 0 _ rfl rfl HR.out) rfl ⟨HBR.out, mc0, HMR.out, rfl⟩
  | some T =>
    have hq0 : q = 0 := HQ.out.2 rfl
    subst hq0
    have HL := Lib.hid HH.out.1.1
    have HEV := Lib.hid (ev_all T)
    go_wp2
    go_loopw [7, 19] (fun u i wr => ∃ (j : Nat) (es : List RxT) (M : Mc), j ≤ n ∧ i = .int .i64 (j : Int) ∧ evT ((post T).drop j) es.reverse = some [T] ∧ sumP es.reverse = j ∧ OV B0 g w1 j es M u wr) (fun _ i _ => n - (intOf i).toNat)
    case atStart => exact ⟨0, [], mc0, by omega, rfl, by simpa using HEV.out, rfl, ⟨own_new _ _ _ _, (fun k hk => by cases hk), HM1.out, MOK.zero, ⟨rfl, (fun l hl => by cases hl)⟩, KeepsR.refl _ _, Below.refl _ _⟩⟩
    case round =>
      obtain ⟨j, es, M, hj, rfl, hev, hsum, hov⟩ := hrel
      have HOV := Lib.hid hov
      have HKR := Lib.hid hov.kp
      have hgl : w1.heap.size ≤ wr.heap.size := hov.kp.1
      have HGL := Lib.hid hgl
      have HF := Lib.hid (own_form hov.own)
      have HSUM := Lib.hid hsum
      have hsl : es.length ≤ j := by rw [← hsum]; have h9 := sum_len es.reverse; rw [List.length_reverse] at h9; exact h9
      clear hsum
      by_cases hlt : j < n
      · obtain ⟨b1, o1, r, rfl, hbl, hr, hc⟩ := (HH.out.1.below (w' := wr) (by rw [HVS.out]; exact HV1.out.trans hov.bw)).at_ hlt
        rw [drop_at hr] at hev
        obtain ⟨st', hstep, hev2⟩ := ev_cons hev
        have HEV2 := Lib.hid hev2
        have HSTEP := Lib.hid hstep
        have c0 : wr.cell? ⟨b1, o1 + j * 5, none⟩ = some (.int .i64 r.k) := hc 0 _ rfl
        have c1 : wr.cell? ⟨b1, o1 + j * 5 + 1, none⟩ = some (.int .u64 (wd r.s 0)) := hc 1 _ rfl
        have c2 : wr.cell? ⟨b1, o1 + j * 5 + 2, none⟩ = some (.int .u64 (wd r.s 1)) := hc 2 _ rfl
        have c3 : wr.cell? ⟨b1, o1 + j * 5 + 3, none⟩ = some (.int .u64 (wd r.s 2)) := hc 3 _ rfl
        have c4 : wr.cell? ⟨b1, o1 + j * 5 + 4, none⟩ = some (.int .u64 (wd r.s 3)) := hc 4 _ rfl
        have z0 : (0 : Int) ≤ (j : Int) := by omega
        have z1 : (j : Int) < (n : Int) := by omega
        clear hev hev2 hr hc
        have hx : ∀ j' v, (#[.int .i64 r.k, .int .u64 (wd r.s 0), .int .u64 (wd r.s 1), .int .u64 (wd r.s 2), .int .u64 (wd r.s 3)] : Array Value)[j']? = some v → (wr.alloc (boxR r)).drew.cell? ⟨wr.heap.size, j', none⟩ = some v := fun j' v hv => by
          show (wr.alloc (boxR r)).cell? ⟨wr.heap.size, j', none⟩ = some v
          rw [cell_of_row _ wr.heap.size j' _ _ _ (heap_alloc_new wr (boxR r))]; exact hv
        have x0 := hx 0 _ rfl
        have x1 := hx 1 _ rfl
        have x2 := hx 2 _ rfl
        have x3 := hx 3 _ rfl
        have x4 := hx 4 _ rfl
        have hwx : Below wr.heap.size wr (wr.alloc (boxR r)).drew := (Below.alloc (Below.refl wr.heap.size wr) (Nat.le_refl _) (boxR r)).drew
        have HWX := Lib.hid hwx
        have HIX : Hid (MX B0 (wr.alloc (boxR r)).drew M []) := Lib.hid (hov.mx.below hwx)
        have HKX : Hid (KeepsR B0 wr (wr.alloc (boxR r)).drew) := Lib.hid (hov.mx.onto hwx)
        have HBX : Hid (Held B0 (wr.alloc (boxR r)).drew wr.heap.size (boxR r)) := Lib.hid ⟨hov.mx.free hwx (Nat.le_refl _) (by simp), heap_alloc_new wr (boxR r)⟩
        have HRS : Hid ((wr.alloc (boxR r)).heap.size = wr.heap.size + 1) := Lib.hid (by simp)
        have hown := hov.own
        have HOW := Lib.hid hown
        clear hown hwx hov
        unfold boxR at x0 x1 x2 x3 x4
        clear hx
        obtain ⟨st0, hst⟩ : ∃ x, es.reverse = x := ⟨_, rfl⟩
        rw [hst] at hstep
        rcases own_two HOW.out with ⟨rfl, hl0⟩ | ⟨gs, cap, rfl, hcap, hcm⟩
        · cases hstep with
          | set S st =>
            have he0 : es = [] := List.length_eq_zero_iff.1 hl0
            subst he0
            subst hst
            have HRV : Hid (([] : List RxT).reverse = []) := Lib.hid rfl
            have HST : Hid (([] : List RxT).reverse = []) := Lib.hid rfl
            obtain ⟨PS9, hPS9⟩ : ∃ x, ptsL [] (szL ([] : List RxT)) = x := ⟨_, rfl⟩
            obtain ⟨M9, hM9⟩ : ∃ x, stepM M 1 S PS9 = x := ⟨_, rfl⟩
            obtain ⟨N9, hN9⟩ : ∃ x, M.fr.length = x := ⟨_, rfl⟩
            have HOK0 : Hid (MOK M (([] : List RxT) ++ [])) := Lib.hid (by have h9 := HOV.out.ok; simpa using h9)
            have HOK9 : Hid (MOK M9 (([] : List RxT) ++ [.set S])) := Lib.hid (by rw [← hM9, ← hPS9]; exact HOK0.out.set S)
            have HPT : Hid (ptsL [.set S] (0 + szL ([] : List RxT)) = [(⟨N9, N9 + 1⟩ : Pt)]) := Lib.hid (by
              have h9 := HOK0.out.len
              rw [szL_app] at h9
              rw [Nat.zero_add, ptsL_one, ← hN9, h9]
              simp only [ptT, inS, outS, szL, sz_set]
              all_goals (congr 2 <;> omega))
            have hpl : PS9.length = 0 := by rw [← hPS9, ptsL_len]; rfl
            have HSM9 : Hid (Small M9 (2 * (j + 1)) (8 * (j + 1))) := Lib.hid (by rw [← hM9]; have h9 := HOV.out.sm.step 1 S PS9 (by omega); rw [show 2 * (j + 1) = 2 * j + 2 by omega, show 8 * (j + 1) = 8 * j + 8 by omega]; exact h9)
            have HCL : Hid (∀ X A c, IM B0 M M9 false X → RowF B0 PS9 0 A X → Calls Try.prog 34 #[.pointer (some ⟨B0, 0, none⟩), .agg #[.int .i64 1, .int .u64 (wd S 0), .int .u64 (wd S 1), .int .u64 (wd S 2), .int .u64 (wd S 3)], .slice A 0 c] X fun e w' => GivM9 B0 M9 [] (.agg #[.int .i64 (N9 : Int), .int .i64 ((N9 + 1 : Nat) : Int)]) X e w') := Lib.hid fun X A c hX hR => by
              have h9 := step_any B0 X M hX 1 S PS9 A 0 c hR.1 hR.2 (by unfold StepK; omega) (fun p hp => by
                rw [← hPS9] at hp
                have h8 := ptsL_lt _ _ p hp
                have h7 := HOK0.out.len
                rw [szL_app] at h7
                omega) (by have := HOV.out.sm.1; omega) (fun l hl => Nat.le_trans (HOV.out.sm.2 l hl) (by omega))
              rw [hM9, hN9] at h9
              exact h9
            have HP0 : Hid (PS9 = []) := Lib.hid (by rw [← hPS9]; rfl)
            clear hPS9 hM9 hN9 hpl
            go_wp2_with fail
            refine wp_region_fam_tailS_lit (E := EM B0) (O := Onto) (I := IM B0 M M9) 6 8 1
              [isV (.func (.func 34) #[.pointer (some ⟨B0, 0, none⟩)] #[]),
               isV (.agg #[.int .i64 1, .int .u64 (wd S 0), .int .u64 (wd S 1), .int .u64 (wd S 2), .int .u64 (wd S 3)]),
               isV (.slice none 0 0),
               isV (.int .i64 (0 : Int)),
               rowVP B0 PS9 0,
               rowVP B0 PS9 0,
               isV (.agg #[.int .i64 (N9 : Int), .int .i64 ((N9 + 1 : Nat) : Int)]),
               newP B0 wr.heap.size]
              [some 36, some 37, some 38, some 39, some 40, some 41, some 42, some 12] #[true, true, true, true, true, true, true, true, false] (by kernel_rfl) rfl (by kernel_rfl) (by kernel_rfl) rfl rfl rfl (EM.trans (B := B0)) (EM.refl B0) IM.of (by decide) ?iz ?monoP ?obP ?qP
            case iz => exact HIX.out
            case monoP => exact ⟨isV_mono _ _, isV_mono _ _, isV_mono _ _, isV_mono _ _, rowVP_mono _ _ _, rowVP_mono _ _ _, isV_mono _ _, newP_mono _ _, trivial⟩
            case obP =>
              refine ObsS.cons (j := 1) rfl (by decide) ?_ ?_
              · refine ObS.free [(1, none)] (by kernel_rfl) (isV (.func (.func 34) #[.pointer (some ⟨B0, 0, none⟩)] #[])) rfl rfl (fun a X hE hL => ?_)
                simp [Seen, slotAt] at hL
                have h1 := hL
                rw [relAt_eq]
                go_simp
                exact ⟨Onto.refl _, rfl⟩
              refine ObsS.cons (j := 2) rfl (by decide) ?_ ?_
              · refine ObS.free [(9, none)] (by kernel_rfl) (isV (.agg #[.int .i64 1, .int .u64 (wd S 0), .int .u64 (wd S 1), .int .u64 (wd S 2), .int .u64 (wd S 3)])) rfl rfl (fun a X hE hL => ?_)
                simp [Seen, slotAt] at hL
                have h9 := hL
                rw [relAt_eq]
                have hbx9 := (HBX.out.keeps hE.1.1).2
                unfold boxR at hbx9
                have f0 := (cell_of_row X wr.heap.size 0 _ _ _ hbx9).trans rfl
                have f1 := (cell_of_row X wr.heap.size 1 _ _ _ hbx9).trans rfl
                have f2 := (cell_of_row X wr.heap.size 2 _ _ _ hbx9).trans rfl
                have f3 := (cell_of_row X wr.heap.size 3 _ _ _ hbx9).trans rfl
                have f4 := (cell_of_row X wr.heap.size 4 _ _ _ hbx9).trans rfl
                go_simp
                exact ⟨Onto.refl _, rfl⟩
              refine ObsS.cons (j := 3) rfl (by decide) ?_ ?_
              · refine ObS.free [(7, none)] (by kernel_rfl) (isV (.slice none 0 0)) rfl rfl (fun a X hE hL => ?_)
                simp [Seen, slotAt] at hL
                have h7 := hL
                rw [relAt_eq]
                go_simp
                exact ⟨Onto.refl _, rfl⟩
              refine ObsS.cons (j := 4) rfl (by decide) ?_ ?_
              · refine ObS.free [(11, none)] (by kernel_rfl) (isV (.int .i64 (0 : Int))) rfl rfl (fun a X hE hL => ?_)
                simp [Seen, slotAt] at hL
                have h11 := hL
                rw [relAt_eq]
                go_simp
                exact ⟨Onto.refl _, rfl⟩
              refine ObsS.cons (j := 5) rfl (by decide) ?_ ?_
              · refine ObS.free [(38, some 2), (39, some 3)] (by kernel_rfl) (rowVP B0 PS9 0) rfl rfl (fun a X hE hL => ?_)
                simp [Seen, slotAt, famV, isV] at hL
                obtain ⟨h38, h39⟩ := hL
                rw [relAt_eq]
                go_simp
                exact ⟨Onto.refl _, _, _, rfl, by rw [HP0.out]; exact RowF.nil _ _⟩
              refine ObsS.cons (j := 6) rfl (by decide) ?_ ?_
              · refine ObS.free [(40, some 4)] (by kernel_rfl) (rowVP B0 PS9 0) rfl rfl (fun a X hE hL => ?_)
                simp [Seen, slotAt, famV] at hL
                have h40 := hL
                rw [relAt_eq]
                obtain ⟨A9, c9, e9, r9⟩ := h40
                go_simp
                rw [relUpon_enter]
                go_at_call 51
                refine (cloneP_any X A9 0 c9 _ r9.1 (by omega)).mono ?_
                rintro e Y ⟨A2, c2, rfl, hr2, hY, hf2⟩
                refine ⟨_, rfl, hY, A2, c2, rfl, hr2, fun b off e ha => ?_⟩
                obtain ⟨q1, q2⟩ := hf2 b off e ha
                obtain ⟨b9, hb9⟩ := hE.2
                exact MX.free hb9 hY q1 q2
              refine ObsS.here (j := 7) rfl rfl rfl ?_ ?_
              · refine ObS.free [(36, some 0), (37, some 1), (41, some 5)] (by kernel_rfl) (isV (.agg #[.int .i64 (N9 : Int), .int .i64 ((N9 + 1 : Nat) : Int)])) rfl rfl (fun a X hE hL => ?_)
                simp [Seen, slotAt, famV, isV] at hL
                obtain ⟨h36, h37, h41⟩ := hL
                rw [relAt_eq]
                obtain ⟨A9, c9, e9, r9⟩ := h41
                go_simp
                rw [relUpon_enter]
                go_at_call 34
                refine (HCL.out X A9 c9 hE.2 r9).mono ?_
                rintro e Y ⟨rfl, hY1, hY2, hY3⟩
                exact ⟨_, rfl, ⟨⟨hY3, hY2⟩, hY1⟩, rfl⟩
              refine ObsS.cons (j := 8) rfl (by decide) ?_ ?_
              · refine ObS.free [] (by kernel_rfl) (newP B0 wr.heap.size) rfl rfl (fun a X hE hL => ?_)
                rw [relAt_eq]
                go_simp
                exact ⟨(Below.refl _ _).alloc (Nat.le_refl _) _, X.heap.size, rfl, by have h9 := hE.1.1.1; simp at h9; omega, IM.free hE.2 ((Below.refl _ _).alloc (Nat.le_refl _) ZP) (Nat.le_refl _) (heap_alloc_new X ZP)⟩
              exact trivial
            case qP =>
              intro x wA hE hI hV
              simp [AllV, famV, isV] at hV
              obtain ⟨-, -, -, -, -, -, h42, h12⟩ := hV
              simp only [puts, Act.put, List.setIfInBounds_toArray, List.set_cons_zero, List.set_cons_succ, h42]
              generalize x 36 = y36
              generalize x 37 = y37
              generalize x 38 = y38
              generalize x 39 = y39
              generalize x 40 = y40
              generalize x 41 = y41
              generalize x 12 = y12 at h12 ⊢
              clear h42
              obtain ⟨k, rfl, hgk, hk⟩ := h12
              have HK := Lib.hid hk
              have HTA : Hid (KeepsR B0 wr wA ∧ Below B0 wr wA) := Lib.hid ⟨HKX.out.trans hE.1, (HWX.out.mono (by have := HM1.out.le; have := HGL.out; omega)).trans hE.2⟩
              have HMA : Hid (MX B0 wA M9 []) := Lib.hid hI
              clear hE hI hk
              refine wpAny_ready (rs := [8]) (by kernel_rfl) (by simp) ?_
              refine AllReady.cons rfl (fun K hK => ?_) AllReady.nil
              rw [if_pos (by rfl)]
              refine wp_store_pt _ _ rfl k 0 0 N9 (N9 + 1) rfl rfl HK.out.2 ?_
              intro wB hK2 hBB hO hS
              have HK2 := Lib.hid hK2
              have HMB := Lib.hid (HMA.out.kept HK.out.1 hO hS)
              have hown9 := fun k hk => (MX.kept_own HMA.out HK.out.1 hO hS k).1 hk
              have HFB : Hid (∀ q, (Value.slice none 0 0).ownBlock = some q → FreeB B0 wB q) := Lib.hid fun q hq => by cases hq
              have HKB : Hid (KeepsR B0 w1 wB) := Lib.hid ⟨by rw [hS]; exact Nat.le_trans HKR.out.1 HTA.out.1.1, fun q hq hx hno => by
                  obtain ⟨e, n9⟩ := (HKR.out.trans HTA.out.1).2 q hq hx hno
                  exact ⟨(hO q (by have := HGL.out; omega)).trans e, fun ho => n9 (hown9 q ho)⟩⟩
              have HBB : Hid (Below B0 w1 wB) := Lib.hid (HOV.out.bw.trans (HTA.out.2.trans (hBB B0 (by have := HMA.out.le; have := HIX.out.le; have := HRS.out; have := HM1.out.le; have := HGL.out; omega))))
              have HPR : Hid (wB.ownsRow w1.heap.size 52 2 (.slice none 0 0) 0 ([])) := Lib.hid (own_new _ _ _ _)
              clear hK2 hBB hO hS HK hown9
              refine hK _ _ ?_
              clear hK K
              try simp only [Act.put, List.getElem_toArray, List.getElem_cons_succ, List.getElem_cons_zero, List.setIfInBounds_toArray, List.set_cons_zero, List.set_cons_succ]
              refine wpAny_done (by kernel_rfl) ?_ _
              go_wp2_with fail
              refine wp_region_fam_tail_lit (E := Onto) 5 2
                [isV (.slice none 0 0),
                 isV (.int .i64 (0 : Int)),
                 isV (.slice none 0 0),
                 isV (.agg #[.int .i64 (N9 : Int), .int .i64 ((N9 + 1 : Nat) : Int)]),
                 newB8 #[.int .i64 (N9 : Int), .int .i64 ((N9 + 1 : Nat) : Int)]]
                [some 43, some 44, some 45, some 46, some 47] #[true, true, true, true, true, false, false] (by kernel_rfl) rfl (by kernel_rfl) (by kernel_rfl) rfl rfl rfl Onto.trans Onto.refl ?monoQ ?obQ ?qQ
              case monoQ => exact ⟨isV_mono _ _, isV_mono _ _, isV_mono _ _, isV_mono _ _, newB8_mono _, trivial⟩
              case obQ =>
                refine Obs.cons (j := 1) rfl ?_ ?_
                · refine Ob.free [(7, none)] (by kernel_rfl) (isV (.slice none 0 0)) rfl rfl (fun a X hE hL => ?_)
                  simp [Seen, slotAt] at hL
                  have h7 := hL
                  rw [relAt_eq]
                  go_simp
                  exact ⟨Onto.refl _, rfl⟩
                refine Obs.cons (j := 2) rfl ?_ ?_
                · refine Ob.free [(11, none)] (by kernel_rfl) (isV (.int .i64 (0 : Int))) rfl rfl (fun a X hE hL => ?_)
                  simp [Seen, slotAt] at hL
                  have h11 := hL
                  rw [relAt_eq]
                  go_simp
                  exact ⟨Onto.refl _, rfl⟩
                refine Obs.cons (j := 3) rfl ?_ ?_
                · refine Ob.free [(43, some 0), (44, some 1)] (by kernel_rfl) (isV (.slice none 0 0)) rfl rfl (fun a X hE hL => ?_)
                  simp [Seen, slotAt, famV, isV] at hL
                  obtain ⟨h43, h44⟩ := hL
                  rw [relAt_eq]
                  go_simp
                  exact ⟨Onto.refl _, rfl⟩
                refine Obs.cons (j := 4) rfl ?_ ?_
                · refine Ob.free [(12, none)] (by kernel_rfl) (isV (.agg #[.int .i64 (N9 : Int), .int .i64 ((N9 + 1 : Nat) : Int)])) rfl rfl (fun a X hE hL => ?_)
                  simp [Seen, slotAt] at hL
                  have h12 := hL
                  rw [relAt_eq]
                  have hl9 := run_loadP0 X k N9 (N9 + 1) (PtAt.onto HK2.out (onto_drew hE))
                  go_simp
                  exact ⟨Onto.refl _, rfl⟩
                refine Obs.cons (j := 5) rfl ?_ ?_
                · refine Ob.free [(46, some 3)] (by kernel_rfl) (newB8 #[.int .i64 (N9 : Int), .int .i64 ((N9 + 1 : Nat) : Int)]) rfl rfl (fun a X hE hL => ?_)
                  simp [Seen, slotAt, famV, isV] at hL
                  have h46 := hL
                  rw [relAt_eq]
                  go_simp
                  refine ⟨(Below.refl _ _).alloc (Nat.le_refl _) _, X.heap.size, rfl, ?_⟩
                  exact heap_alloc_new X _
                exact trivial
              case qQ =>
                intro x wC hE hV
                simp [AllV, famV, isV] at hV
                obtain ⟨-, -, h45, -, h47⟩ := hV
                simp only [puts, Act.put, List.setIfInBounds_toArray, List.set_cons_zero, List.set_cons_succ, h45]
                generalize x 43 = y43
                generalize x 44 = y44
                generalize x 46 = y46
                generalize x 47 = y47 at h47 ⊢
                clear h45
                have hbC := onto_drew hE
                have HMC := Lib.hid (HMB.out.below hbC)
                have HKC := Lib.hid (HKB.out.trans (HMB.out.onto hbC))
                have HBC := Lib.hid (HBB.out.trans (hbC.mono (by have := HMB.out.le; omega)))
                have HOC := Lib.hid (ownB HPR.out hbC)
                have HFC : Hid (∀ k, (Value.slice none 0 0).ownBlock = some k → FreeB B0 wC k) := Lib.hid fun k hk => ((HFB.out k hk).keeps (HMB.out.onto hbC)).1
                have hgC : w1.heap.size ≤ wC.heap.size := HKC.out.1
                obtain ⟨gn, rfl, hgn⟩ := h47
                clear hE hbC
                refine wpAny_ready (rs := [5]) (by kernel_rfl) (by simp) ?_
                refine AllReady.cons rfl (fun K hK => ?_) AllReady.nil
                rw [if_pos (by rfl)]
                refine wp_app_el (C := ptC) (n := 0) (xs := ([] : List Pt)) (v := .slice none 0 0) (t := 76) (by decide) ptC_len ptC_one Try.underlying76 infoPt rfl _ _ _ rfl rfl HOC.out (⟨N9, N9 + 1⟩ : Pt) rfl hgn (by unfold maxLen; omega) (by omega) hgC ?_
                intro gg cc w6 hown6 hgrow6 hat6
                have HO6 := Lib.hid hown6
                obtain ⟨hm6, hk6, hb6, hf6⟩ := HMC.out.grown HKC.out (by have := HM1.out.le; omega) HBC.out hgrow6 (fun q hq => ⟨HFC.out q hq, (own_ge HOC.out hq).1⟩)
                have HM6 := Lib.hid hm6
                have HK6 := Lib.hid hk6
                have HB6 := Lib.hid hb6
                have HF6 : Hid (∀ q, (Value.slice (some ⟨gg, 0, none⟩) (0 + 1) cc).ownBlock = some q → FreeB B0 w6 q) := Lib.hid fun q hq => by
                    have h9 := own_ge hown6 hq
                    injection hq with hq
                    subst hq
                    exact hf6 _ h9.2 hat6
                clear hown6 hgrow6 hat6 hm6 hk6 hb6 hf6
                refine hK _ _ ?_
                clear hK K
                try simp only [Act.put, List.getElem_toArray, List.getElem_cons_succ, List.getElem_cons_zero, List.setIfInBounds_toArray, List.set_cons_zero, List.set_cons_succ]
                refine wpAny_take (i := 6) (v := .slice (some ⟨gg, 0, none⟩) (0 + 1) cc) rfl (by kernel_rfl) (by kernel_rfl) (by kernel_rfl) (fun _ _ _ h => h) (Or.inl ⟨by rfl, fun X => ?_⟩) ?_
                · go_simp
                try simp only [Act.put, List.getElem_toArray, List.getElem_cons_succ, List.getElem_cons_zero, List.setIfInBounds_toArray, List.set_cons_zero, List.set_cons_succ]
                refine wpAny_done (by kernel_rfl) ?_ _
                go_wp2
                go_roundw
                case rel => exact ⟨j + 1, [] ++ [.set S], M9, by omega, by go_num, by rw [List.reverse_append]; show evT _ (.set S :: [].reverse) = _; first | exact HEV2.out | (rw [HRV.out]; exact HEV2.out), by have h9 := sumP_step HSTEP.out; rw [List.reverse_append]; show sumP (.set S :: [].reverse) = _; rw [HSUM.out] at h9; first | exact h9 | (rw [HRV.out]; exact h9), ⟨by have h9 := HO6.out; rw [List.length_append, List.length_singleton, ptsL_app, HPT.out]; exact h9, HF6.out, HM6.out, HOK9.out, HSM9.out, HK6.out, HB6.out⟩⟩
                case measure => simp [intOf]; omega
          | empty S st =>
            have he0 : es = [] := List.length_eq_zero_iff.1 hl0
            subst he0
            subst hst
            have HRV : Hid (([] : List RxT).reverse = []) := Lib.hid rfl
            have HST : Hid (([] : List RxT).reverse = []) := Lib.hid rfl
            obtain ⟨PS9, hPS9⟩ : ∃ x, ptsL [] (szL ([] : List RxT)) = x := ⟨_, rfl⟩
            obtain ⟨M9, hM9⟩ : ∃ x, stepM M 2 S PS9 = x := ⟨_, rfl⟩
            obtain ⟨N9, hN9⟩ : ∃ x, M.fr.length = x := ⟨_, rfl⟩
            have HOK0 : Hid (MOK M (([] : List RxT) ++ [])) := Lib.hid (by have h9 := HOV.out.ok; simpa using h9)
            have HOK9 : Hid (MOK M9 (([] : List RxT) ++ [.empty])) := Lib.hid (by rw [← hM9, ← hPS9]; exact HOK0.out.empty S)
            have HPT : Hid (ptsL [.empty] (0 + szL ([] : List RxT)) = [(⟨N9, N9 + 1⟩ : Pt)]) := Lib.hid (by
              have h9 := HOK0.out.len
              rw [szL_app] at h9
              rw [Nat.zero_add, ptsL_one, ← hN9, h9]
              simp only [ptT, inS, outS, szL, sz_empty]
              all_goals (congr 2 <;> omega))
            have hpl : PS9.length = 0 := by rw [← hPS9, ptsL_len]; rfl
            have HSM9 : Hid (Small M9 (2 * (j + 1)) (8 * (j + 1))) := Lib.hid (by rw [← hM9]; have h9 := HOV.out.sm.step 2 S PS9 (by omega); rw [show 2 * (j + 1) = 2 * j + 2 by omega, show 8 * (j + 1) = 8 * j + 8 by omega]; exact h9)
            have HCL : Hid (∀ X A c, IM B0 M M9 false X → RowF B0 PS9 0 A X → Calls Try.prog 34 #[.pointer (some ⟨B0, 0, none⟩), .agg #[.int .i64 2, .int .u64 (wd S 0), .int .u64 (wd S 1), .int .u64 (wd S 2), .int .u64 (wd S 3)], .slice A 0 c] X fun e w' => GivM9 B0 M9 [] (.agg #[.int .i64 (N9 : Int), .int .i64 ((N9 + 1 : Nat) : Int)]) X e w') := Lib.hid fun X A c hX hR => by
              have h9 := step_any B0 X M hX 2 S PS9 A 0 c hR.1 hR.2 (by unfold StepK; omega) (fun p hp => by
                rw [← hPS9] at hp
                have h8 := ptsL_lt _ _ p hp
                have h7 := HOK0.out.len
                rw [szL_app] at h7
                omega) (by have := HOV.out.sm.1; omega) (fun l hl => Nat.le_trans (HOV.out.sm.2 l hl) (by omega))
              rw [hM9, hN9] at h9
              exact h9
            have HP0 : Hid (PS9 = []) := Lib.hid (by rw [← hPS9]; rfl)
            clear hPS9 hM9 hN9 hpl
            go_wp2_with fail
            refine wp_region_fam_tailS_lit (E := EM B0) (O := Onto) (I := IM B0 M M9) 6 8 1
              [isV (.func (.func 34) #[.pointer (some ⟨B0, 0, none⟩)] #[]),
               isV (.agg #[.int .i64 2, .int .u64 (wd S 0), .int .u64 (wd S 1), .int .u64 (wd S 2), .int .u64 (wd S 3)]),
               isV (.slice none 0 0),
               isV (.int .i64 (0 : Int)),
               rowVP B0 PS9 0,
               rowVP B0 PS9 0,
               isV (.agg #[.int .i64 (N9 : Int), .int .i64 ((N9 + 1 : Nat) : Int)]),
               newP B0 wr.heap.size]
              [some 36, some 37, some 38, some 39, some 40, some 41, some 42, some 12] #[true, true, true, true, true, true, true, true, false] (by kernel_rfl) rfl (by kernel_rfl) (by kernel_rfl) rfl rfl rfl (EM.trans (B := B0)) (EM.refl B0) IM.of (by decide) ?iz ?monoP ?obP ?qP
            case iz => exact HIX.out
            case monoP => exact ⟨isV_mono _ _, isV_mono _ _, isV_mono _ _, isV_mono _ _, rowVP_mono _ _ _, rowVP_mono _ _ _, isV_mono _ _, newP_mono _ _, trivial⟩
            case obP =>
              refine ObsS.cons (j := 1) rfl (by decide) ?_ ?_
              · refine ObS.free [(1, none)] (by kernel_rfl) (isV (.func (.func 34) #[.pointer (some ⟨B0, 0, none⟩)] #[])) rfl rfl (fun a X hE hL => ?_)
                simp [Seen, slotAt] at hL
                have h1 := hL
                rw [relAt_eq]
                go_simp
                exact ⟨Onto.refl _, rfl⟩
              refine ObsS.cons (j := 2) rfl (by decide) ?_ ?_
              · refine ObS.free [(9, none)] (by kernel_rfl) (isV (.agg #[.int .i64 2, .int .u64 (wd S 0), .int .u64 (wd S 1), .int .u64 (wd S 2), .int .u64 (wd S 3)])) rfl rfl (fun a X hE hL => ?_)
                simp [Seen, slotAt] at hL
                have h9 := hL
                rw [relAt_eq]
                have hbx9 := (HBX.out.keeps hE.1.1).2
                unfold boxR at hbx9
                have f0 := (cell_of_row X wr.heap.size 0 _ _ _ hbx9).trans rfl
                have f1 := (cell_of_row X wr.heap.size 1 _ _ _ hbx9).trans rfl
                have f2 := (cell_of_row X wr.heap.size 2 _ _ _ hbx9).trans rfl
                have f3 := (cell_of_row X wr.heap.size 3 _ _ _ hbx9).trans rfl
                have f4 := (cell_of_row X wr.heap.size 4 _ _ _ hbx9).trans rfl
                go_simp
                exact ⟨Onto.refl _, rfl⟩
              refine ObsS.cons (j := 3) rfl (by decide) ?_ ?_
              · refine ObS.free [(7, none)] (by kernel_rfl) (isV (.slice none 0 0)) rfl rfl (fun a X hE hL => ?_)
                simp [Seen, slotAt] at hL
                have h7 := hL
                rw [relAt_eq]
                go_simp
                exact ⟨Onto.refl _, rfl⟩
              refine ObsS.cons (j := 4) rfl (by decide) ?_ ?_
              · refine ObS.free [(11, none)] (by kernel_rfl) (isV (.int .i64 (0 : Int))) rfl rfl (fun a X hE hL => ?_)
                simp [Seen, slotAt] at hL
                have h11 := hL
                rw [relAt_eq]
                go_simp
                exact ⟨Onto.refl _, rfl⟩
              refine ObsS.cons (j := 5) rfl (by decide) ?_ ?_
              · refine ObS.free [(38, some 2), (39, some 3)] (by kernel_rfl) (rowVP B0 PS9 0) rfl rfl (fun a X hE hL => ?_)
                simp [Seen, slotAt, famV, isV] at hL
                obtain ⟨h38, h39⟩ := hL
                rw [relAt_eq]
                go_simp
                exact ⟨Onto.refl _, _, _, rfl, by rw [HP0.out]; exact RowF.nil _ _⟩
              refine ObsS.cons (j := 6) rfl (by decide) ?_ ?_
              · refine ObS.free [(40, some 4)] (by kernel_rfl) (rowVP B0 PS9 0) rfl rfl (fun a X hE hL => ?_)
                simp [Seen, slotAt, famV] at hL
                have h40 := hL
                rw [relAt_eq]
                obtain ⟨A9, c9, e9, r9⟩ := h40
                go_simp
                rw [relUpon_enter]
                go_at_call 51
                refine (cloneP_any X A9 0 c9 _ r9.1 (by omega)).mono ?_
                rintro e Y ⟨A2, c2, rfl, hr2, hY, hf2⟩
                refine ⟨_, rfl, hY, A2, c2, rfl, hr2, fun b off e ha => ?_⟩
                obtain ⟨q1, q2⟩ := hf2 b off e ha
                obtain ⟨b9, hb9⟩ := hE.2
                exact MX.free hb9 hY q1 q2
              refine ObsS.here (j := 7) rfl rfl rfl ?_ ?_
              · refine ObS.free [(36, some 0), (37, some 1), (41, some 5)] (by kernel_rfl) (isV (.agg #[.int .i64 (N9 : Int), .int .i64 ((N9 + 1 : Nat) : Int)])) rfl rfl (fun a X hE hL => ?_)
                simp [Seen, slotAt, famV, isV] at hL
                obtain ⟨h36, h37, h41⟩ := hL
                rw [relAt_eq]
                obtain ⟨A9, c9, e9, r9⟩ := h41
                go_simp
                rw [relUpon_enter]
                go_at_call 34
                refine (HCL.out X A9 c9 hE.2 r9).mono ?_
                rintro e Y ⟨rfl, hY1, hY2, hY3⟩
                exact ⟨_, rfl, ⟨⟨hY3, hY2⟩, hY1⟩, rfl⟩
              refine ObsS.cons (j := 8) rfl (by decide) ?_ ?_
              · refine ObS.free [] (by kernel_rfl) (newP B0 wr.heap.size) rfl rfl (fun a X hE hL => ?_)
                rw [relAt_eq]
                go_simp
                exact ⟨(Below.refl _ _).alloc (Nat.le_refl _) _, X.heap.size, rfl, by have h9 := hE.1.1.1; simp at h9; omega, IM.free hE.2 ((Below.refl _ _).alloc (Nat.le_refl _) ZP) (Nat.le_refl _) (heap_alloc_new X ZP)⟩
              exact trivial
            case qP =>
              intro x wA hE hI hV
              simp [AllV, famV, isV] at hV
              obtain ⟨-, -, -, -, -, -, h42, h12⟩ := hV
              simp only [puts, Act.put, List.setIfInBounds_toArray, List.set_cons_zero, List.set_cons_succ, h42]
              generalize x 36 = y36
              generalize x 37 = y37
              generalize x 38 = y38
              generalize x 39 = y39
              generalize x 40 = y40
              generalize x 41 = y41
              generalize x 12 = y12 at h12 ⊢
              clear h42
              obtain ⟨k, rfl, hgk, hk⟩ := h12
              have HK := Lib.hid hk
              have HTA : Hid (KeepsR B0 wr wA ∧ Below B0 wr wA) := Lib.hid ⟨HKX.out.trans hE.1, (HWX.out.mono (by have := HM1.out.le; have := HGL.out; omega)).trans hE.2⟩
              have HMA : Hid (MX B0 wA M9 []) := Lib.hid hI
              clear hE hI hk
              refine wpAny_ready (rs := [8]) (by kernel_rfl) (by simp) ?_
              refine AllReady.cons rfl (fun K hK => ?_) AllReady.nil
              rw [if_pos (by rfl)]
              refine wp_store_pt _ _ rfl k 0 0 N9 (N9 + 1) rfl rfl HK.out.2 ?_
              intro wB hK2 hBB hO hS
              have HK2 := Lib.hid hK2
              have HMB := Lib.hid (HMA.out.kept HK.out.1 hO hS)
              have hown9 := fun k hk => (MX.kept_own HMA.out HK.out.1 hO hS k).1 hk
              have HFB : Hid (∀ q, (Value.slice none 0 0).ownBlock = some q → FreeB B0 wB q) := Lib.hid fun q hq => by cases hq
              have HKB : Hid (KeepsR B0 w1 wB) := Lib.hid ⟨by rw [hS]; exact Nat.le_trans HKR.out.1 HTA.out.1.1, fun q hq hx hno => by
                  obtain ⟨e, n9⟩ := (HKR.out.trans HTA.out.1).2 q hq hx hno
                  exact ⟨(hO q (by have := HGL.out; omega)).trans e, fun ho => n9 (hown9 q ho)⟩⟩
              have HBB : Hid (Below B0 w1 wB) := Lib.hid (HOV.out.bw.trans (HTA.out.2.trans (hBB B0 (by have := HMA.out.le; have := HIX.out.le; have := HRS.out; have := HM1.out.le; have := HGL.out; omega))))
              have HPR : Hid (wB.ownsRow w1.heap.size 52 2 (.slice none 0 0) 0 ([])) := Lib.hid (own_new _ _ _ _)
              clear hK2 hBB hO hS HK hown9
              refine hK _ _ ?_
              clear hK K
              try simp only [Act.put, List.getElem_toArray, List.getElem_cons_succ, List.getElem_cons_zero, List.setIfInBounds_toArray, List.set_cons_zero, List.set_cons_succ]
              refine wpAny_done (by kernel_rfl) ?_ _
              go_wp2_with fail
              refine wp_region_fam_tail_lit (E := Onto) 5 2
                [isV (.slice none 0 0),
                 isV (.int .i64 (0 : Int)),
                 isV (.slice none 0 0),
                 isV (.agg #[.int .i64 (N9 : Int), .int .i64 ((N9 + 1 : Nat) : Int)]),
                 newB8 #[.int .i64 (N9 : Int), .int .i64 ((N9 + 1 : Nat) : Int)]]
                [some 43, some 44, some 45, some 46, some 47] #[true, true, true, true, true, false, false] (by kernel_rfl) rfl (by kernel_rfl) (by kernel_rfl) rfl rfl rfl Onto.trans Onto.refl ?monoQ ?obQ ?qQ
              case monoQ => exact ⟨isV_mono _ _, isV_mono _ _, isV_mono _ _, isV_mono _ _, newB8_mono _, trivial⟩
              case obQ =>
                refine Obs.cons (j := 1) rfl ?_ ?_
                · refine Ob.free [(7, none)] (by kernel_rfl) (isV (.slice none 0 0)) rfl rfl (fun a X hE hL => ?_)
                  simp [Seen, slotAt] at hL
                  have h7 := hL
                  rw [relAt_eq]
                  go_simp
                  exact ⟨Onto.refl _, rfl⟩
                refine Obs.cons (j := 2) rfl ?_ ?_
                · refine Ob.free [(11, none)] (by kernel_rfl) (isV (.int .i64 (0 : Int))) rfl rfl (fun a X hE hL => ?_)
                  simp [Seen, slotAt] at hL
                  have h11 := hL
                  rw [relAt_eq]
                  go_simp
                  exact ⟨Onto.refl _, rfl⟩
                refine Obs.cons (j := 3) rfl ?_ ?_
                · refine Ob.free [(43, some 0), (44, some 1)] (by kernel_rfl) (isV (.slice none 0 0)) rfl rfl (fun a X hE hL => ?_)
                  simp [Seen, slotAt, famV, isV] at hL
                  obtain ⟨h43, h44⟩ := hL
                  rw [relAt_eq]
                  go_simp
                  exact ⟨Onto.refl _, rfl⟩
                refine Obs.cons (j := 4) rfl ?_ ?_
                · refine Ob.free [(12, none)] (by kernel_rfl) (isV (.agg #[.int .i64 (N9 : Int), .int .i64 ((N9 + 1 : Nat) : Int)])) rfl rfl (fun a X hE hL => ?_)
                  simp [Seen, slotAt] at hL
                  have h12 := hL
                  rw [relAt_eq]
                  have hl9 := run_loadP0 X k N9 (N9 + 1) (PtAt.onto HK2.out (onto_drew hE))
                  go_simp
                  exact ⟨Onto.refl _, rfl⟩
                refine Obs.cons (j := 5) rfl ?_ ?_
                · refine Ob.free [(46, some 3)] (by kernel_rfl) (newB8 #[.int .i64 (N9 : Int), .int .i64 ((N9 + 1 : Nat) : Int)]) rfl rfl (fun a X hE hL => ?_)
                  simp [Seen, slotAt, famV, isV] at hL
                  have h46 := hL
                  rw [relAt_eq]
                  go_simp
                  refine ⟨(Below.refl _ _).alloc (Nat.le_refl _) _, X.heap.size, rfl, ?_⟩
                  exact heap_alloc_new X _
                exact trivial
              case qQ =>
                intro x wC hE hV
                simp [AllV, famV, isV] at hV
                obtain ⟨-, -, h45, -, h47⟩ := hV
                simp only [puts, Act.put, List.setIfInBounds_toArray, List.set_cons_zero, List.set_cons_succ, h45]
                generalize x 43 = y43
                generalize x 44 = y44
                generalize x 46 = y46
                generalize x 47 = y47 at h47 ⊢
                clear h45
                have hbC := onto_drew hE
                have HMC := Lib.hid (HMB.out.below hbC)
                have HKC := Lib.hid (HKB.out.trans (HMB.out.onto hbC))
                have HBC := Lib.hid (HBB.out.trans (hbC.mono (by have := HMB.out.le; omega)))
                have HOC := Lib.hid (ownB HPR.out hbC)
                have HFC : Hid (∀ k, (Value.slice none 0 0).ownBlock = some k → FreeB B0 wC k) := Lib.hid fun k hk => ((HFB.out k hk).keeps (HMB.out.onto hbC)).1
                have hgC : w1.heap.size ≤ wC.heap.size := HKC.out.1
                obtain ⟨gn, rfl, hgn⟩ := h47
                clear hE hbC
                refine wpAny_ready (rs := [5]) (by kernel_rfl) (by simp) ?_
                refine AllReady.cons rfl (fun K hK => ?_) AllReady.nil
                rw [if_pos (by rfl)]
                refine wp_app_el (C := ptC) (n := 0) (xs := ([] : List Pt)) (v := .slice none 0 0) (t := 76) (by decide) ptC_len ptC_one Try.underlying76 infoPt rfl _ _ _ rfl rfl HOC.out (⟨N9, N9 + 1⟩ : Pt) rfl hgn (by unfold maxLen; omega) (by omega) hgC ?_
                intro gg cc w6 hown6 hgrow6 hat6
                have HO6 := Lib.hid hown6
                obtain ⟨hm6, hk6, hb6, hf6⟩ := HMC.out.grown HKC.out (by have := HM1.out.le; omega) HBC.out hgrow6 (fun q hq => ⟨HFC.out q hq, (own_ge HOC.out hq).1⟩)
                have HM6 := Lib.hid hm6
                have HK6 := Lib.hid hk6
                have HB6 := Lib.hid hb6
                have HF6 : Hid (∀ q, (Value.slice (some ⟨gg, 0, none⟩) (0 + 1) cc).ownBlock = some q → FreeB B0 w6 q) := Lib.hid fun q hq => by
                    have h9 := own_ge hown6 hq
                    injection hq with hq
                    subst hq
                    exact hf6 _ h9.2 hat6
                clear hown6 hgrow6 hat6 hm6 hk6 hb6 hf6
                refine hK _ _ ?_
                clear hK K
                try simp only [Act.put, List.getElem_toArray, List.getElem_cons_succ, List.getElem_cons_zero, List.setIfInBounds_toArray, List.set_cons_zero, List.set_cons_succ]
                refine wpAny_take (i := 6) (v := .slice (some ⟨gg, 0, none⟩) (0 + 1) cc) rfl (by kernel_rfl) (by kernel_rfl) (by kernel_rfl) (fun _ _ _ h => h) (Or.inl ⟨by rfl, fun X => ?_⟩) ?_
                · go_simp
                try simp only [Act.put, List.getElem_toArray, List.getElem_cons_succ, List.getElem_cons_zero, List.setIfInBounds_toArray, List.set_cons_zero, List.set_cons_succ]
                refine wpAny_done (by kernel_rfl) ?_ _
                go_wp2
                go_roundw
                case rel => exact ⟨j + 1, [] ++ [.empty], M9, by omega, by go_num, by rw [List.reverse_append]; show evT _ (.empty :: [].reverse) = _; first | exact HEV2.out | (rw [HRV.out]; exact HEV2.out), by have h9 := sumP_step HSTEP.out; rw [List.reverse_append]; show sumP (.empty :: [].reverse) = _; rw [HSUM.out] at h9; first | exact h9 | (rw [HRV.out]; exact h9), ⟨by have h9 := HO6.out; rw [List.length_append, List.length_singleton, ptsL_app, HPT.out]; exact h9, HF6.out, HM6.out, HOK9.out, HSM9.out, HK6.out, HB6.out⟩⟩
                case measure => simp [intOf]; omega
          | cat S a' b' st =>
            obtain ⟨es0, rfl, _⟩ := rv_top hst
            simp at hl0
          | alt S a' b' st =>
            obtain ⟨es0, rfl, _⟩ := rv_top hst
            simp at hl0
          | star S a' st =>
            obtain ⟨es0, rfl, _⟩ := rv_top hst
            simp at hl0
          | plus S a' st =>
            obtain ⟨es0, rfl, _⟩ := rv_top hst
            simp at hl0
          | opt S a' st =>
            obtain ⟨es0, rfl, _⟩ := rv_top hst
            simp at hl0
        · have HROW := Lib.hid (HOV.out.crow rfl)
          cases hstep with
          | set S st =>
            obtain ⟨PS9, hPS9⟩ : ∃ x, ptsL [] (szL es) = x := ⟨_, rfl⟩
            obtain ⟨M9, hM9⟩ : ∃ x, stepM M 1 S PS9 = x := ⟨_, rfl⟩
            obtain ⟨N9, hN9⟩ : ∃ x, M.fr.length = x := ⟨_, rfl⟩
            have HOK0 : Hid (MOK M (es ++ [])) := Lib.hid (by have h9 := HOV.out.ok; simpa using h9)
            have HOK9 : Hid (MOK M9 (es ++ [.set S])) := Lib.hid (by rw [← hM9, ← hPS9]; exact HOK0.out.set S)
            have HPT : Hid (ptsL [.set S] (0 + szL es) = [(⟨N9, N9 + 1⟩ : Pt)]) := Lib.hid (by
              have h9 := HOK0.out.len
              rw [szL_app] at h9
              rw [Nat.zero_add, ptsL_one, ← hN9, h9]
              simp only [ptT, inS, outS, szL, sz_set]
              all_goals (congr 2 <;> omega))
            have hpl : PS9.length = 0 := by rw [← hPS9, ptsL_len]; rfl
            have HSM9 : Hid (Small M9 (2 * (j + 1)) (8 * (j + 1))) := Lib.hid (by rw [← hM9]; have h9 := HOV.out.sm.step 1 S PS9 (by omega); rw [show 2 * (j + 1) = 2 * j + 2 by omega, show 8 * (j + 1) = 8 * j + 8 by omega]; exact h9)
            have HCL : Hid (∀ X A c, IM B0 M M9 false X → RowF B0 PS9 0 A X → Calls Try.prog 34 #[.pointer (some ⟨B0, 0, none⟩), .agg #[.int .i64 1, .int .u64 (wd S 0), .int .u64 (wd S 1), .int .u64 (wd S 2), .int .u64 (wd S 3)], .slice A 0 c] X fun e w' => GivM9 B0 M9 [] (.agg #[.int .i64 (N9 : Int), .int .i64 ((N9 + 1 : Nat) : Int)]) X e w') := Lib.hid fun X A c hX hR => by
              have h9 := step_any B0 X M hX 1 S PS9 A 0 c hR.1 hR.2 (by unfold StepK; omega) (fun p hp => by
                rw [← hPS9] at hp
                have h8 := ptsL_lt _ _ p hp
                have h7 := HOK0.out.len
                rw [szL_app] at h7
                omega) (by have := HOV.out.sm.1; omega) (fun l hl => Nat.le_trans (HOV.out.sm.2 l hl) (by omega))
              rw [hM9, hN9] at h9
              exact h9
            have hP0 : PS9 = [] := by rw [← hPS9]; rfl
            have HP0 := Lib.hid hP0
            clear hPS9 hM9 hN9 hpl
            have hlen : es.length = es.length + 0 := rfl
            have HST := Lib.hid hst
            subst hst
            have HRV : Hid (es.reverse = es.reverse) := Lib.hid rfl
            obtain ⟨d, hd⟩ : ∃ d, es.length = d := ⟨_, rfl⟩
            have HD := Lib.hid hd
            have HDR : Hid ((ptsL es 0).drop d = PS9) := Lib.hid (by rw [hP0]; exact List.drop_of_length_le (by rw [ptsL_len, hd]; exact Nat.le_refl _))
            have HTK : Hid ((ptsL es 0).take d = ptsL es 0) := Lib.hid (List.take_of_length_le (by rw [ptsL_len, hd]; exact Nat.le_refl _))
            rw [hd] at hcap hsl HOW HROW HOV ⊢
            clear hd hlen
            have y0 : (d : Int) - 0 = (d : Int) := by omega
            clear hP0
            go_wp2_with fail
            refine wp_region_fam_tailS_lit (E := EM B0) (O := Onto) (I := IM B0 M M9) 6 8 1
              [isV (.func (.func 34) #[.pointer (some ⟨B0, 0, none⟩)] #[]),
               isV (.agg #[.int .i64 1, .int .u64 (wd S 0), .int .u64 (wd S 1), .int .u64 (wd S 2), .int .u64 (wd S 3)]),
               isV (.slice (some ⟨gs, 0, none⟩) (d) cap),
               isV (.int .i64 (d : Int)),
               rowVP B0 PS9 0,
               rowVP B0 PS9 0,
               isV (.agg #[.int .i64 (N9 : Int), .int .i64 ((N9 + 1 : Nat) : Int)]),
               newP B0 wr.heap.size]
              [some 36, some 37, some 38, some 39, some 40, some 41, some 42, some 12] #[true, true, true, true, true, true, true, true, false] (by kernel_rfl) rfl (by kernel_rfl) (by kernel_rfl) rfl rfl rfl (EM.trans (B := B0)) (EM.refl B0) IM.of (by decide) ?iz ?monoP ?obP ?qP
            case iz => exact HIX.out
            case monoP => exact ⟨isV_mono _ _, isV_mono _ _, isV_mono _ _, isV_mono _ _, rowVP_mono _ _ _, rowVP_mono _ _ _, isV_mono _ _, newP_mono _ _, trivial⟩
            case obP =>
              refine ObsS.cons (j := 1) rfl (by decide) ?_ ?_
              · refine ObS.free [(1, none)] (by kernel_rfl) (isV (.func (.func 34) #[.pointer (some ⟨B0, 0, none⟩)] #[])) rfl rfl (fun a X hE hL => ?_)
                simp [Seen, slotAt] at hL
                have h1 := hL
                rw [relAt_eq]
                go_simp
                exact ⟨Onto.refl _, rfl⟩
              refine ObsS.cons (j := 2) rfl (by decide) ?_ ?_
              · refine ObS.free [(9, none)] (by kernel_rfl) (isV (.agg #[.int .i64 1, .int .u64 (wd S 0), .int .u64 (wd S 1), .int .u64 (wd S 2), .int .u64 (wd S 3)])) rfl rfl (fun a X hE hL => ?_)
                simp [Seen, slotAt] at hL
                have h9 := hL
                rw [relAt_eq]
                have hbx9 := (HBX.out.keeps hE.1.1).2
                unfold boxR at hbx9
                have f0 := (cell_of_row X wr.heap.size 0 _ _ _ hbx9).trans rfl
                have f1 := (cell_of_row X wr.heap.size 1 _ _ _ hbx9).trans rfl
                have f2 := (cell_of_row X wr.heap.size 2 _ _ _ hbx9).trans rfl
                have f3 := (cell_of_row X wr.heap.size 3 _ _ _ hbx9).trans rfl
                have f4 := (cell_of_row X wr.heap.size 4 _ _ _ hbx9).trans rfl
                go_simp
                exact ⟨Onto.refl _, rfl⟩
              refine ObsS.cons (j := 3) rfl (by decide) ?_ ?_
              · refine ObS.free [(7, none)] (by kernel_rfl) (isV (.slice (some ⟨gs, 0, none⟩) (d) cap)) rfl rfl (fun a X hE hL => ?_)
                simp [Seen, slotAt] at hL
                have h7 := hL
                rw [relAt_eq]
                go_simp
                exact ⟨Onto.refl _, rfl⟩
              refine ObsS.cons (j := 4) rfl (by decide) ?_ ?_
              · refine ObS.free [(11, none)] (by kernel_rfl) (isV (.int .i64 (d : Int))) rfl rfl (fun a X hE hL => ?_)
                simp [Seen, slotAt] at hL
                have h11 := hL
                rw [relAt_eq]
                go_simp
                exact ⟨Onto.refl _, rfl⟩
              refine ObsS.cons (j := 5) rfl (by decide) ?_ ?_
              · refine ObS.free [(38, some 2), (39, some 3)] (by kernel_rfl) (rowVP B0 PS9 0) rfl rfl (fun a X hE hL => ?_)
                simp [Seen, slotAt, famV, isV] at hL
                obtain ⟨h38, h39⟩ := hL
                rw [relAt_eq]
                go_simp
                refine ⟨Onto.refl _, _, _, rfl, ?_⟩
                by_cases hcd : cap = d
                · rw [if_pos hcd]
                  have h9 := HROW.out.keeps (HKX.out.trans hE.1.1)
                  exact ⟨crow_nil' _ _ HP0.out, fun b off e ha => by simp only [Option.some.injEq, Addr.mk.injEq] at ha; obtain ⟨rfl, _, _⟩ := ha; exact h9.2 _ _ _ rfl⟩
                · rw [if_neg hcd]
                  have h9 := HROW.out.keeps (HKX.out.trans hE.1.1)
                  refine ⟨?_, fun b off e ha => by simp only [Option.some.injEq, Addr.mk.injEq] at ha; obtain ⟨rfl, _, _⟩ := ha; exact h9.2 _ _ _ rfl⟩
                  have h8 := crow_dropd (d := d) h9.1
                  rw [Nat.zero_add, HDR.out] at h8
                  simpa using h8
              refine ObsS.cons (j := 6) rfl (by decide) ?_ ?_
              · refine ObS.free [(40, some 4)] (by kernel_rfl) (rowVP B0 PS9 0) rfl rfl (fun a X hE hL => ?_)
                simp [Seen, slotAt, famV] at hL
                have h40 := hL
                rw [relAt_eq]
                obtain ⟨A9, c9, e9, r9⟩ := h40
                go_simp
                rw [relUpon_enter]
                go_at_call 51
                refine (cloneP_any X A9 0 c9 _ r9.1 (by omega)).mono ?_
                rintro e Y ⟨A2, c2, rfl, hr2, hY, hf2⟩
                refine ⟨_, rfl, hY, A2, c2, rfl, hr2, fun b off e ha => ?_⟩
                obtain ⟨q1, q2⟩ := hf2 b off e ha
                obtain ⟨b9, hb9⟩ := hE.2
                exact MX.free hb9 hY q1 q2
              refine ObsS.here (j := 7) rfl rfl rfl ?_ ?_
              · refine ObS.free [(36, some 0), (37, some 1), (41, some 5)] (by kernel_rfl) (isV (.agg #[.int .i64 (N9 : Int), .int .i64 ((N9 + 1 : Nat) : Int)])) rfl rfl (fun a X hE hL => ?_)
                simp [Seen, slotAt, famV, isV] at hL
                obtain ⟨h36, h37, h41⟩ := hL
                rw [relAt_eq]
                obtain ⟨A9, c9, e9, r9⟩ := h41
                go_simp
                rw [relUpon_enter]
                go_at_call 34
                refine (HCL.out X A9 c9 hE.2 r9).mono ?_
                rintro e Y ⟨rfl, hY1, hY2, hY3⟩
                exact ⟨_, rfl, ⟨⟨hY3, hY2⟩, hY1⟩, rfl⟩
              refine ObsS.cons (j := 8) rfl (by decide) ?_ ?_
              · refine ObS.free [] (by kernel_rfl) (newP B0 wr.heap.size) rfl rfl (fun a X hE hL => ?_)
                rw [relAt_eq]
                go_simp
                exact ⟨(Below.refl _ _).alloc (Nat.le_refl _) _, X.heap.size, rfl, by have h9 := hE.1.1.1; simp at h9; omega, IM.free hE.2 ((Below.refl _ _).alloc (Nat.le_refl _) ZP) (Nat.le_refl _) (heap_alloc_new X ZP)⟩
              exact trivial
            case qP =>
              intro x wA hE hI hV
              simp [AllV, famV, isV] at hV
              obtain ⟨-, -, -, -, -, -, h42, h12⟩ := hV
              simp only [puts, Act.put, List.setIfInBounds_toArray, List.set_cons_zero, List.set_cons_succ, h42]
              generalize x 36 = y36
              generalize x 37 = y37
              generalize x 38 = y38
              generalize x 39 = y39
              generalize x 40 = y40
              generalize x 41 = y41
              generalize x 12 = y12 at h12 ⊢
              clear h42
              obtain ⟨k, rfl, hgk, hk⟩ := h12
              have HK := Lib.hid hk
              have HTA : Hid (KeepsR B0 wr wA ∧ Below B0 wr wA) := Lib.hid ⟨HKX.out.trans hE.1, (HWX.out.mono (by have := HM1.out.le; have := HGL.out; omega)).trans hE.2⟩
              have HMA : Hid (MX B0 wA M9 []) := Lib.hid hI
              clear hE hI hk
              refine wpAny_ready (rs := [8]) (by kernel_rfl) (by simp) ?_
              refine AllReady.cons rfl (fun K hK => ?_) AllReady.nil
              rw [if_pos (by rfl)]
              refine wp_store_pt _ _ rfl k 0 0 N9 (N9 + 1) rfl rfl HK.out.2 ?_
              intro wB hK2 hBB hO hS
              have HK2 := Lib.hid hK2
              have HMB := Lib.hid (HMA.out.kept HK.out.1 hO hS)
              have hown9 := fun k hk => (MX.kept_own HMA.out HK.out.1 hO hS k).1 hk
              have hfq := (HOV.out.free gs rfl).keeps HTA.out.1
              have hkg : gs ≠ k := by have := (HOV.out.free gs rfl).1; omega
              have hq9 : ∀ q, (Value.slice (some ⟨gs, 0, none⟩) (d) cap).ownBlock = some q → wB.heap[q]? = wr.heap[q]? := fun q hq => by
                  injection hq with hq
                  subst hq
                  exact (hO gs hkg).trans hfq.2
              have HFB : Hid (∀ q, (Value.slice (some ⟨gs, 0, none⟩) d cap).ownBlock = some q → FreeB B0 wB q) := Lib.hid fun q hq => by
                  injection hq with hq
                  subst hq
                  exact ⟨by rw [hS]; exact hfq.1.1, hfq.1.2.1, fun ho => hfq.1.2.2 (hown9 _ ho)⟩
              have HKB : Hid (KeepsR B0 w1 wB) := Lib.hid ⟨by rw [hS]; exact Nat.le_trans HKR.out.1 HTA.out.1.1, fun q hq hx hno => by
                  obtain ⟨e, n9⟩ := (HKR.out.trans HTA.out.1).2 q hq hx hno
                  exact ⟨(hO q (by have := HGL.out; omega)).trans e, fun ho => n9 (hown9 q ho)⟩⟩
              have HBB : Hid (Below B0 w1 wB) := Lib.hid (HOV.out.bw.trans (HTA.out.2.trans (hBB B0 (by have := HMA.out.le; have := HIX.out.le; have := HRS.out; have := HM1.out.le; have := HGL.out; omega))))
              have HPR : Hid (wB.ownsRow w1.heap.size 52 2 (.slice (some ⟨gs, 0, none⟩) d cap) d ((ptsL es 0).flatMap ptC)) := Lib.hid (by have h9 := own_prefix (d := d) (own_kept HOW.out hq9) (by omega) (by simp); rw [flat_take_c ptC_len, HTK.out] at h9; exact h9)
              clear hK2 hBB hO hS HK hown9 hfq hq9 hkg
              refine hK _ _ ?_
              clear hK K
              try simp only [Act.put, List.getElem_toArray, List.getElem_cons_succ, List.getElem_cons_zero, List.setIfInBounds_toArray, List.set_cons_zero, List.set_cons_succ]
              refine wpAny_done (by kernel_rfl) ?_ _
              go_wp2_with fail
              refine wp_region_fam_tail_lit (E := Onto) 5 2
                [isV (.slice (some ⟨gs, 0, none⟩) (d) cap),
                 isV (.int .i64 (d : Int)),
                 isV (.slice (some ⟨gs, 0, none⟩) d cap),
                 isV (.agg #[.int .i64 (N9 : Int), .int .i64 ((N9 + 1 : Nat) : Int)]),
                 newB8 #[.int .i64 (N9 : Int), .int .i64 ((N9 + 1 : Nat) : Int)]]
                [some 43, some 44, some 45, some 46, some 47] #[true, true, true, true, true, false, false] (by kernel_rfl) rfl (by kernel_rfl) (by kernel_rfl) rfl rfl rfl Onto.trans Onto.refl ?monoQ ?obQ ?qQ
              case monoQ => exact ⟨isV_mono _ _, isV_mono _ _, isV_mono _ _, isV_mono _ _, newB8_mono _, trivial⟩
              case obQ =>
                refine Obs.cons (j := 1) rfl ?_ ?_
                · refine Ob.free [(7, none)] (by kernel_rfl) (isV (.slice (some ⟨gs, 0, none⟩) (d) cap)) rfl rfl (fun a X hE hL => ?_)
                  simp [Seen, slotAt] at hL
                  have h7 := hL
                  rw [relAt_eq]
                  go_simp
                  exact ⟨Onto.refl _, rfl⟩
                refine Obs.cons (j := 2) rfl ?_ ?_
                · refine Ob.free [(11, none)] (by kernel_rfl) (isV (.int .i64 (d : Int))) rfl rfl (fun a X hE hL => ?_)
                  simp [Seen, slotAt] at hL
                  have h11 := hL
                  rw [relAt_eq]
                  go_simp
                  exact ⟨Onto.refl _, rfl⟩
                refine Obs.cons (j := 3) rfl ?_ ?_
                · refine Ob.free [(43, some 0), (44, some 1)] (by kernel_rfl) (isV (.slice (some ⟨gs, 0, none⟩) d cap)) rfl rfl (fun a X hE hL => ?_)
                  simp [Seen, slotAt, famV, isV] at hL
                  obtain ⟨h43, h44⟩ := hL
                  rw [relAt_eq]
                  go_simp
                  exact ⟨Onto.refl _, rfl⟩
                refine Obs.cons (j := 4) rfl ?_ ?_
                · refine Ob.free [(12, none)] (by kernel_rfl) (isV (.agg #[.int .i64 (N9 : Int), .int .i64 ((N9 + 1 : Nat) : Int)])) rfl rfl (fun a X hE hL => ?_)
                  simp [Seen, slotAt] at hL
                  have h12 := hL
                  rw [relAt_eq]
                  have hl9 := run_loadP0 X k N9 (N9 + 1) (PtAt.onto HK2.out (onto_drew hE))
                  go_simp
                  exact ⟨Onto.refl _, rfl⟩
                refine Obs.cons (j := 5) rfl ?_ ?_
                · refine Ob.free [(46, some 3)] (by kernel_rfl) (newB8 #[.int .i64 (N9 : Int), .int .i64 ((N9 + 1 : Nat) : Int)]) rfl rfl (fun a X hE hL => ?_)
                  simp [Seen, slotAt, famV, isV] at hL
                  have h46 := hL
                  rw [relAt_eq]
                  go_simp
                  refine ⟨(Below.refl _ _).alloc (Nat.le_refl _) _, X.heap.size, rfl, ?_⟩
                  exact heap_alloc_new X _
                exact trivial
              case qQ =>
                intro x wC hE hV
                simp [AllV, famV, isV] at hV
                obtain ⟨-, -, h45, -, h47⟩ := hV
                simp only [puts, Act.put, List.setIfInBounds_toArray, List.set_cons_zero, List.set_cons_succ, h45]
                generalize x 43 = y43
                generalize x 44 = y44
                generalize x 46 = y46
                generalize x 47 = y47 at h47 ⊢
                clear h45
                have hbC := onto_drew hE
                have HMC := Lib.hid (HMB.out.below hbC)
                have HKC := Lib.hid (HKB.out.trans (HMB.out.onto hbC))
                have HBC := Lib.hid (HBB.out.trans (hbC.mono (by have := HMB.out.le; omega)))
                have HOC := Lib.hid (ownB HPR.out hbC)
                have HFC : Hid (∀ k, (Value.slice (some ⟨gs, 0, none⟩) d cap).ownBlock = some k → FreeB B0 wC k) := Lib.hid fun k hk => ((HFB.out k hk).keeps (HMB.out.onto hbC)).1
                have hgC : w1.heap.size ≤ wC.heap.size := HKC.out.1
                obtain ⟨gn, rfl, hgn⟩ := h47
                clear hE hbC
                refine wpAny_ready (rs := [5]) (by kernel_rfl) (by simp) ?_
                refine AllReady.cons rfl (fun K hK => ?_) AllReady.nil
                rw [if_pos (by rfl)]
                refine wp_app_el (C := ptC) (n := d) (xs := ptsL es 0) (v := .slice (some ⟨gs, 0, none⟩) d cap) (t := 76) (by decide) ptC_len ptC_one Try.underlying76 infoPt rfl _ _ _ rfl rfl HOC.out (⟨N9, N9 + 1⟩ : Pt) rfl hgn (by unfold maxLen; omega) (by omega) hgC ?_
                intro gg cc w6 hown6 hgrow6 hat6
                have HO6 := Lib.hid hown6
                obtain ⟨hm6, hk6, hb6, hf6⟩ := HMC.out.grown HKC.out (by have := HM1.out.le; omega) HBC.out hgrow6 (fun q hq => ⟨HFC.out q hq, (own_ge HOC.out hq).1⟩)
                have HM6 := Lib.hid hm6
                have HK6 := Lib.hid hk6
                have HB6 := Lib.hid hb6
                have HF6 : Hid (∀ q, (Value.slice (some ⟨gg, 0, none⟩) (d + 1) cc).ownBlock = some q → FreeB B0 w6 q) := Lib.hid fun q hq => by
                    have h9 := own_ge hown6 hq
                    injection hq with hq
                    subst hq
                    exact hf6 _ h9.2 hat6
                clear hown6 hgrow6 hat6 hm6 hk6 hb6 hf6
                refine hK _ _ ?_
                clear hK K
                try simp only [Act.put, List.getElem_toArray, List.getElem_cons_succ, List.getElem_cons_zero, List.setIfInBounds_toArray, List.set_cons_zero, List.set_cons_succ]
                refine wpAny_take (i := 6) (v := .slice (some ⟨gg, 0, none⟩) (d + 1) cc) rfl (by kernel_rfl) (by kernel_rfl) (by kernel_rfl) (fun _ _ _ h => h) (Or.inl ⟨by rfl, fun X => ?_⟩) ?_
                · go_simp
                try simp only [Act.put, List.getElem_toArray, List.getElem_cons_succ, List.getElem_cons_zero, List.setIfInBounds_toArray, List.set_cons_zero, List.set_cons_succ]
                refine wpAny_done (by kernel_rfl) ?_ _
                go_wp2
                go_roundw
                case rel => exact ⟨j + 1, es ++ [.set S], M9, by omega, by go_num, by rw [List.reverse_append]; show evT _ (.set S :: es.reverse) = _; first | exact HEV2.out | (rw [HRV.out]; exact HEV2.out), by have h9 := sumP_step HSTEP.out; rw [List.reverse_append]; show sumP (.set S :: es.reverse) = _; rw [HSUM.out] at h9; first | exact h9 | (rw [HRV.out]; exact h9), ⟨by have h9 := HO6.out; rw [List.length_append, List.length_singleton, HD.out, ptsL_app, HPT.out]; exact h9, HF6.out, HM6.out, HOK9.out, HSM9.out, HK6.out, HB6.out⟩⟩
                case measure => simp [intOf]; omega
          | empty S st =>
            obtain ⟨PS9, hPS9⟩ : ∃ x, ptsL [] (szL es) = x := ⟨_, rfl⟩
            obtain ⟨M9, hM9⟩ : ∃ x, stepM M 2 S PS9 = x := ⟨_, rfl⟩
            obtain ⟨N9, hN9⟩ : ∃ x, M.fr.length = x := ⟨_, rfl⟩
            have HOK0 : Hid (MOK M (es ++ [])) := Lib.hid (by have h9 := HOV.out.ok; simpa using h9)
            have HOK9 : Hid (MOK M9 (es ++ [.empty])) := Lib.hid (by rw [← hM9, ← hPS9]; exact HOK0.out.empty S)
            have HPT : Hid (ptsL [.empty] (0 + szL es) = [(⟨N9, N9 + 1⟩ : Pt)]) := Lib.hid (by
              have h9 := HOK0.out.len
              rw [szL_app] at h9
              rw [Nat.zero_add, ptsL_one, ← hN9, h9]
              simp only [ptT, inS, outS, szL, sz_empty]
              all_goals (congr 2 <;> omega))
            have hpl : PS9.length = 0 := by rw [← hPS9, ptsL_len]; rfl
            have HSM9 : Hid (Small M9 (2 * (j + 1)) (8 * (j + 1))) := Lib.hid (by rw [← hM9]; have h9 := HOV.out.sm.step 2 S PS9 (by omega); rw [show 2 * (j + 1) = 2 * j + 2 by omega, show 8 * (j + 1) = 8 * j + 8 by omega]; exact h9)
            have HCL : Hid (∀ X A c, IM B0 M M9 false X → RowF B0 PS9 0 A X → Calls Try.prog 34 #[.pointer (some ⟨B0, 0, none⟩), .agg #[.int .i64 2, .int .u64 (wd S 0), .int .u64 (wd S 1), .int .u64 (wd S 2), .int .u64 (wd S 3)], .slice A 0 c] X fun e w' => GivM9 B0 M9 [] (.agg #[.int .i64 (N9 : Int), .int .i64 ((N9 + 1 : Nat) : Int)]) X e w') := Lib.hid fun X A c hX hR => by
              have h9 := step_any B0 X M hX 2 S PS9 A 0 c hR.1 hR.2 (by unfold StepK; omega) (fun p hp => by
                rw [← hPS9] at hp
                have h8 := ptsL_lt _ _ p hp
                have h7 := HOK0.out.len
                rw [szL_app] at h7
                omega) (by have := HOV.out.sm.1; omega) (fun l hl => Nat.le_trans (HOV.out.sm.2 l hl) (by omega))
              rw [hM9, hN9] at h9
              exact h9
            have hP0 : PS9 = [] := by rw [← hPS9]; rfl
            have HP0 := Lib.hid hP0
            clear hPS9 hM9 hN9 hpl
            have hlen : es.length = es.length + 0 := rfl
            have HST := Lib.hid hst
            subst hst
            have HRV : Hid (es.reverse = es.reverse) := Lib.hid rfl
            obtain ⟨d, hd⟩ : ∃ d, es.length = d := ⟨_, rfl⟩
            have HD := Lib.hid hd
            have HDR : Hid ((ptsL es 0).drop d = PS9) := Lib.hid (by rw [hP0]; exact List.drop_of_length_le (by rw [ptsL_len, hd]; exact Nat.le_refl _))
            have HTK : Hid ((ptsL es 0).take d = ptsL es 0) := Lib.hid (List.take_of_length_le (by rw [ptsL_len, hd]; exact Nat.le_refl _))
            rw [hd] at hcap hsl HOW HROW HOV ⊢
            clear hd hlen
            have y0 : (d : Int) - 0 = (d : Int) := by omega
            clear hP0
            go_wp2_with fail
            refine wp_region_fam_tailS_lit (E := EM B0) (O := Onto) (I := IM B0 M M9) 6 8 1
              [isV (.func (.func 34) #[.pointer (some ⟨B0, 0, none⟩)] #[]),
               isV (.agg #[.int .i64 2, .int .u64 (wd S 0), .int .u64 (wd S 1), .int .u64 (wd S 2), .int .u64 (wd S 3)]),
               isV (.slice (some ⟨gs, 0, none⟩) (d) cap),
               isV (.int .i64 (d : Int)),
               rowVP B0 PS9 0,
               rowVP B0 PS9 0,
               isV (.agg #[.int .i64 (N9 : Int), .int .i64 ((N9 + 1 : Nat) : Int)]),
               newP B0 wr.heap.size]
              [some 36, some 37, some 38, some 39, some 40, some 41, some 42, some 12] #[true, true, true, true, true, true, true, true, false] (by kernel_rfl) rfl (by kernel_rfl) (by kernel_rfl) rfl rfl rfl (EM.trans (B := B0)) (EM.refl B0) IM.of (by decide) ?iz ?monoP ?obP ?qP
            case iz => exact HIX.out
            case monoP => exact ⟨isV_mono _ _, isV_mono _ _, isV_mono _ _, isV_mono _ _, rowVP_mono _ _ _, rowVP_mono _ _ _, isV_mono _ _, newP_mono _ _, trivial⟩
            case obP =>
              refine ObsS.cons (j := 1) rfl (by decide) ?_ ?_
              · refine ObS.free [(1, none)] (by kernel_rfl) (isV (.func (.func 34) #[.pointer (some ⟨B0, 0, none⟩)] #[])) rfl rfl (fun a X hE hL => ?_)
                simp [Seen, slotAt] at hL
                have h1 := hL
                rw [relAt_eq]
                go_simp
                exact ⟨Onto.refl _, rfl⟩
              refine ObsS.cons (j := 2) rfl (by decide) ?_ ?_
              · refine ObS.free [(9, none)] (by kernel_rfl) (isV (.agg #[.int .i64 2, .int .u64 (wd S 0), .int .u64 (wd S 1), .int .u64 (wd S 2), .int .u64 (wd S 3)])) rfl rfl (fun a X hE hL => ?_)
                simp [Seen, slotAt] at hL
                have h9 := hL
                rw [relAt_eq]
                have hbx9 := (HBX.out.keeps hE.1.1).2
                unfold boxR at hbx9
                have f0 := (cell_of_row X wr.heap.size 0 _ _ _ hbx9).trans rfl
                have f1 := (cell_of_row X wr.heap.size 1 _ _ _ hbx9).trans rfl
                have f2 := (cell_of_row X wr.heap.size 2 _ _ _ hbx9).trans rfl
                have f3 := (cell_of_row X wr.heap.size 3 _ _ _ hbx9).trans rfl
                have f4 := (cell_of_row X wr.heap.size 4 _ _ _ hbx9).trans rfl
                go_simp
                exact ⟨Onto.refl _, rfl⟩
              refine ObsS.cons (j := 3) rfl (by decide) ?_ ?_
              · refine ObS.free [(7, none)] (by kernel_rfl) (isV (.slice (some ⟨gs, 0, none⟩) (d) cap)) rfl rfl (fun a X hE hL => ?_)
                simp [Seen, slotAt] at hL
                have h7 := hL
                rw [relAt_eq]
                go_simp
                exact ⟨Onto.refl _, rfl⟩
              refine ObsS.cons (j := 4) rfl (by decide) ?_ ?_
              · refine ObS.free [(11, none)] (by kernel_rfl) (isV (.int .i64 (d : Int))) rfl rfl (fun a X hE hL => ?_)
                simp [Seen, slotAt] at hL
                have h11 := hL
                rw [relAt_eq]
                go_simp
                exact ⟨Onto.refl _, rfl⟩
              refine ObsS.cons (j := 5) rfl (by decide) ?_ ?_
              · refine ObS.free [(38, some 2), (39, some 3)] (by kernel_rfl) (rowVP B0 PS9 0) rfl rfl (fun a X hE hL => ?_)
                simp [Seen, slotAt, famV, isV] at hL
                obtain ⟨h38, h39⟩ := hL
                rw [relAt_eq]
                go_simp
                refine ⟨Onto.refl _, _, _, rfl, ?_⟩
                by_cases hcd : cap = d
                · rw [if_pos hcd]
                  have h9 := HROW.out.keeps (HKX.out.trans hE.1.1)
                  exact ⟨crow_nil' _ _ HP0.out, fun b off e ha => by simp only [Option.some.injEq, Addr.mk.injEq] at ha; obtain ⟨rfl, _, _⟩ := ha; exact h9.2 _ _ _ rfl⟩
                · rw [if_neg hcd]
                  have h9 := HROW.out.keeps (HKX.out.trans hE.1.1)
                  refine ⟨?_, fun b off e ha => by simp only [Option.some.injEq, Addr.mk.injEq] at ha; obtain ⟨rfl, _, _⟩ := ha; exact h9.2 _ _ _ rfl⟩
                  have h8 := crow_dropd (d := d) h9.1
                  rw [Nat.zero_add, HDR.out] at h8
                  simpa using h8
              refine ObsS.cons (j := 6) rfl (by decide) ?_ ?_
              · refine ObS.free [(40, some 4)] (by kernel_rfl) (rowVP B0 PS9 0) rfl rfl (fun a X hE hL => ?_)
                simp [Seen, slotAt, famV] at hL
                have h40 := hL
                rw [relAt_eq]
                obtain ⟨A9, c9, e9, r9⟩ := h40
                go_simp
                rw [relUpon_enter]
                go_at_call 51
                refine (cloneP_any X A9 0 c9 _ r9.1 (by omega)).mono ?_
                rintro e Y ⟨A2, c2, rfl, hr2, hY, hf2⟩
                refine ⟨_, rfl, hY, A2, c2, rfl, hr2, fun b off e ha => ?_⟩
                obtain ⟨q1, q2⟩ := hf2 b off e ha
                obtain ⟨b9, hb9⟩ := hE.2
                exact MX.free hb9 hY q1 q2
              refine ObsS.here (j := 7) rfl rfl rfl ?_ ?_
              · refine ObS.free [(36, some 0), (37, some 1), (41, some 5)] (by kernel_rfl) (isV (.agg #[.int .i64 (N9 : Int), .int .i64 ((N9 + 1 : Nat) : Int)])) rfl rfl (fun a X hE hL => ?_)
                simp [Seen, slotAt, famV, isV] at hL
                obtain ⟨h36, h37, h41⟩ := hL
                rw [relAt_eq]
                obtain ⟨A9, c9, e9, r9⟩ := h41
                go_simp
                rw [relUpon_enter]
                go_at_call 34
                refine (HCL.out X A9 c9 hE.2 r9).mono ?_
                rintro e Y ⟨rfl, hY1, hY2, hY3⟩
                exact ⟨_, rfl, ⟨⟨hY3, hY2⟩, hY1⟩, rfl⟩
              refine ObsS.cons (j := 8) rfl (by decide) ?_ ?_
              · refine ObS.free [] (by kernel_rfl) (newP B0 wr.heap.size) rfl rfl (fun a X hE hL => ?_)
                rw [relAt_eq]
                go_simp
                exact ⟨(Below.refl _ _).alloc (Nat.le_refl _) _, X.heap.size, rfl, by have h9 := hE.1.1.1; simp at h9; omega, IM.free hE.2 ((Below.refl _ _).alloc (Nat.le_refl _) ZP) (Nat.le_refl _) (heap_alloc_new X ZP)⟩
              exact trivial
            case qP =>
              intro x wA hE hI hV
              simp [AllV, famV, isV] at hV
              obtain ⟨-, -, -, -, -, -, h42, h12⟩ := hV
              simp only [puts, Act.put, List.setIfInBounds_toArray, List.set_cons_zero, List.set_cons_succ, h42]
              generalize x 36 = y36
              generalize x 37 = y37
              generalize x 38 = y38
              generalize x 39 = y39
              generalize x 40 = y40
              generalize x 41 = y41
              generalize x 12 = y12 at h12 ⊢
              clear h42
              obtain ⟨k, rfl, hgk, hk⟩ := h12
              have HK := Lib.hid hk
              have HTA : Hid (KeepsR B0 wr wA ∧ Below B0 wr wA) := Lib.hid ⟨HKX.out.trans hE.1, (HWX.out.mono (by have := HM1.out.le; have := HGL.out; omega)).trans hE.2⟩
              have HMA : Hid (MX B0 wA M9 []) := Lib.hid hI
              clear hE hI hk
              refine wpAny_ready (rs := [8]) (by kernel_rfl) (by simp) ?_
              refine AllReady.cons rfl (fun K hK => ?_) AllReady.nil
              rw [if_pos (by rfl)]
              refine wp_store_pt _ _ rfl k 0 0 N9 (N9 + 1) rfl rfl HK.out.2 ?_
              intro wB hK2 hBB hO hS
              have HK2 := Lib.hid hK2
              have HMB := Lib.hid (HMA.out.kept HK.out.1 hO hS)
              have hown9 := fun k hk => (MX.kept_own HMA.out HK.out.1 hO hS k).1 hk
              have hfq := (HOV.out.free gs rfl).keeps HTA.out.1
              have hkg : gs ≠ k := by have := (HOV.out.free gs rfl).1; omega
              have hq9 : ∀ q, (Value.slice (some ⟨gs, 0, none⟩) (d) cap).ownBlock = some q → wB.heap[q]? = wr.heap[q]? := fun q hq => by
                  injection hq with hq
                  subst hq
                  exact (hO gs hkg).trans hfq.2
              have HFB : Hid (∀ q, (Value.slice (some ⟨gs, 0, none⟩) d cap).ownBlock = some q → FreeB B0 wB q) := Lib.hid fun q hq => by
                  injection hq with hq
                  subst hq
                  exact ⟨by rw [hS]; exact hfq.1.1, hfq.1.2.1, fun ho => hfq.1.2.2 (hown9 _ ho)⟩
              have HKB : Hid (KeepsR B0 w1 wB) := Lib.hid ⟨by rw [hS]; exact Nat.le_trans HKR.out.1 HTA.out.1.1, fun q hq hx hno => by
                  obtain ⟨e, n9⟩ := (HKR.out.trans HTA.out.1).2 q hq hx hno
                  exact ⟨(hO q (by have := HGL.out; omega)).trans e, fun ho => n9 (hown9 q ho)⟩⟩
              have HBB : Hid (Below B0 w1 wB) := Lib.hid (HOV.out.bw.trans (HTA.out.2.trans (hBB B0 (by have := HMA.out.le; have := HIX.out.le; have := HRS.out; have := HM1.out.le; have := HGL.out; omega))))
              have HPR : Hid (wB.ownsRow w1.heap.size 52 2 (.slice (some ⟨gs, 0, none⟩) d cap) d ((ptsL es 0).flatMap ptC)) := Lib.hid (by have h9 := own_prefix (d := d) (own_kept HOW.out hq9) (by omega) (by simp); rw [flat_take_c ptC_len, HTK.out] at h9; exact h9)
              clear hK2 hBB hO hS HK hown9 hfq hq9 hkg
              refine hK _ _ ?_
              clear hK K
              try simp only [Act.put, List.getElem_toArray, List.getElem_cons_succ, List.getElem_cons_zero, List.setIfInBounds_toArray, List.set_cons_zero, List.set_cons_succ]
              refine wpAny_done (by kernel_rfl) ?_ _
              go_wp2_with fail
              refine wp_region_fam_tail_lit (E := Onto) 5 2
                [isV (.slice (some ⟨gs, 0, none⟩) (d) cap),
                 isV (.int .i64 (d : Int)),
                 isV (.slice (some ⟨gs, 0, none⟩) d cap),
                 isV (.agg #[.int .i64 (N9 : Int), .int .i64 ((N9 + 1 : Nat) : Int)]),
                 newB8 #[.int .i64 (N9 : Int), .int .i64 ((N9 + 1 : Nat) : Int)]]
                [some 43, some 44, some 45, some 46, some 47] #[true, true, true, true, true, false, false] (by kernel_rfl) rfl (by kernel_rfl) (by kernel_rfl) rfl rfl rfl Onto.trans Onto.refl ?monoQ ?obQ ?qQ
              case monoQ => exact ⟨isV_mono _ _, isV_mono _ _, isV_mono _ _, isV_mono _ _, newB8_mono _, trivial⟩
              case obQ =>
                refine Obs.cons (j := 1) rfl ?_ ?_
                · refine Ob.free [(7, none)] (by kernel_rfl) (isV (.slice (some ⟨gs, 0, none⟩) (d) cap)) rfl rfl (fun a X hE hL => ?_)
                  simp [Seen, slotAt] at hL
                  have h7 := hL
                  rw [relAt_eq]
                  go_simp
                  exact ⟨Onto.refl _, rfl⟩
                refine Obs.cons (j := 2) rfl ?_ ?_
                · refine Ob.free [(11, none)] (by kernel_rfl) (isV (.int .i64 (d : Int))) rfl rfl (fun a X hE hL => ?_)
                  simp [Seen, slotAt] at hL
                  have h11 := hL
                  rw [relAt_eq]
                  go_simp
                  exact ⟨Onto.refl _, rfl⟩
                refine Obs.cons (j := 3) rfl ?_ ?_
                · refine Ob.free [(43, some 0), (44, some 1)] (by kernel_rfl) (isV (.slice (some ⟨gs, 0, none⟩) d cap)) rfl rfl (fun a X hE hL => ?_)
                  simp [Seen, slotAt, famV, isV] at hL
                  obtain ⟨h43, h44⟩ := hL
                  rw [relAt_eq]
                  go_simp
                  exact ⟨Onto.refl _, rfl⟩
                refine Obs.cons (j := 4) rfl ?_ ?_
                · refine Ob.free [(12, none)] (by kernel_rfl) (isV (.agg #[.int .i64 (N9 : Int), .int .i64 ((N9 + 1 : Nat) : Int)])) rfl rfl (fun a X hE hL => ?_)
                  simp [Seen, slotAt] at hL
                  have h12 := hL
                  rw [relAt_eq]
                  have hl9 := run_loadP0 X k N9 (N9 + 1) (PtAt.onto HK2.out (onto_drew hE))
                  go_simp
                  exact ⟨Onto.refl _, rfl⟩
                refine Obs.cons (j := 5) rfl ?_ ?_
                · refine Ob.free [(46, some 3)] (by kernel_rfl) (newB8 #[.int .i64 (N9 : Int), .int .i64 ((N9 + 1 : Nat) : Int)]) rfl rfl (fun a X hE hL => ?_)
                  simp [Seen, slotAt, famV, isV] at hL
                  have h46 := hL
                  rw [relAt_eq]
                  go_simp
                  refine ⟨(Below.refl _ _).alloc (Nat.le_refl _) _, X.heap.size, rfl, ?_⟩
                  exact heap_alloc_new X _
                exact trivial
              case qQ =>
                intro x wC hE hV
                simp [AllV, famV, isV] at hV
                obtain ⟨-, -, h45, -, h47⟩ := hV
                simp only [puts, Act.put, List.setIfInBounds_toArray, List.set_cons_zero, List.set_cons_succ, h45]
                generalize x 43 = y43
                generalize x 44 = y44
                generalize x 46 = y46
                generalize x 47 = y47 at h47 ⊢
                clear h45
                have hbC := onto_drew hE
                have HMC := Lib.hid (HMB.out.below hbC)
                have HKC := Lib.hid (HKB.out.trans (HMB.out.onto hbC))
                have HBC := Lib.hid (HBB.out.trans (hbC.mono (by have := HMB.out.le; omega)))
                have HOC := Lib.hid (ownB HPR.out hbC)
                have HFC : Hid (∀ k, (Value.slice (some ⟨gs, 0, none⟩) d cap).ownBlock = some k → FreeB B0 wC k) := Lib.hid fun k hk => ((HFB.out k hk).keeps (HMB.out.onto hbC)).1
                have hgC : w1.heap.size ≤ wC.heap.size := HKC.out.1
                obtain ⟨gn, rfl, hgn⟩ := h47
                clear hE hbC
                refine wpAny_ready (rs := [5]) (by kernel_rfl) (by simp) ?_
                refine AllReady.cons rfl (fun K hK => ?_) AllReady.nil
                rw [if_pos (by rfl)]
                refine wp_app_el (C := ptC) (n := d) (xs := ptsL es 0) (v := .slice (some ⟨gs, 0, none⟩) d cap) (t := 76) (by decide) ptC_len ptC_one Try.underlying76 infoPt rfl _ _ _ rfl rfl HOC.out (⟨N9, N9 + 1⟩ : Pt) rfl hgn (by unfold maxLen; omega) (by omega) hgC ?_
                intro gg cc w6 hown6 hgrow6 hat6
                have HO6 := Lib.hid hown6
                obtain ⟨hm6, hk6, hb6, hf6⟩ := HMC.out.grown HKC.out (by have := HM1.out.le; omega) HBC.out hgrow6 (fun q hq => ⟨HFC.out q hq, (own_ge HOC.out hq).1⟩)
                have HM6 := Lib.hid hm6
                have HK6 := Lib.hid hk6
                have HB6 := Lib.hid hb6
                have HF6 : Hid (∀ q, (Value.slice (some ⟨gg, 0, none⟩) (d + 1) cc).ownBlock = some q → FreeB B0 w6 q) := Lib.hid fun q hq => by
                    have h9 := own_ge hown6 hq
                    injection hq with hq
                    subst hq
                    exact hf6 _ h9.2 hat6
                clear hown6 hgrow6 hat6 hm6 hk6 hb6 hf6
                refine hK _ _ ?_
                clear hK K
                try simp only [Act.put, List.getElem_toArray, List.getElem_cons_succ, List.getElem_cons_zero, List.setIfInBounds_toArray, List.set_cons_zero, List.set_cons_succ]
                refine wpAny_take (i := 6) (v := .slice (some ⟨gg, 0, none⟩) (d + 1) cc) rfl (by kernel_rfl) (by kernel_rfl) (by kernel_rfl) (fun _ _ _ h => h) (Or.inl ⟨by rfl, fun X => ?_⟩) ?_
                · go_simp
                try simp only [Act.put, List.getElem_toArray, List.getElem_cons_succ, List.getElem_cons_zero, List.setIfInBounds_toArray, List.set_cons_zero, List.set_cons_succ]
                refine wpAny_done (by kernel_rfl) ?_ _
                go_wp2
                go_roundw
                case rel => exact ⟨j + 1, es ++ [.empty], M9, by omega, by go_num, by rw [List.reverse_append]; show evT _ (.empty :: es.reverse) = _; first | exact HEV2.out | (rw [HRV.out]; exact HEV2.out), by have h9 := sumP_step HSTEP.out; rw [List.reverse_append]; show sumP (.empty :: es.reverse) = _; rw [HSUM.out] at h9; first | exact h9 | (rw [HRV.out]; exact h9), ⟨by have h9 := HO6.out; rw [List.length_append, List.length_singleton, HD.out, ptsL_app, HPT.out]; exact h9, HF6.out, HM6.out, HOK9.out, HSM9.out, HK6.out, HB6.out⟩⟩
                case measure => simp [intOf]; omega
          | cat S a' b' st =>
            obtain ⟨es1, rfl, hst1⟩ := rv_top hst
            obtain ⟨es0, rfl, hst0⟩ := rv_top hst1
            obtain ⟨PS9, hPS9⟩ : ∃ x, ptsL [a', b'] (szL es0) = x := ⟨_, rfl⟩
            obtain ⟨M9, hM9⟩ : ∃ x, stepM M 3 S PS9 = x := ⟨_, rfl⟩
            obtain ⟨N9, hN9⟩ : ∃ x, M.fr.length = x := ⟨_, rfl⟩
            have HOK0 : Hid (MOK M (es0 ++ [a', b'])) := Lib.hid (by have h9 := HOV.out.ok; simpa using h9)
            have HOK9 : Hid (MOK M9 (es0 ++ [.cat a' b'])) := Lib.hid (by rw [← hM9, ← hPS9]; exact HOK0.out.cat S)
            have HPT : Hid (ptsL [.cat a' b'] (0 + szL es0) = [(⟨N9, N9 + 1⟩ : Pt)]) := Lib.hid (by
              have h9 := HOK0.out.len
              rw [szL_app] at h9
              rw [Nat.zero_add, ptsL_one, ← hN9, h9]
              simp only [ptT, inS, outS, szL, sz_cat]
              all_goals (congr 2 <;> omega))
            have hpl : PS9.length = 2 := by rw [← hPS9, ptsL_len]; rfl
            have HSM9 : Hid (Small M9 (2 * (j + 1)) (8 * (j + 1))) := Lib.hid (by rw [← hM9]; have h9 := HOV.out.sm.step 3 S PS9 (by omega); rw [show 2 * (j + 1) = 2 * j + 2 by omega, show 8 * (j + 1) = 8 * j + 8 by omega]; exact h9)
            have HCL : Hid (∀ X A c, IM B0 M M9 false X → RowF B0 PS9 2 A X → Calls Try.prog 34 #[.pointer (some ⟨B0, 0, none⟩), .agg #[.int .i64 3, .int .u64 (wd S 0), .int .u64 (wd S 1), .int .u64 (wd S 2), .int .u64 (wd S 3)], .slice A 2 c] X fun e w' => GivM9 B0 M9 [] (.agg #[.int .i64 (N9 : Int), .int .i64 ((N9 + 1 : Nat) : Int)]) X e w') := Lib.hid fun X A c hX hR => by
              have h9 := step_any B0 X M hX 3 S PS9 A 2 c hR.1 hR.2 (by unfold StepK; omega) (fun p hp => by
                rw [← hPS9] at hp
                have h8 := ptsL_lt _ _ p hp
                have h7 := HOK0.out.len
                rw [szL_app] at h7
                omega) (by have := HOV.out.sm.1; omega) (fun l hl => Nat.le_trans (HOV.out.sm.2 l hl) (by omega))
              rw [hM9, hN9] at h9
              exact h9
            have HPS9 := Lib.hid hPS9
            clear hPS9 hM9 hN9 hpl
            have HST := Lib.hid hst
            have HRV := Lib.hid hst0
            obtain ⟨d, hd⟩ : ∃ d, es0.length = d := ⟨_, rfl⟩
            have HD := Lib.hid hd
            have hlen : (es0 ++ [a'] ++ [b']).length = d + 2 := by simp [hd]
            have hpp : ptsL (es0 ++ [a'] ++ [b']) 0 = ptsL es0 0 ++ PS9 := by rw [← HPS9.out]; simp [ptsL_app]
            have hpd : (ptsL es0 0).length = d := by rw [ptsL_len, hd]
            have HDR : Hid ((ptsL (es0 ++ [a'] ++ [b']) 0).drop d = PS9) := Lib.hid (by rw [hpp, ← hpd]; simp)
            have HTK : Hid ((ptsL (es0 ++ [a'] ++ [b']) 0).take d = ptsL es0 0) := Lib.hid (by rw [hpp, ← hpd]; simp)
            rw [hlen] at hcap hsl HOW HROW HOV ⊢
            have y0 : ((d + 2 : Nat) : Int) - 2 = (d : Int) := by omega
            have y1 : (d : Int) + 2 - 2 = (d : Int) := by omega
            have y2 : (d : Int) ≤ (d : Int) + 2 := by omega
            have y3 : d ≤ cap := by omega
            have y4 : (d : Int) ≤ (cap : Int) := by omega
            clear hd hlen hst hpp hpd
            go_wp2_with fail
            refine wp_region_fam_tailS_lit (E := EM B0) (O := Onto) (I := IM B0 M M9) 6 8 1
              [isV (.func (.func 34) #[.pointer (some ⟨B0, 0, none⟩)] #[]),
               isV (.agg #[.int .i64 3, .int .u64 (wd S 0), .int .u64 (wd S 1), .int .u64 (wd S 2), .int .u64 (wd S 3)]),
               isV (.slice (some ⟨gs, 0, none⟩) (d + 2) cap),
               isV (.int .i64 (d : Int)),
               rowVP B0 PS9 2,
               rowVP B0 PS9 2,
               isV (.agg #[.int .i64 (N9 : Int), .int .i64 ((N9 + 1 : Nat) : Int)]),
               newP B0 wr.heap.size]
              [some 36, some 37, some 38, some 39, some 40, some 41, some 42, some 12] #[true, true, true, true, true, true, true, true, false] (by kernel_rfl) rfl (by kernel_rfl) (by kernel_rfl) rfl rfl rfl (EM.trans (B := B0)) (EM.refl B0) IM.of (by decide) ?iz ?monoP ?obP ?qP
            case iz => exact HIX.out
            case monoP => exact ⟨isV_mono _ _, isV_mono _ _, isV_mono _ _, isV_mono _ _, rowVP_mono _ _ _, rowVP_mono _ _ _, isV_mono _ _, newP_mono _ _, trivial⟩
            case obP =>
              refine ObsS.cons (j := 1) rfl (by decide) ?_ ?_
              · refine ObS.free [(1, none)] (by kernel_rfl) (isV (.func (.func 34) #[.pointer (some ⟨B0, 0, none⟩)] #[])) rfl rfl (fun a X hE hL => ?_)
                simp [Seen, slotAt] at hL
                have h1 := hL
                rw [relAt_eq]
                go_simp
                exact ⟨Onto.refl _, rfl⟩
              refine ObsS.cons (j := 2) rfl (by decide) ?_ ?_
              · refine ObS.free [(9, none)] (by kernel_rfl) (isV (.agg #[.int .i64 3, .int .u64 (wd S 0), .int .u64 (wd S 1), .int .u64 (wd S 2), .int .u64 (wd S 3)])) rfl rfl (fun a X hE hL => ?_)
                simp [Seen, slotAt] at hL
                have h9 := hL
                rw [relAt_eq]
                have hbx9 := (HBX.out.keeps hE.1.1).2
                unfold boxR at hbx9
                have f0 := (cell_of_row X wr.heap.size 0 _ _ _ hbx9).trans rfl
                have f1 := (cell_of_row X wr.heap.size 1 _ _ _ hbx9).trans rfl
                have f2 := (cell_of_row X wr.heap.size 2 _ _ _ hbx9).trans rfl
                have f3 := (cell_of_row X wr.heap.size 3 _ _ _ hbx9).trans rfl
                have f4 := (cell_of_row X wr.heap.size 4 _ _ _ hbx9).trans rfl
                go_simp
                exact ⟨Onto.refl _, rfl⟩
              refine ObsS.cons (j := 3) rfl (by decide) ?_ ?_
              · refine ObS.free [(7, none)] (by kernel_rfl) (isV (.slice (some ⟨gs, 0, none⟩) (d + 2) cap)) rfl rfl (fun a X hE hL => ?_)
                simp [Seen, slotAt] at hL
                have h7 := hL
                rw [relAt_eq]
                go_simp
                exact ⟨Onto.refl _, rfl⟩
              refine ObsS.cons (j := 4) rfl (by decide) ?_ ?_
              · refine ObS.free [(11, none)] (by kernel_rfl) (isV (.int .i64 (d : Int))) rfl rfl (fun a X hE hL => ?_)
                simp [Seen, slotAt] at hL
                have h11 := hL
                rw [relAt_eq]
                go_simp
                exact ⟨Onto.refl _, rfl⟩
              refine ObsS.cons (j := 5) rfl (by decide) ?_ ?_
              · refine ObS.free [(38, some 2), (39, some 3)] (by kernel_rfl) (rowVP B0 PS9 2) rfl rfl (fun a X hE hL => ?_)
                simp [Seen, slotAt, famV, isV] at hL
                obtain ⟨h38, h39⟩ := hL
                rw [relAt_eq]
                go_simp
                refine ⟨Onto.refl _, _, _, rfl, ?_⟩
                by_cases hcd : cap = d
                · omega
                · rw [if_neg hcd]
                  have h9 := HROW.out.keeps (HKX.out.trans hE.1.1)
                  refine ⟨?_, fun b off e ha => by simp only [Option.some.injEq, Addr.mk.injEq] at ha; obtain ⟨rfl, _, _⟩ := ha; exact h9.2 _ _ _ rfl⟩
                  have h8 := crow_dropd (d := d) h9.1
                  rw [Nat.zero_add, HDR.out] at h8
                  simpa using h8
              refine ObsS.cons (j := 6) rfl (by decide) ?_ ?_
              · refine ObS.free [(40, some 4)] (by kernel_rfl) (rowVP B0 PS9 2) rfl rfl (fun a X hE hL => ?_)
                simp [Seen, slotAt, famV] at hL
                have h40 := hL
                rw [relAt_eq]
                obtain ⟨A9, c9, e9, r9⟩ := h40
                go_simp
                rw [relUpon_enter]
                go_at_call 51
                refine (cloneP_any X A9 2 c9 _ r9.1 (by omega)).mono ?_
                rintro e Y ⟨A2, c2, rfl, hr2, hY, hf2⟩
                refine ⟨_, rfl, hY, A2, c2, rfl, hr2, fun b off e ha => ?_⟩
                obtain ⟨q1, q2⟩ := hf2 b off e ha
                obtain ⟨b9, hb9⟩ := hE.2
                exact MX.free hb9 hY q1 q2
              refine ObsS.here (j := 7) rfl rfl rfl ?_ ?_
              · refine ObS.free [(36, some 0), (37, some 1), (41, some 5)] (by kernel_rfl) (isV (.agg #[.int .i64 (N9 : Int), .int .i64 ((N9 + 1 : Nat) : Int)])) rfl rfl (fun a X hE hL => ?_)
                simp [Seen, slotAt, famV, isV] at hL
                obtain ⟨h36, h37, h41⟩ := hL
                rw [relAt_eq]
                obtain ⟨A9, c9, e9, r9⟩ := h41
                go_simp
                rw [relUpon_enter]
                go_at_call 34
                refine (HCL.out X A9 c9 hE.2 r9).mono ?_
                rintro e Y ⟨rfl, hY1, hY2, hY3⟩
                exact ⟨_, rfl, ⟨⟨hY3, hY2⟩, hY1⟩, rfl⟩
              refine ObsS.cons (j := 8) rfl (by decide) ?_ ?_
              · refine ObS.free [] (by kernel_rfl) (newP B0 wr.heap.size) rfl rfl (fun a X hE hL => ?_)
                rw [relAt_eq]
                go_simp
                exact ⟨(Below.refl _ _).alloc (Nat.le_refl _) _, X.heap.size, rfl, by have h9 := hE.1.1.1; simp at h9; omega, IM.free hE.2 ((Below.refl _ _).alloc (Nat.le_refl _) ZP) (Nat.le_refl _) (heap_alloc_new X ZP)⟩
              exact trivial
            case qP =>
              intro x wA hE hI hV
              simp [AllV, famV, isV] at hV
              obtain ⟨-, -, -, -, -, -, h42, h12⟩ := hV
              simp only [puts, Act.put, List.setIfInBounds_toArray, List.set_cons_zero, List.set_cons_succ, h42]
              generalize x 36 = y36
              generalize x 37 = y37
              generalize x 38 = y38
              generalize x 39 = y39
              generalize x 40 = y40
              generalize x 41 = y41
              generalize x 12 = y12 at h12 ⊢
              clear h42
              obtain ⟨k, rfl, hgk, hk⟩ := h12
              have HK := Lib.hid hk
              have HTA : Hid (KeepsR B0 wr wA ∧ Below B0 wr wA) := Lib.hid ⟨HKX.out.trans hE.1, (HWX.out.mono (by have := HM1.out.le; have := HGL.out; omega)).trans hE.2⟩
              have HMA : Hid (MX B0 wA M9 []) := Lib.hid hI
              clear hE hI hk
              refine wpAny_ready (rs := [8]) (by kernel_rfl) (by simp) ?_
              refine AllReady.cons rfl (fun K hK => ?_) AllReady.nil
              rw [if_pos (by rfl)]
              refine wp_store_pt _ _ rfl k 0 0 N9 (N9 + 1) rfl rfl HK.out.2 ?_
              intro wB hK2 hBB hO hS
              have HK2 := Lib.hid hK2
              have HMB := Lib.hid (HMA.out.kept HK.out.1 hO hS)
              have hown9 := fun k hk => (MX.kept_own HMA.out HK.out.1 hO hS k).1 hk
              have hfq := (HOV.out.free gs rfl).keeps HTA.out.1
              have hkg : gs ≠ k := by have := (HOV.out.free gs rfl).1; omega
              have hq9 : ∀ q, (Value.slice (some ⟨gs, 0, none⟩) (d + 2) cap).ownBlock = some q → wB.heap[q]? = wr.heap[q]? := fun q hq => by
                  injection hq with hq
                  subst hq
                  exact (hO gs hkg).trans hfq.2
              have HFB : Hid (∀ q, (Value.slice (some ⟨gs, 0, none⟩) d cap).ownBlock = some q → FreeB B0 wB q) := Lib.hid fun q hq => by
                  injection hq with hq
                  subst hq
                  exact ⟨by rw [hS]; exact hfq.1.1, hfq.1.2.1, fun ho => hfq.1.2.2 (hown9 _ ho)⟩
              have HKB : Hid (KeepsR B0 w1 wB) := Lib.hid ⟨by rw [hS]; exact Nat.le_trans HKR.out.1 HTA.out.1.1, fun q hq hx hno => by
                  obtain ⟨e, n9⟩ := (HKR.out.trans HTA.out.1).2 q hq hx hno
                  exact ⟨(hO q (by have := HGL.out; omega)).trans e, fun ho => n9 (hown9 q ho)⟩⟩
              have HBB : Hid (Below B0 w1 wB) := Lib.hid (HOV.out.bw.trans (HTA.out.2.trans (hBB B0 (by have := HMA.out.le; have := HIX.out.le; have := HRS.out; have := HM1.out.le; have := HGL.out; omega))))
              have HPR : Hid (wB.ownsRow w1.heap.size 52 2 (.slice (some ⟨gs, 0, none⟩) d cap) d ((ptsL es0 0).flatMap ptC)) := Lib.hid (by have h9 := own_prefix (d := d) (own_kept HOW.out hq9) (by omega) (by simp); rw [flat_take_c ptC_len, HTK.out] at h9; exact h9)
              clear hK2 hBB hO hS HK hown9 hfq hq9 hkg
              refine hK _ _ ?_
              clear hK K
              try simp only [Act.put, List.getElem_toArray, List.getElem_cons_succ, List.getElem_cons_zero, List.setIfInBounds_toArray, List.set_cons_zero, List.set_cons_succ]
              refine wpAny_done (by kernel_rfl) ?_ _
              go_wp2_with fail
              refine wp_region_fam_tail_lit (E := Onto) 5 2
                [isV (.slice (some ⟨gs, 0, none⟩) (d + 2) cap),
                 isV (.int .i64 (d : Int)),
                 isV (.slice (some ⟨gs, 0, none⟩) d cap),
                 isV (.agg #[.int .i64 (N9 : Int), .int .i64 ((N9 + 1 : Nat) : Int)]),
                 newB8 #[.int .i64 (N9 : Int), .int .i64 ((N9 + 1 : Nat) : Int)]]
                [some 43, some 44, some 45, some 46, some 47] #[true, true, true, true, true, false, false] (by kernel_rfl) rfl (by kernel_rfl) (by kernel_rfl) rfl rfl rfl Onto.trans Onto.refl ?monoQ ?obQ ?qQ
              case monoQ => exact ⟨isV_mono _ _, isV_mono _ _, isV_mono _ _, isV_mono _ _, newB8_mono _, trivial⟩
              case obQ =>
                refine Obs.cons (j := 1) rfl ?_ ?_
                · refine Ob.free [(7, none)] (by kernel_rfl) (isV (.slice (some ⟨gs, 0, none⟩) (d + 2) cap)) rfl rfl (fun a X hE hL => ?_)
                  simp [Seen, slotAt] at hL
                  have h7 := hL
                  rw [relAt_eq]
                  go_simp
                  exact ⟨Onto.refl _, rfl⟩
                refine Obs.cons (j := 2) rfl ?_ ?_
                · refine Ob.free [(11, none)] (by kernel_rfl) (isV (.int .i64 (d : Int))) rfl rfl (fun a X hE hL => ?_)
                  simp [Seen, slotAt] at hL
                  have h11 := hL
                  rw [relAt_eq]
                  go_simp
                  exact ⟨Onto.refl _, rfl⟩
                refine Obs.cons (j := 3) rfl ?_ ?_
                · refine Ob.free [(43, some 0), (44, some 1)] (by kernel_rfl) (isV (.slice (some ⟨gs, 0, none⟩) d cap)) rfl rfl (fun a X hE hL => ?_)
                  simp [Seen, slotAt, famV, isV] at hL
                  obtain ⟨h43, h44⟩ := hL
                  rw [relAt_eq]
                  go_simp
                  exact ⟨Onto.refl _, rfl⟩
                refine Obs.cons (j := 4) rfl ?_ ?_
                · refine Ob.free [(12, none)] (by kernel_rfl) (isV (.agg #[.int .i64 (N9 : Int), .int .i64 ((N9 + 1 : Nat) : Int)])) rfl rfl (fun a X hE hL => ?_)
                  simp [Seen, slotAt] at hL
                  have h12 := hL
                  rw [relAt_eq]
                  have hl9 := run_loadP0 X k N9 (N9 + 1) (PtAt.onto HK2.out (onto_drew hE))
                  go_simp
                  exact ⟨Onto.refl _, rfl⟩
                refine Obs.cons (j := 5) rfl ?_ ?_
                · refine Ob.free [(46, some 3)] (by kernel_rfl) (newB8 #[.int .i64 (N9 : Int), .int .i64 ((N9 + 1 : Nat) : Int)]) rfl rfl (fun a X hE hL => ?_)
                  simp [Seen, slotAt, famV, isV] at hL
                  have h46 := hL
                  rw [relAt_eq]
                  go_simp
                  refine ⟨(Below.refl _ _).alloc (Nat.le_refl _) _, X.heap.size, rfl, ?_⟩
                  exact heap_alloc_new X _
                exact trivial
              case qQ =>
                intro x wC hE hV
                simp [AllV, famV, isV] at hV
                obtain ⟨-, -, h45, -, h47⟩ := hV
                simp only [puts, Act.put, List.setIfInBounds_toArray, List.set_cons_zero, List.set_cons_succ, h45]
                generalize x 43 = y43
                generalize x 44 = y44
                generalize x 46 = y46
                generalize x 47 = y47 at h47 ⊢
                clear h45
                have hbC := onto_drew hE
                have HMC := Lib.hid (HMB.out.below hbC)
                have HKC := Lib.hid (HKB.out.trans (HMB.out.onto hbC))
                have HBC := Lib.hid (HBB.out.trans (hbC.mono (by have := HMB.out.le; omega)))
                have HOC := Lib.hid (ownB HPR.out hbC)
                have HFC : Hid (∀ k, (Value.slice (some ⟨gs, 0, none⟩) d cap).ownBlock = some k → FreeB B0 wC k) := Lib.hid fun k hk => ((HFB.out k hk).keeps (HMB.out.onto hbC)).1
                have hgC : w1.heap.size ≤ wC.heap.size := HKC.out.1
                obtain ⟨gn, rfl, hgn⟩ := h47
                clear hE hbC
                refine wpAny_ready (rs := [5]) (by kernel_rfl) (by simp) ?_
                refine AllReady.cons rfl (fun K hK => ?_) AllReady.nil
                rw [if_pos (by rfl)]
                refine wp_app_el (C := ptC) (n := d) (xs := ptsL es0 0) (v := .slice (some ⟨gs, 0, none⟩) d cap) (t := 76) (by decide) ptC_len ptC_one Try.underlying76 infoPt rfl _ _ _ rfl rfl HOC.out (⟨N9, N9 + 1⟩ : Pt) rfl hgn (by unfold maxLen; omega) (by omega) hgC ?_
                intro gg cc w6 hown6 hgrow6 hat6
                have HO6 := Lib.hid hown6
                obtain ⟨hm6, hk6, hb6, hf6⟩ := HMC.out.grown HKC.out (by have := HM1.out.le; omega) HBC.out hgrow6 (fun q hq => ⟨HFC.out q hq, (own_ge HOC.out hq).1⟩)
                have HM6 := Lib.hid hm6
                have HK6 := Lib.hid hk6
                have HB6 := Lib.hid hb6
                have HF6 : Hid (∀ q, (Value.slice (some ⟨gg, 0, none⟩) (d + 1) cc).ownBlock = some q → FreeB B0 w6 q) := Lib.hid fun q hq => by
                    have h9 := own_ge hown6 hq
                    injection hq with hq
                    subst hq
                    exact hf6 _ h9.2 hat6
                clear hown6 hgrow6 hat6 hm6 hk6 hb6 hf6
                refine hK _ _ ?_
                clear hK K
                try simp only [Act.put, List.getElem_toArray, List.getElem_cons_succ, List.getElem_cons_zero, List.setIfInBounds_toArray, List.set_cons_zero, List.set_cons_succ]
                refine wpAny_take (i := 6) (v := .slice (some ⟨gg, 0, none⟩) (d + 1) cc) rfl (by kernel_rfl) (by kernel_rfl) (by kernel_rfl) (fun _ _ _ h => h) (Or.inl ⟨by rfl, fun X => ?_⟩) ?_
                · go_simp
                try simp only [Act.put, List.getElem_toArray, List.getElem_cons_succ, List.getElem_cons_zero, List.setIfInBounds_toArray, List.set_cons_zero, List.set_cons_succ]
                refine wpAny_done (by kernel_rfl) ?_ _
                go_wp2
                go_roundw
                case rel => exact ⟨j + 1, es0 ++ [.cat a' b'], M9, by omega, by go_num, by rw [List.reverse_append]; show evT _ (.cat a' b' :: es0.reverse) = _; first | exact HEV2.out | (rw [HRV.out]; exact HEV2.out), by have h9 := sumP_step HSTEP.out; rw [List.reverse_append]; show sumP (.cat a' b' :: es0.reverse) = _; rw [HSUM.out] at h9; first | exact h9 | (rw [HRV.out]; exact h9), ⟨by have h9 := HO6.out; rw [List.length_append, List.length_singleton, HD.out, ptsL_app, HPT.out]; exact h9, HF6.out, HM6.out, HOK9.out, HSM9.out, HK6.out, HB6.out⟩⟩
                case measure => simp [intOf]; omega
          | alt S a' b' st =>
            obtain ⟨es1, rfl, hst1⟩ := rv_top hst
            obtain ⟨es0, rfl, hst0⟩ := rv_top hst1
            obtain ⟨PS9, hPS9⟩ : ∃ x, ptsL [a', b'] (szL es0) = x := ⟨_, rfl⟩
            obtain ⟨M9, hM9⟩ : ∃ x, stepM M 4 S PS9 = x := ⟨_, rfl⟩
            obtain ⟨N9, hN9⟩ : ∃ x, M.fr.length = x := ⟨_, rfl⟩
            have HOK0 : Hid (MOK M (es0 ++ [a', b'])) := Lib.hid (by have h9 := HOV.out.ok; simpa using h9)
            have HOK9 : Hid (MOK M9 (es0 ++ [.alt a' b'])) := Lib.hid (by rw [← hM9, ← hPS9]; exact HOK0.out.alt S)
            have HPT : Hid (ptsL [.alt a' b'] (0 + szL es0) = [(⟨N9, N9 + 1⟩ : Pt)]) := Lib.hid (by
              have h9 := HOK0.out.len
              rw [szL_app] at h9
              rw [Nat.zero_add, ptsL_one, ← hN9, h9]
              simp only [ptT, inS, outS, szL, sz_alt]
              all_goals (congr 2 <;> omega))
            have hpl : PS9.length = 2 := by rw [← hPS9, ptsL_len]; rfl
            have HSM9 : Hid (Small M9 (2 * (j + 1)) (8 * (j + 1))) := Lib.hid (by rw [← hM9]; have h9 := HOV.out.sm.step 4 S PS9 (by omega); rw [show 2 * (j + 1) = 2 * j + 2 by omega, show 8 * (j + 1) = 8 * j + 8 by omega]; exact h9)
            have HCL : Hid (∀ X A c, IM B0 M M9 false X → RowF B0 PS9 2 A X → Calls Try.prog 34 #[.pointer (some ⟨B0, 0, none⟩), .agg #[.int .i64 4, .int .u64 (wd S 0), .int .u64 (wd S 1), .int .u64 (wd S 2), .int .u64 (wd S 3)], .slice A 2 c] X fun e w' => GivM9 B0 M9 [] (.agg #[.int .i64 (N9 : Int), .int .i64 ((N9 + 1 : Nat) : Int)]) X e w') := Lib.hid fun X A c hX hR => by
              have h9 := step_any B0 X M hX 4 S PS9 A 2 c hR.1 hR.2 (by unfold StepK; omega) (fun p hp => by
                rw [← hPS9] at hp
                have h8 := ptsL_lt _ _ p hp
                have h7 := HOK0.out.len
                rw [szL_app] at h7
                omega) (by have := HOV.out.sm.1; omega) (fun l hl => Nat.le_trans (HOV.out.sm.2 l hl) (by omega))
              rw [hM9, hN9] at h9
              exact h9
            have HPS9 := Lib.hid hPS9
            clear hPS9 hM9 hN9 hpl
            have HST := Lib.hid hst
            have HRV := Lib.hid hst0
            obtain ⟨d, hd⟩ : ∃ d, es0.length = d := ⟨_, rfl⟩
            have HD := Lib.hid hd
            have hlen : (es0 ++ [a'] ++ [b']).length = d + 2 := by simp [hd]
            have hpp : ptsL (es0 ++ [a'] ++ [b']) 0 = ptsL es0 0 ++ PS9 := by rw [← HPS9.out]; simp [ptsL_app]
            have hpd : (ptsL es0 0).length = d := by rw [ptsL_len, hd]
            have HDR : Hid ((ptsL (es0 ++ [a'] ++ [b']) 0).drop d = PS9) := Lib.hid (by rw [hpp, ← hpd]; simp)
            have HTK : Hid ((ptsL (es0 ++ [a'] ++ [b']) 0).take d = ptsL es0 0) := Lib.hid (by rw [hpp, ← hpd]; simp)
            rw [hlen] at hcap hsl HOW HROW HOV ⊢
            have y0 : ((d + 2 : Nat) : Int) - 2 = (d : Int) := by omega
            have y1 : (d : Int) + 2 - 2 = (d : Int) := by omega
            have y2 : (d : Int) ≤ (d : Int) + 2 := by omega
            have y3 : d ≤ cap := by omega
            have y4 : (d : Int) ≤ (cap : Int) := by omega
            clear hd hlen hst hpp hpd
            go_wp2_with fail
            refine wp_region_fam_tailS_lit (E := EM B0) (O := Onto) (I := IM B0 M M9) 6 8 1
              [isV (.func (.func 34) #[.pointer (some ⟨B0, 0, none⟩)] #[]),
               isV (.agg #[.int .i64 4, .int .u64 (wd S 0), .int .u64 (wd S 1), .int .u64 (wd S 2), .int .u64 (wd S 3)]),
               isV (.slice (some ⟨gs, 0, none⟩) (d + 2) cap),
               isV (.int .i64 (d : Int)),
               rowVP B0 PS9 2,
               rowVP B0 PS9 2,
               isV (.agg #[.int .i64 (N9 : Int), .int .i64 ((N9 + 1 : Nat) : Int)]),
               newP B0 wr.heap.size]
              [some 36, some 37, some 38, some 39, some 40, some 41, some 42, some 12] #[true, true, true, true, true, true, true, true, false] (by kernel_rfl) rfl (by kernel_rfl) (by kernel_rfl) rfl rfl rfl (EM.trans (B := B0)) (EM.refl B0) IM.of (by decide) ?iz ?monoP ?obP ?qP
            case iz => exact HIX.out
            case monoP => exact ⟨isV_mono _ _, isV_mono _ _, isV_mono _ _, isV_mono _ _, rowVP_mono _ _ _, rowVP_mono _ _ _, isV_mono _ _, newP_mono _ _, trivial⟩
            case obP =>
              refine ObsS.cons (j := 1) rfl (by decide) ?_ ?_
              · refine ObS.free [(1, none)] (by kernel_rfl) (isV (.func (.func 34) #[.pointer (some ⟨B0, 0, none⟩)] #[])) rfl rfl (fun a X hE hL => ?_)
                simp [Seen, slotAt] at hL
                have h1 := hL
                rw [relAt_eq]
                go_simp
                exact ⟨Onto.refl _, rfl⟩
              refine ObsS.cons (j := 2) rfl (by decide) ?_ ?_
              · refine ObS.free [(9, none)] (by kernel_rfl) (isV (.agg #[.int .i64 4, .int .u64 (wd S 0), .int .u64 (wd S 1), .int .u64 (wd S 2), .int .u64 (wd S 3)])) rfl rfl (fun a X hE hL => ?_)
                simp [Seen, slotAt] at hL
                have h9 := hL
                rw [relAt_eq]
                have hbx9 := (HBX.out.keeps hE.1.1).2
                unfold boxR at hbx9
                have f0 := (cell_of_row X wr.heap.size 0 _ _ _ hbx9).trans rfl
                have f1 := (cell_of_row X wr.heap.size 1 _ _ _ hbx9).trans rfl
                have f2 := (cell_of_row X wr.heap.size 2 _ _ _ hbx9).trans rfl
                have f3 := (cell_of_row X wr.heap.size 3 _ _ _ hbx9).trans rfl
                have f4 := (cell_of_row X wr.heap.size 4 _ _ _ hbx9).trans rfl
                go_simp
                exact ⟨Onto.refl _, rfl⟩
              refine ObsS.cons (j := 3) rfl (by decide) ?_ ?_
              · refine ObS.free [(7, none)] (by kernel_rfl) (isV (.slice (some ⟨gs, 0, none⟩) (d + 2) cap)) rfl rfl (fun a X hE hL => ?_)
                simp [Seen, slotAt] at hL
                have h7 := hL
                rw [relAt_eq]
                go_simp
                exact ⟨Onto.refl _, rfl⟩
              refine ObsS.cons (j := 4) rfl (by decide) ?_ ?_
              · refine ObS.free [(11, none)] (by kernel_rfl) (isV (.int .i64 (d : Int))) rfl rfl (fun a X hE hL => ?_)
                simp [Seen, slotAt] at hL
                have h11 := hL
                rw [relAt_eq]
                go_simp
                exact ⟨Onto.refl _, rfl⟩
              refine ObsS.cons (j := 5) rfl (by decide) ?_ ?_
              · refine ObS.free [(38, some 2), (39, some 3)] (by kernel_rfl) (rowVP B0 PS9 2) rfl rfl (fun a X hE hL => ?_)
                simp [Seen, slotAt, famV, isV] at hL
                obtain ⟨h38, h39⟩ := hL
                rw [relAt_eq]
                go_simp
                refine ⟨Onto.refl _, _, _, rfl, ?_⟩
                by_cases hcd : cap = d
                · omega
                · rw [if_neg hcd]
                  have h9 := HROW.out.keeps (HKX.out.trans hE.1.1)
                  refine ⟨?_, fun b off e ha => by simp only [Option.some.injEq, Addr.mk.injEq] at ha; obtain ⟨rfl, _, _⟩ := ha; exact h9.2 _ _ _ rfl⟩
                  have h8 := crow_dropd (d := d) h9.1
                  rw [Nat.zero_add, HDR.out] at h8
                  simpa using h8
              refine ObsS.cons (j := 6) rfl (by decide) ?_ ?_
              · refine ObS.free [(40, some 4)] (by kernel_rfl) (rowVP B0 PS9 2) rfl rfl (fun a X hE hL => ?_)
                simp [Seen, slotAt, famV] at hL
                have h40 := hL
                rw [relAt_eq]
                obtain ⟨A9, c9, e9, r9⟩ := h40
                go_simp
                rw [relUpon_enter]
                go_at_call 51
                refine (cloneP_any X A9 2 c9 _ r9.1 (by omega)).mono ?_
                rintro e Y ⟨A2, c2, rfl, hr2, hY, hf2⟩
                refine ⟨_, rfl, hY, A2, c2, rfl, hr2, fun b off e ha => ?_⟩
                obtain ⟨q1, q2⟩ := hf2 b off e ha
                obtain ⟨b9, hb9⟩ := hE.2
                exact MX.free hb9 hY q1 q2
              refine ObsS.here (j := 7) rfl rfl rfl ?_ ?_
              · refine ObS.free [(36, some 0), (37, some 1), (41, some 5)] (by kernel_rfl) (isV (.agg #[.int .i64 (N9 : Int), .int .i64 ((N9 + 1 : Nat) : Int)])) rfl rfl (fun a X hE hL => ?_)
                simp [Seen, slotAt, famV, isV] at hL
                obtain ⟨h36, h37, h41⟩ := hL
                rw [relAt_eq]
                obtain ⟨A9, c9, e9, r9⟩ := h41
                go_simp
                rw [relUpon_enter]
                go_at_call 34
                refine (HCL.out X A9 c9 hE.2 r9).mono ?_
                rintro e Y ⟨rfl, hY1, hY2, hY3⟩
                exact ⟨_, rfl, ⟨⟨hY3, hY2⟩, hY1⟩, rfl⟩
              refine ObsS.cons (j := 8) rfl (by decide) ?_ ?_
              · refine ObS.free [] (by kernel_rfl) (newP B0 wr.heap.size) rfl rfl (fun a X hE hL => ?_)
                rw [relAt_eq]
                go_simp
                exact ⟨(Below.refl _ _).alloc (Nat.le_refl _) _, X.heap.size, rfl, by have h9 := hE.1.1.1; simp at h9; omega, IM.free hE.2 ((Below.refl _ _).alloc (Nat.le_refl _) ZP) (Nat.le_refl _) (heap_alloc_new X ZP)⟩
              exact trivial
            case qP =>
              intro x wA hE hI hV
              simp [AllV, famV, isV] at hV
              obtain ⟨-, -, -, -, -, -, h42, h12⟩ := hV
              simp only [puts, Act.put, List.setIfInBounds_toArray, List.set_cons_zero, List.set_cons_succ, h42]
              generalize x 36 = y36
              generalize x 37 = y37
              generalize x 38 = y38
              generalize x 39 = y39
              generalize x 40 = y40
              generalize x 41 = y41
              generalize x 12 = y12 at h12 ⊢
              clear h42
              obtain ⟨k, rfl, hgk, hk⟩ := h12
              have HK := Lib.hid hk
              have HTA : Hid (KeepsR B0 wr wA ∧ Below B0 wr wA) := Lib.hid ⟨HKX.out.trans hE.1, (HWX.out.mono (by have := HM1.out.le; have := HGL.out; omega)).trans hE.2⟩
              have HMA : Hid (MX B0 wA M9 []) := Lib.hid hI
              clear hE hI hk
              refine wpAny_ready (rs := [8]) (by kernel_rfl) (by simp) ?_
              refine AllReady.cons rfl (fun K hK => ?_) AllReady.nil
              rw [if_pos (by rfl)]
              refine wp_store_pt _ _ rfl k 0 0 N9 (N9 + 1) rfl rfl HK.out.2 ?_
              intro wB hK2 hBB hO hS
              have HK2 := Lib.hid hK2
              have HMB := Lib.hid (HMA.out.kept HK.out.1 hO hS)
              have hown9 := fun k hk => (MX.kept_own HMA.out HK.out.1 hO hS k).1 hk
              have hfq := (HOV.out.free gs rfl).keeps HTA.out.1
              have hkg : gs ≠ k := by have := (HOV.out.free gs rfl).1; omega
              have hq9 : ∀ q, (Value.slice (some ⟨gs, 0, none⟩) (d + 2) cap).ownBlock = some q → wB.heap[q]? = wr.heap[q]? := fun q hq => by
                  injection hq with hq
                  subst hq
                  exact (hO gs hkg).trans hfq.2
              have HFB : Hid (∀ q, (Value.slice (some ⟨gs, 0, none⟩) d cap).ownBlock = some q → FreeB B0 wB q) := Lib.hid fun q hq => by
                  injection hq with hq
                  subst hq
                  exact ⟨by rw [hS]; exact hfq.1.1, hfq.1.2.1, fun ho => hfq.1.2.2 (hown9 _ ho)⟩
              have HKB : Hid (KeepsR B0 w1 wB) := Lib.hid ⟨by rw [hS]; exact Nat.le_trans HKR.out.1 HTA.out.1.1, fun q hq hx hno => by
                  obtain ⟨e, n9⟩ := (HKR.out.trans HTA.out.1).2 q hq hx hno
                  exact ⟨(hO q (by have := HGL.out; omega)).trans e, fun ho => n9 (hown9 q ho)⟩⟩
              have HBB : Hid (Below B0 w1 wB) := Lib.hid (HOV.out.bw.trans (HTA.out.2.trans (hBB B0 (by have := HMA.out.le; have := HIX.out.le; have := HRS.out; have := HM1.out.le; have := HGL.out; omega))))
              have HPR : Hid (wB.ownsRow w1.heap.size 52 2 (.slice (some ⟨gs, 0, none⟩) d cap) d ((ptsL es0 0).flatMap ptC)) := Lib.hid (by have h9 := own_prefix (d := d) (own_kept HOW.out hq9) (by omega) (by simp); rw [flat_take_c ptC_len, HTK.out] at h9; exact h9)
              clear hK2 hBB hO hS HK hown9 hfq hq9 hkg
              refine hK _ _ ?_
              clear hK K
              try simp only [Act.put, List.getElem_toArray, List.getElem_cons_succ, List.getElem_cons_zero, List.setIfInBounds_toArray, List.set_cons_zero, List.set_cons_succ]
              refine wpAny_done (by kernel_rfl) ?_ _
              go_wp2_with fail
              refine wp_region_fam_tail_lit (E := Onto) 5 2
                [isV (.slice (some ⟨gs, 0, none⟩) (d + 2) cap),
                 isV (.int .i64 (d : Int)),
                 isV (.slice (some ⟨gs, 0, none⟩) d cap),
                 isV (.agg #[.int .i64 (N9 : Int), .int .i64 ((N9 + 1 : Nat) : Int)]),
                 newB8 #[.int .i64 (N9 : Int), .int .i64 ((N9 + 1 : Nat) : Int)]]
                [some 43, some 44, some 45, some 46, some 47] #[true, true, true, true, true, false, false] (by kernel_rfl) rfl (by kernel_rfl) (by kernel_rfl) rfl rfl rfl Onto.trans Onto.refl ?monoQ ?obQ ?qQ
              case monoQ => exact ⟨isV_mono _ _, isV_mono _ _, isV_mono _ _, isV_mono _ _, newB8_mono _, trivial⟩
              case obQ =>
                refine Obs.cons (j := 1) rfl ?_ ?_
                · refine Ob.free [(7, none)] (by kernel_rfl) (isV (.slice (some ⟨gs, 0, none⟩) (d + 2) cap)) rfl rfl (fun a X hE hL => ?_)
                  simp [Seen, slotAt] at hL
                  have h7 := hL
                  rw [relAt_eq]
                  go_simp
                  exact ⟨Onto.refl _, rfl⟩
                refine Obs.cons (j := 2) rfl ?_ ?_
                · refine Ob.free [(11, none)] (by kernel_rfl) (isV (.int .i64 (d : Int))) rfl rfl (fun a X hE hL => ?_)
                  simp [Seen, slotAt] at hL
                  have h11 := hL
                  rw [relAt_eq]
                  go_simp
                  exact ⟨Onto.refl _, rfl⟩
                refine Obs.cons (j := 3) rfl ?_ ?_
                · refine Ob.free [(43, some 0), (44, some 1)] (by kernel_rfl) (isV (.slice (some ⟨gs, 0, none⟩) d cap)) rfl rfl (fun a X hE hL => ?_)
                  simp [Seen, slotAt, famV, isV] at hL
                  obtain ⟨h43, h44⟩ := hL
                  rw [relAt_eq]
                  go_simp
                  exact ⟨Onto.refl _, rfl⟩
                refine Obs.cons (j := 4) rfl ?_ ?_
                · refine Ob.free [(12, none)] (by kernel_rfl) (isV (.agg #[.int .i64 (N9 : Int), .int .i64 ((N9 + 1 : Nat) : Int)])) rfl rfl (fun a X hE hL => ?_)
                  simp [Seen, slotAt] at hL
                  have h12 := hL
                  rw [relAt_eq]
                  have hl9 := run_loadP0 X k N9 (N9 + 1) (PtAt.onto HK2.out (onto_drew hE))
                  go_simp
                  exact ⟨Onto.refl _, rfl⟩
                refine Obs.cons (j := 5) rfl ?_ ?_
                · refine Ob.free [(46, some 3)] (by kernel_rfl) (newB8 #[.int .i64 (N9 : Int), .int .i64 ((N9 + 1 : Nat) : Int)]) rfl rfl (fun a X hE hL => ?_)
                  simp [Seen, slotAt, famV, isV] at hL
                  have h46 := hL
                  rw [relAt_eq]
                  go_simp
                  refine ⟨(Below.refl _ _).alloc (Nat.le_refl _) _, X.heap.size, rfl, ?_⟩
                  exact heap_alloc_new X _
                exact trivial
              case qQ =>
                intro x wC hE hV
                simp [AllV, famV, isV] at hV
                obtain ⟨-, -, h45, -, h47⟩ := hV
                simp only [puts, Act.put, List.setIfInBounds_toArray, List.set_cons_zero, List.set_cons_succ, h45]
                generalize x 43 = y43
                generalize x 44 = y44
                generalize x 46 = y46
                generalize x 47 = y47 at h47 ⊢
                clear h45
                have hbC := onto_drew hE
                have HMC := Lib.hid (HMB.out.below hbC)
                have HKC := Lib.hid (HKB.out.trans (HMB.out.onto hbC))
                have HBC := Lib.hid (HBB.out.trans (hbC.mono (by have := HMB.out.le; omega)))
                have HOC := Lib.hid (ownB HPR.out hbC)
                have HFC : Hid (∀ k, (Value.slice (some ⟨gs, 0, none⟩) d cap).ownBlock = some k → FreeB B0 wC k) := Lib.hid fun k hk => ((HFB.out k hk).keeps (HMB.out.onto hbC)).1
                have hgC : w1.heap.size ≤ wC.heap.size := HKC.out.1
                obtain ⟨gn, rfl, hgn⟩ := h47
                clear hE hbC
                refine wpAny_ready (rs := [5]) (by kernel_rfl) (by simp) ?_
                refine AllReady.cons rfl (fun K hK => ?_) AllReady.nil
                rw [if_pos (by rfl)]
                refine wp_app_el (C := ptC) (n := d) (xs := ptsL es0 0) (v := .slice (some ⟨gs, 0, none⟩) d cap) (t := 76) (by decide) ptC_len ptC_one Try.underlying76 infoPt rfl _ _ _ rfl rfl HOC.out (⟨N9, N9 + 1⟩ : Pt) rfl hgn (by unfold maxLen; omega) (by omega) hgC ?_
                intro gg cc w6 hown6 hgrow6 hat6
                have HO6 := Lib.hid hown6
                obtain ⟨hm6, hk6, hb6, hf6⟩ := HMC.out.grown HKC.out (by have := HM1.out.le; omega) HBC.out hgrow6 (fun q hq => ⟨HFC.out q hq, (own_ge HOC.out hq).1⟩)
                have HM6 := Lib.hid hm6
                have HK6 := Lib.hid hk6
                have HB6 := Lib.hid hb6
                have HF6 : Hid (∀ q, (Value.slice (some ⟨gg, 0, none⟩) (d + 1) cc).ownBlock = some q → FreeB B0 w6 q) := Lib.hid fun q hq => by
                    have h9 := own_ge hown6 hq
                    injection hq with hq
                    subst hq
                    exact hf6 _ h9.2 hat6
                clear hown6 hgrow6 hat6 hm6 hk6 hb6 hf6
                refine hK _ _ ?_
                clear hK K
                try simp only [Act.put, List.getElem_toArray, List.getElem_cons_succ, List.getElem_cons_zero, List.setIfInBounds_toArray, List.set_cons_zero, List.set_cons_succ]
                refine wpAny_take (i := 6) (v := .slice (some ⟨gg, 0, none⟩) (d + 1) cc) rfl (by kernel_rfl) (by kernel_rfl) (by kernel_rfl) (fun _ _ _ h => h) (Or.inl ⟨by rfl, fun X => ?_⟩) ?_
                · go_simp
                try simp only [Act.put, List.getElem_toArray, List.getElem_cons_succ, List.getElem_cons_zero, List.setIfInBounds_toArray, List.set_cons_zero, List.set_cons_succ]
                refine wpAny_done (by kernel_rfl) ?_ _
                go_wp2
                go_roundw
                case rel => exact ⟨j + 1, es0 ++ [.alt a' b'], M9, by omega, by go_num, by rw [List.reverse_append]; show evT _ (.alt a' b' :: es0.reverse) = _; first | exact HEV2.out | (rw [HRV.out]; exact HEV2.out), by have h9 := sumP_step HSTEP.out; rw [List.reverse_append]; show sumP (.alt a' b' :: es0.reverse) = _; rw [HSUM.out] at h9; first | exact h9 | (rw [HRV.out]; exact h9), ⟨by have h9 := HO6.out; rw [List.length_append, List.length_singleton, HD.out, ptsL_app, HPT.out]; exact h9, HF6.out, HM6.out, HOK9.out, HSM9.out, HK6.out, HB6.out⟩⟩
                case measure => simp [intOf]; omega
          | star S a' st =>
            obtain ⟨es0, rfl, hst0⟩ := rv_top hst
            obtain ⟨PS9, hPS9⟩ : ∃ x, ptsL [a'] (szL es0) = x := ⟨_, rfl⟩
            obtain ⟨M9, hM9⟩ : ∃ x, stepM M 5 S PS9 = x := ⟨_, rfl⟩
            obtain ⟨N9, hN9⟩ : ∃ x, M.fr.length = x := ⟨_, rfl⟩
            have HOK0 : Hid (MOK M (es0 ++ [a'])) := Lib.hid (by have h9 := HOV.out.ok; simpa using h9)
            have HOK9 : Hid (MOK M9 (es0 ++ [.star a'])) := Lib.hid (by rw [← hM9, ← hPS9]; exact HOK0.out.star S)
            have HPT : Hid (ptsL [.star a'] (0 + szL es0) = [(⟨N9, N9 + 1⟩ : Pt)]) := Lib.hid (by
              have h9 := HOK0.out.len
              rw [szL_app] at h9
              rw [Nat.zero_add, ptsL_one, ← hN9, h9]
              simp only [ptT, inS, outS, szL, sz_star]
              all_goals (congr 2 <;> omega))
            have hpl : PS9.length = 1 := by rw [← hPS9, ptsL_len]; rfl
            have HSM9 : Hid (Small M9 (2 * (j + 1)) (8 * (j + 1))) := Lib.hid (by rw [← hM9]; have h9 := HOV.out.sm.step 5 S PS9 (by omega); rw [show 2 * (j + 1) = 2 * j + 2 by omega, show 8 * (j + 1) = 8 * j + 8 by omega]; exact h9)
            have HCL : Hid (∀ X A c, IM B0 M M9 false X → RowF B0 PS9 1 A X → Calls Try.prog 34 #[.pointer (some ⟨B0, 0, none⟩), .agg #[.int .i64 5, .int .u64 (wd S 0), .int .u64 (wd S 1), .int .u64 (wd S 2), .int .u64 (wd S 3)], .slice A 1 c] X fun e w' => GivM9 B0 M9 [] (.agg #[.int .i64 (N9 : Int), .int .i64 ((N9 + 1 : Nat) : Int)]) X e w') := Lib.hid fun X A c hX hR => by
              have h9 := step_any B0 X M hX 5 S PS9 A 1 c hR.1 hR.2 (by unfold StepK; omega) (fun p hp => by
                rw [← hPS9] at hp
                have h8 := ptsL_lt _ _ p hp
                have h7 := HOK0.out.len
                rw [szL_app] at h7
                omega) (by have := HOV.out.sm.1; omega) (fun l hl => Nat.le_trans (HOV.out.sm.2 l hl) (by omega))
              rw [hM9, hN9] at h9
              exact h9
            have HPS9 := Lib.hid hPS9
            clear hPS9 hM9 hN9 hpl
            have HST := Lib.hid hst
            have HRV := Lib.hid hst0
            obtain ⟨d, hd⟩ : ∃ d, es0.length = d := ⟨_, rfl⟩
            have HD := Lib.hid hd
            have hlen : (es0 ++ [a']).length = d + 1 := by simp [hd]
            have hpp : ptsL (es0 ++ [a']) 0 = ptsL es0 0 ++ PS9 := by rw [← HPS9.out]; simp [ptsL_app]
            have hpd : (ptsL es0 0).length = d := by rw [ptsL_len, hd]
            have HDR : Hid ((ptsL (es0 ++ [a']) 0).drop d = PS9) := Lib.hid (by rw [hpp, ← hpd]; simp)
            have HTK : Hid ((ptsL (es0 ++ [a']) 0).take d = ptsL es0 0) := Lib.hid (by rw [hpp, ← hpd]; simp)
            rw [hlen] at hcap hsl HOW HROW HOV ⊢
            have y0 : ((d + 1 : Nat) : Int) - 1 = (d : Int) := by omega
            have y1 : (d : Int) + 1 - 1 = (d : Int) := by omega
            have y2 : (d : Int) ≤ (d : Int) + 1 := by omega
            have y3 : d ≤ cap := by omega
            have y4 : (d : Int) ≤ (cap : Int) := by omega
            clear hd hlen hst hpp hpd
            go_wp2_with fail
            refine wp_region_fam_tailS_lit (E := EM B0) (O := Onto) (I := IM B0 M M9) 6 8 1
              [isV (.func (.func 34) #[.pointer (some ⟨B0, 0, none⟩)] #[]),
               isV (.agg #[.int .i64 5, .int .u64 (wd S 0), .int .u64 (wd S 1), .int .u64 (wd S 2), .int .u64 (wd S 3)]),
               isV (.slice (some ⟨gs, 0, none⟩) (d + 1) cap),
               isV (.int .i64 (d : Int)),
               rowVP B0 PS9 1,
               rowVP B0 PS9 1,
               isV (.agg #[.int .i64 (N9 : Int), .int .i64 ((N9 + 1 : Nat) : Int)]),
               newP B0 wr.heap.size]
              [some 36, some 37, some 38, some 39, some 40, some 41, some 42, some 12] #[true, true, true, true, true, true, true, true, false] (by kernel_rfl) rfl (by kernel_rfl) (by kernel_rfl) rfl rfl rfl (EM.trans (B := B0)) (EM.refl B0) IM.of (by decide) ?iz ?monoP ?obP ?qP
            case iz => exact HIX.out
            case monoP => exact ⟨isV_mono _ _, isV_mono _ _, isV_mono _ _, isV_mono _ _, rowVP_mono _ _ _, rowVP_mono _ _ _, isV_mono _ _, newP_mono _ _, trivial⟩
            case obP =>
              refine ObsS.cons (j := 1) rfl (by decide) ?_ ?_
              · refine ObS.free [(1, none)] (by kernel_rfl) (isV (.func (.func 34) #[.pointer (some ⟨B0, 0, none⟩)] #[])) rfl rfl (fun a X hE hL => ?_)
                simp [Seen, slotAt] at hL
                have h1 := hL
                rw [relAt_eq]
                go_simp
                exact ⟨Onto.refl _, rfl⟩
              refine ObsS.cons (j := 2) rfl (by decide) ?_ ?_
              · refine ObS.free [(9, none)] (by kernel_rfl) (isV (.agg #[.int .i64 5, .int .u64 (wd S 0), .int .u64 (wd S 1), .int .u64 (wd S 2), .int .u64 (wd S 3)])) rfl rfl (fun a X hE hL => ?_)
                simp [Seen, slotAt] at hL
                have h9 := hL
                rw [relAt_eq]
                have hbx9 := (HBX.out.keeps hE.1.1).2
                unfold boxR at hbx9
                have f0 := (cell_of_row X wr.heap.size 0 _ _ _ hbx9).trans rfl
                have f1 := (cell_of_row X wr.heap.size 1 _ _ _ hbx9).trans rfl
                have f2 := (cell_of_row X wr.heap.size 2 _ _ _ hbx9).trans rfl
                have f3 := (cell_of_row X wr.heap.size 3 _ _ _ hbx9).trans rfl
                have f4 := (cell_of_row X wr.heap.size 4 _ _ _ hbx9).trans rfl
                go_simp
                exact ⟨Onto.refl _, rfl⟩
              refine ObsS.cons (j := 3) rfl (by decide) ?_ ?_
              · refine ObS.free [(7, none)] (by kernel_rfl) (isV (.slice (some ⟨gs, 0, none⟩) (d + 1) cap)) rfl rfl (fun a X hE hL => ?_)
                simp [Seen, slotAt] at hL
                have h7 := hL
                rw [relAt_eq]
                go_simp
                exact ⟨Onto.refl _, rfl⟩
              refine ObsS.cons (j := 4) rfl (by decide) ?_ ?_
              · refine ObS.free [(11, none)] (by kernel_rfl) (isV (.int .i64 (d : Int))) rfl rfl (fun a X hE hL => ?_)
                simp [Seen, slotAt] at hL
                have h11 := hL
                rw [relAt_eq]
                go_simp
                exact ⟨Onto.refl _, rfl⟩
              refine ObsS.cons (j := 5) rfl (by decide) ?_ ?_
              · refine ObS.free [(38, some 2), (39, some 3)] (by kernel_rfl) (rowVP B0 PS9 1) rfl rfl (fun a X hE hL => ?_)
                simp [Seen, slotAt, famV, isV] at hL
                obtain ⟨h38, h39⟩ := hL
                rw [relAt_eq]
                go_simp
                refine ⟨Onto.refl _, _, _, rfl, ?_⟩
                by_cases hcd : cap = d
                · omega
                · rw [if_neg hcd]
                  have h9 := HROW.out.keeps (HKX.out.trans hE.1.1)
                  refine ⟨?_, fun b off e ha => by simp only [Option.some.injEq, Addr.mk.injEq] at ha; obtain ⟨rfl, _, _⟩ := ha; exact h9.2 _ _ _ rfl⟩
                  have h8 := crow_dropd (d := d) h9.1
                  rw [Nat.zero_add, HDR.out] at h8
                  simpa using h8
              refine ObsS.cons (j := 6) rfl (by decide) ?_ ?_
              · refine ObS.free [(40, some 4)] (by kernel_rfl) (rowVP B0 PS9 1) rfl rfl (fun a X hE hL => ?_)
                simp [Seen, slotAt, famV] at hL
                have h40 := hL
                rw [relAt_eq]
                obtain ⟨A9, c9, e9, r9⟩ := h40
                go_simp
                rw [relUpon_enter]
                go_at_call 51
                refine (cloneP_any X A9 1 c9 _ r9.1 (by omega)).mono ?_
                rintro e Y ⟨A2, c2, rfl, hr2, hY, hf2⟩
                refine ⟨_, rfl, hY, A2, c2, rfl, hr2, fun b off e ha => ?_⟩
                obtain ⟨q1, q2⟩ := hf2 b off e ha
                obtain ⟨b9, hb9⟩ := hE.2
                exact MX.free hb9 hY q1 q2
              refine ObsS.here (j := 7) rfl rfl rfl ?_ ?_
              · refine ObS.free [(36, some 0), (37, some 1), (41, some 5)] (by kernel_rfl) (isV (.agg #[.int .i64 (N9 : Int), .int .i64 ((N9 + 1 : Nat) : Int)])) rfl rfl (fun a X hE hL => ?_)
                simp [Seen, slotAt, famV, isV] at hL
                obtain ⟨h36, h37, h41⟩ := hL
                rw [relAt_eq]
                obtain ⟨A9, c9, e9, r9⟩ := h41
                go_simp
                rw [relUpon_enter]
                go_at_call 34
                refine (HCL.out X A9 c9 hE.2 r9).mono ?_
                rintro e Y ⟨rfl, hY1, hY2, hY3⟩
                exact ⟨_, rfl, ⟨⟨hY3, hY2⟩, hY1⟩, rfl⟩
              refine ObsS.cons (j := 8) rfl (by decide) ?_ ?_
              · refine ObS.free [] (by kernel_rfl) (newP B0 wr.heap.size) rfl rfl (fun a X hE hL => ?_)
                rw [relAt_eq]
                go_simp
                exact ⟨(Below.refl _ _).alloc (Nat.le_refl _) _, X.heap.size, rfl, by have h9 := hE.1.1.1; simp at h9; omega, IM.free hE.2 ((Below.refl _ _).alloc (Nat.le_refl _) ZP) (Nat.le_refl _) (heap_alloc_new X ZP)⟩
              exact trivial
            case qP =>
              intro x wA hE hI hV
              simp [AllV, famV, isV] at hV
              obtain ⟨-, -, -, -, -, -, h42, h12⟩ := hV
              simp only [puts, Act.put, List.setIfInBounds_toArray, List.set_cons_zero, List.set_cons_succ, h42]
              generalize x 36 = y36
              generalize x 37 = y37
              generalize x 38 = y38
              generalize x 39 = y39
              generalize x 40 = y40
              generalize x 41 = y41
              generalize x 12 = y12 at h12 ⊢
              clear h42
              obtain ⟨k, rfl, hgk, hk⟩ := h12
              have HK := Lib.hid hk
              have HTA : Hid (KeepsR B0 wr wA ∧ Below B0 wr wA) := Lib.hid ⟨HKX.out.trans hE.1, (HWX.out.mono (by have := HM1.out.le; have := HGL.out; omega)).trans hE.2⟩
              have HMA : Hid (MX B0 wA M9 []) := Lib.hid hI
              clear hE hI hk
              refine wpAny_ready (rs := [8]) (by kernel_rfl) (by simp) ?_
              refine AllReady.cons rfl (fun K hK => ?_) AllReady.nil
              rw [if_pos (by rfl)]
              refine wp_store_pt _ _ rfl k 0 0 N9 (N9 + 1) rfl rfl HK.out.2 ?_
              intro wB hK2 hBB hO hS
              have HK2 := Lib.hid hK2
              have HMB := Lib.hid (HMA.out.kept HK.out.1 hO hS)
              have hown9 := fun k hk => (MX.kept_own HMA.out HK.out.1 hO hS k).1 hk
              have hfq := (HOV.out.free gs rfl).keeps HTA.out.1
              have hkg : gs ≠ k := by have := (HOV.out.free gs rfl).1; omega
              have hq9 : ∀ q, (Value.slice (some ⟨gs, 0, none⟩) (d + 1) cap).ownBlock = some q → wB.heap[q]? = wr.heap[q]? := fun q hq => by
                  injection hq with hq
                  subst hq
                  exact (hO gs hkg).trans hfq.2
              have HFB : Hid (∀ q, (Value.slice (some ⟨gs, 0, none⟩) d cap).ownBlock = some q → FreeB B0 wB q) := Lib.hid fun q hq => by
                  injection hq with hq
                  subst hq
                  exact ⟨by rw [hS]; exact hfq.1.1, hfq.1.2.1, fun ho => hfq.1.2.2 (hown9 _ ho)⟩
              have HKB : Hid (KeepsR B0 w1 wB) := Lib.hid ⟨by rw [hS]; exact Nat.le_trans HKR.out.1 HTA.out.1.1, fun q hq hx hno => by
                  obtain ⟨e, n9⟩ := (HKR.out.trans HTA.out.1).2 q hq hx hno
                  exact ⟨(hO q (by have := HGL.out; omega)).trans e, fun ho => n9 (hown9 q ho)⟩⟩
              have HBB : Hid (Below B0 w1 wB) := Lib.hid (HOV.out.bw.trans (HTA.out.2.trans (hBB B0 (by have := HMA.out.le; have := HIX.out.le; have := HRS.out; have := HM1.out.le; have := HGL.out; omega))))
              have HPR : Hid (wB.ownsRow w1.heap.size 52 2 (.slice (some ⟨gs, 0, none⟩) d cap) d ((ptsL es0 0).flatMap ptC)) := Lib.hid (by have h9 := own_prefix (d := d) (own_kept HOW.out hq9) (by omega) (by simp); rw [flat_take_c ptC_len, HTK.out] at h9; exact h9)
              clear hK2 hBB hO hS HK hown9 hfq hq9 hkg
              refine hK _ _ ?_
              clear hK K
              try simp only [Act.put, List.getElem_toArray, List.getElem_cons_succ, List.getElem_cons_zero, List.setIfInBounds_toArray, List.set_cons_zero, List.set_cons_succ]
              refine wpAny_done (by kernel_rfl) ?_ _
              go_wp2_with fail
              refine wp_region_fam_tail_lit (E := Onto) 5 2
                [isV (.slice (some ⟨gs, 0, none⟩) (d + 1) cap),
                 isV (.int .i64 (d : Int)),
                 isV (.slice (some ⟨gs, 0, none⟩) d cap),
                 isV (.agg #[.int .i64 (N9 : Int), .int .i64 ((N9 + 1 : Nat) : Int)]),
                 newB8 #[.int .i64 (N9 : Int), .int .i64 ((N9 + 1 : Nat) : Int)]]
                [some 43, some 44, some 45, some 46, some 47] #[true, true, true, true, true, false, false] (by kernel_rfl) rfl (by kernel_rfl) (by kernel_rfl) rfl rfl rfl Onto.trans Onto.refl ?monoQ ?obQ ?qQ
              case monoQ => exact ⟨isV_mono _ _, isV_mono _ _, isV_mono _ _, isV_mono _ _, newB8_mono _, trivial⟩
              case obQ =>
                refine Obs.cons (j := 1) rfl ?_ ?_
                · refine Ob.free [(7, none)] (by kernel_rfl) (isV (.slice (some ⟨gs, 0, none⟩) (d + 1) cap)) rfl rfl (fun a X hE hL => ?_)
                  simp [Seen, slotAt] at hL
                  have h7 := hL
                  rw [relAt_eq]
                  go_simp
                  exact ⟨Onto.refl _, rfl⟩
                refine Obs.cons (j := 2) rfl ?_ ?_
                · refine Ob.free [(11, none)] (by kernel_rfl) (isV (.int .i64 (d : Int))) rfl rfl (fun a X hE hL => ?_)
                  simp [Seen, slotAt] at hL
                  have h11 := hL
                  rw [relAt_eq]
                  go_simp
                  exact ⟨Onto.refl _, rfl⟩
                refine Obs.cons (j := 3) rfl ?_ ?_
                · refine Ob.free [(43, some 0), (44, some 1)] (by kernel_rfl) (isV (.slice (some ⟨gs, 0, none⟩) d cap)) rfl rfl (fun a X hE hL => ?_)
                  simp [Seen, slotAt, famV, isV] at hL
                  obtain ⟨h43, h44⟩ := hL
                  rw [relAt_eq]
                  go_simp
                  exact ⟨Onto.refl _, rfl⟩
                refine Obs.cons (j := 4) rfl ?_ ?_
                · refine Ob.free [(12, none)] (by kernel_rfl) (isV (.agg #[.int .i64 (N9 : Int), .int .i64 ((N9 + 1 : Nat) : Int)])) rfl rfl (fun a X hE hL => ?_)
                  simp [Seen, slotAt] at hL
                  have h12 := hL
                  rw [relAt_eq]
                  have hl9 := run_loadP0 X k N9 (N9 + 1) (PtAt.onto HK2.out (onto_drew hE))
                  go_simp
                  exact ⟨Onto.refl _, rfl⟩
                refine Obs.cons (j := 5) rfl ?_ ?_
                · refine Ob.free [(46, some 3)] (by kernel_rfl) (newB8 #[.int .i64 (N9 : Int), .int .i64 ((N9 + 1 : Nat) : Int)]) rfl rfl (fun a X hE hL => ?_)
                  simp [Seen, slotAt, famV, isV] at hL
                  have h46 := hL
                  rw [relAt_eq]
                  go_simp
                  refine ⟨(Below.refl _ _).alloc (Nat.le_refl _) _, X.heap.size, rfl, ?_⟩
                  exact heap_alloc_new X _
                exact trivial
              case qQ =>
                intro x wC hE hV
                simp [AllV, famV, isV] at hV
                obtain ⟨-, -, h45, -, h47⟩ := hV
                simp only [puts, Act.put, List.setIfInBounds_toArray, List.set_cons_zero, List.set_cons_succ, h45]
                generalize x 43 = y43
                generalize x 44 = y44
                generalize x 46 = y46
                generalize x 47 = y47 at h47 ⊢
                clear h45
                have hbC := onto_drew hE
                have HMC := Lib.hid (HMB.out.below hbC)
                have HKC := Lib.hid (HKB.out.trans (HMB.out.onto hbC))
                have HBC := Lib.hid (HBB.out.trans (hbC.mono (by have := HMB.out.le; omega)))
                have HOC := Lib.hid (ownB HPR.out hbC)
                have HFC : Hid (∀ k, (Value.slice (some ⟨gs, 0, none⟩) d cap).ownBlock = some k → FreeB B0 wC k) := Lib.hid fun k hk => ((HFB.out k hk).keeps (HMB.out.onto hbC)).1
                have hgC : w1.heap.size ≤ wC.heap.size := HKC.out.1
                obtain ⟨gn, rfl, hgn⟩ := h47
                clear hE hbC
                refine wpAny_ready (rs := [5]) (by kernel_rfl) (by simp) ?_
                refine AllReady.cons rfl (fun K hK => ?_) AllReady.nil
                rw [if_pos (by rfl)]
                refine wp_app_el (C := ptC) (n := d) (xs := ptsL es0 0) (v := .slice (some ⟨gs, 0, none⟩) d cap) (t := 76) (by decide) ptC_len ptC_one Try.underlying76 infoPt rfl _ _ _ rfl rfl HOC.out (⟨N9, N9 + 1⟩ : Pt) rfl hgn (by unfold maxLen; omega) (by omega) hgC ?_
                intro gg cc w6 hown6 hgrow6 hat6
                have HO6 := Lib.hid hown6
                obtain ⟨hm6, hk6, hb6, hf6⟩ := HMC.out.grown HKC.out (by have := HM1.out.le; omega) HBC.out hgrow6 (fun q hq => ⟨HFC.out q hq, (own_ge HOC.out hq).1⟩)
                have HM6 := Lib.hid hm6
                have HK6 := Lib.hid hk6
                have HB6 := Lib.hid hb6
                have HF6 : Hid (∀ q, (Value.slice (some ⟨gg, 0, none⟩) (d + 1) cc).ownBlock = some q → FreeB B0 w6 q) := Lib.hid fun q hq => by
                    have h9 := own_ge hown6 hq
                    injection hq with hq
                    subst hq
                    exact hf6 _ h9.2 hat6
                clear hown6 hgrow6 hat6 hm6 hk6 hb6 hf6
                refine hK _ _ ?_
                clear hK K
                try simp only [Act.put, List.getElem_toArray, List.getElem_cons_succ, List.getElem_cons_zero, List.setIfInBounds_toArray, List.set_cons_zero, List.set_cons_succ]
                refine wpAny_take (i := 6) (v := .slice (some ⟨gg, 0, none⟩) (d + 1) cc) rfl (by kernel_rfl) (by kernel_rfl) (by kernel_rfl) (fun _ _ _ h => h) (Or.inl ⟨by rfl, fun X => ?_⟩) ?_
                · go_simp
                try simp only [Act.put, List.getElem_toArray, List.getElem_cons_succ, List.getElem_cons_zero, List.setIfInBounds_toArray, List.set_cons_zero, List.set_cons_succ]
                refine wpAny_done (by kernel_rfl) ?_ _
                go_wp2
                go_roundw
                case rel => exact ⟨j + 1, es0 ++ [.star a'], M9, by omega, by go_num, by rw [List.reverse_append]; show evT _ (.star a' :: es0.reverse) = _; first | exact HEV2.out | (rw [HRV.out]; exact HEV2.out), by have h9 := sumP_step HSTEP.out; rw [List.reverse_append]; show sumP (.star a' :: es0.reverse) = _; rw [HSUM.out] at h9; first | exact h9 | (rw [HRV.out]; exact h9), ⟨by have h9 := HO6.out; rw [List.length_append, List.length_singleton, HD.out, ptsL_app, HPT.out]; exact h9, HF6.out, HM6.out, HOK9.out, HSM9.out, HK6.out, HB6.out⟩⟩
                case measure => simp [intOf]; omega
          | plus S a' st =>
            obtain ⟨es0, rfl, hst0⟩ := rv_top hst
            obtain ⟨PS9, hPS9⟩ : ∃ x, ptsL [a'] (szL es0) = x := ⟨_, rfl⟩
            obtain ⟨M9, hM9⟩ : ∃ x, stepM M 6 S PS9 = x := ⟨_, rfl⟩
            obtain ⟨N9, hN9⟩ : ∃ x, M.fr.length = x := ⟨_, rfl⟩
            have HOK0 : Hid (MOK M (es0 ++ [a'])) := Lib.hid (by have h9 := HOV.out.ok; simpa using h9)
            have HOK9 : Hid (MOK M9 (es0 ++ [.plus a'])) := Lib.hid (by rw [← hM9, ← hPS9]; exact HOK0.out.plus S)
            have HPT : Hid (ptsL [.plus a'] (0 + szL es0) = [(⟨N9, N9 + 1⟩ : Pt)]) := Lib.hid (by
              have h9 := HOK0.out.len
              rw [szL_app] at h9
              rw [Nat.zero_add, ptsL_one, ← hN9, h9]
              simp only [ptT, inS, outS, szL, sz_plus]
              all_goals (congr 2 <;> omega))
            have hpl : PS9.length = 1 := by rw [← hPS9, ptsL_len]; rfl
            have HSM9 : Hid (Small M9 (2 * (j + 1)) (8 * (j + 1))) := Lib.hid (by rw [← hM9]; have h9 := HOV.out.sm.step 6 S PS9 (by omega); rw [show 2 * (j + 1) = 2 * j + 2 by omega, show 8 * (j + 1) = 8 * j + 8 by omega]; exact h9)
            have HCL : Hid (∀ X A c, IM B0 M M9 false X → RowF B0 PS9 1 A X → Calls Try.prog 34 #[.pointer (some ⟨B0, 0, none⟩), .agg #[.int .i64 6, .int .u64 (wd S 0), .int .u64 (wd S 1), .int .u64 (wd S 2), .int .u64 (wd S 3)], .slice A 1 c] X fun e w' => GivM9 B0 M9 [] (.agg #[.int .i64 (N9 : Int), .int .i64 ((N9 + 1 : Nat) : Int)]) X e w') := Lib.hid fun X A c hX hR => by
              have h9 := step_any B0 X M hX 6 S PS9 A 1 c hR.1 hR.2 (by unfold StepK; omega) (fun p hp => by
                rw [← hPS9] at hp
                have h8 := ptsL_lt _ _ p hp
                have h7 := HOK0.out.len
                rw [szL_app] at h7
                omega) (by have := HOV.out.sm.1; omega) (fun l hl => Nat.le_trans (HOV.out.sm.2 l hl) (by omega))
              rw [hM9, hN9] at h9
              exact h9
            have HPS9 := Lib.hid hPS9
            clear hPS9 hM9 hN9 hpl
            have HST := Lib.hid hst
            have HRV := Lib.hid hst0
            obtain ⟨d, hd⟩ : ∃ d, es0.length = d := ⟨_, rfl⟩
            have HD := Lib.hid hd
            have hlen : (es0 ++ [a']).length = d + 1 := by simp [hd]
            have hpp : ptsL (es0 ++ [a']) 0 = ptsL es0 0 ++ PS9 := by rw [← HPS9.out]; simp [ptsL_app]
            have hpd : (ptsL es0 0).length = d := by rw [ptsL_len, hd]
            have HDR : Hid ((ptsL (es0 ++ [a']) 0).drop d = PS9) := Lib.hid (by rw [hpp, ← hpd]; simp)
            have HTK : Hid ((ptsL (es0 ++ [a']) 0).take d = ptsL es0 0) := Lib.hid (by rw [hpp, ← hpd]; simp)
            rw [hlen] at hcap hsl HOW HROW HOV ⊢
            have y0 : ((d + 1 : Nat) : Int) - 1 = (d : Int) := by omega
            have y1 : (d : Int) + 1 - 1 = (d : Int) := by omega
            have y2 : (d : Int) ≤ (d : Int) + 1 := by omega
            have y3 : d ≤ cap := by omega
            have y4 : (d : Int) ≤ (cap : Int) := by omega
            clear hd hlen hst hpp hpd
            go_wp2_with fail
            refine wp_region_fam_tailS_lit (E := EM B0) (O := Onto) (I := IM B0 M M9) 6 8 1
              [isV (.func (.func 34) #[.pointer (some ⟨B0, 0, none⟩)] #[]),
               isV (.agg #[.int .i64 6, .int .u64 (wd S 0), .int .u64 (wd S 1), .int .u64 (wd S 2), .int .u64 (wd S 3)]),
               isV (.slice (some ⟨gs, 0, none⟩) (d + 1) cap),
               isV (.int .i64 (d : Int)),
               rowVP B0 PS9 1,
               rowVP B0 PS9 1,
               isV (.agg #[.int .i64 (N9 : Int), .int .i64 ((N9 + 1 : Nat) : Int)]),
               newP B0 wr.heap.size]
              [some 36, some 37, some 38, some 39, some 40, some 41, some 42, some 12] #[true, true, true, true, true, true, true, true, false] (by kernel_rfl) rfl (by kernel_rfl) (by kernel_rfl) rfl rfl rfl (EM.trans (B := B0)) (EM.refl B0) IM.of (by decide) ?iz ?monoP ?obP ?qP
            case iz => exact HIX.out
            case monoP => exact ⟨isV_mono _ _, isV_mono _ _, isV_mono _ _, isV_mono _ _, rowVP_mono _ _ _, rowVP_mono _ _ _, isV_mono _ _, newP_mono _ _, trivial⟩
            case obP =>
              refine ObsS.cons (j := 1) rfl (by decide) ?_ ?_
              · refine ObS.free [(1, none)] (by kernel_rfl) (isV (.func (.func 34) #[.pointer (some ⟨B0, 0, none⟩)] #[])) rfl rfl (fun a X hE hL => ?_)
                simp [Seen, slotAt] at hL
                have h1 := hL
                rw [relAt_eq]
                go_simp
                exact ⟨Onto.refl _, rfl⟩
              refine ObsS.cons (j := 2) rfl (by decide) ?_ ?_
              · refine ObS.free [(9, none)] (by kernel_rfl) (isV (.agg #[.int .i64 6, .int .u64 (wd S 0), .int .u64 (wd S 1), .int .u64 (wd S 2), .int .u64 (wd S 3)])) rfl rfl (fun a X hE hL => ?_)
                simp [Seen, slotAt] at hL
                have h9 := hL
                rw [relAt_eq]
                have hbx9 := (HBX.out.keeps hE.1.1).2
                unfold boxR at hbx9
                have f0 := (cell_of_row X wr.heap.size 0 _ _ _ hbx9).trans rfl
                have f1 := (cell_of_row X wr.heap.size 1 _ _ _ hbx9).trans rfl
                have f2 := (cell_of_row X wr.heap.size 2 _ _ _ hbx9).trans rfl
                have f3 := (cell_of_row X wr.heap.size 3 _ _ _ hbx9).trans rfl
                have f4 := (cell_of_row X wr.heap.size 4 _ _ _ hbx9).trans rfl
                go_simp
                exact ⟨Onto.refl _, rfl⟩
              refine ObsS.cons (j := 3) rfl (by decide) ?_ ?_
              · refine ObS.free [(7, none)] (by kernel_rfl) (isV (.slice (some ⟨gs, 0, none⟩) (d + 1) cap)) rfl rfl (fun a X hE hL => ?_)
                simp [Seen, slotAt] at hL
                have h7 := hL
                rw [relAt_eq]
                go_simp
                exact ⟨Onto.refl _, rfl⟩
              refine ObsS.cons (j := 4) rfl (by decide) ?_ ?_
              · refine ObS.free [(11, none)] (by kernel_rfl) (isV (.int .i64 (d : Int))) rfl rfl (fun a X hE hL => ?_)
                simp [Seen, slotAt] at hL
                have h11 := hL
                rw [relAt_eq]
                go_simp
                exact ⟨Onto.refl _, rfl⟩
              refine ObsS.cons (j := 5) rfl (by decide) ?_ ?_
              · refine ObS.free [(38, some 2), (39, some 3)] (by kernel_rfl) (rowVP B0 PS9 1) rfl rfl (fun a X hE hL => ?_)
                simp [Seen, slotAt, famV, isV] at hL
                obtain ⟨h38, h39⟩ := hL
                rw [relAt_eq]
                go_simp
                refine ⟨Onto.refl _, _, _, rfl, ?_⟩
                by_cases hcd : cap = d
                · omega
                · rw [if_neg hcd]
                  have h9 := HROW.out.keeps (HKX.out.trans hE.1.1)
                  refine ⟨?_, fun b off e ha => by simp only [Option.some.injEq, Addr.mk.injEq] at ha; obtain ⟨rfl, _, _⟩ := ha; exact h9.2 _ _ _ rfl⟩
                  have h8 := crow_dropd (d := d) h9.1
                  rw [Nat.zero_add, HDR.out] at h8
                  simpa using h8
              refine ObsS.cons (j := 6) rfl (by decide) ?_ ?_
              · refine ObS.free [(40, some 4)] (by kernel_rfl) (rowVP B0 PS9 1) rfl rfl (fun a X hE hL => ?_)
                simp [Seen, slotAt, famV] at hL
                have h40 := hL
                rw [relAt_eq]
                obtain ⟨A9, c9, e9, r9⟩ := h40
                go_simp
                rw [relUpon_enter]
                go_at_call 51
                refine (cloneP_any X A9 1 c9 _ r9.1 (by omega)).mono ?_
                rintro e Y ⟨A2, c2, rfl, hr2, hY, hf2⟩
                refine ⟨_, rfl, hY, A2, c2, rfl, hr2, fun b off e ha => ?_⟩
                obtain ⟨q1, q2⟩ := hf2 b off e ha
                obtain ⟨b9, hb9⟩ := hE.2
                exact MX.free hb9 hY q1 q2
              refine ObsS.here (j := 7) rfl rfl rfl ?_ ?_
              · refine ObS.free [(36, some 0), (37, some 1), (41, some 5)] (by kernel_rfl) (isV (.agg #[.int .i64 (N9 : Int), .int .i64 ((N9 + 1 : Nat) : Int)])) rfl rfl (fun a X hE hL => ?_)
                simp [Seen, slotAt, famV, isV] at hL
                obtain ⟨h36, h37, h41⟩ := hL
                rw [relAt_eq]
                obtain ⟨A9, c9, e9, r9⟩ := h41
                go_simp
                rw [relUpon_enter]
                go_at_call 34
                refine (HCL.out X A9 c9 hE.2 r9).mono ?_
                rintro e Y ⟨rfl, hY1, hY2, hY3⟩
                exact ⟨_, rfl, ⟨⟨hY3, hY2⟩, hY1⟩, rfl⟩
              refine ObsS.cons (j := 8) rfl (by decide) ?_ ?_
              · refine ObS.free [] (by kernel_rfl) (newP B0 wr.heap.size) rfl rfl (fun a X hE hL => ?_)
                rw [relAt_eq]
                go_simp
                exact ⟨(Below.refl _ _).alloc (Nat.le_refl _) _, X.heap.size, rfl, by have h9 := hE.1.1.1; simp at h9; omega, IM.free hE.2 ((Below.refl _ _).alloc (Nat.le_refl _) ZP) (Nat.le_refl _) (heap_alloc_new X ZP)⟩
              exact trivial
            case qP =>
              intro x wA hE hI hV
              simp [AllV, famV, isV] at hV
              obtain ⟨-, -, -, -, -, -, h42, h12⟩ := hV
              simp only [puts, Act.put, List.setIfInBounds_toArray, List.set_cons_zero, List.set_cons_succ, h42]
              generalize x 36 = y36
              generalize x 37 = y37
              generalize x 38 = y38
              generalize x 39 = y39
              generalize x 40 = y40
              generalize x 41 = y41
              generalize x 12 = y12 at h12 ⊢
              clear h42
              obtain ⟨k, rfl, hgk, hk⟩ := h12
              have HK := Lib.hid hk
              have HTA : Hid (KeepsR B0 wr wA ∧ Below B0 wr wA) := Lib.hid ⟨HKX.out.trans hE.1, (HWX.out.mono (by have := HM1.out.le; have := HGL.out; omega)).trans hE.2⟩
              have HMA : Hid (MX B0 wA M9 []) := Lib.hid hI
              clear hE hI hk
              refine wpAny_ready (rs := [8]) (by kernel_rfl) (by simp) ?_
              refine AllReady.cons rfl (fun K hK => ?_) AllReady.nil
              rw [if_pos (by rfl)]
              refine wp_store_pt _ _ rfl k 0 0 N9 (N9 + 1) rfl rfl HK.out.2 ?_
              intro wB hK2 hBB hO hS
              have HK2 := Lib.hid hK2
              have HMB := Lib.hid (HMA.out.kept HK.out.1 hO hS)
              have hown9 := fun k hk => (MX.kept_own HMA.out HK.out.1 hO hS k).1 hk
              have hfq := (HOV.out.free gs rfl).keeps HTA.out.1
              have hkg : gs ≠ k := by have := (HOV.out.free gs rfl).1; omega
              have hq9 : ∀ q, (Value.slice (some ⟨gs, 0, none⟩) (d + 1) cap).ownBlock = some q → wB.heap[q]? = wr.heap[q]? := fun q hq => by
                  injection hq with hq
                  subst hq
                  exact (hO gs hkg).trans hfq.2
              have HFB : Hid (∀ q, (Value.slice (some ⟨gs, 0, none⟩) d cap).ownBlock = some q → FreeB B0 wB q) := Lib.hid fun q hq => by
                  injection hq with hq
                  subst hq
                  exact ⟨by rw [hS]; exact hfq.1.1, hfq.1.2.1, fun ho => hfq.1.2.2 (hown9 _ ho)⟩
              have HKB : Hid (KeepsR B0 w1 wB) := Lib.hid ⟨by rw [hS]; exact Nat.le_trans HKR.out.1 HTA.out.1.1, fun q hq hx hno => by
                  obtain ⟨e, n9⟩ := (HKR.out.trans HTA.out.1).2 q hq hx hno
                  exact ⟨(hO q (by have := HGL.out; omega)).trans e, fun ho => n9 (hown9 q ho)⟩⟩
              have HBB : Hid (Below B0 w1 wB) := Lib.hid (HOV.out.bw.trans (HTA.out.2.trans (hBB B0 (by have := HMA.out.le; have := HIX.out.le; have := HRS.out; have := HM1.out.le; have := HGL.out; omega))))
              have HPR : Hid (wB.ownsRow w1.heap.size 52 2 (.slice (some ⟨gs, 0, none⟩) d cap) d ((ptsL es0 0).flatMap ptC)) := Lib.hid (by have h9 := own_prefix (d := d) (own_kept HOW.out hq9) (by omega) (by simp); rw [flat_take_c ptC_len, HTK.out] at h9; exact h9)
              clear hK2 hBB hO hS HK hown9 hfq hq9 hkg
              refine hK _ _ ?_
              clear hK K
              try simp only [Act.put, List.getElem_toArray, List.getElem_cons_succ, List.getElem_cons_zero, List.setIfInBounds_toArray, List.set_cons_zero, List.set_cons_succ]
              refine wpAny_done (by kernel_rfl) ?_ _
              go_wp2_with fail
              refine wp_region_fam_tail_lit (E := Onto) 5 2
                [isV (.slice (some ⟨gs, 0, none⟩) (d + 1) cap),
                 isV (.int .i64 (d : Int)),
                 isV (.slice (some ⟨gs, 0, none⟩) d cap),
                 isV (.agg #[.int .i64 (N9 : Int), .int .i64 ((N9 + 1 : Nat) : Int)]),
                 newB8 #[.int .i64 (N9 : Int), .int .i64 ((N9 + 1 : Nat) : Int)]]
                [some 43, some 44, some 45, some 46, some 47] #[true, true, true, true, true, false, false] (by kernel_rfl) rfl (by kernel_rfl) (by kernel_rfl) rfl rfl rfl Onto.trans Onto.refl ?monoQ ?obQ ?qQ
              case monoQ => exact ⟨isV_mono _ _, isV_mono _ _, isV_mono _ _, isV_mono _ _, newB8_mono _, trivial⟩
              case obQ =>
                refine Obs.cons (j := 1) rfl ?_ ?_
                · refine Ob.free [(7, none)] (by kernel_rfl) (isV (.slice (some ⟨gs, 0, none⟩) (d + 1) cap)) rfl rfl (fun a X hE hL => ?_)
                  simp [Seen, slotAt] at hL
                  have h7 := hL
                  rw [relAt_eq]
                  go_simp
                  exact ⟨Onto.refl _, rfl⟩
                refine Obs.cons (j := 2) rfl ?_ ?_
                · refine Ob.free [(11, none)] (by kernel_rfl) (isV (.int .i64 (d : Int))) rfl rfl (fun a X hE hL => ?_)
                  simp [Seen, slotAt] at hL
                  have h11 := hL
                  rw [relAt_eq]
                  go_simp
                  exact ⟨Onto.refl _, rfl⟩
                refine Obs.cons (j := 3) rfl ?_ ?_
                · refine Ob.free [(43, some 0), (44, some 1)] (by kernel_rfl) (isV (.slice (some ⟨gs, 0, none⟩) d cap)) rfl rfl (fun a X hE hL => ?_)
                  simp [Seen, slotAt, famV, isV] at hL
                  obtain ⟨h43, h44⟩ := hL
                  rw [relAt_eq]
                  go_simp
                  exact ⟨Onto.refl _, rfl⟩
                refine Obs.cons (j := 4) rfl ?_ ?_
                · refine Ob.free [(12, none)] (by kernel_rfl) (isV (.agg #[.int .i64 (N9 : Int), .int .i64 ((N9 + 1 : Nat) : Int)])) rfl rfl (fun a X hE hL => ?_)
                  simp [Seen, slotAt] at hL
                  have h12 := hL
                  rw [relAt_eq]
                  have hl9 := run_loadP0 X k N9 (N9 + 1) (PtAt.onto HK2.out (onto_drew hE))
                  go_simp
                  exact ⟨Onto.refl _, rfl⟩
                refine Obs.cons (j := 5) rfl ?_ ?_
                · refine Ob.free [(46, some 3)] (by kernel_rfl) (newB8 #[.int .i64 (N9 : Int), .int .i64 ((N9 + 1 : Nat) : Int)]) rfl rfl (fun a X hE hL => ?_)
                  simp [Seen, slotAt, famV, isV] at hL
                  have h46 := hL
                  rw [relAt_eq]
                  go_simp
                  refine ⟨(Below.refl _ _).alloc (Nat.le_refl _) _, X.heap.size, rfl, ?_⟩
                  exact heap_alloc_new X _
                exact trivial
              case qQ =>
                intro x wC hE hV
                simp [AllV, famV, isV] at hV
                obtain ⟨-, -, h45, -, h47⟩ := hV
                simp only [puts, Act.put, List.setIfInBounds_toArray, List.set_cons_zero, List.set_cons_succ, h45]
                generalize x 43 = y43
                generalize x 44 = y44
                generalize x 46 = y46
                generalize x 47 = y47 at h47 ⊢
                clear h45
                have hbC := onto_drew hE
                have HMC := Lib.hid (HMB.out.below hbC)
                have HKC := Lib.hid (HKB.out.trans (HMB.out.onto hbC))
                have HBC := Lib.hid (HBB.out.trans (hbC.mono (by have := HMB.out.le; omega)))
                have HOC := Lib.hid (ownB HPR.out hbC)
                have HFC : Hid (∀ k, (Value.slice (some ⟨gs, 0, none⟩) d cap).ownBlock = some k → FreeB B0 wC k) := Lib.hid fun k hk => ((HFB.out k hk).keeps (HMB.out.onto hbC)).1
                have hgC : w1.heap.size ≤ wC.heap.size := HKC.out.1
                obtain ⟨gn, rfl, hgn⟩ := h47
                clear hE hbC
                refine wpAny_ready (rs := [5]) (by kernel_rfl) (by simp) ?_
                refine AllReady.cons rfl (fun K hK => ?_) AllReady.nil
                rw [if_pos (by rfl)]
                refine wp_app_el (C := ptC) (n := d) (xs := ptsL es0 0) (v := .slice (some ⟨gs, 0, none⟩) d cap) (t := 76) (by decide) ptC_len ptC_one Try.underlying76 infoPt rfl _ _ _ rfl rfl HOC.out (⟨N9, N9 + 1⟩ : Pt) rfl hgn (by unfold maxLen; omega) (by omega) hgC ?_
                intro gg cc w6 hown6 hgrow6 hat6
                have HO6 := Lib.hid hown6
                obtain ⟨hm6, hk6, hb6, hf6⟩ := HMC.out.grown HKC.out (by have := HM1.out.le; omega) HBC.out hgrow6 (fun q hq => ⟨HFC.out q hq, (own_ge HOC.out hq).1⟩)
                have HM6 := Lib.hid hm6
                have HK6 := Lib.hid hk6
                have HB6 := Lib.hid hb6
                have HF6 : Hid (∀ q, (Value.slice (some ⟨gg, 0, none⟩) (d + 1) cc).ownBlock = some q → FreeB B0 w6 q) := Lib.hid fun q hq => by
                    have h9 := own_ge hown6 hq
                    injection hq with hq
                    subst hq
                    exact hf6 _ h9.2 hat6
                clear hown6 hgrow6 hat6 hm6 hk6 hb6 hf6
                refine hK _ _ ?_
                clear hK K
                try simp only [Act.put, List.getElem_toArray, List.getElem_cons_succ, List.getElem_cons_zero, List.setIfInBounds_toArray, List.set_cons_zero, List.set_cons_succ]
                refine wpAny_take (i := 6) (v := .slice (some ⟨gg, 0, none⟩) (d + 1) cc) rfl (by kernel_rfl) (by kernel_rfl) (by kernel_rfl) (fun _ _ _ h => h) (Or.inl ⟨by rfl, fun X => ?_⟩) ?_
                · go_simp
                try simp only [Act.put, List.getElem_toArray, List.getElem_cons_succ, List.getElem_cons_zero, List.setIfInBounds_toArray, List.set_cons_zero, List.set_cons_succ]
                refine wpAny_done (by kernel_rfl) ?_ _
                go_wp2
                go_roundw
                case rel => exact ⟨j + 1, es0 ++ [.plus a'], M9, by omega, by go_num, by rw [List.reverse_append]; show evT _ (.plus a' :: es0.reverse) = _; first | exact HEV2.out | (rw [HRV.out]; exact HEV2.out), by have h9 := sumP_step HSTEP.out; rw [List.reverse_append]; show sumP (.plus a' :: es0.reverse) = _; rw [HSUM.out] at h9; first | exact h9 | (rw [HRV.out]; exact h9), ⟨by have h9 := HO6.out; rw [List.length_append, List.length_singleton, HD.out, ptsL_app, HPT.out]; exact h9, HF6.out, HM6.out, HOK9.out, HSM9.out, HK6.out, HB6.out⟩⟩
                case measure => simp [intOf]; omega
          | opt S a' st =>
            obtain ⟨es0, rfl, hst0⟩ := rv_top hst
            obtain ⟨PS9, hPS9⟩ : ∃ x, ptsL [a'] (szL es0) = x := ⟨_, rfl⟩
            obtain ⟨M9, hM9⟩ : ∃ x, stepM M 7 S PS9 = x := ⟨_, rfl⟩
            obtain ⟨N9, hN9⟩ : ∃ x, M.fr.length = x := ⟨_, rfl⟩
            have HOK0 : Hid (MOK M (es0 ++ [a'])) := Lib.hid (by have h9 := HOV.out.ok; simpa using h9)
            have HOK9 : Hid (MOK M9 (es0 ++ [.opt a'])) := Lib.hid (by rw [← hM9, ← hPS9]; exact HOK0.out.opt S)
            have HPT : Hid (ptsL [.opt a'] (0 + szL es0) = [(⟨N9, N9 + 1⟩ : Pt)]) := Lib.hid (by
              have h9 := HOK0.out.len
              rw [szL_app] at h9
              rw [Nat.zero_add, ptsL_one, ← hN9, h9]
              simp only [ptT, inS, outS, szL, sz_opt]
              all_goals (congr 2 <;> omega))
            have hpl : PS9.length = 1 := by rw [← hPS9, ptsL_len]; rfl
            have HSM9 : Hid (Small M9 (2 * (j + 1)) (8 * (j + 1))) := Lib.hid (by rw [← hM9]; have h9 := HOV.out.sm.step 7 S PS9 (by omega); rw [show 2 * (j + 1) = 2 * j + 2 by omega, show 8 * (j + 1) = 8 * j + 8 by omega]; exact h9)
            have HCL : Hid (∀ X A c, IM B0 M M9 false X → RowF B0 PS9 1 A X → Calls Try.prog 34 #[.pointer (some ⟨B0, 0, none⟩), .agg #[.int .i64 7, .int .u64 (wd S 0), .int .u64 (wd S 1), .int .u64 (wd S 2), .int .u64 (wd S 3)], .slice A 1 c] X fun e w' => GivM9 B0 M9 [] (.agg #[.int .i64 (N9 : Int), .int .i64 ((N9 + 1 : Nat) : Int)]) X e w') := Lib.hid fun X A c hX hR => by
              have h9 := step_any B0 X M hX 7 S PS9 A 1 c hR.1 hR.2 (by unfold StepK; omega) (fun p hp => by
                rw [← hPS9] at hp
                have h8 := ptsL_lt _ _ p hp
                have h7 := HOK0.out.len
                rw [szL_app] at h7
                omega) (by have := HOV.out.sm.1; omega) (fun l hl => Nat.le_trans (HOV.out.sm.2 l hl) (by omega))
              rw [hM9, hN9] at h9
              exact h9
            have HPS9 := Lib.hid hPS9
            clear hPS9 hM9 hN9 hpl
            have HST := Lib.hid hst
            have HRV := Lib.hid hst0
            obtain ⟨d, hd⟩ : ∃ d, es0.length = d := ⟨_, rfl⟩
            have HD := Lib.hid hd
            have hlen : (es0 ++ [a']).length = d + 1 := by simp [hd]
            have hpp : ptsL (es0 ++ [a']) 0 = ptsL es0 0 ++ PS9 := by rw [← HPS9.out]; simp [ptsL_app]
            have hpd : (ptsL es0 0).length = d := by rw [ptsL_len, hd]
            have HDR : Hid ((ptsL (es0 ++ [a']) 0).drop d = PS9) := Lib.hid (by rw [hpp, ← hpd]; simp)
            have HTK : Hid ((ptsL (es0 ++ [a']) 0).take d = ptsL es0 0) := Lib.hid (by rw [hpp, ← hpd]; simp)
            rw [hlen] at hcap hsl HOW HROW HOV ⊢
            have y0 : ((d + 1 : Nat) : Int) - 1 = (d : Int) := by omega
            have y1 : (d : Int) + 1 - 1 = (d : Int) := by omega
            have y2 : (d : Int) ≤ (d : Int) + 1 := by omega
            have y3 : d ≤ cap := by omega
            have y4 : (d : Int) ≤ (cap : Int) := by omega
            clear hd hlen hst hpp hpd
            go_wp2_with fail
            refine wp_region_fam_tailS_lit (E := EM B0) (O := Onto) (I := IM B0 M M9) 6 8 1
              [isV (.func (.func 34) #[.pointer (some ⟨B0, 0, none⟩)] #[]),
               isV (.agg #[.int .i64 7, .int .u64 (wd S 0), .int .u64 (wd S 1), .int .u64 (wd S 2), .int .u64 (wd S 3)]),
               isV (.slice (some ⟨gs, 0, none⟩) (d + 1) cap),
               isV (.int .i64 (d : Int)),
               rowVP B0 PS9 1,
               rowVP B0 PS9 1,
               isV (.agg #[.int .i64 (N9 : Int), .int .i64 ((N9 + 1 : Nat) : Int)]),
               newP B0 wr.heap.size]
              [some 36, some 37, some 38, some 39, some 40, some 41, some 42, some 12] #[true, true, true, true, true, true, true, true, false] (by kernel_rfl) rfl (by kernel_rfl) (by kernel_rfl) rfl rfl rfl (EM.trans (B := B0)) (EM.refl B0) IM.of (by decide) ?iz ?monoP ?obP ?qP
            case iz => exact HIX.out
            case monoP => exact ⟨isV_mono _ _, isV_mono _ _, isV_mono _ _, isV_mono _ _, rowVP_mono _ _ _, rowVP_mono _ _ _, isV_mono _ _, newP_mono _ _, trivial⟩
            case obP =>
              refine ObsS.cons (j := 1) rfl (by decide) ?_ ?_
              · refine ObS.free [(1, none)] (by kernel_rfl) (isV (.func (.func 34) #[.pointer (some ⟨B0, 0, none⟩)] #[])) rfl rfl (fun a X hE hL => ?_)
                simp [Seen, slotAt] at hL
                have h1 := hL
                rw [relAt_eq]
                go_simp
                exact ⟨Onto.refl _, rfl⟩
              refine ObsS.cons (j := 2) rfl (by decide) ?_ ?_
              · refine ObS.free [(9, none)] (by kernel_rfl) (isV (.agg #[.int .i64 7, .int .u64 (wd S 0), .int .u64 (wd S 1), .int .u64 (wd S 2), .int .u64 (wd S 3)])) rfl rfl (fun a X hE hL => ?_)
                simp [Seen, slotAt] at hL
                have h9 := hL
                rw [relAt_eq]
                have hbx9 := (HBX.out.keeps hE.1.1).2
                unfold boxR at hbx9
                have f0 := (cell_of_row X wr.heap.size 0 _ _ _ hbx9).trans rfl
                have f1 := (cell_of_row X wr.heap.size 1 _ _ _ hbx9).trans rfl
                have f2 := (cell_of_row X wr.heap.size 2 _ _ _ hbx9).trans rfl
                have f3 := (cell_of_row X wr.heap.size 3 _ _ _ hbx9).trans rfl
                have f4 := (cell_of_row X wr.heap.size 4 _ _ _ hbx9).trans rfl
                go_simp
                exact ⟨Onto.refl _, rfl⟩
              refine ObsS.cons (j := 3) rfl (by decide) ?_ ?_
              · refine ObS.free [(7, none)] (by kernel_rfl) (isV (.slice (some ⟨gs, 0, none⟩) (d + 1) cap)) rfl rfl (fun a X hE hL => ?_)
                simp [Seen, slotAt] at hL
                have h7 := hL
                rw [relAt_eq]
                go_simp
                exact ⟨Onto.refl _, rfl⟩
              refine ObsS.cons (j := 4) rfl (by decide) ?_ ?_
              · refine ObS.free [(11, none)] (by kernel_rfl) (isV (.int .i64 (d : Int))) rfl rfl (fun a X hE hL => ?_)
                simp [Seen, slotAt] at hL
                have h11 := hL
                rw [relAt_eq]
                go_simp
                exact ⟨Onto.refl _, rfl⟩
              refine ObsS.cons (j := 5) rfl (by decide) ?_ ?_
              · refine ObS.free [(38, some 2), (39, some 3)] (by kernel_rfl) (rowVP B0 PS9 1) rfl rfl (fun a X hE hL => ?_)
                simp [Seen, slotAt, famV, isV] at hL
                obtain ⟨h38, h39⟩ := hL
                rw [relAt_eq]
                go_simp
                refine ⟨Onto.refl _, _, _, rfl, ?_⟩
                by_cases hcd : cap = d
                · omega
                · rw [if_neg hcd]
                  have h9 := HROW.out.keeps (HKX.out.trans hE.1.1)
                  refine ⟨?_, fun b off e ha => by simp only [Option.some.injEq, Addr.mk.injEq] at ha; obtain ⟨rfl, _, _⟩ := ha; exact h9.2 _ _ _ rfl⟩
                  have h8 := crow_dropd (d := d) h9.1
                  rw [Nat.zero_add, HDR.out] at h8
                  simpa using h8
              refine ObsS.cons (j := 6) rfl (by decide) ?_ ?_
              · refine ObS.free [(40, some 4)] (by kernel_rfl) (rowVP B0 PS9 1) rfl rfl (fun a X hE hL => ?_)
                simp [Seen, slotAt, famV] at hL
                have h40 := hL
                rw [relAt_eq]
                obtain ⟨A9, c9, e9, r9⟩ := h40
                go_simp
                rw [relUpon_enter]
                go_at_call 51
                refine (cloneP_any X A9 1 c9 _ r9.1 (by omega)).mono ?_
                rintro e Y ⟨A2, c2, rfl, hr2, hY, hf2⟩
                refine ⟨_, rfl, hY, A2, c2, rfl, hr2, fun b off e ha => ?_⟩
                obtain ⟨q1, q2⟩ := hf2 b off e ha
                obtain ⟨b9, hb9⟩ := hE.2
                exact MX.free hb9 hY q1 q2
              refine ObsS.here (j := 7) rfl rfl rfl ?_ ?_
              · refine ObS.free [(36, some 0), (37, some 1), (41, some 5)] (by kernel_rfl) (isV (.agg #[.int .i64 (N9 : Int), .int .i64 ((N9 + 1 : Nat) : Int)])) rfl rfl (fun a X hE hL => ?_)
                simp [Seen, slotAt, famV, isV] at hL
                obtain ⟨h36, h37, h41⟩ := hL
                rw [relAt_eq]
                obtain ⟨A9, c9, e9, r9⟩ := h41
                go_simp
                rw [relUpon_enter]
                go_at_call 34
                refine (HCL.out X A9 c9 hE.2 r9).mono ?_
                rintro e Y ⟨rfl, hY1, hY2, hY3⟩
                exact ⟨_, rfl, ⟨⟨hY3, hY2⟩, hY1⟩, rfl⟩
              refine ObsS.cons (j := 8) rfl (by decide) ?_ ?_
              · refine ObS.free [] (by kernel_rfl) (newP B0 wr.heap.size) rfl rfl (fun a X hE hL => ?_)
                rw [relAt_eq]
                go_simp
                exact ⟨(Below.refl _ _).alloc (Nat.le_refl _) _, X.heap.size, rfl, by have h9 := hE.1.1.1; simp at h9; omega, IM.free hE.2 ((Below.refl _ _).alloc (Nat.le_refl _) ZP) (Nat.le_refl _) (heap_alloc_new X ZP)⟩
              exact trivial
            case qP =>
              intro x wA hE hI hV
              simp [AllV, famV, isV] at hV
              obtain ⟨-, -, -, -, -, -, h42, h12⟩ := hV
              simp only [puts, Act.put, List.setIfInBounds_toArray, List.set_cons_zero, List.set_cons_succ, h42]
              generalize x 36 = y36
              generalize x 37 = y37
              generalize x 38 = y38
              generalize x 39 = y39
              generalize x 40 = y40
              generalize x 41 = y41
              generalize x 12 = y12 at h12 ⊢
              clear h42
              obtain ⟨k, rfl, hgk, hk⟩ := h12
              have HK := Lib.hid hk
              have HTA : Hid (KeepsR B0 wr wA ∧ Below B0 wr wA) := Lib.hid ⟨HKX.out.trans hE.1, (HWX.out.mono (by have := HM1.out.le; have := HGL.out; omega)).trans hE.2⟩
              have HMA : Hid (MX B0 wA M9 []) := Lib.hid hI
              clear hE hI hk
              refine wpAny_ready (rs := [8]) (by kernel_rfl) (by simp) ?_
              refine AllReady.cons rfl (fun K hK => ?_) AllReady.nil
              rw [if_pos (by rfl)]
              refine wp_store_pt _ _ rfl k 0 0 N9 (N9 + 1) rfl rfl HK.out.2 ?_
              intro wB hK2 hBB hO hS
              have HK2 := Lib.hid hK2
              have HMB := Lib.hid (HMA.out.kept HK.out.1 hO hS)
              have hown9 := fun k hk => (MX.kept_own HMA.out HK.out.1 hO hS k).1 hk
              have hfq := (HOV.out.free gs rfl).keeps HTA.out.1
              have hkg : gs ≠ k := by have := (HOV.out.free gs rfl).1; omega
              have hq9 : ∀ q, (Value.slice (some ⟨gs, 0, none⟩) (d + 1) cap).ownBlock = some q → wB.heap[q]? = wr.heap[q]? := fun q hq => by
                  injection hq with hq
                  subst hq
                  exact (hO gs hkg).trans hfq.2
              have HFB : Hid (∀ q, (Value.slice (some ⟨gs, 0, none⟩) d cap).ownBlock = some q → FreeB B0 wB q) := Lib.hid fun q hq => by
                  injection hq with hq
                  subst hq
                  exact ⟨by rw [hS]; exact hfq.1.1, hfq.1.2.1, fun ho => hfq.1.2.2 (hown9 _ ho)⟩
              have HKB : Hid (KeepsR B0 w1 wB) := Lib.hid ⟨by rw [hS]; exact Nat.le_trans HKR.out.1 HTA.out.1.1, fun q hq hx hno => by
                  obtain ⟨e, n9⟩ := (HKR.out.trans HTA.out.1).2 q hq hx hno
                  exact ⟨(hO q (by have := HGL.out; omega)).trans e, fun ho => n9 (hown9 q ho)⟩⟩
              have HBB : Hid (Below B0 w1 wB) := Lib.hid (HOV.out.bw.trans (HTA.out.2.trans (hBB B0 (by have := HMA.out.le; have := HIX.out.le; have := HRS.out; have := HM1.out.le; have := HGL.out; omega))))
              have HPR : Hid (wB.ownsRow w1.heap.size 52 2 (.slice (some ⟨gs, 0, none⟩) d cap) d ((ptsL es0 0).flatMap ptC)) := Lib.hid (by have h9 := own_prefix (d := d) (own_kept HOW.out hq9) (by omega) (by simp); rw [flat_take_c ptC_len, HTK.out] at h9; exact h9)
              clear hK2 hBB hO hS HK hown9 hfq hq9 hkg
              refine hK _ _ ?_
              clear hK K
              try simp only [Act.put, List.getElem_toArray, List.getElem_cons_succ, List.getElem_cons_zero, List.setIfInBounds_toArray, List.set_cons_zero, List.set_cons_succ]
              refine wpAny_done (by kernel_rfl) ?_ _
              go_wp2_with fail
              refine wp_region_fam_tail_lit (E := Onto) 5 2
                [isV (.slice (some ⟨gs, 0, none⟩) (d + 1) cap),
                 isV (.int .i64 (d : Int)),
                 isV (.slice (some ⟨gs, 0, none⟩) d cap),
                 isV (.agg #[.int .i64 (N9 : Int), .int .i64 ((N9 + 1 : Nat) : Int)]),
                 newB8 #[.int .i64 (N9 : Int), .int .i64 ((N9 + 1 : Nat) : Int)]]
                [some 43, some 44, some 45, some 46, some 47] #[true, true, true, true, true, false, false] (by kernel_rfl) rfl (by kernel_rfl) (by kernel_rfl) rfl rfl rfl Onto.trans Onto.refl ?monoQ ?obQ ?qQ
              case monoQ => exact ⟨isV_mono _ _, isV_mono _ _, isV_mono _ _, isV_mono _ _, newB8_mono _, trivial⟩
              case obQ =>
                refine Obs.cons (j := 1) rfl ?_ ?_
                · refine Ob.free [(7, none)] (by kernel_rfl) (isV (.slice (some ⟨gs, 0, none⟩) (d + 1) cap)) rfl rfl (fun a X hE hL => ?_)
                  simp [Seen, slotAt] at hL
                  have h7 := hL
                  rw [relAt_eq]
                  go_simp
                  exact ⟨Onto.refl _, rfl⟩
                refine Obs.cons (j := 2) rfl ?_ ?_
                · refine Ob.free [(11, none)] (by kernel_rfl) (isV (.int .i64 (d : Int))) rfl rfl (fun a X hE hL => ?_)
                  simp [Seen, slotAt] at hL
                  have h11 := hL
                  rw [relAt_eq]
                  go_simp
                  exact ⟨Onto.refl _, rfl⟩
                refine Obs.cons (j := 3) rfl ?_ ?_
                · refine Ob.free [(43, some 0), (44, some 1)] (by kernel_rfl) (isV (.slice (some ⟨gs, 0, none⟩) d cap)) rfl rfl (fun a X hE hL => ?_)
                  simp [Seen, slotAt, famV, isV] at hL
                  obtain ⟨h43, h44⟩ := hL
                  rw [relAt_eq]
                  go_simp
                  exact ⟨Onto.refl _, rfl⟩
                refine Obs.cons (j := 4) rfl ?_ ?_
                · refine Ob.free [(12, none)] (by kernel_rfl) (isV (.agg #[.int .i64 (N9 : Int), .int .i64 ((N9 + 1 : Nat) : Int)])) rfl rfl (fun a X hE hL => ?_)
                  simp [Seen, slotAt] at hL
                  have h12 := hL
                  rw [relAt_eq]
                  have hl9 := run_loadP0 X k N9 (N9 + 1) (PtAt.onto HK2.out (onto_drew hE))
                  go_simp
                  exact ⟨Onto.refl _, rfl⟩
                refine Obs.cons (j := 5) rfl ?_ ?_
                · refine Ob.free [(46, some 3)] (by kernel_rfl) (newB8 #[.int .i64 (N9 : Int), .int .i64 ((N9 + 1 : Nat) : Int)]) rfl rfl (fun a X hE hL => ?_)
                  simp [Seen, slotAt, famV, isV] at hL
                  have h46 := hL
                  rw [relAt_eq]
                  go_simp
                  refine ⟨(Below.refl _ _).alloc (Nat.le_refl _) _, X.heap.size, rfl, ?_⟩
                  exact heap_alloc_new X _
                exact trivial
              case qQ =>
                intro x wC hE hV
                simp [AllV, famV, isV] at hV
                obtain ⟨-, -, h45, -, h47⟩ := hV
                simp only [puts, Act.put, List.setIfInBounds_toArray, List.set_cons_zero, List.set_cons_succ, h45]
                generalize x 43 = y43
                generalize x 44 = y44
                generalize x 46 = y46
                generalize x 47 = y47 at h47 ⊢
                clear h45
                have hbC := onto_drew hE
                have HMC := Lib.hid (HMB.out.below hbC)
                have HKC := Lib.hid (HKB.out.trans (HMB.out.onto hbC))
                have HBC := Lib.hid (HBB.out.trans (hbC.mono (by have := HMB.out.le; omega)))
                have HOC := Lib.hid (ownB HPR.out hbC)
                have HFC : Hid (∀ k, (Value.slice (some ⟨gs, 0, none⟩) d cap).ownBlock = some k → FreeB B0 wC k) := Lib.hid fun k hk => ((HFB.out k hk).keeps (HMB.out.onto hbC)).1
                have hgC : w1.heap.size ≤ wC.heap.size := HKC.out.1
                obtain ⟨gn, rfl, hgn⟩ := h47
                clear hE hbC
                refine wpAny_ready (rs := [5]) (by kernel_rfl) (by simp) ?_
                refine AllReady.cons rfl (fun K hK => ?_) AllReady.nil
                rw [if_pos (by rfl)]
                refine wp_app_el (C := ptC) (n := d) (xs := ptsL es0 0) (v := .slice (some ⟨gs, 0, none⟩) d cap) (t := 76) (by decide) ptC_len ptC_one Try.underlying76 infoPt rfl _ _ _ rfl rfl HOC.out (⟨N9, N9 + 1⟩ : Pt) rfl hgn (by unfold maxLen; omega) (by omega) hgC ?_
                intro gg cc w6 hown6 hgrow6 hat6
                have HO6 := Lib.hid hown6
                obtain ⟨hm6, hk6, hb6, hf6⟩ := HMC.out.grown HKC.out (by have := HM1.out.le; omega) HBC.out hgrow6 (fun q hq => ⟨HFC.out q hq, (own_ge HOC.out hq).1⟩)
                have HM6 := Lib.hid hm6
                have HK6 := Lib.hid hk6
                have HB6 := Lib.hid hb6
                have HF6 : Hid (∀ q, (Value.slice (some ⟨gg, 0, none⟩) (d + 1) cc).ownBlock = some q → FreeB B0 w6 q) := Lib.hid fun q hq => by
                    have h9 := own_ge hown6 hq
                    injection hq with hq
                    subst hq
                    exact hf6 _ h9.2 hat6
                clear hown6 hgrow6 hat6 hm6 hk6 hb6 hf6
                refine hK _ _ ?_
                clear hK K
                try simp only [Act.put, List.getElem_toArray, List.getElem_cons_succ, List.getElem_cons_zero, List.setIfInBounds_toArray, List.set_cons_zero, List.set_cons_succ]
                refine wpAny_take (i := 6) (v := .slice (some ⟨gg, 0, none⟩) (d + 1) cc) rfl (by kernel_rfl) (by kernel_rfl) (by kernel_rfl) (fun _ _ _ h => h) (Or.inl ⟨by rfl, fun X => ?_⟩) ?_
                · go_simp
                try simp only [Act.put, List.getElem_toArray, List.getElem_cons_succ, List.getElem_cons_zero, List.setIfInBounds_toArray, List.set_cons_zero, List.set_cons_succ]
                refine wpAny_done (by kernel_rfl) ?_ _
                go_wp2
                go_roundw
                case rel => exact ⟨j + 1, es0 ++ [.opt a'], M9, by omega, by go_num, by rw [List.reverse_append]; show evT _ (.opt a' :: es0.reverse) = _; first | exact HEV2.out | (rw [HRV.out]; exact HEV2.out), by have h9 := sumP_step HSTEP.out; rw [List.reverse_append]; show sumP (.opt a' :: es0.reverse) = _; rw [HSUM.out] at h9; first | exact h9 | (rw [HRV.out]; exact h9), ⟨by have h9 := HO6.out; rw [List.length_append, List.length_singleton, HD.out, ptsL_app, HPT.out]; exact h9, HF6.out, HM6.out, HOK9.out, HSM9.out, HK6.out, HB6.out⟩⟩
                case measure => simp [intOf]; omega
      · have hjn : j = n := by omega
        subst hjn
        rw [List.drop_of_length_le (by rw [HL.out]; exact Nat.le_refl _)] at hev
        simp only [evT, Option.some.injEq] at hev
        obtain ⟨es0, rfl, h0⟩ := rv_top hev
        have h00 : es0 = [] := by simpa using h0
        subst h00
        obtain ⟨A, cA, rfl, hle1, _⟩ := HF.out
        have hrow := hov.crow rfl
        obtain ⟨b9, o9, rfl⟩ := hrow.1.some_ (by simp)
        obtain ⟨r1, r2, r3⟩ := hrow.1
        obtain ⟨b8, o8, e8, hb8, hc8⟩ := r3 (by simp)
        simp only [Option.some.injEq, Addr.mk.injEq, and_true] at e8
        obtain ⟨rfl, rfl⟩ := e8
        have hl9 := run_loadP wr b9 o9 (.int .i64 (inS T 0 : Nat)) (.int .i64 (outS T 0 : Nat)) (by have h7 := hc8 0 (ptT T 0) rfl 0 (.int .i64 (inS T 0 : Nat)) rfl; simpa using h7) (by have h7 := hc8 0 (ptT T 0) rfl 1 (.int .i64 (outS T 0 : Nat)) rfl; simpa using h7)
        have HZR := Lib.hid (HZ11.out.keeps hov.kp)
        have HMR := Lib.hid hov.mx
        have HOKR : Hid (MOK M [T]) := Lib.hid hov.ok
        have HSMR : Hid (Small M (szT T) (8 * szT T)) := Lib.hid (by have h9 := hov.sm; have h8 := hov.ok.len; simp only [List.nil_append, szL_one] at h8; exact ⟨h8, fun l hl => Nat.le_trans (h9.2 l hl) (by have := h9.1; omega)⟩)
        have HBR0 := Lib.hid (HB1.out.trans hov.bw)
        have z1 : ¬ (j : Int) < (j : Int) := by omega
        obtain ⟨I9, hI9⟩ : ∃ x, inS T 0 = x := ⟨_, rfl⟩
        obtain ⟨O9, hO9⟩ : ∃ x, outS T 0 = x := ⟨_, rfl⟩
        have HIO := Lib.hid (show inS T 0 = I9 ∧ outS T 0 = O9 from ⟨hI9, hO9⟩)
        rw [hI9, hO9] at hl9
        clear hrow hev h0 r1 r2 r3 hb8 hc8 hov hI9 hO9
        go_wp2_with (refine wpList_store_pt rfl _ _ rfl g 0 0 I9 O9 rfl rfl HZR.out.2 ?_; intro wR hR hBR hOR hSR; have HR := Lib.hid hR; have HMF := Lib.hid (HMR.out.kept HZR.out.1 hOR hSR); have HBR := Lib.hid (HBR0.out.trans (hBR B0 (Nat.le_of_lt HB0g.out))); clear hR hBR hOR hSR)
        refine bodyPost_ret (results_pt2 rfl _ _ g I9 O9 _ rfl rfl HR.out) rfl ⟨HBR.out, M, HMF.out, HOKR.out, HSMR.out, by rw [HIO.out.1, HIO.out.2]; rfl⟩
end Go.Proofs.Ytbefndibkpjgaaa
