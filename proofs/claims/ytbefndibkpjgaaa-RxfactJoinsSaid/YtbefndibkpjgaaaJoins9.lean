/- The law RxfactJoins, walked. -/
import Derived.Test.YtbefndibkpjgaaaAll9
import Derived.Test.YtbefndibkpjgaaaSemJ
namespace Go.Proofs.Ytbefndibkpjgaaa
open Go.RowKit
set_option linter.unusedVariables false
set_option linter.unusedSimpArgs false
attribute [local go_sem ↓] eqS_eq eqS_eq'
set_option maxRecDepth 100000 in
set_option maxHeartbeats 16000000 in
theorem joins_walk (a1 : Option Addr) (n1 c1 : Nat) (l1 : List Rx) (a2 : Option Addr) (n2 c2 : Nat) (l2 : List Rx) (v s : ByteArray) (W : World) (h1 : CRow rxC 5 W a1 n1 l1) (h2 : CRow rxC 5 W a2 n2 l2) :
    Calls Try.prog 6 #[.slice a1 n1 c1, .slice a2 n2 c2, .string v, .string s] W fun e w' => e = .returned (.bool true) ∧ Below W.heap.size W w' := by
  obtain ⟨o1, ho1⟩ := isRx_of h1
  obtain ⟨o2, ho2⟩ := isRx_of h2
  have HP0 := Lib.hid ho1
  have HQ0 := Lib.hid ho2
  obtain ⟨w0, hw0⟩ : ∃ w0, w0 = W := ⟨_, rfl⟩
  have HF1 := Lib.hid (few9_any W a1 n1 c1)
  have HF2 := Lib.hid (few9_any W a2 n2 c2)
  clear h1 h2 ho1 ho2
  go_enter Try.func6, Try.ntmps6
  by_cases hn1 : n1 ≤ 80
  · rw [decide_eq_true hn1] at HF1
    by_cases hn2 : n2 ≤ 80
    · rw [decide_eq_true hn2] at HF2
      by_cases hv : v.size ≤ 20
      · have k1 : ¬ (20 : Int) < (v.size : Int) := by omega
        have k2 : ¬ 20 < v.size := by omega
        by_cases hs : s.size ≤ 20
        · have k3 : ¬ (20 : Int) < (s.size : Int) := by omega
          have k4 : ¬ 20 < s.size := by omega
          go_wp2_with fail
          refine HF1.out.mono ?_
          rintro e w' ⟨rfl, rfl⟩
          go_wp2_with fail
          refine HF2.out.mono ?_
          rintro e w' ⟨rfl, rfl⟩
          rw [← hw0] at HP0 HQ0 ⊢
          have HB0 : Hid (Below W.heap.size W w0) := Lib.hid (by rw [hw0]; exact Below.refl _ _)
          clear HF1 HF2 hw0
          obtain ⟨q1, hq1, hck1⟩ := pcheck_any HP0.out c1
          have HI1 := Lib.hid hq1
          have HC9 := Lib.hid (hck1)
          go_wp2_with fail
          refine HC9.out.mono ?_
          rintro e w1 ⟨rfl, hb9⟩
          have HP1 := Lib.hid (HP0.out.below hb9)
          have HQ_1 := Lib.hid (HQ0.out.below hb9)
          have HB1 : Hid (Below W.heap.size W w1) := Lib.hid (HB0.out.trans (hb9.mono HB0.out.size))
          clear hb9 HC9 hck1 hq1
          cases o1 with
          | none =>
            have y1 : ((q1 : Int) != 0) = true := by rw [bne_iff_ne]; intro h; have := HI1.out.1 (by omega); simp at this
            have HC9 := Lib.hid (knows9_any w1)
            go_wp2_with fail
            refine HC9.out.mono ?_
            rintro e w2 ⟨rfl, hb9⟩
            have HB2 : Hid (Below W.heap.size W w2) := Lib.hid (HB1.out.trans (hb9.mono HB1.out.size))
            clear hb9 HC9
            go_wp2
            go_ret
            exact ⟨rfl, HB2.out⟩
          | some Ta =>
            have HQQ1 := HQ_1
            obtain rfl : q1 = 0 := HI1.out.2 rfl
            obtain ⟨q2, hq2, hck2⟩ := pcheck_any HQQ1.out c2
            have HI2 := Lib.hid hq2
            have HC9 := Lib.hid (hck2)
            go_wp2_with fail
            refine HC9.out.mono ?_
            rintro e w2 ⟨rfl, hb9⟩
            have HP2 := Lib.hid (HP1.out.below hb9)
            have HQQ2 := Lib.hid (HQQ1.out.below hb9)
            have HB2 : Hid (Below W.heap.size W w2) := Lib.hid (HB1.out.trans (hb9.mono HB1.out.size))
            clear hb9 HC9 hck2 hq2
            cases o2 with
            | none =>
              have y2 : ((q2 : Int) != 0) = true := by rw [bne_iff_ne]; intro h; have := HI2.out.1 (by omega); simp at this
              have HC9 := Lib.hid (knows9_any w2)
              go_wp2_with fail
              refine HC9.out.mono ?_
              rintro e w3 ⟨rfl, hb9⟩
              have HB3 : Hid (Below W.heap.size W w3) := Lib.hid (HB2.out.trans (hb9.mono HB2.out.size))
              clear hb9 HC9
              go_wp2
              go_ret
              exact ⟨rfl, HB3.out⟩
            | some Tb =>
              obtain rfl : q2 = 0 := HI2.out.2 rfl
              have hl1 := HP2.out.1.1
              have hl2 := HQQ2.out.1.1
              have HQ2 := HQQ2
              have HL := Lib.hid (show (post Ta).length = n1 ∧ (post Tb).length = n2 from ⟨hl1, hl2⟩)
              clear hl1 hl2
              have HC9 := Lib.hid (says9p_any w2 a1 n1 c1 (some Ta) v HP2.out (by omega) (by omega))
              go_wp2_with fail
              refine HC9.out.mono ?_
              rintro e w3 ⟨r1, hr1, rfl, hb9⟩
              have HP3 := Lib.hid (HP2.out.below hb9)
              have HQ3 := Lib.hid (HQ2.out.below hb9)
              have HB3 : Hid (Below W.heap.size W w3) := Lib.hid (HB2.out.trans (hb9.mono HB2.out.size))
              clear hb9 HC9
              have HR1 : Hid (r1 = true ↔ inT Ta (LS v)) := Lib.hid (hr1.trans saysW_some)
              clear hr1
              have HC9 := Lib.hid (says9p_any w3 a2 n2 c2 (some Tb) s HQ3.out (by omega) (by omega))
              go_wp2_with fail
              refine HC9.out.mono ?_
              rintro e w4 ⟨r2, hr2, rfl, hb9⟩
              have HP4 := Lib.hid (HP3.out.below hb9)
              have HQ4 := Lib.hid (HQ3.out.below hb9)
              have HB4 : Hid (Below W.heap.size W w4) := Lib.hid (HB3.out.trans (hb9.mono HB3.out.size))
              clear hb9 HC9
              have HR2 : Hid (r2 = true ↔ inT Tb (LS s)) := Lib.hid (hr2.trans saysW_some)
              clear hr2
              have HC9 := Lib.hid (star_any w4 a1 n1 c1 (post Ta) HP4.out.1 (by omega))
              go_wp2_with fail
              refine HC9.out.mono ?_
              rintro e w5 hgv
              obtain ⟨A5, d5, rfl, hst, hb9⟩ := gives_is hgv (T := .star Ta) rfl (n := n1 + 1) (by have := HL.out.1; simp [post]; omega) (by omega)
              have HS5 := Lib.hid hst
              have HP5 := Lib.hid (HP4.out.below hb9)
              have HQ5 := Lib.hid (HQ4.out.below hb9)
              have HB5 : Hid (Below W.heap.size W w5) := Lib.hid (HB4.out.trans (hb9.mono HB4.out.size))
              clear hgv hst hb9 HC9
              obtain ⟨g9, hg9⟩ : ∃ g, w5.heap.size = g := ⟨_, rfl⟩
              have HBA : Hid (Below w5.heap.size w5 (w5.alloc (.cells #[.slice a1 n1 c1, .slice a2 n2 c2] 22))) := Lib.hid ((Below.refl _ _).alloc (Nat.le_refl _) _)
              have HC9 := Lib.hid (alt_any _ _ 2 2 _ (rrow_two w5 g9 hg9 a1 a2 n1 n2 c1 c2 (post Ta) (post Tb) HP5.out.1 HQ5.out.1) (by have := HL.out; simp [tot]; omega))
              go_wp2_with fail
              refine HC9.out.mono ?_
              rintro e w6 hgv
              obtain ⟨A6, d6, rfl, hst, hb8⟩ := gives_is hgv (T := .alt Ta Tb) (alt_two _ _ Ta Tb rfl rfl) (n := n1 + n2 + 1) (by have := HL.out; simp [post]; omega) (by omega)
              have hb9 := HBA.out.trans (hb8.mono HBA.out.size)
              have HT6 := Lib.hid hst
              have HP6 := Lib.hid (HP5.out.below hb9)
              have HQ6 := Lib.hid (HQ5.out.below hb9)
              have HS6 := Lib.hid (HS5.out.below hb9)
              have HB6 : Hid (Below W.heap.size W w6) := Lib.hid (HB5.out.trans (hb9.mono HB5.out.size))
              clear hgv hst hb8 hb9 HC9 HBA hg9
              have HC9 := Lib.hid (says9p_any w6 A6 (n1 + n2 + 1) d6 (some (.alt Ta Tb)) v HT6.out (by omega) (by omega))
              go_wp2_with fail
              refine HC9.out.mono ?_
              rintro e w7 ⟨r3, hr3, rfl, hb9⟩
              have HP7 := Lib.hid (HP6.out.below hb9)
              have HQ7 := Lib.hid (HQ6.out.below hb9)
              have HS7 := Lib.hid (HS6.out.below hb9)
              have HB7 : Hid (Below W.heap.size W w7) := Lib.hid (HB6.out.trans (hb9.mono HB6.out.size))
              clear hb9 HC9
              have HR3 : Hid (r3 = true ↔ inT Ta (LS v) ∨ inT Tb (LS v)) := Lib.hid (hr3.trans saysW_some)
              clear hr3
              cases r1 with
              | false =>
                have HC9 := Lib.hid (says9p_any w7 a2 n2 c2 (some Tb) v HQ7.out (by omega) (by omega))
                go_wp2_with fail
                refine HC9.out.mono ?_
                rintro e w8 ⟨r4, hr4, rfl, hb9⟩
                have HP8 := Lib.hid (HP7.out.below hb9)
                have HQ8 := Lib.hid (HQ7.out.below hb9)
                have HS8 := Lib.hid (HS7.out.below hb9)
                have HB8 : Hid (Below W.heap.size W w8) := Lib.hid (HB7.out.trans (hb9.mono HB7.out.size))
                clear hb9 HC9
                obtain rfl : r4 = r3 := by
                  rw [Bool.eq_iff_iff, HR3.out, hr4, saysW_some]
                  constructor
                  · exact .inr
                  · rintro (h | h)
                    · have := HR1.out.2 h; cases this
                    · exact h
                clear hr4
                have y4 : (r4 != r4) = false := by simp
                have HC9 := Lib.hid (says9p_any w8 A5 (n1 + 1) d5 (some (.star Ta)) ⟨#[]⟩ HS8.out (by decide) (by omega))
                go_wp2_with fail
                refine HC9.out.mono ?_
                rintro e w9 ⟨r5, hr5, rfl, hb9⟩
                have HP9 := Lib.hid (HP8.out.below hb9)
                have HQ9 := Lib.hid (HQ8.out.below hb9)
                have HS9 := Lib.hid (HS8.out.below hb9)
                have HB9 : Hid (Below W.heap.size W w9) := Lib.hid (HB8.out.trans (hb9.mono HB8.out.size))
                clear hb9 HC9
                obtain rfl : r5 = true := hr5.2 (saysW_some.2 Rep.nil)
                clear hr5
                have HC9 := Lib.hid (plus_any w9 a1 n1 c1 (post Ta) HP9.out.1 (by omega))
                go_wp2_with fail
                refine HC9.out.mono ?_
                rintro e w10 hgv
                obtain ⟨B9, e9, rfl, hst, hb9⟩ := gives_is hgv (T := .plus Ta) rfl (n := n1 + 1) (by have := HL.out.1; simp [post]; omega) (by omega)
                have HT10 := Lib.hid hst
                have HP10 := Lib.hid (HP9.out.below hb9)
                have HQ10 := Lib.hid (HQ9.out.below hb9)
                have HS10 := Lib.hid (HS9.out.below hb9)
                have HB10 : Hid (Below W.heap.size W w10) := Lib.hid (HB9.out.trans (hb9.mono HB9.out.size))
                clear hgv hst hb9 HC9
                obtain ⟨z9, hz9⟩ : ∃ z, (shF (factO (some Ta)) == 0) = z := ⟨_, rfl⟩
                have HC9 := Lib.hid (pnull_any w10 B9 (n1 + 1) e9 (some (.plus Ta)) HT10.out (by omega))
                rw [show shF (factO (some (.plus Ta))) = shF (factO (some Ta)) from rfl, hz9] at HC9
                go_wp2_with fail
                refine HC9.out.mono ?_
                rintro e w11 ⟨rfl, hb9⟩
                have HP11 := Lib.hid (HP10.out.below hb9)
                have HQ11 := Lib.hid (HQ10.out.below hb9)
                have HS11 := Lib.hid (HS10.out.below hb9)
                have HB11 : Hid (Below W.heap.size W w11) := Lib.hid (HB10.out.trans (hb9.mono HB10.out.size))
                clear hb9 HC9
                have HC9 := Lib.hid (pnull_any w11 a1 n1 c1 (some Ta) HP11.out (by omega))
                rw [hz9] at HC9
                go_wp2_with fail
                refine HC9.out.mono ?_
                rintro e w12 ⟨rfl, hb9⟩
                have HP12 := Lib.hid (HP11.out.below hb9)
                have HQ12 := Lib.hid (HQ11.out.below hb9)
                have HS12 := Lib.hid (HS11.out.below hb9)
                have HB12 : Hid (Below W.heap.size W w12) := Lib.hid (HB11.out.trans (hb9.mono HB11.out.size))
                clear hb9 HC9
                have y9 : (z9 == z9) = true := by simp
                clear hz9
                have HC9 := Lib.hid (knows9_any w12)
                go_wp2_with fail
                refine HC9.out.mono ?_
                rintro e w13 ⟨rfl, hb9⟩
                have HB13 : Hid (Below W.heap.size W w13) := Lib.hid (HB12.out.trans (hb9.mono HB12.out.size))
                clear hb9 HC9
                go_wp2
                go_ret
                exact ⟨rfl, HB13.out⟩
              | true =>
                obtain rfl : r3 = true := HR3.out.2 (.inl (HR1.out.1 (by trivial)))
                cases r2 with
                | false =>
                  have HC9 := Lib.hid (says9p_any w7 A5 (n1 + 1) d5 (some (.star Ta)) ⟨#[]⟩ HS7.out (by decide) (by omega))
                  go_wp2_with fail
                  refine HC9.out.mono ?_
                  rintro e w8 ⟨r5, hr5, rfl, hb9⟩
                  have HP8 := Lib.hid (HP7.out.below hb9)
                  have HQ8 := Lib.hid (HQ7.out.below hb9)
                  have HS8 := Lib.hid (HS7.out.below hb9)
                  have HB8 : Hid (Below W.heap.size W w8) := Lib.hid (HB7.out.trans (hb9.mono HB7.out.size))
                  clear hb9 HC9
                  obtain rfl : r5 = true := hr5.2 (saysW_some.2 Rep.nil)
                  clear hr5
                  have hvv : (v ++ v).size = v.size + v.size := ByteArray.size_append
                  have HC9 := Lib.hid (says9p_any w8 A5 (n1 + 1) d5 (some (.star Ta)) (v ++ v) HS8.out (by omega) (by omega))
                  go_wp2_with fail
                  refine HC9.out.mono ?_
                  rintro e w9 ⟨r6, hr6, rfl, hb9⟩
                  have HP9 := Lib.hid (HP8.out.below hb9)
                  have HQ9 := Lib.hid (HQ8.out.below hb9)
                  have HS9 := Lib.hid (HS8.out.below hb9)
                  have HB9 : Hid (Below W.heap.size W w9) := Lib.hid (HB8.out.trans (hb9.mono HB8.out.size))
                  clear hb9 HC9
                  obtain rfl : r6 = true := hr6.2 (saysW_some.2 (by rw [LS_app]; exact Rep.cons _ _ (HR1.out.1 (by trivial)) (by have h9 := Rep.cons _ _ (HR1.out.1 (by trivial)) (Rep.nil (L := inT Ta)); rwa [List.append_nil] at h9)))
                  clear hr6 hvv
                  have HC9 := Lib.hid (plus_any w9 a1 n1 c1 (post Ta) HP9.out.1 (by omega))
                  go_wp2_with fail
                  refine HC9.out.mono ?_
                  rintro e w10 hgv
                  obtain ⟨B9, e9, rfl, hst, hb9⟩ := gives_is hgv (T := .plus Ta) rfl (n := n1 + 1) (by have := HL.out.1; simp [post]; omega) (by omega)
                  have HT10 := Lib.hid hst
                  have HP10 := Lib.hid (HP9.out.below hb9)
                  have HQ10 := Lib.hid (HQ9.out.below hb9)
                  have HS10 := Lib.hid (HS9.out.below hb9)
                  have HB10 : Hid (Below W.heap.size W w10) := Lib.hid (HB9.out.trans (hb9.mono HB9.out.size))
                  clear hgv hst hb9 HC9
                  have HC9 := Lib.hid (says9p_any w10 B9 (n1 + 1) e9 (some (.plus Ta)) v HT10.out (by omega) (by omega))
                  go_wp2_with fail
                  refine HC9.out.mono ?_
                  rintro e w11 ⟨r7, hr7, rfl, hb9⟩
                  have HP11 := Lib.hid (HP10.out.below hb9)
                  have HQ11 := Lib.hid (HQ10.out.below hb9)
                  have HS11 := Lib.hid (HS10.out.below hb9)
                  have HB11 : Hid (Below W.heap.size W w11) := Lib.hid (HB10.out.trans (hb9.mono HB10.out.size))
                  clear hb9 HC9
                  obtain rfl : r7 = true := hr7.2 (saysW_some.2 (⟨LS v, [], by simp, HR1.out.1 (by trivial), Rep.nil⟩))
                  clear hr7
                  have HC9 := Lib.hid (opt_any w11 a1 n1 c1 (post Ta) HP11.out.1 (by omega))
                  go_wp2_with fail
                  refine HC9.out.mono ?_
                  rintro e w12 hgv
                  obtain ⟨B11, e11, rfl, hst, hb9⟩ := gives_is hgv (T := .opt Ta) rfl (n := n1 + 1) (by have := HL.out.1; simp [post]; omega) (by omega)
                  have HT12 := Lib.hid hst
                  have HP12 := Lib.hid (HP11.out.below hb9)
                  have HQ12 := Lib.hid (HQ11.out.below hb9)
                  have HS12 := Lib.hid (HS11.out.below hb9)
                  have HB12 : Hid (Below W.heap.size W w12) := Lib.hid (HB11.out.trans (hb9.mono HB11.out.size))
                  clear hgv hst hb9 HC9
                  have HC9 := Lib.hid (says9p_any w12 B11 (n1 + 1) e11 (some (.opt Ta)) v HT12.out (by omega) (by omega))
                  go_wp2_with fail
                  refine HC9.out.mono ?_
                  rintro e w13 ⟨r7, hr7, rfl, hb9⟩
                  have HP13 := Lib.hid (HP12.out.below hb9)
                  have HQ13 := Lib.hid (HQ12.out.below hb9)
                  have HS13 := Lib.hid (HS12.out.below hb9)
                  have HB13 : Hid (Below W.heap.size W w13) := Lib.hid (HB12.out.trans (hb9.mono HB12.out.size))
                  clear hb9 HC9
                  obtain rfl : r7 = true := hr7.2 (saysW_some.2 (.inr (HR1.out.1 (by trivial))))
                  clear hr7
                  have HC9 := Lib.hid (plus_any w13 a1 n1 c1 (post Ta) HP13.out.1 (by omega))
                  go_wp2_with fail
                  refine HC9.out.mono ?_
                  rintro e w14 hgv
                  obtain ⟨B13, e13, rfl, hst, hb9⟩ := gives_is hgv (T := .plus Ta) rfl (n := n1 + 1) (by have := HL.out.1; simp [post]; omega) (by omega)
                  have HT14 := Lib.hid hst
                  have HP14 := Lib.hid (HP13.out.below hb9)
                  have HQ14 := Lib.hid (HQ13.out.below hb9)
                  have HS14 := Lib.hid (HS13.out.below hb9)
                  have HB14 : Hid (Below W.heap.size W w14) := Lib.hid (HB13.out.trans (hb9.mono HB13.out.size))
                  clear hgv hst hb9 HC9
                  obtain ⟨z9, hz9⟩ : ∃ z, (shF (factO (some Ta)) == 0) = z := ⟨_, rfl⟩
                  have HC9 := Lib.hid (pnull_any w14 B13 (n1 + 1) e13 (some (.plus Ta)) HT14.out (by omega))
                  rw [show shF (factO (some (.plus Ta))) = shF (factO (some Ta)) from rfl, hz9] at HC9
                  go_wp2_with fail
                  refine HC9.out.mono ?_
                  rintro e w15 ⟨rfl, hb9⟩
                  have HP15 := Lib.hid (HP14.out.below hb9)
                  have HQ15 := Lib.hid (HQ14.out.below hb9)
                  have HS15 := Lib.hid (HS14.out.below hb9)
                  have HB15 : Hid (Below W.heap.size W w15) := Lib.hid (HB14.out.trans (hb9.mono HB14.out.size))
                  clear hb9 HC9
                  have HC9 := Lib.hid (pnull_any w15 a1 n1 c1 (some Ta) HP15.out (by omega))
                  rw [hz9] at HC9
                  go_wp2_with fail
                  refine HC9.out.mono ?_
                  rintro e w16 ⟨rfl, hb9⟩
                  have HP16 := Lib.hid (HP15.out.below hb9)
                  have HQ16 := Lib.hid (HQ15.out.below hb9)
                  have HS16 := Lib.hid (HS15.out.below hb9)
                  have HB16 : Hid (Below W.heap.size W w16) := Lib.hid (HB15.out.trans (hb9.mono HB15.out.size))
                  clear hb9 HC9
                  have y9 : (z9 == z9) = true := by simp
                  clear hz9
                  have HC9 := Lib.hid (knows9_any w16)
                  go_wp2_with fail
                  refine HC9.out.mono ?_
                  rintro e w17 ⟨rfl, hb9⟩
                  have HB17 : Hid (Below W.heap.size W w17) := Lib.hid (HB16.out.trans (hb9.mono HB16.out.size))
                  clear hb9 HC9
                  go_wp2
                  go_ret
                  exact ⟨rfl, HB17.out⟩
                | true =>
                  obtain ⟨g9, hg9⟩ : ∃ g, w7.heap.size = g := ⟨_, rfl⟩
                  have HBA : Hid (Below w7.heap.size w7 (w7.alloc (.cells #[.slice a1 n1 c1, .slice a2 n2 c2] 22))) := Lib.hid ((Below.refl _ _).alloc (Nat.le_refl _) _)
                  have HC9 := Lib.hid (cat_any _ _ 2 2 _ (rrow_two w7 g9 hg9 a1 a2 n1 n2 c1 c2 (post Ta) (post Tb) HP7.out.1 HQ7.out.1) (by have := HL.out; simp [tot]; omega))
                  go_wp2_with fail
                  refine HC9.out.mono ?_
                  rintro e w8 hgv
                  obtain ⟨A8, d8, rfl, hst, hb8⟩ := gives_is hgv (T := .cat Ta Tb) (cat_two _ _ Ta Tb rfl rfl) (n := n1 + n2 + 1) (by have := HL.out; simp [post]; omega) (by omega)
                  have hb9 := HBA.out.trans (hb8.mono HBA.out.size)
                  have HT8 := Lib.hid hst
                  have HP8 := Lib.hid (HP7.out.below hb9)
                  have HQ8 := Lib.hid (HQ7.out.below hb9)
                  have HS8 := Lib.hid (HS7.out.below hb9)
                  have HB8 : Hid (Below W.heap.size W w8) := Lib.hid (HB7.out.trans (hb9.mono HB7.out.size))
                  clear hgv hst hb8 hb9 HC9 HBA hg9
                  have hvs : (v ++ s).size = v.size + s.size := ByteArray.size_append
                  have HC9 := Lib.hid (says9p_any w8 A8 (n1 + n2 + 1) d8 (some (.cat Ta Tb)) (v ++ s) HT8.out (by omega) (by omega))
                  go_wp2_with fail
                  refine HC9.out.mono ?_
                  rintro e w9 ⟨r8, hr8, rfl, hb9⟩
                  have HP9 := Lib.hid (HP8.out.below hb9)
                  have HQ9 := Lib.hid (HQ8.out.below hb9)
                  have HS9 := Lib.hid (HS8.out.below hb9)
                  have HB9 : Hid (Below W.heap.size W w9) := Lib.hid (HB8.out.trans (hb9.mono HB8.out.size))
                  clear hb9 HC9
                  obtain rfl : r8 = true := hr8.2 (saysW_some.2 ⟨LS v, LS s, LS_app v s, HR1.out.1 (by trivial), HR2.out.1 (by trivial)⟩)
                  clear hr8 hvs
                  have HC9 := Lib.hid (says9p_any w9 A5 (n1 + 1) d5 (some (.star Ta)) ⟨#[]⟩ HS9.out (by decide) (by omega))
                  go_wp2_with fail
                  refine HC9.out.mono ?_
                  rintro e w10 ⟨r5, hr5, rfl, hb9⟩
                  have HP10 := Lib.hid (HP9.out.below hb9)
                  have HQ10 := Lib.hid (HQ9.out.below hb9)
                  have HS10 := Lib.hid (HS9.out.below hb9)
                  have HB10 : Hid (Below W.heap.size W w10) := Lib.hid (HB9.out.trans (hb9.mono HB9.out.size))
                  clear hb9 HC9
                  obtain rfl : r5 = true := hr5.2 (saysW_some.2 Rep.nil)
                  clear hr5
                  have hvv : (v ++ v).size = v.size + v.size := ByteArray.size_append
                  have HC9 := Lib.hid (says9p_any w10 A5 (n1 + 1) d5 (some (.star Ta)) (v ++ v) HS10.out (by omega) (by omega))
                  go_wp2_with fail
                  refine HC9.out.mono ?_
                  rintro e w11 ⟨r6, hr6, rfl, hb9⟩
                  have HP11 := Lib.hid (HP10.out.below hb9)
                  have HQ11 := Lib.hid (HQ10.out.below hb9)
                  have HS11 := Lib.hid (HS10.out.below hb9)
                  have HB11 : Hid (Below W.heap.size W w11) := Lib.hid (HB10.out.trans (hb9.mono HB10.out.size))
                  clear hb9 HC9
                  obtain rfl : r6 = true := hr6.2 (saysW_some.2 (by rw [LS_app]; exact Rep.cons _ _ (HR1.out.1 (by trivial)) (by have h9 := Rep.cons _ _ (HR1.out.1 (by trivial)) (Rep.nil (L := inT Ta)); rwa [List.append_nil] at h9)))
                  clear hr6 hvv
                  have HC9 := Lib.hid (plus_any w11 a1 n1 c1 (post Ta) HP11.out.1 (by omega))
                  go_wp2_with fail
                  refine HC9.out.mono ?_
                  rintro e w12 hgv
                  obtain ⟨B11, e11, rfl, hst, hb9⟩ := gives_is hgv (T := .plus Ta) rfl (n := n1 + 1) (by have := HL.out.1; simp [post]; omega) (by omega)
                  have HT12 := Lib.hid hst
                  have HP12 := Lib.hid (HP11.out.below hb9)
                  have HQ12 := Lib.hid (HQ11.out.below hb9)
                  have HS12 := Lib.hid (HS11.out.below hb9)
                  have HB12 : Hid (Below W.heap.size W w12) := Lib.hid (HB11.out.trans (hb9.mono HB11.out.size))
                  clear hgv hst hb9 HC9
                  have HC9 := Lib.hid (says9p_any w12 B11 (n1 + 1) e11 (some (.plus Ta)) v HT12.out (by omega) (by omega))
                  go_wp2_with fail
                  refine HC9.out.mono ?_
                  rintro e w13 ⟨r7, hr7, rfl, hb9⟩
                  have HP13 := Lib.hid (HP12.out.below hb9)
                  have HQ13 := Lib.hid (HQ12.out.below hb9)
                  have HS13 := Lib.hid (HS12.out.below hb9)
                  have HB13 : Hid (Below W.heap.size W w13) := Lib.hid (HB12.out.trans (hb9.mono HB12.out.size))
                  clear hb9 HC9
                  obtain rfl : r7 = true := hr7.2 (saysW_some.2 (⟨LS v, [], by simp, HR1.out.1 (by trivial), Rep.nil⟩))
                  clear hr7
                  have HC9 := Lib.hid (opt_any w13 a1 n1 c1 (post Ta) HP13.out.1 (by omega))
                  go_wp2_with fail
                  refine HC9.out.mono ?_
                  rintro e w14 hgv
                  obtain ⟨B13, e13, rfl, hst, hb9⟩ := gives_is hgv (T := .opt Ta) rfl (n := n1 + 1) (by have := HL.out.1; simp [post]; omega) (by omega)
                  have HT14 := Lib.hid hst
                  have HP14 := Lib.hid (HP13.out.below hb9)
                  have HQ14 := Lib.hid (HQ13.out.below hb9)
                  have HS14 := Lib.hid (HS13.out.below hb9)
                  have HB14 : Hid (Below W.heap.size W w14) := Lib.hid (HB13.out.trans (hb9.mono HB13.out.size))
                  clear hgv hst hb9 HC9
                  have HC9 := Lib.hid (says9p_any w14 B13 (n1 + 1) e13 (some (.opt Ta)) v HT14.out (by omega) (by omega))
                  go_wp2_with fail
                  refine HC9.out.mono ?_
                  rintro e w15 ⟨r7, hr7, rfl, hb9⟩
                  have HP15 := Lib.hid (HP14.out.below hb9)
                  have HQ15 := Lib.hid (HQ14.out.below hb9)
                  have HS15 := Lib.hid (HS14.out.below hb9)
                  have HB15 : Hid (Below W.heap.size W w15) := Lib.hid (HB14.out.trans (hb9.mono HB14.out.size))
                  clear hb9 HC9
                  obtain rfl : r7 = true := hr7.2 (saysW_some.2 (.inr (HR1.out.1 (by trivial))))
                  clear hr7
                  have HC9 := Lib.hid (plus_any w15 a1 n1 c1 (post Ta) HP15.out.1 (by omega))
                  go_wp2_with fail
                  refine HC9.out.mono ?_
                  rintro e w16 hgv
                  obtain ⟨B15, e15, rfl, hst, hb9⟩ := gives_is hgv (T := .plus Ta) rfl (n := n1 + 1) (by have := HL.out.1; simp [post]; omega) (by omega)
                  have HT16 := Lib.hid hst
                  have HP16 := Lib.hid (HP15.out.below hb9)
                  have HQ16 := Lib.hid (HQ15.out.below hb9)
                  have HS16 := Lib.hid (HS15.out.below hb9)
                  have HB16 : Hid (Below W.heap.size W w16) := Lib.hid (HB15.out.trans (hb9.mono HB15.out.size))
                  clear hgv hst hb9 HC9
                  obtain ⟨z9, hz9⟩ : ∃ z, (shF (factO (some Ta)) == 0) = z := ⟨_, rfl⟩
                  have HC9 := Lib.hid (pnull_any w16 B15 (n1 + 1) e15 (some (.plus Ta)) HT16.out (by omega))
                  rw [show shF (factO (some (.plus Ta))) = shF (factO (some Ta)) from rfl, hz9] at HC9
                  go_wp2_with fail
                  refine HC9.out.mono ?_
                  rintro e w17 ⟨rfl, hb9⟩
                  have HP17 := Lib.hid (HP16.out.below hb9)
                  have HQ17 := Lib.hid (HQ16.out.below hb9)
                  have HS17 := Lib.hid (HS16.out.below hb9)
                  have HB17 : Hid (Below W.heap.size W w17) := Lib.hid (HB16.out.trans (hb9.mono HB16.out.size))
                  clear hb9 HC9
                  have HC9 := Lib.hid (pnull_any w17 a1 n1 c1 (some Ta) HP17.out (by omega))
                  rw [hz9] at HC9
                  go_wp2_with fail
                  refine HC9.out.mono ?_
                  rintro e w18 ⟨rfl, hb9⟩
                  have HP18 := Lib.hid (HP17.out.below hb9)
                  have HQ18 := Lib.hid (HQ17.out.below hb9)
                  have HS18 := Lib.hid (HS17.out.below hb9)
                  have HB18 : Hid (Below W.heap.size W w18) := Lib.hid (HB17.out.trans (hb9.mono HB17.out.size))
                  clear hb9 HC9
                  have y9 : (z9 == z9) = true := by simp
                  clear hz9
                  have HC9 := Lib.hid (knows9_any w18)
                  go_wp2_with fail
                  refine HC9.out.mono ?_
                  rintro e w19 ⟨rfl, hb9⟩
                  have HB19 : Hid (Below W.heap.size W w19) := Lib.hid (HB18.out.trans (hb9.mono HB18.out.size))
                  clear hb9 HC9
                  go_wp2
                  go_ret
                  exact ⟨rfl, HB19.out⟩
        · have k3 : (20 : Int) < (s.size : Int) := by omega
          have k4 : 20 < s.size := by omega
          go_wp2_with fail
          refine HF1.out.mono ?_
          rintro e w' ⟨rfl, rfl⟩
          go_wp2_with fail
          refine HF2.out.mono ?_
          rintro e w' ⟨rfl, rfl⟩
          rw [← hw0]
          have HB0 : Hid (Below W.heap.size W w0) := Lib.hid (by rw [hw0]; exact Below.refl _ _)
          clear HF1 HF2 hw0
          have HC9 := Lib.hid (knows9_any w0)
          go_wp2_with fail
          refine HC9.out.mono ?_
          rintro e w1 ⟨rfl, hb9⟩
          have HB1 : Hid (Below W.heap.size W w1) := Lib.hid (HB0.out.trans (hb9.mono HB0.out.size))
          clear hb9 HC9
          go_wp2
          go_ret
          exact ⟨rfl, HB1.out⟩
      · have k1 : (20 : Int) < (v.size : Int) := by omega
        have k2 : 20 < v.size := by omega
        go_wp2_with fail
        refine HF1.out.mono ?_
        rintro e w' ⟨rfl, rfl⟩
        go_wp2_with fail
        refine HF2.out.mono ?_
        rintro e w' ⟨rfl, rfl⟩
        rw [← hw0]
        have HB0 : Hid (Below W.heap.size W w0) := Lib.hid (by rw [hw0]; exact Below.refl _ _)
        clear HF1 HF2 hw0
        have HC9 := Lib.hid (knows9_any w0)
        go_wp2_with fail
        refine HC9.out.mono ?_
        rintro e w1 ⟨rfl, hb9⟩
        have HB1 : Hid (Below W.heap.size W w1) := Lib.hid (HB0.out.trans (hb9.mono HB0.out.size))
        clear hb9 HC9
        go_wp2
        go_ret
        exact ⟨rfl, HB1.out⟩
    · rw [decide_eq_false hn2] at HF2
      go_wp2_with fail
      refine HF1.out.mono ?_
      rintro e w' ⟨rfl, rfl⟩
      go_wp2_with fail
      refine HF2.out.mono ?_
      rintro e w' ⟨rfl, rfl⟩
      rw [← hw0]
      have HB0 : Hid (Below W.heap.size W w0) := Lib.hid (by rw [hw0]; exact Below.refl _ _)
      clear HF1 HF2 hw0
      have HC9 := Lib.hid (knows9_any w0)
      go_wp2_with fail
      refine HC9.out.mono ?_
      rintro e w1 ⟨rfl, hb9⟩
      have HB1 : Hid (Below W.heap.size W w1) := Lib.hid (HB0.out.trans (hb9.mono HB0.out.size))
      clear hb9 HC9
      go_wp2
      go_ret
      exact ⟨rfl, HB1.out⟩
  · rw [decide_eq_false hn1] at HF1
    go_wp2_with fail
    refine HF1.out.mono ?_
    rintro e w' ⟨rfl, rfl⟩
    rw [← hw0]
    have HB0 : Hid (Below W.heap.size W w0) := Lib.hid (by rw [hw0]; exact Below.refl _ _)
    clear HF1 HF2 hw0
    have HC9 := Lib.hid (knows9_any w0)
    go_wp2_with fail
    refine HC9.out.mono ?_
    rintro e w1 ⟨rfl, hb9⟩
    have HB1 : Hid (Below W.heap.size W w1) := Lib.hid (HB0.out.trans (hb9.mono HB0.out.size))
    clear hb9 HC9
    go_wp2
    go_ret
    exact ⟨rfl, HB1.out⟩
end Go.Proofs.Ytbefndibkpjgaaa

