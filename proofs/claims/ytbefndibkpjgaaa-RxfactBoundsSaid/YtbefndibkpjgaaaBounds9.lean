/- The law RxfactBounds, walked. -/
import Derived.Test.YtbefndibkpjgaaaAll9
import Derived.Test.YtbefndibkpjgaaaSemP
import Derived.Test.YtbefndibkpjgaaaTw2
namespace Go.Proofs.Ytbefndibkpjgaaa
open Go.RowKit
set_option linter.unusedVariables false
set_option linter.unusedSimpArgs false
attribute [local go_sem ↓] eqS_eq eqS_eq'
theorem fact_dead (o : Option RxT) (h : (factO o).some_ = false) : factO o = f0 := by
  cases o with
  | none => rfl
  | some T =>
    rcases same_fact T with hd | ⟨lo, hi, m, f, u, e, _⟩
    · exact hd.1
    · have h2 : (factT T).some_ = false := h
      rw [e] at h2; cases h2
theorem fact_lo_hi (o : Option RxT) : (factO o).lo ≤ (factO o).hi := by
  cases o with
  | none => simp [factO, f0]
  | some T => exact (fact_le T).1
set_option maxRecDepth 100000 in
set_option maxHeartbeats 16000000 in
theorem bounds_walk (a : Option Addr) (n c : Nat) (rs : List Rx) (s : ByteArray) (W : World) (h : CRow rxC 5 W a n rs) :
    Calls Try.prog 5 #[.slice a n c, .string s] W fun e w' => e = .returned (.bool true) ∧ Below W.heap.size W w' := by
  obtain ⟨o, ho⟩ := isRx_of h
  have HR0 := Lib.hid ho
  have HRW := Lib.hid ho
  obtain ⟨w0, hw0⟩ : ∃ w0, w0 = W := ⟨_, rfl⟩
  have HF := Lib.hid (few9_any W a n c)
  clear h ho
  go_enter Try.func5, Try.ntmps5
  by_cases hn : n ≤ 80
  · rw [decide_eq_true hn] at HF
    by_cases hs : s.size ≤ 40
    · have k1 : ¬ (40 : Int) < (s.size : Int) := by omega
      have k2 : ¬ 40 < s.size := by omega
      go_wp2_with fail
      refine HF.out.mono ?_
      rintro e w' ⟨rfl, rfl⟩
      rw [← hw0] at HR0 ⊢
      have HB0 : Hid (Below W.heap.size W w0) := Lib.hid (by rw [hw0]; exact Below.refl _ _)
      clear HF hw0
      have HMT : Hid (saysW o s → Meets (factO o) (LS s)) := Lib.hid (by rintro ⟨T, rfl, hT⟩; exact fact_meets T _ hT)
      have HLH := Lib.hid (fact_lo_hi o)
      obtain ⟨G9, hG9⟩ : ∃ G, factO o = G := ⟨_, rfl⟩
      have HG9 := Lib.hid hG9
      rw [hG9] at HMT HLH
      obtain ⟨sm, lo, hi, more, S9, U9⟩ := G9
      cases sm with
      | false =>
        have hf0 : factO o = f0 := fact_dead o (by rw [hG9])
        rw [hf0] at hG9
        clear hG9
        have HC9 := Lib.hid (pshort_any w0 a n c o HR0.out (by omega))
        rw [hf0, show shF f0 = -1 from rfl] at HC9
        go_wp2_with fail
        refine HC9.out.mono ?_
        rintro e w1 ⟨rfl, hb9⟩
        have HR1 := Lib.hid (HR0.out.below hb9)
        have HB1 : Hid (Below W.heap.size W w1) := Lib.hid (HB0.out.trans (hb9.mono HB0.out.size))
        clear hb9 HC9
        have HC9 := Lib.hid (plong_any w1 a n c o HR1.out (by omega))
        rw [hf0, show loF f0 = -1 from rfl] at HC9
        go_wp2_with fail
        refine HC9.out.mono ?_
        rintro e w2 ⟨rfl, hb9⟩
        have HR2 := Lib.hid (HR1.out.below hb9)
        have HB2 : Hid (Below W.heap.size W w2) := Lib.hid (HB1.out.trans (hb9.mono HB1.out.size))
        clear hb9 HC9
        have HC9 := Lib.hid (pnull_any w2 a n c o HR2.out (by omega))
        rw [hf0, show (shF f0 == 0) = false from rfl] at HC9
        go_wp2_with fail
        refine HC9.out.mono ?_
        rintro e w3 ⟨rfl, hb9⟩
        have HR3 := Lib.hid (HR2.out.below hb9)
        have HB3 : Hid (Below W.heap.size W w3) := Lib.hid (HB2.out.trans (hb9.mono HB2.out.size))
        clear hb9 HC9
        have HC9 := Lib.hid (pused_any w3 a n c o HR3.out (by omega))
        rw [hf0, show f0.used = emptyS from rfl, setV, wd_emptyS, wd_emptyS, wd_emptyS, wd_emptyS] at HC9
        have hqe := fun w => run_eqS 0 0 0 0 0 0 0 0 w
        simp only [beq_self_eq_true, Bool.and_self] at hqe
        go_wp2_with fail
        refine HC9.out.mono ?_
        rintro e w4 ⟨rfl, hb9⟩
        have HR4 := Lib.hid (HR3.out.below hb9)
        have HB4 : Hid (Below W.heap.size W w4) := Lib.hid (HB3.out.trans (hb9.mono HB3.out.size))
        clear hb9 HC9
        have HC9 := Lib.hid (says9p_any w4 a n c o s HR4.out (by omega) (by omega))
        go_wp2_with fail
        refine HC9.out.mono ?_
        rintro e w5 ⟨r, hr, rfl, hb9⟩
        have HR5 := Lib.hid (HR4.out.below hb9)
        have HB5 : Hid (Below W.heap.size W w5) := Lib.hid (HB4.out.trans (hb9.mono HB4.out.size))
        clear hb9 HC9
        obtain rfl : r = false := by
          cases r with
          | false => rfl
          | true => have := (HMT.out (hr.1 rfl)).1; cases this
        clear hr
        have HC9 := Lib.hid (knows9_any w5)
        go_wp2_with fail
        refine HC9.out.mono ?_
        rintro e w6 ⟨rfl, hb9⟩
        have HB6 : Hid (Below W.heap.size W w6) := Lib.hid (HB5.out.trans (hb9.mono HB5.out.size))
        clear hb9 HC9
        go_wp2
        go_ret
        exact ⟨rfl, HB6.out⟩
      | true =>
        obtain ⟨z2, hz2⟩ : ∃ z2, loF ⟨true, lo, hi, more, S9, U9⟩ = z2 := ⟨_, rfl⟩
        have HZ2 : Hid (z2 = if more = true then -2 else (hi : Int)) := Lib.hid (by rw [← hz2]; rfl)
        have hsh : shF ⟨true, lo, hi, more, S9, U9⟩ = (lo : Int) := rfl
        obtain ⟨bb, hbb⟩ : ∃ bb, ((lo : Int) == 0) = bb := ⟨_, rfl⟩
        have m1 : ¬ (lo : Int) < 0 := by omega
        have m2 : (z2 == -1) = false := by
          rw [beq_eq_false_iff_ne, HZ2.out]
          split <;> omega
        have m3 : (bb != bb) = false := by simp
        have m4 : 0 ≤ z2 → ¬ z2 < (lo : Int) := fun h => by
          have h9 := HZ2.out
          have h8 : lo ≤ hi := HLH.out
          split at h9 <;> omega
        have HM4 := Lib.hid m4
        clear m4
        have HC9 := Lib.hid (pshort_any w0 a n c o HR0.out (by omega))
        rw [hG9, hsh] at HC9
        go_wp2_with fail
        refine HC9.out.mono ?_
        rintro e w1 ⟨rfl, hb9⟩
        have HR1 := Lib.hid (HR0.out.below hb9)
        have HB1 : Hid (Below W.heap.size W w1) := Lib.hid (HB0.out.trans (hb9.mono HB0.out.size))
        clear hb9 HC9
        have HC9 := Lib.hid (plong_any w1 a n c o HR1.out (by omega))
        rw [hG9, hz2] at HC9
        go_wp2_with fail
        refine HC9.out.mono ?_
        rintro e w2 ⟨rfl, hb9⟩
        have HR2 := Lib.hid (HR1.out.below hb9)
        have HB2 : Hid (Below W.heap.size W w2) := Lib.hid (HB1.out.trans (hb9.mono HB1.out.size))
        clear hb9 HC9
        have HPN := Lib.hid (pnull_any w2 a n c o HR2.out (by omega))
        rw [hG9, hsh, hbb] at HPN
        have HSA := Lib.hid (fun X (hX : Below w2.heap.size w2 X) => says9p_any X a n c o s (HR2.out.below hX) (by omega) (by omega))
        have HUS0 := Lib.hid (fun X (hX : Below W.heap.size W X) => pused_any X a n c o (HRW.out.below hX) (by omega))
        have HFS0 := Lib.hid (fun X (hX : Below W.heap.size W X) => pfirst_any X a n c o (HRW.out.below hX) (by omega))
        rw [hG9, setV] at HUS0 HFS0
        clear hG9 hz2 hsh
        by_cases hz0 : 0 ≤ z2
        · have m4 := HM4.out hz0
          go_wp2_with fail
          refine HPN.out.mono ?_
          rintro e w3 ⟨rfl, hb9⟩
          have HB3 : Hid (Below W.heap.size W w3) := Lib.hid (HB2.out.trans (hb9.mono HB2.out.size))
          have HC9 := Lib.hid (HSA.out w3 hb9)
          clear hb9 HPN
          go_wp2_with fail
          refine HC9.out.mono ?_
          rintro e w4 ⟨r, hr, rfl, hb9⟩
          have HB4 : Hid (Below W.heap.size W w4) := Lib.hid (HB3.out.trans (hb9.mono HB3.out.size))
          have HSW := Lib.hid hr
          clear hb9 HC9 hr
          cases r with
          | false =>
            have HC9 := Lib.hid (knows9_any w4)
            go_wp2_with fail
            refine HC9.out.mono ?_
            rintro e w5 ⟨rfl, hb9⟩
            have HB5 : Hid (Below W.heap.size W w5) := Lib.hid (HB4.out.trans (hb9.mono HB4.out.size))
            clear hb9 HC9
            go_wp2
            go_ret
            exact ⟨rfl, HB5.out⟩
          | true =>
            have HMM := Lib.hid (HMT.out (HSW.out.1 rfl))
            obtain ⟨cb, hcb⟩ : ∃ cb : Nat → UInt8, ∀ (q : Nat) (h : q < s.size), s[q]'h = cb q := ⟨fun q => if h : q < s.size then s[q]'h else 0, fun q h => by simp [h]⟩
            have HCB : Hid (∀ q, q < s.size → (LS s)[q]? = some (cb q)) := Lib.hid fun q h => by rw [LS_at s q h, hcb]
            have n1 : lo ≤ s.size := by have h9 : lo ≤ (LS s).length := HMM.out.2.1; rw [LS_len] at h9; exact h9
            have n2 : (lo : Int) ≤ (s.size : Int) := by omega
            have n3 : (0 : Int) ≤ (lo : Int) := by omega
            have HN4 : Hid (z2 = -2 ∨ (s.size : Int) ≤ z2) := Lib.hid (by
              rcases HMM.out.2.2.1 with h9 | h9
              · have h9 : more = true := h9
                left; rw [HZ2.out, if_pos h9]
              · have h9 : (LS s).length ≤ hi := h9
                rw [LS_len] at h9
                rw [HZ2.out]
                split
                · exact .inl rfl
                · right; omega)
            go_wp2
            go_loopw [7] (fun i wr => ∃ q : Nat, q ≤ s.size ∧ i = .int .i64 (q : Int) ∧ Below W.heap.size W wr) (fun i _ => s.size - (intOf i).toNat)
            case atStart => exact ⟨0, by omega, rfl, HB4.out⟩
            case round =>
              obtain ⟨q, hq, rfl, hb⟩ := hrel
              have HBR := Lib.hid hb
              clear hb
              by_cases hlt : q < s.size
              · have k0 : (0 : Int) ≤ (q : Int) := by omega
                have k3 : (q : Int) < (s.size : Int) := by omega
                have k4 : decide (q < s.size) = true := decide_eq_true hlt
                have hcq := hcb q
                have HUS := Lib.hid (fun X (hX : Below wr.heap.size wr X) => HUS0.out X (HBR.out.trans (hX.mono HBR.out.size)))
                have HFS := Lib.hid (fun X (hX : Below wr.heap.size wr X) => HFS0.out X (HBR.out.trans (hX.mono HBR.out.size)))
                have HUH := Lib.hid (fun X => has_any U9 (cb q).toNat X (cb q).toNat_lt)
                rw [show U9 (cb q).toNat = true from HMM.out.2.2.2.1 (cb q) (List.mem_of_getElem? (HCB.out q hlt)), setV] at HUH
                rcases Nat.eq_zero_or_pos q with hq0 | hq0
                · have k5 : ((q : Int) == 0) = true := by rw [beq_iff_eq]; omega
                  have HFH := Lib.hid (fun X => has_any S9 (cb q).toNat X (cb q).toNat_lt)
                  rw [show S9 (cb q).toNat = true from (by
                    have h9 := HCB.out q hlt
                    rw [hq0] at h9 ⊢
                    cases hL : LS s with
                    | nil => rw [hL] at h9; cases h9
                    | cons d r =>
                      rw [hL] at h9
                      simp only [List.getElem?_cons_zero, Option.some.injEq] at h9
                      rw [← h9]
                      exact HMM.out.2.2.2.2 d r hL), setV] at HFH
                  clear hq0 hcb
                  go_wp2
                  refine wp_region_fam_lit (E := Onto)
                    [isV (.slice a n c),
                     isV (.agg #[.int .u64 (wd U9 0), .int .u64 (wd U9 1), .int .u64 (wd U9 2), .int .u64 (wd U9 3)]),
                     isV (.string s),
                     isV (.int .i64 (q : Int)),
                     isV (.int .u8 ((cb q).toNat : Int)),
                     isV (.bool true),
                     isV (.bool false),
                     isV (.bool false),
                     isV (.int .i64 (q : Int)),
                     isV (.bool true),
                     isV (.bool true),
                     isV (.slice a n c),
                     isV (.agg #[.int .u64 (wd S9 0), .int .u64 (wd S9 1), .int .u64 (wd S9 2), .int .u64 (wd S9 3)]),
                     isV (.string s),
                     isV (.int .i64 (q : Int)),
                     isV (.int .u8 ((cb q).toNat : Int)),
                     isV (.bool true),
                     isV (.bool false),
                     isV (.bool false),
                     isV (.bool false)]
                    [some 63, some 64, some 65, some 66, some 67, some 68, some 69, some 70, some 71, some 72, some 73, some 74, some 75, some 76, some 77, some 78, some 79, some 80, some 81, some 82] (by kernel_rfl) rfl (by kernel_rfl) rfl Onto.trans Onto.refl ?monoZ ?obZ ?qZ
                  case monoZ => exact ⟨isV_mono _ _, isV_mono _ _, isV_mono _ _, isV_mono _ _, isV_mono _ _, isV_mono _ _, isV_mono _ _, isV_mono _ _, isV_mono _ _, isV_mono _ _, isV_mono _ _, isV_mono _ _, isV_mono _ _, isV_mono _ _, isV_mono _ _, isV_mono _ _, isV_mono _ _, isV_mono _ _, isV_mono _ _, isV_mono _ _, trivial⟩
                  case obZ =>
                    refine Obs.cons (j := 1) rfl ?_ ?_
                    · refine Ob.free [(0, none)] (by kernel_rfl) (isV (.slice a n c)) rfl rfl (fun a X hE hL => ?_)
                      simp [Seen, slotAt] at hL
                      have h0 := hL
                      rw [relAt_eq]
                      go_simp
                      exact ⟨Onto.refl _, rfl⟩
                    refine Obs.cons (j := 2) rfl ?_ ?_
                    · refine Ob.free [(63, some 0)] (by kernel_rfl) (isV (.agg #[.int .u64 (wd U9 0), .int .u64 (wd U9 1), .int .u64 (wd U9 2), .int .u64 (wd U9 3)])) rfl rfl (fun a X hE hL => ?_)
                      simp [Seen, slotAt, famV, isV] at hL
                      have h63 := hL
                      rw [relAt_eq]
                      go_simp
                      rw [relUpon_enter]
                      go_at_call 21
                      refine (HUS.out X (onto_drew hE)).mono ?_
                      rintro e Y ⟨rfl, hY⟩
                      exact ⟨_, rfl, hY, rfl⟩
                    refine Obs.cons (j := 3) rfl ?_ ?_
                    · refine Ob.free [(1, none)] (by kernel_rfl) (isV (.string s)) rfl rfl (fun a X hE hL => ?_)
                      simp [Seen, slotAt] at hL
                      have h1 := hL
                      rw [relAt_eq]
                      go_simp
                      exact ⟨Onto.refl _, rfl⟩
                    refine Obs.cons (j := 4) rfl ?_ ?_
                    · refine Ob.free [(7, none)] (by kernel_rfl) (isV (.int .i64 (q : Int))) rfl rfl (fun a X hE hL => ?_)
                      simp [Seen, slotAt] at hL
                      have h7 := hL
                      rw [relAt_eq]
                      go_simp
                      exact ⟨Onto.refl _, rfl⟩
                    refine Obs.cons (j := 5) rfl ?_ ?_
                    · refine Ob.free [(65, some 2), (66, some 3)] (by kernel_rfl) (isV (.int .u8 ((cb q).toNat : Int))) rfl rfl (fun a X hE hL => ?_)
                      simp [Seen, slotAt, famV, isV] at hL
                      obtain ⟨h65, h66⟩ := hL
                      rw [relAt_eq]
                      go_simp
                      exact ⟨Onto.refl _, rfl⟩
                    refine Obs.cons (j := 6) rfl ?_ ?_
                    · refine Ob.free [(64, some 1), (67, some 4)] (by kernel_rfl) (isV (.bool true)) rfl rfl (fun a X hE hL => ?_)
                      simp [Seen, slotAt, famV, isV] at hL
                      obtain ⟨h64, h67⟩ := hL
                      rw [relAt_eq]
                      go_simp
                      rw [relUpon_enter]
                      go_at_call 23
                      refine (HUH.out X).mono ?_
                      rintro e Y ⟨rfl, hY⟩
                      exact ⟨_, rfl, hY, rfl⟩
                    refine Obs.cons (j := 7) rfl ?_ ?_
                    · refine Ob.free [(68, some 5)] (by kernel_rfl) (isV (.bool false)) rfl rfl (fun a X hE hL => ?_)
                      simp [Seen, slotAt, famV, isV] at hL
                      have h68 := hL
                      rw [relAt_eq]
                      go_simp
                      exact ⟨Onto.refl _, rfl⟩
                    refine Obs.cons (j := 8) rfl ?_ ?_
                    · refine Ob.free [(69, some 6)] (by kernel_rfl) (isV (.bool false)) rfl rfl (fun a X hE hL => ?_)
                      simp [Seen, slotAt, famV, isV] at hL
                      have h69 := hL
                      rw [relAt_eq]
                      go_simp
                      exact ⟨Onto.refl _, rfl⟩
                    refine Obs.cons (j := 9) rfl ?_ ?_
                    · refine Ob.guarded [(7, none), (70, some 7)] (by kernel_rfl) (isV (.int .i64 (q : Int))) rfl 7 false 70 rfl rfl (fun a X hE hL => ?_)
                      simp [Seen, slotAt, famV, isV] at hL
                      obtain ⟨h7, h70⟩ := hL
                      refine ⟨by simpa using h70, ?_⟩
                      clear h70
                      rw [relAt_eq]
                      go_simp
                      exact ⟨Onto.refl _, rfl⟩
                    refine Obs.cons (j := 10) rfl ?_ ?_
                    · refine Ob.guarded [(71, some 8), (70, some 7)] (by kernel_rfl) (isV (.bool true)) rfl 7 false 70 rfl rfl (fun a X hE hL => ?_)
                      simp [Seen, slotAt, famV, isV] at hL
                      obtain ⟨h71, h70⟩ := hL
                      refine ⟨by simpa using h70, ?_⟩
                      clear h70
                      rw [relAt_eq]
                      go_simp
                      exact ⟨Onto.refl _, rfl⟩
                    refine Obs.cons (j := 11) rfl ?_ ?_
                    · refine Ob.guarded [(72, some 9), (70, some 7)] (by kernel_rfl) (isV (.bool true)) rfl 7 false 70 rfl rfl (fun a X hE hL => ?_)
                      simp [Seen, slotAt, famV, isV] at hL
                      obtain ⟨h72, h70⟩ := hL
                      refine ⟨by simpa using h70, ?_⟩
                      clear h70
                      rw [relAt_eq]
                      go_simp
                      exact ⟨Onto.refl _, rfl⟩
                    refine Obs.cons (j := 12) rfl ?_ ?_
                    · refine Ob.guarded [(0, none), (73, some 10)] (by kernel_rfl) (isV (.slice a n c)) rfl 10 true 73 rfl rfl (fun a X hE hL => ?_)
                      simp [Seen, slotAt, famV, isV] at hL
                      obtain ⟨h0, h73⟩ := hL
                      refine ⟨by simpa using h73, ?_⟩
                      clear h73
                      rw [relAt_eq]
                      go_simp
                      exact ⟨Onto.refl _, rfl⟩
                    refine Obs.cons (j := 13) rfl ?_ ?_
                    · refine Ob.guarded [(74, some 11), (73, some 10)] (by kernel_rfl) (isV (.agg #[.int .u64 (wd S9 0), .int .u64 (wd S9 1), .int .u64 (wd S9 2), .int .u64 (wd S9 3)])) rfl 10 true 73 rfl rfl (fun a X hE hL => ?_)
                      simp [Seen, slotAt, famV, isV] at hL
                      obtain ⟨h74, h73⟩ := hL
                      refine ⟨by simpa using h73, ?_⟩
                      clear h73
                      rw [relAt_eq]
                      go_simp
                      rw [relUpon_enter]
                      go_at_call 19
                      refine (HFS.out X (onto_drew hE)).mono ?_
                      rintro e Y ⟨rfl, hY⟩
                      exact ⟨_, rfl, hY, rfl⟩
                    refine Obs.cons (j := 14) rfl ?_ ?_
                    · refine Ob.guarded [(1, none), (73, some 10)] (by kernel_rfl) (isV (.string s)) rfl 10 true 73 rfl rfl (fun a X hE hL => ?_)
                      simp [Seen, slotAt, famV, isV] at hL
                      obtain ⟨h1, h73⟩ := hL
                      refine ⟨by simpa using h73, ?_⟩
                      clear h73
                      rw [relAt_eq]
                      go_simp
                      exact ⟨Onto.refl _, rfl⟩
                    refine Obs.cons (j := 15) rfl ?_ ?_
                    · refine Ob.guarded [(7, none), (73, some 10)] (by kernel_rfl) (isV (.int .i64 (q : Int))) rfl 10 true 73 rfl rfl (fun a X hE hL => ?_)
                      simp [Seen, slotAt, famV, isV] at hL
                      obtain ⟨h7, h73⟩ := hL
                      refine ⟨by simpa using h73, ?_⟩
                      clear h73
                      rw [relAt_eq]
                      go_simp
                      exact ⟨Onto.refl _, rfl⟩
                    refine Obs.cons (j := 16) rfl ?_ ?_
                    · refine Ob.guarded [(76, some 13), (77, some 14), (73, some 10)] (by kernel_rfl) (isV (.int .u8 ((cb q).toNat : Int))) rfl 10 true 73 rfl rfl (fun a X hE hL => ?_)
                      simp [Seen, slotAt, famV, isV] at hL
                      obtain ⟨h76, h77, h73⟩ := hL
                      refine ⟨by simpa using h73, ?_⟩
                      clear h73
                      rw [relAt_eq]
                      go_simp
                      exact ⟨Onto.refl _, rfl⟩
                    refine Obs.cons (j := 17) rfl ?_ ?_
                    · refine Ob.guarded [(75, some 12), (78, some 15), (73, some 10)] (by kernel_rfl) (isV (.bool true)) rfl 10 true 73 rfl rfl (fun a X hE hL => ?_)
                      simp [Seen, slotAt, famV, isV] at hL
                      obtain ⟨h75, h78, h73⟩ := hL
                      refine ⟨by simpa using h73, ?_⟩
                      clear h73
                      rw [relAt_eq]
                      go_simp
                      rw [relUpon_enter]
                      go_at_call 23
                      refine (HFH.out X).mono ?_
                      rintro e Y ⟨rfl, hY⟩
                      exact ⟨_, rfl, hY, rfl⟩
                    refine Obs.cons (j := 18) rfl ?_ ?_
                    · refine Ob.guarded [(79, some 16), (73, some 10)] (by kernel_rfl) (isV (.bool false)) rfl 10 true 73 rfl rfl (fun a X hE hL => ?_)
                      simp [Seen, slotAt, famV, isV] at hL
                      obtain ⟨h79, h73⟩ := hL
                      refine ⟨by simpa using h73, ?_⟩
                      clear h73
                      rw [relAt_eq]
                      go_simp
                      exact ⟨Onto.refl _, rfl⟩
                    refine Obs.cons (j := 19) rfl ?_ ?_
                    · refine Ob.guarded [(73, some 10), (80, some 17), (70, some 7)] (by kernel_rfl) (isV (.bool false)) rfl 7 false 70 rfl rfl (fun a X hE hL => ?_)
                      simp [Seen, slotAt, famV, isV] at hL
                      obtain ⟨h73, h80, h70⟩ := hL
                      refine ⟨by simpa using h70, ?_⟩
                      clear h70
                      rw [relAt_eq]
                      go_simp
                      exact ⟨Onto.refl _, rfl⟩
                    refine Obs.cons (j := 20) rfl ?_ ?_
                    · refine Ob.free [(70, some 7), (81, some 18)] (by kernel_rfl) (isV (.bool false)) rfl rfl (fun a X hE hL => ?_)
                      simp [Seen, slotAt, famV, isV] at hL
                      obtain ⟨h70, h81⟩ := hL
                      rw [relAt_eq]
                      go_simp
                      exact ⟨Onto.refl _, rfl⟩
                    exact trivial
                  case qZ =>
                    intro x w9 hE hV
                    simp [AllV, famV, isV] at hV
                    obtain ⟨-, -, -, -, -, -, -, -, -, -, -, -, -, -, -, -, -, -, -, h82⟩ := hV
                    simp only [puts, Act.put, List.setIfInBounds_toArray, List.set_cons_zero, List.set_cons_succ, h82]
                    generalize x 63 = y63
                    generalize x 64 = y64
                    generalize x 65 = y65
                    generalize x 66 = y66
                    generalize x 67 = y67
                    generalize x 68 = y68
                    generalize x 69 = y69
                    generalize x 70 = y70
                    generalize x 71 = y71
                    generalize x 72 = y72
                    generalize x 73 = y73
                    generalize x 74 = y74
                    generalize x 75 = y75
                    generalize x 76 = y76
                    generalize x 77 = y77
                    generalize x 78 = y78
                    generalize x 79 = y79
                    generalize x 80 = y80
                    generalize x 81 = y81
                    clear h82
                    have HB9 : Hid (Below W.heap.size W w9) := Lib.hid (HBR.out.trans ((onto_drew hE).mono HBR.out.size))
                    clear hE
                    go_wp2
                    go_roundw
                    case rel => first | exact ⟨q + 1, by omega, by go_num, HB9.out⟩ | ((repeat apply Exists.intro); exact ⟨⟨q + 1, by omega, by go_num, HB9.out⟩, rfl⟩)
                    case measure => simp [intOf]; omega
                · have k5 : ((q : Int) == 0) = false := by rw [beq_eq_false_iff_ne]; omega
                  clear hq0 hcb
                  go_wp2
                  refine wp_region_fam_lit (E := Onto)
                    [isV (.slice a n c),
                     isV (.agg #[.int .u64 (wd U9 0), .int .u64 (wd U9 1), .int .u64 (wd U9 2), .int .u64 (wd U9 3)]),
                     isV (.string s),
                     isV (.int .i64 (q : Int)),
                     isV (.int .u8 ((cb q).toNat : Int)),
                     isV (.bool true),
                     isV (.bool false),
                     isV (.bool false),
                     isV (.int .i64 (q : Int)),
                     isV (.bool false),
                     isV (.bool false),
                     isV undef,
                     isV undef,
                     isV undef,
                     isV undef,
                     isV undef,
                     isV undef,
                     isV undef,
                     isV (.bool false),
                     isV (.bool false)]
                    [some 63, some 64, some 65, some 66, some 67, some 68, some 69, some 70, some 71, some 72, some 73, some 74, some 75, some 76, some 77, some 78, some 79, some 80, some 81, some 82] (by kernel_rfl) rfl (by kernel_rfl) rfl Onto.trans Onto.refl ?monoN ?obN ?qN
                  case monoN => exact ⟨isV_mono _ _, isV_mono _ _, isV_mono _ _, isV_mono _ _, isV_mono _ _, isV_mono _ _, isV_mono _ _, isV_mono _ _, isV_mono _ _, isV_mono _ _, isV_mono _ _, isV_mono _ _, isV_mono _ _, isV_mono _ _, isV_mono _ _, isV_mono _ _, isV_mono _ _, isV_mono _ _, isV_mono _ _, isV_mono _ _, trivial⟩
                  case obN =>
                    refine Obs.cons (j := 1) rfl ?_ ?_
                    · refine Ob.free [(0, none)] (by kernel_rfl) (isV (.slice a n c)) rfl rfl (fun a X hE hL => ?_)
                      simp [Seen, slotAt] at hL
                      have h0 := hL
                      rw [relAt_eq]
                      go_simp
                      exact ⟨Onto.refl _, rfl⟩
                    refine Obs.cons (j := 2) rfl ?_ ?_
                    · refine Ob.free [(63, some 0)] (by kernel_rfl) (isV (.agg #[.int .u64 (wd U9 0), .int .u64 (wd U9 1), .int .u64 (wd U9 2), .int .u64 (wd U9 3)])) rfl rfl (fun a X hE hL => ?_)
                      simp [Seen, slotAt, famV, isV] at hL
                      have h63 := hL
                      rw [relAt_eq]
                      go_simp
                      rw [relUpon_enter]
                      go_at_call 21
                      refine (HUS.out X (onto_drew hE)).mono ?_
                      rintro e Y ⟨rfl, hY⟩
                      exact ⟨_, rfl, hY, rfl⟩
                    refine Obs.cons (j := 3) rfl ?_ ?_
                    · refine Ob.free [(1, none)] (by kernel_rfl) (isV (.string s)) rfl rfl (fun a X hE hL => ?_)
                      simp [Seen, slotAt] at hL
                      have h1 := hL
                      rw [relAt_eq]
                      go_simp
                      exact ⟨Onto.refl _, rfl⟩
                    refine Obs.cons (j := 4) rfl ?_ ?_
                    · refine Ob.free [(7, none)] (by kernel_rfl) (isV (.int .i64 (q : Int))) rfl rfl (fun a X hE hL => ?_)
                      simp [Seen, slotAt] at hL
                      have h7 := hL
                      rw [relAt_eq]
                      go_simp
                      exact ⟨Onto.refl _, rfl⟩
                    refine Obs.cons (j := 5) rfl ?_ ?_
                    · refine Ob.free [(65, some 2), (66, some 3)] (by kernel_rfl) (isV (.int .u8 ((cb q).toNat : Int))) rfl rfl (fun a X hE hL => ?_)
                      simp [Seen, slotAt, famV, isV] at hL
                      obtain ⟨h65, h66⟩ := hL
                      rw [relAt_eq]
                      go_simp
                      exact ⟨Onto.refl _, rfl⟩
                    refine Obs.cons (j := 6) rfl ?_ ?_
                    · refine Ob.free [(64, some 1), (67, some 4)] (by kernel_rfl) (isV (.bool true)) rfl rfl (fun a X hE hL => ?_)
                      simp [Seen, slotAt, famV, isV] at hL
                      obtain ⟨h64, h67⟩ := hL
                      rw [relAt_eq]
                      go_simp
                      rw [relUpon_enter]
                      go_at_call 23
                      refine (HUH.out X).mono ?_
                      rintro e Y ⟨rfl, hY⟩
                      exact ⟨_, rfl, hY, rfl⟩
                    refine Obs.cons (j := 7) rfl ?_ ?_
                    · refine Ob.free [(68, some 5)] (by kernel_rfl) (isV (.bool false)) rfl rfl (fun a X hE hL => ?_)
                      simp [Seen, slotAt, famV, isV] at hL
                      have h68 := hL
                      rw [relAt_eq]
                      go_simp
                      exact ⟨Onto.refl _, rfl⟩
                    refine Obs.cons (j := 8) rfl ?_ ?_
                    · refine Ob.free [(69, some 6)] (by kernel_rfl) (isV (.bool false)) rfl rfl (fun a X hE hL => ?_)
                      simp [Seen, slotAt, famV, isV] at hL
                      have h69 := hL
                      rw [relAt_eq]
                      go_simp
                      exact ⟨Onto.refl _, rfl⟩
                    refine Obs.cons (j := 9) rfl ?_ ?_
                    · refine Ob.guarded [(7, none), (70, some 7)] (by kernel_rfl) (isV (.int .i64 (q : Int))) rfl 7 false 70 rfl rfl (fun a X hE hL => ?_)
                      simp [Seen, slotAt, famV, isV] at hL
                      obtain ⟨h7, h70⟩ := hL
                      refine ⟨by simpa using h70, ?_⟩
                      clear h70
                      rw [relAt_eq]
                      go_simp
                      exact ⟨Onto.refl _, rfl⟩
                    refine Obs.cons (j := 10) rfl ?_ ?_
                    · refine Ob.guarded [(71, some 8), (70, some 7)] (by kernel_rfl) (isV (.bool false)) rfl 7 false 70 rfl rfl (fun a X hE hL => ?_)
                      simp [Seen, slotAt, famV, isV] at hL
                      obtain ⟨h71, h70⟩ := hL
                      refine ⟨by simpa using h70, ?_⟩
                      clear h70
                      rw [relAt_eq]
                      go_simp
                      exact ⟨Onto.refl _, rfl⟩
                    refine Obs.cons (j := 11) rfl ?_ ?_
                    · refine Ob.guarded [(72, some 9), (70, some 7)] (by kernel_rfl) (isV (.bool false)) rfl 7 false 70 rfl rfl (fun a X hE hL => ?_)
                      simp [Seen, slotAt, famV, isV] at hL
                      obtain ⟨h72, h70⟩ := hL
                      refine ⟨by simpa using h70, ?_⟩
                      clear h70
                      rw [relAt_eq]
                      go_simp
                      exact ⟨Onto.refl _, rfl⟩
                    refine Obs.cons (j := 12) rfl ?_ ?_
                    · refine Ob.skip [(0, none), (73, some 10)] (by kernel_rfl) rfl 10 true 73 rfl rfl (fun a X hE hL => ?_)
                      simp [Seen, slotAt, famV, isV] at hL
                      obtain ⟨h0, h73⟩ := hL
                      simpa using h73
                    refine Obs.cons (j := 13) rfl ?_ ?_
                    · refine Ob.skip [(74, some 11), (73, some 10)] (by kernel_rfl) rfl 10 true 73 rfl rfl (fun a X hE hL => ?_)
                      simp [Seen, slotAt, famV, isV] at hL
                      obtain ⟨h74, h73⟩ := hL
                      simpa using h73
                    refine Obs.cons (j := 14) rfl ?_ ?_
                    · refine Ob.skip [(1, none), (73, some 10)] (by kernel_rfl) rfl 10 true 73 rfl rfl (fun a X hE hL => ?_)
                      simp [Seen, slotAt, famV, isV] at hL
                      obtain ⟨h1, h73⟩ := hL
                      simpa using h73
                    refine Obs.cons (j := 15) rfl ?_ ?_
                    · refine Ob.skip [(7, none), (73, some 10)] (by kernel_rfl) rfl 10 true 73 rfl rfl (fun a X hE hL => ?_)
                      simp [Seen, slotAt, famV, isV] at hL
                      obtain ⟨h7, h73⟩ := hL
                      simpa using h73
                    refine Obs.cons (j := 16) rfl ?_ ?_
                    · refine Ob.skip [(76, some 13), (77, some 14), (73, some 10)] (by kernel_rfl) rfl 10 true 73 rfl rfl (fun a X hE hL => ?_)
                      simp [Seen, slotAt, famV, isV] at hL
                      obtain ⟨h76, h77, h73⟩ := hL
                      simpa using h73
                    refine Obs.cons (j := 17) rfl ?_ ?_
                    · refine Ob.skip [(75, some 12), (78, some 15), (73, some 10)] (by kernel_rfl) rfl 10 true 73 rfl rfl (fun a X hE hL => ?_)
                      simp [Seen, slotAt, famV, isV] at hL
                      obtain ⟨h75, h78, h73⟩ := hL
                      simpa using h73
                    refine Obs.cons (j := 18) rfl ?_ ?_
                    · refine Ob.skip [(79, some 16), (73, some 10)] (by kernel_rfl) rfl 10 true 73 rfl rfl (fun a X hE hL => ?_)
                      simp [Seen, slotAt, famV, isV] at hL
                      obtain ⟨h79, h73⟩ := hL
                      simpa using h73
                    refine Obs.cons (j := 19) rfl ?_ ?_
                    · refine Ob.guarded [(73, some 10), (80, some 17), (70, some 7)] (by kernel_rfl) (isV (.bool false)) rfl 7 false 70 rfl rfl (fun a X hE hL => ?_)
                      simp [Seen, slotAt, famV, isV] at hL
                      obtain ⟨h73, h80, h70⟩ := hL
                      refine ⟨by simpa using h70, ?_⟩
                      clear h70
                      rw [relAt_eq]
                      go_simp
                      exact ⟨Onto.refl _, rfl⟩
                    refine Obs.cons (j := 20) rfl ?_ ?_
                    · refine Ob.free [(70, some 7), (81, some 18)] (by kernel_rfl) (isV (.bool false)) rfl rfl (fun a X hE hL => ?_)
                      simp [Seen, slotAt, famV, isV] at hL
                      obtain ⟨h70, h81⟩ := hL
                      rw [relAt_eq]
                      go_simp
                      exact ⟨Onto.refl _, rfl⟩
                    exact trivial
                  case qN =>
                    intro x w9 hE hV
                    simp [AllV, famV, isV] at hV
                    obtain ⟨-, -, -, -, -, -, -, -, -, -, -, -, -, -, -, -, -, -, -, h82⟩ := hV
                    simp only [puts, Act.put, List.setIfInBounds_toArray, List.set_cons_zero, List.set_cons_succ, h82]
                    generalize x 63 = y63
                    generalize x 64 = y64
                    generalize x 65 = y65
                    generalize x 66 = y66
                    generalize x 67 = y67
                    generalize x 68 = y68
                    generalize x 69 = y69
                    generalize x 70 = y70
                    generalize x 71 = y71
                    generalize x 72 = y72
                    generalize x 73 = y73
                    generalize x 74 = y74
                    generalize x 75 = y75
                    generalize x 76 = y76
                    generalize x 77 = y77
                    generalize x 78 = y78
                    generalize x 79 = y79
                    generalize x 80 = y80
                    generalize x 81 = y81
                    clear h82
                    have HB9 : Hid (Below W.heap.size W w9) := Lib.hid (HBR.out.trans ((onto_drew hE).mono HBR.out.size))
                    clear hE
                    go_wp2
                    go_roundw
                    case rel => first | exact ⟨q + 1, by omega, by go_num, HB9.out⟩ | ((repeat apply Exists.intro); exact ⟨⟨q + 1, by omega, by go_num, HB9.out⟩, rfl⟩)
                    case measure => simp [intOf]; omega
              · have hqs : q = s.size := by omega
                have k3 : ¬ (q : Int) < (s.size : Int) := by omega
                clear hqs
                rcases HN4.out with hz | hz
                · have y1 : (z2 == -2) = true := by rw [beq_iff_eq]; exact hz
                  clear hz
                  have HC9 := Lib.hid (knows9_any wr)
                  go_wp2_with fail
                  refine HC9.out.mono ?_
                  rintro e w9 ⟨rfl, hb9⟩
                  have HB9 : Hid (Below W.heap.size W w9) := Lib.hid (HBR.out.trans (hb9.mono HBR.out.size))
                  clear hb9 HC9
                  go_wp2
                  go_ret
                  exact ⟨rfl, HB9.out⟩
                · have y1 : (z2 == -2) = false := by rw [beq_eq_false_iff_ne]; omega
                  have HC9 := Lib.hid (knows9_any wr)
                  go_wp2_with fail
                  refine HC9.out.mono ?_
                  rintro e w9 ⟨rfl, hb9⟩
                  have HB9 : Hid (Below W.heap.size W w9) := Lib.hid (HBR.out.trans (hb9.mono HBR.out.size))
                  clear hb9 HC9
                  go_wp2
                  go_ret
                  exact ⟨rfl, HB9.out⟩
        · go_wp2_with fail
          refine HPN.out.mono ?_
          rintro e w3 ⟨rfl, hb9⟩
          have HB3 : Hid (Below W.heap.size W w3) := Lib.hid (HB2.out.trans (hb9.mono HB2.out.size))
          have HC9 := Lib.hid (HSA.out w3 hb9)
          clear hb9 HPN
          go_wp2_with fail
          refine HC9.out.mono ?_
          rintro e w4 ⟨r, hr, rfl, hb9⟩
          have HB4 : Hid (Below W.heap.size W w4) := Lib.hid (HB3.out.trans (hb9.mono HB3.out.size))
          have HSW := Lib.hid hr
          clear hb9 HC9 hr
          cases r with
          | false =>
            have HC9 := Lib.hid (knows9_any w4)
            go_wp2_with fail
            refine HC9.out.mono ?_
            rintro e w5 ⟨rfl, hb9⟩
            have HB5 : Hid (Below W.heap.size W w5) := Lib.hid (HB4.out.trans (hb9.mono HB4.out.size))
            clear hb9 HC9
            go_wp2
            go_ret
            exact ⟨rfl, HB5.out⟩
          | true =>
            have HMM := Lib.hid (HMT.out (HSW.out.1 rfl))
            obtain ⟨cb, hcb⟩ : ∃ cb : Nat → UInt8, ∀ (q : Nat) (h : q < s.size), s[q]'h = cb q := ⟨fun q => if h : q < s.size then s[q]'h else 0, fun q h => by simp [h]⟩
            have HCB : Hid (∀ q, q < s.size → (LS s)[q]? = some (cb q)) := Lib.hid fun q h => by rw [LS_at s q h, hcb]
            have n1 : lo ≤ s.size := by have h9 : lo ≤ (LS s).length := HMM.out.2.1; rw [LS_len] at h9; exact h9
            have n2 : (lo : Int) ≤ (s.size : Int) := by omega
            have n3 : (0 : Int) ≤ (lo : Int) := by omega
            have HN4 : Hid (z2 = -2 ∨ (s.size : Int) ≤ z2) := Lib.hid (by
              rcases HMM.out.2.2.1 with h9 | h9
              · have h9 : more = true := h9
                left; rw [HZ2.out, if_pos h9]
              · have h9 : (LS s).length ≤ hi := h9
                rw [LS_len] at h9
                rw [HZ2.out]
                split
                · exact .inl rfl
                · right; omega)
            go_wp2
            go_loopw [7] (fun i wr => ∃ q : Nat, q ≤ s.size ∧ i = .int .i64 (q : Int) ∧ Below W.heap.size W wr) (fun i _ => s.size - (intOf i).toNat)
            case atStart => exact ⟨0, by omega, rfl, HB4.out⟩
            case round =>
              obtain ⟨q, hq, rfl, hb⟩ := hrel
              have HBR := Lib.hid hb
              clear hb
              by_cases hlt : q < s.size
              · have k0 : (0 : Int) ≤ (q : Int) := by omega
                have k3 : (q : Int) < (s.size : Int) := by omega
                have k4 : decide (q < s.size) = true := decide_eq_true hlt
                have hcq := hcb q
                have HUS := Lib.hid (fun X (hX : Below wr.heap.size wr X) => HUS0.out X (HBR.out.trans (hX.mono HBR.out.size)))
                have HFS := Lib.hid (fun X (hX : Below wr.heap.size wr X) => HFS0.out X (HBR.out.trans (hX.mono HBR.out.size)))
                have HUH := Lib.hid (fun X => has_any U9 (cb q).toNat X (cb q).toNat_lt)
                rw [show U9 (cb q).toNat = true from HMM.out.2.2.2.1 (cb q) (List.mem_of_getElem? (HCB.out q hlt)), setV] at HUH
                rcases Nat.eq_zero_or_pos q with hq0 | hq0
                · have k5 : ((q : Int) == 0) = true := by rw [beq_iff_eq]; omega
                  have HFH := Lib.hid (fun X => has_any S9 (cb q).toNat X (cb q).toNat_lt)
                  rw [show S9 (cb q).toNat = true from (by
                    have h9 := HCB.out q hlt
                    rw [hq0] at h9 ⊢
                    cases hL : LS s with
                    | nil => rw [hL] at h9; cases h9
                    | cons d r =>
                      rw [hL] at h9
                      simp only [List.getElem?_cons_zero, Option.some.injEq] at h9
                      rw [← h9]
                      exact HMM.out.2.2.2.2 d r hL), setV] at HFH
                  clear hq0 hcb
                  go_wp2
                  refine wp_region_fam_lit (E := Onto)
                    [isV (.slice a n c),
                     isV (.agg #[.int .u64 (wd U9 0), .int .u64 (wd U9 1), .int .u64 (wd U9 2), .int .u64 (wd U9 3)]),
                     isV (.string s),
                     isV (.int .i64 (q : Int)),
                     isV (.int .u8 ((cb q).toNat : Int)),
                     isV (.bool true),
                     isV (.bool false),
                     isV (.bool false),
                     isV (.int .i64 (q : Int)),
                     isV (.bool true),
                     isV (.bool true),
                     isV (.slice a n c),
                     isV (.agg #[.int .u64 (wd S9 0), .int .u64 (wd S9 1), .int .u64 (wd S9 2), .int .u64 (wd S9 3)]),
                     isV (.string s),
                     isV (.int .i64 (q : Int)),
                     isV (.int .u8 ((cb q).toNat : Int)),
                     isV (.bool true),
                     isV (.bool false),
                     isV (.bool false),
                     isV (.bool false)]
                    [some 63, some 64, some 65, some 66, some 67, some 68, some 69, some 70, some 71, some 72, some 73, some 74, some 75, some 76, some 77, some 78, some 79, some 80, some 81, some 82] (by kernel_rfl) rfl (by kernel_rfl) rfl Onto.trans Onto.refl ?monoZ ?obZ ?qZ
                  case monoZ => exact ⟨isV_mono _ _, isV_mono _ _, isV_mono _ _, isV_mono _ _, isV_mono _ _, isV_mono _ _, isV_mono _ _, isV_mono _ _, isV_mono _ _, isV_mono _ _, isV_mono _ _, isV_mono _ _, isV_mono _ _, isV_mono _ _, isV_mono _ _, isV_mono _ _, isV_mono _ _, isV_mono _ _, isV_mono _ _, isV_mono _ _, trivial⟩
                  case obZ =>
                    refine Obs.cons (j := 1) rfl ?_ ?_
                    · refine Ob.free [(0, none)] (by kernel_rfl) (isV (.slice a n c)) rfl rfl (fun a X hE hL => ?_)
                      simp [Seen, slotAt] at hL
                      have h0 := hL
                      rw [relAt_eq]
                      go_simp
                      exact ⟨Onto.refl _, rfl⟩
                    refine Obs.cons (j := 2) rfl ?_ ?_
                    · refine Ob.free [(63, some 0)] (by kernel_rfl) (isV (.agg #[.int .u64 (wd U9 0), .int .u64 (wd U9 1), .int .u64 (wd U9 2), .int .u64 (wd U9 3)])) rfl rfl (fun a X hE hL => ?_)
                      simp [Seen, slotAt, famV, isV] at hL
                      have h63 := hL
                      rw [relAt_eq]
                      go_simp
                      rw [relUpon_enter]
                      go_at_call 21
                      refine (HUS.out X (onto_drew hE)).mono ?_
                      rintro e Y ⟨rfl, hY⟩
                      exact ⟨_, rfl, hY, rfl⟩
                    refine Obs.cons (j := 3) rfl ?_ ?_
                    · refine Ob.free [(1, none)] (by kernel_rfl) (isV (.string s)) rfl rfl (fun a X hE hL => ?_)
                      simp [Seen, slotAt] at hL
                      have h1 := hL
                      rw [relAt_eq]
                      go_simp
                      exact ⟨Onto.refl _, rfl⟩
                    refine Obs.cons (j := 4) rfl ?_ ?_
                    · refine Ob.free [(7, none)] (by kernel_rfl) (isV (.int .i64 (q : Int))) rfl rfl (fun a X hE hL => ?_)
                      simp [Seen, slotAt] at hL
                      have h7 := hL
                      rw [relAt_eq]
                      go_simp
                      exact ⟨Onto.refl _, rfl⟩
                    refine Obs.cons (j := 5) rfl ?_ ?_
                    · refine Ob.free [(65, some 2), (66, some 3)] (by kernel_rfl) (isV (.int .u8 ((cb q).toNat : Int))) rfl rfl (fun a X hE hL => ?_)
                      simp [Seen, slotAt, famV, isV] at hL
                      obtain ⟨h65, h66⟩ := hL
                      rw [relAt_eq]
                      go_simp
                      exact ⟨Onto.refl _, rfl⟩
                    refine Obs.cons (j := 6) rfl ?_ ?_
                    · refine Ob.free [(64, some 1), (67, some 4)] (by kernel_rfl) (isV (.bool true)) rfl rfl (fun a X hE hL => ?_)
                      simp [Seen, slotAt, famV, isV] at hL
                      obtain ⟨h64, h67⟩ := hL
                      rw [relAt_eq]
                      go_simp
                      rw [relUpon_enter]
                      go_at_call 23
                      refine (HUH.out X).mono ?_
                      rintro e Y ⟨rfl, hY⟩
                      exact ⟨_, rfl, hY, rfl⟩
                    refine Obs.cons (j := 7) rfl ?_ ?_
                    · refine Ob.free [(68, some 5)] (by kernel_rfl) (isV (.bool false)) rfl rfl (fun a X hE hL => ?_)
                      simp [Seen, slotAt, famV, isV] at hL
                      have h68 := hL
                      rw [relAt_eq]
                      go_simp
                      exact ⟨Onto.refl _, rfl⟩
                    refine Obs.cons (j := 8) rfl ?_ ?_
                    · refine Ob.free [(69, some 6)] (by kernel_rfl) (isV (.bool false)) rfl rfl (fun a X hE hL => ?_)
                      simp [Seen, slotAt, famV, isV] at hL
                      have h69 := hL
                      rw [relAt_eq]
                      go_simp
                      exact ⟨Onto.refl _, rfl⟩
                    refine Obs.cons (j := 9) rfl ?_ ?_
                    · refine Ob.guarded [(7, none), (70, some 7)] (by kernel_rfl) (isV (.int .i64 (q : Int))) rfl 7 false 70 rfl rfl (fun a X hE hL => ?_)
                      simp [Seen, slotAt, famV, isV] at hL
                      obtain ⟨h7, h70⟩ := hL
                      refine ⟨by simpa using h70, ?_⟩
                      clear h70
                      rw [relAt_eq]
                      go_simp
                      exact ⟨Onto.refl _, rfl⟩
                    refine Obs.cons (j := 10) rfl ?_ ?_
                    · refine Ob.guarded [(71, some 8), (70, some 7)] (by kernel_rfl) (isV (.bool true)) rfl 7 false 70 rfl rfl (fun a X hE hL => ?_)
                      simp [Seen, slotAt, famV, isV] at hL
                      obtain ⟨h71, h70⟩ := hL
                      refine ⟨by simpa using h70, ?_⟩
                      clear h70
                      rw [relAt_eq]
                      go_simp
                      exact ⟨Onto.refl _, rfl⟩
                    refine Obs.cons (j := 11) rfl ?_ ?_
                    · refine Ob.guarded [(72, some 9), (70, some 7)] (by kernel_rfl) (isV (.bool true)) rfl 7 false 70 rfl rfl (fun a X hE hL => ?_)
                      simp [Seen, slotAt, famV, isV] at hL
                      obtain ⟨h72, h70⟩ := hL
                      refine ⟨by simpa using h70, ?_⟩
                      clear h70
                      rw [relAt_eq]
                      go_simp
                      exact ⟨Onto.refl _, rfl⟩
                    refine Obs.cons (j := 12) rfl ?_ ?_
                    · refine Ob.guarded [(0, none), (73, some 10)] (by kernel_rfl) (isV (.slice a n c)) rfl 10 true 73 rfl rfl (fun a X hE hL => ?_)
                      simp [Seen, slotAt, famV, isV] at hL
                      obtain ⟨h0, h73⟩ := hL
                      refine ⟨by simpa using h73, ?_⟩
                      clear h73
                      rw [relAt_eq]
                      go_simp
                      exact ⟨Onto.refl _, rfl⟩
                    refine Obs.cons (j := 13) rfl ?_ ?_
                    · refine Ob.guarded [(74, some 11), (73, some 10)] (by kernel_rfl) (isV (.agg #[.int .u64 (wd S9 0), .int .u64 (wd S9 1), .int .u64 (wd S9 2), .int .u64 (wd S9 3)])) rfl 10 true 73 rfl rfl (fun a X hE hL => ?_)
                      simp [Seen, slotAt, famV, isV] at hL
                      obtain ⟨h74, h73⟩ := hL
                      refine ⟨by simpa using h73, ?_⟩
                      clear h73
                      rw [relAt_eq]
                      go_simp
                      rw [relUpon_enter]
                      go_at_call 19
                      refine (HFS.out X (onto_drew hE)).mono ?_
                      rintro e Y ⟨rfl, hY⟩
                      exact ⟨_, rfl, hY, rfl⟩
                    refine Obs.cons (j := 14) rfl ?_ ?_
                    · refine Ob.guarded [(1, none), (73, some 10)] (by kernel_rfl) (isV (.string s)) rfl 10 true 73 rfl rfl (fun a X hE hL => ?_)
                      simp [Seen, slotAt, famV, isV] at hL
                      obtain ⟨h1, h73⟩ := hL
                      refine ⟨by simpa using h73, ?_⟩
                      clear h73
                      rw [relAt_eq]
                      go_simp
                      exact ⟨Onto.refl _, rfl⟩
                    refine Obs.cons (j := 15) rfl ?_ ?_
                    · refine Ob.guarded [(7, none), (73, some 10)] (by kernel_rfl) (isV (.int .i64 (q : Int))) rfl 10 true 73 rfl rfl (fun a X hE hL => ?_)
                      simp [Seen, slotAt, famV, isV] at hL
                      obtain ⟨h7, h73⟩ := hL
                      refine ⟨by simpa using h73, ?_⟩
                      clear h73
                      rw [relAt_eq]
                      go_simp
                      exact ⟨Onto.refl _, rfl⟩
                    refine Obs.cons (j := 16) rfl ?_ ?_
                    · refine Ob.guarded [(76, some 13), (77, some 14), (73, some 10)] (by kernel_rfl) (isV (.int .u8 ((cb q).toNat : Int))) rfl 10 true 73 rfl rfl (fun a X hE hL => ?_)
                      simp [Seen, slotAt, famV, isV] at hL
                      obtain ⟨h76, h77, h73⟩ := hL
                      refine ⟨by simpa using h73, ?_⟩
                      clear h73
                      rw [relAt_eq]
                      go_simp
                      exact ⟨Onto.refl _, rfl⟩
                    refine Obs.cons (j := 17) rfl ?_ ?_
                    · refine Ob.guarded [(75, some 12), (78, some 15), (73, some 10)] (by kernel_rfl) (isV (.bool true)) rfl 10 true 73 rfl rfl (fun a X hE hL => ?_)
                      simp [Seen, slotAt, famV, isV] at hL
                      obtain ⟨h75, h78, h73⟩ := hL
                      refine ⟨by simpa using h73, ?_⟩
                      clear h73
                      rw [relAt_eq]
                      go_simp
                      rw [relUpon_enter]
                      go_at_call 23
                      refine (HFH.out X).mono ?_
                      rintro e Y ⟨rfl, hY⟩
                      exact ⟨_, rfl, hY, rfl⟩
                    refine Obs.cons (j := 18) rfl ?_ ?_
                    · refine Ob.guarded [(79, some 16), (73, some 10)] (by kernel_rfl) (isV (.bool false)) rfl 10 true 73 rfl rfl (fun a X hE hL => ?_)
                      simp [Seen, slotAt, famV, isV] at hL
                      obtain ⟨h79, h73⟩ := hL
                      refine ⟨by simpa using h73, ?_⟩
                      clear h73
                      rw [relAt_eq]
                      go_simp
                      exact ⟨Onto.refl _, rfl⟩
                    refine Obs.cons (j := 19) rfl ?_ ?_
                    · refine Ob.guarded [(73, some 10), (80, some 17), (70, some 7)] (by kernel_rfl) (isV (.bool false)) rfl 7 false 70 rfl rfl (fun a X hE hL => ?_)
                      simp [Seen, slotAt, famV, isV] at hL
                      obtain ⟨h73, h80, h70⟩ := hL
                      refine ⟨by simpa using h70, ?_⟩
                      clear h70
                      rw [relAt_eq]
                      go_simp
                      exact ⟨Onto.refl _, rfl⟩
                    refine Obs.cons (j := 20) rfl ?_ ?_
                    · refine Ob.free [(70, some 7), (81, some 18)] (by kernel_rfl) (isV (.bool false)) rfl rfl (fun a X hE hL => ?_)
                      simp [Seen, slotAt, famV, isV] at hL
                      obtain ⟨h70, h81⟩ := hL
                      rw [relAt_eq]
                      go_simp
                      exact ⟨Onto.refl _, rfl⟩
                    exact trivial
                  case qZ =>
                    intro x w9 hE hV
                    simp [AllV, famV, isV] at hV
                    obtain ⟨-, -, -, -, -, -, -, -, -, -, -, -, -, -, -, -, -, -, -, h82⟩ := hV
                    simp only [puts, Act.put, List.setIfInBounds_toArray, List.set_cons_zero, List.set_cons_succ, h82]
                    generalize x 63 = y63
                    generalize x 64 = y64
                    generalize x 65 = y65
                    generalize x 66 = y66
                    generalize x 67 = y67
                    generalize x 68 = y68
                    generalize x 69 = y69
                    generalize x 70 = y70
                    generalize x 71 = y71
                    generalize x 72 = y72
                    generalize x 73 = y73
                    generalize x 74 = y74
                    generalize x 75 = y75
                    generalize x 76 = y76
                    generalize x 77 = y77
                    generalize x 78 = y78
                    generalize x 79 = y79
                    generalize x 80 = y80
                    generalize x 81 = y81
                    clear h82
                    have HB9 : Hid (Below W.heap.size W w9) := Lib.hid (HBR.out.trans ((onto_drew hE).mono HBR.out.size))
                    clear hE
                    go_wp2
                    go_roundw
                    case rel => first | exact ⟨q + 1, by omega, by go_num, HB9.out⟩ | ((repeat apply Exists.intro); exact ⟨⟨q + 1, by omega, by go_num, HB9.out⟩, rfl⟩)
                    case measure => simp [intOf]; omega
                · have k5 : ((q : Int) == 0) = false := by rw [beq_eq_false_iff_ne]; omega
                  clear hq0 hcb
                  go_wp2
                  refine wp_region_fam_lit (E := Onto)
                    [isV (.slice a n c),
                     isV (.agg #[.int .u64 (wd U9 0), .int .u64 (wd U9 1), .int .u64 (wd U9 2), .int .u64 (wd U9 3)]),
                     isV (.string s),
                     isV (.int .i64 (q : Int)),
                     isV (.int .u8 ((cb q).toNat : Int)),
                     isV (.bool true),
                     isV (.bool false),
                     isV (.bool false),
                     isV (.int .i64 (q : Int)),
                     isV (.bool false),
                     isV (.bool false),
                     isV undef,
                     isV undef,
                     isV undef,
                     isV undef,
                     isV undef,
                     isV undef,
                     isV undef,
                     isV (.bool false),
                     isV (.bool false)]
                    [some 63, some 64, some 65, some 66, some 67, some 68, some 69, some 70, some 71, some 72, some 73, some 74, some 75, some 76, some 77, some 78, some 79, some 80, some 81, some 82] (by kernel_rfl) rfl (by kernel_rfl) rfl Onto.trans Onto.refl ?monoN ?obN ?qN
                  case monoN => exact ⟨isV_mono _ _, isV_mono _ _, isV_mono _ _, isV_mono _ _, isV_mono _ _, isV_mono _ _, isV_mono _ _, isV_mono _ _, isV_mono _ _, isV_mono _ _, isV_mono _ _, isV_mono _ _, isV_mono _ _, isV_mono _ _, isV_mono _ _, isV_mono _ _, isV_mono _ _, isV_mono _ _, isV_mono _ _, isV_mono _ _, trivial⟩
                  case obN =>
                    refine Obs.cons (j := 1) rfl ?_ ?_
                    · refine Ob.free [(0, none)] (by kernel_rfl) (isV (.slice a n c)) rfl rfl (fun a X hE hL => ?_)
                      simp [Seen, slotAt] at hL
                      have h0 := hL
                      rw [relAt_eq]
                      go_simp
                      exact ⟨Onto.refl _, rfl⟩
                    refine Obs.cons (j := 2) rfl ?_ ?_
                    · refine Ob.free [(63, some 0)] (by kernel_rfl) (isV (.agg #[.int .u64 (wd U9 0), .int .u64 (wd U9 1), .int .u64 (wd U9 2), .int .u64 (wd U9 3)])) rfl rfl (fun a X hE hL => ?_)
                      simp [Seen, slotAt, famV, isV] at hL
                      have h63 := hL
                      rw [relAt_eq]
                      go_simp
                      rw [relUpon_enter]
                      go_at_call 21
                      refine (HUS.out X (onto_drew hE)).mono ?_
                      rintro e Y ⟨rfl, hY⟩
                      exact ⟨_, rfl, hY, rfl⟩
                    refine Obs.cons (j := 3) rfl ?_ ?_
                    · refine Ob.free [(1, none)] (by kernel_rfl) (isV (.string s)) rfl rfl (fun a X hE hL => ?_)
                      simp [Seen, slotAt] at hL
                      have h1 := hL
                      rw [relAt_eq]
                      go_simp
                      exact ⟨Onto.refl _, rfl⟩
                    refine Obs.cons (j := 4) rfl ?_ ?_
                    · refine Ob.free [(7, none)] (by kernel_rfl) (isV (.int .i64 (q : Int))) rfl rfl (fun a X hE hL => ?_)
                      simp [Seen, slotAt] at hL
                      have h7 := hL
                      rw [relAt_eq]
                      go_simp
                      exact ⟨Onto.refl _, rfl⟩
                    refine Obs.cons (j := 5) rfl ?_ ?_
                    · refine Ob.free [(65, some 2), (66, some 3)] (by kernel_rfl) (isV (.int .u8 ((cb q).toNat : Int))) rfl rfl (fun a X hE hL => ?_)
                      simp [Seen, slotAt, famV, isV] at hL
                      obtain ⟨h65, h66⟩ := hL
                      rw [relAt_eq]
                      go_simp
                      exact ⟨Onto.refl _, rfl⟩
                    refine Obs.cons (j := 6) rfl ?_ ?_
                    · refine Ob.free [(64, some 1), (67, some 4)] (by kernel_rfl) (isV (.bool true)) rfl rfl (fun a X hE hL => ?_)
                      simp [Seen, slotAt, famV, isV] at hL
                      obtain ⟨h64, h67⟩ := hL
                      rw [relAt_eq]
                      go_simp
                      rw [relUpon_enter]
                      go_at_call 23
                      refine (HUH.out X).mono ?_
                      rintro e Y ⟨rfl, hY⟩
                      exact ⟨_, rfl, hY, rfl⟩
                    refine Obs.cons (j := 7) rfl ?_ ?_
                    · refine Ob.free [(68, some 5)] (by kernel_rfl) (isV (.bool false)) rfl rfl (fun a X hE hL => ?_)
                      simp [Seen, slotAt, famV, isV] at hL
                      have h68 := hL
                      rw [relAt_eq]
                      go_simp
                      exact ⟨Onto.refl _, rfl⟩
                    refine Obs.cons (j := 8) rfl ?_ ?_
                    · refine Ob.free [(69, some 6)] (by kernel_rfl) (isV (.bool false)) rfl rfl (fun a X hE hL => ?_)
                      simp [Seen, slotAt, famV, isV] at hL
                      have h69 := hL
                      rw [relAt_eq]
                      go_simp
                      exact ⟨Onto.refl _, rfl⟩
                    refine Obs.cons (j := 9) rfl ?_ ?_
                    · refine Ob.guarded [(7, none), (70, some 7)] (by kernel_rfl) (isV (.int .i64 (q : Int))) rfl 7 false 70 rfl rfl (fun a X hE hL => ?_)
                      simp [Seen, slotAt, famV, isV] at hL
                      obtain ⟨h7, h70⟩ := hL
                      refine ⟨by simpa using h70, ?_⟩
                      clear h70
                      rw [relAt_eq]
                      go_simp
                      exact ⟨Onto.refl _, rfl⟩
                    refine Obs.cons (j := 10) rfl ?_ ?_
                    · refine Ob.guarded [(71, some 8), (70, some 7)] (by kernel_rfl) (isV (.bool false)) rfl 7 false 70 rfl rfl (fun a X hE hL => ?_)
                      simp [Seen, slotAt, famV, isV] at hL
                      obtain ⟨h71, h70⟩ := hL
                      refine ⟨by simpa using h70, ?_⟩
                      clear h70
                      rw [relAt_eq]
                      go_simp
                      exact ⟨Onto.refl _, rfl⟩
                    refine Obs.cons (j := 11) rfl ?_ ?_
                    · refine Ob.guarded [(72, some 9), (70, some 7)] (by kernel_rfl) (isV (.bool false)) rfl 7 false 70 rfl rfl (fun a X hE hL => ?_)
                      simp [Seen, slotAt, famV, isV] at hL
                      obtain ⟨h72, h70⟩ := hL
                      refine ⟨by simpa using h70, ?_⟩
                      clear h70
                      rw [relAt_eq]
                      go_simp
                      exact ⟨Onto.refl _, rfl⟩
                    refine Obs.cons (j := 12) rfl ?_ ?_
                    · refine Ob.skip [(0, none), (73, some 10)] (by kernel_rfl) rfl 10 true 73 rfl rfl (fun a X hE hL => ?_)
                      simp [Seen, slotAt, famV, isV] at hL
                      obtain ⟨h0, h73⟩ := hL
                      simpa using h73
                    refine Obs.cons (j := 13) rfl ?_ ?_
                    · refine Ob.skip [(74, some 11), (73, some 10)] (by kernel_rfl) rfl 10 true 73 rfl rfl (fun a X hE hL => ?_)
                      simp [Seen, slotAt, famV, isV] at hL
                      obtain ⟨h74, h73⟩ := hL
                      simpa using h73
                    refine Obs.cons (j := 14) rfl ?_ ?_
                    · refine Ob.skip [(1, none), (73, some 10)] (by kernel_rfl) rfl 10 true 73 rfl rfl (fun a X hE hL => ?_)
                      simp [Seen, slotAt, famV, isV] at hL
                      obtain ⟨h1, h73⟩ := hL
                      simpa using h73
                    refine Obs.cons (j := 15) rfl ?_ ?_
                    · refine Ob.skip [(7, none), (73, some 10)] (by kernel_rfl) rfl 10 true 73 rfl rfl (fun a X hE hL => ?_)
                      simp [Seen, slotAt, famV, isV] at hL
                      obtain ⟨h7, h73⟩ := hL
                      simpa using h73
                    refine Obs.cons (j := 16) rfl ?_ ?_
                    · refine Ob.skip [(76, some 13), (77, some 14), (73, some 10)] (by kernel_rfl) rfl 10 true 73 rfl rfl (fun a X hE hL => ?_)
                      simp [Seen, slotAt, famV, isV] at hL
                      obtain ⟨h76, h77, h73⟩ := hL
                      simpa using h73
                    refine Obs.cons (j := 17) rfl ?_ ?_
                    · refine Ob.skip [(75, some 12), (78, some 15), (73, some 10)] (by kernel_rfl) rfl 10 true 73 rfl rfl (fun a X hE hL => ?_)
                      simp [Seen, slotAt, famV, isV] at hL
                      obtain ⟨h75, h78, h73⟩ := hL
                      simpa using h73
                    refine Obs.cons (j := 18) rfl ?_ ?_
                    · refine Ob.skip [(79, some 16), (73, some 10)] (by kernel_rfl) rfl 10 true 73 rfl rfl (fun a X hE hL => ?_)
                      simp [Seen, slotAt, famV, isV] at hL
                      obtain ⟨h79, h73⟩ := hL
                      simpa using h73
                    refine Obs.cons (j := 19) rfl ?_ ?_
                    · refine Ob.guarded [(73, some 10), (80, some 17), (70, some 7)] (by kernel_rfl) (isV (.bool false)) rfl 7 false 70 rfl rfl (fun a X hE hL => ?_)
                      simp [Seen, slotAt, famV, isV] at hL
                      obtain ⟨h73, h80, h70⟩ := hL
                      refine ⟨by simpa using h70, ?_⟩
                      clear h70
                      rw [relAt_eq]
                      go_simp
                      exact ⟨Onto.refl _, rfl⟩
                    refine Obs.cons (j := 20) rfl ?_ ?_
                    · refine Ob.free [(70, some 7), (81, some 18)] (by kernel_rfl) (isV (.bool false)) rfl rfl (fun a X hE hL => ?_)
                      simp [Seen, slotAt, famV, isV] at hL
                      obtain ⟨h70, h81⟩ := hL
                      rw [relAt_eq]
                      go_simp
                      exact ⟨Onto.refl _, rfl⟩
                    exact trivial
                  case qN =>
                    intro x w9 hE hV
                    simp [AllV, famV, isV] at hV
                    obtain ⟨-, -, -, -, -, -, -, -, -, -, -, -, -, -, -, -, -, -, -, h82⟩ := hV
                    simp only [puts, Act.put, List.setIfInBounds_toArray, List.set_cons_zero, List.set_cons_succ, h82]
                    generalize x 63 = y63
                    generalize x 64 = y64
                    generalize x 65 = y65
                    generalize x 66 = y66
                    generalize x 67 = y67
                    generalize x 68 = y68
                    generalize x 69 = y69
                    generalize x 70 = y70
                    generalize x 71 = y71
                    generalize x 72 = y72
                    generalize x 73 = y73
                    generalize x 74 = y74
                    generalize x 75 = y75
                    generalize x 76 = y76
                    generalize x 77 = y77
                    generalize x 78 = y78
                    generalize x 79 = y79
                    generalize x 80 = y80
                    generalize x 81 = y81
                    clear h82
                    have HB9 : Hid (Below W.heap.size W w9) := Lib.hid (HBR.out.trans ((onto_drew hE).mono HBR.out.size))
                    clear hE
                    go_wp2
                    go_roundw
                    case rel => first | exact ⟨q + 1, by omega, by go_num, HB9.out⟩ | ((repeat apply Exists.intro); exact ⟨⟨q + 1, by omega, by go_num, HB9.out⟩, rfl⟩)
                    case measure => simp [intOf]; omega
              · have hqs : q = s.size := by omega
                have k3 : ¬ (q : Int) < (s.size : Int) := by omega
                clear hqs
                rcases HN4.out with hz | hz
                · have y1 : (z2 == -2) = true := by rw [beq_iff_eq]; exact hz
                  clear hz
                  have HC9 := Lib.hid (knows9_any wr)
                  go_wp2_with fail
                  refine HC9.out.mono ?_
                  rintro e w9 ⟨rfl, hb9⟩
                  have HB9 : Hid (Below W.heap.size W w9) := Lib.hid (HBR.out.trans (hb9.mono HBR.out.size))
                  clear hb9 HC9
                  go_wp2
                  go_ret
                  exact ⟨rfl, HB9.out⟩
                · have y1 : (z2 == -2) = false := by rw [beq_eq_false_iff_ne]; omega
                  have HC9 := Lib.hid (knows9_any wr)
                  go_wp2_with fail
                  refine HC9.out.mono ?_
                  rintro e w9 ⟨rfl, hb9⟩
                  have HB9 : Hid (Below W.heap.size W w9) := Lib.hid (HBR.out.trans (hb9.mono HBR.out.size))
                  clear hb9 HC9
                  go_wp2
                  go_ret
                  exact ⟨rfl, HB9.out⟩
    · have k1 : (40 : Int) < (s.size : Int) := by omega
      have k2 : 40 < s.size := by omega
      go_wp2_with fail
      refine HF.out.mono ?_
      rintro e w' ⟨rfl, rfl⟩
      rw [← hw0]
      have HB0 : Hid (Below W.heap.size W w0) := Lib.hid (by rw [hw0]; exact Below.refl _ _)
      clear HF hw0
      have HC9 := Lib.hid (knows9_any w0)
      go_wp2_with fail
      refine HC9.out.mono ?_
      rintro e w1 ⟨rfl, hb9⟩
      have HB1 : Hid (Below W.heap.size W w1) := Lib.hid (HB0.out.trans (hb9.mono HB0.out.size))
      clear hb9 HC9
      go_wp2
      go_ret
      exact ⟨rfl, HB1.out⟩
  · rw [decide_eq_false hn] at HF
    go_wp2_with fail
    refine HF.out.mono ?_
    rintro e w' ⟨rfl, rfl⟩
    rw [← hw0]
    have HB0 : Hid (Below W.heap.size W w0) := Lib.hid (by rw [hw0]; exact Below.refl _ _)
    clear HF hw0
    have HC9 := Lib.hid (knows9_any w0)
    go_wp2_with fail
    refine HC9.out.mono ?_
    rintro e w1 ⟨rfl, hb9⟩
    have HB1 : Hid (Below W.heap.size W w1) := Lib.hid (HB0.out.trans (hb9.mono HB0.out.size))
    clear hb9 HC9
    go_wp2
    go_ret
    exact ⟨rfl, HB1.out⟩
end Go.Proofs.Ytbefndibkpjgaaa

