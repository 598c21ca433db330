/- rx: what is made of any steps. -/
import Derived.Test.YtjlmmpbichfaoaaRxKnows
import Derived.Test.YtjlmmpbichfaoaaFam
namespace Go.Proofs.Ytjlmmpbichfaoaa
open Go.RowKit Go.PlainAid
set_option linter.unusedVariables false

/-- A row of just these steps. -/
def rowX (rs : List Rx) (v : Value) (x : World) : Prop := ∃ A c, v = .slice A rs.length c ∧ CRow rxC 5 x A rs.length rs
theorem rowX_mono (rs : List Rx) : ∀ v x y, rowX rs v x → Onto x y → rowX rs v y := fun v x y ⟨A, c, e, h⟩ hE => ⟨A, c, e, h.below hE⟩
theorem rowX_mk {rs : List Rx} {v : Value} {x : World} {b : Nat} (h : x.ownsRow b 44 5 v rs.length (rs.flatMap rxC)) : rowX rs v x := by
  obtain ⟨A, c, rfl, h1, h2⟩ := own_form h
  exact ⟨A, c, rfl, own_crow rxC_len h (by omega)⟩
set_option maxRecDepth 100000 in
set_option maxHeartbeats 8000000 in
theorem makes_any (w : World) (A : Option Addr) (n d : Nat) (os : List Rw) (S : Nat → Bool) (t : ByteArray) (hR : RRow w A n os) (ht : t.size ≤ maxLen) :
    Calls Try.prog 3 #[.slice A n d, setV S, .string t] w fun e w' => e = .returned (.bool true) ∧ Below w.heap.size w w' := by
  have hlt := hR.1.2.1
  have hml : maxLen ≤ 9223372036854775807 := by decide
  have HK := Lib.hid fun w' => knows_any w'
  have hb : Below w.heap.size w (w.alloc (.cells #[.int .u64 (wd S 0), .int .u64 (wd S 1), .int .u64 (wd S 2), .int .u64 (wd S 3)] 25)) := (Below.refl _ _).alloc (Nat.le_refl _) _
  have HB := Lib.hid hb
  have HFW := Lib.hid (few_any _ A n d os (hR.below hb))
  have HFS := Lib.hid (few_sum (ws := os) (fun o ho => ((hR.2 o ho).1.symm)))
  have HR := Lib.hid hR
  unfold setV
  clear hb hR
  by_cases hts : t.size ≤ 300
  case neg =>
    have j1 : decide ((300 : Int) < (t.size : Int)) = true := decide_eq_true (by omega)
    have j2 : (300 : Int) < (t.size : Int) := by omega
    have j3 : 300 < t.size := by omega
    have j4 : decide (300 < t.size) = true := decide_eq_true j3
    clear hts
    cases hf : fewR os <;>
    · rw [hf] at HFW
      go_enter Try.func3, Try.ntmps3
      go_wp2_with fail
      refine HFW.out.mono ?_
      rintro e w1 ⟨rfl, rfl⟩
      go_wp2_with fail
      refine (HK.out _).mono ?_
      rintro e w2 ⟨rfl, hb⟩
      have HB2 := Lib.hid (HB.out.trans (hb.mono HB.out.size))
      clear hb
      go_wp2
      go_ret
      exact ⟨rfl, HB2.out⟩
  have j1 : decide ((300 : Int) < (t.size : Int)) = false := decide_eq_false (by omega)
  have j2 : ¬ (300 : Int) < (t.size : Int) := by omega
  have j3 : ¬ 300 < t.size := by omega
  have j4 : decide (300 < t.size) = false := decide_eq_false j3
  cases hf : fewR os with
  | false =>
    rw [hf] at HFW
    clear hts
    go_enter Try.func3, Try.ntmps3
    go_wp2_with fail
    refine HFW.out.mono ?_
    rintro e w1 ⟨rfl, rfl⟩
    go_wp2_with fail
    refine (HK.out _).mono ?_
    rintro e w2 ⟨rfl, hb⟩
    have HB2 := Lib.hid (HB.out.trans (hb.mono HB.out.size))
    clear hb
    go_wp2
    go_ret
    exact ⟨rfl, HB2.out⟩
  | true =>
    rw [hf] at HFW
    have hs := HFS.out hf
    have HSM : Hid (tot (os.map Rw.rs) + n ≤ 2000) := Lib.hid (by have := HR.out.1.1; omega)
    have HTO : Hid (tot (os.map Rw.rs) ≤ 900) := Lib.hid hs.2
    have HZ := Lib.hid (heap_alloc_new w (.cells #[.int .u64 (wd S 0), .int .u64 (wd S 1), .int .u64 (wd S 2), .int .u64 (wd S 3)] 25))
    have HB1 := Lib.hid (HB.out.alloc HB.out.size (.cells #[] 44))
    obtain ⟨W1, hW1⟩ : ∃ W1, (w.alloc (.cells #[.int .u64 (wd S 0), .int .u64 (wd S 1), .int .u64 (wd S 2), .int .u64 (wd S 3)] 25)).alloc (.cells #[] 44) = W1 := ⟨_, rfl⟩
    have HZ1 : Hid (SetAt W1 w.heap.size S) := Lib.hid (by
      have h1 : SetAt (w.alloc (.cells #[.int .u64 (wd S 0), .int .u64 (wd S 1), .int .u64 (wd S 2), .int .u64 (wd S 3)] 25)) w.heap.size S := HZ.out
      rw [← hW1]
      exact h1.below ((Below.refl _ _).alloc (Nat.le_refl _) (.cells #[] 44)) (by simp))
    have HW1 : Hid (w.heap.size + 2 = W1.heap.size) := Lib.hid (by rw [← hW1]; simp)
    rw [hW1] at HB1
    have HR1 := Lib.hid (HR.out.below HB1.out)
    clear hs HZ hf
    by_cases hn : n = 0
    case' pos =>
      have q1 : ¬ 0 < n := by omega
      have q2 : decide (0 < n) = false := decide_eq_false q1
      obtain ⟨v7, hv7⟩ : ∃ v, Value.slice (some ⟨w.heap.size + 1, 0, none⟩) 0 0 = v := ⟨_, rfl⟩
      obtain ⟨o7, ho7⟩ : ∃ x : List Rx, x = [] := ⟨_, rfl⟩
      have HO7 : Hid (∃ a7 n7 c7, v7 = .slice a7 n7 c7 ∧ CRow rxC 5 W1 a7 n7 o7 ∧ n7 ≤ 100000) := Lib.hid ⟨_, _, _, hv7.symm, by subst ho7; exact CRow.nil _ _, by omega⟩
      clear hn ho7
      go_enter Try.func3, Try.ntmps3
      go_wp2_with fail
      refine HFW.out.mono ?_
      rintro e w1 ⟨rfl, rfl⟩
      go_wp2_with fail
      try rw [hW1]
      try rw [hv7]
      clear hv7 q1 q2
    case' neg =>
      have q1 : 0 < n := by omega
      have q2 : decide (0 < n) = true := decide_eq_true q1
      obtain ⟨b1, o1, o, rfl, hbl, ho, hc⟩ := HR1.out.1.at_ (i := 0) q1
      have HO := Lib.hid (HR1.out.2 o (List.mem_of_getElem? ho))
      have HTA : Hid (o.rs.length ≤ 900) := Lib.hid (by have := tot_at (ls := os.map Rw.rs) (j := 0) (l := o.rs) (by rw [List.getElem?_map, ho]; rfl); have := HTO.out; omega)
      obtain ⟨oa, ol, oc, o7⟩ := o
      dsimp only at HO HTA
      have HOL := Lib.hid HO.out.1
      have c0 : W1.cell? ⟨b1, o1, none⟩ = some (.slice oa ol oc) := by have := hc 0 _ rfl; simpa using this
      obtain ⟨v7, hv7⟩ : ∃ v, Value.slice oa ol oc = v := ⟨_, rfl⟩
      have HO7 : Hid (∃ a7 n7 c7, v7 = .slice a7 n7 c7 ∧ CRow rxC 5 W1 a7 n7 o7 ∧ n7 ≤ 100000) := Lib.hid ⟨_, _, _, hv7.symm, HO.out, by have := HTA.out; have := HOL.out; omega⟩
      clear hc hn
      go_enter Try.func3, Try.ntmps3
      go_wp2_with fail
      refine HFW.out.mono ?_
      rintro e w1 ⟨rfl, rfl⟩
      go_wp2_with fail
      try rw [hW1]
      try rw [hv7]
      obtain ⟨A, hA⟩ : ∃ A, some (⟨b1, o1, none⟩ : Addr) = A := ⟨_, rfl⟩
      rw [hA] at HR1 ⊢
      clear hv7 hA c0 HO HTA HOL ho q1 q2 HR
    all_goals
      have HC1 := Lib.hid fun X (hX : Onto W1.drew X) => cat_any X A n d os (HR1.out.below (onto_drew hX)) HSM.out
      have HC2 := Lib.hid fun X (hX : Onto W1.drew X) => refcat_any X A n d os (HR1.out.below (onto_drew hX)) HSM.out
      have HA1 := Lib.hid fun X (hX : Onto W1.drew X) => alt_any X A n d os (HR1.out.below (onto_drew hX)) HSM.out
      have HA2 := Lib.hid fun X (hX : Onto W1.drew X) => refalt_any X A n d os (HR1.out.below (onto_drew hX)) HSM.out
      have HS1 : Hid (∀ X, Onto W1.drew X → Calls Try.prog 12 #[v7] X (Gives X (oneF o7 5))) := Lib.hid fun X hX => by
        obtain ⟨a7, n7, c7, rfl, h1, h2⟩ := HO7.out
        exact star_any X a7 n7 c7 o7 (h1.below (onto_drew hX)) h2
      have HS2 : Hid (∀ X, Onto W1.drew X → Calls Try.prog 14 #[v7] X (Gives X (oneF o7 6))) := Lib.hid fun X hX => by
        obtain ⟨a7, n7, c7, rfl, h1, h2⟩ := HO7.out
        exact plus_any X a7 n7 c7 o7 (h1.below (onto_drew hX)) h2
      have HS3 : Hid (∀ X, Onto W1.drew X → Calls Try.prog 15 #[v7] X (Gives X (oneF o7 7))) := Lib.hid fun X hX => by
        obtain ⟨a7, n7, c7, rfl, h1, h2⟩ := HO7.out
        exact opt_any X a7 n7 c7 o7 (h1.below (onto_drew hX)) h2
      have HO1 : Hid (∀ X, Onto W1.drew X → ∀ k : Int, Calls Try.prog 13 #[v7, .int .i64 k] X (Gives X (oneF o7 k))) := Lib.hid fun X hX k => by
        obtain ⟨a7, n7, c7, rfl, h1, h2⟩ := HO7.out
        exact refone_any X a7 n7 c7 o7 k (h1.below (onto_drew hX)) h2
      have HT1 := Lib.hid fun X => rset_any S X
      have HT2 := Lib.hid fun X => refset_any S X
      have HE1 := Lib.hid fun X => empty_any X
      have HE2 := Lib.hid fun X => refempty_any X
      have HX1 := Lib.hid fun X => text_any t X hts
      have HX2 := Lib.hid fun X => reftext_any t X hts
      have c0 : W1.drew.cell? _ = some _ := HZ1.out.cell 0 (by omega)
      have c1 : W1.drew.cell? _ = some _ := HZ1.out.cell 1 (by omega)
      have c2 : W1.drew.cell? _ = some _ := HZ1.out.cell 2 (by omega)
      have c3 : W1.drew.cell? _ = some _ := HZ1.out.cell 3 (by omega)
      unfold setV at HT1 HT2
      obtain ⟨CR, hCR⟩ : ∃ x, catR os n = x := ⟨_, rfl⟩
      obtain ⟨AR, hAR⟩ : ∃ x, altR os n = x := ⟨_, rfl⟩
      obtain ⟨TR, hTR⟩ : ∃ x, txtR t = x := ⟨_, rfl⟩
      rw [hCR] at HC1 HC2
      rw [hAR] at HA1 HA2
      rw [hTR] at HX1 HX2
      clear hCR hAR hTR j1 j2 j3 j4 hts ht hlt hml HO7 HR1 HZ1 HFS HTO HSM
      refine wp_region_fam_lit (E := Onto)
        [isV (.slice A n d),
         rowX (CR),
         isV (.slice A n d),
         rowX (CR),
         isV (.bool true),
         isV (.bool true),
         isV (.slice A n d),
         rowX (AR),
         isV (.slice A n d),
         rowX (AR),
         isV (.bool true),
         isV (.bool true),
         isV (.bool true),
         isV (v7),
         rowX (oneF o7 5),
         isV (v7),
         rowX (oneF o7 5),
         isV (.bool true),
         isV (.bool true),
         isV (.bool true),
         isV (v7),
         rowX (oneF o7 6),
         isV (v7),
         rowX (oneF o7 6),
         isV (.bool true),
         isV (.bool true),
         isV (.bool true),
         isV (v7),
         rowX (oneF o7 7),
         isV (v7),
         rowX (oneF o7 7),
         isV (.bool true),
         isV (.bool true),
         isV (.bool true),
         isV (.agg #[.int .u64 (wd S 0), .int .u64 (wd S 1), .int .u64 (wd S 2), .int .u64 (wd S 3)]),
         rowX ([⟨1, S⟩]),
         isV (.agg #[.int .u64 (wd S 0), .int .u64 (wd S 1), .int .u64 (wd S 2), .int .u64 (wd S 3)]),
         rowX ([⟨1, S⟩]),
         isV (.bool true),
         isV (.bool true),
         isV (.bool true),
         rowX ([stp0 2]),
         rowX ([stp0 2]),
         isV (.bool true),
         isV (.bool true),
         isV (.bool true),
         isV (.string t),
         rowX (TR),
         isV (.string t),
         rowX (TR),
         isV (.bool true),
         isV (.bool true),
         isV (.bool true),
         isV (.bool true),
         isV (.bool true),
         isV (.bool true)]
        [some 24, some 25, some 26, some 27, some 28, some 29, some 30, some 31, some 32, some 33, some 34, some 35, some 36, some 37, some 38, some 39, some 40, some 41, some 42, some 43, some 44, some 45, some 46, some 47, some 48, some 49, some 50, some 51, some 52, some 53, some 54, some 55, some 56, some 57, some 58, some 59, some 60, some 61, some 62, some 63, some 64, some 65, some 66, some 67, some 68, some 69, some 70, some 71, some 72, some 73, some 74, some 75, some 76, some 77, some 78, some 6] (by kernel_rfl) rfl (by kernel_rfl) rfl Onto.trans Onto.refl ?mono ?ob ?q
      case mono => exact ⟨isV_mono _ _, rowX_mono _, isV_mono _ _, rowX_mono _, isV_mono _ _, isV_mono _ _, isV_mono _ _, rowX_mono _, isV_mono _ _, rowX_mono _, isV_mono _ _, isV_mono _ _, isV_mono _ _, isV_mono _ _, rowX_mono _, isV_mono _ _, rowX_mono _, isV_mono _ _, isV_mono _ _, isV_mono _ _, isV_mono _ _, rowX_mono _, isV_mono _ _, rowX_mono _, isV_mono _ _, isV_mono _ _, isV_mono _ _, isV_mono _ _, rowX_mono _, isV_mono _ _, rowX_mono _, isV_mono _ _, isV_mono _ _, isV_mono _ _, isV_mono _ _, rowX_mono _, isV_mono _ _, rowX_mono _, isV_mono _ _, isV_mono _ _, isV_mono _ _, rowX_mono _, rowX_mono _, isV_mono _ _, isV_mono _ _, isV_mono _ _, isV_mono _ _, rowX_mono _, isV_mono _ _, rowX_mono _, isV_mono _ _, isV_mono _ _, isV_mono _ _, isV_mono _ _, isV_mono _ _, isV_mono _ _, trivial⟩
      case ob =>
        refine Obs.cons (j := 1) rfl ?_ ?_
        · refine Ob.free [(0, none)] (by kernel_rfl) (isV (.slice A n d)) rfl rfl (fun a X hE hL => ?_)
          simp [Seen, slotAt] at hL
          have h0 := hL
          rw [relAt_eq]
          go_simp
          exact ⟨Onto.refl _, rfl⟩
        refine Obs.cons (j := 2) rfl ?_ ?_
        · refine Ob.free [(24, some 0)] (by kernel_rfl) (rowX (CR)) rfl rfl (fun a X hE hL => ?_)
          simp [Seen, slotAt, famV, isV] at hL
          have h24 := hL
          rw [relAt_eq]
          go_simp
          rw [relUpon_enter]
          go_at_call 8
          refine (HC1.out X hE).mono ?_
          rintro e Y ⟨v, rfl, ho, hY⟩
          exact ⟨_, rfl, hY, rowX_mk ho⟩
        refine Obs.cons (j := 3) rfl ?_ ?_
        · refine Ob.free [(0, none)] (by kernel_rfl) (isV (.slice A n d)) rfl rfl (fun a X hE hL => ?_)
          simp [Seen, slotAt] at hL
          have h0 := hL
          rw [relAt_eq]
          go_simp
          exact ⟨Onto.refl _, rfl⟩
        refine Obs.cons (j := 4) rfl ?_ ?_
        · refine Ob.free [(26, some 2)] (by kernel_rfl) (rowX (CR)) rfl rfl (fun a X hE hL => ?_)
          simp [Seen, slotAt, famV, isV] at hL
          have h26 := hL
          rw [relAt_eq]
          go_simp
          rw [relUpon_enter]
          go_at_call 9
          refine (HC2.out X hE).mono ?_
          rintro e Y ⟨v, rfl, ho, hY⟩
          exact ⟨_, rfl, hY, rowX_mk ho⟩
        refine Obs.cons (j := 5) rfl ?_ ?_
        · refine Ob.free [(25, some 1), (27, some 3)] (by kernel_rfl) (isV (.bool true)) rfl rfl (fun a X hE hL => ?_)
          simp [Seen, slotAt, famV] at hL
          obtain ⟨h25, h27⟩ := hL
          rw [relAt_eq]
          obtain ⟨A25, c25, e25, r25⟩ := h25
          obtain ⟨A27, c27, e27, r27⟩ := h27
          go_simp
          rw [relUpon_enter]
          go_at_call 7
          refine (same_yes X A25 A27 _ c25 c27 _ r25 r27).mono ?_
          rintro e Y ⟨rfl, hY⟩
          exact ⟨_, rfl, hY, rfl⟩
        refine Obs.cons (j := 6) rfl ?_ ?_
        · refine Ob.free [(28, some 4)] (by kernel_rfl) (isV (.bool true)) rfl rfl (fun a X hE hL => ?_)
          simp [Seen, slotAt, famV, isV] at hL
          have h28 := hL
          rw [relAt_eq]
          go_simp
          exact ⟨Onto.refl _, rfl⟩
        refine Obs.cons (j := 7) rfl ?_ ?_
        · refine Ob.guarded [(0, none), (29, some 5)] (by kernel_rfl) (isV (.slice A n d)) rfl 5 true 29 rfl rfl (fun a X hE hL => ?_)
          simp [Seen, slotAt, famV, isV] at hL
          obtain ⟨h0, h29⟩ := hL
          refine ⟨by simpa using h29, ?_⟩
          clear h29
          rw [relAt_eq]
          go_simp
          exact ⟨Onto.refl _, rfl⟩
        refine Obs.cons (j := 8) rfl ?_ ?_
        · refine Ob.guarded [(30, some 6), (29, some 5)] (by kernel_rfl) (rowX (AR)) rfl 5 true 29 rfl rfl (fun a X hE hL => ?_)
          simp [Seen, slotAt, famV, isV] at hL
          obtain ⟨h30, h29⟩ := hL
          refine ⟨by simpa using h29, ?_⟩
          clear h29
          rw [relAt_eq]
          go_simp
          rw [relUpon_enter]
          go_at_call 10
          refine (HA1.out X hE).mono ?_
          rintro e Y ⟨v, rfl, ho, hY⟩
          exact ⟨_, rfl, hY, rowX_mk ho⟩
        refine Obs.cons (j := 9) rfl ?_ ?_
        · refine Ob.guarded [(0, none), (29, some 5)] (by kernel_rfl) (isV (.slice A n d)) rfl 5 true 29 rfl rfl (fun a X hE hL => ?_)
          simp [Seen, slotAt, famV, isV] at hL
          obtain ⟨h0, h29⟩ := hL
          refine ⟨by simpa using h29, ?_⟩
          clear h29
          rw [relAt_eq]
          go_simp
          exact ⟨Onto.refl _, rfl⟩
        refine Obs.cons (j := 10) rfl ?_ ?_
        · refine Ob.guarded [(32, some 8), (29, some 5)] (by kernel_rfl) (rowX (AR)) rfl 5 true 29 rfl rfl (fun a X hE hL => ?_)
          simp [Seen, slotAt, famV, isV] at hL
          obtain ⟨h32, h29⟩ := hL
          refine ⟨by simpa using h29, ?_⟩
          clear h29
          rw [relAt_eq]
          go_simp
          rw [relUpon_enter]
          go_at_call 11
          refine (HA2.out X hE).mono ?_
          rintro e Y ⟨v, rfl, ho, hY⟩
          exact ⟨_, rfl, hY, rowX_mk ho⟩
        refine Obs.cons (j := 11) rfl ?_ ?_
        · refine Ob.guarded [(31, some 7), (33, some 9), (29, some 5)] (by kernel_rfl) (isV (.bool true)) rfl 5 true 29 rfl rfl (fun a X hE hL => ?_)
          simp [Seen, slotAt, famV, isV] at hL
          obtain ⟨h31, h33, h29⟩ := hL
          refine ⟨by simpa using h29, ?_⟩
          clear h29
          rw [relAt_eq]
          obtain ⟨A31, c31, e31, r31⟩ := h31
          obtain ⟨A33, c33, e33, r33⟩ := h33
          go_simp
          rw [relUpon_enter]
          go_at_call 7
          refine (same_yes X A31 A33 _ c31 c33 _ r31 r33).mono ?_
          rintro e Y ⟨rfl, hY⟩
          exact ⟨_, rfl, hY, rfl⟩
        refine Obs.cons (j := 12) rfl ?_ ?_
        · refine Ob.free [(29, some 5), (34, some 10)] (by kernel_rfl) (isV (.bool true)) rfl rfl (fun a X hE hL => ?_)
          simp [Seen, slotAt, famV, isV] at hL
          obtain ⟨h29, h34⟩ := hL
          rw [relAt_eq]
          go_simp
          exact ⟨Onto.refl _, rfl⟩
        refine Obs.cons (j := 13) rfl ?_ ?_
        · refine Ob.free [(35, some 11)] (by kernel_rfl) (isV (.bool true)) rfl rfl (fun a X hE hL => ?_)
          simp [Seen, slotAt, famV, isV] at hL
          have h35 := hL
          rw [relAt_eq]
          go_simp
          exact ⟨Onto.refl _, rfl⟩
        refine Obs.cons (j := 14) rfl ?_ ?_
        · refine Ob.guarded [(7, none), (36, some 12)] (by kernel_rfl) (isV (v7)) rfl 12 true 36 rfl rfl (fun a X hE hL => ?_)
          simp [Seen, slotAt, famV, isV] at hL
          obtain ⟨h7, h36⟩ := hL
          refine ⟨by simpa using h36, ?_⟩
          clear h36
          rw [relAt_eq]
          go_simp
          exact ⟨Onto.refl _, rfl⟩
        refine Obs.cons (j := 15) rfl ?_ ?_
        · refine Ob.guarded [(37, some 13), (36, some 12)] (by kernel_rfl) (rowX (oneF o7 5)) rfl 12 true 36 rfl rfl (fun a X hE hL => ?_)
          simp [Seen, slotAt, famV, isV] at hL
          obtain ⟨h37, h36⟩ := hL
          refine ⟨by simpa using h36, ?_⟩
          clear h36
          rw [relAt_eq]
          go_simp
          rw [relUpon_enter]
          go_at_call 12
          refine (HS1.out X hE).mono ?_
          rintro e Y ⟨v, rfl, ho, hY⟩
          exact ⟨_, rfl, hY, rowX_mk ho⟩
        refine Obs.cons (j := 16) rfl ?_ ?_
        · refine Ob.guarded [(7, none), (36, some 12)] (by kernel_rfl) (isV (v7)) rfl 12 true 36 rfl rfl (fun a X hE hL => ?_)
          simp [Seen, slotAt, famV, isV] at hL
          obtain ⟨h7, h36⟩ := hL
          refine ⟨by simpa using h36, ?_⟩
          clear h36
          rw [relAt_eq]
          go_simp
          exact ⟨Onto.refl _, rfl⟩
        refine Obs.cons (j := 17) rfl ?_ ?_
        · refine Ob.guarded [(39, some 15), (36, some 12)] (by kernel_rfl) (rowX (oneF o7 5)) rfl 12 true 36 rfl rfl (fun a X hE hL => ?_)
          simp [Seen, slotAt, famV, isV] at hL
          obtain ⟨h39, h36⟩ := hL
          refine ⟨by simpa using h36, ?_⟩
          clear h36
          rw [relAt_eq]
          go_simp
          rw [relUpon_enter]
          go_at_call 13
          refine (HO1.out X hE 5).mono ?_
          rintro e Y ⟨v, rfl, ho, hY⟩
          exact ⟨_, rfl, hY, rowX_mk ho⟩
        refine Obs.cons (j := 18) rfl ?_ ?_
        · refine Ob.guarded [(38, some 14), (40, some 16), (36, some 12)] (by kernel_rfl) (isV (.bool true)) rfl 12 true 36 rfl rfl (fun a X hE hL => ?_)
          simp [Seen, slotAt, famV, isV] at hL
          obtain ⟨h38, h40, h36⟩ := hL
          refine ⟨by simpa using h36, ?_⟩
          clear h36
          rw [relAt_eq]
          obtain ⟨A38, c38, e38, r38⟩ := h38
          obtain ⟨A40, c40, e40, r40⟩ := h40
          go_simp
          rw [relUpon_enter]
          go_at_call 7
          refine (same_yes X A38 A40 _ c38 c40 _ r38 r40).mono ?_
          rintro e Y ⟨rfl, hY⟩
          exact ⟨_, rfl, hY, rfl⟩
        refine Obs.cons (j := 19) rfl ?_ ?_
        · refine Ob.free [(36, some 12), (41, some 17)] (by kernel_rfl) (isV (.bool true)) rfl rfl (fun a X hE hL => ?_)
          simp [Seen, slotAt, famV, isV] at hL
          obtain ⟨h36, h41⟩ := hL
          rw [relAt_eq]
          go_simp
          exact ⟨Onto.refl _, rfl⟩
        refine Obs.cons (j := 20) rfl ?_ ?_
        · refine Ob.free [(42, some 18)] (by kernel_rfl) (isV (.bool true)) rfl rfl (fun a X hE hL => ?_)
          simp [Seen, slotAt, famV, isV] at hL
          have h42 := hL
          rw [relAt_eq]
          go_simp
          exact ⟨Onto.refl _, rfl⟩
        refine Obs.cons (j := 21) rfl ?_ ?_
        · refine Ob.guarded [(7, none), (43, some 19)] (by kernel_rfl) (isV (v7)) rfl 19 true 43 rfl rfl (fun a X hE hL => ?_)
          simp [Seen, slotAt, famV, isV] at hL
          obtain ⟨h7, h43⟩ := hL
          refine ⟨by simpa using h43, ?_⟩
          clear h43
          rw [relAt_eq]
          go_simp
          exact ⟨Onto.refl _, rfl⟩
        refine Obs.cons (j := 22) rfl ?_ ?_
        · refine Ob.guarded [(44, some 20), (43, some 19)] (by kernel_rfl) (rowX (oneF o7 6)) rfl 19 true 43 rfl rfl (fun a X hE hL => ?_)
          simp [Seen, slotAt, famV, isV] at hL
          obtain ⟨h44, h43⟩ := hL
          refine ⟨by simpa using h43, ?_⟩
          clear h43
          rw [relAt_eq]
          go_simp
          rw [relUpon_enter]
          go_at_call 14
          refine (HS2.out X hE).mono ?_
          rintro e Y ⟨v, rfl, ho, hY⟩
          exact ⟨_, rfl, hY, rowX_mk ho⟩
        refine Obs.cons (j := 23) rfl ?_ ?_
        · refine Ob.guarded [(7, none), (43, some 19)] (by kernel_rfl) (isV (v7)) rfl 19 true 43 rfl rfl (fun a X hE hL => ?_)
          simp [Seen, slotAt, famV, isV] at hL
          obtain ⟨h7, h43⟩ := hL
          refine ⟨by simpa using h43, ?_⟩
          clear h43
          rw [relAt_eq]
          go_simp
          exact ⟨Onto.refl _, rfl⟩
        refine Obs.cons (j := 24) rfl ?_ ?_
        · refine Ob.guarded [(46, some 22), (43, some 19)] (by kernel_rfl) (rowX (oneF o7 6)) rfl 19 true 43 rfl rfl (fun a X hE hL => ?_)
          simp [Seen, slotAt, famV, isV] at hL
          obtain ⟨h46, h43⟩ := hL
          refine ⟨by simpa using h43, ?_⟩
          clear h43
          rw [relAt_eq]
          go_simp
          rw [relUpon_enter]
          go_at_call 13
          refine (HO1.out X hE 6).mono ?_
          rintro e Y ⟨v, rfl, ho, hY⟩
          exact ⟨_, rfl, hY, rowX_mk ho⟩
        refine Obs.cons (j := 25) rfl ?_ ?_
        · refine Ob.guarded [(45, some 21), (47, some 23), (43, some 19)] (by kernel_rfl) (isV (.bool true)) rfl 19 true 43 rfl rfl (fun a X hE hL => ?_)
          simp [Seen, slotAt, famV, isV] at hL
          obtain ⟨h45, h47, h43⟩ := hL
          refine ⟨by simpa using h43, ?_⟩
          clear h43
          rw [relAt_eq]
          obtain ⟨A45, c45, e45, r45⟩ := h45
          obtain ⟨A47, c47, e47, r47⟩ := h47
          go_simp
          rw [relUpon_enter]
          go_at_call 7
          refine (same_yes X A45 A47 _ c45 c47 _ r45 r47).mono ?_
          rintro e Y ⟨rfl, hY⟩
          exact ⟨_, rfl, hY, rfl⟩
        refine Obs.cons (j := 26) rfl ?_ ?_
        · refine Ob.free [(43, some 19), (48, some 24)] (by kernel_rfl) (isV (.bool true)) rfl rfl (fun a X hE hL => ?_)
          simp [Seen, slotAt, famV, isV] at hL
          obtain ⟨h43, h48⟩ := hL
          rw [relAt_eq]
          go_simp
          exact ⟨Onto.refl _, rfl⟩
        refine Obs.cons (j := 27) rfl ?_ ?_
        · refine Ob.free [(49, some 25)] (by kernel_rfl) (isV (.bool true)) rfl rfl (fun a X hE hL => ?_)
          simp [Seen, slotAt, famV, isV] at hL
          have h49 := hL
          rw [relAt_eq]
          go_simp
          exact ⟨Onto.refl _, rfl⟩
        refine Obs.cons (j := 28) rfl ?_ ?_
        · refine Ob.guarded [(7, none), (50, some 26)] (by kernel_rfl) (isV (v7)) rfl 26 true 50 rfl rfl (fun a X hE hL => ?_)
          simp [Seen, slotAt, famV, isV] at hL
          obtain ⟨h7, h50⟩ := hL
          refine ⟨by simpa using h50, ?_⟩
          clear h50
          rw [relAt_eq]
          go_simp
          exact ⟨Onto.refl _, rfl⟩
        refine Obs.cons (j := 29) rfl ?_ ?_
        · refine Ob.guarded [(51, some 27), (50, some 26)] (by kernel_rfl) (rowX (oneF o7 7)) rfl 26 true 50 rfl rfl (fun a X hE hL => ?_)
          simp [Seen, slotAt, famV, isV] at hL
          obtain ⟨h51, h50⟩ := hL
          refine ⟨by simpa using h50, ?_⟩
          clear h50
          rw [relAt_eq]
          go_simp
          rw [relUpon_enter]
          go_at_call 15
          refine (HS3.out X hE).mono ?_
          rintro e Y ⟨v, rfl, ho, hY⟩
          exact ⟨_, rfl, hY, rowX_mk ho⟩
        refine Obs.cons (j := 30) rfl ?_ ?_
        · refine Ob.guarded [(7, none), (50, some 26)] (by kernel_rfl) (isV (v7)) rfl 26 true 50 rfl rfl (fun a X hE hL => ?_)
          simp [Seen, slotAt, famV, isV] at hL
          obtain ⟨h7, h50⟩ := hL
          refine ⟨by simpa using h50, ?_⟩
          clear h50
          rw [relAt_eq]
          go_simp
          exact ⟨Onto.refl _, rfl⟩
        refine Obs.cons (j := 31) rfl ?_ ?_
        · refine Ob.guarded [(53, some 29), (50, some 26)] (by kernel_rfl) (rowX (oneF o7 7)) rfl 26 true 50 rfl rfl (fun a X hE hL => ?_)
          simp [Seen, slotAt, famV, isV] at hL
          obtain ⟨h53, h50⟩ := hL
          refine ⟨by simpa using h50, ?_⟩
          clear h50
          rw [relAt_eq]
          go_simp
          rw [relUpon_enter]
          go_at_call 13
          refine (HO1.out X hE 7).mono ?_
          rintro e Y ⟨v, rfl, ho, hY⟩
          exact ⟨_, rfl, hY, rowX_mk ho⟩
        refine Obs.cons (j := 32) rfl ?_ ?_
        · refine Ob.guarded [(52, some 28), (54, some 30), (50, some 26)] (by kernel_rfl) (isV (.bool true)) rfl 26 true 50 rfl rfl (fun a X hE hL => ?_)
          simp [Seen, slotAt, famV, isV] at hL
          obtain ⟨h52, h54, h50⟩ := hL
          refine ⟨by simpa using h50, ?_⟩
          clear h50
          rw [relAt_eq]
          obtain ⟨A52, c52, e52, r52⟩ := h52
          obtain ⟨A54, c54, e54, r54⟩ := h54
          go_simp
          rw [relUpon_enter]
          go_at_call 7
          refine (same_yes X A52 A54 _ c52 c54 _ r52 r54).mono ?_
          rintro e Y ⟨rfl, hY⟩
          exact ⟨_, rfl, hY, rfl⟩
        refine Obs.cons (j := 33) rfl ?_ ?_
        · refine Ob.free [(50, some 26), (55, some 31)] (by kernel_rfl) (isV (.bool true)) rfl rfl (fun a X hE hL => ?_)
          simp [Seen, slotAt, famV, isV] at hL
          obtain ⟨h50, h55⟩ := hL
          rw [relAt_eq]
          go_simp
          exact ⟨Onto.refl _, rfl⟩
        refine Obs.cons (j := 34) rfl ?_ ?_
        · refine Ob.free [(56, some 32)] (by kernel_rfl) (isV (.bool true)) rfl rfl (fun a X hE hL => ?_)
          simp [Seen, slotAt, famV, isV] at hL
          have h56 := hL
          rw [relAt_eq]
          go_simp
          exact ⟨Onto.refl _, rfl⟩
        refine Obs.cons (j := 35) rfl ?_ ?_
        · refine Ob.guarded [(4, none), (57, some 33)] (by kernel_rfl) (isV (.agg #[.int .u64 (wd S 0), .int .u64 (wd S 1), .int .u64 (wd S 2), .int .u64 (wd S 3)])) rfl 33 true 57 rfl rfl (fun a X hE hL => ?_)
          simp [Seen, slotAt, famV, isV] at hL
          obtain ⟨h4, h57⟩ := hL
          refine ⟨by simpa using h57, ?_⟩
          clear h57
          rw [relAt_eq]
          have f0 := keeps hE _ _ c0; have f1 := keeps hE _ _ c1; have f2 := keeps hE _ _ c2; have f3 := keeps hE _ _ c3
          go_simp
          exact ⟨Onto.refl _, rfl⟩
        refine Obs.cons (j := 36) rfl ?_ ?_
        · refine Ob.guarded [(58, some 34), (57, some 33)] (by kernel_rfl) (rowX ([⟨1, S⟩])) rfl 33 true 57 rfl rfl (fun a X hE hL => ?_)
          simp [Seen, slotAt, famV, isV] at hL
          obtain ⟨h58, h57⟩ := hL
          refine ⟨by simpa using h57, ?_⟩
          clear h57
          rw [relAt_eq]
          go_simp
          rw [relUpon_enter]
          go_at_call 16
          refine (HT1.out X).mono ?_
          rintro e Y ⟨v, rfl, ho, hY⟩
          exact ⟨_, rfl, hY, rowX_mk ho⟩
        refine Obs.cons (j := 37) rfl ?_ ?_
        · refine Ob.guarded [(4, none), (57, some 33)] (by kernel_rfl) (isV (.agg #[.int .u64 (wd S 0), .int .u64 (wd S 1), .int .u64 (wd S 2), .int .u64 (wd S 3)])) rfl 33 true 57 rfl rfl (fun a X hE hL => ?_)
          simp [Seen, slotAt, famV, isV] at hL
          obtain ⟨h4, h57⟩ := hL
          refine ⟨by simpa using h57, ?_⟩
          clear h57
          rw [relAt_eq]
          have f0 := keeps hE _ _ c0; have f1 := keeps hE _ _ c1; have f2 := keeps hE _ _ c2; have f3 := keeps hE _ _ c3
          go_simp
          exact ⟨Onto.refl _, rfl⟩
        refine Obs.cons (j := 38) rfl ?_ ?_
        · refine Ob.guarded [(60, some 36), (57, some 33)] (by kernel_rfl) (rowX ([⟨1, S⟩])) rfl 33 true 57 rfl rfl (fun a X hE hL => ?_)
          simp [Seen, slotAt, famV, isV] at hL
          obtain ⟨h60, h57⟩ := hL
          refine ⟨by simpa using h57, ?_⟩
          clear h57
          rw [relAt_eq]
          go_simp
          rw [relUpon_enter]
          go_at_call 17
          refine (HT2.out X).mono ?_
          rintro e Y ⟨v, rfl, ho, hY⟩
          exact ⟨_, rfl, hY, rowX_mk ho⟩
        refine Obs.cons (j := 39) rfl ?_ ?_
        · refine Ob.guarded [(59, some 35), (61, some 37), (57, some 33)] (by kernel_rfl) (isV (.bool true)) rfl 33 true 57 rfl rfl (fun a X hE hL => ?_)
          simp [Seen, slotAt, famV, isV] at hL
          obtain ⟨h59, h61, h57⟩ := hL
          refine ⟨by simpa using h57, ?_⟩
          clear h57
          rw [relAt_eq]
          obtain ⟨A59, c59, e59, r59⟩ := h59
          obtain ⟨A61, c61, e61, r61⟩ := h61
          go_simp
          rw [relUpon_enter]
          go_at_call 7
          refine (same_yes X A59 A61 _ c59 c61 _ r59 r61).mono ?_
          rintro e Y ⟨rfl, hY⟩
          exact ⟨_, rfl, hY, rfl⟩
        refine Obs.cons (j := 40) rfl ?_ ?_
        · refine Ob.free [(57, some 33), (62, some 38)] (by kernel_rfl) (isV (.bool true)) rfl rfl (fun a X hE hL => ?_)
          simp [Seen, slotAt, famV, isV] at hL
          obtain ⟨h57, h62⟩ := hL
          rw [relAt_eq]
          go_simp
          exact ⟨Onto.refl _, rfl⟩
        refine Obs.cons (j := 41) rfl ?_ ?_
        · refine Ob.free [(63, some 39)] (by kernel_rfl) (isV (.bool true)) rfl rfl (fun a X hE hL => ?_)
          simp [Seen, slotAt, famV, isV] at hL
          have h63 := hL
          rw [relAt_eq]
          go_simp
          exact ⟨Onto.refl _, rfl⟩
        refine Obs.cons (j := 42) rfl ?_ ?_
        · refine Ob.guarded [(64, some 40)] (by kernel_rfl) (rowX ([stp0 2])) rfl 40 true 64 rfl rfl (fun a X hE hL => ?_)
          simp [Seen, slotAt, famV, isV] at hL
          have h64 := hL
          refine ⟨by simpa using h64, ?_⟩
          clear h64
          rw [relAt_eq]
          go_simp
          rw [relUpon_enter]
          go_at_call 18
          refine (HE1.out X).mono ?_
          rintro e Y ⟨v, rfl, ho, hY⟩
          exact ⟨_, rfl, hY, rowX_mk ho⟩
        refine Obs.cons (j := 43) rfl ?_ ?_
        · refine Ob.guarded [(64, some 40)] (by kernel_rfl) (rowX ([stp0 2])) rfl 40 true 64 rfl rfl (fun a X hE hL => ?_)
          simp [Seen, slotAt, famV, isV] at hL
          have h64 := hL
          refine ⟨by simpa using h64, ?_⟩
          clear h64
          rw [relAt_eq]
          go_simp
          rw [relUpon_enter]
          go_at_call 19
          refine (HE2.out X).mono ?_
          rintro e Y ⟨v, rfl, ho, hY⟩
          exact ⟨_, rfl, hY, rowX_mk ho⟩
        refine Obs.cons (j := 44) rfl ?_ ?_
        · refine Ob.guarded [(65, some 41), (66, some 42), (64, some 40)] (by kernel_rfl) (isV (.bool true)) rfl 40 true 64 rfl rfl (fun a X hE hL => ?_)
          simp [Seen, slotAt, famV, isV] at hL
          obtain ⟨h65, h66, h64⟩ := hL
          refine ⟨by simpa using h64, ?_⟩
          clear h64
          rw [relAt_eq]
          obtain ⟨A65, c65, e65, r65⟩ := h65
          obtain ⟨A66, c66, e66, r66⟩ := h66
          go_simp
          rw [relUpon_enter]
          go_at_call 7
          refine (same_yes X A65 A66 _ c65 c66 _ r65 r66).mono ?_
          rintro e Y ⟨rfl, hY⟩
          exact ⟨_, rfl, hY, rfl⟩
        refine Obs.cons (j := 45) rfl ?_ ?_
        · refine Ob.free [(64, some 40), (67, some 43)] (by kernel_rfl) (isV (.bool true)) rfl rfl (fun a X hE hL => ?_)
          simp [Seen, slotAt, famV, isV] at hL
          obtain ⟨h64, h67⟩ := hL
          rw [relAt_eq]
          go_simp
          exact ⟨Onto.refl _, rfl⟩
        refine Obs.cons (j := 46) rfl ?_ ?_
        · refine Ob.free [(68, some 44)] (by kernel_rfl) (isV (.bool true)) rfl rfl (fun a X hE hL => ?_)
          simp [Seen, slotAt, famV, isV] at hL
          have h68 := hL
          rw [relAt_eq]
          go_simp
          exact ⟨Onto.refl _, rfl⟩
        refine Obs.cons (j := 47) rfl ?_ ?_
        · refine Ob.guarded [(2, none), (69, some 45)] (by kernel_rfl) (isV (.string t)) rfl 45 true 69 rfl rfl (fun a X hE hL => ?_)
          simp [Seen, slotAt, famV, isV] at hL
          obtain ⟨h2, h69⟩ := hL
          refine ⟨by simpa using h69, ?_⟩
          clear h69
          rw [relAt_eq]
          go_simp
          exact ⟨Onto.refl _, rfl⟩
        refine Obs.cons (j := 48) rfl ?_ ?_
        · refine Ob.guarded [(70, some 46), (69, some 45)] (by kernel_rfl) (rowX (TR)) rfl 45 true 69 rfl rfl (fun a X hE hL => ?_)
          simp [Seen, slotAt, famV, isV] at hL
          obtain ⟨h70, h69⟩ := hL
          refine ⟨by simpa using h69, ?_⟩
          clear h69
          rw [relAt_eq]
          go_simp
          rw [relUpon_enter]
          go_at_call 20
          refine (HX1.out X).mono ?_
          rintro e Y ⟨v, rfl, ho, hY⟩
          exact ⟨_, rfl, hY, rowX_mk ho⟩
        refine Obs.cons (j := 49) rfl ?_ ?_
        · refine Ob.guarded [(2, none), (69, some 45)] (by kernel_rfl) (isV (.string t)) rfl 45 true 69 rfl rfl (fun a X hE hL => ?_)
          simp [Seen, slotAt, famV, isV] at hL
          obtain ⟨h2, h69⟩ := hL
          refine ⟨by simpa using h69, ?_⟩
          clear h69
          rw [relAt_eq]
          go_simp
          exact ⟨Onto.refl _, rfl⟩
        refine Obs.cons (j := 50) rfl ?_ ?_
        · refine Ob.guarded [(72, some 48), (69, some 45)] (by kernel_rfl) (rowX (TR)) rfl 45 true 69 rfl rfl (fun a X hE hL => ?_)
          simp [Seen, slotAt, famV, isV] at hL
          obtain ⟨h72, h69⟩ := hL
          refine ⟨by simpa using h69, ?_⟩
          clear h69
          rw [relAt_eq]
          go_simp
          rw [relUpon_enter]
          go_at_call 21
          refine (HX2.out X).mono ?_
          rintro e Y ⟨v, rfl, ho, hY⟩
          exact ⟨_, rfl, hY, rowX_mk ho⟩
        refine Obs.cons (j := 51) rfl ?_ ?_
        · refine Ob.guarded [(71, some 47), (73, some 49), (69, some 45)] (by kernel_rfl) (isV (.bool true)) rfl 45 true 69 rfl rfl (fun a X hE hL => ?_)
          simp [Seen, slotAt, famV, isV] at hL
          obtain ⟨h71, h73, h69⟩ := hL
          refine ⟨by simpa using h69, ?_⟩
          clear h69
          rw [relAt_eq]
          obtain ⟨A71, c71, e71, r71⟩ := h71
          obtain ⟨A73, c73, e73, r73⟩ := h73
          go_simp
          rw [relUpon_enter]
          go_at_call 7
          refine (same_yes X A71 A73 _ c71 c73 _ r71 r73).mono ?_
          rintro e Y ⟨rfl, hY⟩
          exact ⟨_, rfl, hY, rfl⟩
        refine Obs.cons (j := 52) rfl ?_ ?_
        · refine Ob.free [(69, some 45), (74, some 50)] (by kernel_rfl) (isV (.bool true)) rfl rfl (fun a X hE hL => ?_)
          simp [Seen, slotAt, famV, isV] at hL
          obtain ⟨h69, h74⟩ := hL
          rw [relAt_eq]
          go_simp
          exact ⟨Onto.refl _, rfl⟩
        refine Obs.cons (j := 53) rfl ?_ ?_
        · refine Ob.free [(75, some 51)] (by kernel_rfl) (isV (.bool true)) rfl rfl (fun a X hE hL => ?_)
          simp [Seen, slotAt, famV, isV] at hL
          have h75 := hL
          rw [relAt_eq]
          go_simp
          exact ⟨Onto.refl _, rfl⟩
        refine Obs.cons (j := 54) rfl ?_ ?_
        · refine Ob.guarded [(76, some 52)] (by kernel_rfl) (isV (.bool true)) rfl 52 true 76 rfl rfl (fun a X hE hL => ?_)
          simp [Seen, slotAt, famV, isV] at hL
          have h76 := hL
          refine ⟨by simpa using h76, ?_⟩
          clear h76
          rw [relAt_eq]
          go_simp
          rw [relUpon_enter]
          go_at_call 6
          refine (HK.out X).mono ?_
          rintro e Y ⟨rfl, hY⟩
          exact ⟨_, rfl, hY, rfl⟩
        refine Obs.cons (j := 55) rfl ?_ ?_
        · refine Ob.free [(76, some 52), (77, some 53)] (by kernel_rfl) (isV (.bool true)) rfl rfl (fun a X hE hL => ?_)
          simp [Seen, slotAt, famV, isV] at hL
          obtain ⟨h76, h77⟩ := hL
          rw [relAt_eq]
          go_simp
          exact ⟨Onto.refl _, rfl⟩
        refine Obs.cons (j := 56) rfl ?_ ?_
        · refine Ob.free [(78, some 54)] (by kernel_rfl) (isV (.bool true)) rfl rfl (fun a X hE hL => ?_)
          simp [Seen, slotAt, famV, isV] at hL
          have h78 := hL
          rw [relAt_eq]
          go_simp
          exact ⟨Onto.refl _, rfl⟩
        exact trivial
      case q =>
        intro x wq hE hV
        simp [AllV, famV, isV] at hV
        obtain ⟨-, -, -, -, -, -, -, -, -, -, -, -, -, -, -, -, -, -, -, -, -, -, -, -, -, -, -, -, -, -, -, -, -, -, -, -, -, -, -, -, -, -, -, -, -, -, -, -, -, -, -, -, -, -, -, h6⟩ := hV
        simp only [puts, Act.put, List.setIfInBounds_toArray, List.set_cons_zero, List.set_cons_succ, h6]
        generalize x 24 = y24
        generalize x 25 = y25
        generalize x 26 = y26
        generalize x 27 = y27
        generalize x 28 = y28
        generalize x 29 = y29
        generalize x 30 = y30
        generalize x 31 = y31
        generalize x 32 = y32
        generalize x 33 = y33
        generalize x 34 = y34
        generalize x 35 = y35
        generalize x 36 = y36
        generalize x 37 = y37
        generalize x 38 = y38
        generalize x 39 = y39
        generalize x 40 = y40
        generalize x 41 = y41
        generalize x 42 = y42
        generalize x 43 = y43
        generalize x 44 = y44
        generalize x 45 = y45
        generalize x 46 = y46
        generalize x 47 = y47
        generalize x 48 = y48
        generalize x 49 = y49
        generalize x 50 = y50
        generalize x 51 = y51
        generalize x 52 = y52
        generalize x 53 = y53
        generalize x 54 = y54
        generalize x 55 = y55
        generalize x 56 = y56
        generalize x 57 = y57
        generalize x 58 = y58
        generalize x 59 = y59
        generalize x 60 = y60
        generalize x 61 = y61
        generalize x 62 = y62
        generalize x 63 = y63
        generalize x 64 = y64
        generalize x 65 = y65
        generalize x 66 = y66
        generalize x 67 = y67
        generalize x 68 = y68
        generalize x 69 = y69
        generalize x 70 = y70
        generalize x 71 = y71
        generalize x 72 = y72
        generalize x 73 = y73
        generalize x 74 = y74
        generalize x 75 = y75
        generalize x 76 = y76
        generalize x 77 = y77
        generalize x 78 = y78
        clear h6
        have HB2 := Lib.hid (HB1.out.trans ((onto_drew hE).mono HB1.out.size))
        clear hE
        go_wp2
        go_ret
        exact ⟨rfl, HB2.out⟩
theorem makes_walk (A : Option Addr) (n d : Nat) (os : List Rw) (S : Nat → Bool) (t : ByteArray) (w : World) (hR : RRow w A n os) (ht : t.size ≤ maxLen) :
    Calls Try.prog 3 #[.slice A n d, .agg #[.int .u64 (wd S 0), .int .u64 (wd S 1), .int .u64 (wd S 2), .int .u64 (wd S 3)], .string t] w fun e w' => e = .returned (.bool true) ∧ Below w.heap.size w w' := makes_any w A n d os S t hR ht
end Go.Proofs.Ytjlmmpbichfaoaa
