/- The law of the pieces. -/
import Derived.Test.YtenijacffcdnaaaDoorTw8
namespace Go.Proofs.YtenijacffcdnaaaDoor
open Go.RowKit Go.Sort Go.PlainAid
set_option linter.unusedVariables false
set_option linter.unusedSimpArgs false

attribute [local go_sem ↓] loadA_eq storeA_eq loadD_eq
set_option maxHeartbeats 8000000 in
set_option maxRecDepth 100000 in
theorem lawCuts_any (w : World) (D : Df) (M : MS) (s : ByteArray) (p : Pc) (h : MAt w D M) (hC : ∀ i, i < 256 → M.cl i < 256) (hN : NoneS w) :
    Calls Tryd.prog 4 #[.agg (dfA D), .string s, .agg #[.int .i64 p.t, .string p.s]] w fun e w' => e = .returned (.bool true) ∧ Below w.heap.size w w' := by
  have HM := Lib.hid h
  have HCC := Lib.hid hC
  have HNN := Lib.hid hN
  have hnm := h.nx.len.2
  obtain ⟨g, hg⟩ : ∃ g, w.heap.size = g := ⟨_, rfl⟩
  have HG := Lib.hid hg
  obtain ⟨W1, hW1⟩ : ∃ W, W = (w.alloc (.cells (dfA D) 26)).alloc (.cells #[.int .i64 p.t, .string p.s] 33) := ⟨_, rfl⟩
  have hs1 : W1.heap.size = g + 2 := by rw [hW1]; simp [hg]
  have hb1 : Below g w W1 := by rw [hW1, ← hg]; exact ((Below.refl _ _).alloc (Nat.le_refl _) _).alloc (by simp) _
  have hd1 : DfaAt W1 g D := by rw [hW1]; exact (DfaAt.new w D g hg).alloc _
  have hp1 : PcAt W1 (g + 1) p := by
    have := heap_alloc_new (w.alloc (.cells (dfA D) 26)) (.cells #[.int .i64 p.t, .string p.s] 33)
    rw [World.size_alloc, hg] at this
    rw [hW1]; exact this
  have HSM := Lib.hid (small_any W1 D M (h.below (by rw [hg]; exact hb1)))
  have HK := Lib.hid fun X (hX : Below g w X) => mknows_any X (hN.below (by rw [hg]; exact hX))
  have HW1 := Lib.hid hW1
  have HB1 := Lib.hid hb1
  have HS1 := Lib.hid hs1
  have HD1 := Lib.hid hd1
  have HP1 := Lib.hid hp1
  have hld := run_loadD W1 g D hd1
  have d257 := hd1.nx
  rw [hW1] at hld HSM d257
  clear h hC hN hW1 hs1 hb1 hd1 hp1
  go_enter Tryd.func4, Tryd.ntmps4
  go_wp2_with fail
  refine HSM.out.mono ?_
  rintro e w2 ⟨⟨b, rfl⟩, hb2⟩
  have hb2' : Below W1.heap.size W1 w2 := by rw [← HW1.out] at hb2; exact hb2
  have HB2 : Hid (Below g w w2) := Lib.hid (HB1.out.trans (hb2'.mono (by have := HS1.out; omega)))
  have HB12 := Lib.hid hb2'
  have HD2 := Lib.hid (HD1.out.below hb2' HD1.out.lt)
  have hgl : g + 1 ≤ w2.heap.size := HD2.out.lt
  have e257 := HD2.out.nx
  have hld2 := run_loadD w2 g D HD2.out
  have HK2 := Lib.hid (HK.out w2 HB2.out)
  clear hb2 hb2' hld d257
  have HFN : ∀ e w3, (e = Ending.returned (.bool true) ∧ Below w2.heap.size w2 w3) → Below g w w3 := fun e w3 hh => HB2.out.trans (hh.2.mono (by omega))
  have HP2 := Lib.hid (show PcAt w2 (g + 1) p from (HB12.out.block (g + 1) (by have := HS1.out; omega)).trans HP1.out)
  have p1 := HP2.out.c1
  cases b with
  | false =>
    go_wp2_with fail
    refine HK2.out.mono ?_
    rintro e w3 hh
    have HB3 := Lib.hid (HFN e w3 hh)
    obtain ⟨rfl, _⟩ := hh
    go_wp2
    go_ret
    exact ⟨rfl, by first | exact HB3.out | (rw [HG.out]; exact HB3.out)⟩
  | true =>
  by_cases hb60 : 60 < D.nl
  · have z1 : (60 : Int) < (D.nl : Int) := by omega
    go_wp2_with fail
    refine HK2.out.mono ?_
    rintro e w3 hh
    have HB3 := Lib.hid (HFN e w3 hh)
    obtain ⟨rfl, _⟩ := hh
    go_wp2
    go_ret
    exact ⟨rfl, by first | exact HB3.out | (rw [HG.out]; exact HB3.out)⟩
  by_cases hs60 : 60 < s.size
  · have z1 : ¬ (60 : Int) < (D.nl : Int) := by omega
    have z2 : (60 : Int) < (s.size : Int) := by omega
    go_wp2_with fail
    refine HK2.out.mono ?_
    rintro e w3 hh
    have HB3 := Lib.hid (HFN e w3 hh)
    obtain ⟨rfl, _⟩ := hh
    go_wp2
    go_ret
    exact ⟨rfl, by first | exact HB3.out | (rw [HG.out]; exact HB3.out)⟩
  by_cases hp60 : 60 < p.s.size
  · have z1 : ¬ (60 : Int) < (D.nl : Int) := by omega
    have z2 : ¬ (60 : Int) < (s.size : Int) := by omega
    have z3 : (60 : Int) < (p.s.size : Int) := by omega
    go_wp2_with fail
    refine HK2.out.mono ?_
    rintro e w3 hh
    have HB3 := Lib.hid (HFN e w3 hh)
    obtain ⟨rfl, _⟩ := hh
    go_wp2
    go_ret
    exact ⟨rfl, by first | exact HB3.out | (rw [HG.out]; exact HB3.out)⟩
  have z1 : ¬ (60 : Int) < (D.nl : Int) := by omega
  have z2 : ¬ (60 : Int) < (s.size : Int) := by omega
  have z3 : ¬ (60 : Int) < (p.s.size : Int) := by omega
  have HM2 := Lib.hid (HM.out.below (by rw [HG.out]; exact HB2.out))
  have hcu := mcut_any w2 D M s HM2.out HCC.out (HNN.out.below (by rw [HG.out]; exact HB2.out)) (by omega)
  have hrc := fun X (hX : MAt X D M) => rcut_any X D M s hX HCC.out (by omega)
  have hjl := pcsR_join (M := M) (l := LS s)
  rw [LS_len] at hjl
  obtain ⟨ps, hps⟩ : ∃ ps, pcsR M (LS s) = ps := ⟨_, rfl⟩
  rw [hps] at hcu hrc hjl
  obtain ⟨n, hn⟩ : ∃ n, ps.length = n := ⟨_, rfl⟩
  have HN := Lib.hid hn
  rw [hn] at hcu
  have HC0 := Lib.hid hcu
  have HRC := Lib.hid hrc
  have HJL : Hid ((joinL ps).length ≤ 100000) := Lib.hid (by omega)
  clear hcu hrc hjl hps hn
  go_wp2_with fail
  refine HC0.out.mono ?_
  rintro e w3 ⟨A, c, rfl, hrow, hb3⟩
  have HB3 : Hid (Below g w w3) := Lib.hid (HB2.out.trans (hb3.mono (by omega)))
  have HD3 := Lib.hid (HD2.out.below hb3 HD2.out.lt)
  have HM3 := Lib.hid (HM2.out.below hb3)
  have hp3 : PcAt w3 (g + 1) p := (hb3.block (g + 1) HP2.out.lt).trans HP2.out
  have c0 := hp3.c0
  have c1 := hp3.c1
  have HROW := Lib.hid hrow
  have hX3 : ∀ X, Onto w3.drew X → Below g w X := fun X hX => HB3.out.trans ((onto_drew hX).mono (by have := HD3.out.lt; omega))
  have HLD := Lib.hid fun X (hX : Onto w3.drew X) => run_loadD X g D (HD3.out.below (onto_drew hX) HD3.out.lt)
  have HCU := Lib.hid fun X (hX : Onto w3.drew X) => HRC.out X (HM3.out.below (onto_drew hX))
  have HSA := Lib.hid fun X (hX : Onto w3.drew X) A2 c2 (r2 : CRow pcC 2 X A2 ps.length ps) => psame_any X A A2 n ps.length c c2 ps ps (HROW.out.below (onto_drew hX)) r2
  rw [samePs_refl] at HSA
  have HMJ := Lib.hid fun X (hX : Onto w3.drew X) => mjoin_any X A n c ps (HROW.out.below (onto_drew hX)) HJL.out
  have HRJ := Lib.hid fun X (hX : Onto w3.drew X) => rjoin_any X A n c ps (HROW.out.below (onto_drew hX)) HJL.out
  have HMW := Lib.hid fun X (hX : Onto w3.drew X) => mwhole_any X D M p (HM3.out.below (onto_drew hX)) HCC.out (HNN.out.below (by rw [HG.out]; exact hX3 X hX)) (by omega)
  have HRW := Lib.hid fun X (hX : Onto w3.drew X) => rwhole_any X D M p (HM3.out.below (onto_drew hX)) HCC.out (by omega)
  have HKN := Lib.hid fun X (hX : Onto w3.drew X) => HK.out X (hX3 X hX)
  obtain ⟨js, hjs⟩ : ∃ js, joinB ps = js := ⟨_, rfl⟩
  rw [hjs] at HMJ HRJ
  obtain ⟨q, hq⟩ : ∃ q, wholeM M p = q := ⟨_, rfl⟩
  rw [hq] at HMW HRW
  clear hrow hb3 hld2 e257 hp3 hjs hq p1
  go_wp2_with fail
  refine wp_region_fam_lit (E := Onto)
    [isV (.slice A n c),
     isV (.agg (dfA D)),
     isV (.string s),
     pcX ps,
     isV (.bool true),
     isV (.bool true),
     isV (.slice A n c),
     isV (.string js),
     isV (.slice A n c),
     isV (.string js),
     isV (.bool true),
     isV (.bool true),
     isV (.bool true),
     isV (.agg (dfA D)),
     isV (.agg #[.int .i64 p.t, .string p.s]),
     isV (.bool q),
     isV (.agg (dfA D)),
     isV (.agg #[.int .i64 p.t, .string p.s]),
     isV (.bool q),
     isV (.bool true),
     isV (.bool true),
     isV (.bool true),
     isV (.bool true),
     isV (.bool true),
     isV (.bool true)]
    [some 32, some 33, some 34, some 35, some 36, some 37, some 38, some 39, some 40, some 41, some 42, some 43, some 44, some 45, some 46, some 47, some 48, some 49, some 50, some 51, some 52, some 53, some 54, some 55, some 6] (by kernel_rfl) rfl (by kernel_rfl) rfl Onto.trans Onto.refl ?mono ?ob ?q
  case mono => exact ⟨isV_mono _ _, isV_mono _ _, isV_mono _ _, pcX_mono _, isV_mono _ _, isV_mono _ _, isV_mono _ _, isV_mono _ _, isV_mono _ _, isV_mono _ _, isV_mono _ _, isV_mono _ _, isV_mono _ _, isV_mono _ _, isV_mono _ _, isV_mono _ _, isV_mono _ _, isV_mono _ _, isV_mono _ _, isV_mono _ _, isV_mono _ _, isV_mono _ _, isV_mono _ _, isV_mono _ _, isV_mono _ _, trivial⟩
  case ob =>
    refine Obs.cons (j := 1) rfl ?_ ?_
    · refine Ob.free [(7, none)] (by kernel_rfl) (isV (.slice A n c)) rfl rfl (fun a X hE hL => ?_)
      simp [Seen, slotAt] at hL
      have h7 := hL
      rw [relAt_eq]
      go_simp
      exact ⟨Onto.refl _, rfl⟩
    refine Obs.cons (j := 2) rfl ?_ ?_
    · refine Ob.free [(3, none)] (by kernel_rfl) (isV (.agg (dfA D))) rfl rfl (fun a X hE hL => ?_)
      simp [Seen, slotAt] at hL
      have h3 := hL
      rw [relAt_eq]
      have hl := HLD.out X hE
      go_simp
      exact ⟨Onto.refl _, rfl⟩
    refine Obs.cons (j := 3) rfl ?_ ?_
    · refine Ob.free [(1, none)] (by kernel_rfl) (isV (.string s)) rfl rfl (fun a X hE hL => ?_)
      simp [Seen, slotAt] at hL
      have h1 := hL
      rw [relAt_eq]
      go_simp
      exact ⟨Onto.refl _, rfl⟩
    refine Obs.cons (j := 4) rfl ?_ ?_
    · refine Ob.free [(33, some 1), (34, some 2)] (by kernel_rfl) (pcX ps) rfl rfl (fun a X hE hL => ?_)
      simp [Seen, slotAt, famV, isV] at hL
      obtain ⟨h33, h34⟩ := hL
      rw [relAt_eq]
      go_simp
      rw [relUpon_enter]
      go_at_call 13
      refine (HCU.out X hE).mono ?_
      rintro e Y ⟨A', c', rfl, ho, hY⟩
      exact ⟨_, rfl, hY, A', c', rfl, own_row pcC_len ho⟩
    refine Obs.cons (j := 5) rfl ?_ ?_
    · refine Ob.free [(32, some 0), (35, some 3)] (by kernel_rfl) (isV (.bool true)) rfl rfl (fun a X hE hL => ?_)
      simp [Seen, slotAt, famV, isV] at hL
      obtain ⟨h32, h35⟩ := hL
      rw [relAt_eq]
      obtain ⟨A2, c2, e2, r2⟩ := h35
      go_simp
      rw [relUpon_enter]
      go_at_call 12
      refine (HSA.out X hE A2 c2 r2).mono ?_
      rintro e Y ⟨rfl, hY⟩
      exact ⟨_, rfl, hY, rfl⟩
    refine Obs.cons (j := 6) rfl ?_ ?_
    · refine Ob.free [(36, some 4)] (by kernel_rfl) (isV (.bool true)) rfl rfl (fun a X hE hL => ?_)
      simp [Seen, slotAt, famV, isV] at hL
      have h36 := hL
      rw [relAt_eq]
      go_simp
      exact ⟨Onto.refl _, rfl⟩
    refine Obs.cons (j := 7) rfl ?_ ?_
    · refine Ob.guarded [(7, none), (37, some 5)] (by kernel_rfl) (isV (.slice A n c)) rfl 5 true 37 rfl rfl (fun a X hE hL => ?_)
      simp [Seen, slotAt, famV, isV] at hL
      obtain ⟨h7, h37⟩ := hL
      refine ⟨by simpa using h37, ?_⟩
      clear h37
      rw [relAt_eq]
      go_simp
      exact ⟨Onto.refl _, rfl⟩
    refine Obs.cons (j := 8) rfl ?_ ?_
    · refine Ob.guarded [(38, some 6), (37, some 5)] (by kernel_rfl) (isV (.string js)) rfl 5 true 37 rfl rfl (fun a X hE hL => ?_)
      simp [Seen, slotAt, famV, isV] at hL
      obtain ⟨h38, h37⟩ := hL
      refine ⟨by simpa using h37, ?_⟩
      clear h37
      rw [relAt_eq]
      go_simp
      rw [relUpon_enter]
      go_at_call 14
      refine (HMJ.out X hE).mono ?_
      rintro e Y ⟨rfl, hY⟩
      exact ⟨_, rfl, hY, rfl⟩
    refine Obs.cons (j := 9) rfl ?_ ?_
    · refine Ob.guarded [(7, none), (37, some 5)] (by kernel_rfl) (isV (.slice A n c)) rfl 5 true 37 rfl rfl (fun a X hE hL => ?_)
      simp [Seen, slotAt, famV, isV] at hL
      obtain ⟨h7, h37⟩ := hL
      refine ⟨by simpa using h37, ?_⟩
      clear h37
      rw [relAt_eq]
      go_simp
      exact ⟨Onto.refl _, rfl⟩
    refine Obs.cons (j := 10) rfl ?_ ?_
    · refine Ob.guarded [(40, some 8), (37, some 5)] (by kernel_rfl) (isV (.string js)) rfl 5 true 37 rfl rfl (fun a X hE hL => ?_)
      simp [Seen, slotAt, famV, isV] at hL
      obtain ⟨h40, h37⟩ := hL
      refine ⟨by simpa using h37, ?_⟩
      clear h37
      rw [relAt_eq]
      go_simp
      rw [relUpon_enter]
      go_at_call 15
      refine (HRJ.out X hE).mono ?_
      rintro e Y ⟨rfl, hY⟩
      exact ⟨_, rfl, hY, rfl⟩
    refine Obs.cons (j := 11) rfl ?_ ?_
    · refine Ob.guarded [(39, some 7), (41, some 9), (37, some 5)] (by kernel_rfl) (isV (.bool true)) rfl 5 true 37 rfl rfl (fun a X hE hL => ?_)
      simp [Seen, slotAt, famV, isV] at hL
      obtain ⟨h39, h41, h37⟩ := hL
      refine ⟨by simpa using h37, ?_⟩
      clear h37
      rw [relAt_eq]
      go_simp
      exact ⟨Onto.refl _, rfl⟩
    refine Obs.cons (j := 12) rfl ?_ ?_
    · refine Ob.free [(37, some 5), (42, some 10)] (by kernel_rfl) (isV (.bool true)) rfl rfl (fun a X hE hL => ?_)
      simp [Seen, slotAt, famV, isV] at hL
      obtain ⟨h37, h42⟩ := hL
      rw [relAt_eq]
      go_simp
      exact ⟨Onto.refl _, rfl⟩
    refine Obs.cons (j := 13) rfl ?_ ?_
    · refine Ob.free [(43, some 11)] (by kernel_rfl) (isV (.bool true)) rfl rfl (fun a X hE hL => ?_)
      simp [Seen, slotAt, famV, isV] at hL
      have h43 := hL
      rw [relAt_eq]
      go_simp
      exact ⟨Onto.refl _, rfl⟩
    refine Obs.cons (j := 14) rfl ?_ ?_
    · refine Ob.guarded [(3, none), (44, some 12)] (by kernel_rfl) (isV (.agg (dfA D))) rfl 12 true 44 rfl rfl (fun a X hE hL => ?_)
      simp [Seen, slotAt, famV, isV] at hL
      obtain ⟨h3, h44⟩ := hL
      refine ⟨by simpa using h44, ?_⟩
      clear h44
      rw [relAt_eq]
      have hl := HLD.out X hE
      go_simp
      exact ⟨Onto.refl _, rfl⟩
    refine Obs.cons (j := 15) rfl ?_ ?_
    · refine Ob.guarded [(5, none), (44, some 12)] (by kernel_rfl) (isV (.agg #[.int .i64 p.t, .string p.s])) rfl 12 true 44 rfl rfl (fun a X hE hL => ?_)
      simp [Seen, slotAt, famV, isV] at hL
      obtain ⟨h5, h44⟩ := hL
      refine ⟨by simpa using h44, ?_⟩
      clear h44
      rw [relAt_eq]
      have f0 := keeps hE _ _ c0; have f1 := keeps hE _ _ c1
      go_simp
      exact ⟨Onto.refl _, rfl⟩
    refine Obs.cons (j := 16) rfl ?_ ?_
    · refine Ob.guarded [(45, some 13), (46, some 14), (44, some 12)] (by kernel_rfl) (isV (.bool q)) rfl 12 true 44 rfl rfl (fun a X hE hL => ?_)
      simp [Seen, slotAt, famV, isV] at hL
      obtain ⟨h45, h46, h44⟩ := hL
      refine ⟨by simpa using h44, ?_⟩
      clear h44
      rw [relAt_eq]
      go_simp
      rw [relUpon_enter]
      go_at_call 16
      refine (HMW.out X hE).mono ?_
      rintro e Y ⟨rfl, hY⟩
      exact ⟨_, rfl, hY, rfl⟩
    refine Obs.cons (j := 17) rfl ?_ ?_
    · refine Ob.guarded [(3, none), (44, some 12)] (by kernel_rfl) (isV (.agg (dfA D))) rfl 12 true 44 rfl rfl (fun a X hE hL => ?_)
      simp [Seen, slotAt, famV, isV] at hL
      obtain ⟨h3, h44⟩ := hL
      refine ⟨by simpa using h44, ?_⟩
      clear h44
      rw [relAt_eq]
      have hl := HLD.out X hE
      go_simp
      exact ⟨Onto.refl _, rfl⟩
    refine Obs.cons (j := 18) rfl ?_ ?_
    · refine Ob.guarded [(5, none), (44, some 12)] (by kernel_rfl) (isV (.agg #[.int .i64 p.t, .string p.s])) rfl 12 true 44 rfl rfl (fun a X hE hL => ?_)
      simp [Seen, slotAt, famV, isV] at hL
      obtain ⟨h5, h44⟩ := hL
      refine ⟨by simpa using h44, ?_⟩
      clear h44
      rw [relAt_eq]
      have f0 := keeps hE _ _ c0; have f1 := keeps hE _ _ c1
      go_simp
      exact ⟨Onto.refl _, rfl⟩
    refine Obs.cons (j := 19) rfl ?_ ?_
    · refine Ob.guarded [(48, some 16), (49, some 17), (44, some 12)] (by kernel_rfl) (isV (.bool q)) rfl 12 true 44 rfl rfl (fun a X hE hL => ?_)
      simp [Seen, slotAt, famV, isV] at hL
      obtain ⟨h48, h49, h44⟩ := hL
      refine ⟨by simpa using h44, ?_⟩
      clear h44
      rw [relAt_eq]
      go_simp
      rw [relUpon_enter]
      go_at_call 17
      refine (HRW.out X hE).mono ?_
      rintro e Y ⟨rfl, hY⟩
      exact ⟨_, rfl, hY, rfl⟩
    refine Obs.cons (j := 20) rfl ?_ ?_
    · refine Ob.guarded [(47, some 15), (50, some 18), (44, some 12)] (by kernel_rfl) (isV (.bool true)) rfl 12 true 44 rfl rfl (fun a X hE hL => ?_)
      simp [Seen, slotAt, famV, isV] at hL
      obtain ⟨h47, h50, h44⟩ := hL
      refine ⟨by simpa using h44, ?_⟩
      clear h44
      rw [relAt_eq]
      go_simp
      exact ⟨Onto.refl _, rfl⟩
    refine Obs.cons (j := 21) rfl ?_ ?_
    · refine Ob.free [(44, some 12), (51, some 19)] (by kernel_rfl) (isV (.bool true)) rfl rfl (fun a X hE hL => ?_)
      simp [Seen, slotAt, famV, isV] at hL
      obtain ⟨h44, h51⟩ := hL
      rw [relAt_eq]
      go_simp
      exact ⟨Onto.refl _, rfl⟩
    refine Obs.cons (j := 22) rfl ?_ ?_
    · refine Ob.free [(52, some 20)] (by kernel_rfl) (isV (.bool true)) rfl rfl (fun a X hE hL => ?_)
      simp [Seen, slotAt, famV, isV] at hL
      have h52 := hL
      rw [relAt_eq]
      go_simp
      exact ⟨Onto.refl _, rfl⟩
    refine Obs.cons (j := 23) rfl ?_ ?_
    · refine Ob.guarded [(53, some 21)] (by kernel_rfl) (isV (.bool true)) rfl 21 true 53 rfl rfl (fun a X hE hL => ?_)
      simp [Seen, slotAt, famV, isV] at hL
      have h53 := hL
      refine ⟨by simpa using h53, ?_⟩
      clear h53
      rw [relAt_eq]
      go_simp
      rw [relUpon_enter]
      go_at_call 8
      refine (HKN.out X hE).mono ?_
      rintro e Y ⟨rfl, hY⟩
      exact ⟨_, rfl, hY, rfl⟩
    refine Obs.cons (j := 24) rfl ?_ ?_
    · refine Ob.free [(53, some 21), (54, some 22)] (by kernel_rfl) (isV (.bool true)) rfl rfl (fun a X hE hL => ?_)
      simp [Seen, slotAt, famV, isV] at hL
      obtain ⟨h53, h54⟩ := hL
      rw [relAt_eq]
      go_simp
      exact ⟨Onto.refl _, rfl⟩
    refine Obs.cons (j := 25) rfl ?_ ?_
    · refine Ob.free [(55, some 23)] (by kernel_rfl) (isV (.bool true)) rfl rfl (fun a X hE hL => ?_)
      simp [Seen, slotAt, famV, isV] at hL
      have h55 := hL
      rw [relAt_eq]
      go_simp
      exact ⟨Onto.refl _, rfl⟩
    exact trivial
  case q =>
    intro x wq hE hV
    simp [AllV, famV, isV] at hV
    obtain ⟨-, -, -, -, -, -, -, -, -, -, -, -, -, -, -, -, -, -, -, -, -, -, -, -, h6⟩ := hV
    simp only [puts, Act.put, List.setIfInBounds_toArray, List.set_cons_zero, List.set_cons_succ, h6]
    generalize x 32 = y32
    generalize x 33 = y33
    generalize x 34 = y34
    generalize x 35 = y35
    generalize x 36 = y36
    generalize x 37 = y37
    generalize x 38 = y38
    generalize x 39 = y39
    generalize x 40 = y40
    generalize x 41 = y41
    generalize x 42 = y42
    generalize x 43 = y43
    generalize x 44 = y44
    generalize x 45 = y45
    generalize x 46 = y46
    generalize x 47 = y47
    generalize x 48 = y48
    generalize x 49 = y49
    generalize x 50 = y50
    generalize x 51 = y51
    generalize x 52 = y52
    generalize x 53 = y53
    generalize x 54 = y54
    generalize x 55 = y55
    clear h6
    have HBQ := Lib.hid (hX3 wq hE)
    clear hE
    go_wp2
    go_ret
    exact ⟨rfl, by first | exact HBQ.out | (rw [HG.out]; exact HBQ.out)⟩
end Go.Proofs.YtenijacffcdnaaaDoor
