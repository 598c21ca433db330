/- Several texts in one: Runs, SameM, OpenDfa. -/
import Derived.Test.YtmkgipoljbiocaaTw10
import Derived.Test.YtmkgipoljbiocaaTw1
import Derived.Test.YtmkgipoljbiocaaTw3
import Derived.Test.YtmkgipoljbiocaaTw5
import Derived.Test.YtmkgipoljbiocaaTw2
/- The law of where a machine goes. -/
namespace Go.Proofs.Ytmkgipoljbiocaa
open Go.RowKit Go.Sort Go.PlainAid
set_option linter.unusedVariables false
set_option linter.unusedSimpArgs false

attribute [local go_sem ↓] loadA_eq storeA_eq loadD_eq
set_option maxHeartbeats 4000000 in
set_option maxRecDepth 100000 in
theorem lawRuns_any (w : World) (D : Df) (M : MS) (z : Int) (b : Nat) (s : ByteArray) (hb : b < 256) (h : MAt w D M) (hC : ∀ i, i < 256 → M.cl i < 256) :
    Calls Try.prog 6 #[.agg (dfA D), .int .i64 z, .int .u8 (b : Int), .string s] w fun e w' => e = .returned (.bool true) ∧ Below w.heap.size w w' := by
  have HM := Lib.hid h
  have HCC := Lib.hid hC
  have hnm := h.nx.len.2
  obtain ⟨g, hg⟩ : ∃ g, w.heap.size = g := ⟨_, rfl⟩
  have HG := Lib.hid hg
  obtain ⟨W1, hW1, hs1, hb1, hd1⟩ := box_dfa hg D
  have HSM := Lib.hid (small_any W1 D M (h.below (by rw [hg]; exact hb1)))
  have HK := Lib.hid fun X (hX : Below g w X) => knows_any X
  have HW1 := Lib.hid hW1
  have HB1 := Lib.hid hb1
  have HS1 := Lib.hid hs1
  have HD1 := Lib.hid hd1
  have hld := run_loadD W1 g D hd1
  have d257 := hd1.nx
  rw [hW1] at hld HSM d257
  clear h hC hW1 hs1 hb1 hd1
  go_enter Try.func6, Try.ntmps6
  go_wp2_with fail
  refine HSM.out.mono ?_
  rintro e w2 ⟨⟨bb, rfl⟩, hb2⟩
  have hb2' : Below W1.heap.size W1 w2 := by rw [← HW1.out] at hb2; exact hb2
  have HB2 : Hid (Below g w w2) := Lib.hid (HB1.out.trans (hb2'.mono (by have := HS1.out; omega)))
  have HB12 := Lib.hid hb2'
  have HD2 := Lib.hid (HD1.out.below hb2' HD1.out.lt)
  have hgl : g + 1 ≤ w2.heap.size := HD2.out.lt
  have e257 := HD2.out.nx
  have hld2 := run_loadD w2 g D HD2.out
  have HK2 := Lib.hid (HK.out w2 HB2.out)
  clear hb2 hb2' hld d257
  have HFN : ∀ e w3, (e = Ending.returned (.bool true) ∧ Below w2.heap.size w2 w3) → Below g w w3 := fun e w3 hh => HB2.out.trans (hh.2.mono (by omega))
  cases bb with
  | false =>
    go_wp2_with fail
    refine HK2.out.mono ?_
    rintro e w3 hh
    have HB3 := Lib.hid (HFN e w3 hh)
    obtain ⟨rfl, _⟩ := hh
    go_wp2
    go_ret
    exact ⟨rfl, by first | exact HB3.out | (rw [HG.out]; exact HB3.out)⟩
  | true =>
  by_cases hs60 : 60 < s.size
  · have z2 : (60 : Int) < (s.size : Int) := by omega
    go_wp2_with fail
    refine HK2.out.mono ?_
    rintro e w3 hh
    have HB3 := Lib.hid (HFN e w3 hh)
    obtain ⟨rfl, _⟩ := hh
    go_wp2
    go_ret
    exact ⟨rfl, by first | exact HB3.out | (rw [HG.out]; exact HB3.out)⟩
  have z2 : ¬ (60 : Int) < (s.size : Int) := by omega
  have HWX : ∀ X, Onto w2.drew X → Below w.heap.size w X := fun X hX => by rw [HG.out]; exact HB2.out.trans ((onto_drew hX).mono (by omega))
  have C1 : Hid (∀ X, Onto w2.drew X → Calls Try.prog 12 #[.agg (dfA D)] X fun e w' => e = .returned (.bool (rightM M)) ∧ Below X.heap.size X w') := Lib.hid fun X hX => dright_any X D M (HM.out.below (HWX X hX)) HCC.out
  have C2 : Hid (∀ X, Onto w2.drew X → Calls Try.prog 19 #[.agg (dfA D)] X fun e w' => e = .returned (.bool (rightM M)) ∧ Below X.heap.size X w') := Lib.hid fun X hX => rdright_any X D M (HM.out.below (HWX X hX)) HCC.out
  have C3 : Hid (∀ X, Onto w2.drew X → Calls Try.prog 20 #[.agg (dfA D), .int .i64 z, .int .u8 (b : Int)] X fun e w' => e = .returned (.int .i64 (goQ M z b)) ∧ Below X.heap.size X w') := Lib.hid fun X hX => dgo_any X D M z b hb (HM.out.below (HWX X hX)) HCC.out
  have C4 : Hid (∀ X, Onto w2.drew X → Calls Try.prog 21 #[.agg (dfA D), .int .i64 z, .int .u8 (b : Int)] X fun e w' => e = .returned (.int .i64 (goQ M z b)) ∧ Below X.heap.size X w') := Lib.hid fun X hX => rgo_any X D M z b hb (HM.out.below (HWX X hX)) HCC.out
  have C5 : Hid (∀ X, Onto w2.drew X → Calls Try.prog 16 #[.agg (dfA D), .string s] X fun e w' => e = .returned (.int .i64 (runM M (LS s))) ∧ Below X.heap.size X w') := Lib.hid fun X hX => drun_any X D M s (HM.out.below (HWX X hX)) HCC.out (by omega)
  have C6 : Hid (∀ X, Onto w2.drew X → Calls Try.prog 22 #[.agg (dfA D), .string s] X fun e w' => e = .returned (.int .i64 (runM M (LS s))) ∧ Below X.heap.size X w') := Lib.hid fun X hX => rrun_any X D M s (HM.out.below (HWX X hX)) HCC.out (by omega)
  have C7 : Hid (∀ X, Onto w2.drew X → Calls Try.prog 17 #[.agg (dfA D), .int .i64 z] X fun e w' => e = .returned (.int .i64 (labM M z)) ∧ Below X.heap.size X w') := Lib.hid fun X hX => dlabel_any X D M z (HM.out.below (HWX X hX)) HCC.out
  have C8 : Hid (∀ X, Onto w2.drew X → Calls Try.prog 23 #[.agg (dfA D), .int .i64 z] X fun e w' => e = .returned (.int .i64 (labM M z)) ∧ Below X.heap.size X w') := Lib.hid fun X hX => rlabel_any X D M z (HM.out.below (HWX X hX)) HCC.out
  have C9 : Hid (∀ X, Onto w2.drew X → Calls Try.prog 8 #[] X fun e w' => e = .returned (.bool true) ∧ Below X.heap.size X w') := Lib.hid fun X hX => knows_any X
  obtain ⟨q, hq⟩ : ∃ q, rightM M = q := ⟨_, rfl⟩
  obtain ⟨x1, hx1⟩ : ∃ q, goQ M z b = q := ⟨_, rfl⟩
  obtain ⟨x2, hx2⟩ : ∃ q, runM M (LS s) = q := ⟨_, rfl⟩
  obtain ⟨x3, hx3⟩ : ∃ q, labM M z = q := ⟨_, rfl⟩
  rw [hq] at C1 C2
  rw [hx1] at C3 C4
  rw [hx2] at C5 C6
  rw [hx3] at C7 C8
  clear hq hx1 hx2 hx3 HWX hld2 e257 HK2 HFN
  go_wp2_with fail
  refine wp_region_fam_lit (E := Onto)
    [isV (.agg (dfA D)),
     isV (.bool q),
     isV (.agg (dfA D)),
     isV (.bool q),
     isV (.bool true),
     isV (.bool true),
     isV (.agg (dfA D)),
     isV (.int .i64 z),
     isV (.int .u8 (b : Int)),
     isV (.int .i64 x1),
     isV (.agg (dfA D)),
     isV (.int .i64 z),
     isV (.int .u8 (b : Int)),
     isV (.int .i64 x1),
     isV (.bool true),
     isV (.bool true),
     isV (.bool true),
     isV (.agg (dfA D)),
     isV (.string s),
     isV (.int .i64 x2),
     isV (.agg (dfA D)),
     isV (.string s),
     isV (.int .i64 x2),
     isV (.bool true),
     isV (.bool true),
     isV (.bool true),
     isV (.agg (dfA D)),
     isV (.int .i64 z),
     isV (.int .i64 x3),
     isV (.agg (dfA D)),
     isV (.int .i64 z),
     isV (.int .i64 x3),
     isV (.bool true),
     isV (.bool true),
     isV (.bool true),
     isV (.bool true),
     isV (.bool true),
     isV (.bool true)]
    [some 18, some 19, some 20, some 21, some 22, some 23, some 24, some 25, some 26, some 27, some 28, some 29, some 30, some 31, some 32, some 33, some 34, some 35, some 36, some 37, some 38, some 39, some 40, some 41, some 42, some 43, some 44, some 45, some 46, some 47, some 48, some 49, some 50, some 51, some 52, some 53, some 54, some 8] (by kernel_rfl) rfl (by kernel_rfl) rfl Onto.trans Onto.refl ?monoS ?obS ?qS
  case monoS => exact ⟨isV_mono _ _, isV_mono _ _, isV_mono _ _, isV_mono _ _, isV_mono _ _, isV_mono _ _, isV_mono _ _, isV_mono _ _, isV_mono _ _, isV_mono _ _, isV_mono _ _, isV_mono _ _, isV_mono _ _, isV_mono _ _, isV_mono _ _, isV_mono _ _, isV_mono _ _, isV_mono _ _, isV_mono _ _, isV_mono _ _, isV_mono _ _, isV_mono _ _, isV_mono _ _, isV_mono _ _, isV_mono _ _, isV_mono _ _, isV_mono _ _, isV_mono _ _, isV_mono _ _, isV_mono _ _, isV_mono _ _, isV_mono _ _, isV_mono _ _, isV_mono _ _, isV_mono _ _, isV_mono _ _, isV_mono _ _, isV_mono _ _, trivial⟩
  case obS =>
    refine Obs.cons (j := 1) rfl ?_ ?_
    · refine Ob.free [(4, none)] (by kernel_rfl) (isV (.agg (dfA D))) rfl rfl (fun a X hE hL => ?_)
      simp [Seen, slotAt] at hL
      have h4 := hL
      rw [relAt_eq]
      have hld := run_loadD X g D (HD2.out.below (onto_drew hE) HD2.out.lt)
      go_simp
      exact ⟨Onto.refl _, rfl⟩
    refine Obs.cons (j := 2) rfl ?_ ?_
    · refine Ob.free [(18, some 0)] (by kernel_rfl) (isV (.bool q)) rfl rfl (fun a X hE hL => ?_)
      simp [Seen, slotAt, famV, isV] at hL
      have h18 := hL
      rw [relAt_eq]
      go_simp
      rw [relUpon_enter]
      go_at_call 12
      refine (C1.out X hE).mono ?_
      rintro e Y ⟨rfl, hY⟩
      exact ⟨_, rfl, hY, rfl⟩
    refine Obs.cons (j := 3) rfl ?_ ?_
    · refine Ob.free [(4, none)] (by kernel_rfl) (isV (.agg (dfA D))) rfl rfl (fun a X hE hL => ?_)
      simp [Seen, slotAt] at hL
      have h4 := hL
      rw [relAt_eq]
      have hld := run_loadD X g D (HD2.out.below (onto_drew hE) HD2.out.lt)
      go_simp
      exact ⟨Onto.refl _, rfl⟩
    refine Obs.cons (j := 4) rfl ?_ ?_
    · refine Ob.free [(20, some 2)] (by kernel_rfl) (isV (.bool q)) rfl rfl (fun a X hE hL => ?_)
      simp [Seen, slotAt, famV, isV] at hL
      have h20 := hL
      rw [relAt_eq]
      go_simp
      rw [relUpon_enter]
      go_at_call 19
      refine (C2.out X hE).mono ?_
      rintro e Y ⟨rfl, hY⟩
      exact ⟨_, rfl, hY, rfl⟩
    refine Obs.cons (j := 5) rfl ?_ ?_
    · refine Ob.free [(19, some 1), (21, some 3)] (by kernel_rfl) (isV (.bool true)) rfl rfl (fun a X hE hL => ?_)
      simp [Seen, slotAt, famV, isV] at hL
      obtain ⟨h19, h21⟩ := hL
      rw [relAt_eq]
      go_simp
      first | exact ⟨Onto.refl _, rfl⟩ | exact ⟨Onto.refl _, by simp [isV]⟩
    refine Obs.cons (j := 6) rfl ?_ ?_
    · refine Ob.free [(22, some 4)] (by kernel_rfl) (isV (.bool true)) rfl rfl (fun a X hE hL => ?_)
      simp [Seen, slotAt, famV, isV] at hL
      have h22 := hL
      rw [relAt_eq]
      go_simp
      exact ⟨Onto.refl _, rfl⟩
    refine Obs.cons (j := 7) rfl ?_ ?_
    · refine Ob.guarded [(4, none), (23, some 5)] (by kernel_rfl) (isV (.agg (dfA D))) rfl 5 true 23 rfl rfl (fun a X hE hL => ?_)
      simp [Seen, slotAt, famV, isV] at hL
      obtain ⟨h4, h23⟩ := hL
      refine ⟨by simpa using h23, ?_⟩
      clear h23
      rw [relAt_eq]
      have hld := run_loadD X g D (HD2.out.below (onto_drew hE) HD2.out.lt)
      go_simp
      exact ⟨Onto.refl _, rfl⟩
    refine Obs.cons (j := 8) rfl ?_ ?_
    · refine Ob.guarded [(1, none), (23, some 5)] (by kernel_rfl) (isV (.int .i64 z)) rfl 5 true 23 rfl rfl (fun a X hE hL => ?_)
      simp [Seen, slotAt, famV, isV] at hL
      obtain ⟨h1, h23⟩ := hL
      refine ⟨by simpa using h23, ?_⟩
      clear h23
      rw [relAt_eq]
      go_simp
      exact ⟨Onto.refl _, rfl⟩
    refine Obs.cons (j := 9) rfl ?_ ?_
    · refine Ob.guarded [(2, none), (23, some 5)] (by kernel_rfl) (isV (.int .u8 (b : Int))) rfl 5 true 23 rfl rfl (fun a X hE hL => ?_)
      simp [Seen, slotAt, famV, isV] at hL
      obtain ⟨h2, h23⟩ := hL
      refine ⟨by simpa using h23, ?_⟩
      clear h23
      rw [relAt_eq]
      go_simp
      exact ⟨Onto.refl _, rfl⟩
    refine Obs.cons (j := 10) rfl ?_ ?_
    · refine Ob.guarded [(24, some 6), (25, some 7), (26, some 8), (23, some 5)] (by kernel_rfl) (isV (.int .i64 x1)) rfl 5 true 23 rfl rfl (fun a X hE hL => ?_)
      simp [Seen, slotAt, famV, isV] at hL
      obtain ⟨h24, h25, h26, h23⟩ := hL
      refine ⟨by simpa using h23, ?_⟩
      clear h23
      rw [relAt_eq]
      go_simp
      rw [relUpon_enter]
      go_at_call 20
      refine (C3.out X hE).mono ?_
      rintro e Y ⟨rfl, hY⟩
      exact ⟨_, rfl, hY, rfl⟩
    refine Obs.cons (j := 11) rfl ?_ ?_
    · refine Ob.guarded [(4, none), (23, some 5)] (by kernel_rfl) (isV (.agg (dfA D))) rfl 5 true 23 rfl rfl (fun a X hE hL => ?_)
      simp [Seen, slotAt, famV, isV] at hL
      obtain ⟨h4, h23⟩ := hL
      refine ⟨by simpa using h23, ?_⟩
      clear h23
      rw [relAt_eq]
      have hld := run_loadD X g D (HD2.out.below (onto_drew hE) HD2.out.lt)
      go_simp
      exact ⟨Onto.refl _, rfl⟩
    refine Obs.cons (j := 12) rfl ?_ ?_
    · refine Ob.guarded [(1, none), (23, some 5)] (by kernel_rfl) (isV (.int .i64 z)) rfl 5 true 23 rfl rfl (fun a X hE hL => ?_)
      simp [Seen, slotAt, famV, isV] at hL
      obtain ⟨h1, h23⟩ := hL
      refine ⟨by simpa using h23, ?_⟩
      clear h23
      rw [relAt_eq]
      go_simp
      exact ⟨Onto.refl _, rfl⟩
    refine Obs.cons (j := 13) rfl ?_ ?_
    · refine Ob.guarded [(2, none), (23, some 5)] (by kernel_rfl) (isV (.int .u8 (b : Int))) rfl 5 true 23 rfl rfl (fun a X hE hL => ?_)
      simp [Seen, slotAt, famV, isV] at hL
      obtain ⟨h2, h23⟩ := hL
      refine ⟨by simpa using h23, ?_⟩
      clear h23
      rw [relAt_eq]
      go_simp
      exact ⟨Onto.refl _, rfl⟩
    refine Obs.cons (j := 14) rfl ?_ ?_
    · refine Ob.guarded [(28, some 10), (29, some 11), (30, some 12), (23, some 5)] (by kernel_rfl) (isV (.int .i64 x1)) rfl 5 true 23 rfl rfl (fun a X hE hL => ?_)
      simp [Seen, slotAt, famV, isV] at hL
      obtain ⟨h28, h29, h30, h23⟩ := hL
      refine ⟨by simpa using h23, ?_⟩
      clear h23
      rw [relAt_eq]
      go_simp
      rw [relUpon_enter]
      go_at_call 21
      refine (C4.out X hE).mono ?_
      rintro e Y ⟨rfl, hY⟩
      exact ⟨_, rfl, hY, rfl⟩
    refine Obs.cons (j := 15) rfl ?_ ?_
    · refine Ob.guarded [(27, some 9), (31, some 13), (23, some 5)] (by kernel_rfl) (isV (.bool true)) rfl 5 true 23 rfl rfl (fun a X hE hL => ?_)
      simp [Seen, slotAt, famV, isV] at hL
      obtain ⟨h27, h31, h23⟩ := hL
      refine ⟨by simpa using h23, ?_⟩
      clear h23
      rw [relAt_eq]
      go_simp
      first | exact ⟨Onto.refl _, rfl⟩ | exact ⟨Onto.refl _, by simp [isV]⟩
    refine Obs.cons (j := 16) rfl ?_ ?_
    · refine Ob.free [(23, some 5), (32, some 14)] (by kernel_rfl) (isV (.bool true)) rfl rfl (fun a X hE hL => ?_)
      simp [Seen, slotAt, famV, isV] at hL
      obtain ⟨h23, h32⟩ := hL
      rw [relAt_eq]
      go_simp
      exact ⟨Onto.refl _, rfl⟩
    refine Obs.cons (j := 17) rfl ?_ ?_
    · refine Ob.free [(33, some 15)] (by kernel_rfl) (isV (.bool true)) rfl rfl (fun a X hE hL => ?_)
      simp [Seen, slotAt, famV, isV] at hL
      have h33 := hL
      rw [relAt_eq]
      go_simp
      exact ⟨Onto.refl _, rfl⟩
    refine Obs.cons (j := 18) rfl ?_ ?_
    · refine Ob.guarded [(4, none), (34, some 16)] (by kernel_rfl) (isV (.agg (dfA D))) rfl 16 true 34 rfl rfl (fun a X hE hL => ?_)
      simp [Seen, slotAt, famV, isV] at hL
      obtain ⟨h4, h34⟩ := hL
      refine ⟨by simpa using h34, ?_⟩
      clear h34
      rw [relAt_eq]
      have hld := run_loadD X g D (HD2.out.below (onto_drew hE) HD2.out.lt)
      go_simp
      exact ⟨Onto.refl _, rfl⟩
    refine Obs.cons (j := 19) rfl ?_ ?_
    · refine Ob.guarded [(3, none), (34, some 16)] (by kernel_rfl) (isV (.string s)) rfl 16 true 34 rfl rfl (fun a X hE hL => ?_)
      simp [Seen, slotAt, famV, isV] at hL
      obtain ⟨h3, h34⟩ := hL
      refine ⟨by simpa using h34, ?_⟩
      clear h34
      rw [relAt_eq]
      go_simp
      exact ⟨Onto.refl _, rfl⟩
    refine Obs.cons (j := 20) rfl ?_ ?_
    · refine Ob.guarded [(35, some 17), (36, some 18), (34, some 16)] (by kernel_rfl) (isV (.int .i64 x2)) rfl 16 true 34 rfl rfl (fun a X hE hL => ?_)
      simp [Seen, slotAt, famV, isV] at hL
      obtain ⟨h35, h36, h34⟩ := hL
      refine ⟨by simpa using h34, ?_⟩
      clear h34
      rw [relAt_eq]
      go_simp
      rw [relUpon_enter]
      go_at_call 16
      refine (C5.out X hE).mono ?_
      rintro e Y ⟨rfl, hY⟩
      exact ⟨_, rfl, hY, rfl⟩
    refine Obs.cons (j := 21) rfl ?_ ?_
    · refine Ob.guarded [(4, none), (34, some 16)] (by kernel_rfl) (isV (.agg (dfA D))) rfl 16 true 34 rfl rfl (fun a X hE hL => ?_)
      simp [Seen, slotAt, famV, isV] at hL
      obtain ⟨h4, h34⟩ := hL
      refine ⟨by simpa using h34, ?_⟩
      clear h34
      rw [relAt_eq]
      have hld := run_loadD X g D (HD2.out.below (onto_drew hE) HD2.out.lt)
      go_simp
      exact ⟨Onto.refl _, rfl⟩
    refine Obs.cons (j := 22) rfl ?_ ?_
    · refine Ob.guarded [(3, none), (34, some 16)] (by kernel_rfl) (isV (.string s)) rfl 16 true 34 rfl rfl (fun a X hE hL => ?_)
      simp [Seen, slotAt, famV, isV] at hL
      obtain ⟨h3, h34⟩ := hL
      refine ⟨by simpa using h34, ?_⟩
      clear h34
      rw [relAt_eq]
      go_simp
      exact ⟨Onto.refl _, rfl⟩
    refine Obs.cons (j := 23) rfl ?_ ?_
    · refine Ob.guarded [(38, some 20), (39, some 21), (34, some 16)] (by kernel_rfl) (isV (.int .i64 x2)) rfl 16 true 34 rfl rfl (fun a X hE hL => ?_)
      simp [Seen, slotAt, famV, isV] at hL
      obtain ⟨h38, h39, h34⟩ := hL
      refine ⟨by simpa using h34, ?_⟩
      clear h34
      rw [relAt_eq]
      go_simp
      rw [relUpon_enter]
      go_at_call 22
      refine (C6.out X hE).mono ?_
      rintro e Y ⟨rfl, hY⟩
      exact ⟨_, rfl, hY, rfl⟩
    refine Obs.cons (j := 24) rfl ?_ ?_
    · refine Ob.guarded [(37, some 19), (40, some 22), (34, some 16)] (by kernel_rfl) (isV (.bool true)) rfl 16 true 34 rfl rfl (fun a X hE hL => ?_)
      simp [Seen, slotAt, famV, isV] at hL
      obtain ⟨h37, h40, h34⟩ := hL
      refine ⟨by simpa using h34, ?_⟩
      clear h34
      rw [relAt_eq]
      go_simp
      first | exact ⟨Onto.refl _, rfl⟩ | exact ⟨Onto.refl _, by simp [isV]⟩
    refine Obs.cons (j := 25) rfl ?_ ?_
    · refine Ob.free [(34, some 16), (41, some 23)] (by kernel_rfl) (isV (.bool true)) rfl rfl (fun a X hE hL => ?_)
      simp [Seen, slotAt, famV, isV] at hL
      obtain ⟨h34, h41⟩ := hL
      rw [relAt_eq]
      go_simp
      exact ⟨Onto.refl _, rfl⟩
    refine Obs.cons (j := 26) rfl ?_ ?_
    · refine Ob.free [(42, some 24)] (by kernel_rfl) (isV (.bool true)) rfl rfl (fun a X hE hL => ?_)
      simp [Seen, slotAt, famV, isV] at hL
      have h42 := hL
      rw [relAt_eq]
      go_simp
      exact ⟨Onto.refl _, rfl⟩
    refine Obs.cons (j := 27) rfl ?_ ?_
    · refine Ob.guarded [(4, none), (43, some 25)] (by kernel_rfl) (isV (.agg (dfA D))) rfl 25 true 43 rfl rfl (fun a X hE hL => ?_)
      simp [Seen, slotAt, famV, isV] at hL
      obtain ⟨h4, h43⟩ := hL
      refine ⟨by simpa using h43, ?_⟩
      clear h43
      rw [relAt_eq]
      have hld := run_loadD X g D (HD2.out.below (onto_drew hE) HD2.out.lt)
      go_simp
      exact ⟨Onto.refl _, rfl⟩
    refine Obs.cons (j := 28) rfl ?_ ?_
    · refine Ob.guarded [(1, none), (43, some 25)] (by kernel_rfl) (isV (.int .i64 z)) rfl 25 true 43 rfl rfl (fun a X hE hL => ?_)
      simp [Seen, slotAt, famV, isV] at hL
      obtain ⟨h1, h43⟩ := hL
      refine ⟨by simpa using h43, ?_⟩
      clear h43
      rw [relAt_eq]
      go_simp
      exact ⟨Onto.refl _, rfl⟩
    refine Obs.cons (j := 29) rfl ?_ ?_
    · refine Ob.guarded [(44, some 26), (45, some 27), (43, some 25)] (by kernel_rfl) (isV (.int .i64 x3)) rfl 25 true 43 rfl rfl (fun a X hE hL => ?_)
      simp [Seen, slotAt, famV, isV] at hL
      obtain ⟨h44, h45, h43⟩ := hL
      refine ⟨by simpa using h43, ?_⟩
      clear h43
      rw [relAt_eq]
      go_simp
      rw [relUpon_enter]
      go_at_call 17
      refine (C7.out X hE).mono ?_
      rintro e Y ⟨rfl, hY⟩
      exact ⟨_, rfl, hY, rfl⟩
    refine Obs.cons (j := 30) rfl ?_ ?_
    · refine Ob.guarded [(4, none), (43, some 25)] (by kernel_rfl) (isV (.agg (dfA D))) rfl 25 true 43 rfl rfl (fun a X hE hL => ?_)
      simp [Seen, slotAt, famV, isV] at hL
      obtain ⟨h4, h43⟩ := hL
      refine ⟨by simpa using h43, ?_⟩
      clear h43
      rw [relAt_eq]
      have hld := run_loadD X g D (HD2.out.below (onto_drew hE) HD2.out.lt)
      go_simp
      exact ⟨Onto.refl _, rfl⟩
    refine Obs.cons (j := 31) rfl ?_ ?_
    · refine Ob.guarded [(1, none), (43, some 25)] (by kernel_rfl) (isV (.int .i64 z)) rfl 25 true 43 rfl rfl (fun a X hE hL => ?_)
      simp [Seen, slotAt, famV, isV] at hL
      obtain ⟨h1, h43⟩ := hL
      refine ⟨by simpa using h43, ?_⟩
      clear h43
      rw [relAt_eq]
      go_simp
      exact ⟨Onto.refl _, rfl⟩
    refine Obs.cons (j := 32) rfl ?_ ?_
    · refine Ob.guarded [(47, some 29), (48, some 30), (43, some 25)] (by kernel_rfl) (isV (.int .i64 x3)) rfl 25 true 43 rfl rfl (fun a X hE hL => ?_)
      simp [Seen, slotAt, famV, isV] at hL
      obtain ⟨h47, h48, h43⟩ := hL
      refine ⟨by simpa using h43, ?_⟩
      clear h43
      rw [relAt_eq]
      go_simp
      rw [relUpon_enter]
      go_at_call 23
      refine (C8.out X hE).mono ?_
      rintro e Y ⟨rfl, hY⟩
      exact ⟨_, rfl, hY, rfl⟩
    refine Obs.cons (j := 33) rfl ?_ ?_
    · refine Ob.guarded [(46, some 28), (49, some 31), (43, some 25)] (by kernel_rfl) (isV (.bool true)) rfl 25 true 43 rfl rfl (fun a X hE hL => ?_)
      simp [Seen, slotAt, famV, isV] at hL
      obtain ⟨h46, h49, h43⟩ := hL
      refine ⟨by simpa using h43, ?_⟩
      clear h43
      rw [relAt_eq]
      go_simp
      first | exact ⟨Onto.refl _, rfl⟩ | exact ⟨Onto.refl _, by simp [isV]⟩
    refine Obs.cons (j := 34) rfl ?_ ?_
    · refine Ob.free [(43, some 25), (50, some 32)] (by kernel_rfl) (isV (.bool true)) rfl rfl (fun a X hE hL => ?_)
      simp [Seen, slotAt, famV, isV] at hL
      obtain ⟨h43, h50⟩ := hL
      rw [relAt_eq]
      go_simp
      exact ⟨Onto.refl _, rfl⟩
    refine Obs.cons (j := 35) rfl ?_ ?_
    · refine Ob.free [(51, some 33)] (by kernel_rfl) (isV (.bool true)) rfl rfl (fun a X hE hL => ?_)
      simp [Seen, slotAt, famV, isV] at hL
      have h51 := hL
      rw [relAt_eq]
      go_simp
      exact ⟨Onto.refl _, rfl⟩
    refine Obs.cons (j := 36) rfl ?_ ?_
    · refine Ob.guarded [(52, some 34)] (by kernel_rfl) (isV (.bool true)) rfl 34 true 52 rfl rfl (fun a X hE hL => ?_)
      simp [Seen, slotAt, famV, isV] at hL
      have h52 := hL
      refine ⟨by simpa using h52, ?_⟩
      clear h52
      rw [relAt_eq]
      go_simp
      rw [relUpon_enter]
      go_at_call 8
      refine (C9.out X hE).mono ?_
      rintro e Y ⟨rfl, hY⟩
      exact ⟨_, rfl, hY, rfl⟩
    refine Obs.cons (j := 37) rfl ?_ ?_
    · refine Ob.free [(52, some 34), (53, some 35)] (by kernel_rfl) (isV (.bool true)) rfl rfl (fun a X hE hL => ?_)
      simp [Seen, slotAt, famV, isV] at hL
      obtain ⟨h52, h53⟩ := hL
      rw [relAt_eq]
      go_simp
      exact ⟨Onto.refl _, rfl⟩
    refine Obs.cons (j := 38) rfl ?_ ?_
    · refine Ob.free [(54, some 36)] (by kernel_rfl) (isV (.bool true)) rfl rfl (fun a X hE hL => ?_)
      simp [Seen, slotAt, famV, isV] at hL
      have h54 := hL
      rw [relAt_eq]
      go_simp
      exact ⟨Onto.refl _, rfl⟩
    exact trivial
  case qS =>
    intro x w9 hE hV
    simp [AllV, famV, isV] at hV
    obtain ⟨-, -, -, -, -, -, -, -, -, -, -, -, -, -, -, -, -, -, -, -, -, -, -, -, -, -, -, -, -, -, -, -, -, -, -, -, -, h8⟩ := hV
    simp only [puts, Act.put, List.setIfInBounds_toArray, List.set_cons_zero, List.set_cons_succ, h8]
    generalize x 18 = y18
    generalize x 19 = y19
    generalize x 20 = y20
    generalize x 21 = y21
    generalize x 22 = y22
    generalize x 23 = y23
    generalize x 24 = y24
    generalize x 25 = y25
    generalize x 26 = y26
    generalize x 27 = y27
    generalize x 28 = y28
    generalize x 29 = y29
    generalize x 30 = y30
    generalize x 31 = y31
    generalize x 32 = y32
    generalize x 33 = y33
    generalize x 34 = y34
    generalize x 35 = y35
    generalize x 36 = y36
    generalize x 37 = y37
    generalize x 38 = y38
    generalize x 39 = y39
    generalize x 40 = y40
    generalize x 41 = y41
    generalize x 42 = y42
    generalize x 43 = y43
    generalize x 44 = y44
    generalize x 45 = y45
    generalize x 46 = y46
    generalize x 47 = y47
    generalize x 48 = y48
    generalize x 49 = y49
    generalize x 50 = y50
    generalize x 51 = y51
    generalize x 52 = y52
    generalize x 53 = y53
    generalize x 54 = y54
    clear h8
    have hbt := onto_drew hE
    have HBN : Hid (Below g w w9) := Lib.hid (HB2.out.trans (hbt.mono (by omega)))
    clear hE hbt
    go_wp2
    go_ret
    exact ⟨rfl, by first | exact HBN.out | (rw [HG.out]; exact HBN.out)⟩
end Go.Proofs.Ytmkgipoljbiocaa
/- Two machines held against each other. -/
namespace Go.Proofs.Ytmkgipoljbiocaa
open Go.RowKit
set_option linter.unusedVariables false
set_option linter.unusedSimpArgs false
attribute [local go_sem ↓] loadA_eq storeA_eq loadD_eq eqA_eq eqA_eq'
set_option maxHeartbeats 4000000 in
set_option maxRecDepth 100000 in
/-- Two that lie apart and are the same. -/
theorem rsameM_any (w : World) (D E : Df) (M : MS) (h : MAt w D M) (h' : MAt w E M) (hC : ∀ i, i < 256 → M.cl i < 256) :
    Calls Try.prog 11 #[.agg (dfA D), .agg (dfA E)] w fun e w' => e = .returned (.bool true) ∧ Below w.heap.size w w' := by
  have HM := Lib.hid h
  have HM' := Lib.hid h'
  have hln := h.nx.len
  have hln' := h'.nx.len
  have HLN := Lib.hid hln.1
  have hnm := hln.2
  have HEQ : Hid ((D.nl : Int) = (E.nl : Int)) := Lib.hid (by rw [← hln.1, ← hln'.1])
  have hwd : D.wd = E.wd := by rw [h.wd, h'.wd]
  obtain ⟨g, hg⟩ : ∃ g, w.heap.size = g := ⟨_, rfl⟩
  have HG := Lib.hid hg
  obtain ⟨W1, hW1, hs1, hb1, hd1⟩ := box_dfa hg D
  obtain ⟨W2, hW2, hs2, hb2, hd2⟩ := box_dfa hs1 E
  have hb12 : Below g w W2 := hb1.trans (hb2.mono (by omega))
  have hd12 := hd1.below hb2 (by omega)
  have HB2 := Lib.hid hb12
  have HD := Lib.hid hd12
  have HE := Lib.hid hd2
  have HS := Lib.hid (rsame_any W2 D.la E.la D.ll E.ll D.lc E.lc M.lb M.lb (h.lb.below (by rw [hg]; exact hb12)) (h'.lb.below (by rw [hg]; exact hb12)))
  have HW2 := Lib.hid hW2
  have hWW := hW2
  rw [hW1] at hWW
  have HWW := Lib.hid hWW
  have c0 := hd12.nx
  have c1 := hd2.nx
  have c2 := hd12.lb
  have c3 := hd2.lb
  have c4 := hd12.wd
  have c5 := hd2.wd
  have hl0 := run_loadAD W2 g D hd12
  have hl1 := run_loadAD W2 (g + 1) E hd2
  rw [h.cl] at hl0
  rw [h'.cl] at hl1
  have heq := fun w => run_eqA_refl M.cl hC w
  rw [hwd] at c4
  have hz0 : (D.nl : Int) = (E.nl : Int) := HEQ.out
  rw [hW2, hW1] at c0 c1 c2 c3 c4 c5 hl0 hl1
  clear h h' hln hln' hWW hW1 hW2 hs1 hs2 hb1 hb2 hb12 hd1 hd2 hd12 hC hwd
  go_enter Try.func11, Try.ntmps11
  go_wp2_with fail
  rw [← HWW.out]
  refine HS.out.mono ?_
  rintro e w2 ⟨rfl, hb2⟩
  have HB3 := Lib.hid (HB2.out.trans (hb2.mono (by have := HB2.out.size; have := HE.out.lt; omega)))
  have HD2 := Lib.hid (HD.out.below hb2 HD.out.lt)
  have HE2 := Lib.hid (HE.out.below hb2 HE.out.lt)
  have hg2 : g + 2 ≤ w2.heap.size := HE2.out.lt
  clear hb2 hl0 hl1 c0 c1 c2 c3 c4 c5
  rw [beq_self_eq_true]
  go_wp2
  go_loopw [5] (fun i wr => ∃ k : Nat, k ≤ D.nl ∧ i = .int .i64 (k : Int) ∧ Below (g + 2) w2 wr) (fun i _ => D.nl - (intOf i).toNat)
  case atStart => exact ⟨0, by omega, rfl, Below.refl _ _⟩
  case round =>
    obtain ⟨k, hk, rfl, hbw⟩ := hrel
    have HBW := Lib.hid hbw
    have HDW := Lib.hid (HD2.out.below hbw (by omega))
    have HEW := Lib.hid (HE2.out.below hbw (by omega))
    have HBT := Lib.hid (HB3.out.trans (hbw.mono (by omega)))
    have c0 := HDW.out.nx
    have hgw : g + 2 ≤ wr.heap.size := HEW.out.lt
    clear hbw
    by_cases hlt : k < D.nl
    case neg =>
      have z1 : ¬ ((k : Int) < (D.nl : Int)) := by omega
      go_wp2
      go_ret
      exact ⟨rfl, by first | exact HBT.out | (rw [HG.out]; exact HBT.out)⟩
    case pos =>
      have z0 : (0 : Int) ≤ (k : Int) := by omega
      have z1 : (k : Int) < (D.nl : Int) := by omega
      have z2 : (k : Int) < (E.nl : Int) := by omega
      have c1 := HEW.out.nx
      obtain ⟨b1, off1, l1, ha1, hbl1, hl1, A1, cc1, d1, hr1⟩ := ((HM.out.below (w' := wr) (by rw [HG.out]; exact HBT.out)).nx).at_ (i := k) (by omega)
      obtain ⟨b2, off2, l2, ha2, hbl2, hl2, A2, cc2, d2, hr2⟩ := ((HM'.out.below (w' := wr) (by rw [HG.out]; exact HBT.out)).nx).at_ (i := k) (by omega)
      obtain rfl := Option.some.inj (hl1.symm.trans hl2)
      rw [ha1] at c0
      rw [ha2] at c1
      have HSI : Hid (∀ X', Onto wr.drew X' → Calls Try.prog 40 #[.slice A1 l1.length cc1, .slice A2 l1.length cc2] X' fun e w' => e = .returned (.bool (l1 == l1)) ∧ Below X'.heap.size X' w') := Lib.hid fun X' hX => rsame_any X' A1 A2 _ _ cc1 cc2 l1 l1 (hr1.below (onto_drew hX)) (hr2.below (onto_drew hX))
      obtain ⟨m, hm⟩ : ∃ m, l1.length = m := ⟨_, rfl⟩
      rw [hm] at d1 d2 HSI
      clear hr1 hr2 hl1 hl2 ha1 ha2 hm
      go_wp2_with fail
      refine wp_region_fam_lit (E := Onto)
        [isV (.pointer (some ⟨g, 257, none⟩)),
         isV (.slice (some ⟨b1, off1, none⟩) D.nl D.nc),
         isV (.int .i64 (k : Int)),
         isV (.pointer (some ⟨b1, off1 + k, none⟩)),
         isV (.slice A1 m cc1),
         isV (.pointer (some ⟨g + 1, 257, none⟩)),
         isV (.slice (some ⟨b2, off2, none⟩) E.nl E.nc),
         isV (.int .i64 (k : Int)),
         isV (.pointer (some ⟨b2, off2 + k, none⟩)),
         isV (.slice A2 m cc2),
         isV (.bool true),
         isV (.bool false)]
        [some 42, some 43, some 44, some 45, some 46, some 47, some 48, some 49, some 50, some 51, some 52, some 53] (by kernel_rfl) rfl (by kernel_rfl) rfl Onto.trans Onto.refl ?monoS ?obS ?qS
      case monoS => exact ⟨isV_mono _ _, isV_mono _ _, isV_mono _ _, isV_mono _ _, isV_mono _ _, isV_mono _ _, isV_mono _ _, isV_mono _ _, isV_mono _ _, isV_mono _ _, isV_mono _ _, isV_mono _ _, trivial⟩
      case obS =>
        refine Obs.cons (j := 1) rfl ?_ ?_
        · refine Ob.free [(2, none)] (by kernel_rfl) (isV (.pointer (some ⟨g, 257, none⟩))) rfl rfl (fun a X hE hL => ?_)
          simp [Seen, slotAt] at hL
          have h2 := hL
          rw [relAt_eq]
          go_simp
          exact ⟨Onto.refl _, rfl⟩
        refine Obs.cons (j := 2) rfl ?_ ?_
        · refine Ob.free [(42, some 0)] (by kernel_rfl) (isV (.slice (some ⟨b1, off1, none⟩) D.nl D.nc)) rfl rfl (fun a X hE hL => ?_)
          simp [Seen, slotAt, famV, isV] at hL
          have h42 := hL
          rw [relAt_eq]
          have f0 := keeps hE _ _ c0
          go_simp
          exact ⟨Onto.refl _, rfl⟩
        refine Obs.cons (j := 3) rfl ?_ ?_
        · refine Ob.free [(5, none)] (by kernel_rfl) (isV (.int .i64 (k : Int))) rfl rfl (fun a X hE hL => ?_)
          simp [Seen, slotAt] at hL
          have h5 := hL
          rw [relAt_eq]
          go_simp
          exact ⟨Onto.refl _, rfl⟩
        refine Obs.cons (j := 4) rfl ?_ ?_
        · refine Ob.free [(43, some 1), (44, some 2)] (by kernel_rfl) (isV (.pointer (some ⟨b1, off1 + k, none⟩))) rfl rfl (fun a X hE hL => ?_)
          simp [Seen, slotAt, famV, isV] at hL
          obtain ⟨h43, h44⟩ := hL
          rw [relAt_eq]
          go_simp
          exact ⟨Onto.refl _, rfl⟩
        refine Obs.cons (j := 5) rfl ?_ ?_
        · refine Ob.free [(45, some 3)] (by kernel_rfl) (isV (.slice A1 m cc1)) rfl rfl (fun a X hE hL => ?_)
          simp [Seen, slotAt, famV, isV] at hL
          have h45 := hL
          rw [relAt_eq]
          have f0 := keeps hE _ _ d1
          go_simp
          exact ⟨Onto.refl _, rfl⟩
        refine Obs.cons (j := 6) rfl ?_ ?_
        · refine Ob.free [(3, none)] (by kernel_rfl) (isV (.pointer (some ⟨g + 1, 257, none⟩))) rfl rfl (fun a X hE hL => ?_)
          simp [Seen, slotAt] at hL
          have h3 := hL
          rw [relAt_eq]
          go_simp
          exact ⟨Onto.refl _, rfl⟩
        refine Obs.cons (j := 7) rfl ?_ ?_
        · refine Ob.free [(47, some 5)] (by kernel_rfl) (isV (.slice (some ⟨b2, off2, none⟩) E.nl E.nc)) rfl rfl (fun a X hE hL => ?_)
          simp [Seen, slotAt, famV, isV] at hL
          have h47 := hL
          rw [relAt_eq]
          have f0 := keeps hE _ _ c1
          go_simp
          exact ⟨Onto.refl _, rfl⟩
        refine Obs.cons (j := 8) rfl ?_ ?_
        · refine Ob.free [(5, none)] (by kernel_rfl) (isV (.int .i64 (k : Int))) rfl rfl (fun a X hE hL => ?_)
          simp [Seen, slotAt] at hL
          have h5 := hL
          rw [relAt_eq]
          go_simp
          exact ⟨Onto.refl _, rfl⟩
        refine Obs.cons (j := 9) rfl ?_ ?_
        · refine Ob.free [(48, some 6), (49, some 7)] (by kernel_rfl) (isV (.pointer (some ⟨b2, off2 + k, none⟩))) rfl rfl (fun a X hE hL => ?_)
          simp [Seen, slotAt, famV, isV] at hL
          obtain ⟨h48, h49⟩ := hL
          rw [relAt_eq]
          go_simp
          exact ⟨Onto.refl _, rfl⟩
        refine Obs.cons (j := 10) rfl ?_ ?_
        · refine Ob.free [(50, some 8)] (by kernel_rfl) (isV (.slice A2 m cc2)) rfl rfl (fun a X hE hL => ?_)
          simp [Seen, slotAt, famV, isV] at hL
          have h50 := hL
          rw [relAt_eq]
          have f0 := keeps hE _ _ d2
          go_simp
          exact ⟨Onto.refl _, rfl⟩
        refine Obs.cons (j := 11) rfl ?_ ?_
        · refine Ob.free [(46, some 4), (51, some 9)] (by kernel_rfl) (isV (.bool true)) rfl rfl (fun a X hE hL => ?_)
          simp [Seen, slotAt, famV, isV] at hL
          obtain ⟨h46, h51⟩ := hL
          rw [relAt_eq]
          go_simp
          rw [relUpon_enter]
          go_at_call 40
          refine (HSI.out X hE).mono ?_
          rintro e Y ⟨rfl, hY⟩
          rw [beq_self_eq_true]
          exact ⟨_, rfl, hY, rfl⟩
        refine Obs.cons (j := 12) rfl ?_ ?_
        · refine Ob.free [(52, some 10)] (by kernel_rfl) (isV (.bool false)) rfl rfl (fun a X hE hL => ?_)
          simp [Seen, slotAt, famV, isV] at hL
          have h52 := hL
          rw [relAt_eq]
          go_simp
          exact ⟨Onto.refl _, rfl⟩
        exact trivial
      case qS =>
        intro x wA hE hV
        simp [AllV, famV, isV] at hV
        obtain ⟨-, -, -, -, -, -, -, -, -, -, -, h53⟩ := hV
        simp only [puts, Act.put, List.setIfInBounds_toArray, List.set_cons_zero, List.set_cons_succ, h53]
        generalize x 42 = y42
        generalize x 43 = y43
        generalize x 44 = y44
        generalize x 45 = y45
        generalize x 46 = y46
        generalize x 47 = y47
        generalize x 48 = y48
        generalize x 49 = y49
        generalize x 50 = y50
        generalize x 51 = y51
        generalize x 52 = y52
        clear h53
        have hbt := onto_drew hE
        have HBN := Lib.hid (HBW.out.trans (hbt.mono hgw))
        clear hE hbt c0 c1 d1 d2 HSI
        go_wp2_with fail
        exact ⟨⟨k + 1, by omega, rfl, HBN.out⟩, by simp only [intOf]; omega⟩
end Go.Proofs.Ytmkgipoljbiocaa
/- A machine, a piece, a list of numbers, and a list of such, that came in, opened. -/
namespace Go.Proofs.Ytmkgipoljbiocaa
open Go.RowKit Go.ChangeShapes Go.WideShapes Go.Deep

theorem okWide_arr {P : Program} {w : World} {r : Reach} {base : Nat} {t : TypeId} {v : Value} {n : Nat} {e : TypeId} (ht : P.underlying t = some (.array n e)) (h : Value.okWide P w r base t v) : ∃ cs, v = .agg cs ∧ cs.size = P.cellsOf t := by
  unfold Value.okWide at h
  simp only [ht] at h
  obtain ⟨cs, rfl, h1, _⟩ := h
  exact ⟨cs, rfl, h1⟩
theorem cellsArr : Try.prog.cellsOf 30 = 256 := by kernel_rfl
theorem cellsU8 : Try.prog.cellsOf 5 = 1 := by kernel_rfl
set_option maxRecDepth 100000 in
theorem arr_open {H : Type} {enc : TypeId × Value → H} {W : World} {fuel : Nat} {cs : Array Value} {x : DataW H × List MemPlace}
    (h : DataW.trod enc Try.prog W 0 (fun _ => true) true fuel 30 cs.toList = some x) : ∃ C : Nat → Nat, cs = arrC C ∧ ∀ i, C i < 256 := by
  obtain ⟨xs, m, rfl, rfl, hl, hx, hi⟩ := DataW.trod_array Try.underlying30 h
  rw [cellsArr] at hl
  rw [cellsU8] at hi
  have hsz : cs.size = 256 := by simpa using hl
  refine arrC_of cs hsz fun i hic => ?_
  have hh := hi i (by omega)
  rw [List.getElem?_eq_getElem (show i < xs.length by omega)] at hh
  obtain ⟨n, e, _, wn⟩ := DataW.trod_int Try.underlying5 hh
  have he : cs[i] = .int .u8 n := by
    have h2 : (List.take 1 (List.drop (i * 1) cs.toList))[0]? = some (.int .u8 n) := by rw [e]; rfl
    rw [List.getElem?_take_of_lt (by omega), List.getElem?_drop] at h2
    simpa [hic] using h2
  have hb := bounds_u8 wn
  exact ⟨n.toNat, by rw [he]; congr 1; omega, by omega⟩
theorem cells_int : Try.prog.cellsOf 3 = 1 := by kernel_rfl
theorem cells_ints : Try.prog.cellsOf 23 = 1 := by kernel_rfl
theorem cells_intss : Try.prog.cellsOf 25 = 1 := by kernel_rfl
theorem cells_dfa : Try.prog.cellsOf 32 = 259 := by kernel_rfl
section
variable {H : Type} {enc : TypeId × Value → H} {W : World} {fuel : Nat}
theorem ints_open {a : Option Addr} {len cap : Nat} {x : DataW H × List MemPlace} (h : DataW.trod enc Try.prog W 0 (fun _ => true) true fuel 23 [.slice a len cap] = some x) : ∃ zs, CRow intC 1 W a len zs := by
  obtain ⟨os, ho, _⟩ := crow_open (C := intC) (G := fun _ => True) Try.underlying23 cells_int (by decide) (fun n cs y hy hl => by
    match cs, hl with
    | [c0], _ =>
      obtain ⟨k, e0, _, _⟩ := DataW.trod_int Try.underlying3 hy
      exact ⟨k, e0, trivial⟩) h
  exact ⟨os, ho⟩
theorem intss_open {a : Option Addr} {len cap : Nat} {x : DataW H × List MemPlace} (h : DataW.trod enc Try.prog W 0 (fun _ => true) true fuel 25 [.slice a len cap] = some x) : ∃ ls, NRow intC 1 W a len ls := by
  obtain ⟨os, ho, hg, _⟩ := crow_open (C := seC (α := Int)) (G := fun o => CRow intC 1 W o.a o.l o.xs) Try.underlying25 cells_ints (by decide) (fun n cs y hy hl => by
    match cs, hl with
    | [c0], _ =>
      obtain ⟨a, l, c, e0⟩ := Joins.slice_form Try.underlying23 hy
      simp at e0
      subst e0
      obtain ⟨zs, hz⟩ := ints_open hy
      exact ⟨⟨a, l, c, zs⟩, rfl, hz⟩) h
  exact ⟨_, os, ho, hg, rfl⟩
theorem at_one {cs : Array Value} {k : Nat} {v : Value} (h : (cs.toList.drop k).take 1 = [v]) : cs[k]? = some v := by
  have h1 := congrArg (fun l => l[0]?) h
  simp only [List.getElem?_cons_zero] at h1
  rw [List.getElem?_take_of_lt (by omega), List.getElem?_drop, Nat.add_zero, Array.getElem?_toList] at h1
  exact h1
set_option maxRecDepth 100000 in
theorem dfa_open {cs : Array Value} {x : DataW H × List MemPlace} (h : DataW.trod enc Try.prog W 0 (fun _ => true) true fuel 32 cs.toList = some x) (hs : cs.size = 259) :
    ∃ (D : Df) (M : MS), cs = dfA D ∧ MAt W D M ∧ ∀ i, M.cl i < 256 := by
  obtain ⟨y0, y1, y2, y3, n, rfl, hl, g0, g1, g2, g3⟩ := Joins.trod_struct4 Try.underlying32 h
  simp only [cellsArr, cells_int, cells_intss, cells_ints] at g0 g1 g2 g3
  obtain ⟨C, hC, hlt⟩ := arr_open (cs := ((cs.toList.drop 0).take 256).toArray) (by simpa using g0)
  obtain ⟨z, e1, _, _⟩ := DataW.trod_int Try.underlying3 g1
  obtain ⟨na, nl, nc, e2⟩ := Joins.slice_form Try.underlying25 g2
  obtain ⟨la, ll, lc, e3⟩ := Joins.slice_form Try.underlying23 g3
  rw [e2] at g2
  rw [e3] at g3
  obtain ⟨ls, hls⟩ := intss_open g2
  obtain ⟨zs, hzs⟩ := ints_open g3
  refine ⟨⟨C, z, na, nl, nc, la, ll, lc⟩, ⟨C, z, ls, zs⟩, dfA_ext hs (fun i hi => ?_) (at_one e1) (at_one e2) (at_one e3), ⟨rfl, rfl, hls, hzs⟩, hlt⟩
  have h1 := congrArg (fun A => A[i]?) hC
  simp only [arrC_at C i hi, List.drop_zero, List.getElem?_toArray] at h1
  rw [List.getElem?_take_of_lt hi, Array.getElem?_toList] at h1
  exact h1
end
end Go.Proofs.Ytmkgipoljbiocaa
