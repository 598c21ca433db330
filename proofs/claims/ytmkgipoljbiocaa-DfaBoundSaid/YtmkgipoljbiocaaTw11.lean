/- Several texts in one: Runs, SameM, BuildP, NetP, Builds, OpenDfa, OpenSets, OpenNet, FuseP, OpenTok. -/
import Derived.Test.YtmkgipoljbiocaaTw10
import Derived.Test.YtmkgipoljbiocaaTw1
import Derived.Test.YtmkgipoljbiocaaTw3
import Derived.Test.YtmkgipoljbiocaaTw5
import Derived.Test.YtmkgipoljbiocaaTw2
import Derived.Test.YtmkgipoljbiocaaTw8
import Derived.Test.YtmkgipoljbiocaaTw9
import Derived.ProofKit
import Derived.OpenShut
import Derived.Deep.Slices
import Derived.Test.YtmkgipoljbiocaaTw7
/- The law of where a machine goes. -/
namespace Go.Proofs.Ytmkgipoljbiocaa
open Go.RowKit Go.Sort Go.PlainAid
set_option linter.unusedVariables false
set_option linter.unusedSimpArgs false

attribute [local go_sem ↓] loadA_eq storeA_eq loadD_eq
set_option maxHeartbeats 4000000 in
set_option maxRecDepth 100000 in
theorem lawRuns_any (w : World) (D : Df) (M : MS) (z : Int) (b : Nat) (s : ByteArray) (hb : b < 256) (h : MAt w D M) (hC : ∀ i, i < 256 → M.cl i < 256) :
    Calls Try.prog 6 #[.agg (dfA D), .int .i64 z, .int .u8 (b : Int), .string s] w fun e w' => e = .returned (.bool true) ∧ Below w.heap.size w w' := by
  have HM := Lib.hid h
  have HCC := Lib.hid hC
  have hnm := h.nx.len.2
  obtain ⟨g, hg⟩ : ∃ g, w.heap.size = g := ⟨_, rfl⟩
  have HG := Lib.hid hg
  obtain ⟨W1, hW1, hs1, hb1, hd1⟩ := box_dfa hg D
  have HSM := Lib.hid (small_any W1 D M (h.below (by rw [hg]; exact hb1)))
  have HK := Lib.hid fun X (hX : Below g w X) => knows_any X
  have HW1 := Lib.hid hW1
  have HB1 := Lib.hid hb1
  have HS1 := Lib.hid hs1
  have HD1 := Lib.hid hd1
  have hld := run_loadD W1 g D hd1
  have d257 := hd1.nx
  rw [hW1] at hld HSM d257
  clear h hC hW1 hs1 hb1 hd1
  go_enter Try.func6, Try.ntmps6
  go_wp2_with fail
  refine HSM.out.mono ?_
  rintro e w2 ⟨⟨bb, rfl⟩, hb2⟩
  have hb2' : Below W1.heap.size W1 w2 := by rw [← HW1.out] at hb2; exact hb2
  have HB2 : Hid (Below g w w2) := Lib.hid (HB1.out.trans (hb2'.mono (by have := HS1.out; omega)))
  have HB12 := Lib.hid hb2'
  have HD2 := Lib.hid (HD1.out.below hb2' HD1.out.lt)
  have hgl : g + 1 ≤ w2.heap.size := HD2.out.lt
  have e257 := HD2.out.nx
  have hld2 := run_loadD w2 g D HD2.out
  have HK2 := Lib.hid (HK.out w2 HB2.out)
  clear hb2 hb2' hld d257
  have HFN : ∀ e w3, (e = Ending.returned (.bool true) ∧ Below w2.heap.size w2 w3) → Below g w w3 := fun e w3 hh => HB2.out.trans (hh.2.mono (by omega))
  cases bb with
  | false =>
    go_wp2_with fail
    refine HK2.out.mono ?_
    rintro e w3 hh
    have HB3 := Lib.hid (HFN e w3 hh)
    obtain ⟨rfl, _⟩ := hh
    go_wp2
    go_ret
    exact ⟨rfl, by first | exact HB3.out | (rw [HG.out]; exact HB3.out)⟩
  | true =>
  by_cases hs60 : 60 < s.size
  · have z2 : (60 : Int) < (s.size : Int) := by omega
    go_wp2_with fail
    refine HK2.out.mono ?_
    rintro e w3 hh
    have HB3 := Lib.hid (HFN e w3 hh)
    obtain ⟨rfl, _⟩ := hh
    go_wp2
    go_ret
    exact ⟨rfl, by first | exact HB3.out | (rw [HG.out]; exact HB3.out)⟩
  have z2 : ¬ (60 : Int) < (s.size : Int) := by omega
  have HWX : ∀ X, Onto w2.drew X → Below w.heap.size w X := fun X hX => by rw [HG.out]; exact HB2.out.trans ((onto_drew hX).mono (by omega))
  have C1 : Hid (∀ X, Onto w2.drew X → Calls Try.prog 12 #[.agg (dfA D)] X fun e w' => e = .returned (.bool (rightM M)) ∧ Below X.heap.size X w') := Lib.hid fun X hX => dright_any X D M (HM.out.below (HWX X hX)) HCC.out
  have C2 : Hid (∀ X, Onto w2.drew X → Calls Try.prog 19 #[.agg (dfA D)] X fun e w' => e = .returned (.bool (rightM M)) ∧ Below X.heap.size X w') := Lib.hid fun X hX => rdright_any X D M (HM.out.below (HWX X hX)) HCC.out
  have C3 : Hid (∀ X, Onto w2.drew X → Calls Try.prog 20 #[.agg (dfA D), .int .i64 z, .int .u8 (b : Int)] X fun e w' => e = .returned (.int .i64 (goQ M z b)) ∧ Below X.heap.size X w') := Lib.hid fun X hX => dgo_any X D M z b hb (HM.out.below (HWX X hX)) HCC.out
  have C4 : Hid (∀ X, Onto w2.drew X → Calls Try.prog 21 #[.agg (dfA D), .int .i64 z, .int .u8 (b : Int)] X fun e w' => e = .returned (.int .i64 (goQ M z b)) ∧ Below X.heap.size X w') := Lib.hid fun X hX => rgo_any X D M z b hb (HM.out.below (HWX X hX)) HCC.out
  have C5 : Hid (∀ X, Onto w2.drew X → Calls Try.prog 16 #[.agg (dfA D), .string s] X fun e w' => e = .returned (.int .i64 (runM M (LS s))) ∧ Below X.heap.size X w') := Lib.hid fun X hX => drun_any X D M s (HM.out.below (HWX X hX)) HCC.out (by omega)
  have C6 : Hid (∀ X, Onto w2.drew X → Calls Try.prog 22 #[.agg (dfA D), .string s] X fun e w' => e = .returned (.int .i64 (runM M (LS s))) ∧ Below X.heap.size X w') := Lib.hid fun X hX => rrun_any X D M s (HM.out.below (HWX X hX)) HCC.out (by omega)
  have C7 : Hid (∀ X, Onto w2.drew X → Calls Try.prog 17 #[.agg (dfA D), .int .i64 z] X fun e w' => e = .returned (.int .i64 (labM M z)) ∧ Below X.heap.size X w') := Lib.hid fun X hX => dlabel_any X D M z (HM.out.below (HWX X hX)) HCC.out
  have C8 : Hid (∀ X, Onto w2.drew X → Calls Try.prog 23 #[.agg (dfA D), .int .i64 z] X fun e w' => e = .returned (.int .i64 (labM M z)) ∧ Below X.heap.size X w') := Lib.hid fun X hX => rlabel_any X D M z (HM.out.below (HWX X hX)) HCC.out
  have C9 : Hid (∀ X, Onto w2.drew X → Calls Try.prog 8 #[] X fun e w' => e = .returned (.bool true) ∧ Below X.heap.size X w') := Lib.hid fun X hX => knows_any X
  obtain ⟨q, hq⟩ : ∃ q, rightM M = q := ⟨_, rfl⟩
  obtain ⟨x1, hx1⟩ : ∃ q, goQ M z b = q := ⟨_, rfl⟩
  obtain ⟨x2, hx2⟩ : ∃ q, runM M (LS s) = q := ⟨_, rfl⟩
  obtain ⟨x3, hx3⟩ : ∃ q, labM M z = q := ⟨_, rfl⟩
  rw [hq] at C1 C2
  rw [hx1] at C3 C4
  rw [hx2] at C5 C6
  rw [hx3] at C7 C8
  clear hq hx1 hx2 hx3 HWX hld2 e257 HK2 HFN
  go_wp2_with fail
  refine wp_region_fam_lit (E := Onto)
    [isV (.agg (dfA D)),
     isV (.bool q),
     isV (.agg (dfA D)),
     isV (.bool q),
     isV (.bool true),
     isV (.bool true),
     isV (.agg (dfA D)),
     isV (.int .i64 z),
     isV (.int .u8 (b : Int)),
     isV (.int .i64 x1),
     isV (.agg (dfA D)),
     isV (.int .i64 z),
     isV (.int .u8 (b : Int)),
     isV (.int .i64 x1),
     isV (.bool true),
     isV (.bool true),
     isV (.bool true),
     isV (.agg (dfA D)),
     isV (.string s),
     isV (.int .i64 x2),
     isV (.agg (dfA D)),
     isV (.string s),
     isV (.int .i64 x2),
     isV (.bool true),
     isV (.bool true),
     isV (.bool true),
     isV (.agg (dfA D)),
     isV (.int .i64 z),
     isV (.int .i64 x3),
     isV (.agg (dfA D)),
     isV (.int .i64 z),
     isV (.int .i64 x3),
     isV (.bool true),
     isV (.bool true),
     isV (.bool true),
     isV (.bool true),
     isV (.bool true),
     isV (.bool true)]
    [some 18, some 19, some 20, some 21, some 22, some 23, some 24, some 25, some 26, some 27, some 28, some 29, some 30, some 31, some 32, some 33, some 34, some 35, some 36, some 37, some 38, some 39, some 40, some 41, some 42, some 43, some 44, some 45, some 46, some 47, some 48, some 49, some 50, some 51, some 52, some 53, some 54, some 8] (by kernel_rfl) rfl (by kernel_rfl) rfl Onto.trans Onto.refl ?monoS ?obS ?qS
  case monoS => exact ⟨isV_mono _ _, isV_mono _ _, isV_mono _ _, isV_mono _ _, isV_mono _ _, isV_mono _ _, isV_mono _ _, isV_mono _ _, isV_mono _ _, isV_mono _ _, isV_mono _ _, isV_mono _ _, isV_mono _ _, isV_mono _ _, isV_mono _ _, isV_mono _ _, isV_mono _ _, isV_mono _ _, isV_mono _ _, isV_mono _ _, isV_mono _ _, isV_mono _ _, isV_mono _ _, isV_mono _ _, isV_mono _ _, isV_mono _ _, isV_mono _ _, isV_mono _ _, isV_mono _ _, isV_mono _ _, isV_mono _ _, isV_mono _ _, isV_mono _ _, isV_mono _ _, isV_mono _ _, isV_mono _ _, isV_mono _ _, isV_mono _ _, trivial⟩
  case obS =>
    refine Obs.cons (j := 1) rfl ?_ ?_
    · refine Ob.free [(4, none)] (by kernel_rfl) (isV (.agg (dfA D))) rfl rfl (fun a X hE hL => ?_)
      simp [Seen, slotAt] at hL
      have h4 := hL
      rw [relAt_eq]
      have hld := run_loadD X g D (HD2.out.below (onto_drew hE) HD2.out.lt)
      go_simp
      exact ⟨Onto.refl _, rfl⟩
    refine Obs.cons (j := 2) rfl ?_ ?_
    · refine Ob.free [(18, some 0)] (by kernel_rfl) (isV (.bool q)) rfl rfl (fun a X hE hL => ?_)
      simp [Seen, slotAt, famV, isV] at hL
      have h18 := hL
      rw [relAt_eq]
      go_simp
      rw [relUpon_enter]
      go_at_call 12
      refine (C1.out X hE).mono ?_
      rintro e Y ⟨rfl, hY⟩
      exact ⟨_, rfl, hY, rfl⟩
    refine Obs.cons (j := 3) rfl ?_ ?_
    · refine Ob.free [(4, none)] (by kernel_rfl) (isV (.agg (dfA D))) rfl rfl (fun a X hE hL => ?_)
      simp [Seen, slotAt] at hL
      have h4 := hL
      rw [relAt_eq]
      have hld := run_loadD X g D (HD2.out.below (onto_drew hE) HD2.out.lt)
      go_simp
      exact ⟨Onto.refl _, rfl⟩
    refine Obs.cons (j := 4) rfl ?_ ?_
    · refine Ob.free [(20, some 2)] (by kernel_rfl) (isV (.bool q)) rfl rfl (fun a X hE hL => ?_)
      simp [Seen, slotAt, famV, isV] at hL
      have h20 := hL
      rw [relAt_eq]
      go_simp
      rw [relUpon_enter]
      go_at_call 19
      refine (C2.out X hE).mono ?_
      rintro e Y ⟨rfl, hY⟩
      exact ⟨_, rfl, hY, rfl⟩
    refine Obs.cons (j := 5) rfl ?_ ?_
    · refine Ob.free [(19, some 1), (21, some 3)] (by kernel_rfl) (isV (.bool true)) rfl rfl (fun a X hE hL => ?_)
      simp [Seen, slotAt, famV, isV] at hL
      obtain ⟨h19, h21⟩ := hL
      rw [relAt_eq]
      go_simp
      first | exact ⟨Onto.refl _, rfl⟩ | exact ⟨Onto.refl _, by simp [isV]⟩
    refine Obs.cons (j := 6) rfl ?_ ?_
    · refine Ob.free [(22, some 4)] (by kernel_rfl) (isV (.bool true)) rfl rfl (fun a X hE hL => ?_)
      simp [Seen, slotAt, famV, isV] at hL
      have h22 := hL
      rw [relAt_eq]
      go_simp
      exact ⟨Onto.refl _, rfl⟩
    refine Obs.cons (j := 7) rfl ?_ ?_
    · refine Ob.guarded [(4, none), (23, some 5)] (by kernel_rfl) (isV (.agg (dfA D))) rfl 5 true 23 rfl rfl (fun a X hE hL => ?_)
      simp [Seen, slotAt, famV, isV] at hL
      obtain ⟨h4, h23⟩ := hL
      refine ⟨by simpa using h23, ?_⟩
      clear h23
      rw [relAt_eq]
      have hld := run_loadD X g D (HD2.out.below (onto_drew hE) HD2.out.lt)
      go_simp
      exact ⟨Onto.refl _, rfl⟩
    refine Obs.cons (j := 8) rfl ?_ ?_
    · refine Ob.guarded [(1, none), (23, some 5)] (by kernel_rfl) (isV (.int .i64 z)) rfl 5 true 23 rfl rfl (fun a X hE hL => ?_)
      simp [Seen, slotAt, famV, isV] at hL
      obtain ⟨h1, h23⟩ := hL
      refine ⟨by simpa using h23, ?_⟩
      clear h23
      rw [relAt_eq]
      go_simp
      exact ⟨Onto.refl _, rfl⟩
    refine Obs.cons (j := 9) rfl ?_ ?_
    · refine Ob.guarded [(2, none), (23, some 5)] (by kernel_rfl) (isV (.int .u8 (b : Int))) rfl 5 true 23 rfl rfl (fun a X hE hL => ?_)
      simp [Seen, slotAt, famV, isV] at hL
      obtain ⟨h2, h23⟩ := hL
      refine ⟨by simpa using h23, ?_⟩
      clear h23
      rw [relAt_eq]
      go_simp
      exact ⟨Onto.refl _, rfl⟩
    refine Obs.cons (j := 10) rfl ?_ ?_
    · refine Ob.guarded [(24, some 6), (25, some 7), (26, some 8), (23, some 5)] (by kernel_rfl) (isV (.int .i64 x1)) rfl 5 true 23 rfl rfl (fun a X hE hL => ?_)
      simp [Seen, slotAt, famV, isV] at hL
      obtain ⟨h24, h25, h26, h23⟩ := hL
      refine ⟨by simpa using h23, ?_⟩
      clear h23
      rw [relAt_eq]
      go_simp
      rw [relUpon_enter]
      go_at_call 20
      refine (C3.out X hE).mono ?_
      rintro e Y ⟨rfl, hY⟩
      exact ⟨_, rfl, hY, rfl⟩
    refine Obs.cons (j := 11) rfl ?_ ?_
    · refine Ob.guarded [(4, none), (23, some 5)] (by kernel_rfl) (isV (.agg (dfA D))) rfl 5 true 23 rfl rfl (fun a X hE hL => ?_)
      simp [Seen, slotAt, famV, isV] at hL
      obtain ⟨h4, h23⟩ := hL
      refine ⟨by simpa using h23, ?_⟩
      clear h23
      rw [relAt_eq]
      have hld := run_loadD X g D (HD2.out.below (onto_drew hE) HD2.out.lt)
      go_simp
      exact ⟨Onto.refl _, rfl⟩
    refine Obs.cons (j := 12) rfl ?_ ?_
    · refine Ob.guarded [(1, none), (23, some 5)] (by kernel_rfl) (isV (.int .i64 z)) rfl 5 true 23 rfl rfl (fun a X hE hL => ?_)
      simp [Seen, slotAt, famV, isV] at hL
      obtain ⟨h1, h23⟩ := hL
      refine ⟨by simpa using h23, ?_⟩
      clear h23
      rw [relAt_eq]
      go_simp
      exact ⟨Onto.refl _, rfl⟩
    refine Obs.cons (j := 13) rfl ?_ ?_
    · refine Ob.guarded [(2, none), (23, some 5)] (by kernel_rfl) (isV (.int .u8 (b : Int))) rfl 5 true 23 rfl rfl (fun a X hE hL => ?_)
      simp [Seen, slotAt, famV, isV] at hL
      obtain ⟨h2, h23⟩ := hL
      refine ⟨by simpa using h23, ?_⟩
      clear h23
      rw [relAt_eq]
      go_simp
      exact ⟨Onto.refl _, rfl⟩
    refine Obs.cons (j := 14) rfl ?_ ?_
    · refine Ob.guarded [(28, some 10), (29, some 11), (30, some 12), (23, some 5)] (by kernel_rfl) (isV (.int .i64 x1)) rfl 5 true 23 rfl rfl (fun a X hE hL => ?_)
      simp [Seen, slotAt, famV, isV] at hL
      obtain ⟨h28, h29, h30, h23⟩ := hL
      refine ⟨by simpa using h23, ?_⟩
      clear h23
      rw [relAt_eq]
      go_simp
      rw [relUpon_enter]
      go_at_call 21
      refine (C4.out X hE).mono ?_
      rintro e Y ⟨rfl, hY⟩
      exact ⟨_, rfl, hY, rfl⟩
    refine Obs.cons (j := 15) rfl ?_ ?_
    · refine Ob.guarded [(27, some 9), (31, some 13), (23, some 5)] (by kernel_rfl) (isV (.bool true)) rfl 5 true 23 rfl rfl (fun a X hE hL => ?_)
      simp [Seen, slotAt, famV, isV] at hL
      obtain ⟨h27, h31, h23⟩ := hL
      refine ⟨by simpa using h23, ?_⟩
      clear h23
      rw [relAt_eq]
      go_simp
      first | exact ⟨Onto.refl _, rfl⟩ | exact ⟨Onto.refl _, by simp [isV]⟩
    refine Obs.cons (j := 16) rfl ?_ ?_
    · refine Ob.free [(23, some 5), (32, some 14)] (by kernel_rfl) (isV (.bool true)) rfl rfl (fun a X hE hL => ?_)
      simp [Seen, slotAt, famV, isV] at hL
      obtain ⟨h23, h32⟩ := hL
      rw [relAt_eq]
      go_simp
      exact ⟨Onto.refl _, rfl⟩
    refine Obs.cons (j := 17) rfl ?_ ?_
    · refine Ob.free [(33, some 15)] (by kernel_rfl) (isV (.bool true)) rfl rfl (fun a X hE hL => ?_)
      simp [Seen, slotAt, famV, isV] at hL
      have h33 := hL
      rw [relAt_eq]
      go_simp
      exact ⟨Onto.refl _, rfl⟩
    refine Obs.cons (j := 18) rfl ?_ ?_
    · refine Ob.guarded [(4, none), (34, some 16)] (by kernel_rfl) (isV (.agg (dfA D))) rfl 16 true 34 rfl rfl (fun a X hE hL => ?_)
      simp [Seen, slotAt, famV, isV] at hL
      obtain ⟨h4, h34⟩ := hL
      refine ⟨by simpa using h34, ?_⟩
      clear h34
      rw [relAt_eq]
      have hld := run_loadD X g D (HD2.out.below (onto_drew hE) HD2.out.lt)
      go_simp
      exact ⟨Onto.refl _, rfl⟩
    refine Obs.cons (j := 19) rfl ?_ ?_
    · refine Ob.guarded [(3, none), (34, some 16)] (by kernel_rfl) (isV (.string s)) rfl 16 true 34 rfl rfl (fun a X hE hL => ?_)
      simp [Seen, slotAt, famV, isV] at hL
      obtain ⟨h3, h34⟩ := hL
      refine ⟨by simpa using h34, ?_⟩
      clear h34
      rw [relAt_eq]
      go_simp
      exact ⟨Onto.refl _, rfl⟩
    refine Obs.cons (j := 20) rfl ?_ ?_
    · refine Ob.guarded [(35, some 17), (36, some 18), (34, some 16)] (by kernel_rfl) (isV (.int .i64 x2)) rfl 16 true 34 rfl rfl (fun a X hE hL => ?_)
      simp [Seen, slotAt, famV, isV] at hL
      obtain ⟨h35, h36, h34⟩ := hL
      refine ⟨by simpa using h34, ?_⟩
      clear h34
      rw [relAt_eq]
      go_simp
      rw [relUpon_enter]
      go_at_call 16
      refine (C5.out X hE).mono ?_
      rintro e Y ⟨rfl, hY⟩
      exact ⟨_, rfl, hY, rfl⟩
    refine Obs.cons (j := 21) rfl ?_ ?_
    · refine Ob.guarded [(4, none), (34, some 16)] (by kernel_rfl) (isV (.agg (dfA D))) rfl 16 true 34 rfl rfl (fun a X hE hL => ?_)
      simp [Seen, slotAt, famV, isV] at hL
      obtain ⟨h4, h34⟩ := hL
      refine ⟨by simpa using h34, ?_⟩
      clear h34
      rw [relAt_eq]
      have hld := run_loadD X g D (HD2.out.below (onto_drew hE) HD2.out.lt)
      go_simp
      exact ⟨Onto.refl _, rfl⟩
    refine Obs.cons (j := 22) rfl ?_ ?_
    · refine Ob.guarded [(3, none), (34, some 16)] (by kernel_rfl) (isV (.string s)) rfl 16 true 34 rfl rfl (fun a X hE hL => ?_)
      simp [Seen, slotAt, famV, isV] at hL
      obtain ⟨h3, h34⟩ := hL
      refine ⟨by simpa using h34, ?_⟩
      clear h34
      rw [relAt_eq]
      go_simp
      exact ⟨Onto.refl _, rfl⟩
    refine Obs.cons (j := 23) rfl ?_ ?_
    · refine Ob.guarded [(38, some 20), (39, some 21), (34, some 16)] (by kernel_rfl) (isV (.int .i64 x2)) rfl 16 true 34 rfl rfl (fun a X hE hL => ?_)
      simp [Seen, slotAt, famV, isV] at hL
      obtain ⟨h38, h39, h34⟩ := hL
      refine ⟨by simpa using h34, ?_⟩
      clear h34
      rw [relAt_eq]
      go_simp
      rw [relUpon_enter]
      go_at_call 22
      refine (C6.out X hE).mono ?_
      rintro e Y ⟨rfl, hY⟩
      exact ⟨_, rfl, hY, rfl⟩
    refine Obs.cons (j := 24) rfl ?_ ?_
    · refine Ob.guarded [(37, some 19), (40, some 22), (34, some 16)] (by kernel_rfl) (isV (.bool true)) rfl 16 true 34 rfl rfl (fun a X hE hL => ?_)
      simp [Seen, slotAt, famV, isV] at hL
      obtain ⟨h37, h40, h34⟩ := hL
      refine ⟨by simpa using h34, ?_⟩
      clear h34
      rw [relAt_eq]
      go_simp
      first | exact ⟨Onto.refl _, rfl⟩ | exact ⟨Onto.refl _, by simp [isV]⟩
    refine Obs.cons (j := 25) rfl ?_ ?_
    · refine Ob.free [(34, some 16), (41, some 23)] (by kernel_rfl) (isV (.bool true)) rfl rfl (fun a X hE hL => ?_)
      simp [Seen, slotAt, famV, isV] at hL
      obtain ⟨h34, h41⟩ := hL
      rw [relAt_eq]
      go_simp
      exact ⟨Onto.refl _, rfl⟩
    refine Obs.cons (j := 26) rfl ?_ ?_
    · refine Ob.free [(42, some 24)] (by kernel_rfl) (isV (.bool true)) rfl rfl (fun a X hE hL => ?_)
      simp [Seen, slotAt, famV, isV] at hL
      have h42 := hL
      rw [relAt_eq]
      go_simp
      exact ⟨Onto.refl _, rfl⟩
    refine Obs.cons (j := 27) rfl ?_ ?_
    · refine Ob.guarded [(4, none), (43, some 25)] (by kernel_rfl) (isV (.agg (dfA D))) rfl 25 true 43 rfl rfl (fun a X hE hL => ?_)
      simp [Seen, slotAt, famV, isV] at hL
      obtain ⟨h4, h43⟩ := hL
      refine ⟨by simpa using h43, ?_⟩
      clear h43
      rw [relAt_eq]
      have hld := run_loadD X g D (HD2.out.below (onto_drew hE) HD2.out.lt)
      go_simp
      exact ⟨Onto.refl _, rfl⟩
    refine Obs.cons (j := 28) rfl ?_ ?_
    · refine Ob.guarded [(1, none), (43, some 25)] (by kernel_rfl) (isV (.int .i64 z)) rfl 25 true 43 rfl rfl (fun a X hE hL => ?_)
      simp [Seen, slotAt, famV, isV] at hL
      obtain ⟨h1, h43⟩ := hL
      refine ⟨by simpa using h43, ?_⟩
      clear h43
      rw [relAt_eq]
      go_simp
      exact ⟨Onto.refl _, rfl⟩
    refine Obs.cons (j := 29) rfl ?_ ?_
    · refine Ob.guarded [(44, some 26), (45, some 27), (43, some 25)] (by kernel_rfl) (isV (.int .i64 x3)) rfl 25 true 43 rfl rfl (fun a X hE hL => ?_)
      simp [Seen, slotAt, famV, isV] at hL
      obtain ⟨h44, h45, h43⟩ := hL
      refine ⟨by simpa using h43, ?_⟩
      clear h43
      rw [relAt_eq]
      go_simp
      rw [relUpon_enter]
      go_at_call 17
      refine (C7.out X hE).mono ?_
      rintro e Y ⟨rfl, hY⟩
      exact ⟨_, rfl, hY, rfl⟩
    refine Obs.cons (j := 30) rfl ?_ ?_
    · refine Ob.guarded [(4, none), (43, some 25)] (by kernel_rfl) (isV (.agg (dfA D))) rfl 25 true 43 rfl rfl (fun a X hE hL => ?_)
      simp [Seen, slotAt, famV, isV] at hL
      obtain ⟨h4, h43⟩ := hL
      refine ⟨by simpa using h43, ?_⟩
      clear h43
      rw [relAt_eq]
      have hld := run_loadD X g D (HD2.out.below (onto_drew hE) HD2.out.lt)
      go_simp
      exact ⟨Onto.refl _, rfl⟩
    refine Obs.cons (j := 31) rfl ?_ ?_
    · refine Ob.guarded [(1, none), (43, some 25)] (by kernel_rfl) (isV (.int .i64 z)) rfl 25 true 43 rfl rfl (fun a X hE hL => ?_)
      simp [Seen, slotAt, famV, isV] at hL
      obtain ⟨h1, h43⟩ := hL
      refine ⟨by simpa using h43, ?_⟩
      clear h43
      rw [relAt_eq]
      go_simp
      exact ⟨Onto.refl _, rfl⟩
    refine Obs.cons (j := 32) rfl ?_ ?_
    · refine Ob.guarded [(47, some 29), (48, some 30), (43, some 25)] (by kernel_rfl) (isV (.int .i64 x3)) rfl 25 true 43 rfl rfl (fun a X hE hL => ?_)
      simp [Seen, slotAt, famV, isV] at hL
      obtain ⟨h47, h48, h43⟩ := hL
      refine ⟨by simpa using h43, ?_⟩
      clear h43
      rw [relAt_eq]
      go_simp
      rw [relUpon_enter]
      go_at_call 23
      refine (C8.out X hE).mono ?_
      rintro e Y ⟨rfl, hY⟩
      exact ⟨_, rfl, hY, rfl⟩
    refine Obs.cons (j := 33) rfl ?_ ?_
    · refine Ob.guarded [(46, some 28), (49, some 31), (43, some 25)] (by kernel_rfl) (isV (.bool true)) rfl 25 true 43 rfl rfl (fun a X hE hL => ?_)
      simp [Seen, slotAt, famV, isV] at hL
      obtain ⟨h46, h49, h43⟩ := hL
      refine ⟨by simpa using h43, ?_⟩
      clear h43
      rw [relAt_eq]
      go_simp
      first | exact ⟨Onto.refl _, rfl⟩ | exact ⟨Onto.refl _, by simp [isV]⟩
    refine Obs.cons (j := 34) rfl ?_ ?_
    · refine Ob.free [(43, some 25), (50, some 32)] (by kernel_rfl) (isV (.bool true)) rfl rfl (fun a X hE hL => ?_)
      simp [Seen, slotAt, famV, isV] at hL
      obtain ⟨h43, h50⟩ := hL
      rw [relAt_eq]
      go_simp
      exact ⟨Onto.refl _, rfl⟩
    refine Obs.cons (j := 35) rfl ?_ ?_
    · refine Ob.free [(51, some 33)] (by kernel_rfl) (isV (.bool true)) rfl rfl (fun a X hE hL => ?_)
      simp [Seen, slotAt, famV, isV] at hL
      have h51 := hL
      rw [relAt_eq]
      go_simp
      exact ⟨Onto.refl _, rfl⟩
    refine Obs.cons (j := 36) rfl ?_ ?_
    · refine Ob.guarded [(52, some 34)] (by kernel_rfl) (isV (.bool true)) rfl 34 true 52 rfl rfl (fun a X hE hL => ?_)
      simp [Seen, slotAt, famV, isV] at hL
      have h52 := hL
      refine ⟨by simpa using h52, ?_⟩
      clear h52
      rw [relAt_eq]
      go_simp
      rw [relUpon_enter]
      go_at_call 8
      refine (C9.out X hE).mono ?_
      rintro e Y ⟨rfl, hY⟩
      exact ⟨_, rfl, hY, rfl⟩
    refine Obs.cons (j := 37) rfl ?_ ?_
    · refine Ob.free [(52, some 34), (53, some 35)] (by kernel_rfl) (isV (.bool true)) rfl rfl (fun a X hE hL => ?_)
      simp [Seen, slotAt, famV, isV] at hL
      obtain ⟨h52, h53⟩ := hL
      rw [relAt_eq]
      go_simp
      exact ⟨Onto.refl _, rfl⟩
    refine Obs.cons (j := 38) rfl ?_ ?_
    · refine Ob.free [(54, some 36)] (by kernel_rfl) (isV (.bool true)) rfl rfl (fun a X hE hL => ?_)
      simp [Seen, slotAt, famV, isV] at hL
      have h54 := hL
      rw [relAt_eq]
      go_simp
      exact ⟨Onto.refl _, rfl⟩
    exact trivial
  case qS =>
    intro x w9 hE hV
    simp [AllV, famV, isV] at hV
    obtain ⟨-, -, -, -, -, -, -, -, -, -, -, -, -, -, -, -, -, -, -, -, -, -, -, -, -, -, -, -, -, -, -, -, -, -, -, -, -, h8⟩ := hV
    simp only [puts, Act.put, List.setIfInBounds_toArray, List.set_cons_zero, List.set_cons_succ, h8]
    generalize x 18 = y18
    generalize x 19 = y19
    generalize x 20 = y20
    generalize x 21 = y21
    generalize x 22 = y22
    generalize x 23 = y23
    generalize x 24 = y24
    generalize x 25 = y25
    generalize x 26 = y26
    generalize x 27 = y27
    generalize x 28 = y28
    generalize x 29 = y29
    generalize x 30 = y30
    generalize x 31 = y31
    generalize x 32 = y32
    generalize x 33 = y33
    generalize x 34 = y34
    generalize x 35 = y35
    generalize x 36 = y36
    generalize x 37 = y37
    generalize x 38 = y38
    generalize x 39 = y39
    generalize x 40 = y40
    generalize x 41 = y41
    generalize x 42 = y42
    generalize x 43 = y43
    generalize x 44 = y44
    generalize x 45 = y45
    generalize x 46 = y46
    generalize x 47 = y47
    generalize x 48 = y48
    generalize x 49 = y49
    generalize x 50 = y50
    generalize x 51 = y51
    generalize x 52 = y52
    generalize x 53 = y53
    generalize x 54 = y54
    clear h8
    have hbt := onto_drew hE
    have HBN : Hid (Below g w w9) := Lib.hid (HB2.out.trans (hbt.mono (by omega)))
    clear hE hbt
    go_wp2
    go_ret
    exact ⟨rfl, by first | exact HBN.out | (rw [HG.out]; exact HBN.out)⟩
end Go.Proofs.Ytmkgipoljbiocaa
/- Two machines held against each other. -/
namespace Go.Proofs.Ytmkgipoljbiocaa
open Go.RowKit
set_option linter.unusedVariables false
set_option linter.unusedSimpArgs false
attribute [local go_sem ↓] loadA_eq storeA_eq loadD_eq eqA_eq eqA_eq'
set_option maxHeartbeats 4000000 in
set_option maxRecDepth 100000 in
/-- Two that lie apart and are the same. -/
theorem rsameM_any (w : World) (D E : Df) (M : MS) (h : MAt w D M) (h' : MAt w E M) (hC : ∀ i, i < 256 → M.cl i < 256) :
    Calls Try.prog 11 #[.agg (dfA D), .agg (dfA E)] w fun e w' => e = .returned (.bool true) ∧ Below w.heap.size w w' := by
  have HM := Lib.hid h
  have HM' := Lib.hid h'
  have hln := h.nx.len
  have hln' := h'.nx.len
  have HLN := Lib.hid hln.1
  have hnm := hln.2
  have HEQ : Hid ((D.nl : Int) = (E.nl : Int)) := Lib.hid (by rw [← hln.1, ← hln'.1])
  have hwd : D.wd = E.wd := by rw [h.wd, h'.wd]
  obtain ⟨g, hg⟩ : ∃ g, w.heap.size = g := ⟨_, rfl⟩
  have HG := Lib.hid hg
  obtain ⟨W1, hW1, hs1, hb1, hd1⟩ := box_dfa hg D
  obtain ⟨W2, hW2, hs2, hb2, hd2⟩ := box_dfa hs1 E
  have hb12 : Below g w W2 := hb1.trans (hb2.mono (by omega))
  have hd12 := hd1.below hb2 (by omega)
  have HB2 := Lib.hid hb12
  have HD := Lib.hid hd12
  have HE := Lib.hid hd2
  have HS := Lib.hid (rsame_any W2 D.la E.la D.ll E.ll D.lc E.lc M.lb M.lb (h.lb.below (by rw [hg]; exact hb12)) (h'.lb.below (by rw [hg]; exact hb12)))
  have HW2 := Lib.hid hW2
  have hWW := hW2
  rw [hW1] at hWW
  have HWW := Lib.hid hWW
  have c0 := hd12.nx
  have c1 := hd2.nx
  have c2 := hd12.lb
  have c3 := hd2.lb
  have c4 := hd12.wd
  have c5 := hd2.wd
  have hl0 := run_loadAD W2 g D hd12
  have hl1 := run_loadAD W2 (g + 1) E hd2
  rw [h.cl] at hl0
  rw [h'.cl] at hl1
  have heq := fun w => run_eqA_refl M.cl hC w
  rw [hwd] at c4
  have hz0 : (D.nl : Int) = (E.nl : Int) := HEQ.out
  rw [hW2, hW1] at c0 c1 c2 c3 c4 c5 hl0 hl1
  clear h h' hln hln' hWW hW1 hW2 hs1 hs2 hb1 hb2 hb12 hd1 hd2 hd12 hC hwd
  go_enter Try.func11, Try.ntmps11
  go_wp2_with fail
  rw [← HWW.out]
  refine HS.out.mono ?_
  rintro e w2 ⟨rfl, hb2⟩
  have HB3 := Lib.hid (HB2.out.trans (hb2.mono (by have := HB2.out.size; have := HE.out.lt; omega)))
  have HD2 := Lib.hid (HD.out.below hb2 HD.out.lt)
  have HE2 := Lib.hid (HE.out.below hb2 HE.out.lt)
  have hg2 : g + 2 ≤ w2.heap.size := HE2.out.lt
  clear hb2 hl0 hl1 c0 c1 c2 c3 c4 c5
  rw [beq_self_eq_true]
  go_wp2
  go_loopw [5] (fun i wr => ∃ k : Nat, k ≤ D.nl ∧ i = .int .i64 (k : Int) ∧ Below (g + 2) w2 wr) (fun i _ => D.nl - (intOf i).toNat)
  case atStart => exact ⟨0, by omega, rfl, Below.refl _ _⟩
  case round =>
    obtain ⟨k, hk, rfl, hbw⟩ := hrel
    have HBW := Lib.hid hbw
    have HDW := Lib.hid (HD2.out.below hbw (by omega))
    have HEW := Lib.hid (HE2.out.below hbw (by omega))
    have HBT := Lib.hid (HB3.out.trans (hbw.mono (by omega)))
    have c0 := HDW.out.nx
    have hgw : g + 2 ≤ wr.heap.size := HEW.out.lt
    clear hbw
    by_cases hlt : k < D.nl
    case neg =>
      have z1 : ¬ ((k : Int) < (D.nl : Int)) := by omega
      go_wp2
      go_ret
      exact ⟨rfl, by first | exact HBT.out | (rw [HG.out]; exact HBT.out)⟩
    case pos =>
      have z0 : (0 : Int) ≤ (k : Int) := by omega
      have z1 : (k : Int) < (D.nl : Int) := by omega
      have z2 : (k : Int) < (E.nl : Int) := by omega
      have c1 := HEW.out.nx
      obtain ⟨b1, off1, l1, ha1, hbl1, hl1, A1, cc1, d1, hr1⟩ := ((HM.out.below (w' := wr) (by rw [HG.out]; exact HBT.out)).nx).at_ (i := k) (by omega)
      obtain ⟨b2, off2, l2, ha2, hbl2, hl2, A2, cc2, d2, hr2⟩ := ((HM'.out.below (w' := wr) (by rw [HG.out]; exact HBT.out)).nx).at_ (i := k) (by omega)
      obtain rfl := Option.some.inj (hl1.symm.trans hl2)
      rw [ha1] at c0
      rw [ha2] at c1
      have HSI : Hid (∀ X', Onto wr.drew X' → Calls Try.prog 40 #[.slice A1 l1.length cc1, .slice A2 l1.length cc2] X' fun e w' => e = .returned (.bool (l1 == l1)) ∧ Below X'.heap.size X' w') := Lib.hid fun X' hX => rsame_any X' A1 A2 _ _ cc1 cc2 l1 l1 (hr1.below (onto_drew hX)) (hr2.below (onto_drew hX))
      obtain ⟨m, hm⟩ : ∃ m, l1.length = m := ⟨_, rfl⟩
      rw [hm] at d1 d2 HSI
      clear hr1 hr2 hl1 hl2 ha1 ha2 hm
      go_wp2_with fail
      refine wp_region_fam_lit (E := Onto)
        [isV (.pointer (some ⟨g, 257, none⟩)),
         isV (.slice (some ⟨b1, off1, none⟩) D.nl D.nc),
         isV (.int .i64 (k : Int)),
         isV (.pointer (some ⟨b1, off1 + k, none⟩)),
         isV (.slice A1 m cc1),
         isV (.pointer (some ⟨g + 1, 257, none⟩)),
         isV (.slice (some ⟨b2, off2, none⟩) E.nl E.nc),
         isV (.int .i64 (k : Int)),
         isV (.pointer (some ⟨b2, off2 + k, none⟩)),
         isV (.slice A2 m cc2),
         isV (.bool true),
         isV (.bool false)]
        [some 42, some 43, some 44, some 45, some 46, some 47, some 48, some 49, some 50, some 51, some 52, some 53] (by kernel_rfl) rfl (by kernel_rfl) rfl Onto.trans Onto.refl ?monoS ?obS ?qS
      case monoS => exact ⟨isV_mono _ _, isV_mono _ _, isV_mono _ _, isV_mono _ _, isV_mono _ _, isV_mono _ _, isV_mono _ _, isV_mono _ _, isV_mono _ _, isV_mono _ _, isV_mono _ _, isV_mono _ _, trivial⟩
      case obS =>
        refine Obs.cons (j := 1) rfl ?_ ?_
        · refine Ob.free [(2, none)] (by kernel_rfl) (isV (.pointer (some ⟨g, 257, none⟩))) rfl rfl (fun a X hE hL => ?_)
          simp [Seen, slotAt] at hL
          have h2 := hL
          rw [relAt_eq]
          go_simp
          exact ⟨Onto.refl _, rfl⟩
        refine Obs.cons (j := 2) rfl ?_ ?_
        · refine Ob.free [(42, some 0)] (by kernel_rfl) (isV (.slice (some ⟨b1, off1, none⟩) D.nl D.nc)) rfl rfl (fun a X hE hL => ?_)
          simp [Seen, slotAt, famV, isV] at hL
          have h42 := hL
          rw [relAt_eq]
          have f0 := keeps hE _ _ c0
          go_simp
          exact ⟨Onto.refl _, rfl⟩
        refine Obs.cons (j := 3) rfl ?_ ?_
        · refine Ob.free [(5, none)] (by kernel_rfl) (isV (.int .i64 (k : Int))) rfl rfl (fun a X hE hL => ?_)
          simp [Seen, slotAt] at hL
          have h5 := hL
          rw [relAt_eq]
          go_simp
          exact ⟨Onto.refl _, rfl⟩
        refine Obs.cons (j := 4) rfl ?_ ?_
        · refine Ob.free [(43, some 1), (44, some 2)] (by kernel_rfl) (isV (.pointer (some ⟨b1, off1 + k, none⟩))) rfl rfl (fun a X hE hL => ?_)
          simp [Seen, slotAt, famV, isV] at hL
          obtain ⟨h43, h44⟩ := hL
          rw [relAt_eq]
          go_simp
          exact ⟨Onto.refl _, rfl⟩
        refine Obs.cons (j := 5) rfl ?_ ?_
        · refine Ob.free [(45, some 3)] (by kernel_rfl) (isV (.slice A1 m cc1)) rfl rfl (fun a X hE hL => ?_)
          simp [Seen, slotAt, famV, isV] at hL
          have h45 := hL
          rw [relAt_eq]
          have f0 := keeps hE _ _ d1
          go_simp
          exact ⟨Onto.refl _, rfl⟩
        refine Obs.cons (j := 6) rfl ?_ ?_
        · refine Ob.free [(3, none)] (by kernel_rfl) (isV (.pointer (some ⟨g + 1, 257, none⟩))) rfl rfl (fun a X hE hL => ?_)
          simp [Seen, slotAt] at hL
          have h3 := hL
          rw [relAt_eq]
          go_simp
          exact ⟨Onto.refl _, rfl⟩
        refine Obs.cons (j := 7) rfl ?_ ?_
        · refine Ob.free [(47, some 5)] (by kernel_rfl) (isV (.slice (some ⟨b2, off2, none⟩) E.nl E.nc)) rfl rfl (fun a X hE hL => ?_)
          simp [Seen, slotAt, famV, isV] at hL
          have h47 := hL
          rw [relAt_eq]
          have f0 := keeps hE _ _ c1
          go_simp
          exact ⟨Onto.refl _, rfl⟩
        refine Obs.cons (j := 8) rfl ?_ ?_
        · refine Ob.free [(5, none)] (by kernel_rfl) (isV (.int .i64 (k : Int))) rfl rfl (fun a X hE hL => ?_)
          simp [Seen, slotAt] at hL
          have h5 := hL
          rw [relAt_eq]
          go_simp
          exact ⟨Onto.refl _, rfl⟩
        refine Obs.cons (j := 9) rfl ?_ ?_
        · refine Ob.free [(48, some 6), (49, some 7)] (by kernel_rfl) (isV (.pointer (some ⟨b2, off2 + k, none⟩))) rfl rfl (fun a X hE hL => ?_)
          simp [Seen, slotAt, famV, isV] at hL
          obtain ⟨h48, h49⟩ := hL
          rw [relAt_eq]
          go_simp
          exact ⟨Onto.refl _, rfl⟩
        refine Obs.cons (j := 10) rfl ?_ ?_
        · refine Ob.free [(50, some 8)] (by kernel_rfl) (isV (.slice A2 m cc2)) rfl rfl (fun a X hE hL => ?_)
          simp [Seen, slotAt, famV, isV] at hL
          have h50 := hL
          rw [relAt_eq]
          have f0 := keeps hE _ _ d2
          go_simp
          exact ⟨Onto.refl _, rfl⟩
        refine Obs.cons (j := 11) rfl ?_ ?_
        · refine Ob.free [(46, some 4), (51, some 9)] (by kernel_rfl) (isV (.bool true)) rfl rfl (fun a X hE hL => ?_)
          simp [Seen, slotAt, famV, isV] at hL
          obtain ⟨h46, h51⟩ := hL
          rw [relAt_eq]
          go_simp
          rw [relUpon_enter]
          go_at_call 40
          refine (HSI.out X hE).mono ?_
          rintro e Y ⟨rfl, hY⟩
          rw [beq_self_eq_true]
          exact ⟨_, rfl, hY, rfl⟩
        refine Obs.cons (j := 12) rfl ?_ ?_
        · refine Ob.free [(52, some 10)] (by kernel_rfl) (isV (.bool false)) rfl rfl (fun a X hE hL => ?_)
          simp [Seen, slotAt, famV, isV] at hL
          have h52 := hL
          rw [relAt_eq]
          go_simp
          exact ⟨Onto.refl _, rfl⟩
        exact trivial
      case qS =>
        intro x wA hE hV
        simp [AllV, famV, isV] at hV
        obtain ⟨-, -, -, -, -, -, -, -, -, -, -, h53⟩ := hV
        simp only [puts, Act.put, List.setIfInBounds_toArray, List.set_cons_zero, List.set_cons_succ, h53]
        generalize x 42 = y42
        generalize x 43 = y43
        generalize x 44 = y44
        generalize x 45 = y45
        generalize x 46 = y46
        generalize x 47 = y47
        generalize x 48 = y48
        generalize x 49 = y49
        generalize x 50 = y50
        generalize x 51 = y51
        generalize x 52 = y52
        clear h53
        have hbt := onto_drew hE
        have HBN := Lib.hid (HBW.out.trans (hbt.mono hgw))
        clear hE hbt c0 c1 d1 d2 HSI
        go_wp2_with fail
        exact ⟨⟨k + 1, by omega, rfl, HBN.out⟩, by simp only [intOf]; omega⟩
end Go.Proofs.Ytmkgipoljbiocaa
/- What the table of a net is: it is right; how many states it may have. -/
namespace Go.Proofs.Ytmkgipoljbiocaa
open Go.RowKit
set_option linter.unusedVariables false

theorem tokZ_ge {N : NetS} (h : netR N = true) {t z : Int} (ht : -1 ≤ t) : -1 ≤ tokZ N t z := by
  unfold tokZ
  split
  · rename_i hc
    have hl := netR_len h
    have hz : z.toNat < N.of.length := by omega
    rw [List.getElem?_eq_getElem hz, Option.getD_some]
    have := tok_range h (List.getElem?_eq_getElem hz)
    omega
  · exact ht
theorem tokenL_ge (N : NetS) (xs : List Int) : -1 ≤ tokenL N xs := by
  unfold tokenL
  split
  · rename_i h
    have : ∀ (l : List Int) (t : Int), -1 ≤ t → -1 ≤ l.foldl (tokZ N) t := by
      intro l
      induction l with
      | nil => intro t ht; exact ht
      | cons x l ih => intro t ht; exact ih _ (tokZ_ge h ht)
    exact this xs (-1) (by omega)
  · omega
theorem atF_range (f : List (List Int)) (t : List Int) : -1 ≤ atF f t ∧ atF f t < (putF f t).length := by
  have hf := findL_ge f t
  unfold atF putF
  split
  · exact ⟨by omega, by omega⟩
  · split
    · rw [List.length_append]; exact ⟨by omega, by simp; omega⟩
    · exact ⟨by omega, by omega⟩
theorem inner_row {N : NetS} {most : Nat} {x : List Int} {i : Nat} {f0 : List (List Int)} : ∀ (c : Nat) {f : List (List Int)} {r : List Int}, innerUp N most x i f0 c = some (f, r) → f0.length ≤ f.length ∧ r.length = c ∧ ∀ z ∈ r, -1 ≤ z ∧ z < (f.length : Int) := by
  intro c
  induction c with
  | zero => intro f r h; simp [innerUp] at h; obtain ⟨rfl, rfl⟩ := h; exact ⟨Nat.le_refl _, rfl, fun z hz => by cases hz⟩
  | succ c ih =>
    intro f r h
    simp only [innerUp] at h
    split at h
    · cases h
    · rename_i f1 r1 h1
      split at h
      · cases h
      · simp only [Option.some.injEq, Prod.mk.injEq] at h
        obtain ⟨rfl, rfl⟩ := h
        obtain ⟨e1, e2, e3⟩ := ih h1
        obtain ⟨p1, p2, _⟩ := putF_pre f1 (toL N x i c)
        refine ⟨by omega, by simp [e2], fun z hz => ?_⟩
        rcases List.mem_append.1 hz with hz | hz
        · have := e3 z hz; omega
        · rw [List.mem_singleton] at hz; subst hz; exact atF_range _ _
/-- What holds of the table under way. -/
structure OutI (N : NetS) (most i : Nat) (f nx : List (List Int)) (lb : List Int) : Prop where
  good : GoodF N most f
  ll : lb.length = nx.length
  st : (nx.length = i ∧ i ≤ f.length) ∨ (nx.length = f.length ∧ f.length ≤ i)
  rows : ∀ r ∈ nx, r.length = widN N ∧ ∀ z ∈ r, -1 ≤ z ∧ z < (f.length : Int)
  labs : ∀ z ∈ lb, -1 ≤ z
theorem outer_inv {N : NetS} {most : Nat} (hm : 1 ≤ most) : ∀ (i : Nat) {f nx : List (List Int)} {lb : List Int}, outerUp N most i = some (f, nx, lb) → OutI N most i f nx lb := by
  intro i
  induction i with
  | zero =>
    intro f nx lb h
    simp [outerUp] at h
    obtain ⟨rfl, rfl, rfl⟩ := h
    exact ⟨⟨by simp, by simp; omega, by simp⟩, rfl, .inl ⟨rfl, by simp⟩, by simp, by simp⟩
  | succ i ih =>
    intro f nx lb h
    simp only [outerUp] at h
    split at h
    · cases h
    · rename_i f1 nx1 lb1 h1
      have I := ih h1
      split at h
      · rename_i hx
        simp only [Option.some.injEq, Prod.mk.injEq] at h
        obtain ⟨rfl, rfl, rfl⟩ := h
        have hle := List.getElem?_eq_none_iff.1 hx
        refine ⟨I.good, I.ll, ?_, I.rows, I.labs⟩
        rcases I.st with ⟨h1, h2⟩ | ⟨h1, h2⟩
        · exact .inr ⟨by omega, by omega⟩
        · exact .inr ⟨h1, by omega⟩
      · rename_i x hx
        have hlt := (List.getElem?_eq_some_iff.1 hx).1
        split at h
        · cases h
        · rename_i f2 r h2
          simp only [Option.some.injEq, Prod.mk.injEq] at h
          obtain ⟨rfl, rfl, rfl⟩ := h
          obtain ⟨g1, _, _, _⟩ := inner_good I.good _ h2
          obtain ⟨r1, r2, r3⟩ := inner_row _ h2
          refine ⟨g1, by simp [I.ll], ?_, fun q hq => ?_, fun z hz => ?_⟩
          · rcases I.st with ⟨h3, h4⟩ | ⟨h3, h4⟩
            · exact .inl ⟨by simp [h3], by omega⟩
            · omega
          · rcases List.mem_append.1 hq with hq | hq
            · obtain ⟨a, b⟩ := I.rows q hq
              exact ⟨a, fun z hz => by have := b z hz; omega⟩
            · rw [List.mem_singleton] at hq; subst hq; exact ⟨r2, r3⟩
          · rcases List.mem_append.1 hz with hz | hz
            · exact I.labs z hz
            · rw [List.mem_singleton] at hz; subst hz; exact tokenL_ge _ _
/-- At the end every state has its row. -/
theorem outer_full {N : NetS} {most : Nat} (hm : 1 ≤ most) {f nx : List (List Int)} {lb : List Int} (h : outerUp N most (most + 1) = some (f, nx, lb)) : nx.length = f.length := by
  have I := outer_inv hm _ h
  have := I.good.2.1
  rcases I.st with h | h <;> omega
theorem right_clsL' (ls : List (Nat → Bool)) : rightB (clsL ls) = true := by
  rw [rightB_iff]
  intro b hb
  unfold clsL
  exact cls_congr (N := 256) (fun x y _ _ => cls_eq_iff (sigL ls) x y) hb
theorem tab_right {N : NetS} {most : Nat} (hm : 1 ≤ most) {f nx : List (List Int)} {lb : List Int} (h : outerUp N most (most + 1) = some (f, nx, lb)) : rightM ⟨clsL N.sets, (widN N : Int), nx, lb⟩ = true := by
  have I := outer_inv hm _ h
  have hf := outer_full hm h
  have h1 := I.good.1
  rw [rightM_yes (M := ⟨clsL N.sets, (widN N : Int), nx, lb⟩) (by show 0 < nx.length; omega) I.ll (right_clsL' _) (by show ((widthC (clsL N.sets) 256 : Nat) : Int) = _; rw [show widthC (clsL N.sets) 256 = widN N from width_cls _ _])]
  rw [List.all_eq_true]
  intro i hi
  have hi : i < nx.length := List.mem_range.1 hi
  unfold rowGood
  show ((match nx[i]? with | some r => decide ((r.length : Int) = (widN N : Int)) && r.all (stOk nx.length) | none => false) && (match lb[i]? with | some z => decide (-1 ≤ z) | none => false)) = true
  have hi2 : i < lb.length := by rw [I.ll]; exact hi
  rw [List.getElem?_eq_getElem hi, List.getElem?_eq_getElem hi2]
  obtain ⟨a, b⟩ := I.rows _ (List.getElem_mem hi)
  simp only [Bool.and_eq_true, decide_eq_true_eq, List.all_eq_true]
  refine ⟨⟨by rw [a], fun z hz => ?_⟩, I.labs _ (List.getElem_mem hi2)⟩
  have := b z hz
  unfold stOk
  simp only [Bool.and_eq_true, decide_eq_true_eq]
  rw [hf]; exact this
/-- A table that is told is right. -/
theorem build_right {N : NetS} {most : Int} (h : (buildR N most).2.2 = 0) : rightM (buildR N most).1 = true ∧ (buildR N most).2.1 = ((buildR N most).1.nx.length : Int) := by
  unfold buildR at h ⊢
  split at h
  · cases h
  · rename_i h1
    rw [if_neg h1]
    split at h
    · cases h
    · rename_i h2
      rw [if_neg h2]
      cases ho : outerUp N most.toNat (most.toNat + 1) with
      | none => rw [ho] at h; cases h
      | some q =>
        obtain ⟨f, nx, lb⟩ := q
        exact ⟨tab_right (by omega) ho, by show (f.length : Int) = (nx.length : Int); rw [outer_full (by omega) ho]⟩
theorem build_errs (N : NetS) (most : Int) : (buildR N most).2.2 = 0 ∨ (buildR N most).1 = ms0 ∧ (buildR N most).2.1 = 0 := by
  unfold buildR
  split
  · exact .inr ⟨rfl, rfl⟩
  · split
    · exact .inr ⟨rfl, rfl⟩
    · cases outerUp N most.toNat (most.toNat + 1) with
      | none => exact .inr ⟨rfl, rfl⟩
      | some q => exact .inl rfl
theorem build_cl (N : NetS) (most : Int) (i : Nat) (hi : i < 256) : (buildR N most).1.cl i < 256 := by
  have hz : ms0.cl i < 256 := by show zeroC i < 256; unfold zeroC; omega
  unfold buildR
  split
  · exact hz
  · split
    · exact hz
    · cases outerUp N most.toNat (most.toNat + 1) with
      | none => exact hz
      | some q =>
        show clsL N.sets i < 256
        have h1 := cls_lt (sigL N.sets) hi
        have h2 := cnt_le (sigL N.sets) 256
        unfold clsL; omega
/-! ## How many states it may have. -/
theorem inner_most {N : NetS} {most m2 : Nat} {x : List Int} {i : Nat} {f0 : List (List Int)} : ∀ (c : Nat) {f : List (List Int)} {r : List Int}, innerUp N most x i f0 c = some (f, r) → f.length ≤ m2 → innerUp N m2 x i f0 c = some (f, r) := by
  intro c
  induction c with
  | zero => intro f r h _; exact h
  | succ c ih =>
    intro f r h hm
    simp only [innerUp] at h
    split at h
    · cases h
    · rename_i f1 r1 h1
      split at h
      · cases h
      · simp only [Option.some.injEq, Prod.mk.injEq] at h
        obtain ⟨rfl, rfl⟩ := h
        have hp := (putF_pre f1 (toL N x i c)).2.1
        simp only [innerUp]
        rw [ih h1 (by omega)]
        simp only
        rw [if_neg (by omega)]
theorem outer_grow {N : NetS} {most i : Nat} {f nx : List (List Int)} {lb : List Int} {x : List Int} {f2 : List (List Int)} {r : List Int} (h2 : innerUp N most x i f (widN N) = some (f2, r)) : f.length ≤ f2.length := (inner_row _ h2).1
theorem outer_most {N : NetS} {most m2 : Nat} : ∀ (i : Nat) {f nx : List (List Int)} {lb : List Int}, outerUp N most i = some (f, nx, lb) → f.length ≤ m2 → outerUp N m2 i = some (f, nx, lb) := by
  intro i
  induction i with
  | zero => intro f nx lb h _; exact h
  | succ i ih =>
    intro f nx lb h hm
    simp only [outerUp] at h
    split at h
    · cases h
    · rename_i f1 nx1 lb1 h1
      split at h
      · rename_i hx
        simp only [Option.some.injEq, Prod.mk.injEq] at h
        obtain ⟨rfl, rfl, rfl⟩ := h
        simp only [outerUp]
        rw [ih h1 hm]
        simp only
        rw [hx]
      · rename_i x hx
        split at h
        · cases h
        · rename_i f2 r h2
          simp only [Option.some.injEq, Prod.mk.injEq] at h
          obtain ⟨rfl, rfl, rfl⟩ := h
          have hg := (inner_row _ h2).1
          simp only [outerUp]
          rw [ih h1 (by omega)]
          simp only
          rw [hx]
          simp only
          rw [inner_most _ h2 hm]
/-- A table that ends under one bound ends so under any other that is not less than its states. -/
theorem outer_same {N : NetS} {m1 m2 : Nat} (h1 : 1 ≤ m1) (h2 : 1 ≤ m2) {f nx : List (List Int)} {lb : List Int} (h : outerUp N m1 (m1 + 1) = some (f, nx, lb)) (hf : f.length ≤ m2) : outerUp N m2 (m2 + 1) = some (f, nx, lb) := by
  have hm := (outer_inv h1 _ h).good.2.1
  have hend := outer_end h (by omega) (m2 + 1)
  rw [show m1 + 1 + (m2 + 1) = (m2 + 1) + (m1 + 1) by omega] at hend
  have h3 := outer_most _ hend hf
  cases ho : outerUp N m2 (m2 + 1) with
  | none => rw [outer_none ho] at h3; cases h3
  | some q =>
    obtain ⟨f', nx', lb'⟩ := q
    have hm' := (outer_inv h2 _ ho).good.2.1
    have := outer_end ho (by omega) (m1 + 1)
    rw [this] at h3; exact h3
theorem build_up {N : NetS} {m : Nat} (hN : netR N = true) (h1 : 1 ≤ m) (h2 : m ≤ 4096) : buildR N (m : Int) = tabR N (outerUp N m (m + 1)) := by
  unfold buildR
  rw [if_neg (by rw [hN]; decide), if_neg (by omega), Int.toNat_natCast]
/-- With as many states as there are it is the same; with one less there are too many; too many under a bound are too many under a lower one. -/
theorem build_bound {N : NetS} (hN : netR N = true) :
    (∀ k, buildR N 60 = k → k.2.2 = 0 → ∃ n : Nat, k.2.1 = (n : Int) ∧ 1 ≤ n ∧ n ≤ 60 ∧ n = k.1.nx.length ∧ buildR N (n : Int) = k ∧ (buildR N ((n : Int) - 1)).2.2 = if n = 1 then 2 else 16) ∧
    ((buildR N 60).2.2 ≠ 0 → (buildR N 60).2.2 = 16 ∧ ∀ m : Nat, 1 ≤ m → m ≤ 60 → (buildR N (m : Int)).2.2 = 16) := by
  have e60 : buildR N 60 = tabR N (outerUp N 60 61) := build_up hN (m := 60) (by omega) (by omega)
  constructor
  · intro k hk h0
    rw [e60] at hk
    cases ho : outerUp N 60 61 with
    | none => rw [ho] at hk; rw [← hk] at h0; cases h0
    | some q =>
      obtain ⟨f, nx, lb⟩ := q
      rw [ho] at hk
      subst hk
      have I := outer_inv (by omega) _ ho
      have hfl := outer_full (most := 60) (by omega) ho
      have g1 := I.good.1
      have g2 := I.good.2.1
      refine ⟨f.length, rfl, g1, g2, hfl.symm, ?_, ?_⟩
      · rw [build_up hN g1 (by omega), outer_same (by omega) g1 ho (Nat.le_refl _)]
      · by_cases h1 : f.length = 1
        · rw [if_pos h1, h1]
          unfold buildR
          rw [if_neg (by rw [hN]; decide), if_pos (by omega)]
        · rw [if_neg h1, show ((f.length : Nat) : Int) - 1 = ((f.length - 1 : Nat) : Int) by omega, build_up hN (by omega) (by omega)]
          cases ho2 : outerUp N (f.length - 1) (f.length - 1 + 1) with
          | none => rfl
          | some q =>
            obtain ⟨f', nx', lb'⟩ := q
            exfalso
            have hm' := (outer_inv (by omega) _ ho2).good.2.1
            have h3 := outer_same (m2 := 60) (by omega) (by omega) ho2 (by omega)
            rw [ho] at h3
            simp only [Option.some.injEq, Prod.mk.injEq] at h3
            have := congrArg List.length h3.1
            omega
  · intro h0
    rw [e60] at h0 ⊢
    cases ho : outerUp N 60 61 with
    | some q => rw [ho] at h0; exact absurd rfl h0
    | none =>
      refine ⟨rfl, fun m h1 h2 => ?_⟩
      rw [build_up hN h1 (by omega)]
      cases ho2 : outerUp N m (m + 1) with
      | none => rfl
      | some q =>
        obtain ⟨f', nx', lb'⟩ := q
        exfalso
        have hm' := (outer_inv h1 _ ho2).good.2.1
        have h3 := outer_same (m2 := 60) h1 (by omega) ho2 (by omega)
        rw [ho] at h3; cases h3
end Go.Proofs.Ytmkgipoljbiocaa
/- A net that is right has short lists; is this a small net? -/
namespace Go.Proofs.Ytmkgipoljbiocaa
open Go.RowKit
set_option linter.unusedVariables false
set_option linter.unusedSimpArgs false

theorem pw_len2 (n : Int) : ∀ (l : List Int) (a : Int), l.Pairwise (· < ·) → (∀ z ∈ l, a ≤ z ∧ z < n) → a ≤ n → (l.length : Int) ≤ n - a := by
  intro l
  induction l with
  | nil => intro a _ _ ha; simp; omega
  | cons x l ih =>
    intro a hp hb ha
    obtain ⟨h1, h2⟩ := List.pairwise_cons.1 hp
    have hx := hb x (.head _)
    have := ih (x + 1) h2 (fun z hz => by have h3 := h1 z hz; have h4 := hb z (.tail _ hz); omega) (by omega)
    rw [List.length_cons]; push_cast; omega
theorem spots_len {N : NetS} {l : List Int} (h : spotsB N l = true) : l.length ≤ N.sets.length := by
  unfold spotsB at h
  simp only [Bool.and_eq_true, List.all_eq_true, decide_eq_true_eq] at h
  have := pw_len2 (N.sets.length : Int) l 0 ((ris_pw _).1 h.2) (fun z hz => h.1 z hz) (by omega)
  omega
theorem netR_short {N : NetS} (h : netR N = true) : N.first.length ≤ N.sets.length ∧ ∀ l ∈ N.fol, l.length ≤ N.sets.length := by
  have hl := netR_len h
  unfold netR at h
  simp only [Bool.and_eq_true, List.all_eq_true, List.mem_range] at h
  refine ⟨spots_len h.2.1, fun l hl2 => ?_⟩
  obtain ⟨i, hi⟩ := List.getElem?_of_mem hl2
  have := h.2.2 i (by have := (List.getElem?_eq_some_iff.1 hi).1; omega)
  unfold rowOk spotsO at this
  rw [hi] at this
  simp only [Bool.and_eq_true] at this
  exact spots_len this.2
def smallR (fn : Nat) (e : Ending) : Prop := ∃ b : Bool, e = .returned (.bool b) ∧ (b = true → fn ≤ 30)
set_option maxHeartbeats 4000000 in
set_option maxRecDepth 100000 in
theorem netsmall_any (w : World) (v : Nv) (N : NetS) (hv : NetAt w v N) :
    Calls Try.prog 7 #[.agg (netA v)] w fun e w' => smallR v.fn e ∧ Below w.heap.size w w' := by
  have HV := Lib.hid hv
  have hfn := hv.f.len.2
  have hrn := hv.r.2.1
  have hon := hv.o.2.1
  have hln := hv.l.2.1
  have hsn := hv.s.2.1
  obtain ⟨g, hg⟩ : ∃ g, w.heap.size = g := ⟨_, rfl⟩
  have HG := Lib.hid hg
  obtain ⟨W1, hW1, hs1, hb1, hx1⟩ := box_net hg v
  have HW1 := Lib.hid hW1
  have HB1 := Lib.hid hb1
  have HS1 := Lib.hid hs1
  have HX1 := Lib.hid hx1
  obtain ⟨n0, n1, n2, n3, n4⟩ := netC (W := W1) (g := g) (v := v) hx1
  rw [hW1] at n0 n1 n2 n3 n4
  clear hv hb1 hs1 hx1
  go_enter Try.func7, Try.ntmps7
  go_wp2
  rw [← hW1]
  clear hW1 n0 n1 n2 n3 n4
  go_loopw [3, 4] (fun nv iv wr => ∃ (k : Nat) (z : Int), k ≤ v.fn ∧ iv = .int .i64 (k : Int) ∧ nv = .int .i64 z ∧ Below (g + 1) W1 wr) (fun _ i _ => v.fn - (intOf i).toNat)
  case atStart => exact ⟨0, _, by omega, rfl, rfl, Below.refl _ _⟩
  case round =>
    obtain ⟨k, z, hk, rfl, rfl, hb⟩ := hrel
    have HB := Lib.hid hb
    have HT := Lib.hid (HB1.out.trans (hb.mono (by omega)))
    obtain ⟨n0, n1, n2, n3, n4⟩ := netC (W := wr) (g := g) (v := v) ((hb.block g (by omega)).trans HX1.out)
    clear hb
    by_cases hlt : k < v.fn
    · obtain ⟨b1, off, l, ha, hbl, hl, A, cc, hc, hr⟩ := (HV.out.f.below (by rw [HG.out]; exact HT.out)).at_ hlt
      rw [ha] at n3
      have z0 : (0 : Int) ≤ (k : Int) := by omega
      have z1 : (k : Int) < (v.fn : Int) := by omega
      clear hr hl ha
      go_wp2
      go_roundw
      case rel => exact ⟨k + 1, _, by omega, by go_num, rfl, HB.out⟩
      case measure => simp [intOf]; omega
    · have z1 : ¬ (k : Int) < (v.fn : Int) := by omega
      by_cases h30 : v.fn ≤ 30
      · have z2 : (v.fn : Int) ≤ 30 := by omega
        go_wp2
        go_ret
        exact ⟨⟨_, rfl, fun _ => h30⟩, by first | exact HT.out | (rw [HG.out]; exact HT.out)⟩
      · have z2 : ¬ (v.fn : Int) ≤ 30 := by omega
        go_wp2
        go_ret
        exact ⟨⟨false, rfl, fun h => by cases h⟩, by first | exact HT.out | (rw [HG.out]; exact HT.out)⟩
end Go.Proofs.Ytmkgipoljbiocaa
/- The law of the machine of any net. -/
namespace Go.Proofs.Ytmkgipoljbiocaa
open Go.RowKit Go.Sort Go.PlainAid
set_option linter.unusedVariables false
set_option linter.unusedSimpArgs false

attribute [local go_sem ↓] loadA_eq storeA_eq loadD_eq
set_option maxHeartbeats 8000000 in
set_option maxRecDepth 100000 in
theorem lawBuilds_any (w : World) (v : Nv) (N : NetS) (most : Int) (hv : NetAt w v N) (hfc : FCap w v.fa v.fn) :
    Calls Try.prog 3 #[.agg (netA v), .int .i64 most] w fun e w' => e = .returned (.bool true) ∧ Below w.heap.size w w' := by
  have HV := Lib.hid hv
  have HFC := Lib.hid hfc
  obtain ⟨g, hg⟩ : ∃ g, w.heap.size = g := ⟨_, rfl⟩
  have HG := Lib.hid hg
  obtain ⟨W1, hW1, hs1, hb1, hx1⟩ := box_net hg v
  have HSM := Lib.hid (netsmall_any W1 v N (hv.below (by rw [hg]; exact hb1)))
  have HW1 := Lib.hid hW1
  have HB1 := Lib.hid hb1
  have HS1 := Lib.hid hs1
  have HX1 := Lib.hid hx1
  obtain ⟨n0, n1, n2, n3, n4⟩ := netC (W := W1) (g := g) (v := v) hx1
  rw [hW1] at n0 n1 n2 n3 n4
  clear hv hfc hW1 hs1 hb1 hx1
  go_enter Try.func3, Try.ntmps3
  go_wp2_with fail
  rw [← HW1.out]
  refine HSM.out.mono ?_
  rintro e w2 ⟨⟨b, rfl, hbs⟩, hb2⟩
  have HBS := Lib.hid hbs
  have HB2 : Hid (Below g w w2) := Lib.hid (HB1.out.trans (hb2.mono (by have := HS1.out; omega)))
  have hgl : g < w2.heap.size := by have := hb2.size; have := HS1.out; omega
  have HX2 := Lib.hid ((hb2.block g (by have := HS1.out; omega)).trans HX1.out)
  have HK2 := Lib.hid (knows_any w2)
  clear hb2 hbs n0 n1 n2 n3 n4
  cases b with
  | false =>
    go_wp2_with fail
    refine HK2.out.mono ?_
    rintro e w3 ⟨rfl, hb3⟩
    have HB3 : Hid (Below g w w3) := Lib.hid (HB2.out.trans (hb3.mono (Nat.le_of_lt hgl)))
    clear hb3
    go_wp2
    go_ret
    exact ⟨rfl, by first | exact HB3.out | (rw [HG.out]; exact HB3.out)⟩
  | true =>
    have h30 := HBS.out rfl
    have HSZ1 : Hid (netR N = true → v.sn ≤ 1000 ∧ v.rn ≤ 100000) := Lib.hid fun h => by
      have h1 := (netR_short h).1
      have h2 := (netR_len h).2.2
      have h3 := HV.out.s.1
      have h4 := HV.out.r.1
      have h5 := HV.out.f.len.1
      omega
    have HSZ2 : Hid (netR N = true → v.sn ≤ 1000 ∧ ∀ l ∈ N.fol, l.length ≤ 1000) := Lib.hid fun h => by
      have h1 := (netR_short h).2
      have h2 := (netR_len h).2.2
      have h3 := HV.out.s.1
      have h5 := HV.out.f.len.1
      exact ⟨by omega, fun l hl => by have := h1 l hl; omega⟩
    clear h30
    obtain ⟨n0, n1, n2, n3, n4⟩ := netC (W := w2) (g := g) (v := v) HX2.out
    by_cases h60 : (60 : Int) < most
    · by_cases h4 : most ≤ 4096
      · have h4' : most ≤ 4096 := h4
        have HDB := Lib.hid (dbuild_if w2 v N (60) (HV.out.below (by rw [HG.out]; exact HB2.out)) (HFC.out.below (by rw [HG.out]; exact HB2.out)) HSZ1.out)
        have HRB := Lib.hid fun X (hX : Below g w X) => rbuild_if X v N (60) (HV.out.below (by rw [HG.out]; exact hX)) HSZ2.out
        have HCL := Lib.hid (build_cl N (60))
        have HRT := Lib.hid (@build_right N (60))
        obtain ⟨r, hr⟩ : ∃ r, buildR N (60) = r := ⟨_, rfl⟩
        rw [hr] at HDB HRB HCL HRT
        clear hr
        obtain ⟨M, kk, ee⟩ := r
        simp only at HDB HRB HCL HRT
        go_wp2_with fail
        refine HDB.out.mono ?_
        rintro e w4 ⟨D1, rfl, hM1, hb4⟩
        have HM1 := Lib.hid hM1
        have HB4 : Hid (Below g w w4) := Lib.hid (HB2.out.trans (hb4.mono (Nat.le_of_lt hgl)))
        have HC4 := Lib.hid ((hb4.block g hgl).trans HX2.out)
        have hg4 : g + 1 ≤ w4.heap.size := by have := hb4.size; omega
        clear hM1 hb4 n0 n1 n2 n3 n4
        obtain ⟨X1, hX1⟩ : ∃ X, w4.heap.size = X := ⟨_, rfl⟩
        have HX1 := Lib.hid hX1
        have hd5 : DfaAt (w4.alloc (.cells Try.zeroCells32 32)) X1 zeroD := by rw [zc_dfa]; exact DfaAt.new _ _ _ hX1
        have HD5 := Lib.hid hd5
        clear hd5
        go_wp2_with (refine wpList_store_dfa rfl _ _ rfl X1 zeroD D1 rfl rfl HD5.out ?_; intro w5 hD5 hB5 hO5 hS5; have hbz : Below w4.heap.size w4 w5 := ((Below.refl _ w4).alloc (Nat.le_refl _) _).trans (hB5 _ (by rw [HX1.out]; exact Nat.le_refl _)); have HZ5 := Lib.hid hbz; have HX5 := Lib.hid hD5; clear hD5 hB5 hO5 hS5 hbz; have HB5 : Hid (Below g w w5) := Lib.hid (HB4.out.trans (HZ5.out.mono (by omega))); have HM5 := Lib.hid (HM1.out.below HZ5.out); have HC5 := Lib.hid ((HZ5.out.block g (by omega)).trans HC4.out); have hg5 : g + 1 ≤ w5.heap.size := Nat.le_trans hg4 HZ5.out.size; obtain ⟨n0, n1, n2, n3, n4⟩ := netC (W := w5) (g := g) (v := v) HC5.out; have HRC := Lib.hid (HRB.out w5 HB5.out))
        refine HRC.out.mono ?_
        rintro e w6 ⟨D2, rfl, hM2, hb6⟩
        have HM2 := Lib.hid hM2
        have HM6 := Lib.hid (HM5.out.below hb6)
        have HX6 := Lib.hid (HX5.out.below hb6 HX5.out.lt)
        have HB6 : Hid (Below g w w6) := Lib.hid (HB5.out.trans (hb6.mono (by omega)))
        have hg6 : g + 1 ≤ w6.heap.size := by have := hb6.size; omega
        clear hM2 hb6 n0 n1 n2 n3 n4 HRC
        obtain ⟨X2, hX2⟩ : ∃ X, w6.heap.size = X := ⟨_, rfl⟩
        have HX2 := Lib.hid hX2
        have hd7 : DfaAt (w6.alloc (.cells Try.zeroCells32 32)) X2 zeroD := by rw [zc_dfa]; exact DfaAt.new _ _ _ hX2
        have HD7 := Lib.hid hd7
        clear hd7
        go_wp2_with (refine wpList_store_dfa rfl _ _ rfl X2 zeroD D2 rfl rfl HD7.out ?_; intro w7 hD5 hB5 hO5 hS5; have hbz : Below w6.heap.size w6 w7 := ((Below.refl _ w6).alloc (Nat.le_refl _) _).trans (hB5 _ (by rw [HX2.out]; exact Nat.le_refl _)); have HZ7 := Lib.hid hbz; have HX7 := Lib.hid hD5; clear hD5 hB5 hO5 hS5 hbz; have HB7 : Hid (Below g w w7) := Lib.hid (HB6.out.trans (HZ7.out.mono (by omega))); have HM7 := Lib.hid (HM6.out.below HZ7.out); have HN7 := Lib.hid (HM2.out.below HZ7.out); have HY7 := Lib.hid (HX6.out.below HZ7.out HX6.out.lt); have hg7 : g + 1 ≤ w7.heap.size := Nat.le_trans hg6 HZ7.out.size; have hl1 := run_loadD w7 X1 D1 HY7.out; have hl2 := run_loadD w7 X2 D2 HX7.out; have HSM := Lib.hid (rsameM_any w7 D1 D2 M HM7.out HN7.out HCL.out))
        refine HSM.out.mono ?_
        rintro e w8 ⟨rfl, hb8⟩
        have HB8 : Hid (Below g w w8) := Lib.hid (HB7.out.trans (hb8.mono (by omega)))
        have hg8 : g + 1 ≤ w8.heap.size := by have := hb8.size; omega
        have HM8 := Lib.hid (HM7.out.below hb8)
        have hl3 := run_loadD w8 X1 D1 (HY7.out.below hb8 HY7.out.lt)
        clear hb8 hl1 hl2 HSM
        by_cases he0 : ee = 0
        · have hRM := (HRT.out he0).1
          have HRI := Lib.hid (dright_any w8 D1 M HM8.out HCL.out)
          rw [hRM] at HRI
          have HE0 := Lib.hid he0
          have e1 : (ee == 0) = true := by rw [he0]; rfl
          have e2 : (ee != 0) = false := by rw [he0]; rfl
          clear he0 hRM
          go_wp2_with fail
          refine HRI.out.mono ?_
          rintro e w9 ⟨rfl, hb9⟩
          have HB9 : Hid (Below g w w9) := Lib.hid (HB8.out.trans (hb9.mono (by omega)))
          have hg9 : g + 1 ≤ w9.heap.size := by have := hb9.size; omega
          have HKN := Lib.hid (knows_any w9)
          clear hb9 hl3
          go_wp2_with fail
          refine HKN.out.mono ?_
          rintro e w10 ⟨rfl, hb10⟩
          have HBN : Hid (Below g w w10) := Lib.hid (HB9.out.trans (hb10.mono (by omega)))
          clear hb10
          go_wp2
          go_ret
          exact ⟨rfl, by first | exact HBN.out | (rw [HG.out]; exact HBN.out)⟩
        · have e1 : (ee == 0) = false := by rw [beq_eq_false_iff_ne]; exact he0
          have e2 : (ee != 0) = true := by rw [bne, e1]; rfl
          have HKN := Lib.hid (knows_any w8)
          clear he0
          go_wp2_with fail
          refine HKN.out.mono ?_
          rintro e w10 ⟨rfl, hb10⟩
          have HBN : Hid (Below g w w10) := Lib.hid (HB8.out.trans (hb10.mono (by omega)))
          clear hb10
          go_wp2
          go_ret
          exact ⟨rfl, by first | exact HBN.out | (rw [HG.out]; exact HBN.out)⟩
      · have h4' : ¬ most ≤ 4096 := h4
        have HDB := Lib.hid (dbuild_if w2 v N (most) (HV.out.below (by rw [HG.out]; exact HB2.out)) (HFC.out.below (by rw [HG.out]; exact HB2.out)) HSZ1.out)
        have HRB := Lib.hid fun X (hX : Below g w X) => rbuild_if X v N (most) (HV.out.below (by rw [HG.out]; exact hX)) HSZ2.out
        have HCL := Lib.hid (build_cl N (most))
        have HRT := Lib.hid (@build_right N (most))
        obtain ⟨r, hr⟩ : ∃ r, buildR N (most) = r := ⟨_, rfl⟩
        rw [hr] at HDB HRB HCL HRT
        clear hr
        obtain ⟨M, kk, ee⟩ := r
        simp only at HDB HRB HCL HRT
        go_wp2_with fail
        refine HDB.out.mono ?_
        rintro e w4 ⟨D1, rfl, hM1, hb4⟩
        have HM1 := Lib.hid hM1
        have HB4 : Hid (Below g w w4) := Lib.hid (HB2.out.trans (hb4.mono (Nat.le_of_lt hgl)))
        have HC4 := Lib.hid ((hb4.block g hgl).trans HX2.out)
        have hg4 : g + 1 ≤ w4.heap.size := by have := hb4.size; omega
        clear hM1 hb4 n0 n1 n2 n3 n4
        obtain ⟨X1, hX1⟩ : ∃ X, w4.heap.size = X := ⟨_, rfl⟩
        have HX1 := Lib.hid hX1
        have hd5 : DfaAt (w4.alloc (.cells Try.zeroCells32 32)) X1 zeroD := by rw [zc_dfa]; exact DfaAt.new _ _ _ hX1
        have HD5 := Lib.hid hd5
        clear hd5
        go_wp2_with (refine wpList_store_dfa rfl _ _ rfl X1 zeroD D1 rfl rfl HD5.out ?_; intro w5 hD5 hB5 hO5 hS5; have hbz : Below w4.heap.size w4 w5 := ((Below.refl _ w4).alloc (Nat.le_refl _) _).trans (hB5 _ (by rw [HX1.out]; exact Nat.le_refl _)); have HZ5 := Lib.hid hbz; have HX5 := Lib.hid hD5; clear hD5 hB5 hO5 hS5 hbz; have HB5 : Hid (Below g w w5) := Lib.hid (HB4.out.trans (HZ5.out.mono (by omega))); have HM5 := Lib.hid (HM1.out.below HZ5.out); have HC5 := Lib.hid ((HZ5.out.block g (by omega)).trans HC4.out); have hg5 : g + 1 ≤ w5.heap.size := Nat.le_trans hg4 HZ5.out.size; obtain ⟨n0, n1, n2, n3, n4⟩ := netC (W := w5) (g := g) (v := v) HC5.out; have HRC := Lib.hid (HRB.out w5 HB5.out))
        refine HRC.out.mono ?_
        rintro e w6 ⟨D2, rfl, hM2, hb6⟩
        have HM2 := Lib.hid hM2
        have HM6 := Lib.hid (HM5.out.below hb6)
        have HX6 := Lib.hid (HX5.out.below hb6 HX5.out.lt)
        have HB6 : Hid (Below g w w6) := Lib.hid (HB5.out.trans (hb6.mono (by omega)))
        have hg6 : g + 1 ≤ w6.heap.size := by have := hb6.size; omega
        clear hM2 hb6 n0 n1 n2 n3 n4 HRC
        obtain ⟨X2, hX2⟩ : ∃ X, w6.heap.size = X := ⟨_, rfl⟩
        have HX2 := Lib.hid hX2
        have hd7 : DfaAt (w6.alloc (.cells Try.zeroCells32 32)) X2 zeroD := by rw [zc_dfa]; exact DfaAt.new _ _ _ hX2
        have HD7 := Lib.hid hd7
        clear hd7
        go_wp2_with (refine wpList_store_dfa rfl _ _ rfl X2 zeroD D2 rfl rfl HD7.out ?_; intro w7 hD5 hB5 hO5 hS5; have hbz : Below w6.heap.size w6 w7 := ((Below.refl _ w6).alloc (Nat.le_refl _) _).trans (hB5 _ (by rw [HX2.out]; exact Nat.le_refl _)); have HZ7 := Lib.hid hbz; have HX7 := Lib.hid hD5; clear hD5 hB5 hO5 hS5 hbz; have HB7 : Hid (Below g w w7) := Lib.hid (HB6.out.trans (HZ7.out.mono (by omega))); have HM7 := Lib.hid (HM6.out.below HZ7.out); have HN7 := Lib.hid (HM2.out.below HZ7.out); have HY7 := Lib.hid (HX6.out.below HZ7.out HX6.out.lt); have hg7 : g + 1 ≤ w7.heap.size := Nat.le_trans hg6 HZ7.out.size; have hl1 := run_loadD w7 X1 D1 HY7.out; have hl2 := run_loadD w7 X2 D2 HX7.out; have HSM := Lib.hid (rsameM_any w7 D1 D2 M HM7.out HN7.out HCL.out))
        refine HSM.out.mono ?_
        rintro e w8 ⟨rfl, hb8⟩
        have HB8 : Hid (Below g w w8) := Lib.hid (HB7.out.trans (hb8.mono (by omega)))
        have hg8 : g + 1 ≤ w8.heap.size := by have := hb8.size; omega
        have HM8 := Lib.hid (HM7.out.below hb8)
        have hl3 := run_loadD w8 X1 D1 (HY7.out.below hb8 HY7.out.lt)
        clear hb8 hl1 hl2 HSM
        by_cases he0 : ee = 0
        · have hRM := (HRT.out he0).1
          have HRI := Lib.hid (dright_any w8 D1 M HM8.out HCL.out)
          rw [hRM] at HRI
          have HE0 := Lib.hid he0
          have e1 : (ee == 0) = true := by rw [he0]; rfl
          have e2 : (ee != 0) = false := by rw [he0]; rfl
          clear he0 hRM
          go_wp2_with fail
          refine HRI.out.mono ?_
          rintro e w9 ⟨rfl, hb9⟩
          have HB9 : Hid (Below g w w9) := Lib.hid (HB8.out.trans (hb9.mono (by omega)))
          have hg9 : g + 1 ≤ w9.heap.size := by have := hb9.size; omega
          have HKN := Lib.hid (knows_any w9)
          clear hb9 hl3
          go_wp2_with fail
          refine HKN.out.mono ?_
          rintro e w10 ⟨rfl, hb10⟩
          have HBN : Hid (Below g w w10) := Lib.hid (HB9.out.trans (hb10.mono (by omega)))
          clear hb10
          go_wp2
          go_ret
          exact ⟨rfl, by first | exact HBN.out | (rw [HG.out]; exact HBN.out)⟩
        · have e1 : (ee == 0) = false := by rw [beq_eq_false_iff_ne]; exact he0
          have e2 : (ee != 0) = true := by rw [bne, e1]; rfl
          have HKN := Lib.hid (knows_any w8)
          clear he0
          go_wp2_with fail
          refine HKN.out.mono ?_
          rintro e w10 ⟨rfl, hb10⟩
          have HBN : Hid (Below g w w10) := Lib.hid (HB8.out.trans (hb10.mono (by omega)))
          clear hb10
          go_wp2
          go_ret
          exact ⟨rfl, by first | exact HBN.out | (rw [HG.out]; exact HBN.out)⟩
    · have h60' : ¬ (60 : Int) < most := h60
      have HDB := Lib.hid (dbuild_if w2 v N (most) (HV.out.below (by rw [HG.out]; exact HB2.out)) (HFC.out.below (by rw [HG.out]; exact HB2.out)) HSZ1.out)
      have HRB := Lib.hid fun X (hX : Below g w X) => rbuild_if X v N (most) (HV.out.below (by rw [HG.out]; exact hX)) HSZ2.out
      have HCL := Lib.hid (build_cl N (most))
      have HRT := Lib.hid (@build_right N (most))
      obtain ⟨r, hr⟩ : ∃ r, buildR N (most) = r := ⟨_, rfl⟩
      rw [hr] at HDB HRB HCL HRT
      clear hr
      obtain ⟨M, kk, ee⟩ := r
      simp only at HDB HRB HCL HRT
      go_wp2_with fail
      refine HDB.out.mono ?_
      rintro e w4 ⟨D1, rfl, hM1, hb4⟩
      have HM1 := Lib.hid hM1
      have HB4 : Hid (Below g w w4) := Lib.hid (HB2.out.trans (hb4.mono (Nat.le_of_lt hgl)))
      have HC4 := Lib.hid ((hb4.block g hgl).trans HX2.out)
      have hg4 : g + 1 ≤ w4.heap.size := by have := hb4.size; omega
      clear hM1 hb4 n0 n1 n2 n3 n4
      obtain ⟨X1, hX1⟩ : ∃ X, w4.heap.size = X := ⟨_, rfl⟩
      have HX1 := Lib.hid hX1
      have hd5 : DfaAt (w4.alloc (.cells Try.zeroCells32 32)) X1 zeroD := by rw [zc_dfa]; exact DfaAt.new _ _ _ hX1
      have HD5 := Lib.hid hd5
      clear hd5
      go_wp2_with (refine wpList_store_dfa rfl _ _ rfl X1 zeroD D1 rfl rfl HD5.out ?_; intro w5 hD5 hB5 hO5 hS5; have hbz : Below w4.heap.size w4 w5 := ((Below.refl _ w4).alloc (Nat.le_refl _) _).trans (hB5 _ (by rw [HX1.out]; exact Nat.le_refl _)); have HZ5 := Lib.hid hbz; have HX5 := Lib.hid hD5; clear hD5 hB5 hO5 hS5 hbz; have HB5 : Hid (Below g w w5) := Lib.hid (HB4.out.trans (HZ5.out.mono (by omega))); have HM5 := Lib.hid (HM1.out.below HZ5.out); have HC5 := Lib.hid ((HZ5.out.block g (by omega)).trans HC4.out); have hg5 : g + 1 ≤ w5.heap.size := Nat.le_trans hg4 HZ5.out.size; obtain ⟨n0, n1, n2, n3, n4⟩ := netC (W := w5) (g := g) (v := v) HC5.out; have HRC := Lib.hid (HRB.out w5 HB5.out))
      refine HRC.out.mono ?_
      rintro e w6 ⟨D2, rfl, hM2, hb6⟩
      have HM2 := Lib.hid hM2
      have HM6 := Lib.hid (HM5.out.below hb6)
      have HX6 := Lib.hid (HX5.out.below hb6 HX5.out.lt)
      have HB6 : Hid (Below g w w6) := Lib.hid (HB5.out.trans (hb6.mono (by omega)))
      have hg6 : g + 1 ≤ w6.heap.size := by have := hb6.size; omega
      clear hM2 hb6 n0 n1 n2 n3 n4 HRC
      obtain ⟨X2, hX2⟩ : ∃ X, w6.heap.size = X := ⟨_, rfl⟩
      have HX2 := Lib.hid hX2
      have hd7 : DfaAt (w6.alloc (.cells Try.zeroCells32 32)) X2 zeroD := by rw [zc_dfa]; exact DfaAt.new _ _ _ hX2
      have HD7 := Lib.hid hd7
      clear hd7
      go_wp2_with (refine wpList_store_dfa rfl _ _ rfl X2 zeroD D2 rfl rfl HD7.out ?_; intro w7 hD5 hB5 hO5 hS5; have hbz : Below w6.heap.size w6 w7 := ((Below.refl _ w6).alloc (Nat.le_refl _) _).trans (hB5 _ (by rw [HX2.out]; exact Nat.le_refl _)); have HZ7 := Lib.hid hbz; have HX7 := Lib.hid hD5; clear hD5 hB5 hO5 hS5 hbz; have HB7 : Hid (Below g w w7) := Lib.hid (HB6.out.trans (HZ7.out.mono (by omega))); have HM7 := Lib.hid (HM6.out.below HZ7.out); have HN7 := Lib.hid (HM2.out.below HZ7.out); have HY7 := Lib.hid (HX6.out.below HZ7.out HX6.out.lt); have hg7 : g + 1 ≤ w7.heap.size := Nat.le_trans hg6 HZ7.out.size; have hl1 := run_loadD w7 X1 D1 HY7.out; have hl2 := run_loadD w7 X2 D2 HX7.out; have HSM := Lib.hid (rsameM_any w7 D1 D2 M HM7.out HN7.out HCL.out))
      refine HSM.out.mono ?_
      rintro e w8 ⟨rfl, hb8⟩
      have HB8 : Hid (Below g w w8) := Lib.hid (HB7.out.trans (hb8.mono (by omega)))
      have hg8 : g + 1 ≤ w8.heap.size := by have := hb8.size; omega
      have HM8 := Lib.hid (HM7.out.below hb8)
      have hl3 := run_loadD w8 X1 D1 (HY7.out.below hb8 HY7.out.lt)
      clear hb8 hl1 hl2 HSM
      by_cases he0 : ee = 0
      · have hRM := (HRT.out he0).1
        have HRI := Lib.hid (dright_any w8 D1 M HM8.out HCL.out)
        rw [hRM] at HRI
        have HE0 := Lib.hid he0
        have e1 : (ee == 0) = true := by rw [he0]; rfl
        have e2 : (ee != 0) = false := by rw [he0]; rfl
        clear he0 hRM
        go_wp2_with fail
        refine HRI.out.mono ?_
        rintro e w9 ⟨rfl, hb9⟩
        have HB9 : Hid (Below g w w9) := Lib.hid (HB8.out.trans (hb9.mono (by omega)))
        have hg9 : g + 1 ≤ w9.heap.size := by have := hb9.size; omega
        have HKN := Lib.hid (knows_any w9)
        clear hb9 hl3
        go_wp2_with fail
        refine HKN.out.mono ?_
        rintro e w10 ⟨rfl, hb10⟩
        have HBN : Hid (Below g w w10) := Lib.hid (HB9.out.trans (hb10.mono (by omega)))
        clear hb10
        go_wp2
        go_ret
        exact ⟨rfl, by first | exact HBN.out | (rw [HG.out]; exact HBN.out)⟩
      · have e1 : (ee == 0) = false := by rw [beq_eq_false_iff_ne]; exact he0
        have e2 : (ee != 0) = true := by rw [bne, e1]; rfl
        have HKN := Lib.hid (knows_any w8)
        clear he0
        go_wp2_with fail
        refine HKN.out.mono ?_
        rintro e w10 ⟨rfl, hb10⟩
        have HBN : Hid (Below g w w10) := Lib.hid (HB8.out.trans (hb10.mono (by omega)))
        clear hb10
        go_wp2
        go_ret
        exact ⟨rfl, by first | exact HBN.out | (rw [HG.out]; exact HBN.out)⟩
end Go.Proofs.Ytmkgipoljbiocaa
/- A machine, a piece, a list of numbers, and a list of such, that came in, opened. -/
namespace Go.Proofs.Ytmkgipoljbiocaa
open Go.RowKit Go.ChangeShapes Go.WideShapes Go.Deep

theorem okWide_arr {P : Program} {w : World} {r : Reach} {base : Nat} {t : TypeId} {v : Value} {n : Nat} {e : TypeId} (ht : P.underlying t = some (.array n e)) (h : Value.okWide P w r base t v) : ∃ cs, v = .agg cs ∧ cs.size = P.cellsOf t := by
  unfold Value.okWide at h
  simp only [ht] at h
  obtain ⟨cs, rfl, h1, _⟩ := h
  exact ⟨cs, rfl, h1⟩
theorem cellsArr : Try.prog.cellsOf 30 = 256 := by kernel_rfl
theorem cellsU8 : Try.prog.cellsOf 5 = 1 := by kernel_rfl
set_option maxRecDepth 100000 in
theorem arr_open {H : Type} {enc : TypeId × Value → H} {W : World} {fuel : Nat} {cs : Array Value} {x : DataW H × List MemPlace}
    (h : DataW.trod enc Try.prog W 0 (fun _ => true) true fuel 30 cs.toList = some x) : ∃ C : Nat → Nat, cs = arrC C ∧ ∀ i, C i < 256 := by
  obtain ⟨xs, m, rfl, rfl, hl, hx, hi⟩ := DataW.trod_array Try.underlying30 h
  rw [cellsArr] at hl
  rw [cellsU8] at hi
  have hsz : cs.size = 256 := by simpa using hl
  refine arrC_of cs hsz fun i hic => ?_
  have hh := hi i (by omega)
  rw [List.getElem?_eq_getElem (show i < xs.length by omega)] at hh
  obtain ⟨n, e, _, wn⟩ := DataW.trod_int Try.underlying5 hh
  have he : cs[i] = .int .u8 n := by
    have h2 : (List.take 1 (List.drop (i * 1) cs.toList))[0]? = some (.int .u8 n) := by rw [e]; rfl
    rw [List.getElem?_take_of_lt (by omega), List.getElem?_drop] at h2
    simpa [hic] using h2
  have hb := bounds_u8 wn
  exact ⟨n.toNat, by rw [he]; congr 1; omega, by omega⟩
theorem cells_int : Try.prog.cellsOf 3 = 1 := by kernel_rfl
theorem cells_ints : Try.prog.cellsOf 23 = 1 := by kernel_rfl
theorem cells_intss : Try.prog.cellsOf 25 = 1 := by kernel_rfl
theorem cells_dfa : Try.prog.cellsOf 32 = 259 := by kernel_rfl
section
variable {H : Type} {enc : TypeId × Value → H} {W : World} {fuel : Nat}
theorem ints_open {a : Option Addr} {len cap : Nat} {x : DataW H × List MemPlace} (h : DataW.trod enc Try.prog W 0 (fun _ => true) true fuel 23 [.slice a len cap] = some x) : ∃ zs, CRow intC 1 W a len zs := by
  obtain ⟨os, ho, _⟩ := crow_open (C := intC) (G := fun _ => True) Try.underlying23 cells_int (by decide) (fun n cs y hy hl => by
    match cs, hl with
    | [c0], _ =>
      obtain ⟨k, e0, _, _⟩ := DataW.trod_int Try.underlying3 hy
      exact ⟨k, e0, trivial⟩) h
  exact ⟨os, ho⟩
theorem intss_open {a : Option Addr} {len cap : Nat} {x : DataW H × List MemPlace} (h : DataW.trod enc Try.prog W 0 (fun _ => true) true fuel 25 [.slice a len cap] = some x) : ∃ ls, NRow intC 1 W a len ls := by
  obtain ⟨os, ho, hg, _⟩ := crow_open (C := seC (α := Int)) (G := fun o => CRow intC 1 W o.a o.l o.xs) Try.underlying25 cells_ints (by decide) (fun n cs y hy hl => by
    match cs, hl with
    | [c0], _ =>
      obtain ⟨a, l, c, e0⟩ := Joins.slice_form Try.underlying23 hy
      simp at e0
      subst e0
      obtain ⟨zs, hz⟩ := ints_open hy
      exact ⟨⟨a, l, c, zs⟩, rfl, hz⟩) h
  exact ⟨_, os, ho, hg, rfl⟩
theorem at_one {cs : Array Value} {k : Nat} {v : Value} (h : (cs.toList.drop k).take 1 = [v]) : cs[k]? = some v := by
  have h1 := congrArg (fun l => l[0]?) h
  simp only [List.getElem?_cons_zero] at h1
  rw [List.getElem?_take_of_lt (by omega), List.getElem?_drop, Nat.add_zero, Array.getElem?_toList] at h1
  exact h1
set_option maxRecDepth 100000 in
theorem dfa_open {cs : Array Value} {x : DataW H × List MemPlace} (h : DataW.trod enc Try.prog W 0 (fun _ => true) true fuel 32 cs.toList = some x) (hs : cs.size = 259) :
    ∃ (D : Df) (M : MS), cs = dfA D ∧ MAt W D M ∧ ∀ i, M.cl i < 256 := by
  obtain ⟨y0, y1, y2, y3, n, rfl, hl, g0, g1, g2, g3⟩ := Joins.trod_struct4 Try.underlying32 h
  simp only [cellsArr, cells_int, cells_intss, cells_ints] at g0 g1 g2 g3
  obtain ⟨C, hC, hlt⟩ := arr_open (cs := ((cs.toList.drop 0).take 256).toArray) (by simpa using g0)
  obtain ⟨z, e1, _, _⟩ := DataW.trod_int Try.underlying3 g1
  obtain ⟨na, nl, nc, e2⟩ := Joins.slice_form Try.underlying25 g2
  obtain ⟨la, ll, lc, e3⟩ := Joins.slice_form Try.underlying23 g3
  rw [e2] at g2
  rw [e3] at g3
  obtain ⟨ls, hls⟩ := intss_open g2
  obtain ⟨zs, hzs⟩ := ints_open g3
  refine ⟨⟨C, z, na, nl, nc, la, ll, lc⟩, ⟨C, z, ls, zs⟩, dfA_ext hs (fun i hi => ?_) (at_one e1) (at_one e2) (at_one e3), ⟨rfl, rfl, hls, hzs⟩, hlt⟩
  have h1 := congrArg (fun A => A[i]?) hC
  simp only [arrC_at C i hi, List.drop_zero, List.getElem?_toArray] at h1
  rw [List.getElem?_take_of_lt hi, Array.getElem?_toList] at h1
  exact h1
end
end Go.Proofs.Ytmkgipoljbiocaa
/- An argument that is a slice of sets, opened. -/
namespace Go.Proofs.Ytmkgipoljbiocaa
open Go.RowKit Go.ChangeShapes Go.WideShapes Go.Deep

theorem cellsSet : Try.prog.cellsOf 74 = 4 := by kernel_rfl
theorem cellsU64 : Try.prog.cellsOf 72 = 1 := by kernel_rfl
theorem nat_of_wf {n : Int} (h : (Lit.int .u64 n).wf = true) : ∃ m : Nat, n = m ∧ m < 18446744073709551616 := by
  have := bounds_u64 h
  exact ⟨n.toNat, by omega, by omega⟩
set_option maxRecDepth 10000 in
theorem set_open {H : Type} {enc : TypeId × Value → H} {W : World} {fuel : Nat} {cs : List Value} {x : DataW H × List MemPlace}
    (h : DataW.trod enc Try.prog W 0 (fun _ => true) true fuel 74 cs = some x) : ∃ S : Nat → Bool, cs = [.int .u64 (wd S 0), .int .u64 (wd S 1), .int .u64 (wd S 2), .int .u64 (wd S 3)] := by
  obtain ⟨xs, m, rfl, rfl, hl, hx, hi⟩ := DataW.trod_array Try.underlying74 h
  rw [cellsSet] at hl
  rw [cellsU64] at hi
  match cs, hl with
  | [c0, c1, c2, c3], _ =>
    have g : ∀ i (h : i < 4), ∃ n : Int, [c0, c1, c2, c3][i]? = some (.int .u64 n) ∧ (Lit.int .u64 n).wf = true := by
      intro i h4
      have hh := hi i h4
      rw [List.getElem?_eq_getElem (show i < xs.length by omega)] at hh
      have hi4 : i = 0 ∨ i = 1 ∨ i = 2 ∨ i = 3 := by omega
      rcases hi4 with rfl | rfl | rfl | rfl
      all_goals
        obtain ⟨n, e, _, wn⟩ := DataW.trod_int Try.underlying72 hh
        simp at e
        exact ⟨n, by simp [e], wn⟩
    obtain ⟨n0, e0, w0⟩ := g 0 (by omega)
    obtain ⟨n1, e1, w1⟩ := g 1 (by omega)
    obtain ⟨n2, e2, w2⟩ := g 2 (by omega)
    obtain ⟨n3, e3, w3⟩ := g 3 (by omega)
    simp at e0 e1 e2 e3
    subst e0 e1 e2 e3
    obtain ⟨m0, rfl, l0⟩ := nat_of_wf w0
    obtain ⟨m1, rfl, l1⟩ := nat_of_wf w1
    obtain ⟨m2, rfl, l2⟩ := nat_of_wf w2
    obtain ⟨m3, rfl, l3⟩ := nat_of_wf w3
    refine ⟨ofWords fun i => if i = 0 then m0 else if i = 1 then m1 else if i = 2 then m2 else m3, ?_⟩
    rw [wd_ofWords _ 0 (by simpa using l0), wd_ofWords _ 1 (by simpa using l1), wd_ofWords _ 2 (by simpa using l2), wd_ofWords _ 3 (by simpa using l3)]
    rfl
theorem srow_open {H : Type} {enc : TypeId × Value → H} {W : World} {fuel : Nat} {a : Option Addr} {len cap : Nat} {x : DataW H × List MemPlace}
    (h : DataW.trod enc Try.prog W 0 (fun _ => true) true fuel 22 [.slice a len cap] = some x) : ∃ ls, SRow W a len ls := by
  rcases open_slice Try.underlying22 h with ⟨hcs, _⟩ | ⟨b, l, c, m, n, D, Pl, hcs, hb, hl, hm, hmm, _, hi⟩
  · simp at hcs
    obtain ⟨rfl, rfl, rfl⟩ := hcs
    exact ⟨[], rfl, by decide, fun h => absurd h (by decide)⟩
  · simp at hcs
    obtain ⟨rfl, rfl, rfl⟩ := hcs
    rw [cellsSet] at hi
    have hm' : m = cap := by simpa using hmm
    have key : ∀ i, i < len → ∃ S : Nat → Bool, ∀ j, j < 4 → W.cell? (b.add (i * 4 + j)) = some (.int .u64 (wd S j)) := by
      intro i hil
      obtain ⟨cs', h1, h2⟩ := hi i (by omega)
      obtain ⟨S, rfl⟩ := set_open h2
      refine ⟨S, fun j hj => ?_⟩
      have := (World.cells?_some h1).2.2 j (by simpa using hj)
      first | rw [Addr.add_add] at this | rw [Go.Deep.add_add] at this | rw [add_add] at this
      rw [this]
      have hj4 : j = 0 ∨ j = 1 ∨ j = 2 ∨ j = 3 := by omega
      rcases hj4 with rfl | rfl | rfl | rfl <;> rfl
    obtain ⟨F, hF⟩ := choose_lt (α := Nat → Bool) (p := fun i S => ∀ j, j < 4 → W.cell? (b.add (i * 4 + j)) = some (.int .u64 (wd S j))) key
    refine ⟨(List.range len).map F, by simp, ?_, fun hp => ?_⟩
    · have hml : maxLen ≤ 9223372036854775807 := by decide
      omega
    obtain ⟨b0, off, spot⟩ := b
    have hspot : spot = none := by simpa [Addr.add] using World.cell?_spot (hF 0 hp 0 (by omega))
    subst hspot
    refine ⟨b0, off, rfl, World.block_lt_of_cell? W _ (hF 0 hp 0 (by omega)), fun i S hi j hj => ?_⟩
    have hil : i < len := by
      have := (List.getElem?_eq_some_iff.1 hi).1
      simpa using this
    have hS : S = F i := by
      rw [List.getElem?_map, List.getElem?_range hil] at hi
      simpa using hi.symm
    rw [hS, show off + i * 4 + j = off + (i * 4 + j) by omega, ← Go.WideShapes.add_plain]
    exact hF i hil j hj
end Go.Proofs.Ytmkgipoljbiocaa
/- A net that came in, opened. -/
namespace Go.Proofs.Ytmkgipoljbiocaa
open Go.RowKit Go.ChangeShapes Go.WideShapes Go.Deep
theorem cells_sets : Try.prog.cellsOf 22 = 1 := by kernel_rfl
theorem cells_bool : Try.prog.cellsOf 4 = 1 := by kernel_rfl
theorem cells_bools : Try.prog.cellsOf 24 = 1 := by kernel_rfl
theorem cells_net : Try.prog.cellsOf 27 = 5 := by kernel_rfl
section
variable {H : Type} {enc : TypeId × Value → H} {W : World} {fuel : Nat}
theorem trod_struct5 {P : Program} {w : World} {base : Nat} {spare : Nat → Bool} {held : Bool} {t : TypeId} {f0 f1 f2 f3 f4 : Field} {fuel : Nat} {cs : List Value} {x : DataW H × List MemPlace} (ht : P.underlying t = some (.struct #[f0, f1, f2, f3, f4])) (h : DataW.trod enc P w base spare held fuel t cs = some x) :
    ∃ y0 y1 y2 y3 y4 n, cs.length = P.cellsOf t ∧ DataW.trod enc P w base spare held n f0.type ((cs.drop f0.offset).take (P.cellsOf f0.type)) = some y0 ∧
      DataW.trod enc P w base spare held n f1.type ((cs.drop f1.offset).take (P.cellsOf f1.type)) = some y1 ∧ DataW.trod enc P w base spare held n f2.type ((cs.drop f2.offset).take (P.cellsOf f2.type)) = some y2 ∧
      DataW.trod enc P w base spare held n f3.type ((cs.drop f3.offset).take (P.cellsOf f3.type)) = some y3 ∧ DataW.trod enc P w base spare held n f4.type ((cs.drop f4.offset).take (P.cellsOf f4.type)) = some y4 := by
  obtain ⟨xs, n, _, rfl, hl, hlen, hf⟩ := DataW.trod_struct ht h
  match xs, hlen with
  | [y0, y1, y2, y3, y4], _ => exact ⟨y0, y1, y2, y3, y4, n, hl, by simpa using hf 0 f0 rfl, by simpa using hf 1 f1 rfl, by simpa using hf 2 f2 rfl, by simpa using hf 3 f3 rfl, by simpa using hf 4 f4 rfl⟩
theorem ints_open2 {a : Option Addr} {len cap : Nat} {x : DataW H × List MemPlace} (h : DataW.trod enc Try.prog W 0 (fun _ => true) true fuel 23 [.slice a len cap] = some x) : ∃ zs, CRow intC 1 W a len zs ∧ len ≤ cap ∧ cap ≤ 9223372036854775807 := by
  obtain ⟨os, ho, _, hc⟩ := crow_open (C := intC) (G := fun _ => True) Try.underlying23 cells_int (by decide) (fun n cs y hy hl => by
    match cs, hl with
    | [c0], _ =>
      obtain ⟨k, e0, _, _⟩ := DataW.trod_int Try.underlying3 hy
      exact ⟨k, e0, trivial⟩) h
  exact ⟨os, ho, hc⟩
theorem bools_open {a : Option Addr} {len cap : Nat} {x : DataW H × List MemPlace} (h : DataW.trod enc Try.prog W 0 (fun _ => true) true fuel 24 [.slice a len cap] = some x) : ∃ zs, CRow bolC 1 W a len zs := by
  obtain ⟨os, ho, _⟩ := crow_open (C := bolC) (G := fun _ => True) Try.underlying24 cells_bool (by decide) (fun n cs y hy hl => by
    match cs, hl with
    | [c0], _ =>
      obtain ⟨k, e0, _⟩ := DataW.trod_bool Try.underlying4 hy
      exact ⟨k, e0, trivial⟩) h
  exact ⟨os, ho⟩
theorem intss_open2 {a : Option Addr} {len cap : Nat} {x : DataW H × List MemPlace} (h : DataW.trod enc Try.prog W 0 (fun _ => true) true fuel 25 [.slice a len cap] = some x) : ∃ ls, NRow intC 1 W a len ls ∧ FCap W a len := by
  obtain ⟨os, ho, hg, _⟩ := crow_open (C := seC (α := Int)) (G := fun o => CRow intC 1 W o.a o.l o.xs ∧ o.l ≤ o.c ∧ o.c ≤ 9223372036854775807) Try.underlying25 cells_ints (by decide) (fun n cs y hy hl => by
    match cs, hl with
    | [c0], _ =>
      obtain ⟨a, l, c, e0⟩ := Joins.slice_form Try.underlying23 hy
      simp at e0
      subst e0
      obtain ⟨zs, hz, hc⟩ := ints_open2 hy
      exact ⟨⟨a, l, c, zs⟩, rfl, hz, hc⟩) h
  refine ⟨_, ⟨os, ho, fun o h => (hg o h).1, rfl⟩, fun i b off hi ha => ?_⟩
  obtain ⟨hlen, _, hc⟩ := ho
  obtain ⟨b', off', e, hlt, hc⟩ := hc (by omega)
  rw [ha] at e
  simp only [Option.some.injEq, Addr.mk.injEq, and_true] at e
  obtain ⟨rfl, rfl⟩ := e
  refine ⟨hlt, fun A l c he => ?_⟩
  obtain ⟨o, ho⟩ : ∃ o, os[i]? = some o := ⟨_, List.getElem?_eq_getElem (by omega)⟩
  have hcell := hc i o ho 0 (.slice o.a o.l o.c) rfl
  rw [Nat.mul_one, Nat.add_zero] at hcell
  rw [hcell] at he
  simp only [Option.some.injEq, Value.slice.injEq] at he
  obtain ⟨rfl, rfl, rfl⟩ := he
  exact (hg o (List.mem_of_getElem? ho)).2
theorem net_open {cs : Array Value} {x : DataW H × List MemPlace} (h : DataW.trod enc Try.prog W 0 (fun _ => true) true fuel 27 cs.toList = some x) (hs : cs.size = 5) :
    ∃ (v : Nv) (N : NetS), cs = netA v ∧ NetAt W v N ∧ FCap W v.fa v.fn := by
  obtain ⟨y0, y1, y2, y3, y4, n, hl, g0, g1, g2, g3, g4⟩ := trod_struct5 Try.underlying27 h
  simp only [cells_sets, cells_ints, cells_bools, cells_intss] at g0 g1 g2 g3 g4
  obtain ⟨sa, sn, sc, e0⟩ := Joins.slice_form Try.underlying22 g0
  obtain ⟨oa, on, oc, e1⟩ := Joins.slice_form Try.underlying23 g1
  obtain ⟨la, ln, lc, e2⟩ := Joins.slice_form Try.underlying24 g2
  obtain ⟨fa, fn, fc, e3⟩ := Joins.slice_form Try.underlying25 g3
  obtain ⟨ra, rn, rc, e4⟩ := Joins.slice_form Try.underlying23 g4
  rw [e0] at g0
  rw [e1] at g1
  rw [e2] at g2
  rw [e3] at g3
  rw [e4] at g4
  obtain ⟨s, hss⟩ := srow_open g0
  obtain ⟨o, ho⟩ := ints_open g1
  obtain ⟨l, hll⟩ := bools_open g2
  obtain ⟨f, hf, hfc⟩ := intss_open2 g3
  obtain ⟨r, hr⟩ := ints_open g4
  refine ⟨⟨sa, sn, sc, oa, on, oc, la, ln, lc, fa, fn, fc, ra, rn, rc⟩, ⟨s, o, l, f, r⟩, ?_, ⟨hss, ho, hll, hf, hr⟩, hfc⟩
  have a0 := at_one e0
  have a1 := at_one e1
  have a2 := at_one e2
  have a3 := at_one e3
  have a4 := at_one e4
  apply Array.ext_getElem?
  intro i
  by_cases hi : i < 5
  · have : i = 0 ∨ i = 1 ∨ i = 2 ∨ i = 3 ∨ i = 4 := by omega
    rcases this with rfl | rfl | rfl | rfl | rfl
    · exact a0
    · exact a1
    · exact a2
    · exact a3
    · exact a4
  · rw [Array.getElem?_eq_none (by omega), Array.getElem?_eq_none (by show 5 ≤ i; omega)]
end
end Go.Proofs.Ytmkgipoljbiocaa
/- The net of tokens is right. -/
namespace Go.Proofs.Ytmkgipoljbiocaa
open Go.RowKit
set_option linter.unusedVariables false

theorem pw_app {l m : List Int} {b : Int} (h1 : l.Pairwise (· < ·)) (h2 : m.Pairwise (· < ·)) (hl : ∀ x ∈ l, x < b) (hm : ∀ x ∈ m, b ≤ x) : (l ++ m).Pairwise (· < ·) :=
  List.pairwise_append.2 ⟨h1, h2, fun a ha c hc => by have := hl a ha; have := hm c hc; omega⟩
theorem endsT_pw (last : Bool) : ∀ (T : RxT) (base : Nat), (endsT last T base).Pairwise (· < ·) := by
  intro T
  induction T with
  | set S => intro b; simp [endsT]
  | empty => intro b; simp [endsT]
  | cat a b iha ihb =>
    intro base
    simp only [endsT]
    split
    · exact ihb _
    · split
      · exact iha _
      · exact pw_app (b := ((base + nSet a : Nat) : Int)) (iha _) (ihb _) (fun x hx => by have := endsT_range last a base x hx; push_cast; omega) (fun x hx => (endsT_range last b _ x hx).1)
  | alt a b iha ihb =>
    intro base
    exact pw_app (b := ((base + nSet a : Nat) : Int)) (iha _) (ihb _) (fun x hx => by have := endsT_range last a base x hx; push_cast; omega) (fun x hx => (endsT_range last b _ x hx).1)
  | star a iha => exact iha
  | plus a iha => exact iha
  | opt a iha => exact iha
theorem endsL_pw (last : Bool) (o : Option RxT) : (endsL last o).Pairwise (· < ·) := by
  cases o with
  | none => simp [endsL]
  | some T => exact endsT_pw last T 0
theorem folL_pw (o : Option RxT) (i : Nat) : (folL o i).Pairwise (· < ·) := by
  cases o with
  | none => simp [folL]
  | some T =>
    unfold folL folUp
    rw [List.pairwise_map]
    refine (List.Pairwise.filter _ (List.pairwise_lt_range)).imp fun h => ?_
    omega
theorem pw_shift {l : List Int} (b : Int) (h : l.Pairwise (· < ·)) : (l.map (· + b)).Pairwise (· < ·) := by
  rw [List.pairwise_map]
  exact h.imp fun h => by omega
/-- What holds of a net under way. -/
structure NI (N : NetS) : Prop where
  lo : N.of.length = N.sets.length
  ll : N.last.length = N.sets.length
  lf : N.fol.length = N.sets.length
  nn : ∀ z ∈ N.of, 0 ≤ z
  fr : (∀ z ∈ N.first, 0 ≤ z ∧ z < (N.sets.length : Int)) ∧ N.first.Pairwise (· < ·)
  fl : ∀ l ∈ N.fol, (∀ z ∈ l, 0 ≤ z ∧ z < (N.sets.length : Int)) ∧ l.Pairwise (· < ·)
theorem NI.tok {N : NetS} (h : NI N) (t : Nat) (o : Option RxT) : NI (addTok N t o) := by
  have hs : (addTok N t o).sets.length = N.sets.length + (setsL o).length := by
    show (N.sets ++ (setsL o).take (setsL o).length).length = _
    simp
  refine ⟨?_, ?_, ?_, fun z hz => ?_, ⟨fun z hz => ?_, ?_⟩, fun l hl => ?_⟩
  · rw [hs, ← h.lo]; show (N.of ++ _).length = _; simp
  · rw [hs, ← h.ll]; show (N.last ++ _).length = _; simp
  · rw [hs, ← h.lf]; show (N.fol ++ _).length = _; simp
  · have hz : z ∈ N.of ++ (List.range (setsL o).length).map (fun _ => (t : Int)) := hz
    rcases List.mem_append.1 hz with h1 | h1
    · exact h.nn z h1
    · obtain ⟨_, _, rfl⟩ := List.mem_map.1 h1; omega
  · rw [hs]
    have hz : z ∈ N.first ++ (endsL false o).map (· + (N.sets.length : Int)) := hz
    rcases List.mem_append.1 hz with h1 | h1
    · have := h.fr.1 z h1; push_cast; omega
    · obtain ⟨y, hy, rfl⟩ := List.mem_map.1 h1
      have := endsL_range false o y hy; push_cast; omega
  · show (N.first ++ (endsL false o).map (· + (N.sets.length : Int))).Pairwise _
    exact pw_app (b := (N.sets.length : Int)) h.fr.2 (pw_shift _ (endsL_pw false o)) (fun x hx => (h.fr.1 x hx).2) (fun x hx => by
      obtain ⟨y, hy, rfl⟩ := List.mem_map.1 hx
      have := endsL_range false o y hy; omega)
  · rw [hs]
    have hl : l ∈ N.fol ++ (List.range (setsL o).length).map (fun (i : Nat) => (folL o i).map (· + (N.sets.length : Int))) := hl
    rcases List.mem_append.1 hl with h1 | h1
    · obtain ⟨a, b⟩ := h.fl l h1
      exact ⟨fun z hz => by have := a z hz; push_cast; omega, b⟩
    · obtain ⟨i, _, rfl⟩ := List.mem_map.1 h1
      refine ⟨fun z hz => ?_, pw_shift _ (folL_pw o i)⟩
      obtain ⟨y, hy, rfl⟩ := List.mem_map.1 hz
      have := folL_range o i y hy; push_cast; omega
theorem fuse_ni (os : List (Option RxT)) : ∀ k, NI (fuseUp os k) := by
  intro k
  induction k with
  | zero => exact ⟨rfl, rfl, rfl, by simp [fuseUp, net0], ⟨by simp [fuseUp, net0], by simp [fuseUp, net0]⟩, by simp [fuseUp, net0]⟩
  | succ k ih => exact ih.tok k _
theorem NI.spots {N : NetS} {l : List Int} (h : (∀ z ∈ l, 0 ≤ z ∧ z < (N.sets.length : Int)) ∧ l.Pairwise (· < ·)) : spotsB N l = true := by
  unfold spotsB
  simp only [Bool.and_eq_true, List.all_eq_true, decide_eq_true_eq]
  exact ⟨h.1, (ris_pw _).2 h.2⟩
theorem NI.right {N : NetS} (h : NI N) : netR N = true := by
  unfold netR
  simp only [Bool.and_eq_true, decide_eq_true_eq, List.all_eq_true, List.mem_range]
  refine ⟨⟨⟨h.lo, h.ll⟩, h.lf⟩, NI.spots h.fr, fun i hi => ?_⟩
  unfold rowOk nonneg spotsO
  rw [List.getElem?_eq_getElem (show i < N.of.length by rw [h.lo]; exact hi), List.getElem?_eq_getElem (show i < N.fol.length by rw [h.lf]; exact hi)]
  simp only [Bool.and_eq_true, decide_eq_true_eq]
  exact ⟨h.nn _ (List.getElem_mem _), NI.spots (h.fl _ (List.getElem_mem _))⟩
theorem netR_fuse (os : List (Option RxT)) : netR (fuseN os) = true := (fuse_ni os _).right
end Go.Proofs.Ytmkgipoljbiocaa
/- Tokens with their expressions that came in, opened. -/
namespace Go.Proofs.Ytmkgipoljbiocaa
open Go.RowKit Go.ChangeShapes Go.WideShapes Go.Deep
theorem cells_kind : Try.prog.cellsOf 86 = 1 := by kernel_rfl
theorem cells_rx : Try.prog.cellsOf 88 = 5 := by kernel_rfl
theorem cells_class : Try.prog.cellsOf 44 = 1 := by kernel_rfl
theorem cells_rxs : Try.prog.cellsOf 43 = 1 := by kernel_rfl
theorem cells_tok : Try.prog.cellsOf 46 = 3 := by kernel_rfl
section
variable {H : Type} {enc : TypeId × Value → H} {W : World} {fuel : Nat}
theorem rx_open {cs : List Value} {x : DataW H × List MemPlace} (h : DataW.trod enc Try.prog W 0 (fun _ => true) true fuel 88 cs = some x) (hl : cs.length = 5) : ∃ o : Rx, cs = rxC o := by
  match cs, hl with
  | [c0, c1, c2, c3, c4], _ =>
    obtain ⟨y0, y1, n, rfl, _, g0, g1⟩ := trod_struct2 Try.underlying88 h
    simp only [cells_kind, cellsSet, List.drop_zero, List.drop_succ_cons, List.take_succ_cons, List.take_zero] at g0 g1
    obtain ⟨k, e0, _, w0⟩ := DataW.trod_int Try.underlying86 g0
    obtain ⟨S, e1⟩ := set_open g1
    simp at e0 e1
    obtain ⟨rfl, rfl, rfl, rfl⟩ := e1
    subst e0
    exact ⟨⟨k, S⟩, rfl⟩
theorem rxs_open {a : Option Addr} {len cap : Nat} {x : DataW H × List MemPlace} (h : DataW.trod enc Try.prog W 0 (fun _ => true) true fuel 43 [.slice a len cap] = some x) : ∃ rs, CRow rxC 5 W a len rs := by
  obtain ⟨os, ho, _⟩ := crow_open (C := rxC) (G := fun _ => True) Try.underlying43 cells_rx (by decide) (fun n cs y hy hl => by
    obtain ⟨o, e⟩ := rx_open hy hl
    exact ⟨o, e, trivial⟩) h
  exact ⟨os, ho⟩
/-- A row of tokens, of any expressions. -/
def TkAny (w : World) (a : Option Addr) (n : Nat) (ts : List TkN) : Prop := CRow tknC 3 w a n ts ∧ ∀ t ∈ ts, IsRx w t.ra t.rl t.o ∧ t.rl ≤ 9223372036854775807
theorem tkn_open {cs : List Value} {x : DataW H × List MemPlace} (h : DataW.trod enc Try.prog W 0 (fun _ => true) true fuel 46 cs = some x) (hl : cs.length = 3) : ∃ o : TkN, cs = tknC o ∧ IsRx W o.ra o.rl o.o ∧ o.rl ≤ 9223372036854775807 := by
  match cs, hl with
  | [c0, c1, c2], _ =>
    obtain ⟨y0, y1, y2, n, rfl, _, g0, g1, g2⟩ := trod_struct3 Try.underlying46 h
    simp only [cells_class, cells_rxs, List.drop_zero, List.drop_succ_cons, List.take_succ_cons, List.take_zero] at g1 g2
    obtain ⟨k, e2, _, _⟩ := DataW.trod_int Try.underlying44 g2
    obtain ⟨a, l, c, e1⟩ := Joins.slice_form Try.underlying43 g1
    simp at e1 e2
    subst e1 e2
    obtain ⟨rs, hrs⟩ := rxs_open g1
    obtain ⟨o, ho⟩ := isRx_of hrs
    exact ⟨⟨c0, a, l, c, k, o⟩, rfl, ho, hrs.2.1⟩
theorem tkns_open {a : Option Addr} {len cap : Nat} {x : DataW H × List MemPlace} (h : DataW.trod enc Try.prog W 0 (fun _ => true) true fuel 39 [.slice a len cap] = some x) : ∃ ts, TkAny W a len ts := by
  obtain ⟨os, ho, hg, _⟩ := crow_open (C := tknC) (G := fun o => IsRx W o.ra o.rl o.o ∧ o.rl ≤ 9223372036854775807) Try.underlying39 cells_tok (by decide) (fun n cs y hy hl => tkn_open hy hl) h
  exact ⟨os, ho, hg⟩
end
/-- Few tokens, of few steps. -/
def tsum (ts : List TkN) : Nat := (ts.map fun o => min o.rl 1000).sum
theorem tsum_take {ts : List TkN} {k : Nat} {o : TkN} (h : ts[k]? = some o) : tsum (ts.take (k + 1)) = tsum (ts.take k) + min o.rl 1000 := by
  unfold tsum; rw [List.take_add_one, h]; simp
theorem tsum_le (ts : List TkN) (k : Nat) : tsum (ts.take k) ≤ 1000 * k := by
  have : ∀ (l : List TkN), tsum l ≤ 1000 * l.length := by
    intro l
    induction l with
    | nil => simp [tsum]
    | cons o l ih =>
      have e : tsum (o :: l) = min o.rl 1000 + tsum l := by simp [tsum]
      rw [e, List.length_cons]; omega
  have h1 := this (ts.take k)
  have h2 : (ts.take k).length ≤ k := List.length_take_le _ _
  omega
theorem tsum_mem {ts : List TkN} (h : tsum ts ≤ 90) : ∀ t ∈ ts, t.rl ≤ 90 := by
  induction ts with
  | nil => intro t ht; cases ht
  | cons o l ih =>
    have e : tsum (o :: l) = min o.rl 1000 + tsum l := by simp [tsum]
    rw [e] at h
    intro t ht
    rcases List.mem_cons.1 ht with rfl | ht
    · omega
    · exact ih (by omega) t ht
def fewT (ts : List TkN) : Bool := decide (ts.length ≤ 12) && decide (tsum ts ≤ 90)
theorem few_row {w : World} {a : Option Addr} {n : Nat} {ts : List TkN} (h : TkAny w a n ts) (hf : fewT ts = true) : TkRow w a n ts ∧ n ≤ 12 := by
  unfold fewT at hf
  simp only [Bool.and_eq_true, decide_eq_true_eq] at hf
  have h1 := h.1.1
  exact ⟨⟨h.1, fun t ht => ⟨(h.2 t ht).1, by have := tsum_mem hf.2 t ht; omega⟩⟩, by omega⟩
set_option maxHeartbeats 2000000 in
theorem few_any (w : World) (A : Option Addr) (n d : Nat) (ts : List TkN) (hA : TkAny w A n ts) :
    Calls Try.prog 13 #[.slice A n d] w fun e w' => e = .returned (.bool (fewT ts)) ∧ w' = w := by
  have hl2 := hA.1.2.1
  have HA := Lib.hid hA
  have HL := Lib.hid hA.1.1
  clear hA
  go_enter Try.func13, Try.ntmps13
  go_wp2
  go_loop [3, 4] (fun m i => ∃ (k : Nat) (x : Int), k ≤ n ∧ i = .int .i64 k ∧ m = .int .i64 x ∧ (k ≤ 100 → x = (tsum (ts.take k) : Nat))) (fun _ i => n - (intOf i).toNat)
  case atStart => exact ⟨0, 0, by omega, rfl, rfl, fun _ => rfl⟩
  case round =>
    obtain ⟨k, x, hk, rfl, rfl, hx⟩ := hrel
    have HX := Lib.hid hx
    clear hx
    by_cases hlt : k < n
    · obtain ⟨b1, o1, o, rfl, hbl, ho, hc⟩ := HA.out.1.at_ hlt
      have HST := Lib.hid (tsum_take ho)
      have HML := Lib.hid (tsum_le ts k)
      have HOM := Lib.hid (HA.out.2 o (List.mem_of_getElem? ho)).2
      obtain ⟨onm, oa, ol, oc, ocl, oo⟩ := o
      have c0 : w.cell? ⟨b1, o1 + k * 3 + 1, none⟩ = some (.slice oa ol oc) := hc 1 _ rfl
      dsimp only at HST HOM
      clear hc ho
      go_wp2
      go_round
      case rel =>
        refine ⟨k + 1, _, by omega, by go_num, rfl, fun h => ?_⟩
        have h1 := HX.out (by omega)
        have h2 := HML.out
        rw [HST.out]
        subst h1
        have := HOM.out
        by_cases hc : (1000 : Int) < (ol : Int)
        · rw [if_pos hc, Nat.min_eq_right (by omega)]; unfold wrap64; omega
        · rw [if_neg hc, Nat.min_eq_left (by omega)]; unfold wrap64; omega
      case measure => simp [intOf]; omega
    · have HK : Hid (ts.take k = ts) := by show _ = _; exact List.take_of_length_le (by rw [HL.out]; omega)
      by_cases h100 : n ≤ 12
      · have h1 := HX.out (by omega)
        rw [HK.out] at h1
        subst h1
        have j1 : decide ((n : Int) ≤ 12) = true := decide_eq_true (by omega)
        go_wp2
        go_ret
        refine ⟨ret_bool ?_, rfl⟩
        unfold fewT
        rw [HL.out]
        simp [h100]
        omega
      · have j1 : decide ((n : Int) ≤ 12) = false := decide_eq_false (by omega)
        have HF : Hid (fewT ts = false) := Lib.hid (by unfold fewT; rw [HL.out]; simp [h100])
        go_wp2
        go_ret
        exact ⟨ret_bool HF.out.symm, rfl⟩
end Go.Proofs.Ytmkgipoljbiocaa
