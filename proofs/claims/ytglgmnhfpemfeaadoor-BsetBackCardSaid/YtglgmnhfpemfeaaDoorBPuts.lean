/- bset: what sets come to together. -/
import Derived.Test.YtglgmnhfpemfeaaDoorBLaid
import Derived.Test.YtglgmnhfpemfeaaDoorFam
namespace Go.Proofs.YtglgmnhfpemfeaaDoor
open Go.RowKit
set_option linter.unusedVariables false

theorem two1 (S T : Nat → Bool) : setV (fun x => twoB 1 (S x) (T x)) = setV (fun x => S x && T x) := SameSet.val fun x _ => by simp [twoB]
theorem two2 (S T : Nat → Bool) : setV (fun x => twoB 2 (S x) (T x)) = setV (fun x => S x && !T x) := SameSet.val fun x _ => by simp [twoB]
theorem boxes2 (w : World) (S T : Nat → Bool) : ∃ W1, W1 = (w.alloc (.cells #[.int .u64 (wd S 0), .int .u64 (wd S 1), .int .u64 (wd S 2), .int .u64 (wd S 3)] 24)).alloc (.cells #[.int .u64 (wd T 0), .int .u64 (wd T 1), .int .u64 (wd T 2), .int .u64 (wd T 3)] 24) ∧
    SetAt W1 w.heap.size S ∧ SetAt W1 (w.heap.size + 1) T ∧ Below w.heap.size w W1 ∧ W1.heap.size = w.heap.size + 2 :=
  ⟨_, rfl, heap_alloc2_old w _ _, heap_alloc2_new w _ _, ((Below.refl _ _).alloc (Nat.le_refl _) _).alloc (by simp) _, by simp⟩
attribute [local go_sem ↓] eqS_eq eqS_eq' eqR_eq eqR_eq'
set_option maxHeartbeats 4000000 in
theorem puts_any (w : World) (a : Option Addr) (len cap : Nat) (ls : List (Nat → Bool)) (S T : Nat → Bool) (h : SRow w a len ls) (hT : TabT w) :
    Calls Tryd.prog 6 #[.slice a len cap, setV S, setV T] w fun e w' => e = .returned (.bool true) ∧ Below w.heap.size w w' := by
  obtain ⟨W1, hW1, h1, h2, hb, hs⟩ := boxes2 w S T
  have hl := h.2.1
  have HB := Lib.hid hb
  by_cases hbig : (60 : Int) < (len : Int)
  · have j1 : decide ((60 : Int) < (len : Int)) = true := decide_eq_true hbig
    have HK := Lib.hid (knows_any W1 (hT.below hb))
    unfold setV
    clear h1 h2 hs hb h hT
    go_enter Tryd.func6, Tryd.ntmps6
    go_wp2_with fail
    rw [← hW1]
    refine HK.out.mono ?_
    rintro e w1 ⟨rfl, hb1⟩
    have HB1 := Lib.hid (HB.out.trans (hb1.mono HB.out.size))
    clear hb1 hW1
    go_wp2
    go_ret
    exact ⟨rfl, HB1.out⟩
  · have j1 : decide ((60 : Int) < (len : Int)) = false := decide_eq_false hbig
    have hall : ∀ X, Onto W1.drew X → Calls Tryd.prog 14 #[.slice a len cap] X fun e w' => e = .returned (setV (anyS ls)) ∧ Below X.heap.size X w' := fun X hX => ball_any X a len cap ls (h.below (hb.trans ((onto_drew hX).mono hb.size)))
    have hrall : ∀ X, Onto W1.drew X → Calls Tryd.prog 24 #[.slice a len cap] X fun e w' => e = .returned (setV (anyS ls)) ∧ Below X.heap.size X w' := fun X hX => rall_any X a len cap ls (h.below (hb.trans ((onto_drew hX).mono hb.size)))
    have hk : ∀ X, Onto W1.drew X → Calls Tryd.prog 12 #[] X fun e w' => e = .returned (.bool true) ∧ Below X.heap.size X w' := fun X hX => knows_any X (hT.below (hb.trans ((onto_drew hX).mono hb.size)))
    have hand := fun w' => band_any S T w'
    have hmin := fun w' => bminus_any S T w'
    have hnot := fun w' => bnot_any S w'
    have hrnot := fun w' => rnot_any S w'
    have htwo1 := fun w' => rtwo_any 1 (by simp) S T w'
    have htwo2 := fun w' => rtwo_any 2 (by simp) S T w'
    rw [two1] at htwo1
    rw [two2] at htwo2
    unfold setV at hall hrall hand hmin hnot hrnot htwo1 htwo2 ⊢
    have HALL := Lib.hid hall
    have HRALL := Lib.hid hrall
    have HK := Lib.hid hk
    have HAND := Lib.hid hand
    have HMIN := Lib.hid hmin
    have HNOT := Lib.hid hnot
    have HRNOT := Lib.hid hrnot
    have HTWO1 := Lib.hid htwo1
    have HTWO2 := Lib.hid htwo2
    have c0 : W1.drew.cell? _ = some _ := h1.cell 0 (by omega)
    have c1 : W1.drew.cell? _ = some _ := h1.cell 1 (by omega)
    have c2 : W1.drew.cell? _ = some _ := h1.cell 2 (by omega)
    have c3 : W1.drew.cell? _ = some _ := h1.cell 3 (by omega)
    have d0 : W1.drew.cell? _ = some _ := h2.cell 0 (by omega)
    have d1 : W1.drew.cell? _ = some _ := h2.cell 1 (by omega)
    have d2 : W1.drew.cell? _ = some _ := h2.cell 2 (by omega)
    have d3 : W1.drew.cell? _ = some _ := h2.cell 3 (by omega)
    clear h1 h2 hb hall hrall hk hand hmin hnot hrnot htwo1 htwo2 h hT hs
    go_enter Tryd.func6, Tryd.ntmps6
    go_wp2_with fail
    rw [← hW1]
    clear hW1
    refine wp_region_fam_lit (E := Onto)
      [isV (.slice a len cap),
       isV (.agg #[.int .u64 (wd (anyS ls) 0), .int .u64 (wd (anyS ls) 1), .int .u64 (wd (anyS ls) 2), .int .u64 (wd (anyS ls) 3)]),
       isV (.slice a len cap),
       isV (.agg #[.int .u64 (wd (anyS ls) 0), .int .u64 (wd (anyS ls) 1), .int .u64 (wd (anyS ls) 2), .int .u64 (wd (anyS ls) 3)]),
       isV (.bool true),
       isV (.bool true),
       isV (.agg #[.int .u64 (wd (S) 0), .int .u64 (wd (S) 1), .int .u64 (wd (S) 2), .int .u64 (wd (S) 3)]),
       isV (.agg #[.int .u64 (wd (T) 0), .int .u64 (wd (T) 1), .int .u64 (wd (T) 2), .int .u64 (wd (T) 3)]),
       isV (.agg #[.int .u64 (wd (fun x => S x && T x) 0), .int .u64 (wd (fun x => S x && T x) 1), .int .u64 (wd (fun x => S x && T x) 2), .int .u64 (wd (fun x => S x && T x) 3)]),
       isV (.agg #[.int .u64 (wd (S) 0), .int .u64 (wd (S) 1), .int .u64 (wd (S) 2), .int .u64 (wd (S) 3)]),
       isV (.agg #[.int .u64 (wd (T) 0), .int .u64 (wd (T) 1), .int .u64 (wd (T) 2), .int .u64 (wd (T) 3)]),
       isV (.agg #[.int .u64 (wd (fun x => S x && T x) 0), .int .u64 (wd (fun x => S x && T x) 1), .int .u64 (wd (fun x => S x && T x) 2), .int .u64 (wd (fun x => S x && T x) 3)]),
       isV (.bool true),
       isV (.bool true),
       isV (.bool true),
       isV (.agg #[.int .u64 (wd (S) 0), .int .u64 (wd (S) 1), .int .u64 (wd (S) 2), .int .u64 (wd (S) 3)]),
       isV (.agg #[.int .u64 (wd (T) 0), .int .u64 (wd (T) 1), .int .u64 (wd (T) 2), .int .u64 (wd (T) 3)]),
       isV (.agg #[.int .u64 (wd (fun x => S x && !T x) 0), .int .u64 (wd (fun x => S x && !T x) 1), .int .u64 (wd (fun x => S x && !T x) 2), .int .u64 (wd (fun x => S x && !T x) 3)]),
       isV (.agg #[.int .u64 (wd (S) 0), .int .u64 (wd (S) 1), .int .u64 (wd (S) 2), .int .u64 (wd (S) 3)]),
       isV (.agg #[.int .u64 (wd (T) 0), .int .u64 (wd (T) 1), .int .u64 (wd (T) 2), .int .u64 (wd (T) 3)]),
       isV (.agg #[.int .u64 (wd (fun x => S x && !T x) 0), .int .u64 (wd (fun x => S x && !T x) 1), .int .u64 (wd (fun x => S x && !T x) 2), .int .u64 (wd (fun x => S x && !T x) 3)]),
       isV (.bool true),
       isV (.bool true),
       isV (.bool true),
       isV (.agg #[.int .u64 (wd (S) 0), .int .u64 (wd (S) 1), .int .u64 (wd (S) 2), .int .u64 (wd (S) 3)]),
       isV (.agg #[.int .u64 (wd (fun x => !S x) 0), .int .u64 (wd (fun x => !S x) 1), .int .u64 (wd (fun x => !S x) 2), .int .u64 (wd (fun x => !S x) 3)]),
       isV (.agg #[.int .u64 (wd (S) 0), .int .u64 (wd (S) 1), .int .u64 (wd (S) 2), .int .u64 (wd (S) 3)]),
       isV (.agg #[.int .u64 (wd (fun x => !S x) 0), .int .u64 (wd (fun x => !S x) 1), .int .u64 (wd (fun x => !S x) 2), .int .u64 (wd (fun x => !S x) 3)]),
       isV (.bool true),
       isV (.bool true),
       isV (.bool true),
       isV (.bool true),
       isV (.bool true),
       isV (.bool true)]
      [some 11, some 12, some 13, some 14, some 15, some 16, some 17, some 18, some 19, some 20, some 21, some 22, some 23, some 24, some 25, some 26, some 27, some 28, some 29, some 30, some 31, some 32, some 33, some 34, some 35, some 36, some 37, some 38, some 39, some 40, some 41, some 42, some 43, some 6] (by kernel_rfl) rfl (by kernel_rfl) rfl Onto.trans Onto.refl ?mono ?ob ?q
    case mono => exact ⟨isV_mono _ _, isV_mono _ _, isV_mono _ _, isV_mono _ _, isV_mono _ _, isV_mono _ _, isV_mono _ _, isV_mono _ _, isV_mono _ _, isV_mono _ _, isV_mono _ _, isV_mono _ _, isV_mono _ _, isV_mono _ _, isV_mono _ _, isV_mono _ _, isV_mono _ _, isV_mono _ _, isV_mono _ _, isV_mono _ _, isV_mono _ _, isV_mono _ _, isV_mono _ _, isV_mono _ _, isV_mono _ _, isV_mono _ _, isV_mono _ _, isV_mono _ _, isV_mono _ _, isV_mono _ _, isV_mono _ _, isV_mono _ _, isV_mono _ _, isV_mono _ _, trivial⟩
    case ob =>
      refine Obs.cons (j := 1) rfl ?_ ?_
      · refine Ob.free [(0, none)] (by kernel_rfl) (isV (.slice a len cap)) rfl rfl (fun a X hE hL => ?_)
        simp [Seen, slotAt] at hL
        have h0 := hL
        rw [relAt_eq]
        go_simp
        exact ⟨Onto.refl _, rfl⟩
      refine Obs.cons (j := 2) rfl ?_ ?_
      · refine Ob.free [(11, some 0)] (by kernel_rfl) (isV (.agg #[.int .u64 (wd (anyS ls) 0), .int .u64 (wd (anyS ls) 1), .int .u64 (wd (anyS ls) 2), .int .u64 (wd (anyS ls) 3)])) rfl rfl (fun a X hE hL => ?_)
        simp [Seen, slotAt, famV, isV] at hL
        have h11 := hL
        rw [relAt_eq]
        go_simp
        rw [relUpon_enter]
        go_at_call 14
        refine (HALL.out X hE).mono ?_
        rintro e Y ⟨rfl, hY⟩
        exact ⟨_, rfl, hY, rfl⟩
      refine Obs.cons (j := 3) rfl ?_ ?_
      · refine Ob.free [(0, none)] (by kernel_rfl) (isV (.slice a len cap)) rfl rfl (fun a X hE hL => ?_)
        simp [Seen, slotAt] at hL
        have h0 := hL
        rw [relAt_eq]
        go_simp
        exact ⟨Onto.refl _, rfl⟩
      refine Obs.cons (j := 4) rfl ?_ ?_
      · refine Ob.free [(13, some 2)] (by kernel_rfl) (isV (.agg #[.int .u64 (wd (anyS ls) 0), .int .u64 (wd (anyS ls) 1), .int .u64 (wd (anyS ls) 2), .int .u64 (wd (anyS ls) 3)])) rfl rfl (fun a X hE hL => ?_)
        simp [Seen, slotAt, famV, isV] at hL
        have h13 := hL
        rw [relAt_eq]
        go_simp
        rw [relUpon_enter]
        go_at_call 24
        refine (HRALL.out X hE).mono ?_
        rintro e Y ⟨rfl, hY⟩
        exact ⟨_, rfl, hY, rfl⟩
      refine Obs.cons (j := 5) rfl ?_ ?_
      · refine Ob.free [(12, some 1), (14, some 3)] (by kernel_rfl) (isV (.bool true)) rfl rfl (fun a X hE hL => ?_)
        simp [Seen, slotAt, famV, isV] at hL
        obtain ⟨h12, h14⟩ := hL
        rw [relAt_eq]
        have hq := eqS_refl (anyS ls) X
        go_simp
        exact ⟨Onto.refl _, rfl⟩
      refine Obs.cons (j := 6) rfl ?_ ?_
      · refine Ob.free [(15, some 4)] (by kernel_rfl) (isV (.bool true)) rfl rfl (fun a X hE hL => ?_)
        simp [Seen, slotAt, famV, isV] at hL
        have h15 := hL
        rw [relAt_eq]
        go_simp
        exact ⟨Onto.refl _, rfl⟩
      refine Obs.cons (j := 7) rfl ?_ ?_
      · refine Ob.guarded [(4, none), (16, some 5)] (by kernel_rfl) (isV (.agg #[.int .u64 (wd (S) 0), .int .u64 (wd (S) 1), .int .u64 (wd (S) 2), .int .u64 (wd (S) 3)])) rfl 5 true 16 rfl rfl (fun a X hE hL => ?_)
        simp [Seen, slotAt, famV, isV] at hL
        obtain ⟨h4, h16⟩ := hL
        refine ⟨by simpa using h16, ?_⟩
        clear h16
        rw [relAt_eq]
        have f0 := keeps hE _ _ c0; have f1 := keeps hE _ _ c1; have f2 := keeps hE _ _ c2; have f3 := keeps hE _ _ c3
        go_simp
        exact ⟨Onto.refl _, rfl⟩
      refine Obs.cons (j := 8) rfl ?_ ?_
      · refine Ob.guarded [(5, none), (16, some 5)] (by kernel_rfl) (isV (.agg #[.int .u64 (wd (T) 0), .int .u64 (wd (T) 1), .int .u64 (wd (T) 2), .int .u64 (wd (T) 3)])) rfl 5 true 16 rfl rfl (fun a X hE hL => ?_)
        simp [Seen, slotAt, famV, isV] at hL
        obtain ⟨h5, h16⟩ := hL
        refine ⟨by simpa using h16, ?_⟩
        clear h16
        rw [relAt_eq]
        have f0 := keeps hE _ _ d0; have f1 := keeps hE _ _ d1; have f2 := keeps hE _ _ d2; have f3 := keeps hE _ _ d3
        go_simp
        exact ⟨Onto.refl _, rfl⟩
      refine Obs.cons (j := 9) rfl ?_ ?_
      · refine Ob.guarded [(17, some 6), (18, some 7), (16, some 5)] (by kernel_rfl) (isV (.agg #[.int .u64 (wd (fun x => S x && T x) 0), .int .u64 (wd (fun x => S x && T x) 1), .int .u64 (wd (fun x => S x && T x) 2), .int .u64 (wd (fun x => S x && T x) 3)])) rfl 5 true 16 rfl rfl (fun a X hE hL => ?_)
        simp [Seen, slotAt, famV, isV] at hL
        obtain ⟨h17, h18, h16⟩ := hL
        refine ⟨by simpa using h16, ?_⟩
        clear h16
        rw [relAt_eq]
        go_simp
        rw [relUpon_enter]
        go_at_call 25
        refine (HAND.out _).mono ?_
        rintro e Y ⟨rfl, hY⟩
        exact ⟨_, rfl, hY, rfl⟩
      refine Obs.cons (j := 10) rfl ?_ ?_
      · refine Ob.guarded [(4, none), (16, some 5)] (by kernel_rfl) (isV (.agg #[.int .u64 (wd (S) 0), .int .u64 (wd (S) 1), .int .u64 (wd (S) 2), .int .u64 (wd (S) 3)])) rfl 5 true 16 rfl rfl (fun a X hE hL => ?_)
        simp [Seen, slotAt, famV, isV] at hL
        obtain ⟨h4, h16⟩ := hL
        refine ⟨by simpa using h16, ?_⟩
        clear h16
        rw [relAt_eq]
        have f0 := keeps hE _ _ c0; have f1 := keeps hE _ _ c1; have f2 := keeps hE _ _ c2; have f3 := keeps hE _ _ c3
        go_simp
        exact ⟨Onto.refl _, rfl⟩
      refine Obs.cons (j := 11) rfl ?_ ?_
      · refine Ob.guarded [(5, none), (16, some 5)] (by kernel_rfl) (isV (.agg #[.int .u64 (wd (T) 0), .int .u64 (wd (T) 1), .int .u64 (wd (T) 2), .int .u64 (wd (T) 3)])) rfl 5 true 16 rfl rfl (fun a X hE hL => ?_)
        simp [Seen, slotAt, famV, isV] at hL
        obtain ⟨h5, h16⟩ := hL
        refine ⟨by simpa using h16, ?_⟩
        clear h16
        rw [relAt_eq]
        have f0 := keeps hE _ _ d0; have f1 := keeps hE _ _ d1; have f2 := keeps hE _ _ d2; have f3 := keeps hE _ _ d3
        go_simp
        exact ⟨Onto.refl _, rfl⟩
      refine Obs.cons (j := 12) rfl ?_ ?_
      · refine Ob.guarded [(20, some 9), (21, some 10), (16, some 5)] (by kernel_rfl) (isV (.agg #[.int .u64 (wd (fun x => S x && T x) 0), .int .u64 (wd (fun x => S x && T x) 1), .int .u64 (wd (fun x => S x && T x) 2), .int .u64 (wd (fun x => S x && T x) 3)])) rfl 5 true 16 rfl rfl (fun a X hE hL => ?_)
        simp [Seen, slotAt, famV, isV] at hL
        obtain ⟨h20, h21, h16⟩ := hL
        refine ⟨by simpa using h16, ?_⟩
        clear h16
        rw [relAt_eq]
        go_simp
        rw [relUpon_enter]
        go_at_call 26
        refine (HTWO1.out _).mono ?_
        rintro e Y ⟨rfl, hY⟩
        exact ⟨_, rfl, hY, rfl⟩
      refine Obs.cons (j := 13) rfl ?_ ?_
      · refine Ob.guarded [(19, some 8), (22, some 11), (16, some 5)] (by kernel_rfl) (isV (.bool true)) rfl 5 true 16 rfl rfl (fun a X hE hL => ?_)
        simp [Seen, slotAt, famV, isV] at hL
        obtain ⟨h19, h22, h16⟩ := hL
        refine ⟨by simpa using h16, ?_⟩
        clear h16
        rw [relAt_eq]
        have hq := eqS_refl (fun x => S x && T x) X
        go_simp
        exact ⟨Onto.refl _, rfl⟩
      refine Obs.cons (j := 14) rfl ?_ ?_
      · refine Ob.free [(16, some 5), (23, some 12)] (by kernel_rfl) (isV (.bool true)) rfl rfl (fun a X hE hL => ?_)
        simp [Seen, slotAt, famV, isV] at hL
        obtain ⟨h16, h23⟩ := hL
        rw [relAt_eq]
        go_simp
        exact ⟨Onto.refl _, rfl⟩
      refine Obs.cons (j := 15) rfl ?_ ?_
      · refine Ob.free [(24, some 13)] (by kernel_rfl) (isV (.bool true)) rfl rfl (fun a X hE hL => ?_)
        simp [Seen, slotAt, famV, isV] at hL
        have h24 := hL
        rw [relAt_eq]
        go_simp
        exact ⟨Onto.refl _, rfl⟩
      refine Obs.cons (j := 16) rfl ?_ ?_
      · refine Ob.guarded [(4, none), (25, some 14)] (by kernel_rfl) (isV (.agg #[.int .u64 (wd (S) 0), .int .u64 (wd (S) 1), .int .u64 (wd (S) 2), .int .u64 (wd (S) 3)])) rfl 14 true 25 rfl rfl (fun a X hE hL => ?_)
        simp [Seen, slotAt, famV, isV] at hL
        obtain ⟨h4, h25⟩ := hL
        refine ⟨by simpa using h25, ?_⟩
        clear h25
        rw [relAt_eq]
        have f0 := keeps hE _ _ c0; have f1 := keeps hE _ _ c1; have f2 := keeps hE _ _ c2; have f3 := keeps hE _ _ c3
        go_simp
        exact ⟨Onto.refl _, rfl⟩
      refine Obs.cons (j := 17) rfl ?_ ?_
      · refine Ob.guarded [(5, none), (25, some 14)] (by kernel_rfl) (isV (.agg #[.int .u64 (wd (T) 0), .int .u64 (wd (T) 1), .int .u64 (wd (T) 2), .int .u64 (wd (T) 3)])) rfl 14 true 25 rfl rfl (fun a X hE hL => ?_)
        simp [Seen, slotAt, famV, isV] at hL
        obtain ⟨h5, h25⟩ := hL
        refine ⟨by simpa using h25, ?_⟩
        clear h25
        rw [relAt_eq]
        have f0 := keeps hE _ _ d0; have f1 := keeps hE _ _ d1; have f2 := keeps hE _ _ d2; have f3 := keeps hE _ _ d3
        go_simp
        exact ⟨Onto.refl _, rfl⟩
      refine Obs.cons (j := 18) rfl ?_ ?_
      · refine Ob.guarded [(26, some 15), (27, some 16), (25, some 14)] (by kernel_rfl) (isV (.agg #[.int .u64 (wd (fun x => S x && !T x) 0), .int .u64 (wd (fun x => S x && !T x) 1), .int .u64 (wd (fun x => S x && !T x) 2), .int .u64 (wd (fun x => S x && !T x) 3)])) rfl 14 true 25 rfl rfl (fun a X hE hL => ?_)
        simp [Seen, slotAt, famV, isV] at hL
        obtain ⟨h26, h27, h25⟩ := hL
        refine ⟨by simpa using h25, ?_⟩
        clear h25
        rw [relAt_eq]
        go_simp
        rw [relUpon_enter]
        go_at_call 27
        refine (HMIN.out _).mono ?_
        rintro e Y ⟨rfl, hY⟩
        exact ⟨_, rfl, hY, rfl⟩
      refine Obs.cons (j := 19) rfl ?_ ?_
      · refine Ob.guarded [(4, none), (25, some 14)] (by kernel_rfl) (isV (.agg #[.int .u64 (wd (S) 0), .int .u64 (wd (S) 1), .int .u64 (wd (S) 2), .int .u64 (wd (S) 3)])) rfl 14 true 25 rfl rfl (fun a X hE hL => ?_)
        simp [Seen, slotAt, famV, isV] at hL
        obtain ⟨h4, h25⟩ := hL
        refine ⟨by simpa using h25, ?_⟩
        clear h25
        rw [relAt_eq]
        have f0 := keeps hE _ _ c0; have f1 := keeps hE _ _ c1; have f2 := keeps hE _ _ c2; have f3 := keeps hE _ _ c3
        go_simp
        exact ⟨Onto.refl _, rfl⟩
      refine Obs.cons (j := 20) rfl ?_ ?_
      · refine Ob.guarded [(5, none), (25, some 14)] (by kernel_rfl) (isV (.agg #[.int .u64 (wd (T) 0), .int .u64 (wd (T) 1), .int .u64 (wd (T) 2), .int .u64 (wd (T) 3)])) rfl 14 true 25 rfl rfl (fun a X hE hL => ?_)
        simp [Seen, slotAt, famV, isV] at hL
        obtain ⟨h5, h25⟩ := hL
        refine ⟨by simpa using h25, ?_⟩
        clear h25
        rw [relAt_eq]
        have f0 := keeps hE _ _ d0; have f1 := keeps hE _ _ d1; have f2 := keeps hE _ _ d2; have f3 := keeps hE _ _ d3
        go_simp
        exact ⟨Onto.refl _, rfl⟩
      refine Obs.cons (j := 21) rfl ?_ ?_
      · refine Ob.guarded [(29, some 18), (30, some 19), (25, some 14)] (by kernel_rfl) (isV (.agg #[.int .u64 (wd (fun x => S x && !T x) 0), .int .u64 (wd (fun x => S x && !T x) 1), .int .u64 (wd (fun x => S x && !T x) 2), .int .u64 (wd (fun x => S x && !T x) 3)])) rfl 14 true 25 rfl rfl (fun a X hE hL => ?_)
        simp [Seen, slotAt, famV, isV] at hL
        obtain ⟨h29, h30, h25⟩ := hL
        refine ⟨by simpa using h25, ?_⟩
        clear h25
        rw [relAt_eq]
        go_simp
        rw [relUpon_enter]
        go_at_call 26
        refine (HTWO2.out _).mono ?_
        rintro e Y ⟨rfl, hY⟩
        exact ⟨_, rfl, hY, rfl⟩
      refine Obs.cons (j := 22) rfl ?_ ?_
      · refine Ob.guarded [(28, some 17), (31, some 20), (25, some 14)] (by kernel_rfl) (isV (.bool true)) rfl 14 true 25 rfl rfl (fun a X hE hL => ?_)
        simp [Seen, slotAt, famV, isV] at hL
        obtain ⟨h28, h31, h25⟩ := hL
        refine ⟨by simpa using h25, ?_⟩
        clear h25
        rw [relAt_eq]
        have hq := eqS_refl (fun x => S x && !T x) X
        go_simp
        exact ⟨Onto.refl _, rfl⟩
      refine Obs.cons (j := 23) rfl ?_ ?_
      · refine Ob.free [(25, some 14), (32, some 21)] (by kernel_rfl) (isV (.bool true)) rfl rfl (fun a X hE hL => ?_)
        simp [Seen, slotAt, famV, isV] at hL
        obtain ⟨h25, h32⟩ := hL
        rw [relAt_eq]
        go_simp
        exact ⟨Onto.refl _, rfl⟩
      refine Obs.cons (j := 24) rfl ?_ ?_
      · refine Ob.free [(33, some 22)] (by kernel_rfl) (isV (.bool true)) rfl rfl (fun a X hE hL => ?_)
        simp [Seen, slotAt, famV, isV] at hL
        have h33 := hL
        rw [relAt_eq]
        go_simp
        exact ⟨Onto.refl _, rfl⟩
      refine Obs.cons (j := 25) rfl ?_ ?_
      · refine Ob.guarded [(4, none), (34, some 23)] (by kernel_rfl) (isV (.agg #[.int .u64 (wd (S) 0), .int .u64 (wd (S) 1), .int .u64 (wd (S) 2), .int .u64 (wd (S) 3)])) rfl 23 true 34 rfl rfl (fun a X hE hL => ?_)
        simp [Seen, slotAt, famV, isV] at hL
        obtain ⟨h4, h34⟩ := hL
        refine ⟨by simpa using h34, ?_⟩
        clear h34
        rw [relAt_eq]
        have f0 := keeps hE _ _ c0; have f1 := keeps hE _ _ c1; have f2 := keeps hE _ _ c2; have f3 := keeps hE _ _ c3
        go_simp
        exact ⟨Onto.refl _, rfl⟩
      refine Obs.cons (j := 26) rfl ?_ ?_
      · refine Ob.guarded [(35, some 24), (34, some 23)] (by kernel_rfl) (isV (.agg #[.int .u64 (wd (fun x => !S x) 0), .int .u64 (wd (fun x => !S x) 1), .int .u64 (wd (fun x => !S x) 2), .int .u64 (wd (fun x => !S x) 3)])) rfl 23 true 34 rfl rfl (fun a X hE hL => ?_)
        simp [Seen, slotAt, famV, isV] at hL
        obtain ⟨h35, h34⟩ := hL
        refine ⟨by simpa using h34, ?_⟩
        clear h34
        rw [relAt_eq]
        go_simp
        rw [relUpon_enter]
        go_at_call 28
        refine (HNOT.out _).mono ?_
        rintro e Y ⟨rfl, hY⟩
        exact ⟨_, rfl, hY, rfl⟩
      refine Obs.cons (j := 27) rfl ?_ ?_
      · refine Ob.guarded [(4, none), (34, some 23)] (by kernel_rfl) (isV (.agg #[.int .u64 (wd (S) 0), .int .u64 (wd (S) 1), .int .u64 (wd (S) 2), .int .u64 (wd (S) 3)])) rfl 23 true 34 rfl rfl (fun a X hE hL => ?_)
        simp [Seen, slotAt, famV, isV] at hL
        obtain ⟨h4, h34⟩ := hL
        refine ⟨by simpa using h34, ?_⟩
        clear h34
        rw [relAt_eq]
        have f0 := keeps hE _ _ c0; have f1 := keeps hE _ _ c1; have f2 := keeps hE _ _ c2; have f3 := keeps hE _ _ c3
        go_simp
        exact ⟨Onto.refl _, rfl⟩
      refine Obs.cons (j := 28) rfl ?_ ?_
      · refine Ob.guarded [(37, some 26), (34, some 23)] (by kernel_rfl) (isV (.agg #[.int .u64 (wd (fun x => !S x) 0), .int .u64 (wd (fun x => !S x) 1), .int .u64 (wd (fun x => !S x) 2), .int .u64 (wd (fun x => !S x) 3)])) rfl 23 true 34 rfl rfl (fun a X hE hL => ?_)
        simp [Seen, slotAt, famV, isV] at hL
        obtain ⟨h37, h34⟩ := hL
        refine ⟨by simpa using h34, ?_⟩
        clear h34
        rw [relAt_eq]
        go_simp
        rw [relUpon_enter]
        go_at_call 29
        refine (HRNOT.out _).mono ?_
        rintro e Y ⟨rfl, hY⟩
        exact ⟨_, rfl, hY, rfl⟩
      refine Obs.cons (j := 29) rfl ?_ ?_
      · refine Ob.guarded [(36, some 25), (38, some 27), (34, some 23)] (by kernel_rfl) (isV (.bool true)) rfl 23 true 34 rfl rfl (fun a X hE hL => ?_)
        simp [Seen, slotAt, famV, isV] at hL
        obtain ⟨h36, h38, h34⟩ := hL
        refine ⟨by simpa using h34, ?_⟩
        clear h34
        rw [relAt_eq]
        have hq := eqS_refl (fun x => !S x) X
        go_simp
        exact ⟨Onto.refl _, rfl⟩
      refine Obs.cons (j := 30) rfl ?_ ?_
      · refine Ob.free [(34, some 23), (39, some 28)] (by kernel_rfl) (isV (.bool true)) rfl rfl (fun a X hE hL => ?_)
        simp [Seen, slotAt, famV, isV] at hL
        obtain ⟨h34, h39⟩ := hL
        rw [relAt_eq]
        go_simp
        exact ⟨Onto.refl _, rfl⟩
      refine Obs.cons (j := 31) rfl ?_ ?_
      · refine Ob.free [(40, some 29)] (by kernel_rfl) (isV (.bool true)) rfl rfl (fun a X hE hL => ?_)
        simp [Seen, slotAt, famV, isV] at hL
        have h40 := hL
        rw [relAt_eq]
        go_simp
        exact ⟨Onto.refl _, rfl⟩
      refine Obs.cons (j := 32) rfl ?_ ?_
      · refine Ob.guarded [(41, some 30)] (by kernel_rfl) (isV (.bool true)) rfl 30 true 41 rfl rfl (fun a X hE hL => ?_)
        simp [Seen, slotAt, famV, isV] at hL
        have h41 := hL
        refine ⟨by simpa using h41, ?_⟩
        clear h41
        rw [relAt_eq]
        go_simp
        rw [relUpon_enter]
        go_at_call 12
        refine (HK.out X hE).mono ?_
        rintro e Y ⟨rfl, hY⟩
        exact ⟨_, rfl, hY, rfl⟩
      refine Obs.cons (j := 33) rfl ?_ ?_
      · refine Ob.free [(41, some 30), (42, some 31)] (by kernel_rfl) (isV (.bool true)) rfl rfl (fun a X hE hL => ?_)
        simp [Seen, slotAt, famV, isV] at hL
        obtain ⟨h41, h42⟩ := hL
        rw [relAt_eq]
        go_simp
        exact ⟨Onto.refl _, rfl⟩
      refine Obs.cons (j := 34) rfl ?_ ?_
      · refine Ob.free [(43, some 32)] (by kernel_rfl) (isV (.bool true)) rfl rfl (fun a X hE hL => ?_)
        simp [Seen, slotAt, famV, isV] at hL
        have h43 := hL
        rw [relAt_eq]
        go_simp
        exact ⟨Onto.refl _, rfl⟩
      exact trivial
    case q =>
      intro x wq hE hV
      simp [AllV, famV, isV] at hV
      obtain ⟨-, -, -, -, -, -, -, -, -, -, -, -, -, -, -, -, -, -, -, -, -, -, -, -, -, -, -, -, -, -, -, -, -, h6⟩ := hV
      simp only [puts, Act.put, List.setIfInBounds_toArray, List.set_cons_zero, List.set_cons_succ, h6]
      generalize x 11 = y11
      generalize x 12 = y12
      generalize x 13 = y13
      generalize x 14 = y14
      generalize x 15 = y15
      generalize x 16 = y16
      generalize x 17 = y17
      generalize x 18 = y18
      generalize x 19 = y19
      generalize x 20 = y20
      generalize x 21 = y21
      generalize x 22 = y22
      generalize x 23 = y23
      generalize x 24 = y24
      generalize x 25 = y25
      generalize x 26 = y26
      generalize x 27 = y27
      generalize x 28 = y28
      generalize x 29 = y29
      generalize x 30 = y30
      generalize x 31 = y31
      generalize x 32 = y32
      generalize x 33 = y33
      generalize x 34 = y34
      generalize x 35 = y35
      generalize x 36 = y36
      generalize x 37 = y37
      generalize x 38 = y38
      generalize x 39 = y39
      generalize x 40 = y40
      generalize x 41 = y41
      generalize x 42 = y42
      generalize x 43 = y43
      clear h6
      have HB2 := Lib.hid (HB.out.trans ((onto_drew hE).mono HB.out.size))
      clear hE
      go_wp2
      go_ret
      exact ⟨rfl, HB2.out⟩
theorem puts_walk (ls : List (Nat → Bool)) (a : Option Addr) (len cap : Nat) (S T : Nat → Bool) (w : World) (h : SRow w a len ls) (hT : TabT w) :
    Calls Tryd.prog 6 #[.slice a len cap, .agg #[.int .u64 (wd S 0), .int .u64 (wd S 1), .int .u64 (wd S 2), .int .u64 (wd S 3)], .agg #[.int .u64 (wd T 0), .int .u64 (wd T 1), .int .u64 (wd T 2), .int .u64 (wd T 3)]] w fun e w' => e = .returned (.bool true) ∧ Below w.heap.size w w' := puts_any w a len cap ls S T h hT
end Go.Proofs.YtglgmnhfpemfeaaDoor
