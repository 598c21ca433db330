/- bset: what is not in one of two is in neither. -/
import Derived.Test.YtglgmnhfpemfeaaDoorBPuts
namespace Go.Proofs.YtglgmnhfpemfeaaDoor
open Go.RowKit
set_option linter.unusedVariables false

def slST (S T : Nat → Bool) (v : Value) (x : World) : Prop := ∃ g, v = .slice (some ⟨g, 0, none⟩) 2 2 ∧ SRow x (some ⟨g, 0, none⟩) 2 [S, T]
theorem slST_mono (S T : Nat → Bool) : ∀ v x y, slST S T v x → Onto x y → slST S T v y := fun v x y ⟨g, h1, h2⟩ h => ⟨g, h1, h2.below h⟩
theorem any2 (S T : Nat → Bool) : setV (anyS [S, T]) = setV (fun x => S x || T x) := SameSet.val fun x _ => by simp [anyS]
theorem notOr (S T : Nat → Bool) : setV (fun x => !(S x || T x)) = setV (fun x => !S x && !T x) := SameSet.val fun x _ => by simp
theorem notNot (S : Nat → Bool) : setV (fun x => !(!S x)) = setV S := SameSet.val fun x _ => by simp
attribute [local go_sem ↓] eqS_eq eqS_eq' eqR_eq eqR_eq'
set_option maxHeartbeats 4000000 in
theorem turned_any (w : World) (S T : Nat → Bool) (c : Nat) (hc : c < 256) (hT : TabT w) :
    Calls Tryd.prog 7 #[setV S, setV T, .int .u8 c] w fun e w' => e = .returned (.bool true) ∧ Below w.heap.size w w' := by
  obtain ⟨W1, hW1, h1, h2, hb, hs⟩ := boxes2 w S T
  have HB := Lib.hid hb
  have hall : ∀ X g, SRow X (some ⟨g, 0, none⟩) 2 [S, T] → Calls Tryd.prog 14 #[.slice (some ⟨g, 0, none⟩) 2 2] X fun e w' => e = .returned (setV (fun x => S x || T x)) ∧ Below X.heap.size X w' := fun X g h => by rw [← any2]; exact ball_any X _ 2 2 [S, T] h
  have hk : ∀ X, Onto W1.drew X → Calls Tryd.prog 12 #[] X fun e w' => e = .returned (.bool true) ∧ Below X.heap.size X w' := fun X hX => knows_any X (hT.below (hb.trans ((onto_drew hX).mono hb.size)))
  have hno := fun w' => bnot_any (fun x => S x || T x) w'
  have hns := fun w' => bnot_any S w'
  have hnt := fun w' => bnot_any T w'
  have hnn := fun w' => bnot_any (fun x => !S x) w'
  have hann := fun w' => band_any (fun x => !S x) (fun x => !T x) w'
  have hast := fun w' => band_any S (fun x => !T x) w'
  have hmin := fun w' => bminus_any S T w'
  have hhn := fun w' => has_any (fun x => !S x) c w' hc
  have hhs := fun w' => has_any S c w' hc
  rw [notOr] at hno
  rw [notNot] at hnn
  obtain ⟨s, hs2⟩ : ∃ s, S c = s := ⟨_, rfl⟩
  simp only [hs2] at hhn hhs
  unfold setV at hall hno hns hnt hnn hann hast hmin hhn hhs ⊢
  have HALL := Lib.hid hall
  have HK := Lib.hid hk
  have HNO := Lib.hid hno
  have HNS := Lib.hid hns
  have HNT := Lib.hid hnt
  have HNN := Lib.hid hnn
  have HANN := Lib.hid hann
  have HAST := Lib.hid hast
  have HMIN := Lib.hid hmin
  have HHN := Lib.hid hhn
  have HHS := Lib.hid hhs
  have c0 : W1.drew.cell? _ = some _ := h1.cell 0 (by omega)
  have c1 : W1.drew.cell? _ = some _ := h1.cell 1 (by omega)
  have c2 : W1.drew.cell? _ = some _ := h1.cell 2 (by omega)
  have c3 : W1.drew.cell? _ = some _ := h1.cell 3 (by omega)
  have d0 : W1.drew.cell? _ = some _ := h2.cell 0 (by omega)
  have d1 : W1.drew.cell? _ = some _ := h2.cell 1 (by omega)
  have d2 : W1.drew.cell? _ = some _ := h2.cell 2 (by omega)
  have d3 : W1.drew.cell? _ = some _ := h2.cell 3 (by omega)
  clear h1 h2 hb hall hk hno hns hnt hnn hann hast hmin hhn hhs hT hs hs2 hc
  go_enter Tryd.func7, Tryd.ntmps7
  go_wp2_with fail
  rw [← hW1]
  clear hW1
  refine wp_region_fam_lit (E := Onto)
    [isV (.agg #[.int .u64 (wd (S) 0), .int .u64 (wd (S) 1), .int .u64 (wd (S) 2), .int .u64 (wd (S) 3)]),
     isV (.agg #[.int .u64 (wd (T) 0), .int .u64 (wd (T) 1), .int .u64 (wd (T) 2), .int .u64 (wd (T) 3)]),
     slST S T,
     isV (.agg #[.int .u64 (wd (fun x => S x || T x) 0), .int .u64 (wd (fun x => S x || T x) 1), .int .u64 (wd (fun x => S x || T x) 2), .int .u64 (wd (fun x => S x || T x) 3)]),
     isV (.agg #[.int .u64 (wd (fun x => !S x && !T x) 0), .int .u64 (wd (fun x => !S x && !T x) 1), .int .u64 (wd (fun x => !S x && !T x) 2), .int .u64 (wd (fun x => !S x && !T x) 3)]),
     isV (.agg #[.int .u64 (wd (S) 0), .int .u64 (wd (S) 1), .int .u64 (wd (S) 2), .int .u64 (wd (S) 3)]),
     isV (.agg #[.int .u64 (wd (fun x => !S x) 0), .int .u64 (wd (fun x => !S x) 1), .int .u64 (wd (fun x => !S x) 2), .int .u64 (wd (fun x => !S x) 3)]),
     isV (.agg #[.int .u64 (wd (T) 0), .int .u64 (wd (T) 1), .int .u64 (wd (T) 2), .int .u64 (wd (T) 3)]),
     isV (.agg #[.int .u64 (wd (fun x => !T x) 0), .int .u64 (wd (fun x => !T x) 1), .int .u64 (wd (fun x => !T x) 2), .int .u64 (wd (fun x => !T x) 3)]),
     isV (.agg #[.int .u64 (wd (fun x => !S x && !T x) 0), .int .u64 (wd (fun x => !S x && !T x) 1), .int .u64 (wd (fun x => !S x && !T x) 2), .int .u64 (wd (fun x => !S x && !T x) 3)]),
     isV (.bool true),
     isV (.bool true),
     isV (.agg #[.int .u64 (wd (S) 0), .int .u64 (wd (S) 1), .int .u64 (wd (S) 2), .int .u64 (wd (S) 3)]),
     isV (.agg #[.int .u64 (wd (fun x => !S x) 0), .int .u64 (wd (fun x => !S x) 1), .int .u64 (wd (fun x => !S x) 2), .int .u64 (wd (fun x => !S x) 3)]),
     isV (.agg #[.int .u64 (wd (S) 0), .int .u64 (wd (S) 1), .int .u64 (wd (S) 2), .int .u64 (wd (S) 3)]),
     isV (.agg #[.int .u64 (wd (S) 0), .int .u64 (wd (S) 1), .int .u64 (wd (S) 2), .int .u64 (wd (S) 3)]),
     isV (.bool true),
     isV (.bool true),
     isV (.bool true),
     isV (.agg #[.int .u64 (wd (S) 0), .int .u64 (wd (S) 1), .int .u64 (wd (S) 2), .int .u64 (wd (S) 3)]),
     isV (.agg #[.int .u64 (wd (T) 0), .int .u64 (wd (T) 1), .int .u64 (wd (T) 2), .int .u64 (wd (T) 3)]),
     isV (.agg #[.int .u64 (wd (fun x => S x && !T x) 0), .int .u64 (wd (fun x => S x && !T x) 1), .int .u64 (wd (fun x => S x && !T x) 2), .int .u64 (wd (fun x => S x && !T x) 3)]),
     isV (.agg #[.int .u64 (wd (S) 0), .int .u64 (wd (S) 1), .int .u64 (wd (S) 2), .int .u64 (wd (S) 3)]),
     isV (.agg #[.int .u64 (wd (T) 0), .int .u64 (wd (T) 1), .int .u64 (wd (T) 2), .int .u64 (wd (T) 3)]),
     isV (.agg #[.int .u64 (wd (fun x => !T x) 0), .int .u64 (wd (fun x => !T x) 1), .int .u64 (wd (fun x => !T x) 2), .int .u64 (wd (fun x => !T x) 3)]),
     isV (.agg #[.int .u64 (wd (fun x => S x && !T x) 0), .int .u64 (wd (fun x => S x && !T x) 1), .int .u64 (wd (fun x => S x && !T x) 2), .int .u64 (wd (fun x => S x && !T x) 3)]),
     isV (.bool true),
     isV (.bool true),
     isV (.bool true),
     isV (.agg #[.int .u64 (wd (S) 0), .int .u64 (wd (S) 1), .int .u64 (wd (S) 2), .int .u64 (wd (S) 3)]),
     isV (.agg #[.int .u64 (wd (fun x => !S x) 0), .int .u64 (wd (fun x => !S x) 1), .int .u64 (wd (fun x => !S x) 2), .int .u64 (wd (fun x => !S x) 3)]),
     isV (.int .u8 (c : Int)),
     isV (.bool (!s)),
     isV (.agg #[.int .u64 (wd (S) 0), .int .u64 (wd (S) 1), .int .u64 (wd (S) 2), .int .u64 (wd (S) 3)]),
     isV (.int .u8 (c : Int)),
     isV (.bool s),
     isV (.bool true),
     isV (.bool true),
     isV (.bool true),
     isV (.bool true),
     isV (.bool true),
     isV (.bool true)]
    [some 7, some 8, some 9, some 10, some 11, some 12, some 13, some 14, some 15, some 16, some 17, some 18, some 19, some 20, some 21, some 22, some 23, some 24, some 25, some 26, some 27, some 28, some 29, some 30, some 31, some 32, some 33, some 34, some 35, some 36, some 37, some 38, some 39, some 40, some 41, some 42, some 43, some 44, some 45, some 46, some 47, some 6] (by kernel_rfl) rfl (by kernel_rfl) rfl Onto.trans Onto.refl ?mono ?ob ?q
  case mono => exact ⟨isV_mono _ _, isV_mono _ _, slST_mono S T, isV_mono _ _, isV_mono _ _, isV_mono _ _, isV_mono _ _, isV_mono _ _, isV_mono _ _, isV_mono _ _, isV_mono _ _, isV_mono _ _, isV_mono _ _, isV_mono _ _, isV_mono _ _, isV_mono _ _, isV_mono _ _, isV_mono _ _, isV_mono _ _, isV_mono _ _, isV_mono _ _, isV_mono _ _, isV_mono _ _, isV_mono _ _, isV_mono _ _, isV_mono _ _, isV_mono _ _, isV_mono _ _, isV_mono _ _, isV_mono _ _, isV_mono _ _, isV_mono _ _, isV_mono _ _, isV_mono _ _, isV_mono _ _, isV_mono _ _, isV_mono _ _, isV_mono _ _, isV_mono _ _, isV_mono _ _, isV_mono _ _, isV_mono _ _, trivial⟩
  case ob =>
    refine Obs.cons (j := 1) rfl ?_ ?_
    · refine Ob.free [(3, none)] (by kernel_rfl) (isV (.agg #[.int .u64 (wd (S) 0), .int .u64 (wd (S) 1), .int .u64 (wd (S) 2), .int .u64 (wd (S) 3)])) rfl rfl (fun a X hE hL => ?_)
      simp [Seen, slotAt] at hL
      have h3 := hL
      rw [relAt_eq]
      have f0 := keeps hE _ _ c0; have f1 := keeps hE _ _ c1; have f2 := keeps hE _ _ c2; have f3 := keeps hE _ _ c3
      go_simp
      exact ⟨Onto.refl _, rfl⟩
    refine Obs.cons (j := 2) rfl ?_ ?_
    · refine Ob.free [(4, none)] (by kernel_rfl) (isV (.agg #[.int .u64 (wd (T) 0), .int .u64 (wd (T) 1), .int .u64 (wd (T) 2), .int .u64 (wd (T) 3)])) rfl rfl (fun a X hE hL => ?_)
      simp [Seen, slotAt] at hL
      have h4 := hL
      rw [relAt_eq]
      have f0 := keeps hE _ _ d0; have f1 := keeps hE _ _ d1; have f2 := keeps hE _ _ d2; have f3 := keeps hE _ _ d3
      go_simp
      exact ⟨Onto.refl _, rfl⟩
    refine Obs.cons (j := 3) rfl ?_ ?_
    · refine Ob.free [(7, some 0), (8, some 1)] (by kernel_rfl) (slST S T) rfl rfl (fun a X hE hL => ?_)
      simp [Seen, slotAt, famV, isV] at hL
      obtain ⟨h7, h8⟩ := hL
      rw [relAt_eq]
      go_simp
      exact ⟨(Below.refl _ _).alloc (Nat.le_refl _) _, X.heap.size, rfl, crow_srow (crow_new setC_len X [S, T] 24 _ rfl (by simp) X.heap.size rfl)⟩
    refine Obs.cons (j := 4) rfl ?_ ?_
    · refine Ob.free [(9, some 2)] (by kernel_rfl) (isV (.agg #[.int .u64 (wd (fun x => S x || T x) 0), .int .u64 (wd (fun x => S x || T x) 1), .int .u64 (wd (fun x => S x || T x) 2), .int .u64 (wd (fun x => S x || T x) 3)])) rfl rfl (fun a X hE hL => ?_)
      simp [Seen, slotAt, famV] at hL
      have h9 := hL
      rw [relAt_eq]
      obtain ⟨g9, h9, hr9⟩ := h9
      go_simp
      rw [relUpon_enter]
      go_at_call 14
      refine (HALL.out X _ hr9).mono ?_
      rintro e Y ⟨rfl, hY⟩
      exact ⟨_, rfl, hY, rfl⟩
    refine Obs.cons (j := 5) rfl ?_ ?_
    · refine Ob.free [(10, some 3)] (by kernel_rfl) (isV (.agg #[.int .u64 (wd (fun x => !S x && !T x) 0), .int .u64 (wd (fun x => !S x && !T x) 1), .int .u64 (wd (fun x => !S x && !T x) 2), .int .u64 (wd (fun x => !S x && !T x) 3)])) rfl rfl (fun a X hE hL => ?_)
      simp [Seen, slotAt, famV, isV] at hL
      have h10 := hL
      rw [relAt_eq]
      go_simp
      rw [relUpon_enter]
      go_at_call 28
      refine (HNO.out _).mono ?_
      rintro e Y ⟨rfl, hY⟩
      exact ⟨_, rfl, hY, rfl⟩
    refine Obs.cons (j := 6) rfl ?_ ?_
    · refine Ob.free [(3, none)] (by kernel_rfl) (isV (.agg #[.int .u64 (wd (S) 0), .int .u64 (wd (S) 1), .int .u64 (wd (S) 2), .int .u64 (wd (S) 3)])) rfl rfl (fun a X hE hL => ?_)
      simp [Seen, slotAt] at hL
      have h3 := hL
      rw [relAt_eq]
      have f0 := keeps hE _ _ c0; have f1 := keeps hE _ _ c1; have f2 := keeps hE _ _ c2; have f3 := keeps hE _ _ c3
      go_simp
      exact ⟨Onto.refl _, rfl⟩
    refine Obs.cons (j := 7) rfl ?_ ?_
    · refine Ob.free [(12, some 5)] (by kernel_rfl) (isV (.agg #[.int .u64 (wd (fun x => !S x) 0), .int .u64 (wd (fun x => !S x) 1), .int .u64 (wd (fun x => !S x) 2), .int .u64 (wd (fun x => !S x) 3)])) rfl rfl (fun a X hE hL => ?_)
      simp [Seen, slotAt, famV, isV] at hL
      have h12 := hL
      rw [relAt_eq]
      go_simp
      rw [relUpon_enter]
      go_at_call 28
      refine (HNS.out _).mono ?_
      rintro e Y ⟨rfl, hY⟩
      exact ⟨_, rfl, hY, rfl⟩
    refine Obs.cons (j := 8) rfl ?_ ?_
    · refine Ob.free [(4, none)] (by kernel_rfl) (isV (.agg #[.int .u64 (wd (T) 0), .int .u64 (wd (T) 1), .int .u64 (wd (T) 2), .int .u64 (wd (T) 3)])) rfl rfl (fun a X hE hL => ?_)
      simp [Seen, slotAt] at hL
      have h4 := hL
      rw [relAt_eq]
      have f0 := keeps hE _ _ d0; have f1 := keeps hE _ _ d1; have f2 := keeps hE _ _ d2; have f3 := keeps hE _ _ d3
      go_simp
      exact ⟨Onto.refl _, rfl⟩
    refine Obs.cons (j := 9) rfl ?_ ?_
    · refine Ob.free [(14, some 7)] (by kernel_rfl) (isV (.agg #[.int .u64 (wd (fun x => !T x) 0), .int .u64 (wd (fun x => !T x) 1), .int .u64 (wd (fun x => !T x) 2), .int .u64 (wd (fun x => !T x) 3)])) rfl rfl (fun a X hE hL => ?_)
      simp [Seen, slotAt, famV, isV] at hL
      have h14 := hL
      rw [relAt_eq]
      go_simp
      rw [relUpon_enter]
      go_at_call 28
      refine (HNT.out _).mono ?_
      rintro e Y ⟨rfl, hY⟩
      exact ⟨_, rfl, hY, rfl⟩
    refine Obs.cons (j := 10) rfl ?_ ?_
    · refine Ob.free [(13, some 6), (15, some 8)] (by kernel_rfl) (isV (.agg #[.int .u64 (wd (fun x => !S x && !T x) 0), .int .u64 (wd (fun x => !S x && !T x) 1), .int .u64 (wd (fun x => !S x && !T x) 2), .int .u64 (wd (fun x => !S x && !T x) 3)])) rfl rfl (fun a X hE hL => ?_)
      simp [Seen, slotAt, famV, isV] at hL
      obtain ⟨h13, h15⟩ := hL
      rw [relAt_eq]
      go_simp
      rw [relUpon_enter]
      go_at_call 25
      refine (HANN.out _).mono ?_
      rintro e Y ⟨rfl, hY⟩
      exact ⟨_, rfl, hY, rfl⟩
    refine Obs.cons (j := 11) rfl ?_ ?_
    · refine Ob.free [(11, some 4), (16, some 9)] (by kernel_rfl) (isV (.bool true)) rfl rfl (fun a X hE hL => ?_)
      simp [Seen, slotAt, famV, isV] at hL
      obtain ⟨h11, h16⟩ := hL
      rw [relAt_eq]
      have hq := eqS_refl (fun x => !S x && !T x) X
      go_simp
      exact ⟨Onto.refl _, rfl⟩
    refine Obs.cons (j := 12) rfl ?_ ?_
    · refine Ob.free [(17, some 10)] (by kernel_rfl) (isV (.bool true)) rfl rfl (fun a X hE hL => ?_)
      simp [Seen, slotAt, famV, isV] at hL
      have h17 := hL
      rw [relAt_eq]
      go_simp
      exact ⟨Onto.refl _, rfl⟩
    refine Obs.cons (j := 13) rfl ?_ ?_
    · refine Ob.guarded [(3, none), (18, some 11)] (by kernel_rfl) (isV (.agg #[.int .u64 (wd (S) 0), .int .u64 (wd (S) 1), .int .u64 (wd (S) 2), .int .u64 (wd (S) 3)])) rfl 11 true 18 rfl rfl (fun a X hE hL => ?_)
      simp [Seen, slotAt, famV, isV] at hL
      obtain ⟨h3, h18⟩ := hL
      refine ⟨by simpa using h18, ?_⟩
      clear h18
      rw [relAt_eq]
      have f0 := keeps hE _ _ c0; have f1 := keeps hE _ _ c1; have f2 := keeps hE _ _ c2; have f3 := keeps hE _ _ c3
      go_simp
      exact ⟨Onto.refl _, rfl⟩
    refine Obs.cons (j := 14) rfl ?_ ?_
    · refine Ob.guarded [(19, some 12), (18, some 11)] (by kernel_rfl) (isV (.agg #[.int .u64 (wd (fun x => !S x) 0), .int .u64 (wd (fun x => !S x) 1), .int .u64 (wd (fun x => !S x) 2), .int .u64 (wd (fun x => !S x) 3)])) rfl 11 true 18 rfl rfl (fun a X hE hL => ?_)
      simp [Seen, slotAt, famV, isV] at hL
      obtain ⟨h19, h18⟩ := hL
      refine ⟨by simpa using h18, ?_⟩
      clear h18
      rw [relAt_eq]
      go_simp
      rw [relUpon_enter]
      go_at_call 28
      refine (HNS.out _).mono ?_
      rintro e Y ⟨rfl, hY⟩
      exact ⟨_, rfl, hY, rfl⟩
    refine Obs.cons (j := 15) rfl ?_ ?_
    · refine Ob.guarded [(20, some 13), (18, some 11)] (by kernel_rfl) (isV (.agg #[.int .u64 (wd (S) 0), .int .u64 (wd (S) 1), .int .u64 (wd (S) 2), .int .u64 (wd (S) 3)])) rfl 11 true 18 rfl rfl (fun a X hE hL => ?_)
      simp [Seen, slotAt, famV, isV] at hL
      obtain ⟨h20, h18⟩ := hL
      refine ⟨by simpa using h18, ?_⟩
      clear h18
      rw [relAt_eq]
      go_simp
      rw [relUpon_enter]
      go_at_call 28
      refine (HNN.out _).mono ?_
      rintro e Y ⟨rfl, hY⟩
      exact ⟨_, rfl, hY, rfl⟩
    refine Obs.cons (j := 16) rfl ?_ ?_
    · refine Ob.guarded [(3, none), (18, some 11)] (by kernel_rfl) (isV (.agg #[.int .u64 (wd (S) 0), .int .u64 (wd (S) 1), .int .u64 (wd (S) 2), .int .u64 (wd (S) 3)])) rfl 11 true 18 rfl rfl (fun a X hE hL => ?_)
      simp [Seen, slotAt, famV, isV] at hL
      obtain ⟨h3, h18⟩ := hL
      refine ⟨by simpa using h18, ?_⟩
      clear h18
      rw [relAt_eq]
      have f0 := keeps hE _ _ c0; have f1 := keeps hE _ _ c1; have f2 := keeps hE _ _ c2; have f3 := keeps hE _ _ c3
      go_simp
      exact ⟨Onto.refl _, rfl⟩
    refine Obs.cons (j := 17) rfl ?_ ?_
    · refine Ob.guarded [(21, some 14), (22, some 15), (18, some 11)] (by kernel_rfl) (isV (.bool true)) rfl 11 true 18 rfl rfl (fun a X hE hL => ?_)
      simp [Seen, slotAt, famV, isV] at hL
      obtain ⟨h21, h22, h18⟩ := hL
      refine ⟨by simpa using h18, ?_⟩
      clear h18
      rw [relAt_eq]
      have hq := eqS_refl (S) X
      go_simp
      exact ⟨Onto.refl _, rfl⟩
    refine Obs.cons (j := 18) rfl ?_ ?_
    · refine Ob.free [(18, some 11), (23, some 16)] (by kernel_rfl) (isV (.bool true)) rfl rfl (fun a X hE hL => ?_)
      simp [Seen, slotAt, famV, isV] at hL
      obtain ⟨h18, h23⟩ := hL
      rw [relAt_eq]
      go_simp
      exact ⟨Onto.refl _, rfl⟩
    refine Obs.cons (j := 19) rfl ?_ ?_
    · refine Ob.free [(24, some 17)] (by kernel_rfl) (isV (.bool true)) rfl rfl (fun a X hE hL => ?_)
      simp [Seen, slotAt, famV, isV] at hL
      have h24 := hL
      rw [relAt_eq]
      go_simp
      exact ⟨Onto.refl _, rfl⟩
    refine Obs.cons (j := 20) rfl ?_ ?_
    · refine Ob.guarded [(3, none), (25, some 18)] (by kernel_rfl) (isV (.agg #[.int .u64 (wd (S) 0), .int .u64 (wd (S) 1), .int .u64 (wd (S) 2), .int .u64 (wd (S) 3)])) rfl 18 true 25 rfl rfl (fun a X hE hL => ?_)
      simp [Seen, slotAt, famV, isV] at hL
      obtain ⟨h3, h25⟩ := hL
      refine ⟨by simpa using h25, ?_⟩
      clear h25
      rw [relAt_eq]
      have f0 := keeps hE _ _ c0; have f1 := keeps hE _ _ c1; have f2 := keeps hE _ _ c2; have f3 := keeps hE _ _ c3
      go_simp
      exact ⟨Onto.refl _, rfl⟩
    refine Obs.cons (j := 21) rfl ?_ ?_
    · refine Ob.guarded [(4, none), (25, some 18)] (by kernel_rfl) (isV (.agg #[.int .u64 (wd (T) 0), .int .u64 (wd (T) 1), .int .u64 (wd (T) 2), .int .u64 (wd (T) 3)])) rfl 18 true 25 rfl rfl (fun a X hE hL => ?_)
      simp [Seen, slotAt, famV, isV] at hL
      obtain ⟨h4, h25⟩ := hL
      refine ⟨by simpa using h25, ?_⟩
      clear h25
      rw [relAt_eq]
      have f0 := keeps hE _ _ d0; have f1 := keeps hE _ _ d1; have f2 := keeps hE _ _ d2; have f3 := keeps hE _ _ d3
      go_simp
      exact ⟨Onto.refl _, rfl⟩
    refine Obs.cons (j := 22) rfl ?_ ?_
    · refine Ob.guarded [(26, some 19), (27, some 20), (25, some 18)] (by kernel_rfl) (isV (.agg #[.int .u64 (wd (fun x => S x && !T x) 0), .int .u64 (wd (fun x => S x && !T x) 1), .int .u64 (wd (fun x => S x && !T x) 2), .int .u64 (wd (fun x => S x && !T x) 3)])) rfl 18 true 25 rfl rfl (fun a X hE hL => ?_)
      simp [Seen, slotAt, famV, isV] at hL
      obtain ⟨h26, h27, h25⟩ := hL
      refine ⟨by simpa using h25, ?_⟩
      clear h25
      rw [relAt_eq]
      go_simp
      rw [relUpon_enter]
      go_at_call 27
      refine (HMIN.out _).mono ?_
      rintro e Y ⟨rfl, hY⟩
      exact ⟨_, rfl, hY, rfl⟩
    refine Obs.cons (j := 23) rfl ?_ ?_
    · refine Ob.guarded [(3, none), (25, some 18)] (by kernel_rfl) (isV (.agg #[.int .u64 (wd (S) 0), .int .u64 (wd (S) 1), .int .u64 (wd (S) 2), .int .u64 (wd (S) 3)])) rfl 18 true 25 rfl rfl (fun a X hE hL => ?_)
      simp [Seen, slotAt, famV, isV] at hL
      obtain ⟨h3, h25⟩ := hL
      refine ⟨by simpa using h25, ?_⟩
      clear h25
      rw [relAt_eq]
      have f0 := keeps hE _ _ c0; have f1 := keeps hE _ _ c1; have f2 := keeps hE _ _ c2; have f3 := keeps hE _ _ c3
      go_simp
      exact ⟨Onto.refl _, rfl⟩
    refine Obs.cons (j := 24) rfl ?_ ?_
    · refine Ob.guarded [(4, none), (25, some 18)] (by kernel_rfl) (isV (.agg #[.int .u64 (wd (T) 0), .int .u64 (wd (T) 1), .int .u64 (wd (T) 2), .int .u64 (wd (T) 3)])) rfl 18 true 25 rfl rfl (fun a X hE hL => ?_)
      simp [Seen, slotAt, famV, isV] at hL
      obtain ⟨h4, h25⟩ := hL
      refine ⟨by simpa using h25, ?_⟩
      clear h25
      rw [relAt_eq]
      have f0 := keeps hE _ _ d0; have f1 := keeps hE _ _ d1; have f2 := keeps hE _ _ d2; have f3 := keeps hE _ _ d3
      go_simp
      exact ⟨Onto.refl _, rfl⟩
    refine Obs.cons (j := 25) rfl ?_ ?_
    · refine Ob.guarded [(30, some 23), (25, some 18)] (by kernel_rfl) (isV (.agg #[.int .u64 (wd (fun x => !T x) 0), .int .u64 (wd (fun x => !T x) 1), .int .u64 (wd (fun x => !T x) 2), .int .u64 (wd (fun x => !T x) 3)])) rfl 18 true 25 rfl rfl (fun a X hE hL => ?_)
      simp [Seen, slotAt, famV, isV] at hL
      obtain ⟨h30, h25⟩ := hL
      refine ⟨by simpa using h25, ?_⟩
      clear h25
      rw [relAt_eq]
      go_simp
      rw [relUpon_enter]
      go_at_call 28
      refine (HNT.out _).mono ?_
      rintro e Y ⟨rfl, hY⟩
      exact ⟨_, rfl, hY, rfl⟩
    refine Obs.cons (j := 26) rfl ?_ ?_
    · refine Ob.guarded [(29, some 22), (31, some 24), (25, some 18)] (by kernel_rfl) (isV (.agg #[.int .u64 (wd (fun x => S x && !T x) 0), .int .u64 (wd (fun x => S x && !T x) 1), .int .u64 (wd (fun x => S x && !T x) 2), .int .u64 (wd (fun x => S x && !T x) 3)])) rfl 18 true 25 rfl rfl (fun a X hE hL => ?_)
      simp [Seen, slotAt, famV, isV] at hL
      obtain ⟨h29, h31, h25⟩ := hL
      refine ⟨by simpa using h25, ?_⟩
      clear h25
      rw [relAt_eq]
      go_simp
      rw [relUpon_enter]
      go_at_call 25
      refine (HAST.out _).mono ?_
      rintro e Y ⟨rfl, hY⟩
      exact ⟨_, rfl, hY, rfl⟩
    refine Obs.cons (j := 27) rfl ?_ ?_
    · refine Ob.guarded [(28, some 21), (32, some 25), (25, some 18)] (by kernel_rfl) (isV (.bool true)) rfl 18 true 25 rfl rfl (fun a X hE hL => ?_)
      simp [Seen, slotAt, famV, isV] at hL
      obtain ⟨h28, h32, h25⟩ := hL
      refine ⟨by simpa using h25, ?_⟩
      clear h25
      rw [relAt_eq]
      have hq := eqS_refl (fun x => S x && !T x) X
      go_simp
      exact ⟨Onto.refl _, rfl⟩
    refine Obs.cons (j := 28) rfl ?_ ?_
    · refine Ob.free [(25, some 18), (33, some 26)] (by kernel_rfl) (isV (.bool true)) rfl rfl (fun a X hE hL => ?_)
      simp [Seen, slotAt, famV, isV] at hL
      obtain ⟨h25, h33⟩ := hL
      rw [relAt_eq]
      go_simp
      exact ⟨Onto.refl _, rfl⟩
    refine Obs.cons (j := 29) rfl ?_ ?_
    · refine Ob.free [(34, some 27)] (by kernel_rfl) (isV (.bool true)) rfl rfl (fun a X hE hL => ?_)
      simp [Seen, slotAt, famV, isV] at hL
      have h34 := hL
      rw [relAt_eq]
      go_simp
      exact ⟨Onto.refl _, rfl⟩
    refine Obs.cons (j := 30) rfl ?_ ?_
    · refine Ob.guarded [(3, none), (35, some 28)] (by kernel_rfl) (isV (.agg #[.int .u64 (wd (S) 0), .int .u64 (wd (S) 1), .int .u64 (wd (S) 2), .int .u64 (wd (S) 3)])) rfl 28 true 35 rfl rfl (fun a X hE hL => ?_)
      simp [Seen, slotAt, famV, isV] at hL
      obtain ⟨h3, h35⟩ := hL
      refine ⟨by simpa using h35, ?_⟩
      clear h35
      rw [relAt_eq]
      have f0 := keeps hE _ _ c0; have f1 := keeps hE _ _ c1; have f2 := keeps hE _ _ c2; have f3 := keeps hE _ _ c3
      go_simp
      exact ⟨Onto.refl _, rfl⟩
    refine Obs.cons (j := 31) rfl ?_ ?_
    · refine Ob.guarded [(36, some 29), (35, some 28)] (by kernel_rfl) (isV (.agg #[.int .u64 (wd (fun x => !S x) 0), .int .u64 (wd (fun x => !S x) 1), .int .u64 (wd (fun x => !S x) 2), .int .u64 (wd (fun x => !S x) 3)])) rfl 28 true 35 rfl rfl (fun a X hE hL => ?_)
      simp [Seen, slotAt, famV, isV] at hL
      obtain ⟨h36, h35⟩ := hL
      refine ⟨by simpa using h35, ?_⟩
      clear h35
      rw [relAt_eq]
      go_simp
      rw [relUpon_enter]
      go_at_call 28
      refine (HNS.out _).mono ?_
      rintro e Y ⟨rfl, hY⟩
      exact ⟨_, rfl, hY, rfl⟩
    refine Obs.cons (j := 32) rfl ?_ ?_
    · refine Ob.guarded [(2, none), (35, some 28)] (by kernel_rfl) (isV (.int .u8 (c : Int))) rfl 28 true 35 rfl rfl (fun a X hE hL => ?_)
      simp [Seen, slotAt, famV, isV] at hL
      obtain ⟨h2, h35⟩ := hL
      refine ⟨by simpa using h35, ?_⟩
      clear h35
      rw [relAt_eq]
      go_simp
      exact ⟨Onto.refl _, rfl⟩
    refine Obs.cons (j := 33) rfl ?_ ?_
    · refine Ob.guarded [(37, some 30), (38, some 31), (35, some 28)] (by kernel_rfl) (isV (.bool (!s))) rfl 28 true 35 rfl rfl (fun a X hE hL => ?_)
      simp [Seen, slotAt, famV, isV] at hL
      obtain ⟨h37, h38, h35⟩ := hL
      refine ⟨by simpa using h35, ?_⟩
      clear h35
      rw [relAt_eq]
      go_simp
      rw [relUpon_enter]
      go_at_call 17
      refine (HHN.out _).mono ?_
      rintro e Y ⟨rfl, hY⟩
      exact ⟨_, rfl, hY, rfl⟩
    refine Obs.cons (j := 34) rfl ?_ ?_
    · refine Ob.guarded [(3, none), (35, some 28)] (by kernel_rfl) (isV (.agg #[.int .u64 (wd (S) 0), .int .u64 (wd (S) 1), .int .u64 (wd (S) 2), .int .u64 (wd (S) 3)])) rfl 28 true 35 rfl rfl (fun a X hE hL => ?_)
      simp [Seen, slotAt, famV, isV] at hL
      obtain ⟨h3, h35⟩ := hL
      refine ⟨by simpa using h35, ?_⟩
      clear h35
      rw [relAt_eq]
      have f0 := keeps hE _ _ c0; have f1 := keeps hE _ _ c1; have f2 := keeps hE _ _ c2; have f3 := keeps hE _ _ c3
      go_simp
      exact ⟨Onto.refl _, rfl⟩
    refine Obs.cons (j := 35) rfl ?_ ?_
    · refine Ob.guarded [(2, none), (35, some 28)] (by kernel_rfl) (isV (.int .u8 (c : Int))) rfl 28 true 35 rfl rfl (fun a X hE hL => ?_)
      simp [Seen, slotAt, famV, isV] at hL
      obtain ⟨h2, h35⟩ := hL
      refine ⟨by simpa using h35, ?_⟩
      clear h35
      rw [relAt_eq]
      go_simp
      exact ⟨Onto.refl _, rfl⟩
    refine Obs.cons (j := 36) rfl ?_ ?_
    · refine Ob.guarded [(40, some 33), (41, some 34), (35, some 28)] (by kernel_rfl) (isV (.bool s)) rfl 28 true 35 rfl rfl (fun a X hE hL => ?_)
      simp [Seen, slotAt, famV, isV] at hL
      obtain ⟨h40, h41, h35⟩ := hL
      refine ⟨by simpa using h35, ?_⟩
      clear h35
      rw [relAt_eq]
      go_simp
      rw [relUpon_enter]
      go_at_call 17
      refine (HHS.out _).mono ?_
      rintro e Y ⟨rfl, hY⟩
      exact ⟨_, rfl, hY, rfl⟩
    refine Obs.cons (j := 37) rfl ?_ ?_
    · refine Ob.guarded [(39, some 32), (42, some 35), (35, some 28)] (by kernel_rfl) (isV (.bool true)) rfl 28 true 35 rfl rfl (fun a X hE hL => ?_)
      simp [Seen, slotAt, famV, isV] at hL
      obtain ⟨h39, h42, h35⟩ := hL
      refine ⟨by simpa using h35, ?_⟩
      clear h35
      rw [relAt_eq]
      cases s <;> go_simp <;> exact ⟨Onto.refl _, rfl⟩
    refine Obs.cons (j := 38) rfl ?_ ?_
    · refine Ob.free [(35, some 28), (43, some 36)] (by kernel_rfl) (isV (.bool true)) rfl rfl (fun a X hE hL => ?_)
      simp [Seen, slotAt, famV, isV] at hL
      obtain ⟨h35, h43⟩ := hL
      rw [relAt_eq]
      go_simp
      exact ⟨Onto.refl _, rfl⟩
    refine Obs.cons (j := 39) rfl ?_ ?_
    · refine Ob.free [(44, some 37)] (by kernel_rfl) (isV (.bool true)) rfl rfl (fun a X hE hL => ?_)
      simp [Seen, slotAt, famV, isV] at hL
      have h44 := hL
      rw [relAt_eq]
      go_simp
      exact ⟨Onto.refl _, rfl⟩
    refine Obs.cons (j := 40) rfl ?_ ?_
    · refine Ob.guarded [(45, some 38)] (by kernel_rfl) (isV (.bool true)) rfl 38 true 45 rfl rfl (fun a X hE hL => ?_)
      simp [Seen, slotAt, famV, isV] at hL
      have h45 := hL
      refine ⟨by simpa using h45, ?_⟩
      clear h45
      rw [relAt_eq]
      go_simp
      rw [relUpon_enter]
      go_at_call 12
      refine (HK.out X hE).mono ?_
      rintro e Y ⟨rfl, hY⟩
      exact ⟨_, rfl, hY, rfl⟩
    refine Obs.cons (j := 41) rfl ?_ ?_
    · refine Ob.free [(45, some 38), (46, some 39)] (by kernel_rfl) (isV (.bool true)) rfl rfl (fun a X hE hL => ?_)
      simp [Seen, slotAt, famV, isV] at hL
      obtain ⟨h45, h46⟩ := hL
      rw [relAt_eq]
      go_simp
      exact ⟨Onto.refl _, rfl⟩
    refine Obs.cons (j := 42) rfl ?_ ?_
    · refine Ob.free [(47, some 40)] (by kernel_rfl) (isV (.bool true)) rfl rfl (fun a X hE hL => ?_)
      simp [Seen, slotAt, famV, isV] at hL
      have h47 := hL
      rw [relAt_eq]
      go_simp
      exact ⟨Onto.refl _, rfl⟩
    exact trivial
  case q =>
    intro x wq hE hV
    simp [AllV, famV, isV] at hV
    obtain ⟨-, -, -, -, -, -, -, -, -, -, -, -, -, -, -, -, -, -, -, -, -, -, -, -, -, -, -, -, -, -, -, -, -, -, -, -, -, -, -, -, -, h6⟩ := hV
    simp only [puts, Act.put, List.setIfInBounds_toArray, List.set_cons_zero, List.set_cons_succ, h6]
    generalize x 7 = y7
    generalize x 8 = y8
    generalize x 9 = y9
    generalize x 10 = y10
    generalize x 11 = y11
    generalize x 12 = y12
    generalize x 13 = y13
    generalize x 14 = y14
    generalize x 15 = y15
    generalize x 16 = y16
    generalize x 17 = y17
    generalize x 18 = y18
    generalize x 19 = y19
    generalize x 20 = y20
    generalize x 21 = y21
    generalize x 22 = y22
    generalize x 23 = y23
    generalize x 24 = y24
    generalize x 25 = y25
    generalize x 26 = y26
    generalize x 27 = y27
    generalize x 28 = y28
    generalize x 29 = y29
    generalize x 30 = y30
    generalize x 31 = y31
    generalize x 32 = y32
    generalize x 33 = y33
    generalize x 34 = y34
    generalize x 35 = y35
    generalize x 36 = y36
    generalize x 37 = y37
    generalize x 38 = y38
    generalize x 39 = y39
    generalize x 40 = y40
    generalize x 41 = y41
    generalize x 42 = y42
    generalize x 43 = y43
    generalize x 44 = y44
    generalize x 45 = y45
    generalize x 46 = y46
    generalize x 47 = y47
    clear h6
    have HB2 := Lib.hid (HB.out.trans ((onto_drew hE).mono HB.out.size))
    clear hE
    go_wp2
    go_ret
    exact ⟨rfl, HB2.out⟩
theorem turned_walk (S T : Nat → Bool) (b : Int) (w : World) (hb : (Lit.int .u8 b).wf = true) (hT : TabT w) :
    Calls Tryd.prog 7 #[.agg #[.int .u64 (wd S 0), .int .u64 (wd S 1), .int .u64 (wd S 2), .int .u64 (wd S 3)], .agg #[.int .u64 (wd T 0), .int .u64 (wd T 1), .int .u64 (wd T 2), .int .u64 (wd T 3)], .int .u8 b] w fun e w' => e = .returned (.bool true) ∧ Below w.heap.size w w' := by
  have h : 0 ≤ b ∧ b ≤ 255 := by
    have h := hb
    simp [Lit.wf, IntKind.min, IntKind.max, IntKind.signed, IntKind.bits] at h
    exact ⟨by omega, by omega⟩
  obtain ⟨n, rfl⟩ : ∃ n : Nat, b = n := ⟨b.toNat, by omega⟩
  exact turned_any w S T n (by omega) hT
end Go.Proofs.YtglgmnhfpemfeaaDoor
