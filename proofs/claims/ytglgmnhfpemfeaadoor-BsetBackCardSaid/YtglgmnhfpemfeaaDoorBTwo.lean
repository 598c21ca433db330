/- bset: Minus; the document's Two, All, Not. -/
import Derived.Test.YtglgmnhfpemfeaaDoorBOps
import Derived.Test.YtglgmnhfpemfeaaDoorFam
namespace Go.Proofs.YtglgmnhfpemfeaaDoor
open Go.RowKit
set_option linter.unusedVariables false

theorem wp_store_set {o : Oper} {a : Act} {w : World} {K : Act → World → Prop} {Q : Exit → Act → World → Prop} (x y : Operand) (ho : o.op = .store 24 x y)
    (g : Nat) (S T : Nat → Bool) (hx : a.eval x = .pointer (some ⟨g, 0, none⟩)) (hy : a.eval y = setV T) (hg : SetAt w g S)
    (h : ∀ w', SetAt w' g T → (∀ B, B ≤ g → Below B w w') → (∀ k, k ≠ g → w'.heap[k]? = w.heap[k]?) → w'.heap.size = w.heap.size → K (a.put o.dst undef) w') : o.wp Tryd.prog a w K Q := by
  refine wp_store_row 24 x y ho g _ hx hy 24 _ hg sizeSet rfl (by simp [Value.oneCell']) ?_
  exact h _ (setRow_heap w g _ _ _ _ hg) (fun B hB => (Below.refl _ _).trans ⟨rfl, rfl, rfl, by simp, fun k hk => setRow_other w g k _ (by omega)⟩) (fun k hk => setRow_other w g k _ hk) (by simp)
theorem setO3 (w : World) (S T : Nat → Bool) : ∃ W1, W1 = ((w.alloc (.cells #[.int .u64 (wd S 0), .int .u64 (wd S 1), .int .u64 (wd S 2), .int .u64 (wd S 3)] 24)).alloc (.cells #[.int .u64 (wd T 0), .int .u64 (wd T 1), .int .u64 (wd T 2), .int .u64 (wd T 3)] 24)).alloc (.cells #[.int .u64 0, .int .u64 0, .int .u64 0, .int .u64 0] 24) ∧
    SetAt W1 w.heap.size S ∧ SetAt W1 (w.heap.size + 1) T ∧ SetAt W1 (w.heap.size + 2) emptyS ∧ Below w.heap.size w W1 ∧ W1.heap.size = w.heap.size + 3 := by
  refine ⟨_, rfl, ?_, ?_, ?_, (((Below.refl _ _).alloc (Nat.le_refl _) _).alloc (by simp) _).alloc (by simp; omega) _, by simp⟩
  · exact (Below.heap_alloc _ _ w.heap.size (by simp; omega)).trans (heap_alloc2_old w _ _)
  · exact (Below.heap_alloc _ _ (w.heap.size + 1) (by simp)).trans (heap_alloc2_new w _ _)
  · refine SetAt.of_empty ?_
    have := heap_alloc_new ((w.alloc (.cells #[.int .u64 (wd S 0), .int .u64 (wd S 1), .int .u64 (wd S 2), .int .u64 (wd S 3)] 24)).alloc (.cells #[.int .u64 (wd T 0), .int .u64 (wd T 1), .int .u64 (wd T 2), .int .u64 (wd T 3)] 24)) (.cells #[.int .u64 0, .int .u64 0, .int .u64 0, .int .u64 0] 24)
    simpa using this
set_option maxHeartbeats 1000000 in
theorem bminus_any (S T : Nat → Bool) (w : World) :
    Calls Tryd.prog 27 #[setV S, setV T] w fun e w' => e = .returned (setV (fun x => S x && !T x)) ∧ Below w.heap.size w w' := by
  have hnot := fun w' => bnot_any T w'
  have hand := fun w' => band_any S (fun x => !T x) w'
  unfold setV at hnot hand ⊢
  have HNOT := Lib.hid hnot
  have HAND := Lib.hid hand
  clear hnot hand
  obtain ⟨W1, hW1, h1, h2, h3, hb, hs⟩ := setO3 w S T
  have HR := Lib.hid h3
  have HB := Lib.hid hb
  have c0 : W1.drew.cell? _ = some _ := h1.cell 0 (by omega)
  have c1 : W1.drew.cell? _ = some _ := h1.cell 1 (by omega)
  have c2 : W1.drew.cell? _ = some _ := h1.cell 2 (by omega)
  have c3 : W1.drew.cell? _ = some _ := h1.cell 3 (by omega)
  have d0 : W1.drew.cell? _ = some _ := h2.cell 0 (by omega)
  have d1 : W1.drew.cell? _ = some _ := h2.cell 1 (by omega)
  have d2 : W1.drew.cell? _ = some _ := h2.cell 2 (by omega)
  have d3 : W1.drew.cell? _ = some _ := h2.cell 3 (by omega)
  clear h1 h2 h3 hb
  go_enter Tryd.func27, Tryd.ntmps27
  go_wp2_with fail
  rw [← hW1]
  clear hW1
  refine wp_region_fam_tail_lit (E := Onto) 4 1
    [isV (.agg #[.int .u64 (wd (S) 0), .int .u64 (wd (S) 1), .int .u64 (wd (S) 2), .int .u64 (wd (S) 3)]),
     isV (.agg #[.int .u64 (wd (T) 0), .int .u64 (wd (T) 1), .int .u64 (wd (T) 2), .int .u64 (wd (T) 3)]),
     isV (.agg #[.int .u64 (wd (fun x => !T x) 0), .int .u64 (wd (fun x => !T x) 1), .int .u64 (wd (fun x => !T x) 2), .int .u64 (wd (fun x => !T x) 3)]),
     isV (.agg #[.int .u64 (wd (fun x => S x && !T x) 0), .int .u64 (wd (fun x => S x && !T x) 1), .int .u64 (wd (fun x => S x && !T x) 2), .int .u64 (wd (fun x => S x && !T x) 3)])]
    [some 5, some 6, some 7, some 8] #[true, true, true, true, false] (by kernel_rfl) rfl (by kernel_rfl) (by kernel_rfl) rfl rfl rfl Onto.trans Onto.refl ?mono ?ob ?q
  case mono => exact ⟨isV_mono _ _, isV_mono _ _, isV_mono _ _, isV_mono _ _, trivial⟩
  case ob =>
    refine Obs.cons (j := 1) rfl ?_ ?_
    · refine Ob.free [(2, none)] (by kernel_rfl) (isV (.agg #[.int .u64 (wd (S) 0), .int .u64 (wd (S) 1), .int .u64 (wd (S) 2), .int .u64 (wd (S) 3)])) rfl rfl (fun a X hE hL => ?_)
      simp [Seen, slotAt] at hL
      have h2 := hL
      rw [relAt_eq]
      have f0 := keeps hE _ _ c0; have f1 := keeps hE _ _ c1; have f2 := keeps hE _ _ c2; have f3 := keeps hE _ _ c3
      go_simp
      exact ⟨Onto.refl _, rfl⟩
    refine Obs.cons (j := 2) rfl ?_ ?_
    · refine Ob.free [(3, none)] (by kernel_rfl) (isV (.agg #[.int .u64 (wd (T) 0), .int .u64 (wd (T) 1), .int .u64 (wd (T) 2), .int .u64 (wd (T) 3)])) rfl rfl (fun a X hE hL => ?_)
      simp [Seen, slotAt] at hL
      have h3 := hL
      rw [relAt_eq]
      have f0 := keeps hE _ _ d0; have f1 := keeps hE _ _ d1; have f2 := keeps hE _ _ d2; have f3 := keeps hE _ _ d3
      go_simp
      exact ⟨Onto.refl _, rfl⟩
    refine Obs.cons (j := 3) rfl ?_ ?_
    · refine Ob.free [(6, some 1)] (by kernel_rfl) (isV (.agg #[.int .u64 (wd (fun x => !T x) 0), .int .u64 (wd (fun x => !T x) 1), .int .u64 (wd (fun x => !T x) 2), .int .u64 (wd (fun x => !T x) 3)])) rfl rfl (fun a X hE hL => ?_)
      simp [Seen, slotAt, famV, isV] at hL
      have h6 := hL
      rw [relAt_eq]
      go_simp
      rw [relUpon_enter]
      go_at_call 28
      refine (HNOT.out _).mono ?_
      rintro e Y ⟨rfl, hY⟩
      exact ⟨_, rfl, hY, rfl⟩
    refine Obs.cons (j := 4) rfl ?_ ?_
    · refine Ob.free [(5, some 0), (7, some 2)] (by kernel_rfl) (isV (.agg #[.int .u64 (wd (fun x => S x && !T x) 0), .int .u64 (wd (fun x => S x && !T x) 1), .int .u64 (wd (fun x => S x && !T x) 2), .int .u64 (wd (fun x => S x && !T x) 3)])) rfl rfl (fun a X hE hL => ?_)
      simp [Seen, slotAt, famV, isV] at hL
      obtain ⟨h5, h7⟩ := hL
      rw [relAt_eq]
      go_simp
      rw [relUpon_enter]
      go_at_call 25
      refine (HAND.out _).mono ?_
      rintro e Y ⟨rfl, hY⟩
      exact ⟨_, rfl, hY, rfl⟩
    exact trivial
  case q =>
    intro x wq hE hV
    simp [AllV, famV, isV] at hV
    obtain ⟨-, -, -, h8⟩ := hV
    simp only [puts, Act.put, List.setIfInBounds_toArray, List.set_cons_zero, List.set_cons_succ, h8]
    generalize x 5 = y5
    generalize x 6 = y6
    generalize x 7 = y7
    clear h8
    have HR2 : Hid (SetAt wq (w.heap.size + 2) emptyS) := Lib.hid (HR.out.below (onto_drew hE) (by omega))
    have HB2 := Lib.hid (HB.out.trans ((onto_drew hE).mono HB.out.size))
    clear hE
    refine wpAny_ready (rs := [4]) (by kernel_rfl) (by simp) ?_
    refine AllReady.cons rfl (fun K hK => ?_) AllReady.nil
    rw [if_pos (by rfl)]
    refine wp_store_set _ _ rfl (w.heap.size + 2) (emptyS) (fun x => S x && !T x) rfl rfl HR2.out ?_
    intro w9 hR hB9 hO9 hS9
    refine hK _ _ ?_
    clear hK K
    try simp only [Act.put, List.getElem_toArray, List.getElem_cons_succ, List.getElem_cons_zero, List.setIfInBounds_toArray, List.set_cons_zero, List.set_cons_succ]
    refine wpAny_done (by kernel_rfl) ?_ _
    go_wp2
    refine bodyPost_ret (results_cell_row rfl _ _ (w.heap.size + 2) 24 _ (0, 0) _ rfl hR Tryd.underlying24 rfl sizeSet) rfl ⟨rfl, ?_⟩
    exact HB2.out.trans (hB9 _ (by omega))

theorem setO4 (w : World) (S T : Nat → Bool) : ∃ W1, W1 = (((w.alloc (.cells #[.int .u64 (wd S 0), .int .u64 (wd S 1), .int .u64 (wd S 2), .int .u64 (wd S 3)] 24)).alloc (.cells #[.int .u64 (wd T 0), .int .u64 (wd T 1), .int .u64 (wd T 2), .int .u64 (wd T 3)] 24)).alloc (.cells #[.int .u64 0, .int .u64 0, .int .u64 0, .int .u64 0] 24)).alloc (.cells #[.int .u64 0, .int .u64 0, .int .u64 0, .int .u64 0] 24) ∧
    SetAt W1 w.heap.size S ∧ SetAt W1 (w.heap.size + 1) T ∧ SetAt W1 (w.heap.size + 2) emptyS ∧ SetAt W1 (w.heap.size + 3) emptyS ∧ Below w.heap.size w W1 ∧ W1.heap.size = w.heap.size + 4 := by
  obtain ⟨W0, h0, h1, h2, h3, hb, hs⟩ := setO3 w S T
  refine ⟨_, rfl, ?_⟩
  rw [← h0]
  have hB := (Below.refl W0.heap.size W0).alloc (Nat.le_refl _) (.cells #[.int .u64 0, .int .u64 0, .int .u64 0, .int .u64 0] 24)
  refine ⟨h1.below hB h1.lt, h2.below hB h2.lt, h3.below hB h3.lt, ?_, hb.alloc (by omega) _, by simp [hs]⟩
  refine SetAt.of_empty ?_
  have := heap_alloc_new W0 (.cells #[.int .u64 0, .int .u64 0, .int .u64 0, .int .u64 0] 24)
  rwa [hs] at this
/-- What two come to: 0: what one of them has, 1: what both have, 2: what the first alone has. -/
def twoB (h : Int) (s t : Bool) : Bool := (h == 0 && (s || t)) || (h == 1 && s && t) || (h == 2 && s && !t)
def twoUp (h : Int) (S T : Nat → Bool) (k : Nat) : Nat → Bool := fun x => decide (x < k) && twoB h (S x) (T x)
theorem two_zero (h : Int) (S T : Nat → Bool) : SameSet emptyS (twoUp h S T 0) := fun x _ => by simp [twoUp, emptyS]
theorem two_yes {h : Int} {S T : Nat → Bool} {k : Nat} (hc : twoB h (S k) (T k) = true) : SameSet (addS (twoUp h S T k) k) (twoUp h S T (k + 1)) := fun x _ => by
  unfold addS twoUp
  by_cases hx : x = k
  · subst hx; simp [hc]
  · have : decide (x < k + 1) = decide (x < k) := by rw [decide_eq_decide]; omega
    simp [hx, this]
theorem two_no {h : Int} {S T : Nat → Bool} {k : Nat} (hc : twoB h (S k) (T k) = false) : SameSet (twoUp h S T k) (twoUp h S T (k + 1)) := fun x _ => by
  unfold twoUp
  by_cases hx : x = k
  · subst hx; simp [hc]
  · have : decide (x < k + 1) = decide (x < k) := by rw [decide_eq_decide]; omega
    simp [this]
theorem two_all (h : Int) (S T : Nat → Bool) : SameSet (twoUp h S T 256) (fun x => twoB h (S x) (T x)) := fun x hx => by simp [twoUp, hx]
set_option maxHeartbeats 2000000 in
set_option maxRecDepth 100000 in
theorem rtwo_any (h : Int) (hh : h = 0 ∨ h = 1 ∨ h = 2) (S T : Nat → Bool) (w : World) :
    Calls Tryd.prog 26 #[.int .i64 h, setV S, setV T] w fun e w' => e = .returned (setV (fun x => twoB h (S x) (T x))) ∧ Below w.heap.size w w' := by
  unfold setV
  obtain ⟨W1, hW1, h1, h2, h3, h4, hb, hs⟩ := setO4 w S T
  have HS1 := Lib.hid h1
  have HT1 := Lib.hid h2
  have HR1 := Lib.hid h3
  have HZ1 := Lib.hid (h4.congr (two_zero h S T))
  have HB1 := Lib.hid hb
  clear h1 h2 h3 h4 hb hs
  go_enter Tryd.func26, Tryd.ntmps26
  go_wp2
  rw [← hW1]
  clear hW1
  go_loopw [8] (fun i wr => ∃ k : Nat, k ≤ 256 ∧ i = .int .i64 k ∧ SetAt wr w.heap.size S ∧ SetAt wr (w.heap.size + 1) T ∧ SetAt wr (w.heap.size + 2) emptyS ∧ SetAt wr (w.heap.size + 3) (twoUp h S T k) ∧ Below w.heap.size w wr) (fun i _ => 256 - (intOf i).toNat)
  case atStart => exact ⟨0, by omega, rfl, HS1.out, HT1.out, HR1.out, HZ1.out, HB1.out⟩
  case round =>
    obtain ⟨k, hk, rfl, h1, h2, h3, h4, hb⟩ := hrel
    clear HS1 HT1 HR1 HZ1 HB1
    have HS := Lib.hid h1
    have HT := Lib.hid h2
    have HR := Lib.hid h3
    have HZ := Lib.hid h4
    have HB := Lib.hid hb
    by_cases hlt : k < 256
    · have c0 : wr.drew.cell? _ = some _ := h1.cell 0 (by omega)
      have c1 : wr.drew.cell? _ = some _ := h1.cell 1 (by omega)
      have c2 : wr.drew.cell? _ = some _ := h1.cell 2 (by omega)
      have c3 : wr.drew.cell? _ = some _ := h1.cell 3 (by omega)
      have d0 : wr.drew.cell? _ = some _ := h2.cell 0 (by omega)
      have d1 : wr.drew.cell? _ = some _ := h2.cell 1 (by omega)
      have d2 : wr.drew.cell? _ = some _ := h2.cell 2 (by omega)
      have d3 : wr.drew.cell? _ = some _ := h2.cell 3 (by omega)
      have hhs := fun w' => refhas_any S k w' hlt
      have hht := fun w' => refhas_any T k w' hlt
      have hwi := fun w' => with_any (twoUp h S T k) k w' hlt
      have hyes := two_yes (h := h) (S := S) (T := T) (k := k)
      have hno := two_no (h := h) (S := S) (T := T) (k := k)
      obtain ⟨s, hs⟩ : ∃ s, S k = s := ⟨_, rfl⟩
      obtain ⟨t, ht⟩ : ∃ t, T k = t := ⟨_, rfl⟩
      rw [hs] at hhs hyes hno
      rw [ht] at hht hyes hno
      unfold setV at hhs hht hwi
      have HHS := Lib.hid hhs
      have HHT := Lib.hid hht
      have HWI := Lib.hid hwi
      have HY := Lib.hid hyes
      have HN := Lib.hid hno
      have hz0 := h4.lt
      have HWK : Hid (IntKind.u8.wrap (k : Int) = (k : Int)) := Lib.hid (IntWalk.u8_in _ ⟨by omega, by omega⟩)
      clear h1 h2 h3 h4 hb hhs hht hwi hyes hno hs ht
      go_wp2_with fail
      refine wp_region_fam_lit (E := Onto)
        [isV (.agg #[.int .u64 (wd (S) 0), .int .u64 (wd (S) 1), .int .u64 (wd (S) 2), .int .u64 (wd (S) 3)]),
         isV (.int .i64 k),
         isV (.int .u8 ((k : Nat) : Int)),
         isV (.bool s),
         isV (.agg #[.int .u64 (wd (T) 0), .int .u64 (wd (T) 1), .int .u64 (wd (T) 2), .int .u64 (wd (T) 3)]),
         isV (.int .i64 k),
         isV (.int .u8 ((k : Nat) : Int)),
         isV (.bool t),
         isV (.bool s),
         isV (.bool t)]
        [some 16, some 17, some 18, some 19, some 20, some 21, some 22, some 23, some 9, some 10] (by kernel_rfl) rfl (by kernel_rfl) rfl Onto.trans Onto.refl ?mono ?ob ?q
      case mono => exact ⟨isV_mono _ _, isV_mono _ _, isV_mono _ _, isV_mono _ _, isV_mono _ _, isV_mono _ _, isV_mono _ _, isV_mono _ _, isV_mono _ _, isV_mono _ _, trivial⟩
      case ob =>
        refine Obs.cons (j := 1) rfl ?_ ?_
        · refine Ob.free [(4, none)] (by kernel_rfl) (isV (.agg #[.int .u64 (wd (S) 0), .int .u64 (wd (S) 1), .int .u64 (wd (S) 2), .int .u64 (wd (S) 3)])) rfl rfl (fun a X hE hL => ?_)
          simp [Seen, slotAt] at hL
          have h4 := hL
          rw [relAt_eq]
          have f0 := keeps hE _ _ c0; have f1 := keeps hE _ _ c1; have f2 := keeps hE _ _ c2; have f3 := keeps hE _ _ c3
          go_simp
          exact ⟨Onto.refl _, rfl⟩
        refine Obs.cons (j := 2) rfl ?_ ?_
        · refine Ob.free [(8, none)] (by kernel_rfl) (isV (.int .i64 k)) rfl rfl (fun a X hE hL => ?_)
          simp [Seen, slotAt] at hL
          have h8 := hL
          rw [relAt_eq]
          go_simp
          exact ⟨Onto.refl _, rfl⟩
        refine Obs.cons (j := 3) rfl ?_ ?_
        · refine Ob.free [(17, some 1)] (by kernel_rfl) (isV (.int .u8 ((k : Nat) : Int))) rfl rfl (fun a X hE hL => ?_)
          simp [Seen, slotAt, famV, isV] at hL
          have h17 := hL
          rw [relAt_eq]
          go_simp
          exact ⟨Onto.refl _, congrArg (Value.int .u8) HWK.out⟩
        refine Obs.cons (j := 4) rfl ?_ ?_
        · refine Ob.free [(16, some 0), (18, some 2)] (by kernel_rfl) (isV (.bool s)) rfl rfl (fun a X hE hL => ?_)
          simp [Seen, slotAt, famV, isV] at hL
          obtain ⟨h16, h18⟩ := hL
          rw [relAt_eq]
          go_simp
          rw [relUpon_enter]
          go_at_call 18
          refine (HHS.out _).mono ?_
          rintro e Y ⟨rfl, hY⟩
          exact ⟨_, rfl, hY, rfl⟩
        refine Obs.cons (j := 5) rfl ?_ ?_
        · refine Ob.free [(5, none)] (by kernel_rfl) (isV (.agg #[.int .u64 (wd (T) 0), .int .u64 (wd (T) 1), .int .u64 (wd (T) 2), .int .u64 (wd (T) 3)])) rfl rfl (fun a X hE hL => ?_)
          simp [Seen, slotAt] at hL
          have h5 := hL
          rw [relAt_eq]
          have f0 := keeps hE _ _ d0; have f1 := keeps hE _ _ d1; have f2 := keeps hE _ _ d2; have f3 := keeps hE _ _ d3
          go_simp
          exact ⟨Onto.refl _, rfl⟩
        refine Obs.cons (j := 6) rfl ?_ ?_
        · refine Ob.free [(8, none)] (by kernel_rfl) (isV (.int .i64 k)) rfl rfl (fun a X hE hL => ?_)
          simp [Seen, slotAt] at hL
          have h8 := hL
          rw [relAt_eq]
          go_simp
          exact ⟨Onto.refl _, rfl⟩
        refine Obs.cons (j := 7) rfl ?_ ?_
        · refine Ob.free [(21, some 5)] (by kernel_rfl) (isV (.int .u8 ((k : Nat) : Int))) rfl rfl (fun a X hE hL => ?_)
          simp [Seen, slotAt, famV, isV] at hL
          have h21 := hL
          rw [relAt_eq]
          go_simp
          exact ⟨Onto.refl _, congrArg (Value.int .u8) HWK.out⟩
        refine Obs.cons (j := 8) rfl ?_ ?_
        · refine Ob.free [(20, some 4), (22, some 6)] (by kernel_rfl) (isV (.bool t)) rfl rfl (fun a X hE hL => ?_)
          simp [Seen, slotAt, famV, isV] at hL
          obtain ⟨h20, h22⟩ := hL
          rw [relAt_eq]
          go_simp
          rw [relUpon_enter]
          go_at_call 18
          refine (HHT.out _).mono ?_
          rintro e Y ⟨rfl, hY⟩
          exact ⟨_, rfl, hY, rfl⟩
        refine Obs.cons (j := 9) rfl ?_ ?_
        · refine Ob.free [(19, some 3)] (by kernel_rfl) (isV (.bool s)) rfl rfl (fun a X hE hL => ?_)
          simp [Seen, slotAt, famV, isV] at hL
          have h19 := hL
          rw [relAt_eq]
          go_simp
          exact ⟨Onto.refl _, rfl⟩
        refine Obs.cons (j := 10) rfl ?_ ?_
        · refine Ob.free [(23, some 7)] (by kernel_rfl) (isV (.bool t)) rfl rfl (fun a X hE hL => ?_)
          simp [Seen, slotAt, famV, isV] at hL
          have h23 := hL
          rw [relAt_eq]
          go_simp
          exact ⟨Onto.refl _, rfl⟩
        exact trivial
      case q =>
        intro x wq hE hV
        simp [AllV, famV, isV] at hV
        obtain ⟨-, -, -, -, -, -, -, -, h9, h10⟩ := hV
        simp only [puts, Act.put, List.setIfInBounds_toArray, List.set_cons_zero, List.set_cons_succ, h9, h10]
        generalize x 16 = y16
        generalize x 17 = y17
        generalize x 18 = y18
        generalize x 19 = y19
        generalize x 20 = y20
        generalize x 21 = y21
        generalize x 22 = y22
        generalize x 23 = y23
        clear h9 h10
        have HS2 : Hid (SetAt wq w.heap.size S) := Lib.hid (HS.out.below (onto_drew hE) (by omega))
        have HT2 : Hid (SetAt wq (w.heap.size + 1) T) := Lib.hid (HT.out.below (onto_drew hE) (by omega))
        have HR2 : Hid (SetAt wq (w.heap.size + 2) emptyS) := Lib.hid (HR.out.below (onto_drew hE) (by omega))
        have HZ2 : Hid (SetAt wq (w.heap.size + 3) (twoUp h S T k)) := Lib.hid (HZ.out.below (onto_drew hE) (by omega))
        have HB2 := Lib.hid (HB.out.trans ((onto_drew hE).mono HB.out.size))
        have hzq := HZ2.out.lt
        clear hE HS HT HR HZ HB c0 c1 c2 c3 d0 d1 d2 d3
        have c0 := HZ2.out.cell 0 (by omega)
        have c1 := HZ2.out.cell 1 (by omega)
        have c2 := HZ2.out.cell 2 (by omega)
        have c3 := HZ2.out.cell 3 (by omega)
        rcases hh with rfl | rfl | rfl <;> cases s <;> cases t
        · go_wp2_with fail
          go_roundw
          case rel => exact ⟨k + 1, by omega, by go_num, HS2.out, HT2.out, HR2.out, HZ2.out.congr (HN.out rfl), HB2.out⟩
          case measure => simp [intOf]; omega
        · go_wp2_with (first
            | (go_at_call 30; (with_reducible refine (HWI.out _).mono ?_); rintro e w1 ⟨rfl, hb1⟩; have HZ1 := Lib.hid (HZ2.out.below hb1 hzq))
            | ((with_reducible refine wpList_store_set rfl _ _ rfl (w.heap.size + 3) (twoUp 0 S T k) (addS (twoUp 0 S T k) k) ?_ ?_ HZ1.out ?_); rfl; rfl; intro w9 hR hB9 hO9 hS9; have HR9 := Lib.hid hR; have HO9 := Lib.hid hO9; have HB9 := Lib.hid hB9; clear hR hO9 hB9))
          go_roundw
          case rel => exact ⟨k + 1, by omega, by go_num, (HO9.out _ (by omega)).trans (HS2.out.below hb1 (by omega)), (HO9.out _ (by omega)).trans (HT2.out.below hb1 (by omega)), (HO9.out _ (by omega)).trans (HR2.out.below hb1 (by omega)), SetAt.congr HR9.out (HY.out rfl), (HB2.out.trans (hb1.mono HB2.out.size)).trans (HB9.out _ (by omega))⟩
          case measure => simp [intOf]; omega
        · go_wp2_with (first
            | (go_at_call 30; (with_reducible refine (HWI.out _).mono ?_); rintro e w1 ⟨rfl, hb1⟩; have HZ1 := Lib.hid (HZ2.out.below hb1 hzq))
            | ((with_reducible refine wpList_store_set rfl _ _ rfl (w.heap.size + 3) (twoUp 0 S T k) (addS (twoUp 0 S T k) k) ?_ ?_ HZ1.out ?_); rfl; rfl; intro w9 hR hB9 hO9 hS9; have HR9 := Lib.hid hR; have HO9 := Lib.hid hO9; have HB9 := Lib.hid hB9; clear hR hO9 hB9))
          go_roundw
          case rel => exact ⟨k + 1, by omega, by go_num, (HO9.out _ (by omega)).trans (HS2.out.below hb1 (by omega)), (HO9.out _ (by omega)).trans (HT2.out.below hb1 (by omega)), (HO9.out _ (by omega)).trans (HR2.out.below hb1 (by omega)), SetAt.congr HR9.out (HY.out rfl), (HB2.out.trans (hb1.mono HB2.out.size)).trans (HB9.out _ (by omega))⟩
          case measure => simp [intOf]; omega
        · go_wp2_with (first
            | (go_at_call 30; (with_reducible refine (HWI.out _).mono ?_); rintro e w1 ⟨rfl, hb1⟩; have HZ1 := Lib.hid (HZ2.out.below hb1 hzq))
            | ((with_reducible refine wpList_store_set rfl _ _ rfl (w.heap.size + 3) (twoUp 0 S T k) (addS (twoUp 0 S T k) k) ?_ ?_ HZ1.out ?_); rfl; rfl; intro w9 hR hB9 hO9 hS9; have HR9 := Lib.hid hR; have HO9 := Lib.hid hO9; have HB9 := Lib.hid hB9; clear hR hO9 hB9))
          go_roundw
          case rel => exact ⟨k + 1, by omega, by go_num, (HO9.out _ (by omega)).trans (HS2.out.below hb1 (by omega)), (HO9.out _ (by omega)).trans (HT2.out.below hb1 (by omega)), (HO9.out _ (by omega)).trans (HR2.out.below hb1 (by omega)), SetAt.congr HR9.out (HY.out rfl), (HB2.out.trans (hb1.mono HB2.out.size)).trans (HB9.out _ (by omega))⟩
          case measure => simp [intOf]; omega
        · go_wp2_with fail
          go_roundw
          case rel => exact ⟨k + 1, by omega, by go_num, HS2.out, HT2.out, HR2.out, HZ2.out.congr (HN.out rfl), HB2.out⟩
          case measure => simp [intOf]; omega
        · go_wp2_with fail
          go_roundw
          case rel => exact ⟨k + 1, by omega, by go_num, HS2.out, HT2.out, HR2.out, HZ2.out.congr (HN.out rfl), HB2.out⟩
          case measure => simp [intOf]; omega
        · go_wp2_with fail
          go_roundw
          case rel => exact ⟨k + 1, by omega, by go_num, HS2.out, HT2.out, HR2.out, HZ2.out.congr (HN.out rfl), HB2.out⟩
          case measure => simp [intOf]; omega
        · go_wp2_with (first
            | (go_at_call 30; (with_reducible refine (HWI.out _).mono ?_); rintro e w1 ⟨rfl, hb1⟩; have HZ1 := Lib.hid (HZ2.out.below hb1 hzq))
            | ((with_reducible refine wpList_store_set rfl _ _ rfl (w.heap.size + 3) (twoUp 1 S T k) (addS (twoUp 1 S T k) k) ?_ ?_ HZ1.out ?_); rfl; rfl; intro w9 hR hB9 hO9 hS9; have HR9 := Lib.hid hR; have HO9 := Lib.hid hO9; have HB9 := Lib.hid hB9; clear hR hO9 hB9))
          go_roundw
          case rel => exact ⟨k + 1, by omega, by go_num, (HO9.out _ (by omega)).trans (HS2.out.below hb1 (by omega)), (HO9.out _ (by omega)).trans (HT2.out.below hb1 (by omega)), (HO9.out _ (by omega)).trans (HR2.out.below hb1 (by omega)), SetAt.congr HR9.out (HY.out rfl), (HB2.out.trans (hb1.mono HB2.out.size)).trans (HB9.out _ (by omega))⟩
          case measure => simp [intOf]; omega
        · go_wp2_with fail
          go_roundw
          case rel => exact ⟨k + 1, by omega, by go_num, HS2.out, HT2.out, HR2.out, HZ2.out.congr (HN.out rfl), HB2.out⟩
          case measure => simp [intOf]; omega
        · go_wp2_with fail
          go_roundw
          case rel => exact ⟨k + 1, by omega, by go_num, HS2.out, HT2.out, HR2.out, HZ2.out.congr (HN.out rfl), HB2.out⟩
          case measure => simp [intOf]; omega
        · go_wp2_with (first
            | (go_at_call 30; (with_reducible refine (HWI.out _).mono ?_); rintro e w1 ⟨rfl, hb1⟩; have HZ1 := Lib.hid (HZ2.out.below hb1 hzq))
            | ((with_reducible refine wpList_store_set rfl _ _ rfl (w.heap.size + 3) (twoUp 2 S T k) (addS (twoUp 2 S T k) k) ?_ ?_ HZ1.out ?_); rfl; rfl; intro w9 hR hB9 hO9 hS9; have HR9 := Lib.hid hR; have HO9 := Lib.hid hO9; have HB9 := Lib.hid hB9; clear hR hO9 hB9))
          go_roundw
          case rel => exact ⟨k + 1, by omega, by go_num, (HO9.out _ (by omega)).trans (HS2.out.below hb1 (by omega)), (HO9.out _ (by omega)).trans (HT2.out.below hb1 (by omega)), (HO9.out _ (by omega)).trans (HR2.out.below hb1 (by omega)), SetAt.congr HR9.out (HY.out rfl), (HB2.out.trans (hb1.mono HB2.out.size)).trans (HB9.out _ (by omega))⟩
          case measure => simp [intOf]; omega
        · go_wp2_with fail
          go_roundw
          case rel => exact ⟨k + 1, by omega, by go_num, HS2.out, HT2.out, HR2.out, HZ2.out.congr (HN.out rfl), HB2.out⟩
          case measure => simp [intOf]; omega
    · have hk2 : k = 256 := by omega
      subst hk2
      have HF := Lib.hid (HZ.out.congr (two_all h S T))
      clear h1 h2 h3 h4 hb
      have c0 := HF.out.cell 0 (by omega)
      have c1 := HF.out.cell 1 (by omega)
      have c2 := HF.out.cell 2 (by omega)
      have c3 := HF.out.cell 3 (by omega)
      go_wp2_with (refine wpList_store_set rfl _ _ rfl (w.heap.size + 2) emptyS (fun x => twoB h (S x) (T x)) rfl rfl HR.out ?_; intro w9 hR hB9 hO9 hS9)
      refine bodyPost_ret (results_cell_row rfl _ _ (w.heap.size + 2) 24 _ (0, 0) _ rfl hR Tryd.underlying24 rfl sizeSet) rfl ⟨rfl, ?_⟩
      exact HB.out.trans (hB9 _ (by omega))

set_option maxHeartbeats 1000000 in
set_option maxRecDepth 100000 in
theorem rnot_any (S : Nat → Bool) (w : World) :
    Calls Tryd.prog 29 #[setV S] w fun e w' => e = .returned (setV (fun x => !S x)) ∧ Below w.heap.size w w' := by
  have hspan := fun w' => span_any 0 255 w'
  have htwo := fun w' => rtwo_any 2 (by simp) (spanS 0 255 256) S w'
  have he : setV (fun x => twoB 2 (spanS 0 255 256 x) (S x)) = setV (fun x => !S x) := SameSet.val fun x hx => by
    have h1 : (x : Int) ≤ 255 := by omega
    simp [twoB, spanS, h1, hx]
  rw [he] at htwo
  unfold setV at hspan htwo ⊢
  have HSPAN := Lib.hid hspan
  have HTWO := Lib.hid htwo
  clear hspan htwo he
  have h1 : SetAt ((w.alloc (.cells #[.int .u64 (wd S 0), .int .u64 (wd S 1), .int .u64 (wd S 2), .int .u64 (wd S 3)] 24)).alloc (.cells #[.int .u64 0, .int .u64 0, .int .u64 0, .int .u64 0] 24)) w.heap.size S := heap_alloc2_old w _ _
  have h2 : SetAt ((w.alloc (.cells #[.int .u64 (wd S 0), .int .u64 (wd S 1), .int .u64 (wd S 2), .int .u64 (wd S 3)] 24)).alloc (.cells #[.int .u64 0, .int .u64 0, .int .u64 0, .int .u64 0] 24)) (w.heap.size + 1) emptyS := SetAt.of_empty (heap_alloc2_new w _ _)
  have hb : Below w.heap.size w ((w.alloc (.cells #[.int .u64 (wd S 0), .int .u64 (wd S 1), .int .u64 (wd S 2), .int .u64 (wd S 3)] 24)).alloc (.cells #[.int .u64 0, .int .u64 0, .int .u64 0, .int .u64 0] 24)) := ((Below.refl _ _).alloc (Nat.le_refl _) _).alloc (by simp) _
  obtain ⟨W1, hW1⟩ : ∃ W1, (w.alloc (.cells #[.int .u64 (wd S 0), .int .u64 (wd S 1), .int .u64 (wd S 2), .int .u64 (wd S 3)] 24)).alloc (.cells #[.int .u64 0, .int .u64 0, .int .u64 0, .int .u64 0] 24) = W1 := ⟨_, rfl⟩
  rw [hW1] at h1 h2 hb
  have hz := h2.lt
  have HR := Lib.hid h2
  have HB := Lib.hid hb
  have c0 : W1.drew.cell? _ = some _ := h1.cell 0 (by omega)
  have c1 : W1.drew.cell? _ = some _ := h1.cell 1 (by omega)
  have c2 : W1.drew.cell? _ = some _ := h1.cell 2 (by omega)
  have c3 : W1.drew.cell? _ = some _ := h1.cell 3 (by omega)
  clear h1 h2 hb
  go_enter Tryd.func29, Tryd.ntmps29
  go_wp2_with fail
  clear hW1
  refine wp_region_fam_tail_lit (E := Onto) 3 1
    [isV (.agg #[.int .u64 (wd (spanS 0 255 256) 0), .int .u64 (wd (spanS 0 255 256) 1), .int .u64 (wd (spanS 0 255 256) 2), .int .u64 (wd (spanS 0 255 256) 3)]),
     isV (.agg #[.int .u64 (wd (S) 0), .int .u64 (wd (S) 1), .int .u64 (wd (S) 2), .int .u64 (wd (S) 3)]),
     isV (.agg #[.int .u64 (wd (fun x => !S x) 0), .int .u64 (wd (fun x => !S x) 1), .int .u64 (wd (fun x => !S x) 2), .int .u64 (wd (fun x => !S x) 3)])]
    [some 3, some 4, some 5] #[true, true, true, false] (by kernel_rfl) rfl (by kernel_rfl) (by kernel_rfl) rfl rfl rfl Onto.trans Onto.refl ?mono ?ob ?q
  case mono => exact ⟨isV_mono _ _, isV_mono _ _, isV_mono _ _, trivial⟩
  case ob =>
    refine Obs.cons (j := 1) rfl ?_ ?_
    · refine Ob.free [] (by kernel_rfl) (isV (.agg #[.int .u64 (wd (spanS 0 255 256) 0), .int .u64 (wd (spanS 0 255 256) 1), .int .u64 (wd (spanS 0 255 256) 2), .int .u64 (wd (spanS 0 255 256) 3)])) rfl rfl (fun a X hE hL => ?_)
      rw [relAt_eq]
      go_simp
      rw [relUpon_enter]
      go_at_call 11
      refine (HSPAN.out _).mono ?_
      rintro e Y ⟨rfl, hY⟩
      exact ⟨_, rfl, hY, rfl⟩
    refine Obs.cons (j := 2) rfl ?_ ?_
    · refine Ob.free [(1, none)] (by kernel_rfl) (isV (.agg #[.int .u64 (wd (S) 0), .int .u64 (wd (S) 1), .int .u64 (wd (S) 2), .int .u64 (wd (S) 3)])) rfl rfl (fun a X hE hL => ?_)
      simp [Seen, slotAt] at hL
      have h1 := hL
      rw [relAt_eq]
      have f0 := keeps hE _ _ c0; have f1 := keeps hE _ _ c1; have f2 := keeps hE _ _ c2; have f3 := keeps hE _ _ c3
      go_simp
      exact ⟨Onto.refl _, rfl⟩
    refine Obs.cons (j := 3) rfl ?_ ?_
    · refine Ob.free [(3, some 0), (4, some 1)] (by kernel_rfl) (isV (.agg #[.int .u64 (wd (fun x => !S x) 0), .int .u64 (wd (fun x => !S x) 1), .int .u64 (wd (fun x => !S x) 2), .int .u64 (wd (fun x => !S x) 3)])) rfl rfl (fun a X hE hL => ?_)
      simp [Seen, slotAt, famV, isV] at hL
      obtain ⟨h3, h4⟩ := hL
      rw [relAt_eq]
      go_simp
      rw [relUpon_enter]
      go_at_call 26
      refine (HTWO.out _).mono ?_
      rintro e Y ⟨rfl, hY⟩
      exact ⟨_, rfl, hY, rfl⟩
    exact trivial
  case q =>
    intro x wq hE hV
    simp [AllV, famV, isV] at hV
    obtain ⟨-, -, h5⟩ := hV
    simp only [puts, Act.put, List.setIfInBounds_toArray, List.set_cons_zero, List.set_cons_succ, h5]
    generalize x 3 = y3
    generalize x 4 = y4
    clear h5
    have HR2 : Hid (SetAt wq (w.heap.size + 1) emptyS) := Lib.hid (HR.out.below (onto_drew hE) (by omega))
    have HB2 := Lib.hid (HB.out.trans ((onto_drew hE).mono HB.out.size))
    clear hE
    refine wpAny_ready (rs := [3]) (by kernel_rfl) (by simp) ?_
    refine AllReady.cons rfl (fun K hK => ?_) AllReady.nil
    rw [if_pos (by rfl)]
    refine wp_store_set _ _ rfl (w.heap.size + 1) (emptyS) (fun x => !S x) rfl rfl HR2.out ?_
    intro w9 hR hB9 hO9 hS9
    refine hK _ _ ?_
    clear hK K
    try simp only [Act.put, List.getElem_toArray, List.getElem_cons_succ, List.getElem_cons_zero, List.setIfInBounds_toArray, List.set_cons_zero, List.set_cons_succ]
    refine wpAny_done (by kernel_rfl) ?_ _
    go_wp2
    refine bodyPost_ret (results_cell_row rfl _ _ (w.heap.size + 1) 24 _ (0, 0) _ rfl hR Tryd.underlying24 rfl sizeSet) rfl ⟨rfl, ?_⟩
    exact HB2.out.trans (hB9 _ (by omega))

set_option maxHeartbeats 2000000 in
theorem rall_any (w : World) (a : Option Addr) (len cap : Nat) (ls : List (Nat → Bool)) (h : SRow w a len ls) :
    Calls Tryd.prog 24 #[.slice a len cap] w fun e w' => e = .returned (setV (anyS ls)) ∧ Below w.heap.size w w' := by
  have hl2 := h.2.1
  have hz : SetAt ((w.alloc (.cells #[.int .u64 0, .int .u64 0, .int .u64 0, .int .u64 0] 24)).alloc (.cells #[.int .u64 0, .int .u64 0, .int .u64 0, .int .u64 0] 24)) (w.heap.size + 1) emptyS := SetAt.of_empty (heap_alloc2_new w _ _)
  have hy : SetAt ((w.alloc (.cells #[.int .u64 0, .int .u64 0, .int .u64 0, .int .u64 0] 24)).alloc (.cells #[.int .u64 0, .int .u64 0, .int .u64 0, .int .u64 0] 24)) w.heap.size emptyS := SetAt.of_empty (heap_alloc2_old w _ _)
  have HZ := Lib.hid (hz.congr (any_zero ls))
  have HY := Lib.hid hy
  have HH := Lib.hid h
  have HL := Lib.hid h.1
  clear hz hy h
  unfold setV
  go_enter Tryd.func24, Tryd.ntmps24
  go_wp2
  go_loopw [4] (fun i wr => ∃ k : Nat, k ≤ len ∧ i = .int .i64 k ∧ SetAt wr w.heap.size emptyS ∧ SetAt wr (w.heap.size + 1) (anyS (ls.take k)) ∧ Below w.heap.size w wr) (fun i _ => len - (intOf i).toNat)
  case atStart => exact ⟨0, by omega, rfl, HY.out, HZ.out, ((Below.refl _ _).alloc (Nat.le_refl _) _).alloc (by simp) _⟩
  case round =>
    obtain ⟨k, hk, rfl, hY, hZ, hb⟩ := hrel
    clear HY HZ
    have HY2 := Lib.hid hY
    have HZ2 := Lib.hid hZ
    have HB := Lib.hid hb
    have hz1 := hZ.lt
    clear hY hb
    by_cases hlt : k < len
    · obtain ⟨b1, o1, S, rfl, hbl, hS, d0', d1', d2', d3'⟩ := (HH.out.below HB.out).at_ hlt
      have c0 : wr.drew.cell? _ = some _ := hZ.cell 0 (by omega)
      have c1 : wr.drew.cell? _ = some _ := hZ.cell 1 (by omega)
      have c2 : wr.drew.cell? _ = some _ := hZ.cell 2 (by omega)
      have c3 : wr.drew.cell? _ = some _ := hZ.cell 3 (by omega)
      have d0 : wr.drew.cell? _ = some _ := d0'
      have d1 : wr.drew.cell? _ = some _ := d1'
      have d2 : wr.drew.cell? _ = some _ := d2'
      have d3 : wr.drew.cell? _ = some _ := d3'
      have htwo := fun w' => rtwo_any 0 (by simp) (anyS (ls.take k)) S w'
      have he : setV (fun x => twoB 0 (anyS (ls.take k) x) (S x)) = setV (anyS (ls.take (k + 1))) := SameSet.val fun x hx => by
        rw [← any_next hS x hx]; simp [twoB]
      rw [he] at htwo
      unfold setV at htwo
      have HTWO := Lib.hid htwo
      have hp0 : (0 : Int) ≤ (k : Int) := by omega
      have hp1 : (k : Int) < (len : Int) := by omega
      clear hS hZ htwo he d0' d1' d2' d3'
      go_wp2_with fail
      refine wp_region_fam_tail_lit (E := Onto) 6 1
        [isV (.agg #[.int .u64 (wd (anyS (ls.take k)) 0), .int .u64 (wd (anyS (ls.take k)) 1), .int .u64 (wd (anyS (ls.take k)) 2), .int .u64 (wd (anyS (ls.take k)) 3)]),
         isV (.slice (some ⟨b1, o1, none⟩) len cap),
         isV (.int .i64 k),
         isV (.pointer (some ⟨b1, o1 + k * 4, none⟩)),
         isV (.agg #[.int .u64 (wd (S) 0), .int .u64 (wd (S) 1), .int .u64 (wd (S) 2), .int .u64 (wd (S) 3)]),
         isV (.agg #[.int .u64 (wd (anyS (ls.take (k + 1))) 0), .int .u64 (wd (anyS (ls.take (k + 1))) 1), .int .u64 (wd (anyS (ls.take (k + 1))) 2), .int .u64 (wd (anyS (ls.take (k + 1))) 3)])]
        [some 12, some 13, some 14, some 15, some 16, some 17] #[true, true, true, true, true, true, false] (by kernel_rfl) rfl (by kernel_rfl) (by kernel_rfl) rfl rfl rfl Onto.trans Onto.refl ?mono ?ob ?q
      case mono => exact ⟨isV_mono _ _, isV_mono _ _, isV_mono _ _, isV_mono _ _, isV_mono _ _, isV_mono _ _, trivial⟩
      case ob =>
        refine Obs.cons (j := 1) rfl ?_ ?_
        · refine Ob.free [(3, none)] (by kernel_rfl) (isV (.agg #[.int .u64 (wd (anyS (ls.take k)) 0), .int .u64 (wd (anyS (ls.take k)) 1), .int .u64 (wd (anyS (ls.take k)) 2), .int .u64 (wd (anyS (ls.take k)) 3)])) rfl rfl (fun a X hE hL => ?_)
          simp [Seen, slotAt] at hL
          have h3 := hL
          rw [relAt_eq]
          have f0 := keeps hE _ _ c0; have f1 := keeps hE _ _ c1; have f2 := keeps hE _ _ c2; have f3 := keeps hE _ _ c3
          go_simp
          exact ⟨Onto.refl _, rfl⟩
        refine Obs.cons (j := 2) rfl ?_ ?_
        · refine Ob.free [(0, none)] (by kernel_rfl) (isV (.slice (some ⟨b1, o1, none⟩) len cap)) rfl rfl (fun a X hE hL => ?_)
          simp [Seen, slotAt] at hL
          have h0 := hL
          rw [relAt_eq]
          go_simp
          exact ⟨Onto.refl _, rfl⟩
        refine Obs.cons (j := 3) rfl ?_ ?_
        · refine Ob.free [(4, none)] (by kernel_rfl) (isV (.int .i64 k)) rfl rfl (fun a X hE hL => ?_)
          simp [Seen, slotAt] at hL
          have h4 := hL
          rw [relAt_eq]
          go_simp
          exact ⟨Onto.refl _, rfl⟩
        refine Obs.cons (j := 4) rfl ?_ ?_
        · refine Ob.free [(13, some 1), (14, some 2)] (by kernel_rfl) (isV (.pointer (some ⟨b1, o1 + k * 4, none⟩))) rfl rfl (fun a X hE hL => ?_)
          simp [Seen, slotAt, famV, isV] at hL
          obtain ⟨h13, h14⟩ := hL
          rw [relAt_eq]
          go_simp
          exact ⟨Onto.refl _, rfl⟩
        refine Obs.cons (j := 5) rfl ?_ ?_
        · refine Ob.free [(15, some 3)] (by kernel_rfl) (isV (.agg #[.int .u64 (wd (S) 0), .int .u64 (wd (S) 1), .int .u64 (wd (S) 2), .int .u64 (wd (S) 3)])) rfl rfl (fun a X hE hL => ?_)
          simp [Seen, slotAt, famV, isV] at hL
          have h15 := hL
          rw [relAt_eq]
          have f0 := keeps hE _ _ d0; have f1 := keeps hE _ _ d1; have f2 := keeps hE _ _ d2; have f3 := keeps hE _ _ d3
          go_simp
          exact ⟨Onto.refl _, rfl⟩
        refine Obs.cons (j := 6) rfl ?_ ?_
        · refine Ob.free [(12, some 0), (16, some 4)] (by kernel_rfl) (isV (.agg #[.int .u64 (wd (anyS (ls.take (k + 1))) 0), .int .u64 (wd (anyS (ls.take (k + 1))) 1), .int .u64 (wd (anyS (ls.take (k + 1))) 2), .int .u64 (wd (anyS (ls.take (k + 1))) 3)])) rfl rfl (fun a X hE hL => ?_)
          simp [Seen, slotAt, famV, isV] at hL
          obtain ⟨h12, h16⟩ := hL
          rw [relAt_eq]
          go_simp
          rw [relUpon_enter]
          go_at_call 26
          refine (HTWO.out _).mono ?_
          rintro e Y ⟨rfl, hY⟩
          exact ⟨_, rfl, hY, rfl⟩
        exact trivial
      case q =>
        intro x wq hE hV
        simp [AllV, famV, isV] at hV
        obtain ⟨-, -, -, -, -, h17⟩ := hV
        simp only [puts, Act.put, List.setIfInBounds_toArray, List.set_cons_zero, List.set_cons_succ, h17]
        generalize x 12 = y12
        generalize x 13 = y13
        generalize x 14 = y14
        generalize x 15 = y15
        generalize x 16 = y16
        clear h17
        have HY3 : Hid (SetAt wq w.heap.size emptyS) := Lib.hid (HY2.out.below (onto_drew hE) (by omega))
        have HZ3 : Hid (SetAt wq (w.heap.size + 1) (anyS (ls.take k))) := Lib.hid (HZ2.out.below (onto_drew hE) (by omega))
        have HB2 := Lib.hid (HB.out.trans ((onto_drew hE).mono HB.out.size))
        clear hE
        refine wpAny_ready (rs := [6]) (by kernel_rfl) (by simp) ?_
        refine AllReady.cons rfl (fun K hK => ?_) AllReady.nil
        rw [if_pos (by rfl)]
        refine wp_store_set _ _ rfl (w.heap.size + 1) (anyS (ls.take k)) (anyS (ls.take (k + 1))) rfl rfl HZ3.out ?_
        intro w9 hR hB9 hO9 hS9
        refine hK _ _ ?_
        clear hK K
        try simp only [Act.put, List.getElem_toArray, List.getElem_cons_succ, List.getElem_cons_zero, List.setIfInBounds_toArray, List.set_cons_zero, List.set_cons_succ]
        refine wpAny_done (by kernel_rfl) ?_ _
        have HR := Lib.hid hR
        have HO := Lib.hid hO9
        have HB9 := Lib.hid hB9
        clear hR hO9 hB9
        go_wp2
        go_roundw
        case rel => exact ⟨k + 1, by omega, by go_num, (HO.out _ (by omega)).trans HY3.out, HR.out, HB2.out.trans (HB9.out _ (by omega))⟩
        case measure => simp [intOf]; omega
    · have HK : Hid (ls.take k = ls) := by show _ = _; exact List.take_of_length_le (by rw [HL.out]; omega)
      rw [HK.out] at HZ2
      have c0 := HZ2.out.cell 0 (by omega)
      have c1 := HZ2.out.cell 1 (by omega)
      have c2 := HZ2.out.cell 2 (by omega)
      have c3 := HZ2.out.cell 3 (by omega)
      clear hZ
      go_wp2_with (refine wpList_store_set rfl _ _ rfl w.heap.size emptyS (anyS ls) rfl rfl HY2.out ?_; intro w9 hR hB9 hO9 hS9)
      refine bodyPost_ret (results_cell_row rfl _ _ w.heap.size 24 _ (0, 0) _ rfl hR Tryd.underlying24 rfl sizeSet) rfl ⟨rfl, ?_⟩
      exact HB.out.trans (hB9 _ (Nat.le_refl _))
end Go.Proofs.YtglgmnhfpemfeaaDoor
