/- Several texts in one: BTwo, FactA. -/
import Derived.Test.YtbefndibkpjgaaaTw3
import Derived.Test.YtbefndibkpjgaaaTw2
import Derived.Deep.MidRow
/- bset: Minus; the document's Two, All, Not. -/
namespace Go.Proofs.Ytbefndibkpjgaaa
open Go.RowKit
set_option linter.unusedVariables false

theorem wp_store_set {o : Oper} {a : Act} {w : World} {K : Act → World → Prop} {Q : Exit → Act → World → Prop} (x y : Operand) (ho : o.op = .store 33 x y)
    (g : Nat) (S T : Nat → Bool) (hx : a.eval x = .pointer (some ⟨g, 0, none⟩)) (hy : a.eval y = setV T) (hg : SetAt w g S)
    (h : ∀ w', SetAt w' g T → (∀ B, B ≤ g → Below B w w') → (∀ k, k ≠ g → w'.heap[k]? = w.heap[k]?) → w'.heap.size = w.heap.size → K (a.put o.dst undef) w') : o.wp Try.prog a w K Q := by
  refine wp_store_row 33 x y ho g _ hx hy 33 _ hg sizeSet rfl (by simp [Value.oneCell']) ?_
  exact h _ (setRow_heap w g _ _ _ _ hg) (fun B hB => (Below.refl _ _).trans ⟨rfl, rfl, rfl, by simp, fun k hk => setRow_other w g k _ (by omega)⟩) (fun k hk => setRow_other w g k _ hk) (by simp)
theorem setO3 (w : World) (S T : Nat → Bool) : ∃ W1, W1 = ((w.alloc (.cells #[.int .u64 (wd S 0), .int .u64 (wd S 1), .int .u64 (wd S 2), .int .u64 (wd S 3)] 33)).alloc (.cells #[.int .u64 (wd T 0), .int .u64 (wd T 1), .int .u64 (wd T 2), .int .u64 (wd T 3)] 33)).alloc (.cells #[.int .u64 0, .int .u64 0, .int .u64 0, .int .u64 0] 33) ∧
    SetAt W1 w.heap.size S ∧ SetAt W1 (w.heap.size + 1) T ∧ SetAt W1 (w.heap.size + 2) emptyS ∧ Below w.heap.size w W1 ∧ W1.heap.size = w.heap.size + 3 := by
  refine ⟨_, rfl, ?_, ?_, ?_, (((Below.refl _ _).alloc (Nat.le_refl _) _).alloc (by simp) _).alloc (by simp; omega) _, by simp⟩
  · exact (Below.heap_alloc _ _ w.heap.size (by simp; omega)).trans (heap_alloc2_old w _ _)
  · exact (Below.heap_alloc _ _ (w.heap.size + 1) (by simp)).trans (heap_alloc2_new w _ _)
  · refine SetAt.of_empty ?_
    have := heap_alloc_new ((w.alloc (.cells #[.int .u64 (wd S 0), .int .u64 (wd S 1), .int .u64 (wd S 2), .int .u64 (wd S 3)] 33)).alloc (.cells #[.int .u64 (wd T 0), .int .u64 (wd T 1), .int .u64 (wd T 2), .int .u64 (wd T 3)] 33)) (.cells #[.int .u64 0, .int .u64 0, .int .u64 0, .int .u64 0] 33)
    simpa using this
theorem setO4 (w : World) (S T : Nat → Bool) : ∃ W1, W1 = (((w.alloc (.cells #[.int .u64 (wd S 0), .int .u64 (wd S 1), .int .u64 (wd S 2), .int .u64 (wd S 3)] 33)).alloc (.cells #[.int .u64 (wd T 0), .int .u64 (wd T 1), .int .u64 (wd T 2), .int .u64 (wd T 3)] 33)).alloc (.cells #[.int .u64 0, .int .u64 0, .int .u64 0, .int .u64 0] 33)).alloc (.cells #[.int .u64 0, .int .u64 0, .int .u64 0, .int .u64 0] 33) ∧
    SetAt W1 w.heap.size S ∧ SetAt W1 (w.heap.size + 1) T ∧ SetAt W1 (w.heap.size + 2) emptyS ∧ SetAt W1 (w.heap.size + 3) emptyS ∧ Below w.heap.size w W1 ∧ W1.heap.size = w.heap.size + 4 := by
  obtain ⟨W0, h0, h1, h2, h3, hb, hs⟩ := setO3 w S T
  refine ⟨_, rfl, ?_⟩
  rw [← h0]
  have hB := (Below.refl W0.heap.size W0).alloc (Nat.le_refl _) (.cells #[.int .u64 0, .int .u64 0, .int .u64 0, .int .u64 0] 33)
  refine ⟨h1.below hB h1.lt, h2.below hB h2.lt, h3.below hB h3.lt, ?_, hb.alloc (by omega) _, by simp [hs]⟩
  refine SetAt.of_empty ?_
  have := heap_alloc_new W0 (.cells #[.int .u64 0, .int .u64 0, .int .u64 0, .int .u64 0] 33)
  rwa [hs] at this
/-- What two come to: 0: what one of them has, 1: what both have, 2: what the first alone has. -/
def twoB (h : Int) (s t : Bool) : Bool := (h == 0 && (s || t)) || (h == 1 && s && t) || (h == 2 && s && !t)
def twoUp (h : Int) (S T : Nat → Bool) (k : Nat) : Nat → Bool := fun x => decide (x < k) && twoB h (S x) (T x)
theorem two_zero (h : Int) (S T : Nat → Bool) : SameSet emptyS (twoUp h S T 0) := fun x _ => by simp [twoUp, emptyS]
theorem two_yes {h : Int} {S T : Nat → Bool} {k : Nat} (hc : twoB h (S k) (T k) = true) : SameSet (addS (twoUp h S T k) k) (twoUp h S T (k + 1)) := fun x _ => by
  unfold addS twoUp
  by_cases hx : x = k
  · subst hx; simp [hc]
  · have : decide (x < k + 1) = decide (x < k) := by rw [decide_eq_decide]; omega
    simp [hx, this]
theorem two_no {h : Int} {S T : Nat → Bool} {k : Nat} (hc : twoB h (S k) (T k) = false) : SameSet (twoUp h S T k) (twoUp h S T (k + 1)) := fun x _ => by
  unfold twoUp
  by_cases hx : x = k
  · subst hx; simp [hc]
  · have : decide (x < k + 1) = decide (x < k) := by rw [decide_eq_decide]; omega
    simp [this]
theorem two_all (h : Int) (S T : Nat → Bool) : SameSet (twoUp h S T 256) (fun x => twoB h (S x) (T x)) := fun x hx => by simp [twoUp, hx]
set_option maxHeartbeats 2000000 in
set_option maxRecDepth 100000 in
theorem rtwo_any (h : Int) (hh : h = 0 ∨ h = 1 ∨ h = 2) (S T : Nat → Bool) (w : World) :
    Calls Try.prog 65 #[.int .i64 h, setV S, setV T] w fun e w' => e = .returned (setV (fun x => twoB h (S x) (T x))) ∧ Below w.heap.size w w' := by
  unfold setV
  obtain ⟨W1, hW1, h1, h2, h3, h4, hb, hs⟩ := setO4 w S T
  have HS1 := Lib.hid h1
  have HT1 := Lib.hid h2
  have HR1 := Lib.hid h3
  have HZ1 := Lib.hid (h4.congr (two_zero h S T))
  have HB1 := Lib.hid hb
  clear h1 h2 h3 h4 hb hs
  go_enter Try.func65, Try.ntmps65
  go_wp2
  rw [← hW1]
  clear hW1
  go_loopw [8] (fun i wr => ∃ k : Nat, k ≤ 256 ∧ i = .int .i64 k ∧ SetAt wr w.heap.size S ∧ SetAt wr (w.heap.size + 1) T ∧ SetAt wr (w.heap.size + 2) emptyS ∧ SetAt wr (w.heap.size + 3) (twoUp h S T k) ∧ Below w.heap.size w wr) (fun i _ => 256 - (intOf i).toNat)
  case atStart => exact ⟨0, by omega, rfl, HS1.out, HT1.out, HR1.out, HZ1.out, HB1.out⟩
  case round =>
    obtain ⟨k, hk, rfl, h1, h2, h3, h4, hb⟩ := hrel
    clear HS1 HT1 HR1 HZ1 HB1
    have HS := Lib.hid h1
    have HT := Lib.hid h2
    have HR := Lib.hid h3
    have HZ := Lib.hid h4
    have HB := Lib.hid hb
    by_cases hlt : k < 256
    · have c0 : wr.drew.cell? _ = some _ := h1.cell 0 (by omega)
      have c1 : wr.drew.cell? _ = some _ := h1.cell 1 (by omega)
      have c2 : wr.drew.cell? _ = some _ := h1.cell 2 (by omega)
      have c3 : wr.drew.cell? _ = some _ := h1.cell 3 (by omega)
      have d0 : wr.drew.cell? _ = some _ := h2.cell 0 (by omega)
      have d1 : wr.drew.cell? _ = some _ := h2.cell 1 (by omega)
      have d2 : wr.drew.cell? _ = some _ := h2.cell 2 (by omega)
      have d3 : wr.drew.cell? _ = some _ := h2.cell 3 (by omega)
      have hhs := fun w' => refhas_any S k w' hlt
      have hht := fun w' => refhas_any T k w' hlt
      have hwi := fun w' => with_any (twoUp h S T k) k w' hlt
      have hyes := two_yes (h := h) (S := S) (T := T) (k := k)
      have hno := two_no (h := h) (S := S) (T := T) (k := k)
      obtain ⟨s, hs⟩ : ∃ s, S k = s := ⟨_, rfl⟩
      obtain ⟨t, ht⟩ : ∃ t, T k = t := ⟨_, rfl⟩
      rw [hs] at hhs hyes hno
      rw [ht] at hht hyes hno
      unfold setV at hhs hht hwi
      have HHS := Lib.hid hhs
      have HHT := Lib.hid hht
      have HWI := Lib.hid hwi
      have HY := Lib.hid hyes
      have HN := Lib.hid hno
      have hz0 := h4.lt
      have HWK : Hid (IntKind.u8.wrap (k : Int) = (k : Int)) := Lib.hid (IntWalk.u8_in _ ⟨by omega, by omega⟩)
      clear h1 h2 h3 h4 hb hhs hht hwi hyes hno hs ht
      go_wp2_with fail
      refine wp_region_fam_lit (E := Onto)
        [isV (.agg #[.int .u64 (wd (S) 0), .int .u64 (wd (S) 1), .int .u64 (wd (S) 2), .int .u64 (wd (S) 3)]),
         isV (.int .i64 k),
         isV (.int .u8 ((k : Nat) : Int)),
         isV (.bool s),
         isV (.agg #[.int .u64 (wd (T) 0), .int .u64 (wd (T) 1), .int .u64 (wd (T) 2), .int .u64 (wd (T) 3)]),
         isV (.int .i64 k),
         isV (.int .u8 ((k : Nat) : Int)),
         isV (.bool t),
         isV (.bool s),
         isV (.bool t)]
        [some 16, some 17, some 18, some 19, some 20, some 21, some 22, some 23, some 9, some 10] (by kernel_rfl) rfl (by kernel_rfl) rfl Onto.trans Onto.refl ?mono ?ob ?q
      case mono => exact ⟨isV_mono _ _, isV_mono _ _, isV_mono _ _, isV_mono _ _, isV_mono _ _, isV_mono _ _, isV_mono _ _, isV_mono _ _, isV_mono _ _, isV_mono _ _, trivial⟩
      case ob =>
        refine Obs.cons (j := 1) rfl ?_ ?_
        · refine Ob.free [(4, none)] (by kernel_rfl) (isV (.agg #[.int .u64 (wd (S) 0), .int .u64 (wd (S) 1), .int .u64 (wd (S) 2), .int .u64 (wd (S) 3)])) rfl rfl (fun a X hE hL => ?_)
          simp [Seen, slotAt] at hL
          have h4 := hL
          rw [relAt_eq]
          have f0 := keeps hE _ _ c0; have f1 := keeps hE _ _ c1; have f2 := keeps hE _ _ c2; have f3 := keeps hE _ _ c3
          go_simp
          exact ⟨Onto.refl _, rfl⟩
        refine Obs.cons (j := 2) rfl ?_ ?_
        · refine Ob.free [(8, none)] (by kernel_rfl) (isV (.int .i64 k)) rfl rfl (fun a X hE hL => ?_)
          simp [Seen, slotAt] at hL
          have h8 := hL
          rw [relAt_eq]
          go_simp
          exact ⟨Onto.refl _, rfl⟩
        refine Obs.cons (j := 3) rfl ?_ ?_
        · refine Ob.free [(17, some 1)] (by kernel_rfl) (isV (.int .u8 ((k : Nat) : Int))) rfl rfl (fun a X hE hL => ?_)
          simp [Seen, slotAt, famV, isV] at hL
          have h17 := hL
          rw [relAt_eq]
          go_simp
          exact ⟨Onto.refl _, congrArg (Value.int .u8) HWK.out⟩
        refine Obs.cons (j := 4) rfl ?_ ?_
        · refine Ob.free [(16, some 0), (18, some 2)] (by kernel_rfl) (isV (.bool s)) rfl rfl (fun a X hE hL => ?_)
          simp [Seen, slotAt, famV, isV] at hL
          obtain ⟨h16, h18⟩ := hL
          rw [relAt_eq]
          go_simp
          rw [relUpon_enter]
          go_at_call 72
          refine (HHS.out _).mono ?_
          rintro e Y ⟨rfl, hY⟩
          exact ⟨_, rfl, hY, rfl⟩
        refine Obs.cons (j := 5) rfl ?_ ?_
        · refine Ob.free [(5, none)] (by kernel_rfl) (isV (.agg #[.int .u64 (wd (T) 0), .int .u64 (wd (T) 1), .int .u64 (wd (T) 2), .int .u64 (wd (T) 3)])) rfl rfl (fun a X hE hL => ?_)
          simp [Seen, slotAt] at hL
          have h5 := hL
          rw [relAt_eq]
          have f0 := keeps hE _ _ d0; have f1 := keeps hE _ _ d1; have f2 := keeps hE _ _ d2; have f3 := keeps hE _ _ d3
          go_simp
          exact ⟨Onto.refl _, rfl⟩
        refine Obs.cons (j := 6) rfl ?_ ?_
        · refine Ob.free [(8, none)] (by kernel_rfl) (isV (.int .i64 k)) rfl rfl (fun a X hE hL => ?_)
          simp [Seen, slotAt] at hL
          have h8 := hL
          rw [relAt_eq]
          go_simp
          exact ⟨Onto.refl _, rfl⟩
        refine Obs.cons (j := 7) rfl ?_ ?_
        · refine Ob.free [(21, some 5)] (by kernel_rfl) (isV (.int .u8 ((k : Nat) : Int))) rfl rfl (fun a X hE hL => ?_)
          simp [Seen, slotAt, famV, isV] at hL
          have h21 := hL
          rw [relAt_eq]
          go_simp
          exact ⟨Onto.refl _, congrArg (Value.int .u8) HWK.out⟩
        refine Obs.cons (j := 8) rfl ?_ ?_
        · refine Ob.free [(20, some 4), (22, some 6)] (by kernel_rfl) (isV (.bool t)) rfl rfl (fun a X hE hL => ?_)
          simp [Seen, slotAt, famV, isV] at hL
          obtain ⟨h20, h22⟩ := hL
          rw [relAt_eq]
          go_simp
          rw [relUpon_enter]
          go_at_call 72
          refine (HHT.out _).mono ?_
          rintro e Y ⟨rfl, hY⟩
          exact ⟨_, rfl, hY, rfl⟩
        refine Obs.cons (j := 9) rfl ?_ ?_
        · refine Ob.free [(19, some 3)] (by kernel_rfl) (isV (.bool s)) rfl rfl (fun a X hE hL => ?_)
          simp [Seen, slotAt, famV, isV] at hL
          have h19 := hL
          rw [relAt_eq]
          go_simp
          exact ⟨Onto.refl _, rfl⟩
        refine Obs.cons (j := 10) rfl ?_ ?_
        · refine Ob.free [(23, some 7)] (by kernel_rfl) (isV (.bool t)) rfl rfl (fun a X hE hL => ?_)
          simp [Seen, slotAt, famV, isV] at hL
          have h23 := hL
          rw [relAt_eq]
          go_simp
          exact ⟨Onto.refl _, rfl⟩
        exact trivial
      case q =>
        intro x wq hE hV
        simp [AllV, famV, isV] at hV
        obtain ⟨-, -, -, -, -, -, -, -, h9, h10⟩ := hV
        simp only [puts, Act.put, List.setIfInBounds_toArray, List.set_cons_zero, List.set_cons_succ, h9, h10]
        generalize x 16 = y16
        generalize x 17 = y17
        generalize x 18 = y18
        generalize x 19 = y19
        generalize x 20 = y20
        generalize x 21 = y21
        generalize x 22 = y22
        generalize x 23 = y23
        clear h9 h10
        have HS2 : Hid (SetAt wq w.heap.size S) := Lib.hid (HS.out.below (onto_drew hE) (by omega))
        have HT2 : Hid (SetAt wq (w.heap.size + 1) T) := Lib.hid (HT.out.below (onto_drew hE) (by omega))
        have HR2 : Hid (SetAt wq (w.heap.size + 2) emptyS) := Lib.hid (HR.out.below (onto_drew hE) (by omega))
        have HZ2 : Hid (SetAt wq (w.heap.size + 3) (twoUp h S T k)) := Lib.hid (HZ.out.below (onto_drew hE) (by omega))
        have HB2 := Lib.hid (HB.out.trans ((onto_drew hE).mono HB.out.size))
        have hzq := HZ2.out.lt
        clear hE HS HT HR HZ HB c0 c1 c2 c3 d0 d1 d2 d3
        have c0 := HZ2.out.cell 0 (by omega)
        have c1 := HZ2.out.cell 1 (by omega)
        have c2 := HZ2.out.cell 2 (by omega)
        have c3 := HZ2.out.cell 3 (by omega)
        rcases hh with rfl | rfl | rfl <;> cases s <;> cases t
        · go_wp2_with fail
          go_roundw
          case rel => exact ⟨k + 1, by omega, by go_num, HS2.out, HT2.out, HR2.out, HZ2.out.congr (HN.out rfl), HB2.out⟩
          case measure => simp [intOf]; omega
        · go_wp2_with (first
            | (go_at_call 75; (with_reducible refine (HWI.out _).mono ?_); rintro e w1 ⟨rfl, hb1⟩; have HZ1 := Lib.hid (HZ2.out.below hb1 hzq))
            | ((with_reducible refine wpList_store_set rfl _ _ rfl (w.heap.size + 3) (twoUp 0 S T k) (addS (twoUp 0 S T k) k) ?_ ?_ HZ1.out ?_); rfl; rfl; intro w9 hR hB9 hO9 hS9; have HR9 := Lib.hid hR; have HO9 := Lib.hid hO9; have HB9 := Lib.hid hB9; clear hR hO9 hB9))
          go_roundw
          case rel => exact ⟨k + 1, by omega, by go_num, (HO9.out _ (by omega)).trans (HS2.out.below hb1 (by omega)), (HO9.out _ (by omega)).trans (HT2.out.below hb1 (by omega)), (HO9.out _ (by omega)).trans (HR2.out.below hb1 (by omega)), SetAt.congr HR9.out (HY.out rfl), (HB2.out.trans (hb1.mono HB2.out.size)).trans (HB9.out _ (by omega))⟩
          case measure => simp [intOf]; omega
        · go_wp2_with (first
            | (go_at_call 75; (with_reducible refine (HWI.out _).mono ?_); rintro e w1 ⟨rfl, hb1⟩; have HZ1 := Lib.hid (HZ2.out.below hb1 hzq))
            | ((with_reducible refine wpList_store_set rfl _ _ rfl (w.heap.size + 3) (twoUp 0 S T k) (addS (twoUp 0 S T k) k) ?_ ?_ HZ1.out ?_); rfl; rfl; intro w9 hR hB9 hO9 hS9; have HR9 := Lib.hid hR; have HO9 := Lib.hid hO9; have HB9 := Lib.hid hB9; clear hR hO9 hB9))
          go_roundw
          case rel => exact ⟨k + 1, by omega, by go_num, (HO9.out _ (by omega)).trans (HS2.out.below hb1 (by omega)), (HO9.out _ (by omega)).trans (HT2.out.below hb1 (by omega)), (HO9.out _ (by omega)).trans (HR2.out.below hb1 (by omega)), SetAt.congr HR9.out (HY.out rfl), (HB2.out.trans (hb1.mono HB2.out.size)).trans (HB9.out _ (by omega))⟩
          case measure => simp [intOf]; omega
        · go_wp2_with (first
            | (go_at_call 75; (with_reducible refine (HWI.out _).mono ?_); rintro e w1 ⟨rfl, hb1⟩; have HZ1 := Lib.hid (HZ2.out.below hb1 hzq))
            | ((with_reducible refine wpList_store_set rfl _ _ rfl (w.heap.size + 3) (twoUp 0 S T k) (addS (twoUp 0 S T k) k) ?_ ?_ HZ1.out ?_); rfl; rfl; intro w9 hR hB9 hO9 hS9; have HR9 := Lib.hid hR; have HO9 := Lib.hid hO9; have HB9 := Lib.hid hB9; clear hR hO9 hB9))
          go_roundw
          case rel => exact ⟨k + 1, by omega, by go_num, (HO9.out _ (by omega)).trans (HS2.out.below hb1 (by omega)), (HO9.out _ (by omega)).trans (HT2.out.below hb1 (by omega)), (HO9.out _ (by omega)).trans (HR2.out.below hb1 (by omega)), SetAt.congr HR9.out (HY.out rfl), (HB2.out.trans (hb1.mono HB2.out.size)).trans (HB9.out _ (by omega))⟩
          case measure => simp [intOf]; omega
        · go_wp2_with fail
          go_roundw
          case rel => exact ⟨k + 1, by omega, by go_num, HS2.out, HT2.out, HR2.out, HZ2.out.congr (HN.out rfl), HB2.out⟩
          case measure => simp [intOf]; omega
        · go_wp2_with fail
          go_roundw
          case rel => exact ⟨k + 1, by omega, by go_num, HS2.out, HT2.out, HR2.out, HZ2.out.congr (HN.out rfl), HB2.out⟩
          case measure => simp [intOf]; omega
        · go_wp2_with fail
          go_roundw
          case rel => exact ⟨k + 1, by omega, by go_num, HS2.out, HT2.out, HR2.out, HZ2.out.congr (HN.out rfl), HB2.out⟩
          case measure => simp [intOf]; omega
        · go_wp2_with (first
            | (go_at_call 75; (with_reducible refine (HWI.out _).mono ?_); rintro e w1 ⟨rfl, hb1⟩; have HZ1 := Lib.hid (HZ2.out.below hb1 hzq))
            | ((with_reducible refine wpList_store_set rfl _ _ rfl (w.heap.size + 3) (twoUp 1 S T k) (addS (twoUp 1 S T k) k) ?_ ?_ HZ1.out ?_); rfl; rfl; intro w9 hR hB9 hO9 hS9; have HR9 := Lib.hid hR; have HO9 := Lib.hid hO9; have HB9 := Lib.hid hB9; clear hR hO9 hB9))
          go_roundw
          case rel => exact ⟨k + 1, by omega, by go_num, (HO9.out _ (by omega)).trans (HS2.out.below hb1 (by omega)), (HO9.out _ (by omega)).trans (HT2.out.below hb1 (by omega)), (HO9.out _ (by omega)).trans (HR2.out.below hb1 (by omega)), SetAt.congr HR9.out (HY.out rfl), (HB2.out.trans (hb1.mono HB2.out.size)).trans (HB9.out _ (by omega))⟩
          case measure => simp [intOf]; omega
        · go_wp2_with fail
          go_roundw
          case rel => exact ⟨k + 1, by omega, by go_num, HS2.out, HT2.out, HR2.out, HZ2.out.congr (HN.out rfl), HB2.out⟩
          case measure => simp [intOf]; omega
        · go_wp2_with fail
          go_roundw
          case rel => exact ⟨k + 1, by omega, by go_num, HS2.out, HT2.out, HR2.out, HZ2.out.congr (HN.out rfl), HB2.out⟩
          case measure => simp [intOf]; omega
        · go_wp2_with (first
            | (go_at_call 75; (with_reducible refine (HWI.out _).mono ?_); rintro e w1 ⟨rfl, hb1⟩; have HZ1 := Lib.hid (HZ2.out.below hb1 hzq))
            | ((with_reducible refine wpList_store_set rfl _ _ rfl (w.heap.size + 3) (twoUp 2 S T k) (addS (twoUp 2 S T k) k) ?_ ?_ HZ1.out ?_); rfl; rfl; intro w9 hR hB9 hO9 hS9; have HR9 := Lib.hid hR; have HO9 := Lib.hid hO9; have HB9 := Lib.hid hB9; clear hR hO9 hB9))
          go_roundw
          case rel => exact ⟨k + 1, by omega, by go_num, (HO9.out _ (by omega)).trans (HS2.out.below hb1 (by omega)), (HO9.out _ (by omega)).trans (HT2.out.below hb1 (by omega)), (HO9.out _ (by omega)).trans (HR2.out.below hb1 (by omega)), SetAt.congr HR9.out (HY.out rfl), (HB2.out.trans (hb1.mono HB2.out.size)).trans (HB9.out _ (by omega))⟩
          case measure => simp [intOf]; omega
        · go_wp2_with fail
          go_roundw
          case rel => exact ⟨k + 1, by omega, by go_num, HS2.out, HT2.out, HR2.out, HZ2.out.congr (HN.out rfl), HB2.out⟩
          case measure => simp [intOf]; omega
    · have hk2 : k = 256 := by omega
      subst hk2
      have HF := Lib.hid (HZ.out.congr (two_all h S T))
      clear h1 h2 h3 h4 hb
      have c0 := HF.out.cell 0 (by omega)
      have c1 := HF.out.cell 1 (by omega)
      have c2 := HF.out.cell 2 (by omega)
      have c3 := HF.out.cell 3 (by omega)
      go_wp2_with (refine wpList_store_set rfl _ _ rfl (w.heap.size + 2) emptyS (fun x => twoB h (S x) (T x)) rfl rfl HR.out ?_; intro w9 hR hB9 hO9 hS9)
      refine bodyPost_ret (results_cell_row rfl _ _ (w.heap.size + 2) 33 _ (0, 0) _ rfl hR Try.underlying33 rfl sizeSet) rfl ⟨rfl, ?_⟩
      exact HB.out.trans (hB9 _ (by omega))

set_option maxHeartbeats 1000000 in
set_option maxRecDepth 100000 in
theorem rnot_any (S : Nat → Bool) (w : World) :
    Calls Try.prog 82 #[setV S] w fun e w' => e = .returned (setV (fun x => !S x)) ∧ Below w.heap.size w w' := by
  have hspan := fun w' => span_any 0 255 w'
  have htwo := fun w' => rtwo_any 2 (by simp) (spanS 0 255 256) S w'
  have he : setV (fun x => twoB 2 (spanS 0 255 256 x) (S x)) = setV (fun x => !S x) := SameSet.val fun x hx => by
    have h1 : (x : Int) ≤ 255 := by omega
    simp [twoB, spanS, h1, hx]
  rw [he] at htwo
  unfold setV at hspan htwo ⊢
  have HSPAN := Lib.hid hspan
  have HTWO := Lib.hid htwo
  clear hspan htwo he
  have h1 : SetAt ((w.alloc (.cells #[.int .u64 (wd S 0), .int .u64 (wd S 1), .int .u64 (wd S 2), .int .u64 (wd S 3)] 33)).alloc (.cells #[.int .u64 0, .int .u64 0, .int .u64 0, .int .u64 0] 33)) w.heap.size S := heap_alloc2_old w _ _
  have h2 : SetAt ((w.alloc (.cells #[.int .u64 (wd S 0), .int .u64 (wd S 1), .int .u64 (wd S 2), .int .u64 (wd S 3)] 33)).alloc (.cells #[.int .u64 0, .int .u64 0, .int .u64 0, .int .u64 0] 33)) (w.heap.size + 1) emptyS := SetAt.of_empty (heap_alloc2_new w _ _)
  have hb : Below w.heap.size w ((w.alloc (.cells #[.int .u64 (wd S 0), .int .u64 (wd S 1), .int .u64 (wd S 2), .int .u64 (wd S 3)] 33)).alloc (.cells #[.int .u64 0, .int .u64 0, .int .u64 0, .int .u64 0] 33)) := ((Below.refl _ _).alloc (Nat.le_refl _) _).alloc (by simp) _
  obtain ⟨W1, hW1⟩ : ∃ W1, (w.alloc (.cells #[.int .u64 (wd S 0), .int .u64 (wd S 1), .int .u64 (wd S 2), .int .u64 (wd S 3)] 33)).alloc (.cells #[.int .u64 0, .int .u64 0, .int .u64 0, .int .u64 0] 33) = W1 := ⟨_, rfl⟩
  rw [hW1] at h1 h2 hb
  have hz := h2.lt
  have HR := Lib.hid h2
  have HB := Lib.hid hb
  have c0 : W1.drew.cell? _ = some _ := h1.cell 0 (by omega)
  have c1 : W1.drew.cell? _ = some _ := h1.cell 1 (by omega)
  have c2 : W1.drew.cell? _ = some _ := h1.cell 2 (by omega)
  have c3 : W1.drew.cell? _ = some _ := h1.cell 3 (by omega)
  clear h1 h2 hb
  go_enter Try.func82, Try.ntmps82
  go_wp2_with fail
  clear hW1
  refine wp_region_fam_tail_lit (E := Onto) 3 1
    [isV (.agg #[.int .u64 (wd (spanS 0 255 256) 0), .int .u64 (wd (spanS 0 255 256) 1), .int .u64 (wd (spanS 0 255 256) 2), .int .u64 (wd (spanS 0 255 256) 3)]),
     isV (.agg #[.int .u64 (wd (S) 0), .int .u64 (wd (S) 1), .int .u64 (wd (S) 2), .int .u64 (wd (S) 3)]),
     isV (.agg #[.int .u64 (wd (fun x => !S x) 0), .int .u64 (wd (fun x => !S x) 1), .int .u64 (wd (fun x => !S x) 2), .int .u64 (wd (fun x => !S x) 3)])]
    [some 3, some 4, some 5] #[true, true, true, false] (by kernel_rfl) rfl (by kernel_rfl) (by kernel_rfl) rfl rfl rfl Onto.trans Onto.refl ?mono ?ob ?q
  case mono => exact ⟨isV_mono _ _, isV_mono _ _, isV_mono _ _, trivial⟩
  case ob =>
    refine Obs.cons (j := 1) rfl ?_ ?_
    · refine Ob.free [] (by kernel_rfl) (isV (.agg #[.int .u64 (wd (spanS 0 255 256) 0), .int .u64 (wd (spanS 0 255 256) 1), .int .u64 (wd (spanS 0 255 256) 2), .int .u64 (wd (spanS 0 255 256) 3)])) rfl rfl (fun a X hE hL => ?_)
      rw [relAt_eq]
      go_simp
      rw [relUpon_enter]
      go_at_call 87
      refine (HSPAN.out _).mono ?_
      rintro e Y ⟨rfl, hY⟩
      exact ⟨_, rfl, hY, rfl⟩
    refine Obs.cons (j := 2) rfl ?_ ?_
    · refine Ob.free [(1, none)] (by kernel_rfl) (isV (.agg #[.int .u64 (wd (S) 0), .int .u64 (wd (S) 1), .int .u64 (wd (S) 2), .int .u64 (wd (S) 3)])) rfl rfl (fun a X hE hL => ?_)
      simp [Seen, slotAt] at hL
      have h1 := hL
      rw [relAt_eq]
      have f0 := keeps hE _ _ c0; have f1 := keeps hE _ _ c1; have f2 := keeps hE _ _ c2; have f3 := keeps hE _ _ c3
      go_simp
      exact ⟨Onto.refl _, rfl⟩
    refine Obs.cons (j := 3) rfl ?_ ?_
    · refine Ob.free [(3, some 0), (4, some 1)] (by kernel_rfl) (isV (.agg #[.int .u64 (wd (fun x => !S x) 0), .int .u64 (wd (fun x => !S x) 1), .int .u64 (wd (fun x => !S x) 2), .int .u64 (wd (fun x => !S x) 3)])) rfl rfl (fun a X hE hL => ?_)
      simp [Seen, slotAt, famV, isV] at hL
      obtain ⟨h3, h4⟩ := hL
      rw [relAt_eq]
      go_simp
      rw [relUpon_enter]
      go_at_call 65
      refine (HTWO.out _).mono ?_
      rintro e Y ⟨rfl, hY⟩
      exact ⟨_, rfl, hY, rfl⟩
    exact trivial
  case q =>
    intro x wq hE hV
    simp [AllV, famV, isV] at hV
    obtain ⟨-, -, h5⟩ := hV
    simp only [puts, Act.put, List.setIfInBounds_toArray, List.set_cons_zero, List.set_cons_succ, h5]
    generalize x 3 = y3
    generalize x 4 = y4
    clear h5
    have HR2 : Hid (SetAt wq (w.heap.size + 1) emptyS) := Lib.hid (HR.out.below (onto_drew hE) (by omega))
    have HB2 := Lib.hid (HB.out.trans ((onto_drew hE).mono HB.out.size))
    clear hE
    refine wpAny_ready (rs := [3]) (by kernel_rfl) (by simp) ?_
    refine AllReady.cons rfl (fun K hK => ?_) AllReady.nil
    rw [if_pos (by rfl)]
    refine wp_store_set _ _ rfl (w.heap.size + 1) (emptyS) (fun x => !S x) rfl rfl HR2.out ?_
    intro w9 hR hB9 hO9 hS9
    refine hK _ _ ?_
    clear hK K
    try simp only [Act.put, List.getElem_toArray, List.getElem_cons_succ, List.getElem_cons_zero, List.setIfInBounds_toArray, List.set_cons_zero, List.set_cons_succ]
    refine wpAny_done (by kernel_rfl) ?_ _
    go_wp2
    refine bodyPost_ret (results_cell_row rfl _ _ (w.heap.size + 1) 33 _ (0, 0) _ rfl hR Try.underlying33 rfl sizeSet) rfl ⟨rfl, ?_⟩
    exact HB2.out.trans (hB9 _ (by omega))

end Go.Proofs.Ytbefndibkpjgaaa
/- Facts: their cells; how they are read and written whole. -/
namespace Go.Proofs.Ytbefndibkpjgaaa
open Go.RowKit
set_option linter.unusedVariables false

def factA (F : Fact) : Array Value := #[.bool F.some_, .int .i64 (F.lo : Int), .int .i64 (F.hi : Int), .bool F.more, .int .u64 (wd F.first 0), .int .u64 (wd F.first 1), .int .u64 (wd F.first 2), .int .u64 (wd F.first 3), .int .u64 (wd F.used 0), .int .u64 (wd F.used 1), .int .u64 (wd F.used 2), .int .u64 (wd F.used 3)]
theorem factA_size (F : Fact) : (factA F).size = 12 := rfl
theorem factA_one (F : Fact) : (factA F).all (·.oneCell') = true := by simp [factA, Value.oneCell']
theorem factA_f0 : factA f0 = #[.bool false, .int .i64 0, .int .i64 0, .bool false, .int .u64 0, .int .u64 0, .int .u64 0, .int .u64 0, .int .u64 0, .int .u64 0, .int .u64 0, .int .u64 0] := by
  simp [factA, f0, wd_emptyS]
theorem factA_f1 : factA f1 = #[.bool true, .int .i64 0, .int .i64 0, .bool false, .int .u64 0, .int .u64 0, .int .u64 0, .int .u64 0, .int .u64 0, .int .u64 0, .int .u64 0, .int .u64 0] := by
  simp [factA, f1, wd_emptyS]
theorem factA_set (S : Nat → Bool) : factA ⟨true, 1, 1, false, S, S⟩ = #[.bool true, .int .i64 1, .int .i64 1, .bool false, .int .u64 (wd S 0), .int .u64 (wd S 1), .int .u64 (wd S 2), .int .u64 (wd S 3), .int .u64 (wd S 0), .int .u64 (wd S 1), .int .u64 (wd S 2), .int .u64 (wd S 3)] := rfl
theorem sizeFact (F : Fact) : (Try.prog.info? 61).map (·.size) = some (factA F).size := by rw [factA_size]; kernel_rfl
/-- A fact in a block of its own. -/
def FactAt (w : World) (g : Nat) (F : Fact) : Prop := w.heap[g]? = some (.cells (factA F) 61 (0, 0))
/-- A fact's cells at a place. -/
def FactIn (w : World) (b off : Nat) (F : Fact) : Prop := ∀ j v, (factA F)[j]? = some v → w.cell? ⟨b, off + j, none⟩ = some v
theorem FactAt.lt {w : World} {g : Nat} {F : Fact} (h : FactAt w g F) : g < w.heap.size := (Array.getElem?_eq_some_iff.1 h).1
theorem FactAt.cell {w : World} {g : Nat} {F : Fact} (h : FactAt w g F) {j : Nat} {v : Value} (hv : (factA F)[j]? = some v) : w.cell? ⟨g, j, none⟩ = some v := by rw [cell_of_row w g j _ _ _ h]; exact hv
theorem FactAt.in_ {w : World} {g : Nat} {F : Fact} (h : FactAt w g F) : FactIn w g 0 F := fun j v hv => by rw [Nat.zero_add]; exact h.cell hv
theorem FactAt.frozen {w : World} {g : Nat} {F : Fact} (h : FactAt w g F) (k : Nat) : w.frozen? ⟨g, k, none⟩ = false := frozen_of_row w g k _ _ h
theorem FactAt.below {B g : Nat} {w w' : World} {F : Fact} (h : FactAt w g F) (hb : Below B w w') (hg : g < B) : FactAt w' g F := (hb.block g hg).trans h
theorem FactAt.onto {g : Nat} {w w' : World} {F : Fact} (h : FactAt w g F) (hb : Below w.heap.size w w') : FactAt w' g F := h.below hb h.lt
theorem FactIn.onto {b off : Nat} {w w' : World} {F : Fact} (h : FactIn w b off F) (hl : b < w.heap.size) (hb : Below w.heap.size w w') : FactIn w' b off F := fun j v hv => (hb.cell (p := ⟨b, off + j, none⟩) hl).trans (h j v hv)
def loadF (a : Addr) : Sem Value := loadVar 61 a
theorem loadF_eq (a : Addr) : loadVar 61 a = loadF a := rfl
theorem run_loadF (w : World) (b off : Nat) (F : Fact) (h : FactIn w b off F) : (loadF ⟨b, off, none⟩).run Try.prog w = .ok (.agg (factA F)) w := by
  have := run_loadVar_mid (P := Try.prog) w b off 61 (factA F).toList _ (fun j v hv => h j v (by rwa [Array.getElem?_toList] at hv)) Try.underlying61 rfl (by rw [Array.length_toList]; exact sizeFact F)
  simpa [loadF] using this
theorem run_loadF0 (w : World) (g : Nat) (F : Fact) (h : FactAt w g F) : (loadF ⟨g, 0, none⟩).run Try.prog w = .ok (.agg (factA F)) w := run_loadF w g 0 F h.in_
theorem wpList_store_fact {ops : Array Oper} {rest : List Oper} {o : Oper} {a : Act} {w : World} {Q : Exit → Act → World → Prop} (hgd : o.guard = none) (x y : Operand) (ho : o.op = .store 61 x y)
    (g : Nat) (F F' : Fact) (hx : a.eval x = .pointer (some ⟨g, 0, none⟩)) (hy : a.eval y = .agg (factA F')) (hg : FactAt w g F)
    (h : ∀ w', FactAt w' g F' → (∀ B, B ≤ g → Below B w w') → (∀ k, k ≠ g → w'.heap[k]? = w.heap[k]?) → w'.heap.size = w.heap.size → wpList Try.prog ops Q rest (a.put o.dst undef) w') : wpList Try.prog ops Q (o :: rest) a w := by
  refine wpList_store_row hgd 61 x y ho g (factA F') hx hy 61 (factA F) hg (sizeFact F') rfl (factA_one F') ?_
  exact h _ (setRow_heap w g _ _ _ _ hg) (fun B hB => (Below.refl _ _).trans ⟨rfl, rfl, rfl, by simp, fun k hk => setRow_other w g k _ (by omega)⟩) (fun k hk => setRow_other w g k _ hk) (by simp)
theorem wp_store_fact {o : Oper} {a : Act} {w : World} {K : Act → World → Prop} {Q : Exit → Act → World → Prop} (x y : Operand) (ho : o.op = .store 61 x y)
    (g : Nat) (F F' : Fact) (hx : a.eval x = .pointer (some ⟨g, 0, none⟩)) (hy : a.eval y = .agg (factA F')) (hg : FactAt w g F)
    (h : ∀ w', FactAt w' g F' → (∀ B, B ≤ g → Below B w w') → (∀ k, k ≠ g → w'.heap[k]? = w.heap[k]?) → w'.heap.size = w.heap.size → K (a.put o.dst undef) w') : o.wp Try.prog a w K Q := by
  refine wp_store_row 61 x y ho g _ hx hy 61 _ hg (sizeFact F') rfl (factA_one F') ?_
  exact h _ (setRow_heap w g _ _ _ _ hg) (fun B hB => (Below.refl _ _).trans ⟨rfl, rfl, rfl, by simp, fun k hk => setRow_other w g k _ (by omega)⟩) (fun k hk => setRow_other w g k _ hk) (by simp)
def ZF : Obj := .cells #[.bool false, .int .i64 0, .int .i64 0, .bool false, .int .u64 0, .int .u64 0, .int .u64 0, .int .u64 0, .int .u64 0, .int .u64 0, .int .u64 0, .int .u64 0] 61
theorem FactAt.zero (w : World) (g : Nat) (hg : w.heap.size = g) : FactAt (w.alloc ZF) g f0 := by subst hg; unfold FactAt; rw [factA_f0]; exact heap_alloc_new w _
theorem FactAt.new (w : World) (g : Nat) (F : Fact) (hg : w.heap.size = g) : FactAt (w.alloc (.cells (factA F) 61)) g F := by subst hg; exact heap_alloc_new w _
theorem boxesF (w : World) (a b : Fact) : ∃ W1, W1 = ((w.alloc (.cells (factA a) 61)).alloc (.cells (factA b) 61)).alloc ZF ∧
    FactAt W1 w.heap.size a ∧ FactAt W1 (w.heap.size + 1) b ∧ FactAt W1 (w.heap.size + 2) f0 ∧ Below w.heap.size w W1 ∧ W1.heap.size = w.heap.size + 3 := by
  refine ⟨_, rfl, ?_, ?_, ?_, (((Below.refl _ _).alloc (Nat.le_refl _) _).alloc (by simp) _).alloc (by simp; omega) _, by simp⟩
  · exact (FactAt.new w _ a rfl).onto ((Below.alloc (Below.refl _ _) (Nat.le_refl _) _).trans ((Below.alloc (Below.refl _ _) (Nat.le_refl _) _).mono (by simp)))
  · exact (FactAt.new (w.alloc (.cells (factA a) 61)) _ b (by simp)).onto (Below.alloc (Below.refl _ _) (Nat.le_refl _) _)
  · exact FactAt.zero _ _ (by simp)
/-- Two sets in a new block. -/
def slST (S T : Nat → Bool) (v : Value) (x : World) : Prop := ∃ g, v = .slice (some ⟨g, 0, none⟩) 2 2 ∧ SRow x (some ⟨g, 0, none⟩) 2 [S, T]
theorem slST_mono (S T : Nat → Bool) : ∀ v x y, slST S T v x → Onto x y → slST S T v y := fun v x y ⟨g, h1, h2⟩ h => ⟨g, h1, h2.below h⟩
theorem srow_two (w : World) (S T : Nat → Bool) : SRow (w.alloc (.cells #[.int .u64 (wd S 0), .int .u64 (wd S 1), .int .u64 (wd S 2), .int .u64 (wd S 3), .int .u64 (wd T 0), .int .u64 (wd T 1), .int .u64 (wd T 2), .int .u64 (wd T 3)] 33)) (some ⟨w.heap.size, 0, none⟩) 2 [S, T] := by
  refine ⟨rfl, by decide, fun _ => ⟨w.heap.size, 0, rfl, by simp, fun i S' hi j hj => ?_⟩⟩
  rw [World.cell?_alloc_new]
  match i, hi with
  | 0, hi =>
    simp at hi; subst hi
    have : j = 0 ∨ j = 1 ∨ j = 2 ∨ j = 3 := by omega
    rcases this with rfl | rfl | rfl | rfl <;> rfl
  | 1, hi =>
    simp at hi; subst hi
    have : j = 0 ∨ j = 1 ∨ j = 2 ∨ j = 3 := by omega
    rcases this with rfl | rfl | rfl | rfl <;> rfl
theorem all2_any (S T : Nat → Bool) (w : World) (g : Nat) (h : SRow w (some ⟨g, 0, none⟩) 2 [S, T]) :
    Calls Try.prog 74 #[.slice (some ⟨g, 0, none⟩) 2 2] w fun e w' => e = .returned (setV (orS S T)) ∧ Below w.heap.size w w' := by
  have e : setV (anyS [S, T]) = setV (orS S T) := SameSet.val fun x _ => by simp [anyS, orS]
  rw [← e]; exact ball_any w _ 2 2 [S, T] h
theorem sizeSet9 (S : Nat → Bool) : (Try.prog.info? 33).map (·.size) = some (#[.int .u64 (wd S 0), .int .u64 (wd S 1), .int .u64 (wd S 2), .int .u64 (wd S 3)] : Array Value).size := by kernel_rfl
/-- The first bytes are written anew. -/
theorem wpList_store_first {ops : Array Oper} {rest : List Oper} {o : Oper} {a : Act} {w : World} {Q : Exit → Act → World → Prop} (hgd : o.guard = none) (x y : Operand) (ho : o.op = .store 33 x y)
    (g : Nat) (F : Fact) (S : Nat → Bool) (hx : a.eval x = .pointer (some ⟨g, 4, none⟩)) (hy : a.eval y = .agg #[.int .u64 (wd S 0), .int .u64 (wd S 1), .int .u64 (wd S 2), .int .u64 (wd S 3)]) (hg : FactAt w g F)
    (h : ∀ w', FactAt w' g { F with first := S } → (∀ B, B ≤ g → Below B w w') → w'.heap.size = w.heap.size → wpList Try.prog ops Q rest (a.put o.dst undef) w') : wpList Try.prog ops Q (o :: rest) a w := by
  refine wpList_store_mid hgd 33 x y ho g 4 #[.int .u64 (wd S 0), .int .u64 (wd S 1), .int .u64 (wd S 2), .int .u64 (wd S 3)] hx hy (fun j hj => ?_) (sizeSet9 S) (by simp [Value.oneCell']) ?_
  · have hj4 : j < 4 := hj
    have : j = 0 ∨ j = 1 ∨ j = 2 ∨ j = 3 := by omega
    rcases this with rfl | rfl | rfl | rfl
    · exact ⟨by rw [hg.cell (j := 4) rfl]; rfl, hg.frozen 4⟩
    · exact ⟨by rw [hg.cell (j := 5) rfl]; rfl, hg.frozen 5⟩
    · exact ⟨by rw [hg.cell (j := 6) rfl]; rfl, hg.frozen 6⟩
    · exact ⟨by rw [hg.cell (j := 7) rfl]; rfl, hg.frozen 7⟩
  · have h1 := heap_setCell_same w g 4 _ _ (.int .u64 (wd S 0)) hg
    have h2 := heap_setCell_same _ g 5 _ _ (.int .u64 (wd S 1)) h1
    have h3 := heap_setCell_same _ g 6 _ _ (.int .u64 (wd S 2)) h2
    have h4 := heap_setCell_same _ g 7 _ _ (.int .u64 (wd S 3)) h3
    refine h _ h4 (fun B hB => ?_) (by simp [World.setCells])
    exact (((((Below.refl B w).setCell (p := ⟨g, 4, none⟩) hB _).setCell (p := ⟨g, 5, none⟩) hB _).setCell (p := ⟨g, 6, none⟩) hB _).setCell (p := ⟨g, 7, none⟩) hB _)
theorem sizeBool9 (v : Bool) : (Try.prog.info? 4).map (·.size) = some (#[.bool v] : Array Value).size := by kernel_rfl
/-- Whether there is no longest one is written anew. -/
theorem wpList_store_more {ops : Array Oper} {rest : List Oper} {o : Oper} {a : Act} {w : World} {Q : Exit → Act → World → Prop} (hgd : o.guard = none) (x y : Operand) (ho : o.op = .store 4 x y)
    (g : Nat) (F : Fact) (v : Bool) (hx : a.eval x = .pointer (some ⟨g, 3, none⟩)) (hy : a.eval y = .bool v) (hg : FactAt w g F)
    (h : ∀ w', FactAt w' g { F with more := v } → (∀ B, B ≤ g → Below B w w') → (∀ k, k ≠ g → w'.heap[k]? = w.heap[k]?) → w'.heap.size = w.heap.size → wpList Try.prog ops Q rest (a.put o.dst undef) w') : wpList Try.prog ops Q (o :: rest) a w := by
  refine wpList_plain hgd fun K hK => ?_
  have cS := hg.cell (j := 3) rfl
  have fS := hg.frozen 3
  unfold Oper.wp execOp
  simp only [ho, hx, hy]
  go_simp
  exact hK _ _ (h _ (heap_setCell_same w g 3 _ _ (.bool v) hg) (fun B hB => (Below.refl B w).setCell (p := ⟨g, 3, none⟩) hB _) (fun k hk => heap_setCell_other w ⟨g, 3, none⟩ k _ hk) (by simp))
/-- A new box of a fact. -/
def newF (B : Nat) (v : Value) (x : World) : Prop := ∃ k, v = .pointer (some ⟨k, 0, none⟩) ∧ B ≤ k ∧ FactAt x k f0
theorem newF_mono (B : Nat) : ∀ v x y, newF B v x → Onto x y → newF B v y := fun v x y ⟨k, h1, h0, h2⟩ h => ⟨k, h1, h0, h2.onto h⟩
end Go.Proofs.Ytbefndibkpjgaaa
