/- bset: what is asked of any set. -/
import Derived.Test.YtglgmnhfpemfeaaDoorBTurn
import Derived.Lib.BufferRead
namespace Go.Proofs.YtglgmnhfpemfeaaDoor
open Go.RowKit Go.Sort
set_option linter.unusedVariables false

def strB (l : List Nat) : ByteArray := strOfNums (l.map fun (n : Nat) => (n : Int))
/-- A row of the call's own of just these bytes; of just these stretches. -/
def rowB (l : List Nat) (v : Value) (x : World) : Prop := ∃ base, x.ownsRow base 5 1 v l.length (l.flatMap by1)
def rowR (l : List (Nat × Nat)) (v : Value) (x : World) : Prop := ∃ A c, v = .slice A l.length c ∧ CRow rn2 2 x A l.length l
theorem rowB_mono (l : List Nat) : ∀ v x y, rowB l v x → Onto x y → rowB l v y := fun v x y ⟨b, h⟩ hE => ⟨b, ownB h hE⟩
theorem rowR_mono (l : List (Nat × Nat)) : ∀ v x y, rowR l v x → Onto x y → rowR l v y := fun v x y ⟨A, c, e, h⟩ hE => ⟨A, c, e, h.below hE⟩
theorem rowB_mk {l : List Nat} {v : Value} {x : World} {b : Nat} (h : x.ownsRow b 5 1 v l.length (l.flatMap by1)) : rowB l v x := ⟨b, h⟩
theorem rowR_mk {R : List (Nat × Nat)} {v : Value} {x : World} {b : Nat} (h : x.ownsRow b 32 2 v R.length (R.flatMap rn2)) : rowR R v x := by
  obtain ⟨A, c, rfl, h1, h2⟩ := own_form h
  exact ⟨A, c, rfl, own_crow rn2_len h (by omega)⟩
theorem rowB_form {l : List Nat} {v : Value} {x : World} (h : rowB l v x) : ∃ A c, v = .slice A l.length c := by
  obtain ⟨b, h⟩ := h
  obtain ⟨A, c, e, _⟩ := own_form h
  exact ⟨A, c, e⟩
theorem conv_by1 {W : World} {base : Nat} {v : Value} {l : List Nat} (h : W.ownsRow base 5 1 v l.length (l.flatMap by1)) : (convert 35 9 v).run Tryd.prog W = .ok (.string (strB l)) W := by
  rw [by1_flat] at h
  rcases h.2 with ⟨rfl, h0⟩ | ⟨g, cap, cur, rfl, hb, hg, hn, hm, hsz, htk⟩
  · have hl : l = [] := List.length_eq_zero_iff.1 h0
    subst hl
    exact Lib.run_convert_nil_bytes W 35 9 5 0 Tryd.underlying35 Tryd.underlying5 Tryd.underlying9
  · exact run_convert_bytes_arg (P := Tryd.prog) W 35 5 Tryd.underlying35 Tryd.underlying5 g 0 l.length cap (l.map fun (n : Nat) => (n : Int)) (by simp) (fun i hi => by
      rw [cell_of_row W g (0 + i) _ _ _ hg]
      have h1 : (cur.toList.take (l.length * 1))[i]? = (l.map fun (n : Nat) => Value.int .u8 (n : Int))[i]? := by rw [htk]
      rw [List.getElem?_take_of_lt (by omega)] at h1
      simp only [Nat.zero_add]
      rw [← Array.getElem?_toList, h1]
      simp [List.getD, hi]) 9 Tryd.underlying9
attribute [local go_sem ↓] eqS_eq eqS_eq' eqR_eq eqR_eq'
set_option maxHeartbeats 4000000 in
theorem asks_any (w : World) (S : Nat → Bool) (c : Nat) (hc : c < 256) (hT : TabT w) :
    Calls Tryd.prog 5 #[setV S, .int .u8 c] w fun e w' => e = .returned (.bool true) ∧ Below w.heap.size w w' := by
  have h1 : SetAt (w.alloc (.cells #[.int .u64 (wd S 0), .int .u64 (wd S 1), .int .u64 (wd S 2), .int .u64 (wd S 3)] 24)) w.heap.size S := heap_alloc_new w _
  have hb : Below w.heap.size w (w.alloc (.cells #[.int .u64 (wd S 0), .int .u64 (wd S 1), .int .u64 (wd S 2), .int .u64 (wd S 3)] 24)) := (Below.refl _ _).alloc (Nat.le_refl _) _
  obtain ⟨W1, hW1⟩ : ∃ W1, w.alloc (.cells #[.int .u64 (wd S 0), .int .u64 (wd S 1), .int .u64 (wd S 2), .int .u64 (wd S 3)] 24) = W1 := ⟨_, rfl⟩
  rw [hW1] at h1 hb
  have HB := Lib.hid hb
  have hk : ∀ X, Onto W1.drew X → Calls Tryd.prog 12 #[] X fun e w' => e = .returned (.bool true) ∧ Below X.heap.size X w' := fun X hX => knows_any X (hT.below (hb.trans ((onto_drew hX).mono hb.size)))
  have hby := fun X (hX : Onto W1.drew X) => bytes_any S X (hT.below (hb.trans ((onto_drew hX).mono hb.size)))
  have hru := fun X (hX : Onto W1.drew X) => runs_any S X (hT.below (hb.trans ((onto_drew hX).mono hb.size)))
  have hf := fun X (hX : Onto W1.drew X) => first_any S X (hT.below (hb.trans ((onto_drew hX).mono hb.size)))
  have hh := fun w' => has_any S c w' hc
  have hrh := fun w' => refhas_any S c w' hc
  have hcn := fun w' => count_any S w'
  have hrb := fun w' => rbytes_any S w'
  have hrr := fun w' => rruns_any S w'
  have hrf := fun w' => rfirst_any S w'
  have hm := bytesL_cnt S 256
  generalize S c = s at hh hrh
  generalize firstF S = f at hf hrf
  generalize cntS S 256 = m at hcn hm
  generalize runsF (bytesL S 256) = R at hru hrr
  generalize bytesL S 256 = L at hby hrb hm
  unfold setV at hby hru hf hh hrh hcn hrb hrr hrf ⊢
  have HM := Lib.hid hm
  have HK := Lib.hid hk
  have HBY := Lib.hid hby
  have HRU := Lib.hid hru
  have HF := Lib.hid hf
  have HH := Lib.hid hh
  have HRH := Lib.hid hrh
  have HC := Lib.hid hcn
  have HRB := Lib.hid hrb
  have HRR := Lib.hid hrr
  have HRF := Lib.hid hrf
  have c0 : W1.drew.cell? _ = some _ := h1.cell 0 (by omega)
  have c1 : W1.drew.cell? _ = some _ := h1.cell 1 (by omega)
  have c2 : W1.drew.cell? _ = some _ := h1.cell 2 (by omega)
  have c3 : W1.drew.cell? _ = some _ := h1.cell 3 (by omega)
  clear h1 hb hk hby hru hf hh hrh hcn hrb hrr hrf hm hT hc
  go_enter Tryd.func5, Tryd.ntmps5
  go_wp2_with fail
  try rw [hW1]
  clear hW1
  refine wp_region_fam_lit (E := Onto)
    [isV (.agg #[.int .u64 (wd (S) 0), .int .u64 (wd (S) 1), .int .u64 (wd (S) 2), .int .u64 (wd (S) 3)]),
     isV (.int .u8 (c : Int)),
     isV (.bool s),
     isV (.agg #[.int .u64 (wd (S) 0), .int .u64 (wd (S) 1), .int .u64 (wd (S) 2), .int .u64 (wd (S) 3)]),
     isV (.int .u8 (c : Int)),
     isV (.bool s),
     isV (.bool true),
     isV (.bool true),
     isV (.agg #[.int .u64 (wd (S) 0), .int .u64 (wd (S) 1), .int .u64 (wd (S) 2), .int .u64 (wd (S) 3)]),
     isV (.int .i64 (m : Int)),
     isV (.agg #[.int .u64 (wd (S) 0), .int .u64 (wd (S) 1), .int .u64 (wd (S) 2), .int .u64 (wd (S) 3)]),
     rowB L,
     isV (.int .i64 (m : Int)),
     isV (.bool true),
     isV (.bool true),
     isV (.bool true),
     isV (.agg #[.int .u64 (wd (S) 0), .int .u64 (wd (S) 1), .int .u64 (wd (S) 2), .int .u64 (wd (S) 3)]),
     rowB L,
     isV (.string (strB L)),
     isV (.agg #[.int .u64 (wd (S) 0), .int .u64 (wd (S) 1), .int .u64 (wd (S) 2), .int .u64 (wd (S) 3)]),
     rowB L,
     isV (.string (strB L)),
     isV (.bool true),
     isV (.bool true),
     isV (.bool true),
     isV (.agg #[.int .u64 (wd (S) 0), .int .u64 (wd (S) 1), .int .u64 (wd (S) 2), .int .u64 (wd (S) 3)]),
     rowR R,
     isV (.agg #[.int .u64 (wd (S) 0), .int .u64 (wd (S) 1), .int .u64 (wd (S) 2), .int .u64 (wd (S) 3)]),
     rowR R,
     isV (.bool true),
     isV (.bool true),
     isV (.bool true),
     isV (.agg #[.int .u64 (wd (S) 0), .int .u64 (wd (S) 1), .int .u64 (wd (S) 2), .int .u64 (wd (S) 3)]),
     isV (.int .i64 f),
     isV (.agg #[.int .u64 (wd (S) 0), .int .u64 (wd (S) 1), .int .u64 (wd (S) 2), .int .u64 (wd (S) 3)]),
     isV (.int .i64 f),
     isV (.bool true),
     isV (.bool true),
     isV (.bool true),
     isV (.bool true),
     isV (.bool true),
     isV (.bool true)]
    [some 5, some 6, some 7, some 8, some 9, some 10, some 11, some 12, some 13, some 14, some 15, some 16, some 17, some 18, some 19, some 20, some 21, some 22, some 23, some 24, some 25, some 26, some 27, some 28, some 29, some 30, some 31, some 32, some 33, some 34, some 35, some 36, some 37, some 38, some 39, some 40, some 41, some 42, some 43, some 44, some 45, some 4] (by kernel_rfl) rfl (by kernel_rfl) rfl Onto.trans Onto.refl ?mono ?ob ?q
  case mono => exact ⟨isV_mono _ _, isV_mono _ _, isV_mono _ _, isV_mono _ _, isV_mono _ _, isV_mono _ _, isV_mono _ _, isV_mono _ _, isV_mono _ _, isV_mono _ _, isV_mono _ _, rowB_mono _, isV_mono _ _, isV_mono _ _, isV_mono _ _, isV_mono _ _, isV_mono _ _, rowB_mono _, isV_mono _ _, isV_mono _ _, rowB_mono _, isV_mono _ _, isV_mono _ _, isV_mono _ _, isV_mono _ _, isV_mono _ _, rowR_mono _, isV_mono _ _, rowR_mono _, isV_mono _ _, isV_mono _ _, isV_mono _ _, isV_mono _ _, isV_mono _ _, isV_mono _ _, isV_mono _ _, isV_mono _ _, isV_mono _ _, isV_mono _ _, isV_mono _ _, isV_mono _ _, isV_mono _ _, trivial⟩
  case ob =>
    refine Obs.cons (j := 1) rfl ?_ ?_
    · refine Ob.free [(2, none)] (by kernel_rfl) (isV (.agg #[.int .u64 (wd (S) 0), .int .u64 (wd (S) 1), .int .u64 (wd (S) 2), .int .u64 (wd (S) 3)])) rfl rfl (fun a X hE hL => ?_)
      simp [Seen, slotAt] at hL
      have h2 := hL
      rw [relAt_eq]
      have f0 := keeps hE _ _ c0; have f1 := keeps hE _ _ c1; have f2 := keeps hE _ _ c2; have f3 := keeps hE _ _ c3
      go_simp
      exact ⟨Onto.refl _, rfl⟩
    refine Obs.cons (j := 2) rfl ?_ ?_
    · refine Ob.free [(1, none)] (by kernel_rfl) (isV (.int .u8 (c : Int))) rfl rfl (fun a X hE hL => ?_)
      simp [Seen, slotAt] at hL
      have h1 := hL
      rw [relAt_eq]
      go_simp
      exact ⟨Onto.refl _, rfl⟩
    refine Obs.cons (j := 3) rfl ?_ ?_
    · refine Ob.free [(5, some 0), (6, some 1)] (by kernel_rfl) (isV (.bool s)) rfl rfl (fun a X hE hL => ?_)
      simp [Seen, slotAt, famV, isV] at hL
      obtain ⟨h5, h6⟩ := hL
      rw [relAt_eq]
      go_simp
      rw [relUpon_enter]
      go_at_call 17
      refine (HH.out _).mono ?_
      rintro e Y ⟨rfl, hY⟩
      exact ⟨_, rfl, hY, rfl⟩
    refine Obs.cons (j := 4) rfl ?_ ?_
    · refine Ob.free [(2, none)] (by kernel_rfl) (isV (.agg #[.int .u64 (wd (S) 0), .int .u64 (wd (S) 1), .int .u64 (wd (S) 2), .int .u64 (wd (S) 3)])) rfl rfl (fun a X hE hL => ?_)
      simp [Seen, slotAt] at hL
      have h2 := hL
      rw [relAt_eq]
      have f0 := keeps hE _ _ c0; have f1 := keeps hE _ _ c1; have f2 := keeps hE _ _ c2; have f3 := keeps hE _ _ c3
      go_simp
      exact ⟨Onto.refl _, rfl⟩
    refine Obs.cons (j := 5) rfl ?_ ?_
    · refine Ob.free [(1, none)] (by kernel_rfl) (isV (.int .u8 (c : Int))) rfl rfl (fun a X hE hL => ?_)
      simp [Seen, slotAt] at hL
      have h1 := hL
      rw [relAt_eq]
      go_simp
      exact ⟨Onto.refl _, rfl⟩
    refine Obs.cons (j := 6) rfl ?_ ?_
    · refine Ob.free [(8, some 3), (9, some 4)] (by kernel_rfl) (isV (.bool s)) rfl rfl (fun a X hE hL => ?_)
      simp [Seen, slotAt, famV, isV] at hL
      obtain ⟨h8, h9⟩ := hL
      rw [relAt_eq]
      go_simp
      rw [relUpon_enter]
      go_at_call 18
      refine (HRH.out _).mono ?_
      rintro e Y ⟨rfl, hY⟩
      exact ⟨_, rfl, hY, rfl⟩
    refine Obs.cons (j := 7) rfl ?_ ?_
    · refine Ob.free [(7, some 2), (10, some 5)] (by kernel_rfl) (isV (.bool true)) rfl rfl (fun a X hE hL => ?_)
      simp [Seen, slotAt, famV, isV] at hL
      obtain ⟨h7, h10⟩ := hL
      rw [relAt_eq]
      cases s <;> go_simp <;> exact ⟨Onto.refl _, rfl⟩
    refine Obs.cons (j := 8) rfl ?_ ?_
    · refine Ob.free [(11, some 6)] (by kernel_rfl) (isV (.bool true)) rfl rfl (fun a X hE hL => ?_)
      simp [Seen, slotAt, famV, isV] at hL
      have h11 := hL
      rw [relAt_eq]
      go_simp
      exact ⟨Onto.refl _, rfl⟩
    refine Obs.cons (j := 9) rfl ?_ ?_
    · refine Ob.guarded [(2, none), (12, some 7)] (by kernel_rfl) (isV (.agg #[.int .u64 (wd (S) 0), .int .u64 (wd (S) 1), .int .u64 (wd (S) 2), .int .u64 (wd (S) 3)])) rfl 7 true 12 rfl rfl (fun a X hE hL => ?_)
      simp [Seen, slotAt, famV, isV] at hL
      obtain ⟨h2, h12⟩ := hL
      refine ⟨by simpa using h12, ?_⟩
      clear h12
      rw [relAt_eq]
      have f0 := keeps hE _ _ c0; have f1 := keeps hE _ _ c1; have f2 := keeps hE _ _ c2; have f3 := keeps hE _ _ c3
      go_simp
      exact ⟨Onto.refl _, rfl⟩
    refine Obs.cons (j := 10) rfl ?_ ?_
    · refine Ob.guarded [(13, some 8), (12, some 7)] (by kernel_rfl) (isV (.int .i64 (m : Int))) rfl 7 true 12 rfl rfl (fun a X hE hL => ?_)
      simp [Seen, slotAt, famV, isV] at hL
      obtain ⟨h13, h12⟩ := hL
      refine ⟨by simpa using h12, ?_⟩
      clear h12
      rw [relAt_eq]
      go_simp
      rw [relUpon_enter]
      go_at_call 15
      refine (HC.out _).mono ?_
      rintro e Y ⟨rfl, hY⟩
      exact ⟨_, rfl, hY, rfl⟩
    refine Obs.cons (j := 11) rfl ?_ ?_
    · refine Ob.guarded [(2, none), (12, some 7)] (by kernel_rfl) (isV (.agg #[.int .u64 (wd (S) 0), .int .u64 (wd (S) 1), .int .u64 (wd (S) 2), .int .u64 (wd (S) 3)])) rfl 7 true 12 rfl rfl (fun a X hE hL => ?_)
      simp [Seen, slotAt, famV, isV] at hL
      obtain ⟨h2, h12⟩ := hL
      refine ⟨by simpa using h12, ?_⟩
      clear h12
      rw [relAt_eq]
      have f0 := keeps hE _ _ c0; have f1 := keeps hE _ _ c1; have f2 := keeps hE _ _ c2; have f3 := keeps hE _ _ c3
      go_simp
      exact ⟨Onto.refl _, rfl⟩
    refine Obs.cons (j := 12) rfl ?_ ?_
    · refine Ob.guarded [(15, some 10), (12, some 7)] (by kernel_rfl) (rowB L) rfl 7 true 12 rfl rfl (fun a X hE hL => ?_)
      simp [Seen, slotAt, famV, isV] at hL
      obtain ⟨h15, h12⟩ := hL
      refine ⟨by simpa using h12, ?_⟩
      clear h12
      rw [relAt_eq]
      go_simp
      rw [relUpon_enter]
      go_at_call 19
      refine (HRB.out _).mono ?_
      rintro e Y ⟨v, rfl, ho, hY⟩
      exact ⟨_, rfl, hY, rowB_mk ho⟩
    refine Obs.cons (j := 13) rfl ?_ ?_
    · refine Ob.guarded [(16, some 11), (12, some 7)] (by kernel_rfl) (isV (.int .i64 (m : Int))) rfl 7 true 12 rfl rfl (fun a X hE hL => ?_)
      simp [Seen, slotAt, famV, isV] at hL
      obtain ⟨h16, h12⟩ := hL
      refine ⟨by simpa using h12, ?_⟩
      clear h12
      rw [relAt_eq]
      obtain ⟨A16, c16, e16⟩ := rowB_form h16
      go_simp
      exact ⟨Onto.refl _, congrArg (Value.int .i64) (congrArg Int.ofNat HM.out)⟩
    refine Obs.cons (j := 14) rfl ?_ ?_
    · refine Ob.guarded [(14, some 9), (17, some 12), (12, some 7)] (by kernel_rfl) (isV (.bool true)) rfl 7 true 12 rfl rfl (fun a X hE hL => ?_)
      simp [Seen, slotAt, famV, isV] at hL
      obtain ⟨h14, h17, h12⟩ := hL
      refine ⟨by simpa using h12, ?_⟩
      clear h12
      rw [relAt_eq]
      go_simp
      exact ⟨Onto.refl _, rfl⟩
    refine Obs.cons (j := 15) rfl ?_ ?_
    · refine Ob.free [(12, some 7), (18, some 13)] (by kernel_rfl) (isV (.bool true)) rfl rfl (fun a X hE hL => ?_)
      simp [Seen, slotAt, famV, isV] at hL
      obtain ⟨h12, h18⟩ := hL
      rw [relAt_eq]
      go_simp
      exact ⟨Onto.refl _, rfl⟩
    refine Obs.cons (j := 16) rfl ?_ ?_
    · refine Ob.free [(19, some 14)] (by kernel_rfl) (isV (.bool true)) rfl rfl (fun a X hE hL => ?_)
      simp [Seen, slotAt, famV, isV] at hL
      have h19 := hL
      rw [relAt_eq]
      go_simp
      exact ⟨Onto.refl _, rfl⟩
    refine Obs.cons (j := 17) rfl ?_ ?_
    · refine Ob.guarded [(2, none), (20, some 15)] (by kernel_rfl) (isV (.agg #[.int .u64 (wd (S) 0), .int .u64 (wd (S) 1), .int .u64 (wd (S) 2), .int .u64 (wd (S) 3)])) rfl 15 true 20 rfl rfl (fun a X hE hL => ?_)
      simp [Seen, slotAt, famV, isV] at hL
      obtain ⟨h2, h20⟩ := hL
      refine ⟨by simpa using h20, ?_⟩
      clear h20
      rw [relAt_eq]
      have f0 := keeps hE _ _ c0; have f1 := keeps hE _ _ c1; have f2 := keeps hE _ _ c2; have f3 := keeps hE _ _ c3
      go_simp
      exact ⟨Onto.refl _, rfl⟩
    refine Obs.cons (j := 18) rfl ?_ ?_
    · refine Ob.guarded [(21, some 16), (20, some 15)] (by kernel_rfl) (rowB L) rfl 15 true 20 rfl rfl (fun a X hE hL => ?_)
      simp [Seen, slotAt, famV, isV] at hL
      obtain ⟨h21, h20⟩ := hL
      refine ⟨by simpa using h20, ?_⟩
      clear h20
      rw [relAt_eq]
      go_simp
      rw [relUpon_enter]
      go_at_call 16
      refine (HBY.out X hE).mono ?_
      rintro e Y ⟨v, rfl, ho, hY⟩
      exact ⟨_, rfl, hY, rowB_mk ho⟩
    refine Obs.cons (j := 19) rfl ?_ ?_
    · refine Ob.guarded [(22, some 17), (20, some 15)] (by kernel_rfl) (isV (.string (strB L))) rfl 15 true 20 rfl rfl (fun a X hE hL => ?_)
      simp [Seen, slotAt, famV, isV] at hL
      obtain ⟨h22, h20⟩ := hL
      refine ⟨by simpa using h20, ?_⟩
      clear h20
      rw [relAt_eq]
      obtain ⟨Bh22, hhh22⟩ := h22
      have cv := conv_by1 hhh22
      go_simp
      exact ⟨Onto.refl _, rfl⟩
    refine Obs.cons (j := 20) rfl ?_ ?_
    · refine Ob.guarded [(2, none), (20, some 15)] (by kernel_rfl) (isV (.agg #[.int .u64 (wd (S) 0), .int .u64 (wd (S) 1), .int .u64 (wd (S) 2), .int .u64 (wd (S) 3)])) rfl 15 true 20 rfl rfl (fun a X hE hL => ?_)
      simp [Seen, slotAt, famV, isV] at hL
      obtain ⟨h2, h20⟩ := hL
      refine ⟨by simpa using h20, ?_⟩
      clear h20
      rw [relAt_eq]
      have f0 := keeps hE _ _ c0; have f1 := keeps hE _ _ c1; have f2 := keeps hE _ _ c2; have f3 := keeps hE _ _ c3
      go_simp
      exact ⟨Onto.refl _, rfl⟩
    refine Obs.cons (j := 21) rfl ?_ ?_
    · refine Ob.guarded [(24, some 19), (20, some 15)] (by kernel_rfl) (rowB L) rfl 15 true 20 rfl rfl (fun a X hE hL => ?_)
      simp [Seen, slotAt, famV, isV] at hL
      obtain ⟨h24, h20⟩ := hL
      refine ⟨by simpa using h20, ?_⟩
      clear h20
      rw [relAt_eq]
      go_simp
      rw [relUpon_enter]
      go_at_call 19
      refine (HRB.out _).mono ?_
      rintro e Y ⟨v, rfl, ho, hY⟩
      exact ⟨_, rfl, hY, rowB_mk ho⟩
    refine Obs.cons (j := 22) rfl ?_ ?_
    · refine Ob.guarded [(25, some 20), (20, some 15)] (by kernel_rfl) (isV (.string (strB L))) rfl 15 true 20 rfl rfl (fun a X hE hL => ?_)
      simp [Seen, slotAt, famV, isV] at hL
      obtain ⟨h25, h20⟩ := hL
      refine ⟨by simpa using h20, ?_⟩
      clear h20
      rw [relAt_eq]
      obtain ⟨Bh25, hhh25⟩ := h25
      have cv := conv_by1 hhh25
      go_simp
      exact ⟨Onto.refl _, rfl⟩
    refine Obs.cons (j := 23) rfl ?_ ?_
    · refine Ob.guarded [(23, some 18), (26, some 21), (20, some 15)] (by kernel_rfl) (isV (.bool true)) rfl 15 true 20 rfl rfl (fun a X hE hL => ?_)
      simp [Seen, slotAt, famV, isV] at hL
      obtain ⟨h23, h26, h20⟩ := hL
      refine ⟨by simpa using h20, ?_⟩
      clear h20
      rw [relAt_eq]
      go_simp
      exact ⟨Onto.refl _, rfl⟩
    refine Obs.cons (j := 24) rfl ?_ ?_
    · refine Ob.free [(20, some 15), (27, some 22)] (by kernel_rfl) (isV (.bool true)) rfl rfl (fun a X hE hL => ?_)
      simp [Seen, slotAt, famV, isV] at hL
      obtain ⟨h20, h27⟩ := hL
      rw [relAt_eq]
      go_simp
      exact ⟨Onto.refl _, rfl⟩
    refine Obs.cons (j := 25) rfl ?_ ?_
    · refine Ob.free [(28, some 23)] (by kernel_rfl) (isV (.bool true)) rfl rfl (fun a X hE hL => ?_)
      simp [Seen, slotAt, famV, isV] at hL
      have h28 := hL
      rw [relAt_eq]
      go_simp
      exact ⟨Onto.refl _, rfl⟩
    refine Obs.cons (j := 26) rfl ?_ ?_
    · refine Ob.guarded [(2, none), (29, some 24)] (by kernel_rfl) (isV (.agg #[.int .u64 (wd (S) 0), .int .u64 (wd (S) 1), .int .u64 (wd (S) 2), .int .u64 (wd (S) 3)])) rfl 24 true 29 rfl rfl (fun a X hE hL => ?_)
      simp [Seen, slotAt, famV, isV] at hL
      obtain ⟨h2, h29⟩ := hL
      refine ⟨by simpa using h29, ?_⟩
      clear h29
      rw [relAt_eq]
      have f0 := keeps hE _ _ c0; have f1 := keeps hE _ _ c1; have f2 := keeps hE _ _ c2; have f3 := keeps hE _ _ c3
      go_simp
      exact ⟨Onto.refl _, rfl⟩
    refine Obs.cons (j := 27) rfl ?_ ?_
    · refine Ob.guarded [(30, some 25), (29, some 24)] (by kernel_rfl) (rowR R) rfl 24 true 29 rfl rfl (fun a X hE hL => ?_)
      simp [Seen, slotAt, famV, isV] at hL
      obtain ⟨h30, h29⟩ := hL
      refine ⟨by simpa using h29, ?_⟩
      clear h29
      rw [relAt_eq]
      go_simp
      rw [relUpon_enter]
      go_at_call 13
      refine (HRU.out X hE).mono ?_
      rintro e Y ⟨v, rfl, ho, hY⟩
      exact ⟨_, rfl, hY, rowR_mk ho⟩
    refine Obs.cons (j := 28) rfl ?_ ?_
    · refine Ob.guarded [(2, none), (29, some 24)] (by kernel_rfl) (isV (.agg #[.int .u64 (wd (S) 0), .int .u64 (wd (S) 1), .int .u64 (wd (S) 2), .int .u64 (wd (S) 3)])) rfl 24 true 29 rfl rfl (fun a X hE hL => ?_)
      simp [Seen, slotAt, famV, isV] at hL
      obtain ⟨h2, h29⟩ := hL
      refine ⟨by simpa using h29, ?_⟩
      clear h29
      rw [relAt_eq]
      have f0 := keeps hE _ _ c0; have f1 := keeps hE _ _ c1; have f2 := keeps hE _ _ c2; have f3 := keeps hE _ _ c3
      go_simp
      exact ⟨Onto.refl _, rfl⟩
    refine Obs.cons (j := 29) rfl ?_ ?_
    · refine Ob.guarded [(32, some 27), (29, some 24)] (by kernel_rfl) (rowR R) rfl 24 true 29 rfl rfl (fun a X hE hL => ?_)
      simp [Seen, slotAt, famV, isV] at hL
      obtain ⟨h32, h29⟩ := hL
      refine ⟨by simpa using h29, ?_⟩
      clear h29
      rw [relAt_eq]
      go_simp
      rw [relUpon_enter]
      go_at_call 21
      refine (HRR.out _).mono ?_
      rintro e Y ⟨v, rfl, ho, hY⟩
      exact ⟨_, rfl, hY, rowR_mk ho⟩
    refine Obs.cons (j := 30) rfl ?_ ?_
    · refine Ob.guarded [(31, some 26), (33, some 28), (29, some 24)] (by kernel_rfl) (isV (.bool true)) rfl 24 true 29 rfl rfl (fun a X hE hL => ?_)
      simp [Seen, slotAt, famV, isV] at hL
      obtain ⟨h31, h33, h29⟩ := hL
      refine ⟨by simpa using h29, ?_⟩
      clear h29
      rw [relAt_eq]
      obtain ⟨A31, c31, e31, r31⟩ := h31
      obtain ⟨A33, c33, e33, r33⟩ := h33
      go_simp
      rw [relUpon_enter]
      go_at_call 20
      refine (sameruns_yes X A31 A33 R.length c31 c33 R r31 r33).mono ?_
      rintro e Y ⟨rfl, k, hY⟩
      exact ⟨_, rfl, by rw [hY]; exact below_drewN X k, rfl⟩
    refine Obs.cons (j := 31) rfl ?_ ?_
    · refine Ob.free [(29, some 24), (34, some 29)] (by kernel_rfl) (isV (.bool true)) rfl rfl (fun a X hE hL => ?_)
      simp [Seen, slotAt, famV, isV] at hL
      obtain ⟨h29, h34⟩ := hL
      rw [relAt_eq]
      go_simp
      exact ⟨Onto.refl _, rfl⟩
    refine Obs.cons (j := 32) rfl ?_ ?_
    · refine Ob.free [(35, some 30)] (by kernel_rfl) (isV (.bool true)) rfl rfl (fun a X hE hL => ?_)
      simp [Seen, slotAt, famV, isV] at hL
      have h35 := hL
      rw [relAt_eq]
      go_simp
      exact ⟨Onto.refl _, rfl⟩
    refine Obs.cons (j := 33) rfl ?_ ?_
    · refine Ob.guarded [(2, none), (36, some 31)] (by kernel_rfl) (isV (.agg #[.int .u64 (wd (S) 0), .int .u64 (wd (S) 1), .int .u64 (wd (S) 2), .int .u64 (wd (S) 3)])) rfl 31 true 36 rfl rfl (fun a X hE hL => ?_)
      simp [Seen, slotAt, famV, isV] at hL
      obtain ⟨h2, h36⟩ := hL
      refine ⟨by simpa using h36, ?_⟩
      clear h36
      rw [relAt_eq]
      have f0 := keeps hE _ _ c0; have f1 := keeps hE _ _ c1; have f2 := keeps hE _ _ c2; have f3 := keeps hE _ _ c3
      go_simp
      exact ⟨Onto.refl _, rfl⟩
    refine Obs.cons (j := 34) rfl ?_ ?_
    · refine Ob.guarded [(37, some 32), (36, some 31)] (by kernel_rfl) (isV (.int .i64 f)) rfl 31 true 36 rfl rfl (fun a X hE hL => ?_)
      simp [Seen, slotAt, famV, isV] at hL
      obtain ⟨h37, h36⟩ := hL
      refine ⟨by simpa using h36, ?_⟩
      clear h36
      rw [relAt_eq]
      go_simp
      rw [relUpon_enter]
      go_at_call 22
      refine (HF.out X hE).mono ?_
      rintro e Y ⟨rfl, hY⟩
      exact ⟨_, rfl, hY, rfl⟩
    refine Obs.cons (j := 35) rfl ?_ ?_
    · refine Ob.guarded [(2, none), (36, some 31)] (by kernel_rfl) (isV (.agg #[.int .u64 (wd (S) 0), .int .u64 (wd (S) 1), .int .u64 (wd (S) 2), .int .u64 (wd (S) 3)])) rfl 31 true 36 rfl rfl (fun a X hE hL => ?_)
      simp [Seen, slotAt, famV, isV] at hL
      obtain ⟨h2, h36⟩ := hL
      refine ⟨by simpa using h36, ?_⟩
      clear h36
      rw [relAt_eq]
      have f0 := keeps hE _ _ c0; have f1 := keeps hE _ _ c1; have f2 := keeps hE _ _ c2; have f3 := keeps hE _ _ c3
      go_simp
      exact ⟨Onto.refl _, rfl⟩
    refine Obs.cons (j := 36) rfl ?_ ?_
    · refine Ob.guarded [(39, some 34), (36, some 31)] (by kernel_rfl) (isV (.int .i64 f)) rfl 31 true 36 rfl rfl (fun a X hE hL => ?_)
      simp [Seen, slotAt, famV, isV] at hL
      obtain ⟨h39, h36⟩ := hL
      refine ⟨by simpa using h36, ?_⟩
      clear h36
      rw [relAt_eq]
      go_simp
      rw [relUpon_enter]
      go_at_call 23
      refine (HRF.out _).mono ?_
      rintro e Y ⟨rfl, hY⟩
      exact ⟨_, rfl, hY, rfl⟩
    refine Obs.cons (j := 37) rfl ?_ ?_
    · refine Ob.guarded [(38, some 33), (40, some 35), (36, some 31)] (by kernel_rfl) (isV (.bool true)) rfl 31 true 36 rfl rfl (fun a X hE hL => ?_)
      simp [Seen, slotAt, famV, isV] at hL
      obtain ⟨h38, h40, h36⟩ := hL
      refine ⟨by simpa using h36, ?_⟩
      clear h36
      rw [relAt_eq]
      go_simp
      exact ⟨Onto.refl _, rfl⟩
    refine Obs.cons (j := 38) rfl ?_ ?_
    · refine Ob.free [(36, some 31), (41, some 36)] (by kernel_rfl) (isV (.bool true)) rfl rfl (fun a X hE hL => ?_)
      simp [Seen, slotAt, famV, isV] at hL
      obtain ⟨h36, h41⟩ := hL
      rw [relAt_eq]
      go_simp
      exact ⟨Onto.refl _, rfl⟩
    refine Obs.cons (j := 39) rfl ?_ ?_
    · refine Ob.free [(42, some 37)] (by kernel_rfl) (isV (.bool true)) rfl rfl (fun a X hE hL => ?_)
      simp [Seen, slotAt, famV, isV] at hL
      have h42 := hL
      rw [relAt_eq]
      go_simp
      exact ⟨Onto.refl _, rfl⟩
    refine Obs.cons (j := 40) rfl ?_ ?_
    · refine Ob.guarded [(43, some 38)] (by kernel_rfl) (isV (.bool true)) rfl 38 true 43 rfl rfl (fun a X hE hL => ?_)
      simp [Seen, slotAt, famV, isV] at hL
      have h43 := hL
      refine ⟨by simpa using h43, ?_⟩
      clear h43
      rw [relAt_eq]
      go_simp
      rw [relUpon_enter]
      go_at_call 12
      refine (HK.out X hE).mono ?_
      rintro e Y ⟨rfl, hY⟩
      exact ⟨_, rfl, hY, rfl⟩
    refine Obs.cons (j := 41) rfl ?_ ?_
    · refine Ob.free [(43, some 38), (44, some 39)] (by kernel_rfl) (isV (.bool true)) rfl rfl (fun a X hE hL => ?_)
      simp [Seen, slotAt, famV, isV] at hL
      obtain ⟨h43, h44⟩ := hL
      rw [relAt_eq]
      go_simp
      exact ⟨Onto.refl _, rfl⟩
    refine Obs.cons (j := 42) rfl ?_ ?_
    · refine Ob.free [(45, some 40)] (by kernel_rfl) (isV (.bool true)) rfl rfl (fun a X hE hL => ?_)
      simp [Seen, slotAt, famV, isV] at hL
      have h45 := hL
      rw [relAt_eq]
      go_simp
      exact ⟨Onto.refl _, rfl⟩
    exact trivial
  case q =>
    intro x wq hE hV
    simp [AllV, famV, isV] at hV
    obtain ⟨-, -, -, -, -, -, -, -, -, -, -, -, -, -, -, -, -, -, -, -, -, -, -, -, -, -, -, -, -, -, -, -, -, -, -, -, -, -, -, -, -, h4⟩ := hV
    simp only [puts, Act.put, List.setIfInBounds_toArray, List.set_cons_zero, List.set_cons_succ, h4]
    generalize x 5 = y5
    generalize x 6 = y6
    generalize x 7 = y7
    generalize x 8 = y8
    generalize x 9 = y9
    generalize x 10 = y10
    generalize x 11 = y11
    generalize x 12 = y12
    generalize x 13 = y13
    generalize x 14 = y14
    generalize x 15 = y15
    generalize x 16 = y16
    generalize x 17 = y17
    generalize x 18 = y18
    generalize x 19 = y19
    generalize x 20 = y20
    generalize x 21 = y21
    generalize x 22 = y22
    generalize x 23 = y23
    generalize x 24 = y24
    generalize x 25 = y25
    generalize x 26 = y26
    generalize x 27 = y27
    generalize x 28 = y28
    generalize x 29 = y29
    generalize x 30 = y30
    generalize x 31 = y31
    generalize x 32 = y32
    generalize x 33 = y33
    generalize x 34 = y34
    generalize x 35 = y35
    generalize x 36 = y36
    generalize x 37 = y37
    generalize x 38 = y38
    generalize x 39 = y39
    generalize x 40 = y40
    generalize x 41 = y41
    generalize x 42 = y42
    generalize x 43 = y43
    generalize x 44 = y44
    generalize x 45 = y45
    clear h4
    have HB2 := Lib.hid (HB.out.trans ((onto_drew hE).mono HB.out.size))
    clear hE
    go_wp2
    go_ret
    exact ⟨rfl, HB2.out⟩
theorem asks_walk (S : Nat → Bool) (b : Int) (w : World) (hb : (Lit.int .u8 b).wf = true) (hT : TabT w) :
    Calls Tryd.prog 5 #[.agg #[.int .u64 (wd S 0), .int .u64 (wd S 1), .int .u64 (wd S 2), .int .u64 (wd S 3)], .int .u8 b] w fun e w' => e = .returned (.bool true) ∧ Below w.heap.size w w' := by
  have h : 0 ≤ b ∧ b ≤ 255 := by
    have h := hb
    simp [Lit.wf, IntKind.min, IntKind.max, IntKind.signed, IntKind.bits] at h
    exact ⟨by omega, by omega⟩
  obtain ⟨n, rfl⟩ : ∃ n : Nat, b = n := ⟨b.toNat, by omega⟩
  exact asks_any w S n (by omega) hT
end Go.Proofs.YtglgmnhfpemfeaaDoor
