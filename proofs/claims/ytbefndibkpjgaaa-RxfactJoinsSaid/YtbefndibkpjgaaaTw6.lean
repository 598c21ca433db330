/- Several texts in one: Know1, StepF, StepG, ThomP. -/
import Derived.Test.YtbefndibkpjgaaaTw5
import Derived.Test.YtbefndibkpjgaaaTw1
import Derived.Test.YtbefndibkpjgaaaTw2
import Derived.Test.YtbefndibkpjgaaaTw3
/- rxfact: what is known of a step, of its parts. -/
namespace Go.Proofs.Ytbefndibkpjgaaa
open Go.RowKit
set_option linter.unusedVariables false
set_option linter.unusedSimpArgs false
attribute [local go_sem ↓] loadF_eq eqS_eq eqS_eq'

def factC (F : Fact) : List Value := (factA F).toList
theorem factC_len (F : Fact) : (factC F).length = 12 := rfl
theorem factC_one (F : Fact) : ∀ u ∈ factC F, u.oneCell' = true := fun u hu => Array.all_eq_true'.1 (factA_one F) u (by simpa [factC] using hu)
theorem CRow.fact {w : World} {b off n : Nat} {fs : List Fact} (h : CRow factC 12 w (some ⟨b, off, none⟩) n fs) {i : Nat} {G : Fact} (hi : fs[i]? = some G) : FactIn w b (off + i * 12) G ∧ b < w.heap.size := by
  have hin : i < n := by rw [← h.1]; exact (List.getElem?_eq_some_iff.1 hi).1
  obtain ⟨b', o', ha, hb, hc⟩ := h.2.2 (by omega)
  simp only [Option.some.injEq, Addr.mk.injEq, and_true] at ha
  obtain ⟨rfl, rfl⟩ := ha
  exact ⟨fun j v hv => hc i G hi j v (by unfold factC; rw [Array.getElem?_toList]; exact hv), hb⟩
theorem CRow.some_ {α : Type} {C : α → List Value} {k : Nat} {w : World} {A : Option Addr} {n : Nat} {os : List α} (h : CRow C k w A n os) (hn : 0 < n) : ∃ b off, A = some ⟨b, off, none⟩ := by
  obtain ⟨b, off, ha, _⟩ := h.2.2 hn
  exact ⟨b, off, ha⟩
/-- What is known of a step, of its parts. -/
def stepF (r : Rx) (fs : List Fact) : Fact :=
  if r.k = 1 then (if zS r.s = true then f0 else ⟨true, 1, 1, false, r.s, r.s⟩)
  else match fs with
    | [a, b] => if r.k = 3 then catF a b else altF a b
    | [a] => if r.k = 7 then altF f1 a else if r.k = 6 then moreF a else altF f1 (moreF a)
    | _ => f1
def Few9 (G : Fact) : Prop := G.lo ≤ 100000 ∧ G.hi ≤ 100000
def boxR (r : Rx) : Obj := .cells #[.int .i64 r.k, .int .u64 (wd r.s 0), .int .u64 (wd r.s 1), .int .u64 (wd r.s 2), .int .u64 (wd r.s 3)] 78
/-- The three boxes that the closure begins with, the third one with a fact of the empty word. -/
theorem know_boxes (w : World) (g : Nat) (hg : w.heap.size = g) (r : Rx) : ∃ W0, W0 = ((w.alloc (boxR r)).alloc ZF).alloc ZF ∧ FactAt W0 (g + 1) f0 ∧ FactAt W0 (g + 2) f0 ∧ Below g w W0 ∧ W0.heap.size = g + 3 ∧
    (∀ j v, (#[.int .i64 r.k, .int .u64 (wd r.s 0), .int .u64 (wd r.s 1), .int .u64 (wd r.s 2), .int .u64 (wd r.s 3)] : Array Value)[j]? = some v → W0.cell? ⟨g, j, none⟩ = some v) := by
  subst hg
  refine ⟨_, rfl, ?_, FactAt.zero _ _ (by simp), (((Below.refl _ _).alloc (Nat.le_refl _) _).alloc (by simp) _).alloc (by simp; omega) _, by simp, fun j v hv => ?_⟩
  · exact (FactAt.zero (w.alloc (boxR r)) (w.heap.size + 1) (by simp)).onto (Below.alloc (Below.refl _ _) (Nat.le_refl _) _)
  · have h : (((w.alloc (boxR r)).alloc ZF).alloc ZF).heap[w.heap.size]? = some (boxR r) := by
      rw [Below.heap_alloc _ _ _ (by simp; omega), Below.heap_alloc _ _ _ (by simp), heap_alloc_new]
    rw [cell_of_row _ w.heap.size j _ _ _ h]; exact hv
set_option maxRecDepth 100000 in
set_option maxHeartbeats 8000000 in
theorem know1_any (r : Rx) (st st' : List RxT) (hs : StepW r st st') (fs : List Fact) (hfs : fs.length = nP r.k) (hfew : ∀ G ∈ fs, Few9 G) (A : Option Addr) (c : Nat) (w : World) (hp : CRow factC 12 w A fs.length fs) :
    Calls Try.prog 61 #[.agg #[.int .i64 r.k, .int .u64 (wd r.s 0), .int .u64 (wd r.s 1), .int .u64 (wd r.s 2), .int .u64 (wd r.s 3)], .slice A fs.length c] w fun e w' => e = .returned (.agg (factA (stepF r fs))) ∧ Below w.heap.size w w' := by
  obtain ⟨g, hg⟩ : ∃ g, w.heap.size = g := ⟨_, rfl⟩
  have HG := Lib.hid hg
  have HP := Lib.hid hp
  have HFW := Lib.hid hfew
  obtain ⟨W0, hW0, h1, h2, hb0, hs0, hx0⟩ := know_boxes w g hg r
  have HZ1 := Lib.hid h1
  have HZ2 := Lib.hid h2
  have HB0 := Lib.hid hb0
  have HS0 := Lib.hid hs0
  have HX0 := Lib.hid hx0
  have HW0 := Lib.hid hW0
  unfold boxR ZF at hW0
  clear hp hfew h1 h2 hb0 hs0 hx0
  cases hs with
  | set S st =>
    have hnil : fs = [] := List.length_eq_zero_iff.1 (by simpa [nP] using hfs)
    subst hnil
    dsimp only at *
    have hqe := fun w => run_eqS (wd S 0) (wd S 1) (wd S 2) (wd S 3) 0 0 0 0 w
    obtain ⟨z, hz⟩ : ∃ z, zS S = z := ⟨_, rfl⟩
    have HZZ := Lib.hid hz
    unfold zS at hz
    rw [hz] at hqe
    clear hz
    obtain ⟨y0, hy0⟩ : ∃ y, wd S 0 = y := ⟨_, rfl⟩
    obtain ⟨y1, hy1⟩ : ∃ y, wd S 1 = y := ⟨_, rfl⟩
    obtain ⟨y2, hy2⟩ : ∃ y, wd S 2 = y := ⟨_, rfl⟩
    obtain ⟨y3, hy3⟩ : ∃ y, wd S 3 = y := ⟨_, rfl⟩
    have HFS : Hid (factA ⟨true, 1, 1, false, S, S⟩ = #[.bool true, .int .i64 1, .int .i64 1, .bool false, .int .u64 y0, .int .u64 y1, .int .u64 y2, .int .u64 y3, .int .u64 y0, .int .u64 y1, .int .u64 y2, .int .u64 y3]) := Lib.hid (by rw [factA_set, hy0, hy1, hy2, hy3])
    rw [hy0, hy1, hy2, hy3] at hqe HX0 hW0 ⊢
    clear hy0 hy1 hy2 hy3
    cases z with
    | true =>
      have HE : Hid (stepF ⟨1, S⟩ [] = f0) := Lib.hid (by simp [stepF, HZZ.out])
      go_enter Try.func61, Try.ntmps61
      go_wp2_with (first
        | (refine wpList_store_fact rfl _ _ rfl (g + 2) f0 f1 rfl (by rw [factA_f1]; rfl) (by rw [← hW0]; exact HZ2.out) ?_; intro W1 hF1 hB1 hO1 hS1; rw [← hW0] at hB1 hO1 hS1; have HF1 := Lib.hid hF1; have HZ : Hid (FactAt W1 (g + 1) f0) := Lib.hid ((hO1 (g + 1) (by omega)).trans HZ1.out); have HB1 := Lib.hid (HB0.out.trans (hB1 g (by omega))); have HS1 : Hid (W1.heap.size = g + 3) := Lib.hid (by rw [hS1]; exact HS0.out); have hblk : ∀ j, W1.cell? ⟨g, j, none⟩ = W0.cell? ⟨g, j, none⟩ := fun j => World.cell?_of_block (a := ⟨g, j, none⟩) (hO1 g (by omega)); have x0 := (hblk 0).trans (HX0.out 0 _ rfl); have x1 := (hblk 1).trans (HX0.out 1 _ rfl); have x2 := (hblk 2).trans (HX0.out 2 _ rfl); have x3 := (hblk 3).trans (HX0.out 3 _ rfl); have x4 := (hblk 4).trans (HX0.out 4 _ rfl); clear hF1 hB1 hO1 hS1 hblk hW0)
        | (refine wpList_store_fact rfl _ _ rfl (g + 1) f0 f0 rfl (by rw [factA_f0]; rfl) HZ.out ?_; intro wR hR hBR hOR hSR; have HR := Lib.hid hR; have HBR := Lib.hid (HB1.out.trans (hBR g (by omega))); clear hR hBR hOR hSR))
      refine bodyPost_ret (results_cell_row rfl _ _ (g + 1) 61 _ (0, 0) _ rfl HR.out Try.underlying61 rfl (sizeFact _)) rfl ⟨ret_fact (by rw [HE.out]), ?_⟩
      first | exact HBR.out | (rw [HG.out]; exact HBR.out)
    | false =>
      have HE : Hid (stepF ⟨1, S⟩ [] = ⟨true, 1, 1, false, S, S⟩) := Lib.hid (by simp [stepF, HZZ.out])
      go_enter Try.func61, Try.ntmps61
      go_wp2_with (first
        | (refine wpList_store_fact rfl _ _ rfl (g + 2) f0 f1 rfl (by rw [factA_f1]; rfl) (by rw [← hW0]; exact HZ2.out) ?_; intro W1 hF1 hB1 hO1 hS1; rw [← hW0] at hB1 hO1 hS1; have HF1 := Lib.hid hF1; have HZ : Hid (FactAt W1 (g + 1) f0) := Lib.hid ((hO1 (g + 1) (by omega)).trans HZ1.out); have HB1 := Lib.hid (HB0.out.trans (hB1 g (by omega))); have HS1 : Hid (W1.heap.size = g + 3) := Lib.hid (by rw [hS1]; exact HS0.out); have hblk : ∀ j, W1.cell? ⟨g, j, none⟩ = W0.cell? ⟨g, j, none⟩ := fun j => World.cell?_of_block (a := ⟨g, j, none⟩) (hO1 g (by omega)); have x0 := (hblk 0).trans (HX0.out 0 _ rfl); have x1 := (hblk 1).trans (HX0.out 1 _ rfl); have x2 := (hblk 2).trans (HX0.out 2 _ rfl); have x3 := (hblk 3).trans (HX0.out 3 _ rfl); have x4 := (hblk 4).trans (HX0.out 4 _ rfl); clear hF1 hB1 hO1 hS1 hblk hW0)
        | (refine wpList_store_fact rfl _ _ rfl (g + 1) f0 ⟨true, 1, 1, false, S, S⟩ rfl (by rw [HFS.out]; rfl) HZ.out ?_; intro wR hR hBR hOR hSR; have HR := Lib.hid hR; have HBR := Lib.hid (HB1.out.trans (hBR g (by omega))); clear hR hBR hOR hSR))
      refine bodyPost_ret (results_cell_row rfl _ _ (g + 1) 61 _ (0, 0) _ rfl HR.out Try.underlying61 rfl (sizeFact _)) rfl ⟨ret_fact (by rw [HE.out]), ?_⟩
      first | exact HBR.out | (rw [HG.out]; exact HBR.out)
  | empty S st =>
    have hnil : fs = [] := List.length_eq_zero_iff.1 (by simpa [nP] using hfs)
    subst hnil
    dsimp only at *
    have HE : Hid (stepF ⟨2, S⟩ [] = f1) := Lib.hid (by simp [stepF])
    go_enter Try.func61, Try.ntmps61
    go_wp2_with (first
      | (refine wpList_store_fact rfl _ _ rfl (g + 2) f0 f1 rfl (by rw [factA_f1]; rfl) (by rw [← hW0]; exact HZ2.out) ?_; intro W1 hF1 hB1 hO1 hS1; rw [← hW0] at hB1 hO1 hS1; have HF1 := Lib.hid hF1; have HZ : Hid (FactAt W1 (g + 1) f0) := Lib.hid ((hO1 (g + 1) (by omega)).trans HZ1.out); have HB1 := Lib.hid (HB0.out.trans (hB1 g (by omega))); have HS1 : Hid (W1.heap.size = g + 3) := Lib.hid (by rw [hS1]; exact HS0.out); have hblk : ∀ j, W1.cell? ⟨g, j, none⟩ = W0.cell? ⟨g, j, none⟩ := fun j => World.cell?_of_block (a := ⟨g, j, none⟩) (hO1 g (by omega)); have x0 := (hblk 0).trans (HX0.out 0 _ rfl); have x1 := (hblk 1).trans (HX0.out 1 _ rfl); have x2 := (hblk 2).trans (HX0.out 2 _ rfl); have x3 := (hblk 3).trans (HX0.out 3 _ rfl); have x4 := (hblk 4).trans (HX0.out 4 _ rfl); have hl5 := run_loadF0 W1 (g + 1 + 1) f1 hF1; clear hF1 hB1 hO1 hS1 hblk hW0)
      | (refine wpList_store_fact rfl _ _ rfl (g + 1) f0 f1 rfl rfl HZ.out ?_; intro wR hR hBR hOR hSR; have HR := Lib.hid hR; have HBR := Lib.hid (HB1.out.trans (hBR g (by omega))); clear hR hBR hOR hSR))
    refine bodyPost_ret (results_cell_row rfl _ _ (g + 1) 61 _ (0, 0) _ rfl HR.out Try.underlying61 rfl (sizeFact _)) rfl ⟨ret_fact (by rw [HE.out]), ?_⟩
    first | exact HBR.out | (rw [HG.out]; exact HBR.out)
  | cat S a' b' st =>
    obtain ⟨Fa, Fb, rfl⟩ : ∃ x y, fs = [x, y] := by
      match fs, hfs with
      | [x, y], _ => exact ⟨x, y, rfl⟩
      | [], h => simp [nP] at h
      | [_], h => simp [nP] at h
      | _ :: _ :: _ :: _, h => simp [nP] at h; try omega
    dsimp only at *
    obtain ⟨b1, o1, rfl⟩ := HP.out.some_ (by simp)
    have HPA := Lib.hid (HP.out.fact (i := 0) (G := Fa) rfl)
    have HPB := Lib.hid (HP.out.fact (i := 1) (G := Fb) rfl)
    have hfa := HFW.out Fa (by simp)
    have hfb := HFW.out Fb (by simp)
    have HE : Hid (stepF ⟨3, S⟩ [Fa, Fb] = catF Fa Fb) := Lib.hid (by simp [stepF])
    have HCL := Lib.hid (fun X => cat9_any Fa Fb X hfa hfb)
    go_enter Try.func61, Try.ntmps61
    go_wp2_with (first
      | (refine wpList_store_fact rfl _ _ rfl (g + 2) f0 f1 rfl (by rw [factA_f1]; rfl) (by rw [← hW0]; exact HZ2.out) ?_; intro W1 hF1 hB1 hO1 hS1; rw [← hW0] at hB1 hO1 hS1; have HF1 := Lib.hid hF1; have HZ : Hid (FactAt W1 (g + 1) f0) := Lib.hid ((hO1 (g + 1) (by omega)).trans HZ1.out); have HB1 := Lib.hid (HB0.out.trans (hB1 g (by omega))); have HS1 : Hid (W1.heap.size = g + 3) := Lib.hid (by rw [hS1]; exact HS0.out); have hblk : ∀ j, W1.cell? ⟨g, j, none⟩ = W0.cell? ⟨g, j, none⟩ := fun j => World.cell?_of_block (a := ⟨g, j, none⟩) (hO1 g (by omega)); have x0 := (hblk 0).trans (HX0.out 0 _ rfl); have x1 := (hblk 1).trans (HX0.out 1 _ rfl); have x2 := (hblk 2).trans (HX0.out 2 _ rfl); have x3 := (hblk 3).trans (HX0.out 3 _ rfl); have x4 := (hblk 4).trans (HX0.out 4 _ rfl); clear hF1 hB1 hO1 hS1 hblk hW0))
    refine wp_region_fam_tail_lit (E := Onto) 7 1
      [isV (.slice (some ⟨b1, o1, none⟩) 2 c),
       isV (.pointer (some ⟨b1, o1, none⟩)),
       isV (.agg (factA Fa)),
       isV (.slice (some ⟨b1, o1, none⟩) 2 c),
       isV (.pointer (some ⟨b1, o1 + 12, none⟩)),
       isV (.agg (factA Fb)),
       isV (.agg (factA (catF Fa Fb)))]
      [some 24, some 25, some 26, some 27, some 28, some 29, some 30] #[true, true, true, true, true, true, true, false] (by kernel_rfl) rfl (by kernel_rfl) (by kernel_rfl) rfl rfl rfl Onto.trans Onto.refl ?monoC ?obC ?qC
    case monoC => exact ⟨isV_mono _ _, isV_mono _ _, isV_mono _ _, isV_mono _ _, isV_mono _ _, isV_mono _ _, isV_mono _ _, trivial⟩
    case obC =>
      refine Obs.cons (j := 1) rfl ?_ ?_
      · refine Ob.free [(1, none)] (by kernel_rfl) (isV (.slice (some ⟨b1, o1, none⟩) 2 c)) rfl rfl (fun a X hE hL => ?_)
        simp [Seen, slotAt] at hL
        have h1 := hL
        rw [relAt_eq]
        go_simp
        exact ⟨Onto.refl _, rfl⟩
      refine Obs.cons (j := 2) rfl ?_ ?_
      · refine Ob.free [(24, some 0)] (by kernel_rfl) (isV (.pointer (some ⟨b1, o1, none⟩))) rfl rfl (fun a X hE hL => ?_)
        simp [Seen, slotAt, famV, isV] at hL
        have h24 := hL
        rw [relAt_eq]
        go_simp
        exact ⟨Onto.refl _, rfl⟩
      refine Obs.cons (j := 3) rfl ?_ ?_
      · refine Ob.free [(25, some 1)] (by kernel_rfl) (isV (.agg (factA Fa))) rfl rfl (fun a X hE hL => ?_)
        simp [Seen, slotAt, famV, isV] at hL
        have h25 := hL
        rw [relAt_eq]
        have hl9 := run_loadF X _ _ _ (by have h9 := HPA.out.1.onto HPA.out.2 (by rw [HG.out]; exact HB1.out.trans ((onto_drew hE).mono (by have := HS1.out; omega))); rwa [Nat.zero_mul, Nat.add_zero] at h9)
        go_simp
        exact ⟨Onto.refl _, rfl⟩
      refine Obs.cons (j := 4) rfl ?_ ?_
      · refine Ob.free [(1, none)] (by kernel_rfl) (isV (.slice (some ⟨b1, o1, none⟩) 2 c)) rfl rfl (fun a X hE hL => ?_)
        simp [Seen, slotAt] at hL
        have h1 := hL
        rw [relAt_eq]
        go_simp
        exact ⟨Onto.refl _, rfl⟩
      refine Obs.cons (j := 5) rfl ?_ ?_
      · refine Ob.free [(27, some 3)] (by kernel_rfl) (isV (.pointer (some ⟨b1, o1 + 12, none⟩))) rfl rfl (fun a X hE hL => ?_)
        simp [Seen, slotAt, famV, isV] at hL
        have h27 := hL
        rw [relAt_eq]
        go_simp
        exact ⟨Onto.refl _, rfl⟩
      refine Obs.cons (j := 6) rfl ?_ ?_
      · refine Ob.free [(28, some 4)] (by kernel_rfl) (isV (.agg (factA Fb))) rfl rfl (fun a X hE hL => ?_)
        simp [Seen, slotAt, famV, isV] at hL
        have h28 := hL
        rw [relAt_eq]
        have hl9 := run_loadF X _ _ _ (by have h9 := HPB.out.1.onto HPB.out.2 (by rw [HG.out]; exact HB1.out.trans ((onto_drew hE).mono (by have := HS1.out; omega))); rwa [Nat.one_mul] at h9)
        go_simp
        exact ⟨Onto.refl _, rfl⟩
      refine Obs.cons (j := 7) rfl ?_ ?_
      · refine Ob.free [(26, some 2), (29, some 5)] (by kernel_rfl) (isV (.agg (factA (catF Fa Fb)))) rfl rfl (fun a X hE hL => ?_)
        simp [Seen, slotAt, famV, isV] at hL
        obtain ⟨h26, h29⟩ := hL
        rw [relAt_eq]
        go_simp
        rw [relUpon_enter]
        go_at_call 62
        refine (HCL.out X).mono ?_
        rintro e Y ⟨rfl, hY⟩
        exact ⟨_, rfl, hY, rfl⟩
      exact trivial
    case qC =>
      intro x wA hE hV
      simp [AllV, famV, isV] at hV
      obtain ⟨-, -, -, -, -, -, h30⟩ := hV
      simp only [puts, Act.put, List.setIfInBounds_toArray, List.set_cons_zero, List.set_cons_succ, h30]
      generalize x 24 = y24
      generalize x 25 = y25
      generalize x 26 = y26
      generalize x 27 = y27
      generalize x 28 = y28
      generalize x 29 = y29
      clear h30
      have hbA := onto_drew hE
      have HBA := Lib.hid (HB1.out.trans (hbA.mono (by have := HS1.out; omega)))
      have HZA := Lib.hid (HZ.out.onto hbA)
      clear hE hbA
      refine wpAny_ready (rs := [7]) (by kernel_rfl) (by simp) ?_
      refine AllReady.cons rfl (fun K hK => ?_) AllReady.nil
      rw [if_pos (by rfl)]
      refine wp_store_fact _ _ rfl (g + 1) f0 (catF Fa Fb) rfl rfl HZA.out ?_
      intro wR hR hBR hOR hSR
      have HR := Lib.hid hR
      have HBR := Lib.hid (HBA.out.trans (hBR g (by omega)))
      clear hR hBR hOR hSR
      refine hK _ _ ?_
      clear hK K
      try simp only [Act.put, List.getElem_toArray, List.getElem_cons_succ, List.getElem_cons_zero, List.setIfInBounds_toArray, List.set_cons_zero, List.set_cons_succ]
      refine wpAny_done (by kernel_rfl) ?_ _
      go_wp2
      refine bodyPost_ret (results_cell_row rfl _ _ (g + 1) 61 _ (0, 0) _ rfl HR.out Try.underlying61 rfl (sizeFact _)) rfl ⟨ret_fact (by rw [HE.out]), ?_⟩
      first | exact HBR.out | (rw [HG.out]; exact HBR.out)
  | alt S a' b' st =>
    obtain ⟨Fa, Fb, rfl⟩ : ∃ x y, fs = [x, y] := by
      match fs, hfs with
      | [x, y], _ => exact ⟨x, y, rfl⟩
      | [], h => simp [nP] at h
      | [_], h => simp [nP] at h
      | _ :: _ :: _ :: _, h => simp [nP] at h; try omega
    dsimp only at *
    obtain ⟨b1, o1, rfl⟩ := HP.out.some_ (by simp)
    have HPA := Lib.hid (HP.out.fact (i := 0) (G := Fa) rfl)
    have HPB := Lib.hid (HP.out.fact (i := 1) (G := Fb) rfl)
    have hfa := HFW.out Fa (by simp)
    have hfb := HFW.out Fb (by simp)
    have HE : Hid (stepF ⟨4, S⟩ [Fa, Fb] = altF Fa Fb) := Lib.hid (by simp [stepF])
    have HCL := Lib.hid (fun X => alt9_any Fa Fb X hfa hfb)
    go_enter Try.func61, Try.ntmps61
    go_wp2_with (first
      | (refine wpList_store_fact rfl _ _ rfl (g + 2) f0 f1 rfl (by rw [factA_f1]; rfl) (by rw [← hW0]; exact HZ2.out) ?_; intro W1 hF1 hB1 hO1 hS1; rw [← hW0] at hB1 hO1 hS1; have HF1 := Lib.hid hF1; have HZ : Hid (FactAt W1 (g + 1) f0) := Lib.hid ((hO1 (g + 1) (by omega)).trans HZ1.out); have HB1 := Lib.hid (HB0.out.trans (hB1 g (by omega))); have HS1 : Hid (W1.heap.size = g + 3) := Lib.hid (by rw [hS1]; exact HS0.out); have hblk : ∀ j, W1.cell? ⟨g, j, none⟩ = W0.cell? ⟨g, j, none⟩ := fun j => World.cell?_of_block (a := ⟨g, j, none⟩) (hO1 g (by omega)); have x0 := (hblk 0).trans (HX0.out 0 _ rfl); have x1 := (hblk 1).trans (HX0.out 1 _ rfl); have x2 := (hblk 2).trans (HX0.out 2 _ rfl); have x3 := (hblk 3).trans (HX0.out 3 _ rfl); have x4 := (hblk 4).trans (HX0.out 4 _ rfl); clear hF1 hB1 hO1 hS1 hblk hW0))
    refine wp_region_fam_tail_lit (E := Onto) 7 1
      [isV (.slice (some ⟨b1, o1, none⟩) 2 c),
       isV (.pointer (some ⟨b1, o1, none⟩)),
       isV (.agg (factA Fa)),
       isV (.slice (some ⟨b1, o1, none⟩) 2 c),
       isV (.pointer (some ⟨b1, o1 + 12, none⟩)),
       isV (.agg (factA Fb)),
       isV (.agg (factA (altF Fa Fb)))]
      [some 33, some 34, some 35, some 36, some 37, some 38, some 39] #[true, true, true, true, true, true, true, false] (by kernel_rfl) rfl (by kernel_rfl) (by kernel_rfl) rfl rfl rfl Onto.trans Onto.refl ?monoD ?obD ?qD
    case monoD => exact ⟨isV_mono _ _, isV_mono _ _, isV_mono _ _, isV_mono _ _, isV_mono _ _, isV_mono _ _, isV_mono _ _, trivial⟩
    case obD =>
      refine Obs.cons (j := 1) rfl ?_ ?_
      · refine Ob.free [(1, none)] (by kernel_rfl) (isV (.slice (some ⟨b1, o1, none⟩) 2 c)) rfl rfl (fun a X hE hL => ?_)
        simp [Seen, slotAt] at hL
        have h1 := hL
        rw [relAt_eq]
        go_simp
        exact ⟨Onto.refl _, rfl⟩
      refine Obs.cons (j := 2) rfl ?_ ?_
      · refine Ob.free [(33, some 0)] (by kernel_rfl) (isV (.pointer (some ⟨b1, o1, none⟩))) rfl rfl (fun a X hE hL => ?_)
        simp [Seen, slotAt, famV, isV] at hL
        have h33 := hL
        rw [relAt_eq]
        go_simp
        exact ⟨Onto.refl _, rfl⟩
      refine Obs.cons (j := 3) rfl ?_ ?_
      · refine Ob.free [(34, some 1)] (by kernel_rfl) (isV (.agg (factA Fa))) rfl rfl (fun a X hE hL => ?_)
        simp [Seen, slotAt, famV, isV] at hL
        have h34 := hL
        rw [relAt_eq]
        have hl9 := run_loadF X _ _ _ (by have h9 := HPA.out.1.onto HPA.out.2 (by rw [HG.out]; exact HB1.out.trans ((onto_drew hE).mono (by have := HS1.out; omega))); rwa [Nat.zero_mul, Nat.add_zero] at h9)
        go_simp
        exact ⟨Onto.refl _, rfl⟩
      refine Obs.cons (j := 4) rfl ?_ ?_
      · refine Ob.free [(1, none)] (by kernel_rfl) (isV (.slice (some ⟨b1, o1, none⟩) 2 c)) rfl rfl (fun a X hE hL => ?_)
        simp [Seen, slotAt] at hL
        have h1 := hL
        rw [relAt_eq]
        go_simp
        exact ⟨Onto.refl _, rfl⟩
      refine Obs.cons (j := 5) rfl ?_ ?_
      · refine Ob.free [(36, some 3)] (by kernel_rfl) (isV (.pointer (some ⟨b1, o1 + 12, none⟩))) rfl rfl (fun a X hE hL => ?_)
        simp [Seen, slotAt, famV, isV] at hL
        have h36 := hL
        rw [relAt_eq]
        go_simp
        exact ⟨Onto.refl _, rfl⟩
      refine Obs.cons (j := 6) rfl ?_ ?_
      · refine Ob.free [(37, some 4)] (by kernel_rfl) (isV (.agg (factA Fb))) rfl rfl (fun a X hE hL => ?_)
        simp [Seen, slotAt, famV, isV] at hL
        have h37 := hL
        rw [relAt_eq]
        have hl9 := run_loadF X _ _ _ (by have h9 := HPB.out.1.onto HPB.out.2 (by rw [HG.out]; exact HB1.out.trans ((onto_drew hE).mono (by have := HS1.out; omega))); rwa [Nat.one_mul] at h9)
        go_simp
        exact ⟨Onto.refl _, rfl⟩
      refine Obs.cons (j := 7) rfl ?_ ?_
      · refine Ob.free [(35, some 2), (38, some 5)] (by kernel_rfl) (isV (.agg (factA (altF Fa Fb)))) rfl rfl (fun a X hE hL => ?_)
        simp [Seen, slotAt, famV, isV] at hL
        obtain ⟨h35, h38⟩ := hL
        rw [relAt_eq]
        go_simp
        rw [relUpon_enter]
        go_at_call 63
        refine (HCL.out X).mono ?_
        rintro e Y ⟨rfl, hY⟩
        exact ⟨_, rfl, hY, rfl⟩
      exact trivial
    case qD =>
      intro x wA hE hV
      simp [AllV, famV, isV] at hV
      obtain ⟨-, -, -, -, -, -, h39⟩ := hV
      simp only [puts, Act.put, List.setIfInBounds_toArray, List.set_cons_zero, List.set_cons_succ, h39]
      generalize x 33 = y33
      generalize x 34 = y34
      generalize x 35 = y35
      generalize x 36 = y36
      generalize x 37 = y37
      generalize x 38 = y38
      clear h39
      have hbA := onto_drew hE
      have HBA := Lib.hid (HB1.out.trans (hbA.mono (by have := HS1.out; omega)))
      have HZA := Lib.hid (HZ.out.onto hbA)
      clear hE hbA
      refine wpAny_ready (rs := [7]) (by kernel_rfl) (by simp) ?_
      refine AllReady.cons rfl (fun K hK => ?_) AllReady.nil
      rw [if_pos (by rfl)]
      refine wp_store_fact _ _ rfl (g + 1) f0 (altF Fa Fb) rfl rfl HZA.out ?_
      intro wR hR hBR hOR hSR
      have HR := Lib.hid hR
      have HBR := Lib.hid (HBA.out.trans (hBR g (by omega)))
      clear hR hBR hOR hSR
      refine hK _ _ ?_
      clear hK K
      try simp only [Act.put, List.getElem_toArray, List.getElem_cons_succ, List.getElem_cons_zero, List.setIfInBounds_toArray, List.set_cons_zero, List.set_cons_succ]
      refine wpAny_done (by kernel_rfl) ?_ _
      go_wp2
      refine bodyPost_ret (results_cell_row rfl _ _ (g + 1) 61 _ (0, 0) _ rfl HR.out Try.underlying61 rfl (sizeFact _)) rfl ⟨ret_fact (by rw [HE.out]), ?_⟩
      first | exact HBR.out | (rw [HG.out]; exact HBR.out)
  | opt S a' st =>
    obtain ⟨Fa, rfl⟩ : ∃ x, fs = [x] := by
      match fs, hfs with
      | [x], _ => exact ⟨x, rfl⟩
      | [], h => simp [nP] at h
      | _ :: _ :: _, h => simp [nP] at h; try omega
    dsimp only at *
    obtain ⟨b1, o1, rfl⟩ := HP.out.some_ (by simp)
    have HPA := Lib.hid (HP.out.fact (i := 0) (G := Fa) rfl)
    have hfa := HFW.out Fa (by simp)
    have HE : Hid (stepF ⟨7, S⟩ [Fa] = altF f1 Fa) := Lib.hid (by simp [stepF])
    have HCL := Lib.hid (fun X => alt9_any f1 Fa X ⟨by decide, by decide⟩ hfa)
    go_enter Try.func61, Try.ntmps61
    go_wp2_with (first
      | (refine wpList_store_fact rfl _ _ rfl (g + 2) f0 f1 rfl (by rw [factA_f1]; rfl) (by rw [← hW0]; exact HZ2.out) ?_; intro W1 hF1 hB1 hO1 hS1; rw [← hW0] at hB1 hO1 hS1; have HF1 := Lib.hid hF1; have HZ : Hid (FactAt W1 (g + 1) f0) := Lib.hid ((hO1 (g + 1) (by omega)).trans HZ1.out); have HB1 := Lib.hid (HB0.out.trans (hB1 g (by omega))); have HS1 : Hid (W1.heap.size = g + 3) := Lib.hid (by rw [hS1]; exact HS0.out); have hblk : ∀ j, W1.cell? ⟨g, j, none⟩ = W0.cell? ⟨g, j, none⟩ := fun j => World.cell?_of_block (a := ⟨g, j, none⟩) (hO1 g (by omega)); have x0 := (hblk 0).trans (HX0.out 0 _ rfl); have x1 := (hblk 1).trans (HX0.out 1 _ rfl); have x2 := (hblk 2).trans (HX0.out 2 _ rfl); have x3 := (hblk 3).trans (HX0.out 3 _ rfl); have x4 := (hblk 4).trans (HX0.out 4 _ rfl); clear hF1 hB1 hO1 hS1 hblk hW0))
    refine wp_region_fam_tail_lit (E := Onto) 5 1
      [isV (.agg (factA f1)),
       isV (.slice (some ⟨b1, o1, none⟩) 1 c),
       isV (.pointer (some ⟨b1, o1, none⟩)),
       isV (.agg (factA Fa)),
       isV (.agg (factA (altF f1 Fa)))]
      [some 42, some 43, some 44, some 45, some 46] #[true, true, true, true, true, false] (by kernel_rfl) rfl (by kernel_rfl) (by kernel_rfl) rfl rfl rfl Onto.trans Onto.refl ?monoE ?obE ?qE
    case monoE => exact ⟨isV_mono _ _, isV_mono _ _, isV_mono _ _, isV_mono _ _, isV_mono _ _, trivial⟩
    case obE =>
      refine Obs.cons (j := 1) rfl ?_ ?_
      · refine Ob.free [(5, none)] (by kernel_rfl) (isV (.agg (factA f1))) rfl rfl (fun a X hE hL => ?_)
        simp [Seen, slotAt] at hL
        have h5 := hL
        rw [relAt_eq]
        have hl9 := run_loadF X _ _ _ ((FactAt.in_ (HF1.out.onto (onto_drew hE))))
        go_simp
        exact ⟨Onto.refl _, rfl⟩
      refine Obs.cons (j := 2) rfl ?_ ?_
      · refine Ob.free [(1, none)] (by kernel_rfl) (isV (.slice (some ⟨b1, o1, none⟩) 1 c)) rfl rfl (fun a X hE hL => ?_)
        simp [Seen, slotAt] at hL
        have h1 := hL
        rw [relAt_eq]
        go_simp
        exact ⟨Onto.refl _, rfl⟩
      refine Obs.cons (j := 3) rfl ?_ ?_
      · refine Ob.free [(43, some 1)] (by kernel_rfl) (isV (.pointer (some ⟨b1, o1, none⟩))) rfl rfl (fun a X hE hL => ?_)
        simp [Seen, slotAt, famV, isV] at hL
        have h43 := hL
        rw [relAt_eq]
        go_simp
        exact ⟨Onto.refl _, rfl⟩
      refine Obs.cons (j := 4) rfl ?_ ?_
      · refine Ob.free [(44, some 2)] (by kernel_rfl) (isV (.agg (factA Fa))) rfl rfl (fun a X hE hL => ?_)
        simp [Seen, slotAt, famV, isV] at hL
        have h44 := hL
        rw [relAt_eq]
        have hl9 := run_loadF X _ _ _ (by have h9 := HPA.out.1.onto HPA.out.2 (by rw [HG.out]; exact HB1.out.trans ((onto_drew hE).mono (by have := HS1.out; omega))); rwa [Nat.zero_mul, Nat.add_zero] at h9)
        go_simp
        exact ⟨Onto.refl _, rfl⟩
      refine Obs.cons (j := 5) rfl ?_ ?_
      · refine Ob.free [(42, some 0), (45, some 3)] (by kernel_rfl) (isV (.agg (factA (altF f1 Fa)))) rfl rfl (fun a X hE hL => ?_)
        simp [Seen, slotAt, famV, isV] at hL
        obtain ⟨h42, h45⟩ := hL
        rw [relAt_eq]
        go_simp
        rw [relUpon_enter]
        go_at_call 63
        refine (HCL.out X).mono ?_
        rintro e Y ⟨rfl, hY⟩
        exact ⟨_, rfl, hY, rfl⟩
      exact trivial
    case qE =>
      intro x wA hE hV
      simp [AllV, famV, isV] at hV
      obtain ⟨-, -, -, -, h46⟩ := hV
      simp only [puts, Act.put, List.setIfInBounds_toArray, List.set_cons_zero, List.set_cons_succ, h46]
      generalize x 42 = y42
      generalize x 43 = y43
      generalize x 44 = y44
      generalize x 45 = y45
      clear h46
      have hbA := onto_drew hE
      have HBA := Lib.hid (HB1.out.trans (hbA.mono (by have := HS1.out; omega)))
      have HZA := Lib.hid (HZ.out.onto hbA)
      clear hE hbA
      refine wpAny_ready (rs := [5]) (by kernel_rfl) (by simp) ?_
      refine AllReady.cons rfl (fun K hK => ?_) AllReady.nil
      rw [if_pos (by rfl)]
      refine wp_store_fact _ _ rfl (g + 1) f0 (altF f1 Fa) rfl rfl HZA.out ?_
      intro wR hR hBR hOR hSR
      have HR := Lib.hid hR
      have HBR := Lib.hid (HBA.out.trans (hBR g (by omega)))
      clear hR hBR hOR hSR
      refine hK _ _ ?_
      clear hK K
      try simp only [Act.put, List.getElem_toArray, List.getElem_cons_succ, List.getElem_cons_zero, List.setIfInBounds_toArray, List.set_cons_zero, List.set_cons_succ]
      refine wpAny_done (by kernel_rfl) ?_ _
      go_wp2
      refine bodyPost_ret (results_cell_row rfl _ _ (g + 1) 61 _ (0, 0) _ rfl HR.out Try.underlying61 rfl (sizeFact _)) rfl ⟨ret_fact (by rw [HE.out]), ?_⟩
      first | exact HBR.out | (rw [HG.out]; exact HBR.out)
  | star S a' st =>
    obtain ⟨Fa, rfl⟩ : ∃ x, fs = [x] := by
      match fs, hfs with
      | [x], _ => exact ⟨x, rfl⟩
      | [], h => simp [nP] at h
      | _ :: _ :: _, h => simp [nP] at h; try omega
    dsimp only at *
    obtain ⟨b1, o1, rfl⟩ := HP.out.some_ (by simp)
    have HPA := Lib.hid (HP.out.fact (i := 0) (G := Fa) rfl)
    have hfa := HFW.out Fa (by simp)
    have HE : Hid (stepF ⟨5, S⟩ [Fa] = altF f1 (moreF Fa)) := Lib.hid (by simp [stepF])
    obtain ⟨sa, la, xa, ma, fa, ua⟩ := Fa
    cases ma with
    | true =>
      have HM : Hid (moreF ⟨sa, la, xa, true, fa, ua⟩ = ⟨sa, la, xa, true, fa, ua⟩) := Lib.hid (by simp [moreF])
      have HCL := Lib.hid (fun X => alt9_any f1 ⟨sa, la, xa, true, fa, ua⟩ X ⟨by decide, by decide⟩ hfa)
      go_enter Try.func61, Try.ntmps61
      go_wp2_with (first
        | (refine wpList_store_fact rfl _ _ rfl (g + 2) f0 f1 rfl (by rw [factA_f1]; rfl) (by rw [← hW0]; exact HZ2.out) ?_; intro W1 hF1 hB1 hO1 hS1; rw [← hW0] at hB1 hO1 hS1; have HF1 := Lib.hid hF1; have HZ : Hid (FactAt W1 (g + 1) f0) := Lib.hid ((hO1 (g + 1) (by omega)).trans HZ1.out); have HB1 := Lib.hid (HB0.out.trans (hB1 g (by omega))); have HS1 : Hid (W1.heap.size = g + 3) := Lib.hid (by rw [hS1]; exact HS0.out); have hblk : ∀ j, W1.cell? ⟨g, j, none⟩ = W0.cell? ⟨g, j, none⟩ := fun j => World.cell?_of_block (a := ⟨g, j, none⟩) (hO1 g (by omega)); have x0 := (hblk 0).trans (HX0.out 0 _ rfl); have x1 := (hblk 1).trans (HX0.out 1 _ rfl); have x2 := (hblk 2).trans (HX0.out 2 _ rfl); have x3 := (hblk 3).trans (HX0.out 3 _ rfl); have x4 := (hblk 4).trans (HX0.out 4 _ rfl); have hlp := run_loadF W1 b1 o1 ⟨sa, la, xa, true, fa, ua⟩ (by have h9 := HPA.out.1.onto HPA.out.2 (by rw [HG.out]; exact HB1.out); rwa [Nat.zero_mul, Nat.add_zero] at h9); have hsz3 := HS1.out; have HZ3 := Lib.hid (FactAt.zero W1 (g + 3) hsz3); have hbz := Below.alloc (Below.refl W1.heap.size W1) (Nat.le_refl _) ZF; have HZW3 := Lib.hid (HZ.out.onto hbz); have HFW3 := Lib.hid (hF1.onto hbz); have HX3 := Lib.hid ((hbz.cell (p := ⟨g, 0, none⟩) (by show g < W1.heap.size; omega)).trans x0); clear hbz hF1 hB1 hO1 hS1 hblk hW0)
        | (refine wpList_store_fact rfl _ _ rfl (g + 3) f0 ⟨sa, la, xa, true, fa, ua⟩ rfl rfl HZ3.out ?_; intro W2 hF2 hB2 hO2 hS2; have HB2 := Lib.hid (HB1.out.trans (((Below.refl g W1).alloc (by have := HS1.out; omega) ZF).trans (hB2 g (by omega)))); have HZ2b : Hid (FactAt W2 (g + 1) f0) := Lib.hid ((hO2 (g + 1) (by omega)).trans HZW3.out); have HF12 : Hid (FactAt W2 (g + 2) f1) := Lib.hid ((hO2 (g + 2) (by omega)).trans HFW3.out); have HX2 := Lib.hid ((World.cell?_of_block (a := ⟨g, 0, none⟩) (hO2 g (by omega))).trans HX3.out); have HF2 := Lib.hid hF2; have k3 : W2.cell? ⟨g + 3, 3, none⟩ = some (.bool true) := hF2.cell (j := 3) rfl; have k2 : W2.cell? ⟨g + 3, 2, none⟩ = some (.int .i64 (xa : Int)) := hF2.cell (j := 2) rfl; have HS2 : Hid (W2.heap.size = g + 4) := Lib.hid (by have h9 := HS1.out; rw [hS2]; simp [h9]); clear hF2 hB2 hO2 hS2 hlp)
        | (refine wpList_store_more rfl _ _ rfl (g + 3) ⟨sa, la, xa, true, fa, ua⟩ true rfl rfl HF2.out ?_; intro W3 hF3 hB3 hO3 hS3; have HB3 := Lib.hid (HB2.out.trans (hB3 g (by omega))); have HZ3b : Hid (FactAt W3 (g + 1) f0) := Lib.hid ((hO3 (g + 1) (by omega)).trans HZ2b.out); have HF13 : Hid (FactAt W3 (g + 2) f1) := Lib.hid ((hO3 (g + 2) (by omega)).trans HF12.out); have x9 := (World.cell?_of_block (a := ⟨g, 0, none⟩) (hO3 g (by omega))).trans HX2.out; have HF3 := Lib.hid hF3; have hl5 := run_loadF0 W3 (g + 1 + 1) f1 HF13.out; have hl6 := run_loadF0 W3 (g + 3) _ hF3; have HS3 : Hid (W3.heap.size = g + 4) := Lib.hid (by rw [hS3]; exact HS2.out); clear hF3 hB3 hO3 hS3 k3 k2)
        | (go_at_call 63; refine (HCL.out W3).mono ?_; rintro e W4 ⟨rfl, hb4⟩; have HB4 := Lib.hid (HB3.out.trans (hb4.mono (by have := HS3.out; omega))); have HZ4 := Lib.hid (HZ3b.out.onto hb4); have HF4 := Lib.hid (HF3.out.onto hb4); clear hb4 hl5 hl6)
        | (refine wpList_store_fact rfl _ _ rfl (g + 3) ⟨sa, la, xa, true, fa, ua⟩ (altF f1 ⟨sa, la, xa, true, fa, ua⟩) rfl rfl HF4.out ?_; intro W5 hF5 hB5 hO5 hS5; have HB5 := Lib.hid (HB4.out.trans (hB5 g (by omega))); have HZ5 : Hid (FactAt W5 (g + 1) f0) := Lib.hid ((hO5 (g + 1) (by omega)).trans HZ4.out); have hl7 := run_loadF0 W5 (g + 3) _ hF5; clear hF5 hB5 hO5 hS5)
        | (refine wpList_store_fact rfl _ _ rfl (g + 1) f0 (altF f1 ⟨sa, la, xa, true, fa, ua⟩) rfl rfl HZ5.out ?_; intro wR hR hBR hOR hSR; have HR := Lib.hid hR; have HBR := Lib.hid (HB5.out.trans (hBR g (by omega))); clear hR hBR hOR hSR))
      refine bodyPost_ret (results_cell_row rfl _ _ (g + 1) 61 _ (0, 0) _ rfl HR.out Try.underlying61 rfl (sizeFact _)) rfl ⟨ret_fact (by rw [HE.out, HM.out]), ?_⟩
      first | exact HBR.out | (rw [HG.out]; exact HBR.out)
    | false =>
      by_cases hx0 : 0 < xa
      · have z2 : decide (0 < xa) = true := decide_eq_true hx0
        have z3 : decide ((0 : Int) < (xa : Int)) = true := decide_eq_true (by omega)
        have HM : Hid (moreF ⟨sa, la, xa, false, fa, ua⟩ = ⟨sa, la, xa, true, fa, ua⟩) := Lib.hid (by simp [moreF, hx0])
        clear hx0
        have HCL := Lib.hid (fun X => alt9_any f1 ⟨sa, la, xa, true, fa, ua⟩ X ⟨by decide, by decide⟩ hfa)
        go_enter Try.func61, Try.ntmps61
        go_wp2_with (first
          | (refine wpList_store_fact rfl _ _ rfl (g + 2) f0 f1 rfl (by rw [factA_f1]; rfl) (by rw [← hW0]; exact HZ2.out) ?_; intro W1 hF1 hB1 hO1 hS1; rw [← hW0] at hB1 hO1 hS1; have HF1 := Lib.hid hF1; have HZ : Hid (FactAt W1 (g + 1) f0) := Lib.hid ((hO1 (g + 1) (by omega)).trans HZ1.out); have HB1 := Lib.hid (HB0.out.trans (hB1 g (by omega))); have HS1 : Hid (W1.heap.size = g + 3) := Lib.hid (by rw [hS1]; exact HS0.out); have hblk : ∀ j, W1.cell? ⟨g, j, none⟩ = W0.cell? ⟨g, j, none⟩ := fun j => World.cell?_of_block (a := ⟨g, j, none⟩) (hO1 g (by omega)); have x0 := (hblk 0).trans (HX0.out 0 _ rfl); have x1 := (hblk 1).trans (HX0.out 1 _ rfl); have x2 := (hblk 2).trans (HX0.out 2 _ rfl); have x3 := (hblk 3).trans (HX0.out 3 _ rfl); have x4 := (hblk 4).trans (HX0.out 4 _ rfl); have hlp := run_loadF W1 b1 o1 ⟨sa, la, xa, false, fa, ua⟩ (by have h9 := HPA.out.1.onto HPA.out.2 (by rw [HG.out]; exact HB1.out); rwa [Nat.zero_mul, Nat.add_zero] at h9); have hsz3 := HS1.out; have HZ3 := Lib.hid (FactAt.zero W1 (g + 3) hsz3); have hbz := Below.alloc (Below.refl W1.heap.size W1) (Nat.le_refl _) ZF; have HZW3 := Lib.hid (HZ.out.onto hbz); have HFW3 := Lib.hid (hF1.onto hbz); have HX3 := Lib.hid ((hbz.cell (p := ⟨g, 0, none⟩) (by show g < W1.heap.size; omega)).trans x0); clear hbz hF1 hB1 hO1 hS1 hblk hW0)
          | (refine wpList_store_fact rfl _ _ rfl (g + 3) f0 ⟨sa, la, xa, false, fa, ua⟩ rfl rfl HZ3.out ?_; intro W2 hF2 hB2 hO2 hS2; have HB2 := Lib.hid (HB1.out.trans (((Below.refl g W1).alloc (by have := HS1.out; omega) ZF).trans (hB2 g (by omega)))); have HZ2b : Hid (FactAt W2 (g + 1) f0) := Lib.hid ((hO2 (g + 1) (by omega)).trans HZW3.out); have HF12 : Hid (FactAt W2 (g + 2) f1) := Lib.hid ((hO2 (g + 2) (by omega)).trans HFW3.out); have HX2 := Lib.hid ((World.cell?_of_block (a := ⟨g, 0, none⟩) (hO2 g (by omega))).trans HX3.out); have HF2 := Lib.hid hF2; have k3 : W2.cell? ⟨g + 3, 3, none⟩ = some (.bool false) := hF2.cell (j := 3) rfl; have k2 : W2.cell? ⟨g + 3, 2, none⟩ = some (.int .i64 (xa : Int)) := hF2.cell (j := 2) rfl; have HS2 : Hid (W2.heap.size = g + 4) := Lib.hid (by have h9 := HS1.out; rw [hS2]; simp [h9]); clear hF2 hB2 hO2 hS2 hlp)
          | (refine wpList_store_more rfl _ _ rfl (g + 3) ⟨sa, la, xa, false, fa, ua⟩ true rfl rfl HF2.out ?_; intro W3 hF3 hB3 hO3 hS3; have HB3 := Lib.hid (HB2.out.trans (hB3 g (by omega))); have HZ3b : Hid (FactAt W3 (g + 1) f0) := Lib.hid ((hO3 (g + 1) (by omega)).trans HZ2b.out); have HF13 : Hid (FactAt W3 (g + 2) f1) := Lib.hid ((hO3 (g + 2) (by omega)).trans HF12.out); have x9 := (World.cell?_of_block (a := ⟨g, 0, none⟩) (hO3 g (by omega))).trans HX2.out; have HF3 := Lib.hid hF3; have hl5 := run_loadF0 W3 (g + 1 + 1) f1 HF13.out; have hl6 := run_loadF0 W3 (g + 3) _ hF3; have HS3 : Hid (W3.heap.size = g + 4) := Lib.hid (by rw [hS3]; exact HS2.out); clear hF3 hB3 hO3 hS3 k3 k2)
          | (go_at_call 63; refine (HCL.out W3).mono ?_; rintro e W4 ⟨rfl, hb4⟩; have HB4 := Lib.hid (HB3.out.trans (hb4.mono (by have := HS3.out; omega))); have HZ4 := Lib.hid (HZ3b.out.onto hb4); have HF4 := Lib.hid (HF3.out.onto hb4); clear hb4 hl5 hl6)
          | (refine wpList_store_fact rfl _ _ rfl (g + 3) ⟨sa, la, xa, true, fa, ua⟩ (altF f1 ⟨sa, la, xa, true, fa, ua⟩) rfl rfl HF4.out ?_; intro W5 hF5 hB5 hO5 hS5; have HB5 := Lib.hid (HB4.out.trans (hB5 g (by omega))); have HZ5 : Hid (FactAt W5 (g + 1) f0) := Lib.hid ((hO5 (g + 1) (by omega)).trans HZ4.out); have hl7 := run_loadF0 W5 (g + 3) _ hF5; clear hF5 hB5 hO5 hS5)
          | (refine wpList_store_fact rfl _ _ rfl (g + 1) f0 (altF f1 ⟨sa, la, xa, true, fa, ua⟩) rfl rfl HZ5.out ?_; intro wR hR hBR hOR hSR; have HR := Lib.hid hR; have HBR := Lib.hid (HB5.out.trans (hBR g (by omega))); clear hR hBR hOR hSR))
        refine bodyPost_ret (results_cell_row rfl _ _ (g + 1) 61 _ (0, 0) _ rfl HR.out Try.underlying61 rfl (sizeFact _)) rfl ⟨ret_fact (by rw [HE.out, HM.out]), ?_⟩
        first | exact HBR.out | (rw [HG.out]; exact HBR.out)
      · have z2 : decide (0 < xa) = false := decide_eq_false hx0
        have z3 : decide ((0 : Int) < (xa : Int)) = false := decide_eq_false (by omega)
        have HM : Hid (moreF ⟨sa, la, xa, false, fa, ua⟩ = ⟨sa, la, xa, false, fa, ua⟩) := Lib.hid (by simp [moreF, hx0])
        clear hx0
        have HCL := Lib.hid (fun X => alt9_any f1 ⟨sa, la, xa, false, fa, ua⟩ X ⟨by decide, by decide⟩ hfa)
        go_enter Try.func61, Try.ntmps61
        go_wp2_with (first
          | (refine wpList_store_fact rfl _ _ rfl (g + 2) f0 f1 rfl (by rw [factA_f1]; rfl) (by rw [← hW0]; exact HZ2.out) ?_; intro W1 hF1 hB1 hO1 hS1; rw [← hW0] at hB1 hO1 hS1; have HF1 := Lib.hid hF1; have HZ : Hid (FactAt W1 (g + 1) f0) := Lib.hid ((hO1 (g + 1) (by omega)).trans HZ1.out); have HB1 := Lib.hid (HB0.out.trans (hB1 g (by omega))); have HS1 : Hid (W1.heap.size = g + 3) := Lib.hid (by rw [hS1]; exact HS0.out); have hblk : ∀ j, W1.cell? ⟨g, j, none⟩ = W0.cell? ⟨g, j, none⟩ := fun j => World.cell?_of_block (a := ⟨g, j, none⟩) (hO1 g (by omega)); have x0 := (hblk 0).trans (HX0.out 0 _ rfl); have x1 := (hblk 1).trans (HX0.out 1 _ rfl); have x2 := (hblk 2).trans (HX0.out 2 _ rfl); have x3 := (hblk 3).trans (HX0.out 3 _ rfl); have x4 := (hblk 4).trans (HX0.out 4 _ rfl); have hlp := run_loadF W1 b1 o1 ⟨sa, la, xa, false, fa, ua⟩ (by have h9 := HPA.out.1.onto HPA.out.2 (by rw [HG.out]; exact HB1.out); rwa [Nat.zero_mul, Nat.add_zero] at h9); have hsz3 := HS1.out; have HZ3 := Lib.hid (FactAt.zero W1 (g + 3) hsz3); have hbz := Below.alloc (Below.refl W1.heap.size W1) (Nat.le_refl _) ZF; have HZW3 := Lib.hid (HZ.out.onto hbz); have HFW3 := Lib.hid (hF1.onto hbz); have HX3 := Lib.hid ((hbz.cell (p := ⟨g, 0, none⟩) (by show g < W1.heap.size; omega)).trans x0); clear hbz hF1 hB1 hO1 hS1 hblk hW0)
          | (refine wpList_store_fact rfl _ _ rfl (g + 3) f0 ⟨sa, la, xa, false, fa, ua⟩ rfl rfl HZ3.out ?_; intro W2 hF2 hB2 hO2 hS2; have HB2 := Lib.hid (HB1.out.trans (((Below.refl g W1).alloc (by have := HS1.out; omega) ZF).trans (hB2 g (by omega)))); have HZ2b : Hid (FactAt W2 (g + 1) f0) := Lib.hid ((hO2 (g + 1) (by omega)).trans HZW3.out); have HF12 : Hid (FactAt W2 (g + 2) f1) := Lib.hid ((hO2 (g + 2) (by omega)).trans HFW3.out); have HX2 := Lib.hid ((World.cell?_of_block (a := ⟨g, 0, none⟩) (hO2 g (by omega))).trans HX3.out); have HF2 := Lib.hid hF2; have k3 : W2.cell? ⟨g + 3, 3, none⟩ = some (.bool false) := hF2.cell (j := 3) rfl; have k2 : W2.cell? ⟨g + 3, 2, none⟩ = some (.int .i64 (xa : Int)) := hF2.cell (j := 2) rfl; have HS2 : Hid (W2.heap.size = g + 4) := Lib.hid (by have h9 := HS1.out; rw [hS2]; simp [h9]); clear hF2 hB2 hO2 hS2 hlp)
          | (refine wpList_store_more rfl _ _ rfl (g + 3) ⟨sa, la, xa, false, fa, ua⟩ false rfl rfl HF2.out ?_; intro W3 hF3 hB3 hO3 hS3; have HB3 := Lib.hid (HB2.out.trans (hB3 g (by omega))); have HZ3b : Hid (FactAt W3 (g + 1) f0) := Lib.hid ((hO3 (g + 1) (by omega)).trans HZ2b.out); have HF13 : Hid (FactAt W3 (g + 2) f1) := Lib.hid ((hO3 (g + 2) (by omega)).trans HF12.out); have x9 := (World.cell?_of_block (a := ⟨g, 0, none⟩) (hO3 g (by omega))).trans HX2.out; have HF3 := Lib.hid hF3; have hl5 := run_loadF0 W3 (g + 1 + 1) f1 HF13.out; have hl6 := run_loadF0 W3 (g + 3) _ hF3; have HS3 : Hid (W3.heap.size = g + 4) := Lib.hid (by rw [hS3]; exact HS2.out); clear hF3 hB3 hO3 hS3 k3 k2)
          | (go_at_call 63; refine (HCL.out W3).mono ?_; rintro e W4 ⟨rfl, hb4⟩; have HB4 := Lib.hid (HB3.out.trans (hb4.mono (by have := HS3.out; omega))); have HZ4 := Lib.hid (HZ3b.out.onto hb4); have HF4 := Lib.hid (HF3.out.onto hb4); clear hb4 hl5 hl6)
          | (refine wpList_store_fact rfl _ _ rfl (g + 3) ⟨sa, la, xa, false, fa, ua⟩ (altF f1 ⟨sa, la, xa, false, fa, ua⟩) rfl rfl HF4.out ?_; intro W5 hF5 hB5 hO5 hS5; have HB5 := Lib.hid (HB4.out.trans (hB5 g (by omega))); have HZ5 : Hid (FactAt W5 (g + 1) f0) := Lib.hid ((hO5 (g + 1) (by omega)).trans HZ4.out); have hl7 := run_loadF0 W5 (g + 3) _ hF5; clear hF5 hB5 hO5 hS5)
          | (refine wpList_store_fact rfl _ _ rfl (g + 1) f0 (altF f1 ⟨sa, la, xa, false, fa, ua⟩) rfl rfl HZ5.out ?_; intro wR hR hBR hOR hSR; have HR := Lib.hid hR; have HBR := Lib.hid (HB5.out.trans (hBR g (by omega))); clear hR hBR hOR hSR))
        refine bodyPost_ret (results_cell_row rfl _ _ (g + 1) 61 _ (0, 0) _ rfl HR.out Try.underlying61 rfl (sizeFact _)) rfl ⟨ret_fact (by rw [HE.out, HM.out]), ?_⟩
        first | exact HBR.out | (rw [HG.out]; exact HBR.out)
  | plus S a' st =>
    obtain ⟨Fa, rfl⟩ : ∃ x, fs = [x] := by
      match fs, hfs with
      | [x], _ => exact ⟨x, rfl⟩
      | [], h => simp [nP] at h
      | _ :: _ :: _, h => simp [nP] at h; try omega
    dsimp only at *
    obtain ⟨b1, o1, rfl⟩ := HP.out.some_ (by simp)
    have HPA := Lib.hid (HP.out.fact (i := 0) (G := Fa) rfl)
    have hfa := HFW.out Fa (by simp)
    have HE : Hid (stepF ⟨6, S⟩ [Fa] = moreF Fa) := Lib.hid (by simp [stepF])
    obtain ⟨sa, la, xa, ma, fa, ua⟩ := Fa
    cases ma with
    | true =>
      have HM : Hid (moreF ⟨sa, la, xa, true, fa, ua⟩ = ⟨sa, la, xa, true, fa, ua⟩) := Lib.hid (by simp [moreF])
      go_enter Try.func61, Try.ntmps61
      go_wp2_with (first
        | (refine wpList_store_fact rfl _ _ rfl (g + 2) f0 f1 rfl (by rw [factA_f1]; rfl) (by rw [← hW0]; exact HZ2.out) ?_; intro W1 hF1 hB1 hO1 hS1; rw [← hW0] at hB1 hO1 hS1; have HF1 := Lib.hid hF1; have HZ : Hid (FactAt W1 (g + 1) f0) := Lib.hid ((hO1 (g + 1) (by omega)).trans HZ1.out); have HB1 := Lib.hid (HB0.out.trans (hB1 g (by omega))); have HS1 : Hid (W1.heap.size = g + 3) := Lib.hid (by rw [hS1]; exact HS0.out); have hblk : ∀ j, W1.cell? ⟨g, j, none⟩ = W0.cell? ⟨g, j, none⟩ := fun j => World.cell?_of_block (a := ⟨g, j, none⟩) (hO1 g (by omega)); have x0 := (hblk 0).trans (HX0.out 0 _ rfl); have x1 := (hblk 1).trans (HX0.out 1 _ rfl); have x2 := (hblk 2).trans (HX0.out 2 _ rfl); have x3 := (hblk 3).trans (HX0.out 3 _ rfl); have x4 := (hblk 4).trans (HX0.out 4 _ rfl); have hlp := run_loadF W1 b1 o1 ⟨sa, la, xa, true, fa, ua⟩ (by have h9 := HPA.out.1.onto HPA.out.2 (by rw [HG.out]; exact HB1.out); rwa [Nat.zero_mul, Nat.add_zero] at h9); have hsz3 := HS1.out; have HZ3 := Lib.hid (FactAt.zero W1 (g + 3) hsz3); have hbz := Below.alloc (Below.refl W1.heap.size W1) (Nat.le_refl _) ZF; have HZW3 := Lib.hid (HZ.out.onto hbz); have HFW3 := Lib.hid (hF1.onto hbz); have HX3 := Lib.hid ((hbz.cell (p := ⟨g, 0, none⟩) (by show g < W1.heap.size; omega)).trans x0); clear hbz hF1 hB1 hO1 hS1 hblk hW0)
        | (refine wpList_store_fact rfl _ _ rfl (g + 3) f0 ⟨sa, la, xa, true, fa, ua⟩ rfl rfl HZ3.out ?_; intro W2 hF2 hB2 hO2 hS2; have HB2 := Lib.hid (HB1.out.trans (((Below.refl g W1).alloc (by have := HS1.out; omega) ZF).trans (hB2 g (by omega)))); have HZ2b : Hid (FactAt W2 (g + 1) f0) := Lib.hid ((hO2 (g + 1) (by omega)).trans HZW3.out); have HF12 : Hid (FactAt W2 (g + 2) f1) := Lib.hid ((hO2 (g + 2) (by omega)).trans HFW3.out); have HX2 := Lib.hid ((World.cell?_of_block (a := ⟨g, 0, none⟩) (hO2 g (by omega))).trans HX3.out); have HF2 := Lib.hid hF2; have k3 : W2.cell? ⟨g + 3, 3, none⟩ = some (.bool true) := hF2.cell (j := 3) rfl; have k2 : W2.cell? ⟨g + 3, 2, none⟩ = some (.int .i64 (xa : Int)) := hF2.cell (j := 2) rfl; have HS2 : Hid (W2.heap.size = g + 4) := Lib.hid (by have h9 := HS1.out; rw [hS2]; simp [h9]); clear hF2 hB2 hO2 hS2 hlp)
        | (refine wpList_store_more rfl _ _ rfl (g + 3) ⟨sa, la, xa, true, fa, ua⟩ true rfl rfl HF2.out ?_; intro W3 hF3 hB3 hO3 hS3; have HB3 := Lib.hid (HB2.out.trans (hB3 g (by omega))); have HZ3b : Hid (FactAt W3 (g + 1) f0) := Lib.hid ((hO3 (g + 1) (by omega)).trans HZ2b.out); have HF13 : Hid (FactAt W3 (g + 2) f1) := Lib.hid ((hO3 (g + 2) (by omega)).trans HF12.out); have x9 := (World.cell?_of_block (a := ⟨g, 0, none⟩) (hO3 g (by omega))).trans HX2.out; have HF3 := Lib.hid hF3; have hl5 := run_loadF0 W3 (g + 1 + 1) f1 HF13.out; have hl6 := run_loadF0 W3 (g + 3) _ hF3; have HS3 : Hid (W3.heap.size = g + 4) := Lib.hid (by rw [hS3]; exact HS2.out); clear hF3 hB3 hO3 hS3 k3 k2)
        | (refine wpList_store_fact rfl _ _ rfl (g + 1) f0 ⟨sa, la, xa, true, fa, ua⟩ rfl rfl HZ3b.out ?_; intro wR hR hBR hOR hSR; have HR := Lib.hid hR; have HBR := Lib.hid (HB3.out.trans (hBR g (by omega))); clear hR hBR hOR hSR))
      refine bodyPost_ret (results_cell_row rfl _ _ (g + 1) 61 _ (0, 0) _ rfl HR.out Try.underlying61 rfl (sizeFact _)) rfl ⟨ret_fact (by rw [HE.out, HM.out]), ?_⟩
      first | exact HBR.out | (rw [HG.out]; exact HBR.out)
    | false =>
      by_cases hx0 : 0 < xa
      · have z2 : decide (0 < xa) = true := decide_eq_true hx0
        have z3 : decide ((0 : Int) < (xa : Int)) = true := decide_eq_true (by omega)
        have HM : Hid (moreF ⟨sa, la, xa, false, fa, ua⟩ = ⟨sa, la, xa, true, fa, ua⟩) := Lib.hid (by simp [moreF, hx0])
        clear hx0
        go_enter Try.func61, Try.ntmps61
        go_wp2_with (first
          | (refine wpList_store_fact rfl _ _ rfl (g + 2) f0 f1 rfl (by rw [factA_f1]; rfl) (by rw [← hW0]; exact HZ2.out) ?_; intro W1 hF1 hB1 hO1 hS1; rw [← hW0] at hB1 hO1 hS1; have HF1 := Lib.hid hF1; have HZ : Hid (FactAt W1 (g + 1) f0) := Lib.hid ((hO1 (g + 1) (by omega)).trans HZ1.out); have HB1 := Lib.hid (HB0.out.trans (hB1 g (by omega))); have HS1 : Hid (W1.heap.size = g + 3) := Lib.hid (by rw [hS1]; exact HS0.out); have hblk : ∀ j, W1.cell? ⟨g, j, none⟩ = W0.cell? ⟨g, j, none⟩ := fun j => World.cell?_of_block (a := ⟨g, j, none⟩) (hO1 g (by omega)); have x0 := (hblk 0).trans (HX0.out 0 _ rfl); have x1 := (hblk 1).trans (HX0.out 1 _ rfl); have x2 := (hblk 2).trans (HX0.out 2 _ rfl); have x3 := (hblk 3).trans (HX0.out 3 _ rfl); have x4 := (hblk 4).trans (HX0.out 4 _ rfl); have hlp := run_loadF W1 b1 o1 ⟨sa, la, xa, false, fa, ua⟩ (by have h9 := HPA.out.1.onto HPA.out.2 (by rw [HG.out]; exact HB1.out); rwa [Nat.zero_mul, Nat.add_zero] at h9); have hsz3 := HS1.out; have HZ3 := Lib.hid (FactAt.zero W1 (g + 3) hsz3); have hbz := Below.alloc (Below.refl W1.heap.size W1) (Nat.le_refl _) ZF; have HZW3 := Lib.hid (HZ.out.onto hbz); have HFW3 := Lib.hid (hF1.onto hbz); have HX3 := Lib.hid ((hbz.cell (p := ⟨g, 0, none⟩) (by show g < W1.heap.size; omega)).trans x0); clear hbz hF1 hB1 hO1 hS1 hblk hW0)
          | (refine wpList_store_fact rfl _ _ rfl (g + 3) f0 ⟨sa, la, xa, false, fa, ua⟩ rfl rfl HZ3.out ?_; intro W2 hF2 hB2 hO2 hS2; have HB2 := Lib.hid (HB1.out.trans (((Below.refl g W1).alloc (by have := HS1.out; omega) ZF).trans (hB2 g (by omega)))); have HZ2b : Hid (FactAt W2 (g + 1) f0) := Lib.hid ((hO2 (g + 1) (by omega)).trans HZW3.out); have HF12 : Hid (FactAt W2 (g + 2) f1) := Lib.hid ((hO2 (g + 2) (by omega)).trans HFW3.out); have HX2 := Lib.hid ((World.cell?_of_block (a := ⟨g, 0, none⟩) (hO2 g (by omega))).trans HX3.out); have HF2 := Lib.hid hF2; have k3 : W2.cell? ⟨g + 3, 3, none⟩ = some (.bool false) := hF2.cell (j := 3) rfl; have k2 : W2.cell? ⟨g + 3, 2, none⟩ = some (.int .i64 (xa : Int)) := hF2.cell (j := 2) rfl; have HS2 : Hid (W2.heap.size = g + 4) := Lib.hid (by have h9 := HS1.out; rw [hS2]; simp [h9]); clear hF2 hB2 hO2 hS2 hlp)
          | (refine wpList_store_more rfl _ _ rfl (g + 3) ⟨sa, la, xa, false, fa, ua⟩ true rfl rfl HF2.out ?_; intro W3 hF3 hB3 hO3 hS3; have HB3 := Lib.hid (HB2.out.trans (hB3 g (by omega))); have HZ3b : Hid (FactAt W3 (g + 1) f0) := Lib.hid ((hO3 (g + 1) (by omega)).trans HZ2b.out); have HF13 : Hid (FactAt W3 (g + 2) f1) := Lib.hid ((hO3 (g + 2) (by omega)).trans HF12.out); have x9 := (World.cell?_of_block (a := ⟨g, 0, none⟩) (hO3 g (by omega))).trans HX2.out; have HF3 := Lib.hid hF3; have hl5 := run_loadF0 W3 (g + 1 + 1) f1 HF13.out; have hl6 := run_loadF0 W3 (g + 3) _ hF3; have HS3 : Hid (W3.heap.size = g + 4) := Lib.hid (by rw [hS3]; exact HS2.out); clear hF3 hB3 hO3 hS3 k3 k2)
          | (refine wpList_store_fact rfl _ _ rfl (g + 1) f0 ⟨sa, la, xa, true, fa, ua⟩ rfl rfl HZ3b.out ?_; intro wR hR hBR hOR hSR; have HR := Lib.hid hR; have HBR := Lib.hid (HB3.out.trans (hBR g (by omega))); clear hR hBR hOR hSR))
        refine bodyPost_ret (results_cell_row rfl _ _ (g + 1) 61 _ (0, 0) _ rfl HR.out Try.underlying61 rfl (sizeFact _)) rfl ⟨ret_fact (by rw [HE.out, HM.out]), ?_⟩
        first | exact HBR.out | (rw [HG.out]; exact HBR.out)
      · have z2 : decide (0 < xa) = false := decide_eq_false hx0
        have z3 : decide ((0 : Int) < (xa : Int)) = false := decide_eq_false (by omega)
        have HM : Hid (moreF ⟨sa, la, xa, false, fa, ua⟩ = ⟨sa, la, xa, false, fa, ua⟩) := Lib.hid (by simp [moreF, hx0])
        clear hx0
        go_enter Try.func61, Try.ntmps61
        go_wp2_with (first
          | (refine wpList_store_fact rfl _ _ rfl (g + 2) f0 f1 rfl (by rw [factA_f1]; rfl) (by rw [← hW0]; exact HZ2.out) ?_; intro W1 hF1 hB1 hO1 hS1; rw [← hW0] at hB1 hO1 hS1; have HF1 := Lib.hid hF1; have HZ : Hid (FactAt W1 (g + 1) f0) := Lib.hid ((hO1 (g + 1) (by omega)).trans HZ1.out); have HB1 := Lib.hid (HB0.out.trans (hB1 g (by omega))); have HS1 : Hid (W1.heap.size = g + 3) := Lib.hid (by rw [hS1]; exact HS0.out); have hblk : ∀ j, W1.cell? ⟨g, j, none⟩ = W0.cell? ⟨g, j, none⟩ := fun j => World.cell?_of_block (a := ⟨g, j, none⟩) (hO1 g (by omega)); have x0 := (hblk 0).trans (HX0.out 0 _ rfl); have x1 := (hblk 1).trans (HX0.out 1 _ rfl); have x2 := (hblk 2).trans (HX0.out 2 _ rfl); have x3 := (hblk 3).trans (HX0.out 3 _ rfl); have x4 := (hblk 4).trans (HX0.out 4 _ rfl); have hlp := run_loadF W1 b1 o1 ⟨sa, la, xa, false, fa, ua⟩ (by have h9 := HPA.out.1.onto HPA.out.2 (by rw [HG.out]; exact HB1.out); rwa [Nat.zero_mul, Nat.add_zero] at h9); have hsz3 := HS1.out; have HZ3 := Lib.hid (FactAt.zero W1 (g + 3) hsz3); have hbz := Below.alloc (Below.refl W1.heap.size W1) (Nat.le_refl _) ZF; have HZW3 := Lib.hid (HZ.out.onto hbz); have HFW3 := Lib.hid (hF1.onto hbz); have HX3 := Lib.hid ((hbz.cell (p := ⟨g, 0, none⟩) (by show g < W1.heap.size; omega)).trans x0); clear hbz hF1 hB1 hO1 hS1 hblk hW0)
          | (refine wpList_store_fact rfl _ _ rfl (g + 3) f0 ⟨sa, la, xa, false, fa, ua⟩ rfl rfl HZ3.out ?_; intro W2 hF2 hB2 hO2 hS2; have HB2 := Lib.hid (HB1.out.trans (((Below.refl g W1).alloc (by have := HS1.out; omega) ZF).trans (hB2 g (by omega)))); have HZ2b : Hid (FactAt W2 (g + 1) f0) := Lib.hid ((hO2 (g + 1) (by omega)).trans HZW3.out); have HF12 : Hid (FactAt W2 (g + 2) f1) := Lib.hid ((hO2 (g + 2) (by omega)).trans HFW3.out); have HX2 := Lib.hid ((World.cell?_of_block (a := ⟨g, 0, none⟩) (hO2 g (by omega))).trans HX3.out); have HF2 := Lib.hid hF2; have k3 : W2.cell? ⟨g + 3, 3, none⟩ = some (.bool false) := hF2.cell (j := 3) rfl; have k2 : W2.cell? ⟨g + 3, 2, none⟩ = some (.int .i64 (xa : Int)) := hF2.cell (j := 2) rfl; have HS2 : Hid (W2.heap.size = g + 4) := Lib.hid (by have h9 := HS1.out; rw [hS2]; simp [h9]); clear hF2 hB2 hO2 hS2 hlp)
          | (refine wpList_store_more rfl _ _ rfl (g + 3) ⟨sa, la, xa, false, fa, ua⟩ false rfl rfl HF2.out ?_; intro W3 hF3 hB3 hO3 hS3; have HB3 := Lib.hid (HB2.out.trans (hB3 g (by omega))); have HZ3b : Hid (FactAt W3 (g + 1) f0) := Lib.hid ((hO3 (g + 1) (by omega)).trans HZ2b.out); have HF13 : Hid (FactAt W3 (g + 2) f1) := Lib.hid ((hO3 (g + 2) (by omega)).trans HF12.out); have x9 := (World.cell?_of_block (a := ⟨g, 0, none⟩) (hO3 g (by omega))).trans HX2.out; have HF3 := Lib.hid hF3; have hl5 := run_loadF0 W3 (g + 1 + 1) f1 HF13.out; have hl6 := run_loadF0 W3 (g + 3) _ hF3; have HS3 : Hid (W3.heap.size = g + 4) := Lib.hid (by rw [hS3]; exact HS2.out); clear hF3 hB3 hO3 hS3 k3 k2)
          | (refine wpList_store_fact rfl _ _ rfl (g + 1) f0 ⟨sa, la, xa, false, fa, ua⟩ rfl rfl HZ3b.out ?_; intro wR hR hBR hOR hSR; have HR := Lib.hid hR; have HBR := Lib.hid (HB3.out.trans (hBR g (by omega))); clear hR hBR hOR hSR))
        refine bodyPost_ret (results_cell_row rfl _ _ (g + 1) 61 _ (0, 0) _ rfl HR.out Try.underlying61 rfl (sizeFact _)) rfl ⟨ret_fact (by rw [HE.out, HM.out]), ?_⟩
        first | exact HBR.out | (rw [HG.out]; exact HBR.out)
end Go.Proofs.Ytbefndibkpjgaaa
/- What stands while a step is made. -/
namespace Go.Proofs.Ytbefndibkpjgaaa
open Go.RowKit
set_option linter.unusedVariables false

theorem CRow.same {α : Type} {C : α → List Value} {k : Nat} {w w' : World} {a : Option Addr} {len : Nat} {os : List α} (h : CRow C k w a len os) (hb : ∀ b off e, a = some ⟨b, off, e⟩ → w'.heap[b]? = w.heap[b]?) (hs : w.heap.size ≤ w'.heap.size) : CRow C k w' a len os := by
  obtain ⟨h1, h2, h3⟩ := h
  refine ⟨h1, h2, fun hp => ?_⟩
  obtain ⟨b, off, ha, hlt, hc⟩ := h3 hp
  exact ⟨b, off, ha, by omega, fun i o hi j v hv => (cell_block w' w b _ (hb b off none ha)).trans (hc i o hi j v hv)⟩
/-- A store into a block that is not the machine's. -/
theorem MX.kept {X : Nat} {w w' : World} {M : Mc} {b : Nat} (h : MX X w M []) (hb : FreeB X w b) (hk : ∀ k, k ≠ b → w'.heap[k]? = w.heap[k]?) (hs : w'.heap.size = w.heap.size) : MX X w' M [] := by
  obtain ⟨os, fv, sv, bv, hm, q⟩ := h
  refine ⟨os, fv, sv, bv, ⟨(hk X (fun e => hb.2.1 e.symm)).trans hm.box, hm.rows.kept fun r hr k hkk => hk k fun e => ?_, hm.len, by rw [hs]; exact hm.le⟩, q⟩
  subst e
  refine hb.2.2 ((hm.ownS _).2 ⟨r, ?_, hkk⟩)
  rcases List.mem_append.1 hr with hr | hr
  · exact List.mem_append_left _ hr
  · rw [List.nil_append] at hr; exact List.mem_append_right _ hr
/-- A block that is kept, and what lies in it. -/
def Held (X : Nat) (w : World) (b : Nat) (o : Obj) : Prop := FreeB X w b ∧ w.heap[b]? = some o
theorem Held.keeps {X b : Nat} {w w' : World} {o : Obj} (h : Held X w b o) (hk : KeepsR X w w') : Held X w' b o := by
  obtain ⟨f, e⟩ := h.1.keeps hk
  exact ⟨f, e.trans h.2⟩
structure SF (X : Nat) (w : World) (r : Rx) (a : Option Addr) (n : Nat) (ps : List Pt) (wc : World) (M : Mc) : Prop where
  mx : MX X wc M []
  bx : Held X wc w.heap.size (boxR r)
  br : Held X wc (w.heap.size + 1) ZP
  row : CRow ptC 2 wc a n ps
  free : ∀ b off e, a = some ⟨b, off, e⟩ → FreeB X wc b
  bw : Below X w wc
  kp : KeepsR X w wc
theorem SF.keeps {X : Nat} {w : World} {r : Rx} {a : Option Addr} {n : Nat} {ps : List Pt} {wc wd : World} {M M' : Mc} (h : SF X w r a n ps wc M) (hm : MX X wd M' []) (hb : Below X wc wd) (hk : KeepsR X wc wd) : SF X w r a n ps wd M' :=
  ⟨hm, h.bx.keeps hk, h.br.keeps hk, h.row.same (fun b off e ha => ((h.free b off e ha).keeps hk).2) hk.1, fun b off e ha => ((h.free b off e ha).keeps hk).1, h.bw.trans hb, h.kp.trans hk⟩
theorem SF.onto {X : Nat} {w : World} {r : Rx} {a : Option Addr} {n : Nat} {ps : List Pt} {wc wd : World} {M : Mc} (h : SF X w r a n ps wc M) (hb : Below wc.heap.size wc wd) : SF X w r a n ps wd M :=
  h.keeps (h.mx.below hb) (hb.mono (by have := h.mx.le; omega)) (h.mx.onto hb)
/-- At the start: the two boxes. -/
theorem SF.start {X : Nat} {w : World} {r : Rx} {a : Option Addr} {n : Nat} {ps : List Pt} {M : Mc} (hm : MX X w M []) (hr : CRow ptC 2 w a n ps) (hf : ∀ b off e, a = some ⟨b, off, e⟩ → FreeB X w b) : SF X w r a n ps ((w.alloc (boxR r)).alloc ZP) M := by
  have hb1 : Below w.heap.size w (w.alloc (boxR r)) := (Below.refl _ _).alloc (Nat.le_refl _) _
  have hb2 : Below w.heap.size w ((w.alloc (boxR r)).alloc ZP) := hb1.alloc (by simp) _
  have hk := hm.onto hb2
  refine ⟨hm.below hb2, ⟨hm.free hb2 (Nat.le_refl _) (by simp; omega), ?_⟩, ⟨hm.free hb2 (by omega) (by simp), ?_⟩, hr.below hb2, fun b off e ha => ((hf b off e ha).keeps hk).1, hb2.mono (by have := hm.le; omega), hk⟩
  · exact (heap_alloc_old _ _ (by simp)).trans (heap_alloc_new w _)
  · have := heap_alloc_new (w.alloc (boxR r)) ZP
    simpa using this
end Go.Proofs.Ytbefndibkpjgaaa
/- What stands while a step's links are made. -/
namespace Go.Proofs.Ytbefndibkpjgaaa
open Go.RowKit
set_option linter.unusedVariables false

def StepK (k : Int) (n : Nat) : Prop := (k = 1 ∧ n = 0) ∨ (k = 2 ∧ n = 0) ∨ (k = 3 ∧ n = 2) ∨ (k = 4 ∧ n = 2) ∨ (k = 5 ∧ n = 1) ∨ (k = 6 ∧ n = 1) ∨ (k = 7 ∧ n = 1)
def Small (M : Mc) (N L : Nat) : Prop := M.fr.length = N ∧ ∀ l ∈ M.fr, l.length ≤ L
theorem Small.more {M : Mc} {N L : Nat} (h : Small M N L) : Small M.more (N + 1) L := by
  refine ⟨by simp [Mc.more, h.1], fun l hl => ?_⟩
  rcases List.mem_append.1 hl with hl | hl
  · exact h.2 l hl
  · rw [List.mem_singleton] at hl; subst hl; simp
theorem Small.link {M : Mc} {N L : Nat} (h : Small M N L) (i : Nat) (z : Int) : Small (M.link i z) N (L + 1) := by
  refine ⟨by simp [Mc.link, h.1], fun l hl => ?_⟩
  rcases List.mem_or_eq_of_mem_set hl with hl | rfl
  · have := h.2 l hl; omega
  · rw [List.length_append, List.length_singleton]
    cases he : M.fr[i]? with
    | none => simp
    | some x => simp; exact h.2 x (List.mem_of_getElem? he)
theorem Small.le {M : Mc} {N L L' : Nat} (h : Small M N L) (hl : L ≤ L') : Small M N L' := ⟨h.1, fun l hm => Nat.le_trans (h.2 l hm) hl⟩
/-- A part's block. -/
def ptO (i o : Nat) : Obj := .cells #[.int .i64 (i : Int), .int .i64 (o : Int)] 52 (0, 0)
/-- A block made beside the machine. -/
theorem SF.held {X : Nat} {w : World} {r : Rx} {a : Option Addr} {n : Nat} {ps : List Pt} {wc wd : World} {M : Mc} (h : SF X w r a n ps wc M) (hb : Below wc.heap.size wc wd) {k : Nat} {o : Obj} (hk : wc.heap.size ≤ k) (ho : wd.heap[k]? = some o) : Held X wd k o :=
  ⟨h.mx.free hb hk (Array.getElem?_eq_some_iff.1 ho).1, ho⟩
structure SG (X : Nat) (w : World) (r : Rx) (a : Option Addr) (n : Nat) (ps : List Pt) (bn N L : Nat) (wc : World) (M : Mc) : Prop where
  sf : SF X w r a n ps wc M
  hn : Held X wc bn (ptO N (N + 1))
  sm : Small M (N + 2) L
section
variable {X : Nat} {w : World} {r : Rx} {a : Option Addr} {n : Nat} {ps : List Pt} {bn N L : Nat} {wc wd : World} {M M' : Mc}
theorem SG.keeps (h : SG X w r a n ps bn N L wc M) {L' : Nat} (hm : MX X wd M' []) (hb : Below X wc wd) (hk : KeepsR X wc wd) (hs : Small M' (N + 2) L') : SG X w r a n ps bn N L' wd M' :=
  ⟨h.sf.keeps hm hb hk, h.hn.keeps hk, hs⟩
theorem SG.onto (h : SG X w r a n ps bn N L wc M) (hb : Below wc.heap.size wc wd) : SG X w r a n ps bn N L wd M :=
  ⟨h.sf.onto hb, h.hn.keeps (h.sf.mx.onto hb), h.sm⟩
theorem SG.drew (h : SG X w r a n ps bn N L wc M) : SG X w r a n ps bn N L wc.drew M := h.onto (Below.refl _ _).drew
theorem SG.b0 (h : SG X w r a n ps bn N L wc M) : wc.cell? ⟨bn, 0, none⟩ = some (.int .i64 (N : Int)) := PtAt.c0 (i := N) (o := N + 1) h.hn.2
theorem SG.b1 (h : SG X w r a n ps bn N L wc M) : wc.cell? ⟨bn, 1, none⟩ = some (.int .i64 ((N : Int) + 1)) := PtAt.c1 (i := N) (o := N + 1) h.hn.2
theorem SG.pt (h : SG X w r a n ps bn N L wc M) : PtAt wc bn N (N + 1) := h.hn.2
theorem SG.k0 (h : SG X w r a n ps bn N L wc M) {g : Nat} (hg : w.heap.size = g) : wc.cell? ⟨g, 0, none⟩ = some (.int .i64 r.k) := by
  subst hg; rw [cell_of_row wc _ 0 _ _ _ h.sf.bx.2]; rfl
theorem SG.res (h : SG X w r a n ps bn N L wc M) {g : Nat} (hg : w.heap.size = g) : PtAt wc (g + 1) 0 0 := by subst hg; exact h.sf.br.2
/-- A part of the list, as its cells lie. -/
theorem SG.part (h : SG X w r a n ps bn N L wc M) {i : Nat} {p : Pt} (hp : ps[i]? = some p) : ∃ b off, a = some ⟨b, off, none⟩ ∧ i < n ∧ wc.cell? ⟨b, off + i * 2, none⟩ = some (.int .i64 (p.i : Int)) ∧ wc.cell? ⟨b, off + i * 2 + 1, none⟩ = some (.int .i64 (p.o : Int)) := by
  obtain ⟨h1, h2, h3⟩ := h.sf.row
  have hi : i < ps.length := (List.getElem?_eq_some_iff.1 hp).1
  obtain ⟨b, off, ha, hb, hc⟩ := h3 (by omega)
  exact ⟨b, off, ha, by omega, hc i p hp 0 _ rfl, hc i p hp 1 _ rfl⟩
theorem SG.link (h : SG X w r a n ps bn N L wc M) (i : Nat) (z : Int) (hi : i < N + 2) (hN : N ≤ 4000) (hL : L ≤ 5000) :
    Calls Try.prog 53 #[.pointer (some ⟨X, 0, none⟩), .int .i64 (i : Int), .int .i64 z] wc fun e w' => e = .returned (.tuple #[]) ∧ SG X w r a n ps bn N (L + 1) w' (M.link i z) ∧ KeepsR X wc w' :=
  (link_any X wc M [] h.sf.mx i z (by have := h.sm.1; omega) (by have := h.sm.1; omega) (fun l hl => Nat.le_trans (h.sm.2 l hl) hL)).mono fun e w' ⟨he, hm, hb, hk⟩ => ⟨he, h.keeps hm hb hk (h.sm.link i z), hk⟩
theorem MX.kept_own {b : Nat} (h : MX X wc M []) (hb : FreeB X wc b) (hk : ∀ k, k ≠ b → wd.heap[k]? = wc.heap[k]?) (hs : wd.heap.size = wc.heap.size) (k : Nat) : OwnS X wd k ↔ OwnS X wc k := by
  obtain ⟨os, fv, sv, bv, hm, q⟩ := h
  have hm' : MB X wd os M.se M.by_ fv sv bv [] := ⟨(hk X (fun e => hb.2.1 e.symm)).trans hm.box, hm.rows.kept fun r hr k hkk => hk k fun e => (by
    subst e
    refine hb.2.2 ((hm.ownS _).2 ⟨r, ?_, hkk⟩)
    rcases List.mem_append.1 hr with hr | hr
    · exact List.mem_append_left _ hr
    · rw [List.nil_append] at hr; exact List.mem_append_right _ hr), hm.len, by rw [hs]; exact hm.le⟩
  rw [hm'.ownS, hm.ownS]
/-- The end: what is handed out. -/
theorem SG.done (h : SG X w r a n ps bn N L wc M) {g : Nat} (hg : w.heap.size = g) (hx : X < g) {v : Value} (hO : ∀ k, k ≠ g + 1 → wd.heap[k]? = wc.heap[k]?) (hS : wd.heap.size = wc.heap.size) (hb : ∀ B, B ≤ g + 1 → Below B wc wd) : GivM9 X M [] v w (.returned v) wd := by
  subst hg
  refine ⟨rfl, h.sf.mx.kept h.sf.br.1 hO hS, h.sf.bw.trans (hb X (by omega)), by rw [hS]; exact h.sf.kp.1, fun k hk hkx hko => ?_⟩
  obtain ⟨e, no⟩ := h.sf.kp.2 k hk hkx hko
  exact ⟨(hO k (by omega)).trans e, fun ho => no ((MX.kept_own h.sf.mx h.sf.br.1 hO hS k).1 ho)⟩
end
section
variable {X : Nat} {w w' : World} {os : List (Sl Int)} {se : List (Nat → Bool)} {by_ : List Bool} {fv : Value} {bS bB sc bc n : Nat}
theorem MB.cellS {sv bv : Value} (h : MB X w os se by_ fv sv bv []) (hsv : sv = .slice (some ⟨bS, 0, none⟩) n sc) {i : Nat} {S : Nat → Bool} (hi : se[i]? = some S) (j : Nat) (v : Value) (hv : (setC S)[j]? = some v) : w.cell? ⟨bS, i * 4 + j, none⟩ = some v := by
  subst hsv
  have ho := h.own.2.1
  have hil : i < se.length := (List.getElem?_eq_some_iff.1 hi).1
  have e : n = se.length := by
    rcases h.forms.2.1 with ⟨a, c, e, _, _⟩
    injection e
  subst e
  obtain ⟨g', e4, _, _, hcc⟩ := own_at ho (by omega)
  injection e4 with e4
  injection e4 with e4
  subst e4
  exact hcc _ _ (flat_get setC_len se i S hi j v hv)
theorem MB.cellB {sv bv : Value} (h : MB X w os se by_ fv sv bv []) (hbv : bv = .slice (some ⟨bB, 0, none⟩) n bc) {i : Nat} {z : Bool} (hi : by_[i]? = some z) : w.cell? ⟨bB, i, none⟩ = some (.bool z) := by
  subst hbv
  have ho := h.own.2.2
  have hil : i < by_.length := (List.getElem?_eq_some_iff.1 hi).1
  have e : n = by_.length := by
    rcases h.forms.2.2 with ⟨a, c, e, _, _⟩
    injection e
  subst e
  obtain ⟨g', e4, _, _, hcc⟩ := own_at ho (by omega)
  injection e4 with e4
  injection e4 with e4
  subst e4
  have := flat_get (C := bolC) (fun _ => rfl) by_ i z hi 0 (.bool z) rfl
  exact hcc _ _ (by simpa using this)
end
theorem SG.kc {X : Nat} {w : World} {r : Rx} {a : Option Addr} {n : Nat} {ps : List Pt} {bn N L : Nat} {wc : World} {M : Mc} (h : SG X w r a n ps bn N L wc M) {g : Nat} (hg : w.heap.size = g) (j : Nat) (hj : j < 4 := by decide) : wc.cell? ⟨g, j + 1, none⟩ = some (.int .u64 (wd r.s j)) := by
  subst hg; rw [cell_of_row wc _ (j + 1) _ _ _ h.sf.bx.2]
  match j, hj with
  | 0, _ => rfl
  | 1, _ => rfl
  | 2, _ => rfl
  | 3, _ => rfl
theorem flat_set4 : ∀ (se : List (Nat → Bool)) (i : Nat) (S : Nat → Bool), (se.set i S).flatMap setC = ((((se.flatMap setC).set (i * 4) (.int .u64 (wd S 0))).set (i * 4 + 1) (.int .u64 (wd S 1))).set (i * 4 + 2) (.int .u64 (wd S 2))).set (i * 4 + 3) (.int .u64 (wd S 3))
  | [], i, S => by simp
  | x :: se, 0, S => by simp [setC]
  | x :: se, i + 1, S => by
    rw [List.set_cons_succ, List.flatMap_cons, List.flatMap_cons, flat_set4 se i S, Nat.succ_mul]
    have hx : (setC x).length = 4 := rfl
    rw [List.set_append_right (i * 4 + 4) _ (by omega), List.set_append_right (i * 4 + 4 + 1) _ (by omega), List.set_append_right (i * 4 + 4 + 2) _ (by omega), List.set_append_right (i * 4 + 4 + 3) _ (by omega), hx,
      show i * 4 + 4 - 4 = i * 4 by omega, show i * 4 + 4 + 1 - 4 = i * 4 + 1 by omega, show i * 4 + 4 + 2 - 4 = i * 4 + 2 by omega, show i * 4 + 4 + 3 - 4 = i * 4 + 3 by omega]
/-- The world in which a state's set is laid and its mark is set. -/
def laidSB (w : World) (bS bB i : Nat) (S : Nat → Bool) : World := (((((w.setCell ⟨bS, i * 4, none⟩ (.int .u64 (wd S 0))).setCell ⟨bS, i * 4 + 1, none⟩ (.int .u64 (wd S 1))).setCell ⟨bS, i * 4 + 2, none⟩ (.int .u64 (wd S 2))).setCell ⟨bS, i * 4 + 3, none⟩ (.int .u64 (wd S 3))).setCell ⟨bB, i, none⟩ (.bool true))
theorem laidSB_other (w : World) (bS bB i : Nat) (S : Nat → Bool) (k : Nat) (h1 : k ≠ bS) (h2 : k ≠ bB) : (laidSB w bS bB i S).heap[k]? = w.heap[k]? := by
  unfold laidSB
  rw [heap_setCell_other _ _ _ _ h2, heap_setCell_other _ _ _ _ h1, heap_setCell_other _ _ _ _ h1, heap_setCell_other _ _ _ _ h1, heap_setCell_other _ _ _ _ h1]
theorem laidSB_size (w : World) (bS bB i : Nat) (S : Nat → Bool) : (laidSB w bS bB i S).heap.size = w.heap.size := by simp [laidSB]
theorem laidSB_below {X : Nat} (w : World) (bS bB i : Nat) (S : Nat → Bool) (h1 : X ≤ bS) (h2 : X ≤ bB) : Below X w (laidSB w bS bB i S) := by
  unfold laidSB
  exact (((((Below.refl X w).setCell (p := ⟨bS, i * 4, none⟩) h1 _).setCell (p := ⟨bS, i * 4 + 1, none⟩) h1 _).setCell (p := ⟨bS, i * 4 + 2, none⟩) h1 _).setCell (p := ⟨bS, i * 4 + 3, none⟩) h1 _).setCell (p := ⟨bB, i, none⟩) h2 _
theorem MB.setSB {X : Nat} {w : World} {os : List (Sl Int)} {se : List (Nat → Bool)} {by_ : List Bool} {fv : Value} {bS bB sc bc n : Nat} (h : MB X w os se by_ fv (.slice (some ⟨bS, 0, none⟩) n sc) (.slice (some ⟨bB, 0, none⟩) n bc) []) (hs : se.length = n) (hb : by_.length = n) (i : Nat) (S : Nat → Bool) :
    MB X (laidSB w bS bB i S) os (se.set i S) (by_.set i true) fv (.slice (some ⟨bS, 0, none⟩) n sc) (.slice (some ⟨bB, 0, none⟩) n bc) [] := by
  have n1 : bS ≠ X := fun e => h.ne.2.1 (by rw [e]; rfl)
  have n2 : bB ≠ X := fun e => h.ne.2.2 (by rw [e]; rfl)
  have h1 := h.rows.setAt (i := 1) (g := bS) (n := n) (c := sc) rfl rfl hs (i * 4) (.int .u64 (wd S 0))
  have h2 := h1.setAt (i := 1) (g := bS) (n := n) (c := sc) rfl rfl hs (i * 4 + 1) (.int .u64 (wd S 1))
  have h3 := h2.setAt (i := 1) (g := bS) (n := n) (c := sc) rfl rfl hs (i * 4 + 2) (.int .u64 (wd S 2))
  have h4 := h3.setAt (i := 1) (g := bS) (n := n) (c := sc) rfl rfl hs (i * 4 + 3) (.int .u64 (wd S 3))
  have h5 := h4.setAt (i := 2) (g := bB) (n := n) (c := bc) rfl rfl hb i (.bool true)
  refine ⟨(laidSB_other w bS bB i S X (fun e => n1 e.symm) (fun e => n2 e.symm)).trans h.box, ?_, h.len, by rw [laidSB_size]; exact h.le⟩
  have e : base3 os (se.set i S) (by_.set i true) fv (.slice (some ⟨bS, 0, none⟩) n sc) (.slice (some ⟨bB, 0, none⟩) n bc) = [⟨27, 1, fv, os.length, os.flatMap seC⟩, ⟨33, 4, .slice (some ⟨bS, 0, none⟩) n sc, se.length, ((((se.flatMap setC).set (i * 4) (.int .u64 (wd S 0))).set (i * 4 + 1) (.int .u64 (wd S 1))).set (i * 4 + 2) (.int .u64 (wd S 2))).set (i * 4 + 3) (.int .u64 (wd S 3))⟩, ⟨4, 1, .slice (some ⟨bB, 0, none⟩) n bc, by_.length, (by_.flatMap bolC).set i (.bool true)⟩] := by
    unfold base3
    rw [flat_set4, flat_set1 (C := bolC) (fun _ => rfl) by_ i true (.bool true) rfl, List.length_set, List.length_set]
  rw [e]
  exact h5
theorem MB.setSB_keeps {X : Nat} {w : World} {os : List (Sl Int)} {se : List (Nat → Bool)} {by_ : List Bool} {fv : Value} {bS bB sc bc n : Nat} (h : MB X w os se by_ fv (.slice (some ⟨bS, 0, none⟩) n sc) (.slice (some ⟨bB, 0, none⟩) n bc) []) (hs : se.length = n) (hb : by_.length = n) (i : Nat) (S : Nat → Bool) :
    KeepsR X w (laidSB w bS bB i S) := by
  refine h.keeps (h.setSB hs hb i S) (by rw [laidSB_size]; exact Nat.le_refl _) (fun k hk hkx hno => laidSB_other w bS bB i S k (fun e => ?_) (fun e => ?_)) (fun r' hr' k hk => .inl ?_)
  · exact hno ⟨33, 4, .slice (some ⟨bS, 0, none⟩) n sc, se.length, se.flatMap setC⟩ (List.mem_append_left _ (.tail _ (.head _))) (by subst e; rfl)
  · exact hno ⟨4, 1, .slice (some ⟨bB, 0, none⟩) n bc, by_.length, by_.flatMap bolC⟩ (List.mem_append_left _ (.tail _ (.tail _ (.head _)))) (by subst e; rfl)
  · rcases List.mem_append.1 hr' with hr' | hr'
    · simp only [base3, List.mem_cons, List.not_mem_nil, or_false] at hr'
      rcases hr' with rfl | rfl | rfl
      · exact ⟨_, List.mem_append_left _ (.head _), hk⟩
      · exact ⟨_, List.mem_append_left _ (.tail _ (.head _)), hk⟩
      · exact ⟨_, List.mem_append_left _ (.tail _ (.tail _ (.head _))), hk⟩
    · exact ⟨r', List.mem_append_right _ hr', hk⟩
/-- A state's set and mark, in what stands. -/
theorem SG.setSB {X : Nat} {w : World} {r : Rx} {a : Option Addr} {n : Nat} {ps : List Pt} {bn N L : Nat} {wc : World} {M : Mc} (h : SG X w r a n ps bn N L wc M) {os : List (Sl Int)} {fv : Value} {bS bB sc bc m : Nat}
    (hm : MB X wc os M.se M.by_ fv (.slice (some ⟨bS, 0, none⟩) m sc) (.slice (some ⟨bB, 0, none⟩) m bc) []) (hs : M.se.length = m) (hb : M.by_.length = m) (hf : M.fr = os.map Sl.xs) (hl : M.fr.length = m) (i : Nat) (S : Nat → Bool) : SG X w r a n ps bn N L (laidSB wc bS bB i S) (M.setAt i S) := by
  have h1 := (hm.own.2.1.lt bS rfl).1
  have h2 := (hm.own.2.2.lt bB rfl).1
  exact h.keeps ⟨os, _, _, _, hm.setSB hs hb i S, hf, by simp [Mc.setAt]; omega, by simp [Mc.setAt]; omega⟩ (laidSB_below wc bS bB i S (by omega) (by omega)) (hm.setSB_keeps hs hb i S) ⟨h.sm.1, h.sm.2⟩
theorem MB.free_ne {X b : Nat} {w : World} {os : List (Sl Int)} {se : List (Nat → Bool)} {by_ : List Bool} {fv sv bv : Value} (h : MB X w os se by_ fv sv bv []) (hf : FreeB X w b) : fv.ownBlock ≠ some b ∧ sv.ownBlock ≠ some b ∧ bv.ownBlock ≠ some b :=
  ⟨fun e => hf.2.2 ((h.ownS _).2 ⟨⟨27, 1, fv, os.length, os.flatMap seC⟩, List.mem_append_left _ (.head _), e⟩),
   fun e => hf.2.2 ((h.ownS _).2 ⟨⟨33, 4, sv, se.length, se.flatMap setC⟩, List.mem_append_left _ (.tail _ (.head _)), e⟩),
   fun e => hf.2.2 ((h.ownS _).2 ⟨⟨4, 1, bv, by_.length, by_.flatMap bolC⟩, List.mem_append_left _ (.tail _ (.tail _ (.head _))), e⟩)⟩
theorem len2 {α : Type} {l : List α} (h : l.length = 2) : ∃ p q, l = [p, q] := by
  match l, h with
  | [p, q], _ => exact ⟨p, q, rfl⟩
theorem len1 {α : Type} {l : List α} (h : l.length = 1) : ∃ p, l = [p] := by
  match l, h with
  | [p], _ => exact ⟨p, rfl⟩
/-- One result: a part in its block. -/
theorem results_pt {fn : Func} {p : Tmp} (h : fn.results = #[.cell p 52]) (tmps : Array Value) (w : World) (g i o : Nat)
    (hp : tmps.getD p undef = .pointer (some ⟨g, 0, none⟩)) (hg : PtAt w g i o) :
    (results fn tmps).run Try.prog w = .ok (.agg #[.int .i64 (i : Int), .int .i64 (o : Int)]) w := by
  have hp' : tmps[p]?.getD undef = .pointer (some ⟨g, 0, none⟩) := by simpa using hp
  have hl := run_loadP0 w g i o hg
  simp [results, h, hp', asAddr, loadP_eq, hl]
/-- What the parts' links make of a machine. -/
def wrapN (M : Mc) (k : Int) (n : Pt) (ps : List Pt) (j : Nat) : Mc := if k = 3 then M else (ps.take j).foldl (fun m p => m.wrap n p) M
theorem wrapN_zero (M : Mc) (k : Int) (n : Pt) (ps : List Pt) : wrapN M k n ps 0 = M := by simp [wrapN]
theorem wrapN_cat (M : Mc) (n : Pt) (ps : List Pt) (j : Nat) : wrapN M 3 n ps j = M := by simp [wrapN]
theorem wrapN_succ (M : Mc) {k : Int} (hk : k ≠ 3) (n : Pt) (ps : List Pt) (j : Nat) {p : Pt} (hp : ps[j]? = some p) : wrapN M k n ps (j + 1) = (wrapN M k n ps j).wrap n p := by
  simp only [wrapN, hk, if_false]
  rw [List.take_add_one, hp, Option.toList_some, List.foldl_append]; rfl
end Go.Proofs.Ytbefndibkpjgaaa
/- The words of an expression are the words of the paths of the machine that is made of it. -/
namespace Go.Proofs.Ytbefndibkpjgaaa
set_option linter.unusedVariables false
/-- How many states a part has; its first and its last one. -/
def szT (T : RxT) : Nat := 2 * (post T).length
def inS (T : RxT) (b : Nat) : Nat := b + szT T - 2
def outS (T : RxT) (b : Nat) : Nat := b + szT T - 1
theorem szT_pos (T : RxT) : 2 ≤ szT T := by have := post_pos T; unfold szT; omega
/-- Ways without a byte. -/
def fE : RxT → Nat → Nat → Nat → Prop
  | .set _, _, _, _ => False
  | .empty, b, x, y => x = b ∧ y = b + 1
  | .cat p q, b, x, y => fE p b x y ∨ fE q (b + szT p) x y ∨ (x = inS (.cat p q) b ∧ y = inS p b) ∨ (x = outS p b ∧ y = inS q (b + szT p)) ∨ (x = outS q (b + szT p) ∧ y = outS (.cat p q) b)
  | .alt p q, b, x, y => fE p b x y ∨ fE q (b + szT p) x y ∨ (x = inS (.alt p q) b ∧ y = inS p b) ∨ (x = outS p b ∧ y = outS (.alt p q) b) ∨ (x = inS (.alt p q) b ∧ y = inS q (b + szT p)) ∨ (x = outS q (b + szT p) ∧ y = outS (.alt p q) b)
  | .star p, b, x, y => fE p b x y ∨ (x = inS (.star p) b ∧ y = inS p b) ∨ (x = outS p b ∧ y = outS (.star p) b) ∨ (x = outS p b ∧ y = inS p b) ∨ (x = inS (.star p) b ∧ y = outS (.star p) b)
  | .plus p, b, x, y => fE p b x y ∨ (x = inS (.plus p) b ∧ y = inS p b) ∨ (x = outS p b ∧ y = outS (.plus p) b) ∨ (x = outS p b ∧ y = inS p b)
  | .opt p, b, x, y => fE p b x y ∨ (x = inS (.opt p) b ∧ y = inS p b) ∨ (x = outS p b ∧ y = outS (.opt p) b) ∨ (x = inS (.opt p) b ∧ y = outS (.opt p) b)
/-- Ways by a byte, to the next state. -/
def bE : RxT → Nat → Nat → UInt8 → Prop
  | .set S, b, x, c => x = b ∧ S c.toNat = true
  | .empty, _, _, _ => False
  | .cat p q, b, x, c => bE p b x c ∨ bE q (b + szT p) x c
  | .alt p q, b, x, c => bE p b x c ∨ bE q (b + szT p) x c
  | .star p, b, x, c => bE p b x c
  | .plus p, b, x, c => bE p b x c
  | .opt p, b, x, c => bE p b x c
theorem sz_cat (p q : RxT) : szT (.cat p q) = szT p + szT q + 2 := by simp [szT, post]; omega
theorem sz_alt (p q : RxT) : szT (.alt p q) = szT p + szT q + 2 := by simp [szT, post]; omega
theorem sz_star (p : RxT) : szT (.star p) = szT p + 2 := by simp [szT, post]; omega
theorem sz_plus (p : RxT) : szT (.plus p) = szT p + 2 := by simp [szT, post]; omega
theorem sz_opt (p : RxT) : szT (.opt p) = szT p + 2 := by simp [szT, post]; omega
theorem sz_set (S : Nat → Bool) : szT (.set S) = 2 := rfl
theorem sz_empty : szT .empty = 2 := rfl
def RT (T : RxT) (b x : Nat) : Prop := b ≤ x ∧ x < b + szT T
theorem fE_range (T : RxT) : ∀ (b x y : Nat), fE T b x y → RT T b x ∧ RT T b y ∧ x ≠ outS T b := by
  induction T with
  | set S => intro b x y h; exact h.elim
  | empty => rintro b x y ⟨rfl, rfl⟩; unfold RT outS; rw [sz_empty]; omega
  | cat p q ihp ihq =>
    intro b x y h
    have h1 := szT_pos p
    have h2 := szT_pos q
    simp only [fE, inS, outS] at h
    unfold RT outS
    rw [sz_cat] at *
    rcases h with h | h | h | h | h
    · have := ihp _ _ _ h; unfold RT at this; omega
    · have := ihq _ _ _ h; unfold RT at this; omega
    · omega
    · omega
    · omega
  | alt p q ihp ihq =>
    intro b x y h
    have h1 := szT_pos p
    have h2 := szT_pos q
    simp only [fE, inS, outS] at h
    unfold RT outS
    rw [sz_alt] at *
    rcases h with h | h | h | h | h | h
    · have := ihp _ _ _ h; unfold RT at this; omega
    · have := ihq _ _ _ h; unfold RT at this; omega
    · omega
    · omega
    · omega
    · omega
  | star p ihp =>
    intro b x y h
    have h1 := szT_pos p
    simp only [fE, inS, outS] at h
    unfold RT outS
    rw [sz_star] at *
    rcases h with h | h | h | h | h
    · have := ihp _ _ _ h; unfold RT at this; omega
    · omega
    · omega
    · omega
    · omega
  | plus p ihp =>
    intro b x y h
    have h1 := szT_pos p
    simp only [fE, inS, outS] at h
    unfold RT outS
    rw [sz_plus] at *
    rcases h with h | h | h | h
    · have := ihp _ _ _ h; unfold RT at this; omega
    · omega
    · omega
    · omega
  | opt p ihp =>
    intro b x y h
    have h1 := szT_pos p
    simp only [fE, inS, outS] at h
    unfold RT outS
    rw [sz_opt] at *
    rcases h with h | h | h | h
    · have := ihp _ _ _ h; unfold RT at this; omega
    · omega
    · omega
    · omega
theorem bE_range (T : RxT) : ∀ (b x : Nat) (c : UInt8), bE T b x c → RT T b x ∧ RT T b (x + 1) ∧ x ≠ outS T b := by
  induction T with
  | set S => rintro b x c ⟨rfl, _⟩; unfold RT outS; rw [sz_set]; omega
  | empty => intro b x c h; exact h.elim
  | cat p q ihp ihq =>
    intro b x c h
    unfold RT outS
    rw [sz_cat]
    rcases h with h | h
    · have := ihp _ _ _ h; unfold RT at this; omega
    · have := ihq _ _ _ h; unfold RT at this; omega
  | alt p q ihp ihq =>
    intro b x c h
    unfold RT outS
    rw [sz_alt]
    rcases h with h | h
    · have := ihp _ _ _ h; unfold RT at this; omega
    · have := ihq _ _ _ h; unfold RT at this; omega
  | star p ihp => intro b x c h; unfold RT outS; rw [sz_star]; have := ihp _ _ _ h; unfold RT at this; omega
  | plus p ihp => intro b x c h; unfold RT outS; rw [sz_plus]; have := ihp _ _ _ h; unfold RT at this; omega
  | opt p ihp => intro b x c h; unfold RT outS; rw [sz_opt]; have := ihp _ _ _ h; unfold RT at this; omega
/-! ## Paths. -/
inductive PN (F : Nat → Nat → Prop) (B : Nat → UInt8 → Prop) : Nat → Nat → List UInt8 → Nat → Prop where
  | nil (x : Nat) : PN F B 0 x [] x
  | eps {n x z : Nat} {w : List UInt8} {y : Nat} (h : F x z) (hp : PN F B n z w y) : PN F B (n + 1) x w y
  | byte {n x : Nat} {c : UInt8} {w : List UInt8} {y : Nat} (h : B x c) (hp : PN F B n (x + 1) w y) : PN F B (n + 1) x (c :: w) y
def Pa (F : Nat → Nat → Prop) (B : Nat → UInt8 → Prop) (x : Nat) (w : List UInt8) (y : Nat) : Prop := ∃ n, PN F B n x w y
section
variable {F F' : Nat → Nat → Prop} {B B' : Nat → UInt8 → Prop}
theorem Pa.refl (x : Nat) : Pa F B x [] x := ⟨0, .nil x⟩
theorem Pa.one {x y : Nat} (h : F x y) : Pa F B x [] y := ⟨1, .eps h (.nil y)⟩
theorem Pa.letter {x : Nat} {c : UInt8} (h : B x c) : Pa F B x [c] (x + 1) := ⟨1, .byte h (.nil _)⟩
theorem PN.mono (hF : ∀ x y, F x y → F' x y) (hB : ∀ x c, B x c → B' x c) {n x : Nat} {w : List UInt8} {y : Nat} (h : PN F B n x w y) : PN F' B' n x w y := by
  induction h with
  | nil x => exact .nil x
  | eps h _ ih => exact .eps (hF _ _ h) ih
  | byte h _ ih => exact .byte (hB _ _ h) ih
theorem Pa.mono (hF : ∀ x y, F x y → F' x y) (hB : ∀ x c, B x c → B' x c) {x : Nat} {w : List UInt8} {y : Nat} (h : Pa F B x w y) : Pa F' B' x w y := by
  obtain ⟨n, h⟩ := h; exact ⟨n, h.mono hF hB⟩
theorem PN.trans {n m x : Nat} {u v : List UInt8} {z y : Nat} (h : PN F B n x u z) (h2 : PN F B m z v y) : ∃ k, PN F B k x (u ++ v) y := by
  induction h with
  | nil x => exact ⟨m, h2⟩
  | eps h _ ih => obtain ⟨k, hk⟩ := ih h2; exact ⟨k + 1, .eps h hk⟩
  | byte h _ ih => obtain ⟨k, hk⟩ := ih h2; exact ⟨k + 1, .byte h hk⟩
theorem Pa.trans {x : Nat} {u v : List UInt8} {z y : Nat} (h : Pa F B x u z) (h2 : Pa F B z v y) : Pa F B x (u ++ v) y := by
  obtain ⟨n, h⟩ := h; obtain ⟨m, h2⟩ := h2; exact h.trans h2
/-- Where there is no way on. -/
theorem PN.stuck {n x : Nat} {w : List UInt8} {y : Nat} (h : PN F B n x w y) (hF : ∀ z, ¬ F x z) (hB : ∀ c, ¬ B x c) : w = [] ∧ y = x := by
  cases h with
  | nil => exact ⟨rfl, rfl⟩
  | eps h _ => exact absurd h (hF _)
  | byte h _ => exact absurd h (hB _)
/-- A path that begins in a part stays in it, or leaves it at its last state. -/
theorem PN.exit {R : Nat → Prop} {o : Nat} {X : Nat → Prop} (hF : ∀ x z, R x → F x z → (F' x z ∧ R z) ∨ (x = o ∧ X z)) (hB : ∀ x c, R x → B x c → B' x c ∧ R (x + 1)) {n x : Nat} {w : List UInt8} {y : Nat} (h : PN F B n x w y) (hx : R x) :
    (Pa F' B' x w y ∧ R y) ∨ ∃ u v z m, w = u ++ v ∧ Pa F' B' x u o ∧ X z ∧ PN F B m z v y ∧ m < n := by
  induction h with
  | nil x => exact .inl ⟨Pa.refl x, hx⟩
  | @eps n x z w y h hp ih =>
    rcases hF _ _ hx h with ⟨h1, h2⟩ | ⟨rfl, h2⟩
    · rcases ih h2 with ⟨h3, h4⟩ | ⟨u, v, z', m, e, h3, h4, h5, h6⟩
      · exact .inl ⟨(Pa.one h1).trans h3, h4⟩
      · exact .inr ⟨u, v, z', m, e, (Pa.one h1).trans h3, h4, h5, by omega⟩
    · exact .inr ⟨[], w, z, n, rfl, Pa.refl _, h2, hp, by omega⟩
  | @byte n x c w y h hp ih =>
    obtain ⟨h1, h2⟩ := hB _ _ hx h
    rcases ih h2 with ⟨h3, h4⟩ | ⟨u, v, z', m, e, h3, h4, h5, h6⟩
    · exact .inl ⟨(Pa.letter h1).trans h3, h4⟩
    · exact .inr ⟨c :: u, v, z', m, by rw [e]; rfl, (Pa.letter h1).trans h3, h4, h5, by omega⟩
/-- The last byte of a path. -/
theorem Pa.snoc {s : Nat} {w : List UInt8} {c : UInt8} {y : Nat} : Pa F B s (w ++ [c]) y ↔ ∃ x, Pa F B s w x ∧ B x c ∧ Pa F B (x + 1) [] y := by
  constructor
  · rintro ⟨n, h⟩
    generalize e : w ++ [c] = q at h
    induction h generalizing w with
    | nil x => simp at e
    | @eps n x z q y h hp ih =>
      obtain ⟨x', h1, h2, h3⟩ := ih e
      exact ⟨x', (Pa.one h).trans h1, h2, h3⟩
    | @byte n x d q y h hp ih =>
      cases w with
      | nil =>
        simp only [List.nil_append, List.cons.injEq] at e
        obtain ⟨rfl, rfl⟩ := e
        exact ⟨x, Pa.refl x, h, n, hp⟩
      | cons a w =>
        simp only [List.cons_append, List.cons.injEq] at e
        obtain ⟨rfl, e⟩ := e
        obtain ⟨x', h1, h2, h3⟩ := ih e
        exact ⟨x', (Pa.letter h).trans h1, h2, h3⟩
  · rintro ⟨x, h1, h2, h3⟩
    have := h1.trans ((Pa.letter h2).trans h3)
    simpa using this
end
theorem out_stuck (T : RxT) (b : Nat) {n : Nat} {w : List UInt8} {y : Nat} (h : PN (fE T b) (bE T b) n (outS T b) w y) : w = [] ∧ y = outS T b :=
  h.stuck (fun z hz => (fE_range T b _ _ hz).2.2 rfl) (fun c hc => (bE_range T b _ _ hc).2.2 rfl)
/-- A loop: from the part's first state to the last one of all. -/
theorem loop_to {p : RxT} {b : Nat} {F : Nat → Nat → Prop} {B : Nat → UInt8 → Prop} {o : Nat} {L : List UInt8 → Prop} (ih : ∀ w, Pa (fE p b) (bE p b) (inS p b) w (outS p b) → L w)
    (hF : ∀ x z, RT p b x → F x z → (fE p b x z ∧ RT p b z) ∨ (x = outS p b ∧ (z = o ∨ z = inS p b))) (hB : ∀ x c, RT p b x → B x c → bE p b x c ∧ RT p b (x + 1)) (ho : ¬ RT p b o)
    (hs : ∀ n w, PN F B n o w o → w = []) (hi : RT p b (inS p b)) : ∀ n w, PN F B n (inS p b) w o → ∃ u v, w = u ++ v ∧ L u ∧ Rep L v := by
  intro n
  induction n using Nat.strongRecOn with
  | ind n ihn =>
    intro w h
    rcases h.exit hF hB hi with ⟨_, h2⟩ | ⟨u, v, z, m, rfl, h1, h2, h3, h4⟩
    · exact absurd h2 ho
    · rcases h2 with rfl | rfl
      · have := hs _ _ h3
        subst this
        exact ⟨u, [], rfl, ih u h1, .nil⟩
      · obtain ⟨u2, v2, rfl, a1, a2⟩ := ihn m h4 v h3
        exact ⟨u, u2 ++ v2, rfl, ih u h1, .cons u2 v2 a1 a2⟩
theorem loop_of {p : RxT} {b : Nat} {F : Nat → Nat → Prop} {B : Nat → UInt8 → Prop} {L : List UInt8 → Prop} (hL : ∀ w, L w → Pa F B (inS p b) w (outS p b)) (hback : F (outS p b) (inS p b)) {v : List UInt8} (hv : Rep L v) : ∀ u, L u → Pa F B (inS p b) (u ++ v) (outS p b) := by
  induction hv with
  | nil => intro u hu; rw [List.append_nil]; exact hL u hu
  | cons u2 v2 h2 _ ih =>
    intro u hu
    have := (hL u hu).trans ((Pa.one hback).trans (ih u2 h2))
    simpa using this
theorem in_range (T : RxT) (b : Nat) : RT T b (inS T b) ∧ RT T b (outS T b) := by
  have := szT_pos T; unfold RT inS outS; omega
/-- THE PLAIN LAW: the words of an expression are those of its machine's paths. -/
theorem thom (T : RxT) : ∀ (b : Nat) (w : List UInt8), Pa (fE T b) (bE T b) (inS T b) w (outS T b) ↔ inT T w := by
  induction T with
  | set S =>
    intro b w
    have e1 : inS (.set S) b = b := by unfold inS; rw [sz_set]; omega
    have e2 : outS (.set S) b = b + 1 := by unfold outS; rw [sz_set]; omega
    constructor
    · rintro ⟨n, h⟩
      rw [e1, e2] at h
      generalize hy : b + 1 = y at h
      cases h with
      | nil => omega
      | eps h _ => exact h.elim
      | byte h hp =>
        obtain ⟨_, hS⟩ := h
        have := hp.stuck (fun z hz => hz.elim) (fun c hc => by obtain ⟨h9, _⟩ := hc; omega)
        exact ⟨_, by rw [this.1], hS⟩
    · rintro ⟨c, rfl, hS⟩
      rw [e1, e2]
      exact Pa.letter ⟨rfl, hS⟩
  | empty =>
    intro b w
    have e1 : inS .empty b = b := by unfold inS; rw [sz_empty]; omega
    have e2 : outS .empty b = b + 1 := by unfold outS; rw [sz_empty]; omega
    constructor
    · rintro ⟨n, h⟩
      rw [e1, e2] at h
      generalize hy : b + 1 = y at h
      cases h with
      | nil => omega
      | eps h hp =>
        obtain ⟨_, rfl⟩ := h
        exact (hp.stuck (fun z hz => by obtain ⟨h9, _⟩ := hz; omega) (fun c hc => hc.elim)).1
      | byte h _ => exact h.elim
    · rintro rfl
      rw [e1, e2]
      exact Pa.one ⟨rfl, rfl⟩
  | cat p q ihp ihq =>
    intro b w
    have h1 := szT_pos p
    have h2 := szT_pos q
    have hs := sz_cat p q
    have hI : inS (.cat p q) b = b + szT p + szT q := by unfold inS; omega
    have hO : outS (.cat p q) b = b + szT p + szT q + 1 := by unfold outS; omega
    constructor
    · rintro ⟨n, h⟩
      have hend : ∀ n v, PN (fE (.cat p q) b) (bE (.cat p q) b) n (outS (.cat p q) b) v (outS (.cat p q) b) → v = [] := fun n v h => (out_stuck _ _ h).1
      have hq : ∀ n v, PN (fE (.cat p q) b) (bE (.cat p q) b) n (inS q (b + szT p)) v (outS (.cat p q) b) → inT q v := by
        intro n v h
        refine (h.exit (R := RT q (b + szT p)) (F' := fE q (b + szT p)) (B' := bE q (b + szT p)) (o := outS q (b + szT p)) (X := fun z => z = outS (.cat p q) b) (fun x z hx hf => ?_) (fun x c hx hb => ?_) (in_range q _).1).elim (fun hh => ?_) (fun hh => ?_)
        rotate_left 2
        · obtain ⟨_, h3⟩ := hh; unfold RT at h3; omega
        · obtain ⟨u, v', z, m, rfl, h3, rfl, h5, _⟩ := hh
          have := hend _ _ h5
          subst this
          rw [List.append_nil]; exact (ihq _ u).1 h3
        · unfold RT at hx
          rcases hf with hf | hf | hf | hf | hf
          · have := (fE_range p b _ _ hf).1; unfold RT at this; omega
          · exact .inl ⟨hf, (fE_range q _ _ _ hf).2.1⟩
          · unfold inS at hf; omega
          · unfold outS at hf; omega
          · exact .inr hf
        · unfold RT at hx
          rcases hb with hb | hb
          · have := (bE_range p b _ _ hb).1; unfold RT at this; omega
          · exact ⟨hb, (bE_range q _ _ _ hb).2.1⟩
      have hp : ∀ n v, PN (fE (.cat p q) b) (bE (.cat p q) b) n (inS p b) v (outS (.cat p q) b) → ∃ u v', v = u ++ v' ∧ inT p u ∧ inT q v' := by
        intro n v h
        refine (h.exit (R := RT p b) (F' := fE p b) (B' := bE p b) (o := outS p b) (X := fun z => z = inS q (b + szT p)) (fun x z hx hf => ?_) (fun x c hx hb => ?_) (in_range p _).1).elim (fun hh => ?_) (fun hh => ?_)
        rotate_left 2
        · obtain ⟨_, h3⟩ := hh; unfold RT at h3; omega
        · obtain ⟨u, v', z, m, rfl, h3, rfl, h5, _⟩ := hh
          exact ⟨u, v', rfl, (ihp _ u).1 h3, hq _ _ h5⟩
        · unfold RT at hx
          rcases hf with hf | hf | hf | hf | hf
          · exact .inl ⟨hf, (fE_range p _ _ _ hf).2.1⟩
          · have := (fE_range q _ _ _ hf).1; unfold RT at this; omega
          · unfold inS at hf; omega
          · exact .inr hf
          · unfold outS at hf; omega
        · unfold RT at hx
          rcases hb with hb | hb
          · exact ⟨hb, (bE_range p _ _ _ hb).2.1⟩
          · have := (bE_range q _ _ _ hb).1; unfold RT at this; omega
      rw [hI, hO] at h
      rw [← hO] at h
      generalize hy : outS (.cat p q) b = y at h
      cases h with
      | nil => omega
      | eps h hr =>
        subst hy
        rcases h with h | h | h | h | h
        · have := (fE_range p _ _ _ h).1; unfold RT at this; omega
        · have := (fE_range q _ _ _ h).1; unfold RT at this; omega
        · obtain ⟨_, rfl⟩ := h; exact hp _ _ hr
        · unfold outS at h; omega
        · unfold outS at h; omega
      | byte h _ =>
        rcases h with h | h
        · have := (bE_range p _ _ _ h).1; unfold RT at this; omega
        · have := (bE_range q _ _ _ h).1; unfold RT at this; omega
    · rintro ⟨u, v, rfl, hu, hv⟩
      have a1 := ((ihp b u).2 hu).mono (F' := fE (.cat p q) b) (B' := bE (.cat p q) b) (fun x y h => .inl h) (fun x c h => .inl h)
      have a2 := ((ihq (b + szT p) v).2 hv).mono (F' := fE (.cat p q) b) (B' := bE (.cat p q) b) (fun x y h => .inr (.inl h)) (fun x c h => .inr h)
      have b1 : Pa (fE (.cat p q) b) (bE (.cat p q) b) (inS (.cat p q) b) [] (inS p b) := Pa.one (.inr (.inr (.inl ⟨rfl, rfl⟩)))
      have b2 : Pa (fE (.cat p q) b) (bE (.cat p q) b) (outS p b) [] (inS q (b + szT p)) := Pa.one (.inr (.inr (.inr (.inl ⟨rfl, rfl⟩))))
      have b3 : Pa (fE (.cat p q) b) (bE (.cat p q) b) (outS q (b + szT p)) [] (outS (.cat p q) b) := Pa.one (.inr (.inr (.inr (.inr ⟨rfl, rfl⟩))))
      have := b1.trans (a1.trans (b2.trans (a2.trans b3)))
      simpa using this
  | alt p q ihp ihq =>
    intro b w
    have h1 := szT_pos p
    have h2 := szT_pos q
    have hs := sz_alt p q
    have hI : inS (.alt p q) b = b + szT p + szT q := by unfold inS; omega
    have hO : outS (.alt p q) b = b + szT p + szT q + 1 := by unfold outS; omega
    constructor
    · rintro ⟨n, h⟩
      have hend : ∀ n v, PN (fE (.alt p q) b) (bE (.alt p q) b) n (outS (.alt p q) b) v (outS (.alt p q) b) → v = [] := fun n v h => (out_stuck _ _ h).1
      have hq : ∀ n v, PN (fE (.alt p q) b) (bE (.alt p q) b) n (inS q (b + szT p)) v (outS (.alt p q) b) → inT q v := by
        intro n v h
        refine (h.exit (R := RT q (b + szT p)) (F' := fE q (b + szT p)) (B' := bE q (b + szT p)) (o := outS q (b + szT p)) (X := fun z => z = outS (.alt p q) b) (fun x z hx hf => ?_) (fun x c hx hb => ?_) (in_range q _).1).elim (fun hh => ?_) (fun hh => ?_)
        rotate_left 2
        · obtain ⟨_, h3⟩ := hh; unfold RT at h3; omega
        · obtain ⟨u, v', z, m, rfl, h3, rfl, h5, _⟩ := hh
          have := hend _ _ h5
          subst this
          rw [List.append_nil]; exact (ihq _ u).1 h3
        · unfold RT at hx
          rcases hf with hf | hf | hf | hf | hf | hf
          · have := (fE_range p b _ _ hf).1; unfold RT at this; omega
          · exact .inl ⟨hf, (fE_range q _ _ _ hf).2.1⟩
          · unfold inS at hf; omega
          · unfold outS at hf; omega
          · unfold inS at hf; omega
          · exact .inr hf
        · unfold RT at hx
          rcases hb with hb | hb
          · have := (bE_range p b _ _ hb).1; unfold RT at this; omega
          · exact ⟨hb, (bE_range q _ _ _ hb).2.1⟩
      have hp : ∀ n v, PN (fE (.alt p q) b) (bE (.alt p q) b) n (inS p b) v (outS (.alt p q) b) → inT p v := by
        intro n v h
        refine (h.exit (R := RT p b) (F' := fE p b) (B' := bE p b) (o := outS p b) (X := fun z => z = outS (.alt p q) b) (fun x z hx hf => ?_) (fun x c hx hb => ?_) (in_range p _).1).elim (fun hh => ?_) (fun hh => ?_)
        rotate_left 2
        · obtain ⟨_, h3⟩ := hh; unfold RT at h3; omega
        · obtain ⟨u, v', z, m, rfl, h3, rfl, h5, _⟩ := hh
          have := hend _ _ h5
          subst this
          rw [List.append_nil]; exact (ihp _ u).1 h3
        · unfold RT at hx
          rcases hf with hf | hf | hf | hf | hf | hf
          · exact .inl ⟨hf, (fE_range p _ _ _ hf).2.1⟩
          · have := (fE_range q _ _ _ hf).1; unfold RT at this; omega
          · unfold inS at hf; omega
          · exact .inr hf
          · unfold inS at hf; omega
          · unfold outS at hf; omega
        · unfold RT at hx
          rcases hb with hb | hb
          · exact ⟨hb, (bE_range p _ _ _ hb).2.1⟩
          · have := (bE_range q _ _ _ hb).1; unfold RT at this; omega
      rw [hI, hO] at h
      rw [← hO] at h
      generalize hy : outS (.alt p q) b = y at h
      cases h with
      | nil => omega
      | eps h hr =>
        subst hy
        rcases h with h | h | h | h | h | h
        · have := (fE_range p _ _ _ h).1; unfold RT at this; omega
        · have := (fE_range q _ _ _ h).1; unfold RT at this; omega
        · obtain ⟨_, rfl⟩ := h; exact .inl (hp _ _ hr)
        · unfold outS at h; omega
        · obtain ⟨_, rfl⟩ := h; exact .inr (hq _ _ hr)
        · unfold outS at h; omega
      | byte h _ =>
        rcases h with h | h
        · have := (bE_range p _ _ _ h).1; unfold RT at this; omega
        · have := (bE_range q _ _ _ h).1; unfold RT at this; omega
    · rintro (hu | hv)
      · have a1 := ((ihp b w).2 hu).mono (F' := fE (.alt p q) b) (B' := bE (.alt p q) b) (fun x y h => .inl h) (fun x c h => .inl h)
        have b1 : Pa (fE (.alt p q) b) (bE (.alt p q) b) (inS (.alt p q) b) [] (inS p b) := Pa.one (.inr (.inr (.inl ⟨rfl, rfl⟩)))
        have b3 : Pa (fE (.alt p q) b) (bE (.alt p q) b) (outS p b) [] (outS (.alt p q) b) := Pa.one (.inr (.inr (.inr (.inl ⟨rfl, rfl⟩))))
        have := b1.trans (a1.trans b3)
        simpa using this
      · have a2 := ((ihq (b + szT p) w).2 hv).mono (F' := fE (.alt p q) b) (B' := bE (.alt p q) b) (fun x y h => .inr (.inl h)) (fun x c h => .inr h)
        have b1 : Pa (fE (.alt p q) b) (bE (.alt p q) b) (inS (.alt p q) b) [] (inS q (b + szT p)) := Pa.one (.inr (.inr (.inr (.inr (.inl ⟨rfl, rfl⟩)))))
        have b3 : Pa (fE (.alt p q) b) (bE (.alt p q) b) (outS q (b + szT p)) [] (outS (.alt p q) b) := Pa.one (.inr (.inr (.inr (.inr (.inr ⟨rfl, rfl⟩)))))
        have := b1.trans (a2.trans b3)
        simpa using this
  | star p ihp =>
    intro b w
    have h1 := szT_pos p
    have hs := sz_star p
    have hI : inS (.star p) b = b + szT p := by unfold inS; omega
    have hO : outS (.star p) b = b + szT p + 1 := by unfold outS; omega
    have hFx : ∀ x z, RT p b x → fE (.star p) b x z → (fE p b x z ∧ RT p b z) ∨ (x = outS p b ∧ (z = outS (.star p) b ∨ z = inS p b)) := by
      intro x z hx hf
      unfold RT at hx
      rcases hf with hf | hf | hf | hf | hf
      · exact .inl ⟨hf, (fE_range p _ _ _ hf).2.1⟩
      · omega
      · exact .inr ⟨hf.1, .inl hf.2⟩
      · exact .inr ⟨hf.1, .inr hf.2⟩
      · omega
    have hBx : ∀ x c, RT p b x → bE (.star p) b x c → bE p b x c ∧ RT p b (x + 1) := fun x c hx hb => ⟨hb, (bE_range p _ _ _ hb).2.1⟩
    constructor
    · rintro ⟨n, h⟩
      rw [hI] at h
      generalize hy : outS (.star p) b = y at h
      cases h with
      | nil => omega
      | eps h hr =>
        subst hy
        rcases h with h | h | h | h | h
        · have := (fE_range p _ _ _ h).1; unfold RT at this; omega
        · obtain ⟨_, rfl⟩ := h
          obtain ⟨u, v, rfl, hu, hv⟩ := loop_to (fun w h => (ihp b w).1 h) hFx hBx (by unfold RT; omega) (fun n w h => (out_stuck _ _ h).1) (in_range p b).1 _ _ hr
          exact .cons u v hu hv
        · unfold outS at h; omega
        · unfold outS at h; omega
        · obtain ⟨_, rfl⟩ := h
          rw [(out_stuck _ _ hr).1]; exact .nil
      | byte h _ => have := (bE_range p _ _ _ h).1; unfold RT at this; omega
    · intro h
      have hL : ∀ w, inT p w → Pa (fE (.star p) b) (bE (.star p) b) (inS p b) w (outS p b) := fun w hw => ((ihp b w).2 hw).mono (fun x y h => .inl h) (fun x c h => h)
      have b3 : Pa (fE (.star p) b) (bE (.star p) b) (outS p b) [] (outS (.star p) b) := Pa.one (.inr (.inr (.inl ⟨rfl, rfl⟩)))
      have b1 : Pa (fE (.star p) b) (bE (.star p) b) (inS (.star p) b) [] (inS p b) := Pa.one (.inr (.inl ⟨rfl, rfl⟩))
      cases h with
      | nil => exact Pa.one (.inr (.inr (.inr (.inr ⟨rfl, rfl⟩))))
      | cons u v hu hv =>
        have := b1.trans ((loop_of hL (.inr (.inr (.inr (.inl ⟨rfl, rfl⟩)))) hv u hu).trans b3)
        simpa using this
  | plus p ihp =>
    intro b w
    have h1 := szT_pos p
    have hs := sz_plus p
    have hI : inS (.plus p) b = b + szT p := by unfold inS; omega
    have hO : outS (.plus p) b = b + szT p + 1 := by unfold outS; omega
    have hFx : ∀ x z, RT p b x → fE (.plus p) b x z → (fE p b x z ∧ RT p b z) ∨ (x = outS p b ∧ (z = outS (.plus p) b ∨ z = inS p b)) := by
      intro x z hx hf
      unfold RT at hx
      rcases hf with hf | hf | hf | hf
      · exact .inl ⟨hf, (fE_range p _ _ _ hf).2.1⟩
      · omega
      · exact .inr ⟨hf.1, .inl hf.2⟩
      · exact .inr ⟨hf.1, .inr hf.2⟩
    have hBx : ∀ x c, RT p b x → bE (.plus p) b x c → bE p b x c ∧ RT p b (x + 1) := fun x c hx hb => ⟨hb, (bE_range p _ _ _ hb).2.1⟩
    constructor
    · rintro ⟨n, h⟩
      rw [hI] at h
      generalize hy : outS (.plus p) b = y at h
      cases h with
      | nil => omega
      | eps h hr =>
        subst hy
        rcases h with h | h | h | h
        · have := (fE_range p _ _ _ h).1; unfold RT at this; omega
        · obtain ⟨_, rfl⟩ := h
          exact loop_to (fun w h => (ihp b w).1 h) hFx hBx (by unfold RT; omega) (fun n w h => (out_stuck _ _ h).1) (in_range p b).1 _ _ hr
        · unfold outS at h; omega
        · unfold outS at h; omega
      | byte h _ => have := (bE_range p _ _ _ h).1; unfold RT at this; omega
    · rintro ⟨u, v, rfl, hu, hv⟩
      have hL : ∀ w, inT p w → Pa (fE (.plus p) b) (bE (.plus p) b) (inS p b) w (outS p b) := fun w hw => ((ihp b w).2 hw).mono (fun x y h => .inl h) (fun x c h => h)
      have b3 : Pa (fE (.plus p) b) (bE (.plus p) b) (outS p b) [] (outS (.plus p) b) := Pa.one (.inr (.inr (.inl ⟨rfl, rfl⟩)))
      have b1 : Pa (fE (.plus p) b) (bE (.plus p) b) (inS (.plus p) b) [] (inS p b) := Pa.one (.inr (.inl ⟨rfl, rfl⟩))
      have := b1.trans ((loop_of hL (.inr (.inr (.inr ⟨rfl, rfl⟩))) hv u hu).trans b3)
      simpa using this
  | opt p ihp =>
    intro b w
    have h1 := szT_pos p
    have hs := sz_opt p
    have hI : inS (.opt p) b = b + szT p := by unfold inS; omega
    have hO : outS (.opt p) b = b + szT p + 1 := by unfold outS; omega
    constructor
    · rintro ⟨n, h⟩
      rw [hI] at h
      generalize hy : outS (.opt p) b = y at h
      cases h with
      | nil => omega
      | eps h hr =>
        subst hy
        rcases h with h | h | h | h
        · have := (fE_range p _ _ _ h).1; unfold RT at this; omega
        · obtain ⟨_, rfl⟩ := h
          refine (hr.exit (R := RT p b) (F' := fE p b) (B' := bE p b) (o := outS p b) (X := fun z => z = outS (.opt p) b) (fun x z hx hf => ?_) (fun x c hx hb => ⟨hb, (bE_range p _ _ _ hb).2.1⟩) (in_range p _).1).elim (fun hh => ?_) (fun hh => ?_)
          rotate_left 1
          · obtain ⟨_, h3⟩ := hh; unfold RT at h3; omega
          · obtain ⟨u, v', z, m, rfl, h3, rfl, h5, _⟩ := hh
            have := (out_stuck _ _ h5).1
            subst this
            rw [List.append_nil]; exact .inr ((ihp _ u).1 h3)
          · unfold RT at hx
            rcases hf with hf | hf | hf | hf
            · exact .inl ⟨hf, (fE_range p _ _ _ hf).2.1⟩
            · omega
            · exact .inr hf
            · omega
        · unfold outS at h; omega
        · obtain ⟨_, rfl⟩ := h
          exact .inl (out_stuck _ _ hr).1
      | byte h _ => have := (bE_range p _ _ _ h).1; unfold RT at this; omega
    · rintro (rfl | hu)
      · exact Pa.one (.inr (.inr (.inr ⟨rfl, rfl⟩)))
      · have a1 := ((ihp b w).2 hu).mono (F' := fE (.opt p) b) (B' := bE (.opt p) b) (fun x y h => .inl h) (fun x c h => h)
        have b1 : Pa (fE (.opt p) b) (bE (.opt p) b) (inS (.opt p) b) [] (inS p b) := Pa.one (.inr (.inl ⟨rfl, rfl⟩))
        have b3 : Pa (fE (.opt p) b) (bE (.opt p) b) (outS p b) [] (outS (.opt p) b) := Pa.one (.inr (.inr (.inl ⟨rfl, rfl⟩)))
        have := b1.trans (a1.trans b3)
        simpa using this
end Go.Proofs.Ytbefndibkpjgaaa
