/- bset: the stage's theorem. -/
import Derived.Test.YtglgmnhfpemfeaaDoorBAsks
namespace Go.Proofs.YtglgmnhfpemfeaaDoor
open Go.RowKit Go.Sort
set_option linter.unusedVariables false

/-- A slice of just one set, of the call's own. -/
def oneS (S : Nat → Bool) (v : Value) (x : World) : Prop := ∃ g, v = .slice (some ⟨g, 0, none⟩) 1 1 ∧ x.heap[g]? = some (.cells #[.int .u64 (wd S 0), .int .u64 (wd S 1), .int .u64 (wd S 2), .int .u64 (wd S 3)] 24 (0, 0))
theorem oneS_mono (S : Nat → Bool) : ∀ v x y, oneS S v x → Onto x y → oneS S v y := fun v x y ⟨g, e, h⟩ hE => ⟨g, e, by
  have hlt : g < x.heap.size := by
    rcases Nat.lt_or_ge g x.heap.size with hl | hl
    · exact hl
    · rw [Array.getElem?_eq_none hl] at h; cases h
  exact (hE.block g hlt).trans h⟩
def spans (R : List (Nat × Nat)) : List (Nat → Bool) := R.map fun p => spanS (p.1 : Int) (p.2 : Int) 256
theorem spans_take {R : List (Nat × Nat)} {k : Nat} {p : Nat × Nat} (h : R[k]? = some p) : spans (R.take (k + 1)) = spans (R.take k) ++ [spanS (p.1 : Int) (p.2 : Int) 256] := by
  unfold spans; rw [List.take_add_one, h]; simp
def rsum (R : List (Nat × Nat)) : Nat := (R.map fun p => p.2 + 1 - p.1).sum
theorem rsum_take {R : List (Nat × Nat)} {k : Nat} {p : Nat × Nat} (h : R[k]? = some p) : rsum (R.take (k + 1)) = rsum (R.take k) + (p.2 + 1 - p.1) := by
  unfold rsum; rw [List.take_add_one, h]; simp
theorem rsum_le {R : List (Nat × Nat)} (h : ∀ p ∈ R, p.2 < 256) : ∀ k, rsum (R.take k) ≤ 256 * k := by
  intro k
  induction k with
  | zero => simp [rsum]
  | succ k ih =>
    cases hk : R[k]? with
    | none =>
      have : R.take (k + 1) = R.take k := by rw [List.take_add_one, hk]; simp
      rw [this]; omega
    | some p =>
      rw [rsum_take hk]
      have := h p (List.mem_of_getElem? hk)
      omega
theorem len_rsum : ∀ {l : List (Nat × Nat)}, (∀ p ∈ l, p.1 ≤ p.2) → l.length ≤ rsum l
  | [], _ => by simp
  | p :: l, hl => by
    have h3 := hl p (by simp)
    have h4 := len_rsum (l := l) (fun q hq => hl q (by simp [hq]))
    have h5 : rsum (p :: l) = (p.2 + 1 - p.1) + rsum l := by simp [rsum]
    rw [h5, List.length_cons]; omega
theorem spans_all {S : Nat → Bool} {R : List (Nat × Nat)} (h : RunInv S 256 R) : SameSet (anyS (spans R)) S := fun x hx => by
  have hm := h.mem x hx
  unfold anyS spans
  rw [List.any_map, Bool.eq_iff_iff, List.any_eq_true, hm]
  constructor
  · rintro ⟨p, hp, h1⟩
    simp [spanS, hx] at h1
    exact ⟨p, hp, by omega, by omega⟩
  · rintro ⟨p, hp, h1, h2⟩
    exact ⟨p, hp, by simp [spanS, hx]; omega⟩
theorem infoSet : (Tryd.prog.info? 24).map (fun i => (i.zero, i.size, i.bytes)) = some (some (.agg #[.int .u64 0, .int .u64 0, .int .u64 0, .int .u64 0]), 4, 32) := by kernel_rfl
attribute [local go_sem ↓] eqS_eq eqS_eq' eqR_eq eqR_eq'
set_option maxHeartbeats 8000000 in
theorem back_any (w : World) (S : Nat → Bool) (hT : TabT w) :
    Calls Tryd.prog 4 #[setV S] w fun e w' => e = .returned (.bool true) ∧ Below w.heap.size w w' := by
  have h1 : SetAt (w.alloc (.cells #[.int .u64 (wd S 0), .int .u64 (wd S 1), .int .u64 (wd S 2), .int .u64 (wd S 3)] 24)) w.heap.size S := heap_alloc_new w _
  have hb : Below w.heap.size w (w.alloc (.cells #[.int .u64 (wd S 0), .int .u64 (wd S 1), .int .u64 (wd S 2), .int .u64 (wd S 3)] 24)) := (Below.refl _ _).alloc (Nat.le_refl _) _
  have HRU := Lib.hid (runs_any S _ (hT.below hb))
  have HINV := Lib.hid (run_inv S 256)
  have HBX := Lib.hid h1
  have HB0 := Lib.hid hb
  have HT := Lib.hid hT
  obtain ⟨i0, hii, hz0, hz1, hz2⟩ := info_parts infoSet
  have hm := bytesL_cnt S 256
  have HBY0 := Lib.hid fun X (hX : TabT X) => bytes_any S X hX
  have HC := Lib.hid fun w' => count_any S w'
  obtain ⟨m, hm2⟩ : ∃ m, cntS S 256 = m := ⟨_, rfl⟩
  rw [hm2] at hm HC
  have HSUM : Hid (rsum (runsF (bytesL S 256)) = m) := Lib.hid (by rw [← hm2]; exact HINV.out.sum)
  generalize runsF (bytesL S 256) = R at HRU HINV HSUM
  generalize bytesL S 256 = L at HBY0 hm
  have HM := Lib.hid hm
  have HMC := Lib.hid (cntS_le S 256)
  rw [hm2] at HMC
  unfold setV at HRU HBY0 HC ⊢
  clear h1 hb hT hm hm2
  go_enter Tryd.func4, Tryd.ntmps4
  go_wp2_with fail
  refine HRU.out.mono ?_
  rintro e w2 ⟨v3, rfl, hown, hb2⟩
  obtain ⟨A3, c, rfl, hnc, hcm⟩ := own_form hown
  have HB2 := Lib.hid (HB0.out.trans (hb2.mono (by simp)))
  have HBX2 : Hid (SetAt w2 w.heap.size S) := Lib.hid (HBX.out.below hb2 (by simp))
  have HRO := Lib.hid hown
  have HRL : Hid (R.length ≤ 256) := Lib.hid (by
    have h1 := len_rsum (fun p hp => (HINV.out.ord p hp).1)
    have h2 := HSUM.out
    have h3 := HMC.out
    omega)
  obtain ⟨n, hn⟩ : ∃ n, R.length = n := ⟨_, rfl⟩
  have HN := Lib.hid hn
  rw [hn] at HRO hnc HRL ⊢
  obtain ⟨G, hG⟩ : ∃ G, w2.heap.size = G := ⟨_, rfl⟩
  have HG := Lib.hid hG
  have HO0 : Hid ((w2.alloc (.cells #[] 24)).ownsRow G 24 4 (.slice (some ⟨G, 0, none⟩) 0 0) 0 []) := Lib.hid (by
    have h := World.ownsRow_made (base := G) (e := 24) (size := 4) w2 #[] 0 (Nat.le_of_eq hG.symm) (by decide) (by simp)
    rwa [hG] at h)
  have HBG : Hid (Below G w2 (w2.alloc (.cells #[] 24))) := Lib.hid (by rw [← hG]; exact (Below.refl _ _).alloc (Nat.le_refl _) _)
  have HWG : Hid (w.heap.size ≤ G ∧ w.heap.size < G) := Lib.hid (by
    have := HBX2.out.lt; rw [hG] at this; exact ⟨by omega, this⟩)
  clear hown hb2 hn
  go_wp2
  clear hG
  go_loopw [4, 5, 6] (fun v nn i wr => ∃ k : Nat, k ≤ n ∧ i = .int .i64 (k : Int) ∧ nn = .int .i64 (rsum (R.take k) : Int) ∧ wr.ownsRow G 24 4 v k ((spans (R.take k)).flatMap setC) ∧ Below G w2 wr) (fun _ _ i _ => n - (intOf i).toNat)
  case atStart => exact ⟨0, by omega, rfl, rfl, HO0.out, HBG.out⟩
  case round =>
    obtain ⟨k, hk, rfl, rfl, hown, hbw⟩ := hrel
    clear HO0 HBG
    have HO := Lib.hid hown
    have HB := Lib.hid hbw
    have hgl : G ≤ wr.heap.size := by have := HG.out; have := hbw.size; omega
    clear hown hbw
    by_cases hlt : k < n
    · obtain ⟨p, hp⟩ : ∃ p, R[k]? = some p := ⟨_, List.getElem?_eq_getElem (by have := HN.out; omega)⟩
      obtain ⟨b, rfl, hbg, hbs, hcells⟩ := own_at HRO.out (by omega)
      have hbG : b < G := by have := HG.out; omega
      have HPO := Lib.hid (HINV.out.ord p (List.mem_of_getElem? hp))
      have HST := Lib.hid (spans_take hp)
      have HRS := Lib.hid (rsum_take hp)
      have HRB := Lib.hid (rsum_le (R := R) (fun q hq => (HINV.out.ord q hq).2) k)
      have HGAP := Lib.hid fun (q : Nat × Nat) (kp : Nat) (hkp : kp + 1 = k) (hq : R[kp]? = some q) => HINV.out.gap kp q p hq (by rw [hkp]; exact hp)
      have HKEEP : Hid (∀ i u, (R.flatMap rn2)[i]? = some u → wr.cell? ⟨b, i, none⟩ = some u) := Lib.hid (fun i u hu => (HB.out.cell (p := ⟨b, i, none⟩) (by show b < G; exact hbG)).trans (hcells i u hu))
      obtain ⟨p1, p2⟩ := p
      dsimp only at HPO HST HRS HGAP
      have cp1 : wr.drew.cell? ⟨b, k * 2, none⟩ = some (.int .i64 (p1 : Int)) := HKEEP.out _ _ (flat_get rn2_len R k (p1, p2) hp 0 _ rfl)
      have cp2 : wr.drew.cell? ⟨b, k * 2 + 1, none⟩ = some (.int .i64 (p2 : Int)) := HKEEP.out _ _ (flat_get rn2_len R k (p1, p2) hp 1 _ rfl)
      have CP1 := Lib.hid cp1
      have CP2 := Lib.hid cp2
      have h0 : (0 : Int) ≤ (k : Int) := by omega
      have h1 : (k : Int) < (n : Int) := by omega
      have hle := HPO.out.1
      have h256 := HPO.out.2
      have hgt : decide ((p2 : Int) < (p1 : Int)) = false := decide_eq_false (by omega)
      have HSPAN0 := fun w' => bspan_any (p1 : Int) (p2 : Int) w'
      unfold setV at HSPAN0
      have HSPAN := Lib.hid HSPAN0
      have hn256 := HRL.out
      have hrs := HRB.out
      obtain ⟨rs, hrs2⟩ : ∃ rs, rsum (R.take k) = rs := ⟨_, rfl⟩
      rw [hrs2] at HRS hrs ⊢
      clear hrs2 HRB
      clear hcells HSPAN0
      by_cases hk0 : k = 0
      case' pos =>
        have j1 : ¬ 0 < k := by omega
        have j2 : decide (0 < k) = false := decide_eq_false j1
        clear hp hk0
        go_wp2_with fail
        refine wp_region_fam_lit (E := Onto)
          [isV (.slice (some ⟨b, 0, none⟩) n c),
           isV (.int .i64 (k : Int)),
           isV (.pointer (some ⟨b, k * 2, none⟩)),
           isV (.pointer (some ⟨b, k * 2, none⟩)),
           isV (.int .i64 (p1 : Int)),
           isV (.slice (some ⟨b, 0, none⟩) n c),
           isV (.int .i64 (k : Int)),
           isV (.pointer (some ⟨b, k * 2, none⟩)),
           isV (.pointer (some ⟨b, k * 2 + 1, none⟩)),
           isV (.int .i64 (p2 : Int)),
           isV (.bool false),
           isV (.bool false),
           isV (.int .i64 (k : Int)),
           isV (.bool false),
           isV (.bool false),
           isV undef,
           isV undef,
           isV undef,
           isV undef,
           isV undef,
           isV undef,
           isV undef,
           isV undef,
           isV undef,
           isV undef,
           isV undef,
           isV undef,
           isV undef,
           isV (.bool false),
           isV (.bool false)]
          [some 16, some 17, some 18, some 19, some 20, some 21, some 22, some 23, some 24, some 25, some 26, some 27, some 28, some 29, some 30, some 31, some 32, some 33, some 34, some 35, some 36, some 37, some 38, some 39, some 40, some 41, some 42, some 43, some 44, some 45] (by kernel_rfl) rfl (by kernel_rfl) rfl Onto.trans Onto.refl ?monoZ ?obZ ?qZ
        case monoZ => exact ⟨isV_mono _ _, isV_mono _ _, isV_mono _ _, isV_mono _ _, isV_mono _ _, isV_mono _ _, isV_mono _ _, isV_mono _ _, isV_mono _ _, isV_mono _ _, isV_mono _ _, isV_mono _ _, isV_mono _ _, isV_mono _ _, isV_mono _ _, isV_mono _ _, isV_mono _ _, isV_mono _ _, isV_mono _ _, isV_mono _ _, isV_mono _ _, isV_mono _ _, isV_mono _ _, isV_mono _ _, isV_mono _ _, isV_mono _ _, isV_mono _ _, isV_mono _ _, isV_mono _ _, isV_mono _ _, trivial⟩
        case obZ =>
          refine Obs.cons (j := 1) rfl ?_ ?_
          · refine Ob.free [(3, none)] (by kernel_rfl) (isV (.slice (some ⟨b, 0, none⟩) n c)) rfl rfl (fun a X hE hL => ?_)
            simp [Seen, slotAt] at hL
            have h3 := hL
            rw [relAt_eq]
            go_simp
            exact ⟨Onto.refl _, rfl⟩
          refine Obs.cons (j := 2) rfl ?_ ?_
          · refine Ob.free [(6, none)] (by kernel_rfl) (isV (.int .i64 (k : Int))) rfl rfl (fun a X hE hL => ?_)
            simp [Seen, slotAt] at hL
            have h6 := hL
            rw [relAt_eq]
            go_simp
            exact ⟨Onto.refl _, rfl⟩
          refine Obs.cons (j := 3) rfl ?_ ?_
          · refine Ob.free [(16, some 0), (17, some 1)] (by kernel_rfl) (isV (.pointer (some ⟨b, k * 2, none⟩))) rfl rfl (fun a X hE hL => ?_)
            simp [Seen, slotAt, famV, isV] at hL
            obtain ⟨h16, h17⟩ := hL
            rw [relAt_eq]
            go_simp
            exact ⟨Onto.refl _, rfl⟩
          refine Obs.cons (j := 4) rfl ?_ ?_
          · refine Ob.free [(18, some 2)] (by kernel_rfl) (isV (.pointer (some ⟨b, k * 2, none⟩))) rfl rfl (fun a X hE hL => ?_)
            simp [Seen, slotAt, famV, isV] at hL
            have h18 := hL
            rw [relAt_eq]
            go_simp
            exact ⟨Onto.refl _, rfl⟩
          refine Obs.cons (j := 5) rfl ?_ ?_
          · refine Ob.free [(19, some 3)] (by kernel_rfl) (isV (.int .i64 (p1 : Int))) rfl rfl (fun a X hE hL => ?_)
            simp [Seen, slotAt, famV, isV] at hL
            have h19 := hL
            rw [relAt_eq]
            have f0 := keeps hE _ _ cp1
            go_simp
            exact ⟨Onto.refl _, rfl⟩
          refine Obs.cons (j := 6) rfl ?_ ?_
          · refine Ob.free [(3, none)] (by kernel_rfl) (isV (.slice (some ⟨b, 0, none⟩) n c)) rfl rfl (fun a X hE hL => ?_)
            simp [Seen, slotAt] at hL
            have h3 := hL
            rw [relAt_eq]
            go_simp
            exact ⟨Onto.refl _, rfl⟩
          refine Obs.cons (j := 7) rfl ?_ ?_
          · refine Ob.free [(6, none)] (by kernel_rfl) (isV (.int .i64 (k : Int))) rfl rfl (fun a X hE hL => ?_)
            simp [Seen, slotAt] at hL
            have h6 := hL
            rw [relAt_eq]
            go_simp
            exact ⟨Onto.refl _, rfl⟩
          refine Obs.cons (j := 8) rfl ?_ ?_
          · refine Ob.free [(21, some 5), (22, some 6)] (by kernel_rfl) (isV (.pointer (some ⟨b, k * 2, none⟩))) rfl rfl (fun a X hE hL => ?_)
            simp [Seen, slotAt, famV, isV] at hL
            obtain ⟨h21, h22⟩ := hL
            rw [relAt_eq]
            go_simp
            exact ⟨Onto.refl _, rfl⟩
          refine Obs.cons (j := 9) rfl ?_ ?_
          · refine Ob.free [(23, some 7)] (by kernel_rfl) (isV (.pointer (some ⟨b, k * 2 + 1, none⟩))) rfl rfl (fun a X hE hL => ?_)
            simp [Seen, slotAt, famV, isV] at hL
            have h23 := hL
            rw [relAt_eq]
            go_simp
            exact ⟨Onto.refl _, rfl⟩
          refine Obs.cons (j := 10) rfl ?_ ?_
          · refine Ob.free [(24, some 8)] (by kernel_rfl) (isV (.int .i64 (p2 : Int))) rfl rfl (fun a X hE hL => ?_)
            simp [Seen, slotAt, famV, isV] at hL
            have h24 := hL
            rw [relAt_eq]
            have f0 := keeps hE _ _ cp2
            go_simp
            exact ⟨Onto.refl _, rfl⟩
          refine Obs.cons (j := 11) rfl ?_ ?_
          · refine Ob.free [(20, some 4), (25, some 9)] (by kernel_rfl) (isV (.bool false)) rfl rfl (fun a X hE hL => ?_)
            simp [Seen, slotAt, famV, isV] at hL
            obtain ⟨h20, h25⟩ := hL
            rw [relAt_eq]
            go_simp
            exact ⟨Onto.refl _, congrArg Value.bool (decide_eq_false (by omega))⟩
          refine Obs.cons (j := 12) rfl ?_ ?_
          · refine Ob.free [(26, some 10)] (by kernel_rfl) (isV (.bool false)) rfl rfl (fun a X hE hL => ?_)
            simp [Seen, slotAt, famV, isV] at hL
            have h26 := hL
            rw [relAt_eq]
            go_simp
            exact ⟨Onto.refl _, rfl⟩
          refine Obs.cons (j := 13) rfl ?_ ?_
          · refine Ob.guarded [(6, none), (27, some 11)] (by kernel_rfl) (isV (.int .i64 (k : Int))) rfl 11 false 27 rfl rfl (fun a X hE hL => ?_)
            simp [Seen, slotAt, famV, isV] at hL
            obtain ⟨h6, h27⟩ := hL
            refine ⟨by simpa using h27, ?_⟩
            clear h27
            rw [relAt_eq]
            go_simp
            exact ⟨Onto.refl _, rfl⟩
          refine Obs.cons (j := 14) rfl ?_ ?_
          · refine Ob.guarded [(28, some 12), (27, some 11)] (by kernel_rfl) (isV (.bool false)) rfl 11 false 27 rfl rfl (fun a X hE hL => ?_)
            simp [Seen, slotAt, famV, isV] at hL
            obtain ⟨h28, h27⟩ := hL
            refine ⟨by simpa using h27, ?_⟩
            clear h27
            rw [relAt_eq]
            go_simp
            exact ⟨Onto.refl _, rfl⟩
          refine Obs.cons (j := 15) rfl ?_ ?_
          · refine Ob.guarded [(29, some 13), (27, some 11)] (by kernel_rfl) (isV (.bool false)) rfl 11 false 27 rfl rfl (fun a X hE hL => ?_)
            simp [Seen, slotAt, famV, isV] at hL
            obtain ⟨h29, h27⟩ := hL
            refine ⟨by simpa using h27, ?_⟩
            clear h27
            rw [relAt_eq]
            go_simp
            exact ⟨Onto.refl _, rfl⟩
          refine Obs.cons (j := 16) rfl ?_ ?_
          · refine Ob.skip [(3, none), (30, some 14)] (by kernel_rfl) rfl 14 true 30 rfl rfl (fun a X hE hL => ?_)
            simp [Seen, slotAt, famV, isV] at hL
            obtain ⟨h3, h30⟩ := hL
            simpa using h30
          refine Obs.cons (j := 17) rfl ?_ ?_
          · refine Ob.skip [(6, none), (30, some 14)] (by kernel_rfl) rfl 14 true 30 rfl rfl (fun a X hE hL => ?_)
            simp [Seen, slotAt, famV, isV] at hL
            obtain ⟨h6, h30⟩ := hL
            simpa using h30
          refine Obs.cons (j := 18) rfl ?_ ?_
          · refine Ob.skip [(31, some 15), (32, some 16), (30, some 14)] (by kernel_rfl) rfl 14 true 30 rfl rfl (fun a X hE hL => ?_)
            simp [Seen, slotAt, famV, isV] at hL
            obtain ⟨h31, h32, h30⟩ := hL
            simpa using h30
          refine Obs.cons (j := 19) rfl ?_ ?_
          · refine Ob.skip [(33, some 17), (30, some 14)] (by kernel_rfl) rfl 14 true 30 rfl rfl (fun a X hE hL => ?_)
            simp [Seen, slotAt, famV, isV] at hL
            obtain ⟨h33, h30⟩ := hL
            simpa using h30
          refine Obs.cons (j := 20) rfl ?_ ?_
          · refine Ob.skip [(34, some 18), (30, some 14)] (by kernel_rfl) rfl 14 true 30 rfl rfl (fun a X hE hL => ?_)
            simp [Seen, slotAt, famV, isV] at hL
            obtain ⟨h34, h30⟩ := hL
            simpa using h30
          refine Obs.cons (j := 21) rfl ?_ ?_
          · refine Ob.skip [(3, none), (30, some 14)] (by kernel_rfl) rfl 14 true 30 rfl rfl (fun a X hE hL => ?_)
            simp [Seen, slotAt, famV, isV] at hL
            obtain ⟨h3, h30⟩ := hL
            simpa using h30
          refine Obs.cons (j := 22) rfl ?_ ?_
          · refine Ob.skip [(6, none), (30, some 14)] (by kernel_rfl) rfl 14 true 30 rfl rfl (fun a X hE hL => ?_)
            simp [Seen, slotAt, famV, isV] at hL
            obtain ⟨h6, h30⟩ := hL
            simpa using h30
          refine Obs.cons (j := 23) rfl ?_ ?_
          · refine Ob.skip [(37, some 21), (30, some 14)] (by kernel_rfl) rfl 14 true 30 rfl rfl (fun a X hE hL => ?_)
            simp [Seen, slotAt, famV, isV] at hL
            obtain ⟨h37, h30⟩ := hL
            simpa using h30
          refine Obs.cons (j := 24) rfl ?_ ?_
          · refine Ob.skip [(36, some 20), (38, some 22), (30, some 14)] (by kernel_rfl) rfl 14 true 30 rfl rfl (fun a X hE hL => ?_)
            simp [Seen, slotAt, famV, isV] at hL
            obtain ⟨h36, h38, h30⟩ := hL
            simpa using h30
          refine Obs.cons (j := 25) rfl ?_ ?_
          · refine Ob.skip [(39, some 23), (30, some 14)] (by kernel_rfl) rfl 14 true 30 rfl rfl (fun a X hE hL => ?_)
            simp [Seen, slotAt, famV, isV] at hL
            obtain ⟨h39, h30⟩ := hL
            simpa using h30
          refine Obs.cons (j := 26) rfl ?_ ?_
          · refine Ob.skip [(40, some 24), (30, some 14)] (by kernel_rfl) rfl 14 true 30 rfl rfl (fun a X hE hL => ?_)
            simp [Seen, slotAt, famV, isV] at hL
            obtain ⟨h40, h30⟩ := hL
            simpa using h30
          refine Obs.cons (j := 27) rfl ?_ ?_
          · refine Ob.skip [(41, some 25), (30, some 14)] (by kernel_rfl) rfl 14 true 30 rfl rfl (fun a X hE hL => ?_)
            simp [Seen, slotAt, famV, isV] at hL
            obtain ⟨h41, h30⟩ := hL
            simpa using h30
          refine Obs.cons (j := 28) rfl ?_ ?_
          · refine Ob.skip [(35, some 19), (42, some 26), (30, some 14)] (by kernel_rfl) rfl 14 true 30 rfl rfl (fun a X hE hL => ?_)
            simp [Seen, slotAt, famV, isV] at hL
            obtain ⟨h35, h42, h30⟩ := hL
            simpa using h30
          refine Obs.cons (j := 29) rfl ?_ ?_
          · refine Ob.guarded [(30, some 14), (43, some 27), (27, some 11)] (by kernel_rfl) (isV (.bool false)) rfl 11 false 27 rfl rfl (fun a X hE hL => ?_)
            simp [Seen, slotAt, famV, isV] at hL
            obtain ⟨h30, h43, h27⟩ := hL
            refine ⟨by simpa using h27, ?_⟩
            clear h27
            rw [relAt_eq]
            go_simp
            exact ⟨Onto.refl _, rfl⟩
          refine Obs.cons (j := 30) rfl ?_ ?_
          · refine Ob.free [(27, some 11), (44, some 28)] (by kernel_rfl) (isV (.bool false)) rfl rfl (fun a X hE hL => ?_)
            simp [Seen, slotAt, famV, isV] at hL
            obtain ⟨h27, h44⟩ := hL
            rw [relAt_eq]
            go_simp
            exact ⟨Onto.refl _, rfl⟩
          exact trivial
        case' qZ =>
          intro x wq hE hV
          simp [AllV, famV, isV] at hV
          obtain ⟨-, -, -, -, -, -, -, -, -, -, -, -, -, -, -, -, -, -, -, -, -, -, -, -, -, -, -, -, -, h45⟩ := hV
          simp only [puts, Act.put, List.setIfInBounds_toArray, List.set_cons_zero, List.set_cons_succ, h45]
          generalize x 16 = y16
          generalize x 17 = y17
          generalize x 18 = y18
          generalize x 19 = y19
          generalize x 20 = y20
          generalize x 21 = y21
          generalize x 22 = y22
          generalize x 23 = y23
          generalize x 24 = y24
          generalize x 25 = y25
          generalize x 26 = y26
          generalize x 27 = y27
          generalize x 28 = y28
          generalize x 29 = y29
          generalize x 30 = y30
          generalize x 31 = y31
          generalize x 32 = y32
          generalize x 33 = y33
          generalize x 34 = y34
          generalize x 35 = y35
          generalize x 36 = y36
          generalize x 37 = y37
          generalize x 38 = y38
          generalize x 39 = y39
          generalize x 40 = y40
          generalize x 41 = y41
          generalize x 42 = y42
          generalize x 43 = y43
          generalize x 44 = y44
          clear h45
          have HBQ := Lib.hid (HB.out.trans ((onto_drew hE).mono hgl))
          have HOQ := Lib.hid (ownB HO.out (onto_drew hE))
          have hgq : G ≤ wq.heap.size := by have := (onto_drew hE).size; omega
          have cp1 : wq.drew.cell? _ = some _ := keeps hE _ _ CP1.out
          have cp2 : wq.drew.cell? _ = some _ := keeps hE _ _ CP2.out
          clear hE
      case' neg =>
        obtain ⟨kp, hkp⟩ : ∃ kp, kp + 1 = k := ⟨k - 1, by omega⟩
        obtain ⟨q, hq⟩ : ∃ q, R[kp]? = some q := ⟨_, List.getElem?_eq_getElem (by have := HN.out; omega)⟩
        have hgap := HGAP.out q kp hkp hq
        obtain ⟨q1, q2⟩ := q
        dsimp only at hgap
        have cq2 : wr.drew.cell? ⟨b, kp * 2 + 1, none⟩ = some (.int .i64 (q2 : Int)) := HKEEP.out _ _ (flat_get rn2_len R kp (q1, q2) hq 1 _ rfl)
        have HKP : Hid (IntKind.i64.wrap ((k : Int) - 1) = (kp : Int)) := Lib.hid (by rw [show (k : Int) - 1 = (kp : Int) by omega]; exact IntWalk.i64_in _ ⟨by omega, by omega⟩)
        have hlt2 : decide ((p1 : Int) < (q2 : Int) + 2) = false := decide_eq_false (by omega)
        have j1 : 0 < k := by omega
        have j2 : decide (0 < k) = true := decide_eq_true j1
        have g0 : (0 : Int) ≤ (kp : Int) := by omega
        have g1 : (kp : Int) < (n : Int) := by omega
        have HQ2 : Hid (IntKind.i64.wrap ((q2 : Int) + 2) = (q2 : Int) + 2) := Lib.hid (by have := (HINV.out.ord (q1, q2) (List.mem_of_getElem? hq)).2; exact IntWalk.i64_in _ ⟨by omega, by omega⟩)
        have gq : q2 < 256 := (HINV.out.ord (q1, q2) (List.mem_of_getElem? hq)).2
        clear hp hk0 hq hkp
        go_wp2_with fail
        refine wp_region_fam_lit (E := Onto)
          [isV (.slice (some ⟨b, 0, none⟩) n c),
           isV (.int .i64 (k : Int)),
           isV (.pointer (some ⟨b, k * 2, none⟩)),
           isV (.pointer (some ⟨b, k * 2, none⟩)),
           isV (.int .i64 (p1 : Int)),
           isV (.slice (some ⟨b, 0, none⟩) n c),
           isV (.int .i64 (k : Int)),
           isV (.pointer (some ⟨b, k * 2, none⟩)),
           isV (.pointer (some ⟨b, k * 2 + 1, none⟩)),
           isV (.int .i64 (p2 : Int)),
           isV (.bool false),
           isV (.bool false),
           isV (.int .i64 (k : Int)),
           isV (.bool true),
           isV (.bool true),
           isV (.slice (some ⟨b, 0, none⟩) n c),
           isV (.int .i64 (k : Int)),
           isV (.pointer (some ⟨b, k * 2, none⟩)),
           isV (.pointer (some ⟨b, k * 2, none⟩)),
           isV (.int .i64 (p1 : Int)),
           isV (.slice (some ⟨b, 0, none⟩) n c),
           isV (.int .i64 (k : Int)),
           isV (.int .i64 (kp : Int)),
           isV (.pointer (some ⟨b, kp * 2, none⟩)),
           isV (.pointer (some ⟨b, kp * 2 + 1, none⟩)),
           isV (.int .i64 (q2 : Int)),
           isV (.int .i64 ((q2 : Int) + 2)),
           isV (.bool false),
           isV (.bool false),
           isV (.bool false)]
          [some 16, some 17, some 18, some 19, some 20, some 21, some 22, some 23, some 24, some 25, some 26, some 27, some 28, some 29, some 30, some 31, some 32, some 33, some 34, some 35, some 36, some 37, some 38, some 39, some 40, some 41, some 42, some 43, some 44, some 45] (by kernel_rfl) rfl (by kernel_rfl) rfl Onto.trans Onto.refl ?monoP ?obP ?qP
        case monoP => exact ⟨isV_mono _ _, isV_mono _ _, isV_mono _ _, isV_mono _ _, isV_mono _ _, isV_mono _ _, isV_mono _ _, isV_mono _ _, isV_mono _ _, isV_mono _ _, isV_mono _ _, isV_mono _ _, isV_mono _ _, isV_mono _ _, isV_mono _ _, isV_mono _ _, isV_mono _ _, isV_mono _ _, isV_mono _ _, isV_mono _ _, isV_mono _ _, isV_mono _ _, isV_mono _ _, isV_mono _ _, isV_mono _ _, isV_mono _ _, isV_mono _ _, isV_mono _ _, isV_mono _ _, isV_mono _ _, trivial⟩
        case obP =>
          refine Obs.cons (j := 1) rfl ?_ ?_
          · refine Ob.free [(3, none)] (by kernel_rfl) (isV (.slice (some ⟨b, 0, none⟩) n c)) rfl rfl (fun a X hE hL => ?_)
            simp [Seen, slotAt] at hL
            have h3 := hL
            rw [relAt_eq]
            go_simp
            exact ⟨Onto.refl _, rfl⟩
          refine Obs.cons (j := 2) rfl ?_ ?_
          · refine Ob.free [(6, none)] (by kernel_rfl) (isV (.int .i64 (k : Int))) rfl rfl (fun a X hE hL => ?_)
            simp [Seen, slotAt] at hL
            have h6 := hL
            rw [relAt_eq]
            go_simp
            exact ⟨Onto.refl _, rfl⟩
          refine Obs.cons (j := 3) rfl ?_ ?_
          · refine Ob.free [(16, some 0), (17, some 1)] (by kernel_rfl) (isV (.pointer (some ⟨b, k * 2, none⟩))) rfl rfl (fun a X hE hL => ?_)
            simp [Seen, slotAt, famV, isV] at hL
            obtain ⟨h16, h17⟩ := hL
            rw [relAt_eq]
            go_simp
            exact ⟨Onto.refl _, rfl⟩
          refine Obs.cons (j := 4) rfl ?_ ?_
          · refine Ob.free [(18, some 2)] (by kernel_rfl) (isV (.pointer (some ⟨b, k * 2, none⟩))) rfl rfl (fun a X hE hL => ?_)
            simp [Seen, slotAt, famV, isV] at hL
            have h18 := hL
            rw [relAt_eq]
            go_simp
            exact ⟨Onto.refl _, rfl⟩
          refine Obs.cons (j := 5) rfl ?_ ?_
          · refine Ob.free [(19, some 3)] (by kernel_rfl) (isV (.int .i64 (p1 : Int))) rfl rfl (fun a X hE hL => ?_)
            simp [Seen, slotAt, famV, isV] at hL
            have h19 := hL
            rw [relAt_eq]
            have f0 := keeps hE _ _ cp1
            go_simp
            exact ⟨Onto.refl _, rfl⟩
          refine Obs.cons (j := 6) rfl ?_ ?_
          · refine Ob.free [(3, none)] (by kernel_rfl) (isV (.slice (some ⟨b, 0, none⟩) n c)) rfl rfl (fun a X hE hL => ?_)
            simp [Seen, slotAt] at hL
            have h3 := hL
            rw [relAt_eq]
            go_simp
            exact ⟨Onto.refl _, rfl⟩
          refine Obs.cons (j := 7) rfl ?_ ?_
          · refine Ob.free [(6, none)] (by kernel_rfl) (isV (.int .i64 (k : Int))) rfl rfl (fun a X hE hL => ?_)
            simp [Seen, slotAt] at hL
            have h6 := hL
            rw [relAt_eq]
            go_simp
            exact ⟨Onto.refl _, rfl⟩
          refine Obs.cons (j := 8) rfl ?_ ?_
          · refine Ob.free [(21, some 5), (22, some 6)] (by kernel_rfl) (isV (.pointer (some ⟨b, k * 2, none⟩))) rfl rfl (fun a X hE hL => ?_)
            simp [Seen, slotAt, famV, isV] at hL
            obtain ⟨h21, h22⟩ := hL
            rw [relAt_eq]
            go_simp
            exact ⟨Onto.refl _, rfl⟩
          refine Obs.cons (j := 9) rfl ?_ ?_
          · refine Ob.free [(23, some 7)] (by kernel_rfl) (isV (.pointer (some ⟨b, k * 2 + 1, none⟩))) rfl rfl (fun a X hE hL => ?_)
            simp [Seen, slotAt, famV, isV] at hL
            have h23 := hL
            rw [relAt_eq]
            go_simp
            exact ⟨Onto.refl _, rfl⟩
          refine Obs.cons (j := 10) rfl ?_ ?_
          · refine Ob.free [(24, some 8)] (by kernel_rfl) (isV (.int .i64 (p2 : Int))) rfl rfl (fun a X hE hL => ?_)
            simp [Seen, slotAt, famV, isV] at hL
            have h24 := hL
            rw [relAt_eq]
            have f0 := keeps hE _ _ cp2
            go_simp
            exact ⟨Onto.refl _, rfl⟩
          refine Obs.cons (j := 11) rfl ?_ ?_
          · refine Ob.free [(20, some 4), (25, some 9)] (by kernel_rfl) (isV (.bool false)) rfl rfl (fun a X hE hL => ?_)
            simp [Seen, slotAt, famV, isV] at hL
            obtain ⟨h20, h25⟩ := hL
            rw [relAt_eq]
            go_simp
            exact ⟨Onto.refl _, congrArg Value.bool (decide_eq_false (by omega))⟩
          refine Obs.cons (j := 12) rfl ?_ ?_
          · refine Ob.free [(26, some 10)] (by kernel_rfl) (isV (.bool false)) rfl rfl (fun a X hE hL => ?_)
            simp [Seen, slotAt, famV, isV] at hL
            have h26 := hL
            rw [relAt_eq]
            go_simp
            exact ⟨Onto.refl _, rfl⟩
          refine Obs.cons (j := 13) rfl ?_ ?_
          · refine Ob.guarded [(6, none), (27, some 11)] (by kernel_rfl) (isV (.int .i64 (k : Int))) rfl 11 false 27 rfl rfl (fun a X hE hL => ?_)
            simp [Seen, slotAt, famV, isV] at hL
            obtain ⟨h6, h27⟩ := hL
            refine ⟨by simpa using h27, ?_⟩
            clear h27
            rw [relAt_eq]
            go_simp
            exact ⟨Onto.refl _, rfl⟩
          refine Obs.cons (j := 14) rfl ?_ ?_
          · refine Ob.guarded [(28, some 12), (27, some 11)] (by kernel_rfl) (isV (.bool true)) rfl 11 false 27 rfl rfl (fun a X hE hL => ?_)
            simp [Seen, slotAt, famV, isV] at hL
            obtain ⟨h28, h27⟩ := hL
            refine ⟨by simpa using h27, ?_⟩
            clear h27
            rw [relAt_eq]
            go_simp
            exact ⟨Onto.refl _, rfl⟩
          refine Obs.cons (j := 15) rfl ?_ ?_
          · refine Ob.guarded [(29, some 13), (27, some 11)] (by kernel_rfl) (isV (.bool true)) rfl 11 false 27 rfl rfl (fun a X hE hL => ?_)
            simp [Seen, slotAt, famV, isV] at hL
            obtain ⟨h29, h27⟩ := hL
            refine ⟨by simpa using h27, ?_⟩
            clear h27
            rw [relAt_eq]
            go_simp
            exact ⟨Onto.refl _, rfl⟩
          refine Obs.cons (j := 16) rfl ?_ ?_
          · refine Ob.guarded [(3, none), (30, some 14)] (by kernel_rfl) (isV (.slice (some ⟨b, 0, none⟩) n c)) rfl 14 true 30 rfl rfl (fun a X hE hL => ?_)
            simp [Seen, slotAt, famV, isV] at hL
            obtain ⟨h3, h30⟩ := hL
            refine ⟨by simpa using h30, ?_⟩
            clear h30
            rw [relAt_eq]
            go_simp
            exact ⟨Onto.refl _, rfl⟩
          refine Obs.cons (j := 17) rfl ?_ ?_
          · refine Ob.guarded [(6, none), (30, some 14)] (by kernel_rfl) (isV (.int .i64 (k : Int))) rfl 14 true 30 rfl rfl (fun a X hE hL => ?_)
            simp [Seen, slotAt, famV, isV] at hL
            obtain ⟨h6, h30⟩ := hL
            refine ⟨by simpa using h30, ?_⟩
            clear h30
            rw [relAt_eq]
            go_simp
            exact ⟨Onto.refl _, rfl⟩
          refine Obs.cons (j := 18) rfl ?_ ?_
          · refine Ob.guarded [(31, some 15), (32, some 16), (30, some 14)] (by kernel_rfl) (isV (.pointer (some ⟨b, k * 2, none⟩))) rfl 14 true 30 rfl rfl (fun a X hE hL => ?_)
            simp [Seen, slotAt, famV, isV] at hL
            obtain ⟨h31, h32, h30⟩ := hL
            refine ⟨by simpa using h30, ?_⟩
            clear h30
            rw [relAt_eq]
            go_simp
            exact ⟨Onto.refl _, rfl⟩
          refine Obs.cons (j := 19) rfl ?_ ?_
          · refine Ob.guarded [(33, some 17), (30, some 14)] (by kernel_rfl) (isV (.pointer (some ⟨b, k * 2, none⟩))) rfl 14 true 30 rfl rfl (fun a X hE hL => ?_)
            simp [Seen, slotAt, famV, isV] at hL
            obtain ⟨h33, h30⟩ := hL
            refine ⟨by simpa using h30, ?_⟩
            clear h30
            rw [relAt_eq]
            go_simp
            exact ⟨Onto.refl _, rfl⟩
          refine Obs.cons (j := 20) rfl ?_ ?_
          · refine Ob.guarded [(34, some 18), (30, some 14)] (by kernel_rfl) (isV (.int .i64 (p1 : Int))) rfl 14 true 30 rfl rfl (fun a X hE hL => ?_)
            simp [Seen, slotAt, famV, isV] at hL
            obtain ⟨h34, h30⟩ := hL
            refine ⟨by simpa using h30, ?_⟩
            clear h30
            rw [relAt_eq]
            have f0 := keeps hE _ _ cp1
            go_simp
            exact ⟨Onto.refl _, rfl⟩
          refine Obs.cons (j := 21) rfl ?_ ?_
          · refine Ob.guarded [(3, none), (30, some 14)] (by kernel_rfl) (isV (.slice (some ⟨b, 0, none⟩) n c)) rfl 14 true 30 rfl rfl (fun a X hE hL => ?_)
            simp [Seen, slotAt, famV, isV] at hL
            obtain ⟨h3, h30⟩ := hL
            refine ⟨by simpa using h30, ?_⟩
            clear h30
            rw [relAt_eq]
            go_simp
            exact ⟨Onto.refl _, rfl⟩
          refine Obs.cons (j := 22) rfl ?_ ?_
          · refine Ob.guarded [(6, none), (30, some 14)] (by kernel_rfl) (isV (.int .i64 (k : Int))) rfl 14 true 30 rfl rfl (fun a X hE hL => ?_)
            simp [Seen, slotAt, famV, isV] at hL
            obtain ⟨h6, h30⟩ := hL
            refine ⟨by simpa using h30, ?_⟩
            clear h30
            rw [relAt_eq]
            go_simp
            exact ⟨Onto.refl _, rfl⟩
          refine Obs.cons (j := 23) rfl ?_ ?_
          · refine Ob.guarded [(37, some 21), (30, some 14)] (by kernel_rfl) (isV (.int .i64 (kp : Int))) rfl 14 true 30 rfl rfl (fun a X hE hL => ?_)
            simp [Seen, slotAt, famV, isV] at hL
            obtain ⟨h37, h30⟩ := hL
            refine ⟨by simpa using h30, ?_⟩
            clear h30
            rw [relAt_eq]
            go_simp
            exact ⟨Onto.refl _, congrArg (Value.int .i64) HKP.out⟩
          refine Obs.cons (j := 24) rfl ?_ ?_
          · refine Ob.guarded [(36, some 20), (38, some 22), (30, some 14)] (by kernel_rfl) (isV (.pointer (some ⟨b, kp * 2, none⟩))) rfl 14 true 30 rfl rfl (fun a X hE hL => ?_)
            simp [Seen, slotAt, famV, isV] at hL
            obtain ⟨h36, h38, h30⟩ := hL
            refine ⟨by simpa using h30, ?_⟩
            clear h30
            rw [relAt_eq]
            go_simp
            exact ⟨Onto.refl _, rfl⟩
          refine Obs.cons (j := 25) rfl ?_ ?_
          · refine Ob.guarded [(39, some 23), (30, some 14)] (by kernel_rfl) (isV (.pointer (some ⟨b, kp * 2 + 1, none⟩))) rfl 14 true 30 rfl rfl (fun a X hE hL => ?_)
            simp [Seen, slotAt, famV, isV] at hL
            obtain ⟨h39, h30⟩ := hL
            refine ⟨by simpa using h30, ?_⟩
            clear h30
            rw [relAt_eq]
            go_simp
            exact ⟨Onto.refl _, rfl⟩
          refine Obs.cons (j := 26) rfl ?_ ?_
          · refine Ob.guarded [(40, some 24), (30, some 14)] (by kernel_rfl) (isV (.int .i64 (q2 : Int))) rfl 14 true 30 rfl rfl (fun a X hE hL => ?_)
            simp [Seen, slotAt, famV, isV] at hL
            obtain ⟨h40, h30⟩ := hL
            refine ⟨by simpa using h30, ?_⟩
            clear h30
            rw [relAt_eq]
            have f0 := keeps hE _ _ cq2
            go_simp
            exact ⟨Onto.refl _, rfl⟩
          refine Obs.cons (j := 27) rfl ?_ ?_
          · refine Ob.guarded [(41, some 25), (30, some 14)] (by kernel_rfl) (isV (.int .i64 ((q2 : Int) + 2))) rfl 14 true 30 rfl rfl (fun a X hE hL => ?_)
            simp [Seen, slotAt, famV, isV] at hL
            obtain ⟨h41, h30⟩ := hL
            refine ⟨by simpa using h30, ?_⟩
            clear h30
            rw [relAt_eq]
            go_simp
            exact ⟨Onto.refl _, congrArg (Value.int .i64) HQ2.out⟩
          refine Obs.cons (j := 28) rfl ?_ ?_
          · refine Ob.guarded [(35, some 19), (42, some 26), (30, some 14)] (by kernel_rfl) (isV (.bool false)) rfl 14 true 30 rfl rfl (fun a X hE hL => ?_)
            simp [Seen, slotAt, famV, isV] at hL
            obtain ⟨h35, h42, h30⟩ := hL
            refine ⟨by simpa using h30, ?_⟩
            clear h30
            rw [relAt_eq]
            go_simp
            exact ⟨Onto.refl _, rfl⟩
          refine Obs.cons (j := 29) rfl ?_ ?_
          · refine Ob.guarded [(30, some 14), (43, some 27), (27, some 11)] (by kernel_rfl) (isV (.bool false)) rfl 11 false 27 rfl rfl (fun a X hE hL => ?_)
            simp [Seen, slotAt, famV, isV] at hL
            obtain ⟨h30, h43, h27⟩ := hL
            refine ⟨by simpa using h27, ?_⟩
            clear h27
            rw [relAt_eq]
            go_simp
            exact ⟨Onto.refl _, rfl⟩
          refine Obs.cons (j := 30) rfl ?_ ?_
          · refine Ob.free [(27, some 11), (44, some 28)] (by kernel_rfl) (isV (.bool false)) rfl rfl (fun a X hE hL => ?_)
            simp [Seen, slotAt, famV, isV] at hL
            obtain ⟨h27, h44⟩ := hL
            rw [relAt_eq]
            go_simp
            exact ⟨Onto.refl _, rfl⟩
          exact trivial
        case' qP =>
          intro x wq hE hV
          simp [AllV, famV, isV] at hV
          obtain ⟨-, -, -, -, -, -, -, -, -, -, -, -, -, -, -, -, -, -, -, -, -, -, -, -, -, -, -, -, -, h45⟩ := hV
          simp only [puts, Act.put, List.setIfInBounds_toArray, List.set_cons_zero, List.set_cons_succ, h45]
          generalize x 16 = y16
          generalize x 17 = y17
          generalize x 18 = y18
          generalize x 19 = y19
          generalize x 20 = y20
          generalize x 21 = y21
          generalize x 22 = y22
          generalize x 23 = y23
          generalize x 24 = y24
          generalize x 25 = y25
          generalize x 26 = y26
          generalize x 27 = y27
          generalize x 28 = y28
          generalize x 29 = y29
          generalize x 30 = y30
          generalize x 31 = y31
          generalize x 32 = y32
          generalize x 33 = y33
          generalize x 34 = y34
          generalize x 35 = y35
          generalize x 36 = y36
          generalize x 37 = y37
          generalize x 38 = y38
          generalize x 39 = y39
          generalize x 40 = y40
          generalize x 41 = y41
          generalize x 42 = y42
          generalize x 43 = y43
          generalize x 44 = y44
          clear h45
          have HBQ := Lib.hid (HB.out.trans ((onto_drew hE).mono hgl))
          have HOQ := Lib.hid (ownB HO.out (onto_drew hE))
          have hgq : G ≤ wq.heap.size := by have := (onto_drew hE).size; omega
          have cp1 : wq.drew.cell? _ = some _ := keeps hE _ _ CP1.out
          have cp2 : wq.drew.cell? _ = some _ := keeps hE _ _ CP2.out
          clear hE
          clear g0 g1 gq cq2 hgap hlt2
      all_goals
        clear HKEEP HGAP
        go_wp2_with fail
        refine wp_region_fam_tail_lit (E := Onto) 13 2
          [isV (u4),
           isV (.slice (some ⟨b, 0, none⟩) n c),
           isV (.int .i64 (k : Int)),
           isV (.pointer (some ⟨b, k * 2, none⟩)),
           isV (.pointer (some ⟨b, k * 2, none⟩)),
           isV (.int .i64 (p1 : Int)),
           isV (.slice (some ⟨b, 0, none⟩) n c),
           isV (.int .i64 (k : Int)),
           isV (.pointer (some ⟨b, k * 2, none⟩)),
           isV (.pointer (some ⟨b, k * 2 + 1, none⟩)),
           isV (.int .i64 (p2 : Int)),
           isV (.agg #[.int .u64 (wd (spanS (p1 : Int) (p2 : Int) 256) 0), .int .u64 (wd (spanS (p1 : Int) (p2 : Int) 256) 1), .int .u64 (wd (spanS (p1 : Int) (p2 : Int) 256) 2), .int .u64 (wd (spanS (p1 : Int) (p2 : Int) 256) 3)]),
           oneS (spanS (p1 : Int) (p2 : Int) 256)]
          [some 46, some 47, some 48, some 49, some 50, some 51, some 52, some 53, some 54, some 55, some 56, some 57, some 58] #[true, true, true, true, true, true, true, true, true, true, true, true, true, false, false] (by kernel_rfl) rfl (by kernel_rfl) (by kernel_rfl) rfl rfl rfl Onto.trans Onto.refl ?monoN ?obN ?qN
        case monoN => exact ⟨isV_mono _ _, isV_mono _ _, isV_mono _ _, isV_mono _ _, isV_mono _ _, isV_mono _ _, isV_mono _ _, isV_mono _ _, isV_mono _ _, isV_mono _ _, isV_mono _ _, isV_mono _ _, oneS_mono _, trivial⟩
        case obN =>
          refine Obs.cons (j := 1) rfl ?_ ?_
          · refine Ob.free [(4, none)] (by kernel_rfl) (isV (u4)) rfl rfl (fun a X hE hL => ?_)
            simp [Seen, slotAt] at hL
            have h4 := hL
            rw [relAt_eq]
            go_simp
            exact ⟨Onto.refl _, rfl⟩
          refine Obs.cons (j := 2) rfl ?_ ?_
          · refine Ob.free [(3, none)] (by kernel_rfl) (isV (.slice (some ⟨b, 0, none⟩) n c)) rfl rfl (fun a X hE hL => ?_)
            simp [Seen, slotAt] at hL
            have h3 := hL
            rw [relAt_eq]
            go_simp
            exact ⟨Onto.refl _, rfl⟩
          refine Obs.cons (j := 3) rfl ?_ ?_
          · refine Ob.free [(6, none)] (by kernel_rfl) (isV (.int .i64 (k : Int))) rfl rfl (fun a X hE hL => ?_)
            simp [Seen, slotAt] at hL
            have h6 := hL
            rw [relAt_eq]
            go_simp
            exact ⟨Onto.refl _, rfl⟩
          refine Obs.cons (j := 4) rfl ?_ ?_
          · refine Ob.free [(47, some 1), (48, some 2)] (by kernel_rfl) (isV (.pointer (some ⟨b, k * 2, none⟩))) rfl rfl (fun a X hE hL => ?_)
            simp [Seen, slotAt, famV, isV] at hL
            obtain ⟨h47, h48⟩ := hL
            rw [relAt_eq]
            go_simp
            exact ⟨Onto.refl _, rfl⟩
          refine Obs.cons (j := 5) rfl ?_ ?_
          · refine Ob.free [(49, some 3)] (by kernel_rfl) (isV (.pointer (some ⟨b, k * 2, none⟩))) rfl rfl (fun a X hE hL => ?_)
            simp [Seen, slotAt, famV, isV] at hL
            have h49 := hL
            rw [relAt_eq]
            go_simp
            exact ⟨Onto.refl _, rfl⟩
          refine Obs.cons (j := 6) rfl ?_ ?_
          · refine Ob.free [(50, some 4)] (by kernel_rfl) (isV (.int .i64 (p1 : Int))) rfl rfl (fun a X hE hL => ?_)
            simp [Seen, slotAt, famV, isV] at hL
            have h50 := hL
            rw [relAt_eq]
            have f0 := keeps hE _ _ cp1
            go_simp
            exact ⟨Onto.refl _, rfl⟩
          refine Obs.cons (j := 7) rfl ?_ ?_
          · refine Ob.free [(3, none)] (by kernel_rfl) (isV (.slice (some ⟨b, 0, none⟩) n c)) rfl rfl (fun a X hE hL => ?_)
            simp [Seen, slotAt] at hL
            have h3 := hL
            rw [relAt_eq]
            go_simp
            exact ⟨Onto.refl _, rfl⟩
          refine Obs.cons (j := 8) rfl ?_ ?_
          · refine Ob.free [(6, none)] (by kernel_rfl) (isV (.int .i64 (k : Int))) rfl rfl (fun a X hE hL => ?_)
            simp [Seen, slotAt] at hL
            have h6 := hL
            rw [relAt_eq]
            go_simp
            exact ⟨Onto.refl _, rfl⟩
          refine Obs.cons (j := 9) rfl ?_ ?_
          · refine Ob.free [(52, some 6), (53, some 7)] (by kernel_rfl) (isV (.pointer (some ⟨b, k * 2, none⟩))) rfl rfl (fun a X hE hL => ?_)
            simp [Seen, slotAt, famV, isV] at hL
            obtain ⟨h52, h53⟩ := hL
            rw [relAt_eq]
            go_simp
            exact ⟨Onto.refl _, rfl⟩
          refine Obs.cons (j := 10) rfl ?_ ?_
          · refine Ob.free [(54, some 8)] (by kernel_rfl) (isV (.pointer (some ⟨b, k * 2 + 1, none⟩))) rfl rfl (fun a X hE hL => ?_)
            simp [Seen, slotAt, famV, isV] at hL
            have h54 := hL
            rw [relAt_eq]
            go_simp
            exact ⟨Onto.refl _, rfl⟩
          refine Obs.cons (j := 11) rfl ?_ ?_
          · refine Ob.free [(55, some 9)] (by kernel_rfl) (isV (.int .i64 (p2 : Int))) rfl rfl (fun a X hE hL => ?_)
            simp [Seen, slotAt, famV, isV] at hL
            have h55 := hL
            rw [relAt_eq]
            have f0 := keeps hE _ _ cp2
            go_simp
            exact ⟨Onto.refl _, rfl⟩
          refine Obs.cons (j := 12) rfl ?_ ?_
          · refine Ob.free [(51, some 5), (56, some 10)] (by kernel_rfl) (isV (.agg #[.int .u64 (wd (spanS (p1 : Int) (p2 : Int) 256) 0), .int .u64 (wd (spanS (p1 : Int) (p2 : Int) 256) 1), .int .u64 (wd (spanS (p1 : Int) (p2 : Int) 256) 2), .int .u64 (wd (spanS (p1 : Int) (p2 : Int) 256) 3)])) rfl rfl (fun a X hE hL => ?_)
            simp [Seen, slotAt, famV, isV] at hL
            obtain ⟨h51, h56⟩ := hL
            rw [relAt_eq]
            go_simp
            rw [relUpon_enter]
            go_at_call 10
            refine (HSPAN.out _).mono ?_
            rintro e Y ⟨rfl, hY⟩
            exact ⟨_, rfl, hY, rfl⟩
          refine Obs.cons (j := 13) rfl ?_ ?_
          · refine Ob.free [(57, some 11)] (by kernel_rfl) (oneS (spanS (p1 : Int) (p2 : Int) 256)) rfl rfl (fun a X hE hL => ?_)
            simp [Seen, slotAt, famV, isV] at hL
            have h57 := hL
            rw [relAt_eq]
            go_simp
            exact ⟨(Below.refl _ _).alloc (Nat.le_refl _) _, X.heap.size, rfl, heap_alloc_new X _⟩
          exact trivial
        case qN =>
          intro x wN hE hV
          simp [AllV, famV, isV] at hV
          obtain ⟨h46, -, -, -, -, -, -, -, -, -, -, -, h58⟩ := hV
          simp only [puts, Act.put, List.setIfInBounds_toArray, List.set_cons_zero, List.set_cons_succ, h46]
          generalize x 47 = y47
          generalize x 48 = y48
          generalize x 49 = y49
          generalize x 50 = y50
          generalize x 51 = y51
          generalize x 52 = y52
          generalize x 53 = y53
          generalize x 54 = y54
          generalize x 55 = y55
          generalize x 56 = y56
          generalize x 57 = y57
          generalize x 58 = y58 at h58 ⊢
          clear h46
          obtain ⟨g9, rfl, hg9⟩ := h58
          have HBN := Lib.hid (HBQ.out.trans ((onto_drew hE).mono hgq))
          have HON := Lib.hid (ownB HOQ.out (onto_drew hE))
          have hgn : G ≤ wN.heap.size := by have := (onto_drew hE).size; omega
          clear hE
          refine wpAny_ready (rs := [13]) (by kernel_rfl) (by simp) ?_
          refine AllReady.cons rfl (fun K hK => ?_) AllReady.nil
          rw [if_pos (by rfl)]
          refine wp_append_lies _ _ _ 31 rfl G 24 i0 _ 4 32 Tryd.underlying31 hii hz0 hz1 hz2 rfl (by omega) _ k ((spans (R.take k)).flatMap setC) rfl HON.out ⟨g9, 0, none⟩ 1 1 (setC (spanS (p1 : Int) (p2 : Int) 256)) rfl rfl (fun j u hu => World.news_of_block hg9 j u hu) (setC_one _) (by omega) (by unfold maxLen; omega) (by omega) hgn wN.heap.size rfl ?_
          intro gg cap wA hownA hgrowA hatA hltA
          have HOA := Lib.hid hownA
          have HBA := Lib.hid (below_grown HBN.out hgn hgrowA (fun j hj => (own_ge HON.out hj).1))
          clear hownA hgrowA hatA
          refine hK _ _ ?_
          clear hK K
          try simp only [Act.put, List.getElem_toArray, List.getElem_cons_succ, List.getElem_cons_zero, List.setIfInBounds_toArray, List.set_cons_zero, List.set_cons_succ]
          refine wpAny_take (i := 14) (v := .slice (some ⟨gg, 0, none⟩) (k + 1) cap) rfl (by kernel_rfl) (by kernel_rfl) (by kernel_rfl) (fun _ _ _ h => h) (Or.inl ⟨by rfl, fun X => ?_⟩) ?_
          · go_simp
          try simp only [Act.put, List.getElem_toArray, List.getElem_cons_succ, List.getElem_cons_zero, List.setIfInBounds_toArray, List.set_cons_zero, List.set_cons_succ]
          refine wpAny_done (by kernel_rfl) ?_ _
          have dp1 : wA.cell? ⟨b, k * 2, none⟩ = some (.int .i64 (p1 : Int)) := (HBA.out.cell (p := ⟨b, k * 2, none⟩) hbG).trans ((HB.out.cell (p := ⟨b, k * 2, none⟩) hbG).symm.trans CP1.out)
          have dp2 : wA.cell? ⟨b, k * 2 + 1, none⟩ = some (.int .i64 (p2 : Int)) := (HBA.out.cell (p := ⟨b, k * 2 + 1, none⟩) hbG).trans ((HB.out.cell (p := ⟨b, k * 2 + 1, none⟩) hbG).symm.trans CP2.out)
          clear cp1 cp2
          go_wp2
          go_region
          go_wp2
          go_roundw
          case rel =>
            refine ⟨k + 1, by omega, by go_num, ?_, ?_, HBA.out.drew⟩
            · rw [HRS.out]; congr 1; omega
            · rw [HST.out]; exact own_snoc' (o := spanS (p1 : Int) (p2 : Int) 256) HOA.out
          case measure => simp [intOf]; omega
    · have hkn : k = n := by omega
      subst hkn
      have HK2 : Hid (R.take k = R) := by show _ = _; exact List.take_of_length_le (by rw [HN.out]; exact Nat.le_refl _)
      rw [HK2.out] at HO ⊢
      rw [HSUM.out]
      obtain ⟨A4, c4, hv4, _, _⟩ := own_form HO.out
      subst hv4
      have hls : (spans R).length = k := by unfold spans; rw [List.length_map]; exact HN.out
      have HSR : Hid (SRow wr A4 k (spans R)) := Lib.hid (by
        have h := HO.out
        rw [← hls] at h
        have h2 := own_crow setC_len h (by rw [hls]; have := HRL.out; omega)
        rw [hls] at h2
        exact crow_srow h2)
      have hww : Below w.heap.size w wr := HB2.out.trans (HB.out.mono HWG.out.1)
      have HWW := Lib.hid hww
      have hall : ∀ X, Onto wr.drew X → Calls Tryd.prog 14 #[.slice A4 k c4] X fun e w' => e = .returned (setV S) ∧ Below X.heap.size X w' := fun X hX => by
        have := ball_any X A4 k c4 (spans R) (HSR.out.below (onto_drew hX))
        rw [SameSet.val (spans_all HINV.out)] at this
        exact this
      have hk : ∀ X, Onto wr.drew X → Calls Tryd.prog 12 #[] X fun e w' => e = .returned (.bool true) ∧ Below X.heap.size X w' := fun X hX => knows_any X (HT.out.below (hww.trans ((onto_drew hX).mono hww.size)))
      have hby := fun X (hX : Onto wr.drew X) => HBY0.out X (HT.out.below (hww.trans ((onto_drew hX).mono hww.size)))
      unfold setV at hall
      have HALL := Lib.hid hall
      have HK := Lib.hid hk
      have HBY := Lib.hid hby
      have hy := SetAt.below HBX2.out HB.out HWG.out.2
      have c0 : wr.drew.cell? _ = some _ := hy.cell 0 (by omega)
      have c1 : wr.drew.cell? _ = some _ := hy.cell 1 (by omega)
      have c2 : wr.drew.cell? _ = some _ := hy.cell 2 (by omega)
      have c3 : wr.drew.cell? _ = some _ := hy.cell 3 (by omega)
      clear hall hk hby hy hww hls
      go_wp2_with fail
      refine wp_region_fam_lit (E := Onto)
        [isV (.slice A4 k c4),
         isV (.agg #[.int .u64 (wd (S) 0), .int .u64 (wd (S) 1), .int .u64 (wd (S) 2), .int .u64 (wd (S) 3)]),
         isV (.agg #[.int .u64 (wd (S) 0), .int .u64 (wd (S) 1), .int .u64 (wd (S) 2), .int .u64 (wd (S) 3)]),
         isV (.bool true),
         isV (.bool true),
         isV (.int .i64 (m : Int)),
         isV (.agg #[.int .u64 (wd (S) 0), .int .u64 (wd (S) 1), .int .u64 (wd (S) 2), .int .u64 (wd (S) 3)]),
         isV (.int .i64 (m : Int)),
         isV (.bool true),
         isV (.bool true),
         isV (.bool true),
         isV (.int .i64 (m : Int)),
         isV (.agg #[.int .u64 (wd (S) 0), .int .u64 (wd (S) 1), .int .u64 (wd (S) 2), .int .u64 (wd (S) 3)]),
         rowB L,
         isV (.int .i64 (m : Int)),
         isV (.bool true),
         isV (.bool true),
         isV (.bool true),
         isV (.bool true),
         isV (.bool true),
         isV (.bool true)]
        [some 74, some 75, some 76, some 77, some 78, some 79, some 80, some 81, some 82, some 83, some 84, some 85, some 86, some 87, some 88, some 89, some 90, some 91, some 92, some 93, some 2] (by kernel_rfl) rfl (by kernel_rfl) rfl Onto.trans Onto.refl ?monoE ?obE ?qE
      case monoE => exact ⟨isV_mono _ _, isV_mono _ _, isV_mono _ _, isV_mono _ _, isV_mono _ _, isV_mono _ _, isV_mono _ _, isV_mono _ _, isV_mono _ _, isV_mono _ _, isV_mono _ _, isV_mono _ _, isV_mono _ _, rowB_mono _, isV_mono _ _, isV_mono _ _, isV_mono _ _, isV_mono _ _, isV_mono _ _, isV_mono _ _, isV_mono _ _, trivial⟩
      case obE =>
        refine Obs.cons (j := 1) rfl ?_ ?_
        · refine Ob.free [(4, none)] (by kernel_rfl) (isV (.slice A4 k c4)) rfl rfl (fun a X hE hL => ?_)
          simp [Seen, slotAt] at hL
          have h4 := hL
          rw [relAt_eq]
          go_simp
          exact ⟨Onto.refl _, rfl⟩
        refine Obs.cons (j := 2) rfl ?_ ?_
        · refine Ob.free [(74, some 0)] (by kernel_rfl) (isV (.agg #[.int .u64 (wd (S) 0), .int .u64 (wd (S) 1), .int .u64 (wd (S) 2), .int .u64 (wd (S) 3)])) rfl rfl (fun a X hE hL => ?_)
          simp [Seen, slotAt, famV, isV] at hL
          have h74 := hL
          rw [relAt_eq]
          go_simp
          rw [relUpon_enter]
          go_at_call 14
          refine (HALL.out X hE).mono ?_
          rintro e Y ⟨rfl, hY⟩
          exact ⟨_, rfl, hY, rfl⟩
        refine Obs.cons (j := 3) rfl ?_ ?_
        · refine Ob.free [(1, none)] (by kernel_rfl) (isV (.agg #[.int .u64 (wd (S) 0), .int .u64 (wd (S) 1), .int .u64 (wd (S) 2), .int .u64 (wd (S) 3)])) rfl rfl (fun a X hE hL => ?_)
          simp [Seen, slotAt] at hL
          have h1 := hL
          rw [relAt_eq]
          have f0 := keeps hE _ _ c0; have f1 := keeps hE _ _ c1; have f2 := keeps hE _ _ c2; have f3 := keeps hE _ _ c3
          go_simp
          exact ⟨Onto.refl _, rfl⟩
        refine Obs.cons (j := 4) rfl ?_ ?_
        · refine Ob.free [(75, some 1), (76, some 2)] (by kernel_rfl) (isV (.bool true)) rfl rfl (fun a X hE hL => ?_)
          simp [Seen, slotAt, famV, isV] at hL
          obtain ⟨h75, h76⟩ := hL
          rw [relAt_eq]
          have hq := eqS_refl S X
          go_simp
          exact ⟨Onto.refl _, rfl⟩
        refine Obs.cons (j := 5) rfl ?_ ?_
        · refine Ob.free [(77, some 3)] (by kernel_rfl) (isV (.bool true)) rfl rfl (fun a X hE hL => ?_)
          simp [Seen, slotAt, famV, isV] at hL
          have h77 := hL
          rw [relAt_eq]
          go_simp
          exact ⟨Onto.refl _, rfl⟩
        refine Obs.cons (j := 6) rfl ?_ ?_
        · refine Ob.guarded [(5, none), (78, some 4)] (by kernel_rfl) (isV (.int .i64 (m : Int))) rfl 4 true 78 rfl rfl (fun a X hE hL => ?_)
          simp [Seen, slotAt, famV, isV] at hL
          obtain ⟨h5, h78⟩ := hL
          refine ⟨by simpa using h78, ?_⟩
          clear h78
          rw [relAt_eq]
          go_simp
          exact ⟨Onto.refl _, rfl⟩
        refine Obs.cons (j := 7) rfl ?_ ?_
        · refine Ob.guarded [(1, none), (78, some 4)] (by kernel_rfl) (isV (.agg #[.int .u64 (wd (S) 0), .int .u64 (wd (S) 1), .int .u64 (wd (S) 2), .int .u64 (wd (S) 3)])) rfl 4 true 78 rfl rfl (fun a X hE hL => ?_)
          simp [Seen, slotAt, famV, isV] at hL
          obtain ⟨h1, h78⟩ := hL
          refine ⟨by simpa using h78, ?_⟩
          clear h78
          rw [relAt_eq]
          have f0 := keeps hE _ _ c0; have f1 := keeps hE _ _ c1; have f2 := keeps hE _ _ c2; have f3 := keeps hE _ _ c3
          go_simp
          exact ⟨Onto.refl _, rfl⟩
        refine Obs.cons (j := 8) rfl ?_ ?_
        · refine Ob.guarded [(80, some 6), (78, some 4)] (by kernel_rfl) (isV (.int .i64 (m : Int))) rfl 4 true 78 rfl rfl (fun a X hE hL => ?_)
          simp [Seen, slotAt, famV, isV] at hL
          obtain ⟨h80, h78⟩ := hL
          refine ⟨by simpa using h78, ?_⟩
          clear h78
          rw [relAt_eq]
          go_simp
          rw [relUpon_enter]
          go_at_call 15
          refine (HC.out _).mono ?_
          rintro e Y ⟨rfl, hY⟩
          exact ⟨_, rfl, hY, rfl⟩
        refine Obs.cons (j := 9) rfl ?_ ?_
        · refine Ob.guarded [(79, some 5), (81, some 7), (78, some 4)] (by kernel_rfl) (isV (.bool true)) rfl 4 true 78 rfl rfl (fun a X hE hL => ?_)
          simp [Seen, slotAt, famV, isV] at hL
          obtain ⟨h79, h81, h78⟩ := hL
          refine ⟨by simpa using h78, ?_⟩
          clear h78
          rw [relAt_eq]
          go_simp
          exact ⟨Onto.refl _, rfl⟩
        refine Obs.cons (j := 10) rfl ?_ ?_
        · refine Ob.free [(78, some 4), (82, some 8)] (by kernel_rfl) (isV (.bool true)) rfl rfl (fun a X hE hL => ?_)
          simp [Seen, slotAt, famV, isV] at hL
          obtain ⟨h78, h82⟩ := hL
          rw [relAt_eq]
          go_simp
          exact ⟨Onto.refl _, rfl⟩
        refine Obs.cons (j := 11) rfl ?_ ?_
        · refine Ob.free [(83, some 9)] (by kernel_rfl) (isV (.bool true)) rfl rfl (fun a X hE hL => ?_)
          simp [Seen, slotAt, famV, isV] at hL
          have h83 := hL
          rw [relAt_eq]
          go_simp
          exact ⟨Onto.refl _, rfl⟩
        refine Obs.cons (j := 12) rfl ?_ ?_
        · refine Ob.guarded [(5, none), (84, some 10)] (by kernel_rfl) (isV (.int .i64 (m : Int))) rfl 10 true 84 rfl rfl (fun a X hE hL => ?_)
          simp [Seen, slotAt, famV, isV] at hL
          obtain ⟨h5, h84⟩ := hL
          refine ⟨by simpa using h84, ?_⟩
          clear h84
          rw [relAt_eq]
          go_simp
          exact ⟨Onto.refl _, rfl⟩
        refine Obs.cons (j := 13) rfl ?_ ?_
        · refine Ob.guarded [(1, none), (84, some 10)] (by kernel_rfl) (isV (.agg #[.int .u64 (wd (S) 0), .int .u64 (wd (S) 1), .int .u64 (wd (S) 2), .int .u64 (wd (S) 3)])) rfl 10 true 84 rfl rfl (fun a X hE hL => ?_)
          simp [Seen, slotAt, famV, isV] at hL
          obtain ⟨h1, h84⟩ := hL
          refine ⟨by simpa using h84, ?_⟩
          clear h84
          rw [relAt_eq]
          have f0 := keeps hE _ _ c0; have f1 := keeps hE _ _ c1; have f2 := keeps hE _ _ c2; have f3 := keeps hE _ _ c3
          go_simp
          exact ⟨Onto.refl _, rfl⟩
        refine Obs.cons (j := 14) rfl ?_ ?_
        · refine Ob.guarded [(86, some 12), (84, some 10)] (by kernel_rfl) (rowB L) rfl 10 true 84 rfl rfl (fun a X hE hL => ?_)
          simp [Seen, slotAt, famV, isV] at hL
          obtain ⟨h86, h84⟩ := hL
          refine ⟨by simpa using h84, ?_⟩
          clear h84
          rw [relAt_eq]
          go_simp
          rw [relUpon_enter]
          go_at_call 16
          refine (HBY.out X hE).mono ?_
          rintro e Y ⟨v, rfl, ho, hY⟩
          exact ⟨_, rfl, hY, rowB_mk ho⟩
        refine Obs.cons (j := 15) rfl ?_ ?_
        · refine Ob.guarded [(87, some 13), (84, some 10)] (by kernel_rfl) (isV (.int .i64 (m : Int))) rfl 10 true 84 rfl rfl (fun a X hE hL => ?_)
          simp [Seen, slotAt, famV, isV] at hL
          obtain ⟨h87, h84⟩ := hL
          refine ⟨by simpa using h84, ?_⟩
          clear h84
          rw [relAt_eq]
          obtain ⟨A16, c16, e16⟩ := rowB_form h87
          go_simp
          exact ⟨Onto.refl _, congrArg (Value.int .i64) (congrArg Int.ofNat HM.out)⟩
        refine Obs.cons (j := 16) rfl ?_ ?_
        · refine Ob.guarded [(85, some 11), (88, some 14), (84, some 10)] (by kernel_rfl) (isV (.bool true)) rfl 10 true 84 rfl rfl (fun a X hE hL => ?_)
          simp [Seen, slotAt, famV, isV] at hL
          obtain ⟨h85, h88, h84⟩ := hL
          refine ⟨by simpa using h84, ?_⟩
          clear h84
          rw [relAt_eq]
          go_simp
          exact ⟨Onto.refl _, rfl⟩
        refine Obs.cons (j := 17) rfl ?_ ?_
        · refine Ob.free [(84, some 10), (89, some 15)] (by kernel_rfl) (isV (.bool true)) rfl rfl (fun a X hE hL => ?_)
          simp [Seen, slotAt, famV, isV] at hL
          obtain ⟨h84, h89⟩ := hL
          rw [relAt_eq]
          go_simp
          exact ⟨Onto.refl _, rfl⟩
        refine Obs.cons (j := 18) rfl ?_ ?_
        · refine Ob.free [(90, some 16)] (by kernel_rfl) (isV (.bool true)) rfl rfl (fun a X hE hL => ?_)
          simp [Seen, slotAt, famV, isV] at hL
          have h90 := hL
          rw [relAt_eq]
          go_simp
          exact ⟨Onto.refl _, rfl⟩
        refine Obs.cons (j := 19) rfl ?_ ?_
        · refine Ob.guarded [(91, some 17)] (by kernel_rfl) (isV (.bool true)) rfl 17 true 91 rfl rfl (fun a X hE hL => ?_)
          simp [Seen, slotAt, famV, isV] at hL
          have h91 := hL
          refine ⟨by simpa using h91, ?_⟩
          clear h91
          rw [relAt_eq]
          go_simp
          rw [relUpon_enter]
          go_at_call 12
          refine (HK.out X hE).mono ?_
          rintro e Y ⟨rfl, hY⟩
          exact ⟨_, rfl, hY, rfl⟩
        refine Obs.cons (j := 20) rfl ?_ ?_
        · refine Ob.free [(91, some 17), (92, some 18)] (by kernel_rfl) (isV (.bool true)) rfl rfl (fun a X hE hL => ?_)
          simp [Seen, slotAt, famV, isV] at hL
          obtain ⟨h91, h92⟩ := hL
          rw [relAt_eq]
          go_simp
          exact ⟨Onto.refl _, rfl⟩
        refine Obs.cons (j := 21) rfl ?_ ?_
        · refine Ob.free [(93, some 19)] (by kernel_rfl) (isV (.bool true)) rfl rfl (fun a X hE hL => ?_)
          simp [Seen, slotAt, famV, isV] at hL
          have h93 := hL
          rw [relAt_eq]
          go_simp
          exact ⟨Onto.refl _, rfl⟩
        exact trivial
      case qE =>
        intro x wz hE hV
        simp [AllV, famV, isV] at hV
        obtain ⟨-, -, -, -, -, -, -, -, -, -, -, -, -, -, -, -, -, -, -, -, h2⟩ := hV
        simp only [puts, Act.put, List.setIfInBounds_toArray, List.set_cons_zero, List.set_cons_succ, h2]
        generalize x 74 = y74
        generalize x 75 = y75
        generalize x 76 = y76
        generalize x 77 = y77
        generalize x 78 = y78
        generalize x 79 = y79
        generalize x 80 = y80
        generalize x 81 = y81
        generalize x 82 = y82
        generalize x 83 = y83
        generalize x 84 = y84
        generalize x 85 = y85
        generalize x 86 = y86
        generalize x 87 = y87
        generalize x 88 = y88
        generalize x 89 = y89
        generalize x 90 = y90
        generalize x 91 = y91
        generalize x 92 = y92
        generalize x 93 = y93
        clear h2
        have HB9 := Lib.hid (HWW.out.trans ((onto_drew hE).mono HWW.out.size))
        clear hE
        go_wp2
        go_ret
        exact ⟨rfl, HB9.out⟩
theorem back_walk (S : Nat → Bool) (w : World) (hT : TabT w) :
    Calls Tryd.prog 4 #[.agg #[.int .u64 (wd S 0), .int .u64 (wd S 1), .int .u64 (wd S 2), .int .u64 (wd S 3)]] w fun e w' => e = .returned (.bool true) ∧ Below w.heap.size w w' := back_any w S hT
end Go.Proofs.YtglgmnhfpemfeaaDoor
