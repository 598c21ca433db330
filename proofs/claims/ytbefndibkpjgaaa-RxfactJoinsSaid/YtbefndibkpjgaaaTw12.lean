/- Several texts in one: MatB. -/
import Derived.Test.YtbefndibkpjgaaaTw11
/- Matrices of truths: the document's both, behind, again. -/
namespace Go.Proofs.Ytbefndibkpjgaaa
open Go.RowKit
set_option linter.unusedVariables false
set_option linter.unusedSimpArgs false

/-- What both has put so far. -/
def BoS (a b : Mx) (p q p' q' : Nat) : Prop := (a p' q' || b p' q') = true ∧ (p' < p ∨ p' = p ∧ q' < q)
theorem bos_next {a b : Mx} {p q p' q' : Nat} {f : Mx} (hf : f p' q' = true ↔ BoS a b p q p' q') : updM f p q (a p q || b p q) p' q' = true ↔ BoS a b p (q + 1) p' q' := by
  unfold updM BoS at *
  by_cases h : p' = p ∧ q' = q
  · obtain ⟨rfl, rfl⟩ := h
    rw [if_pos ⟨rfl, rfl⟩]
    constructor
    · intro h; exact ⟨h, .inr ⟨rfl, by omega⟩⟩
    · intro h; exact h.1
  · rw [if_neg h, hf]
    constructor
    · rintro ⟨h1, h2⟩; exact ⟨h1, by omega⟩
    · rintro ⟨h1, h2⟩; exact ⟨h1, by omega⟩
theorem bos_row {a b : Mx} {p m p' q' : Nat} (hq : q' < m) : BoS a b p m p' q' ↔ BoS a b (p + 1) 0 p' q' := by
  unfold BoS
  constructor
  · rintro ⟨h1, h2⟩; exact ⟨h1, by omega⟩
  · rintro ⟨h1, h2⟩; exact ⟨h1, by omega⟩
/-- What behind has put so far. -/
def BeS (a b : Mx) (p k q p' q' : Nat) : Prop := ∃ k', p' ≤ k' ∧ k' ≤ q' ∧ a p' k' = true ∧ b k' q' = true ∧ (p' < p ∨ p' = p ∧ (k' < k ∨ k' = k ∧ q' < q))
theorem bes_next {a b : Mx} {p k q p' q' : Nat} {f : Mx} (hpk : p ≤ k) (hkq : k ≤ q) (hak : a p k = true) (hf : f p' q' = true ↔ BeS a b p k q p' q') {v : Bool} (hv : v = true ↔ (f p q = true ∨ b k q = true)) (hfp : f p q = true ↔ BeS a b p k q p q) : updM f p q v p' q' = true ↔ BeS a b p k (q + 1) p' q' := by
  unfold updM
  by_cases h : p' = p ∧ q' = q
  · obtain ⟨rfl, rfl⟩ := h
    rw [if_pos ⟨rfl, rfl⟩, hv, hfp]
    unfold BeS
    constructor
    · rintro (⟨k', h1, h2, h3, h4, h5⟩ | h)
      · exact ⟨k', h1, h2, h3, h4, by omega⟩
      · exact ⟨k, hpk, hkq, hak, h, by omega⟩
    · rintro ⟨k', h1, h2, h3, h4, h5⟩
      by_cases e : k' = k
      · subst e; exact .inr h4
      · exact .inl ⟨k', h1, h2, h3, h4, by omega⟩
  · rw [if_neg h, hf]
    unfold BeS
    constructor
    · rintro ⟨k', h1, h2, h3, h4, h5⟩; exact ⟨k', h1, h2, h3, h4, by omega⟩
    · rintro ⟨k', h1, h2, h3, h4, h5⟩; exact ⟨k', h1, h2, h3, h4, by omega⟩
theorem bes_k {a b : Mx} {p k q p' q' : Nat} (h : a p k = false ∨ q' < q) : BeS a b p k q p' q' ↔ BeS a b p (k + 1) (k + 1) p' q' := by
  unfold BeS
  constructor
  · rintro ⟨k', h1, h2, h3, h4, h5⟩; exact ⟨k', h1, h2, h3, h4, by omega⟩
  · rintro ⟨k', h1, h2, h3, h4, h5⟩
    refine ⟨k', h1, h2, h3, h4, ?_⟩
    rcases h5 with h5 | ⟨rfl, h5⟩
    · exact .inl h5
    · refine .inr ⟨rfl, ?_⟩
      by_cases e : k' = k
      · subst e
        rcases h with h | h
        · rw [h] at h3; cases h3
        · exact .inr ⟨rfl, h⟩
      · omega
theorem bes_p {a b : Mx} {p m p' q' : Nat} (hq : q' < m) : BeS a b p m m p' q' ↔ BeS a b (p + 1) (p + 1) (p + 1) p' q' := by
  unfold BeS
  constructor
  · rintro ⟨k', h1, h2, h3, h4, h5⟩; exact ⟨k', h1, h2, h3, h4, by omega⟩
  · rintro ⟨k', h1, h2, h3, h4, h5⟩; exact ⟨k', h1, h2, h3, h4, by omega⟩
theorem bes_end {a b : Mx} {n m p' q' : Nat} (hm : n + 1 = m) (hp : p' < m) (hq : q' < m) : BeS a b m m m p' q' ↔ behM n a b p' q' = true := by
  unfold BeS behM
  simp only [List.any_eq_true, List.mem_range, Bool.and_eq_true, decide_eq_true_eq]
  constructor
  · rintro ⟨k', h1, h2, h3, h4, h5⟩; exact ⟨k', by omega, ⟨h1, h2⟩, h3, h4⟩
  · rintro ⟨k', h, ⟨h1, h2⟩, h3, h4⟩; exact ⟨k', h1, h2, h3, h4, by omega⟩
set_option maxRecDepth 100000 in
set_option maxHeartbeats 2000000 in
theorem both9_any (w : World) (Aa Ab : Option Addr) (ca cb : Nat) (a b : Mx) (s : ByteArray) (m : Nat) (hm : (s.size : Int) + 1 = (m : Int)) (hn : s.size ≤ 1000) (ha : MatR w Aa m a) (hb : MatR w Ab m b) :
    Calls Try.prog 58 #[.slice Aa m ca, .slice Ab m cb, .string s] w fun e w' => GivM w m (bothM a b) e w' := by
  have HN := Lib.hid (none9_any w s m hm hn)
  have HA := Lib.hid ha
  have HBB := Lib.hid hb
  obtain ⟨g, hg⟩ : ∃ g, w.heap.size = g := ⟨_, rfl⟩
  have HG := Lib.hid hg
  clear hg ha hb
  go_enter Try.func58, Try.ntmps58
  go_wp2_with fail
  refine HN.out.mono ?_
  rintro e w1 ⟨A, c, bs, rfl, hM, hb1⟩
  rw [HG.out] at hM hb1
  have HM := Lib.hid hM
  have HB1 := Lib.hid hb1
  clear hM hb1 HN
  go_wp2
  go_loopw [8] (fun i wr => ∃ (p : Nat) (f : Mx), p ≤ m ∧ i = .int .i64 (p : Int) ∧ MatO wr g m A c bs f ∧ (∀ p' q', p' < m → q' < m → (f p' q' = true ↔ BoS a b p 0 p' q')) ∧ Below g w wr) (fun i _ => m - (intOf i).toNat)
  case atStart => exact ⟨0, _, by omega, rfl, HM.out, fun p' q' _ _ => by unfold BoS; simp, HB1.out⟩
  case round =>
    obtain ⟨p, f, hp, rfl, hM, hf, hb⟩ := hrel
    have HM1 := Lib.hid hM
    have HF1 := Lib.hid hf
    have HB2 := Lib.hid hb
    clear hM hb hf HM HB1
    by_cases hlt : p < m
    · have z0 : (0 : Int) ≤ (p : Int) := by omega
      have z1 : (p : Int) < (m : Int) := by omega
      have z2 : (p : Int) ≤ (s.size : Int) := by omega
      go_wp2
      go_loopw [9] (fun i wq => ∃ (q : Nat) (f : Mx), q ≤ m ∧ i = .int .i64 (q : Int) ∧ MatO wq g m A c bs f ∧ (∀ p' q', p' < m → q' < m → (f p' q' = true ↔ BoS a b p q p' q')) ∧ Below g w wq) (fun i _ => m - (intOf i).toNat)
      case atStart => exact ⟨0, f, by omega, rfl, HM1.out, HF1.out, HB2.out⟩
      case round =>
        obtain ⟨q, f, hq, rfl, hM, hf, hb⟩ := hrel
        have HM2 := Lib.hid hM
        have HF := Lib.hid hf
        have HB := Lib.hid hb
        clear hM hb hf HM1 HF1 HB2
        by_cases hltq : q < m
        · have hbw : Below w.heap.size w wr := by rw [HG.out]; exact HB.out
          obtain ⟨g0, b0, rfl, hbk, hg0, hg0l, hb0, hb0l, c0, c1, hfz⟩ := HM2.out.cells hlt
          obtain ⟨ba, oa, ra, ro, cr, rfl, hba, d0, hra, d1⟩ := (HA.out.below hbw) p hlt
          obtain ⟨bb, ob, rb, so, cs, rfl, hbb, e0, hrb, e1⟩ := (HBB.out.below hbw) p hlt
          have c1 := c1 q hltq
          have d1 := d1 q hltq
          have e1 := e1 q hltq
          have hfz := hfz q
          have HBK := Lib.hid hbk
          have y0 : (0 : Int) ≤ (q : Int) := by omega
          have y1 : (q : Int) < (m : Int) := by omega
          have y2 : (q : Int) ≤ (s.size : Int) := by omega
          obtain ⟨va, hva⟩ : ∃ v, a p q = v := ⟨_, rfl⟩
          obtain ⟨vb, hvb⟩ : ∃ v, b p q = v := ⟨_, rfl⟩
          have HVV : Hid ((a p q || b p q) = (va || vb)) := Lib.hid (by rw [hva, hvb])
          rw [hva] at d1
          rw [hvb] at e1
          clear hva hvb hbk hbw
          cases va with
          | true =>
            simp only [Bool.true_or] at HVV
            go_wp2_with fail
            refine wp_region_fam_tail_lit (E := Onto) 22 1
              [isV (.slice (some ⟨g0, 0, none⟩) m c),
               isV (.int .i64 (p : Int)),
               isV (.pointer (some ⟨g0, p, none⟩)),
               isV (.slice (some ⟨b0, 0, none⟩) m m),
               isV (.int .i64 (q : Int)),
               isV (.slice (some ⟨ba, oa, none⟩) m ca),
               isV (.int .i64 (p : Int)),
               isV (.pointer (some ⟨ba, oa + p, none⟩)),
               isV (.slice (some ⟨ra, ro, none⟩) m cr),
               isV (.int .i64 (q : Int)),
               isV (.pointer (some ⟨ra, ro + q, none⟩)),
               isV (.bool true),
               isV (.bool true),
               isV undef,
               isV undef,
               isV undef,
               isV undef,
               isV undef,
               isV undef,
               isV undef,
               isV (.bool true),
               isV (.pointer (some ⟨b0, q, none⟩))]
              [some 24, some 25, some 26, some 27, some 28, some 29, some 30, some 31, some 32, some 33, some 34, some 35, some 36, some 37, some 38, some 39, some 40, some 41, some 42, some 43, some 44, some 45] #[true, true, true, true, true, true, true, true, true, true, true, true, true, true, true, true, true, true, true, true, true, true, false] (by kernel_rfl) rfl (by kernel_rfl) (by kernel_rfl) rfl rfl rfl Onto.trans Onto.refl ?monoT ?obT ?qT
            case monoT => exact ⟨isV_mono _ _, isV_mono _ _, isV_mono _ _, isV_mono _ _, isV_mono _ _, isV_mono _ _, isV_mono _ _, isV_mono _ _, isV_mono _ _, isV_mono _ _, isV_mono _ _, isV_mono _ _, isV_mono _ _, isV_mono _ _, isV_mono _ _, isV_mono _ _, isV_mono _ _, isV_mono _ _, isV_mono _ _, isV_mono _ _, isV_mono _ _, isV_mono _ _, trivial⟩
            case obT =>
              refine Obs.cons (j := 1) rfl ?_ ?_
              · refine Ob.free [(7, none)] (by kernel_rfl) (isV (.slice (some ⟨g0, 0, none⟩) m c)) rfl rfl (fun a X hE hL => ?_)
                simp [Seen, slotAt] at hL
                have h7 := hL
                rw [relAt_eq]
                go_simp
                exact ⟨Onto.refl _, rfl⟩
              refine Obs.cons (j := 2) rfl ?_ ?_
              · refine Ob.free [(8, none)] (by kernel_rfl) (isV (.int .i64 (p : Int))) rfl rfl (fun a X hE hL => ?_)
                simp [Seen, slotAt] at hL
                have h8 := hL
                rw [relAt_eq]
                go_simp
                exact ⟨Onto.refl _, rfl⟩
              refine Obs.cons (j := 3) rfl ?_ ?_
              · refine Ob.free [(24, some 0), (25, some 1)] (by kernel_rfl) (isV (.pointer (some ⟨g0, p, none⟩))) rfl rfl (fun a X hE hL => ?_)
                simp [Seen, slotAt, famV, isV] at hL
                obtain ⟨h24, h25⟩ := hL
                rw [relAt_eq]
                go_simp
                exact ⟨Onto.refl _, rfl⟩
              refine Obs.cons (j := 4) rfl ?_ ?_
              · refine Ob.free [(26, some 2)] (by kernel_rfl) (isV (.slice (some ⟨b0, 0, none⟩) m m)) rfl rfl (fun a X hE hL => ?_)
                simp [Seen, slotAt, famV, isV] at hL
                have h26 := hL
                rw [relAt_eq]
                have f0 := keeps hE _ _ c0
                go_simp
                exact ⟨Onto.refl _, rfl⟩
              refine Obs.cons (j := 5) rfl ?_ ?_
              · refine Ob.free [(9, none)] (by kernel_rfl) (isV (.int .i64 (q : Int))) rfl rfl (fun a X hE hL => ?_)
                simp [Seen, slotAt] at hL
                have h9 := hL
                rw [relAt_eq]
                go_simp
                exact ⟨Onto.refl _, rfl⟩
              refine Obs.cons (j := 6) rfl ?_ ?_
              · refine Ob.free [(0, none)] (by kernel_rfl) (isV (.slice (some ⟨ba, oa, none⟩) m ca)) rfl rfl (fun a X hE hL => ?_)
                simp [Seen, slotAt] at hL
                have h0 := hL
                rw [relAt_eq]
                go_simp
                exact ⟨Onto.refl _, rfl⟩
              refine Obs.cons (j := 7) rfl ?_ ?_
              · refine Ob.free [(8, none)] (by kernel_rfl) (isV (.int .i64 (p : Int))) rfl rfl (fun a X hE hL => ?_)
                simp [Seen, slotAt] at hL
                have h8 := hL
                rw [relAt_eq]
                go_simp
                exact ⟨Onto.refl _, rfl⟩
              refine Obs.cons (j := 8) rfl ?_ ?_
              · refine Ob.free [(29, some 5), (30, some 6)] (by kernel_rfl) (isV (.pointer (some ⟨ba, oa + p, none⟩))) rfl rfl (fun a X hE hL => ?_)
                simp [Seen, slotAt, famV, isV] at hL
                obtain ⟨h29, h30⟩ := hL
                rw [relAt_eq]
                go_simp
                exact ⟨Onto.refl _, rfl⟩
              refine Obs.cons (j := 9) rfl ?_ ?_
              · refine Ob.free [(31, some 7)] (by kernel_rfl) (isV (.slice (some ⟨ra, ro, none⟩) m cr)) rfl rfl (fun a X hE hL => ?_)
                simp [Seen, slotAt, famV, isV] at hL
                have h31 := hL
                rw [relAt_eq]
                have f0 := keeps hE _ _ d0
                go_simp
                exact ⟨Onto.refl _, rfl⟩
              refine Obs.cons (j := 10) rfl ?_ ?_
              · refine Ob.free [(9, none)] (by kernel_rfl) (isV (.int .i64 (q : Int))) rfl rfl (fun a X hE hL => ?_)
                simp [Seen, slotAt] at hL
                have h9 := hL
                rw [relAt_eq]
                go_simp
                exact ⟨Onto.refl _, rfl⟩
              refine Obs.cons (j := 11) rfl ?_ ?_
              · refine Ob.free [(32, some 8), (33, some 9)] (by kernel_rfl) (isV (.pointer (some ⟨ra, ro + q, none⟩))) rfl rfl (fun a X hE hL => ?_)
                simp [Seen, slotAt, famV, isV] at hL
                obtain ⟨h32, h33⟩ := hL
                rw [relAt_eq]
                go_simp
                exact ⟨Onto.refl _, rfl⟩
              refine Obs.cons (j := 12) rfl ?_ ?_
              · refine Ob.free [(34, some 10)] (by kernel_rfl) (isV (.bool true)) rfl rfl (fun a X hE hL => ?_)
                simp [Seen, slotAt, famV, isV] at hL
                have h34 := hL
                rw [relAt_eq]
                have f0 := keeps hE _ _ d1
                go_simp
                exact ⟨Onto.refl _, rfl⟩
              refine Obs.cons (j := 13) rfl ?_ ?_
              · refine Ob.free [(35, some 11)] (by kernel_rfl) (isV (.bool true)) rfl rfl (fun a X hE hL => ?_)
                simp [Seen, slotAt, famV, isV] at hL
                have h35 := hL
                rw [relAt_eq]
                go_simp
                exact ⟨Onto.refl _, rfl⟩
              refine Obs.cons (j := 14) rfl ?_ ?_
              · refine Ob.skip [(1, none), (36, some 12)] (by kernel_rfl) rfl 12 false 36 rfl rfl (fun a X hE hL => ?_)
                simp [Seen, slotAt, famV, isV] at hL
                obtain ⟨h1, h36⟩ := hL
                simpa using h36
              refine Obs.cons (j := 15) rfl ?_ ?_
              · refine Ob.skip [(8, none), (36, some 12)] (by kernel_rfl) rfl 12 false 36 rfl rfl (fun a X hE hL => ?_)
                simp [Seen, slotAt, famV, isV] at hL
                obtain ⟨h8, h36⟩ := hL
                simpa using h36
              refine Obs.cons (j := 16) rfl ?_ ?_
              · refine Ob.skip [(37, some 13), (38, some 14), (36, some 12)] (by kernel_rfl) rfl 12 false 36 rfl rfl (fun a X hE hL => ?_)
                simp [Seen, slotAt, famV, isV] at hL
                obtain ⟨h37, h38, h36⟩ := hL
                simpa using h36
              refine Obs.cons (j := 17) rfl ?_ ?_
              · refine Ob.skip [(39, some 15), (36, some 12)] (by kernel_rfl) rfl 12 false 36 rfl rfl (fun a X hE hL => ?_)
                simp [Seen, slotAt, famV, isV] at hL
                obtain ⟨h39, h36⟩ := hL
                simpa using h36
              refine Obs.cons (j := 18) rfl ?_ ?_
              · refine Ob.skip [(9, none), (36, some 12)] (by kernel_rfl) rfl 12 false 36 rfl rfl (fun a X hE hL => ?_)
                simp [Seen, slotAt, famV, isV] at hL
                obtain ⟨h9, h36⟩ := hL
                simpa using h36
              refine Obs.cons (j := 19) rfl ?_ ?_
              · refine Ob.skip [(40, some 16), (41, some 17), (36, some 12)] (by kernel_rfl) rfl 12 false 36 rfl rfl (fun a X hE hL => ?_)
                simp [Seen, slotAt, famV, isV] at hL
                obtain ⟨h40, h41, h36⟩ := hL
                simpa using h36
              refine Obs.cons (j := 20) rfl ?_ ?_
              · refine Ob.skip [(42, some 18), (36, some 12)] (by kernel_rfl) rfl 12 false 36 rfl rfl (fun a X hE hL => ?_)
                simp [Seen, slotAt, famV, isV] at hL
                obtain ⟨h42, h36⟩ := hL
                simpa using h36
              refine Obs.cons (j := 21) rfl ?_ ?_
              · refine Ob.free [(36, some 12), (43, some 19)] (by kernel_rfl) (isV (.bool true)) rfl rfl (fun a X hE hL => ?_)
                simp [Seen, slotAt, famV, isV] at hL
                obtain ⟨h36, h43⟩ := hL
                rw [relAt_eq]
                go_simp
                exact ⟨Onto.refl _, rfl⟩
              refine Obs.cons (j := 22) rfl ?_ ?_
              · refine Ob.free [(27, some 3), (28, some 4)] (by kernel_rfl) (isV (.pointer (some ⟨b0, q, none⟩))) rfl rfl (fun a X hE hL => ?_)
                simp [Seen, slotAt, famV, isV] at hL
                obtain ⟨h27, h28⟩ := hL
                rw [relAt_eq]
                go_simp
                exact ⟨Onto.refl _, rfl⟩
              exact trivial
            case qT =>
              intro x wA hE hV
              simp [AllV, famV, isV] at hV
              obtain ⟨-, -, -, -, -, -, -, -, -, -, -, -, -, -, -, -, -, -, -, -, h44, h45⟩ := hV
              simp only [puts, Act.put, List.setIfInBounds_toArray, List.set_cons_zero, List.set_cons_succ, h44, h45]
              generalize x 24 = y24
              generalize x 25 = y25
              generalize x 26 = y26
              generalize x 27 = y27
              generalize x 28 = y28
              generalize x 29 = y29
              generalize x 30 = y30
              generalize x 31 = y31
              generalize x 32 = y32
              generalize x 33 = y33
              generalize x 34 = y34
              generalize x 35 = y35
              generalize x 36 = y36
              generalize x 37 = y37
              generalize x 38 = y38
              generalize x 39 = y39
              generalize x 40 = y40
              generalize x 41 = y41
              generalize x 42 = y42
              generalize x 43 = y43
              clear h44 h45
              have hbA := onto_drew hE
              have HBA := Lib.hid hbA
              have HMA := Lib.hid (HM2.out.below hbA)
              have cA := (hbA.cell (p := ⟨b0, q, none⟩) hb0l).trans c1
              have fA := (HMA.out.rows.at_ p b0 HBK.out).2.2
              clear hE hbA
              refine wpAny_ready (rs := [22]) (by kernel_rfl) (by simp) ?_
              refine AllReady.cons rfl (fun K hK => ?_) AllReady.nil
              rw [if_pos (by rfl)]
              refine wp_store1 _ _ rfl ⟨b0, q, none⟩ true _ rfl rfl cA (frozen_of_row wA b0 q _ _ fA) ?_
              refine hK _ _ ?_
              clear hK K
              try simp only [Act.put, List.getElem_toArray, List.getElem_cons_succ, List.getElem_cons_zero, List.setIfInBounds_toArray, List.set_cons_zero, List.set_cons_succ]
              refine wpAny_done (by kernel_rfl) ?_ _
              go_wp2
              go_roundw
              case rel => exact ⟨q + 1, _, by omega, by go_num, HMA.out.set HBK.out (by omega) true, fun p' q' hp hq => by have h9 := bos_next (HF.out p' q' hp hq); rw [HVV.out] at h9; exact h9, (HB.out.trans (HBA.out.mono (by omega))).trans (HMA.out.set_below HBK.out _ _)⟩
              case measure => simp [intOf]; omega
          | false =>
            simp only [Bool.false_or] at HVV
            go_wp2_with fail
            refine wp_region_fam_tail_lit (E := Onto) 22 1
              [isV (.slice (some ⟨g0, 0, none⟩) m c),
               isV (.int .i64 (p : Int)),
               isV (.pointer (some ⟨g0, p, none⟩)),
               isV (.slice (some ⟨b0, 0, none⟩) m m),
               isV (.int .i64 (q : Int)),
               isV (.slice (some ⟨ba, oa, none⟩) m ca),
               isV (.int .i64 (p : Int)),
               isV (.pointer (some ⟨ba, oa + p, none⟩)),
               isV (.slice (some ⟨ra, ro, none⟩) m cr),
               isV (.int .i64 (q : Int)),
               isV (.pointer (some ⟨ra, ro + q, none⟩)),
               isV (.bool false),
               isV (.bool false),
               isV (.slice (some ⟨bb, ob, none⟩) m cb),
               isV (.int .i64 (p : Int)),
               isV (.pointer (some ⟨bb, ob + p, none⟩)),
               isV (.slice (some ⟨rb, so, none⟩) m cs),
               isV (.int .i64 (q : Int)),
               isV (.pointer (some ⟨rb, so + q, none⟩)),
               isV (.bool vb),
               isV (.bool vb),
               isV (.pointer (some ⟨b0, q, none⟩))]
              [some 24, some 25, some 26, some 27, some 28, some 29, some 30, some 31, some 32, some 33, some 34, some 35, some 36, some 37, some 38, some 39, some 40, some 41, some 42, some 43, some 44, some 45] #[true, true, true, true, true, true, true, true, true, true, true, true, true, true, true, true, true, true, true, true, true, true, false] (by kernel_rfl) rfl (by kernel_rfl) (by kernel_rfl) rfl rfl rfl Onto.trans Onto.refl ?monoF ?obF ?qF
            case monoF => exact ⟨isV_mono _ _, isV_mono _ _, isV_mono _ _, isV_mono _ _, isV_mono _ _, isV_mono _ _, isV_mono _ _, isV_mono _ _, isV_mono _ _, isV_mono _ _, isV_mono _ _, isV_mono _ _, isV_mono _ _, isV_mono _ _, isV_mono _ _, isV_mono _ _, isV_mono _ _, isV_mono _ _, isV_mono _ _, isV_mono _ _, isV_mono _ _, isV_mono _ _, trivial⟩
            case obF =>
              refine Obs.cons (j := 1) rfl ?_ ?_
              · refine Ob.free [(7, none)] (by kernel_rfl) (isV (.slice (some ⟨g0, 0, none⟩) m c)) rfl rfl (fun a X hE hL => ?_)
                simp [Seen, slotAt] at hL
                have h7 := hL
                rw [relAt_eq]
                go_simp
                exact ⟨Onto.refl _, rfl⟩
              refine Obs.cons (j := 2) rfl ?_ ?_
              · refine Ob.free [(8, none)] (by kernel_rfl) (isV (.int .i64 (p : Int))) rfl rfl (fun a X hE hL => ?_)
                simp [Seen, slotAt] at hL
                have h8 := hL
                rw [relAt_eq]
                go_simp
                exact ⟨Onto.refl _, rfl⟩
              refine Obs.cons (j := 3) rfl ?_ ?_
              · refine Ob.free [(24, some 0), (25, some 1)] (by kernel_rfl) (isV (.pointer (some ⟨g0, p, none⟩))) rfl rfl (fun a X hE hL => ?_)
                simp [Seen, slotAt, famV, isV] at hL
                obtain ⟨h24, h25⟩ := hL
                rw [relAt_eq]
                go_simp
                exact ⟨Onto.refl _, rfl⟩
              refine Obs.cons (j := 4) rfl ?_ ?_
              · refine Ob.free [(26, some 2)] (by kernel_rfl) (isV (.slice (some ⟨b0, 0, none⟩) m m)) rfl rfl (fun a X hE hL => ?_)
                simp [Seen, slotAt, famV, isV] at hL
                have h26 := hL
                rw [relAt_eq]
                have f0 := keeps hE _ _ c0
                go_simp
                exact ⟨Onto.refl _, rfl⟩
              refine Obs.cons (j := 5) rfl ?_ ?_
              · refine Ob.free [(9, none)] (by kernel_rfl) (isV (.int .i64 (q : Int))) rfl rfl (fun a X hE hL => ?_)
                simp [Seen, slotAt] at hL
                have h9 := hL
                rw [relAt_eq]
                go_simp
                exact ⟨Onto.refl _, rfl⟩
              refine Obs.cons (j := 6) rfl ?_ ?_
              · refine Ob.free [(0, none)] (by kernel_rfl) (isV (.slice (some ⟨ba, oa, none⟩) m ca)) rfl rfl (fun a X hE hL => ?_)
                simp [Seen, slotAt] at hL
                have h0 := hL
                rw [relAt_eq]
                go_simp
                exact ⟨Onto.refl _, rfl⟩
              refine Obs.cons (j := 7) rfl ?_ ?_
              · refine Ob.free [(8, none)] (by kernel_rfl) (isV (.int .i64 (p : Int))) rfl rfl (fun a X hE hL => ?_)
                simp [Seen, slotAt] at hL
                have h8 := hL
                rw [relAt_eq]
                go_simp
                exact ⟨Onto.refl _, rfl⟩
              refine Obs.cons (j := 8) rfl ?_ ?_
              · refine Ob.free [(29, some 5), (30, some 6)] (by kernel_rfl) (isV (.pointer (some ⟨ba, oa + p, none⟩))) rfl rfl (fun a X hE hL => ?_)
                simp [Seen, slotAt, famV, isV] at hL
                obtain ⟨h29, h30⟩ := hL
                rw [relAt_eq]
                go_simp
                exact ⟨Onto.refl _, rfl⟩
              refine Obs.cons (j := 9) rfl ?_ ?_
              · refine Ob.free [(31, some 7)] (by kernel_rfl) (isV (.slice (some ⟨ra, ro, none⟩) m cr)) rfl rfl (fun a X hE hL => ?_)
                simp [Seen, slotAt, famV, isV] at hL
                have h31 := hL
                rw [relAt_eq]
                have f0 := keeps hE _ _ d0
                go_simp
                exact ⟨Onto.refl _, rfl⟩
              refine Obs.cons (j := 10) rfl ?_ ?_
              · refine Ob.free [(9, none)] (by kernel_rfl) (isV (.int .i64 (q : Int))) rfl rfl (fun a X hE hL => ?_)
                simp [Seen, slotAt] at hL
                have h9 := hL
                rw [relAt_eq]
                go_simp
                exact ⟨Onto.refl _, rfl⟩
              refine Obs.cons (j := 11) rfl ?_ ?_
              · refine Ob.free [(32, some 8), (33, some 9)] (by kernel_rfl) (isV (.pointer (some ⟨ra, ro + q, none⟩))) rfl rfl (fun a X hE hL => ?_)
                simp [Seen, slotAt, famV, isV] at hL
                obtain ⟨h32, h33⟩ := hL
                rw [relAt_eq]
                go_simp
                exact ⟨Onto.refl _, rfl⟩
              refine Obs.cons (j := 12) rfl ?_ ?_
              · refine Ob.free [(34, some 10)] (by kernel_rfl) (isV (.bool false)) rfl rfl (fun a X hE hL => ?_)
                simp [Seen, slotAt, famV, isV] at hL
                have h34 := hL
                rw [relAt_eq]
                have f0 := keeps hE _ _ d1
                go_simp
                exact ⟨Onto.refl _, rfl⟩
              refine Obs.cons (j := 13) rfl ?_ ?_
              · refine Ob.free [(35, some 11)] (by kernel_rfl) (isV (.bool false)) rfl rfl (fun a X hE hL => ?_)
                simp [Seen, slotAt, famV, isV] at hL
                have h35 := hL
                rw [relAt_eq]
                go_simp
                exact ⟨Onto.refl _, rfl⟩
              refine Obs.cons (j := 14) rfl ?_ ?_
              · refine Ob.guarded [(1, none), (36, some 12)] (by kernel_rfl) (isV (.slice (some ⟨bb, ob, none⟩) m cb)) rfl 12 false 36 rfl rfl (fun a X hE hL => ?_)
                simp [Seen, slotAt, famV, isV] at hL
                obtain ⟨h1, h36⟩ := hL
                refine ⟨by simpa using h36, ?_⟩
                clear h36
                rw [relAt_eq]
                go_simp
                exact ⟨Onto.refl _, rfl⟩
              refine Obs.cons (j := 15) rfl ?_ ?_
              · refine Ob.guarded [(8, none), (36, some 12)] (by kernel_rfl) (isV (.int .i64 (p : Int))) rfl 12 false 36 rfl rfl (fun a X hE hL => ?_)
                simp [Seen, slotAt, famV, isV] at hL
                obtain ⟨h8, h36⟩ := hL
                refine ⟨by simpa using h36, ?_⟩
                clear h36
                rw [relAt_eq]
                go_simp
                exact ⟨Onto.refl _, rfl⟩
              refine Obs.cons (j := 16) rfl ?_ ?_
              · refine Ob.guarded [(37, some 13), (38, some 14), (36, some 12)] (by kernel_rfl) (isV (.pointer (some ⟨bb, ob + p, none⟩))) rfl 12 false 36 rfl rfl (fun a X hE hL => ?_)
                simp [Seen, slotAt, famV, isV] at hL
                obtain ⟨h37, h38, h36⟩ := hL
                refine ⟨by simpa using h36, ?_⟩
                clear h36
                rw [relAt_eq]
                go_simp
                exact ⟨Onto.refl _, rfl⟩
              refine Obs.cons (j := 17) rfl ?_ ?_
              · refine Ob.guarded [(39, some 15), (36, some 12)] (by kernel_rfl) (isV (.slice (some ⟨rb, so, none⟩) m cs)) rfl 12 false 36 rfl rfl (fun a X hE hL => ?_)
                simp [Seen, slotAt, famV, isV] at hL
                obtain ⟨h39, h36⟩ := hL
                refine ⟨by simpa using h36, ?_⟩
                clear h36
                rw [relAt_eq]
                have f0 := keeps hE _ _ e0
                go_simp
                exact ⟨Onto.refl _, rfl⟩
              refine Obs.cons (j := 18) rfl ?_ ?_
              · refine Ob.guarded [(9, none), (36, some 12)] (by kernel_rfl) (isV (.int .i64 (q : Int))) rfl 12 false 36 rfl rfl (fun a X hE hL => ?_)
                simp [Seen, slotAt, famV, isV] at hL
                obtain ⟨h9, h36⟩ := hL
                refine ⟨by simpa using h36, ?_⟩
                clear h36
                rw [relAt_eq]
                go_simp
                exact ⟨Onto.refl _, rfl⟩
              refine Obs.cons (j := 19) rfl ?_ ?_
              · refine Ob.guarded [(40, some 16), (41, some 17), (36, some 12)] (by kernel_rfl) (isV (.pointer (some ⟨rb, so + q, none⟩))) rfl 12 false 36 rfl rfl (fun a X hE hL => ?_)
                simp [Seen, slotAt, famV, isV] at hL
                obtain ⟨h40, h41, h36⟩ := hL
                refine ⟨by simpa using h36, ?_⟩
                clear h36
                rw [relAt_eq]
                go_simp
                exact ⟨Onto.refl _, rfl⟩
              refine Obs.cons (j := 20) rfl ?_ ?_
              · refine Ob.guarded [(42, some 18), (36, some 12)] (by kernel_rfl) (isV (.bool vb)) rfl 12 false 36 rfl rfl (fun a X hE hL => ?_)
                simp [Seen, slotAt, famV, isV] at hL
                obtain ⟨h42, h36⟩ := hL
                refine ⟨by simpa using h36, ?_⟩
                clear h36
                rw [relAt_eq]
                have f0 := keeps hE _ _ e1
                go_simp
                exact ⟨Onto.refl _, rfl⟩
              refine Obs.cons (j := 21) rfl ?_ ?_
              · refine Ob.free [(36, some 12), (43, some 19)] (by kernel_rfl) (isV (.bool vb)) rfl rfl (fun a X hE hL => ?_)
                simp [Seen, slotAt, famV, isV] at hL
                obtain ⟨h36, h43⟩ := hL
                rw [relAt_eq]
                go_simp
                exact ⟨Onto.refl _, rfl⟩
              refine Obs.cons (j := 22) rfl ?_ ?_
              · refine Ob.free [(27, some 3), (28, some 4)] (by kernel_rfl) (isV (.pointer (some ⟨b0, q, none⟩))) rfl rfl (fun a X hE hL => ?_)
                simp [Seen, slotAt, famV, isV] at hL
                obtain ⟨h27, h28⟩ := hL
                rw [relAt_eq]
                go_simp
                exact ⟨Onto.refl _, rfl⟩
              exact trivial
            case qF =>
              intro x wA hE hV
              simp [AllV, famV, isV] at hV
              obtain ⟨-, -, -, -, -, -, -, -, -, -, -, -, -, -, -, -, -, -, -, -, h44, h45⟩ := hV
              simp only [puts, Act.put, List.setIfInBounds_toArray, List.set_cons_zero, List.set_cons_succ, h44, h45]
              generalize x 24 = y24
              generalize x 25 = y25
              generalize x 26 = y26
              generalize x 27 = y27
              generalize x 28 = y28
              generalize x 29 = y29
              generalize x 30 = y30
              generalize x 31 = y31
              generalize x 32 = y32
              generalize x 33 = y33
              generalize x 34 = y34
              generalize x 35 = y35
              generalize x 36 = y36
              generalize x 37 = y37
              generalize x 38 = y38
              generalize x 39 = y39
              generalize x 40 = y40
              generalize x 41 = y41
              generalize x 42 = y42
              generalize x 43 = y43
              clear h44 h45
              have hbA := onto_drew hE
              have HBA := Lib.hid hbA
              have HMA := Lib.hid (HM2.out.below hbA)
              have cA := (hbA.cell (p := ⟨b0, q, none⟩) hb0l).trans c1
              have fA := (HMA.out.rows.at_ p b0 HBK.out).2.2
              clear hE hbA
              refine wpAny_ready (rs := [22]) (by kernel_rfl) (by simp) ?_
              refine AllReady.cons rfl (fun K hK => ?_) AllReady.nil
              rw [if_pos (by rfl)]
              refine wp_store1 _ _ rfl ⟨b0, q, none⟩ vb _ rfl rfl cA (frozen_of_row wA b0 q _ _ fA) ?_
              refine hK _ _ ?_
              clear hK K
              try simp only [Act.put, List.getElem_toArray, List.getElem_cons_succ, List.getElem_cons_zero, List.setIfInBounds_toArray, List.set_cons_zero, List.set_cons_succ]
              refine wpAny_done (by kernel_rfl) ?_ _
              go_wp2
              go_roundw
              case rel => exact ⟨q + 1, _, by omega, by go_num, HMA.out.set HBK.out (by omega) vb, fun p' q' hp hq => by have h9 := bos_next (HF.out p' q' hp hq); rw [HVV.out] at h9; exact h9, (HB.out.trans (HBA.out.mono (by omega))).trans (HMA.out.set_below HBK.out _ _)⟩
              case measure => simp [intOf]; omega
        · have y2 : ¬ (q : Int) ≤ (s.size : Int) := by omega
          have hqm : q = m := by omega
          subst hqm
          go_wp2
          go_roundw
          case rel => exact ⟨p + 1, f, by omega, by go_num, HM2.out, fun p' q' hp hq => by rw [HF.out p' q' hp hq]; exact bos_row hq, HB.out⟩
          case measure => simp [intOf]; omega
    · have z2 : ¬ (p : Int) ≤ (s.size : Int) := by omega
      have hpm : p = m := by omega
      subst hpm
      go_wp2
      go_ret
      exact GivM.mk (HM1.out.read.congr (fun p' q' hp hq => by
        have h := HF1.out p' q' hp hq
        unfold BoS at h
        unfold bothM
        rw [Bool.eq_iff_iff, h]
        constructor
        · intro h; exact h.1
        · intro h; exact ⟨h, .inl hp⟩)) (by rw [HG.out]; exact HB2.out)
set_option maxRecDepth 100000 in
set_option maxHeartbeats 4000000 in
theorem behind9_any (w : World) (Aa Ab : Option Addr) (ca cb : Nat) (a b : Mx) (s : ByteArray) (m : Nat) (hm : (s.size : Int) + 1 = (m : Int)) (hn : s.size ≤ 1000) (ha : MatR w Aa m a) (hb : MatR w Ab m b) :
    Calls Try.prog 57 #[.slice Aa m ca, .slice Ab m cb, .string s] w fun e w' => GivM w m (behM s.size a b) e w' := by
  have HN := Lib.hid (none9_any w s m hm hn)
  have HA := Lib.hid ha
  have HBB := Lib.hid hb
  obtain ⟨g, hg⟩ : ∃ g, w.heap.size = g := ⟨_, rfl⟩
  have HG := Lib.hid hg
  clear hg ha hb
  go_enter Try.func57, Try.ntmps57
  go_wp2_with fail
  refine HN.out.mono ?_
  rintro e w1 ⟨A, c, bs, rfl, hM, hb1⟩
  rw [HG.out] at hM hb1
  have HM := Lib.hid hM
  have HB1 := Lib.hid hb1
  clear hM hb1 HN
  go_wp2
  go_loopw [8] (fun i wr => ∃ (p : Nat) (f : Mx), p ≤ m ∧ i = .int .i64 (p : Int) ∧ MatO wr g m A c bs f ∧ (∀ p' q', p' < m → q' < m → (f p' q' = true ↔ BeS a b p p p p' q')) ∧ Below g w wr) (fun i _ => m - (intOf i).toNat)
  case atStart => exact ⟨0, _, by omega, rfl, HM.out, fun p' q' _ _ => by unfold BeS; simp, HB1.out⟩
  case round =>
    obtain ⟨p, f, hp, rfl, hM, hf, hb⟩ := hrel
    have HM1 := Lib.hid hM
    have HF1 := Lib.hid hf
    have HB2 := Lib.hid hb
    clear hM hb hf HM HB1
    by_cases hlt : p < m
    · have z0 : (0 : Int) ≤ (p : Int) := by omega
      have z1 : (p : Int) < (m : Int) := by omega
      have z2 : (p : Int) ≤ (s.size : Int) := by omega
      go_wp2
      go_loopw [9] (fun i wk => ∃ (k : Nat) (f : Mx), p ≤ k ∧ k ≤ m ∧ i = .int .i64 (k : Int) ∧ MatO wk g m A c bs f ∧ (∀ p' q', p' < m → q' < m → (f p' q' = true ↔ BeS a b p k k p' q')) ∧ Below g w wk) (fun i _ => m - (intOf i).toNat)
      case atStart => exact ⟨p, f, by omega, by omega, rfl, HM1.out, HF1.out, HB2.out⟩
      case round =>
        obtain ⟨k, f, hpk, hk, rfl, hM, hf, hb⟩ := hrel
        have HM3 := Lib.hid hM
        have HF3 := Lib.hid hf
        have HB3 := Lib.hid hb
        clear hM hb hf HM1 HF1 HB2
        by_cases hltk : k < m
        · have x0 : (0 : Int) ≤ (k : Int) := by omega
          have x1 : (k : Int) < (m : Int) := by omega
          have x2 : (k : Int) ≤ (s.size : Int) := by omega
          obtain ⟨vk, hvk⟩ : ∃ v, a p k = v := ⟨_, rfl⟩
          have HAK := Lib.hid hvk
          go_wp2
          go_loopw [10] (fun i wq => ∃ (q : Nat) (f : Mx), k ≤ q ∧ q ≤ m ∧ i = .int .i64 (q : Int) ∧ MatO wq g m A c bs f ∧ (∀ p' q', p' < m → q' < m → (f p' q' = true ↔ BeS a b p k q p' q')) ∧ Below g w wq) (fun i _ => m - (intOf i).toNat)
          case atStart => exact ⟨k, f, by omega, by omega, rfl, HM3.out, HF3.out, HB3.out⟩
          case round =>
            obtain ⟨q, f, hkq, hq, rfl, hM, hf, hb⟩ := hrel
            have HM2 := Lib.hid hM
            have HF := Lib.hid hf
            have HB := Lib.hid hb
            clear hM hb hf HM3 HF3 HB3
            have hbw : Below w.heap.size w wr := by rw [HG.out]; exact HB.out
            obtain ⟨ba, oa, ra, ro, cr, rfl, hba, d0, hra, d1⟩ := (HA.out.below hbw) p hlt
            have d2 := d1 k hltk
            rw [hvk] at d2
            clear d1
            cases vk with
            | false =>
              clear hvk hbw
              go_wp2
              go_roundw
              case rel => exact ⟨k + 1, f, by omega, by omega, by go_num, HM2.out, fun p' q' hp hq => by rw [HF.out p' q' hp hq]; exact bes_k (.inl HAK.out), HB.out⟩
              case measure => simp [intOf]; omega
            | true =>
              by_cases hltq : q < m
              · obtain ⟨g0, b0, rfl, hbk, hg0, hg0l, hb0, hb0l, c0, c1, hfz⟩ := HM2.out.cells hlt
                obtain ⟨bb, ob, rb, so, cs, rfl, hbb, e0, hrb, e1⟩ := (HBB.out.below hbw) k hltk
                have c1 := c1 q hltq
                have e1 := e1 q hltq
                have hfz := hfz q
                have HBK := Lib.hid hbk
                have y0 : (0 : Int) ≤ (q : Int) := by omega
                have y1 : (q : Int) < (m : Int) := by omega
                have y2 : (q : Int) ≤ (s.size : Int) := by omega
                obtain ⟨vf, hvf⟩ : ∃ v, f p q = v := ⟨_, rfl⟩
                obtain ⟨vb, hvb⟩ : ∃ v, b k q = v := ⟨_, rfl⟩
                have HVV : Hid ((vf || vb) = true ↔ (f p q = true ∨ b k q = true)) := Lib.hid (by rw [hvf, hvb, Bool.or_eq_true])
                rw [hvf] at c1
                rw [hvb] at e1
                clear hvf hvb hbk hbw hvk
                cases vf with
                | true =>
                  rw [Bool.true_or] at HVV
                  go_wp2_with fail
                  refine wp_region_fam_tail_lit (E := Onto) 22 1
                    [isV (.slice (some ⟨g0, 0, none⟩) m c),
                     isV (.int .i64 (p : Int)),
                     isV (.pointer (some ⟨g0, p, none⟩)),
                     isV (.slice (some ⟨b0, 0, none⟩) m m),
                     isV (.int .i64 (q : Int)),
                     isV (.slice (some ⟨g0, 0, none⟩) m c),
                     isV (.int .i64 (p : Int)),
                     isV (.pointer (some ⟨g0, p, none⟩)),
                     isV (.slice (some ⟨b0, 0, none⟩) m m),
                     isV (.int .i64 (q : Int)),
                     isV (.pointer (some ⟨b0, q, none⟩)),
                     isV (.bool true),
                     isV (.bool true),
                     isV undef,
                     isV undef,
                     isV undef,
                     isV undef,
                     isV undef,
                     isV undef,
                     isV undef,
                     isV (.bool true),
                     isV (.pointer (some ⟨b0, q, none⟩))]
                    [some 42, some 43, some 44, some 45, some 46, some 47, some 48, some 49, some 50, some 51, some 52, some 53, some 54, some 55, some 56, some 57, some 58, some 59, some 60, some 61, some 62, some 63] #[true, true, true, true, true, true, true, true, true, true, true, true, true, true, true, true, true, true, true, true, true, true, false] (by kernel_rfl) rfl (by kernel_rfl) (by kernel_rfl) rfl rfl rfl Onto.trans Onto.refl ?monoT ?obT ?qT
                  case monoT => exact ⟨isV_mono _ _, isV_mono _ _, isV_mono _ _, isV_mono _ _, isV_mono _ _, isV_mono _ _, isV_mono _ _, isV_mono _ _, isV_mono _ _, isV_mono _ _, isV_mono _ _, isV_mono _ _, isV_mono _ _, isV_mono _ _, isV_mono _ _, isV_mono _ _, isV_mono _ _, isV_mono _ _, isV_mono _ _, isV_mono _ _, isV_mono _ _, isV_mono _ _, trivial⟩
                  case obT =>
                    refine Obs.cons (j := 1) rfl ?_ ?_
                    · refine Ob.free [(7, none)] (by kernel_rfl) (isV (.slice (some ⟨g0, 0, none⟩) m c)) rfl rfl (fun a X hE hL => ?_)
                      simp [Seen, slotAt] at hL
                      have h7 := hL
                      rw [relAt_eq]
                      go_simp
                      exact ⟨Onto.refl _, rfl⟩
                    refine Obs.cons (j := 2) rfl ?_ ?_
                    · refine Ob.free [(8, none)] (by kernel_rfl) (isV (.int .i64 (p : Int))) rfl rfl (fun a X hE hL => ?_)
                      simp [Seen, slotAt] at hL
                      have h8 := hL
                      rw [relAt_eq]
                      go_simp
                      exact ⟨Onto.refl _, rfl⟩
                    refine Obs.cons (j := 3) rfl ?_ ?_
                    · refine Ob.free [(42, some 0), (43, some 1)] (by kernel_rfl) (isV (.pointer (some ⟨g0, p, none⟩))) rfl rfl (fun a X hE hL => ?_)
                      simp [Seen, slotAt, famV, isV] at hL
                      obtain ⟨h42, h43⟩ := hL
                      rw [relAt_eq]
                      go_simp
                      exact ⟨Onto.refl _, rfl⟩
                    refine Obs.cons (j := 4) rfl ?_ ?_
                    · refine Ob.free [(44, some 2)] (by kernel_rfl) (isV (.slice (some ⟨b0, 0, none⟩) m m)) rfl rfl (fun a X hE hL => ?_)
                      simp [Seen, slotAt, famV, isV] at hL
                      have h44 := hL
                      rw [relAt_eq]
                      have f0 := keeps hE _ _ c0
                      go_simp
                      exact ⟨Onto.refl _, rfl⟩
                    refine Obs.cons (j := 5) rfl ?_ ?_
                    · refine Ob.free [(10, none)] (by kernel_rfl) (isV (.int .i64 (q : Int))) rfl rfl (fun a X hE hL => ?_)
                      simp [Seen, slotAt] at hL
                      have h10 := hL
                      rw [relAt_eq]
                      go_simp
                      exact ⟨Onto.refl _, rfl⟩
                    refine Obs.cons (j := 6) rfl ?_ ?_
                    · refine Ob.free [(7, none)] (by kernel_rfl) (isV (.slice (some ⟨g0, 0, none⟩) m c)) rfl rfl (fun a X hE hL => ?_)
                      simp [Seen, slotAt] at hL
                      have h7 := hL
                      rw [relAt_eq]
                      go_simp
                      exact ⟨Onto.refl _, rfl⟩
                    refine Obs.cons (j := 7) rfl ?_ ?_
                    · refine Ob.free [(8, none)] (by kernel_rfl) (isV (.int .i64 (p : Int))) rfl rfl (fun a X hE hL => ?_)
                      simp [Seen, slotAt] at hL
                      have h8 := hL
                      rw [relAt_eq]
                      go_simp
                      exact ⟨Onto.refl _, rfl⟩
                    refine Obs.cons (j := 8) rfl ?_ ?_
                    · refine Ob.free [(47, some 5), (48, some 6)] (by kernel_rfl) (isV (.pointer (some ⟨g0, p, none⟩))) rfl rfl (fun a X hE hL => ?_)
                      simp [Seen, slotAt, famV, isV] at hL
                      obtain ⟨h47, h48⟩ := hL
                      rw [relAt_eq]
                      go_simp
                      exact ⟨Onto.refl _, rfl⟩
                    refine Obs.cons (j := 9) rfl ?_ ?_
                    · refine Ob.free [(49, some 7)] (by kernel_rfl) (isV (.slice (some ⟨b0, 0, none⟩) m m)) rfl rfl (fun a X hE hL => ?_)
                      simp [Seen, slotAt, famV, isV] at hL
                      have h49 := hL
                      rw [relAt_eq]
                      have f0 := keeps hE _ _ c0
                      go_simp
                      exact ⟨Onto.refl _, rfl⟩
                    refine Obs.cons (j := 10) rfl ?_ ?_
                    · refine Ob.free [(10, none)] (by kernel_rfl) (isV (.int .i64 (q : Int))) rfl rfl (fun a X hE hL => ?_)
                      simp [Seen, slotAt] at hL
                      have h10 := hL
                      rw [relAt_eq]
                      go_simp
                      exact ⟨Onto.refl _, rfl⟩
                    refine Obs.cons (j := 11) rfl ?_ ?_
                    · refine Ob.free [(50, some 8), (51, some 9)] (by kernel_rfl) (isV (.pointer (some ⟨b0, q, none⟩))) rfl rfl (fun a X hE hL => ?_)
                      simp [Seen, slotAt, famV, isV] at hL
                      obtain ⟨h50, h51⟩ := hL
                      rw [relAt_eq]
                      go_simp
                      exact ⟨Onto.refl _, rfl⟩
                    refine Obs.cons (j := 12) rfl ?_ ?_
                    · refine Ob.free [(52, some 10)] (by kernel_rfl) (isV (.bool true)) rfl rfl (fun a X hE hL => ?_)
                      simp [Seen, slotAt, famV, isV] at hL
                      have h52 := hL
                      rw [relAt_eq]
                      have f0 := keeps hE _ _ c1
                      go_simp
                      exact ⟨Onto.refl _, rfl⟩
                    refine Obs.cons (j := 13) rfl ?_ ?_
                    · refine Ob.free [(53, some 11)] (by kernel_rfl) (isV (.bool true)) rfl rfl (fun a X hE hL => ?_)
                      simp [Seen, slotAt, famV, isV] at hL
                      have h53 := hL
                      rw [relAt_eq]
                      go_simp
                      exact ⟨Onto.refl _, rfl⟩
                    refine Obs.cons (j := 14) rfl ?_ ?_
                    · refine Ob.skip [(1, none), (54, some 12)] (by kernel_rfl) rfl 12 false 54 rfl rfl (fun a X hE hL => ?_)
                      simp [Seen, slotAt, famV, isV] at hL
                      obtain ⟨h1, h54⟩ := hL
                      simpa using h54
                    refine Obs.cons (j := 15) rfl ?_ ?_
                    · refine Ob.skip [(9, none), (54, some 12)] (by kernel_rfl) rfl 12 false 54 rfl rfl (fun a X hE hL => ?_)
                      simp [Seen, slotAt, famV, isV] at hL
                      obtain ⟨h9, h54⟩ := hL
                      simpa using h54
                    refine Obs.cons (j := 16) rfl ?_ ?_
                    · refine Ob.skip [(55, some 13), (56, some 14), (54, some 12)] (by kernel_rfl) rfl 12 false 54 rfl rfl (fun a X hE hL => ?_)
                      simp [Seen, slotAt, famV, isV] at hL
                      obtain ⟨h55, h56, h54⟩ := hL
                      simpa using h54
                    refine Obs.cons (j := 17) rfl ?_ ?_
                    · refine Ob.skip [(57, some 15), (54, some 12)] (by kernel_rfl) rfl 12 false 54 rfl rfl (fun a X hE hL => ?_)
                      simp [Seen, slotAt, famV, isV] at hL
                      obtain ⟨h57, h54⟩ := hL
                      simpa using h54
                    refine Obs.cons (j := 18) rfl ?_ ?_
                    · refine Ob.skip [(10, none), (54, some 12)] (by kernel_rfl) rfl 12 false 54 rfl rfl (fun a X hE hL => ?_)
                      simp [Seen, slotAt, famV, isV] at hL
                      obtain ⟨h10, h54⟩ := hL
                      simpa using h54
                    refine Obs.cons (j := 19) rfl ?_ ?_
                    · refine Ob.skip [(58, some 16), (59, some 17), (54, some 12)] (by kernel_rfl) rfl 12 false 54 rfl rfl (fun a X hE hL => ?_)
                      simp [Seen, slotAt, famV, isV] at hL
                      obtain ⟨h58, h59, h54⟩ := hL
                      simpa using h54
                    refine Obs.cons (j := 20) rfl ?_ ?_
                    · refine Ob.skip [(60, some 18), (54, some 12)] (by kernel_rfl) rfl 12 false 54 rfl rfl (fun a X hE hL => ?_)
                      simp [Seen, slotAt, famV, isV] at hL
                      obtain ⟨h60, h54⟩ := hL
                      simpa using h54
                    refine Obs.cons (j := 21) rfl ?_ ?_
                    · refine Ob.free [(54, some 12), (61, some 19)] (by kernel_rfl) (isV (.bool true)) rfl rfl (fun a X hE hL => ?_)
                      simp [Seen, slotAt, famV, isV] at hL
                      obtain ⟨h54, h61⟩ := hL
                      rw [relAt_eq]
                      go_simp
                      exact ⟨Onto.refl _, rfl⟩
                    refine Obs.cons (j := 22) rfl ?_ ?_
                    · refine Ob.free [(45, some 3), (46, some 4)] (by kernel_rfl) (isV (.pointer (some ⟨b0, q, none⟩))) rfl rfl (fun a X hE hL => ?_)
                      simp [Seen, slotAt, famV, isV] at hL
                      obtain ⟨h45, h46⟩ := hL
                      rw [relAt_eq]
                      go_simp
                      exact ⟨Onto.refl _, rfl⟩
                    exact trivial
                  case qT =>
                    intro x wA hE hV
                    simp [AllV, famV, isV] at hV
                    obtain ⟨-, -, -, -, -, -, -, -, -, -, -, -, -, -, -, -, -, -, -, -, h62, h63⟩ := hV
                    simp only [puts, Act.put, List.setIfInBounds_toArray, List.set_cons_zero, List.set_cons_succ, h62, h63]
                    generalize x 42 = y42
                    generalize x 43 = y43
                    generalize x 44 = y44
                    generalize x 45 = y45
                    generalize x 46 = y46
                    generalize x 47 = y47
                    generalize x 48 = y48
                    generalize x 49 = y49
                    generalize x 50 = y50
                    generalize x 51 = y51
                    generalize x 52 = y52
                    generalize x 53 = y53
                    generalize x 54 = y54
                    generalize x 55 = y55
                    generalize x 56 = y56
                    generalize x 57 = y57
                    generalize x 58 = y58
                    generalize x 59 = y59
                    generalize x 60 = y60
                    generalize x 61 = y61
                    clear h62 h63
                    have hbA := onto_drew hE
                    have HBA := Lib.hid hbA
                    have HMA := Lib.hid (HM2.out.below hbA)
                    have cA := (hbA.cell (p := ⟨b0, q, none⟩) hb0l).trans c1
                    have fA := (HMA.out.rows.at_ p b0 HBK.out).2.2
                    clear hE hbA
                    refine wpAny_ready (rs := [22]) (by kernel_rfl) (by simp) ?_
                    refine AllReady.cons rfl (fun K hK => ?_) AllReady.nil
                    rw [if_pos (by rfl)]
                    refine wp_store1 _ _ rfl ⟨b0, q, none⟩ true _ rfl rfl cA (frozen_of_row wA b0 q _ _ fA) ?_
                    refine hK _ _ ?_
                    clear hK K
                    try simp only [Act.put, List.getElem_toArray, List.getElem_cons_succ, List.getElem_cons_zero, List.setIfInBounds_toArray, List.set_cons_zero, List.set_cons_succ]
                    refine wpAny_done (by kernel_rfl) ?_ _
                    go_wp2
                    go_roundw
                    case rel => exact ⟨q + 1, _, by omega, by omega, by go_num, HMA.out.set HBK.out (by omega) true, fun p' q' hp hq => bes_next (by omega) (by omega) HAK.out (HF.out p' q' hp hq) (by simpa using HVV.out) (HF.out p q (by omega) (by omega)), (HB.out.trans (HBA.out.mono (by omega))).trans (HMA.out.set_below HBK.out _ _)⟩
                    case measure => simp [intOf]; omega
                | false =>
                  rw [Bool.false_or] at HVV
                  go_wp2_with fail
                  refine wp_region_fam_tail_lit (E := Onto) 22 1
                    [isV (.slice (some ⟨g0, 0, none⟩) m c),
                     isV (.int .i64 (p : Int)),
                     isV (.pointer (some ⟨g0, p, none⟩)),
                     isV (.slice (some ⟨b0, 0, none⟩) m m),
                     isV (.int .i64 (q : Int)),
                     isV (.slice (some ⟨g0, 0, none⟩) m c),
                     isV (.int .i64 (p : Int)),
                     isV (.pointer (some ⟨g0, p, none⟩)),
                     isV (.slice (some ⟨b0, 0, none⟩) m m),
                     isV (.int .i64 (q : Int)),
                     isV (.pointer (some ⟨b0, q, none⟩)),
                     isV (.bool false),
                     isV (.bool false),
                     isV (.slice (some ⟨bb, ob, none⟩) m cb),
                     isV (.int .i64 (k : Int)),
                     isV (.pointer (some ⟨bb, ob + k, none⟩)),
                     isV (.slice (some ⟨rb, so, none⟩) m cs),
                     isV (.int .i64 (q : Int)),
                     isV (.pointer (some ⟨rb, so + q, none⟩)),
                     isV (.bool vb),
                     isV (.bool vb),
                     isV (.pointer (some ⟨b0, q, none⟩))]
                    [some 42, some 43, some 44, some 45, some 46, some 47, some 48, some 49, some 50, some 51, some 52, some 53, some 54, some 55, some 56, some 57, some 58, some 59, some 60, some 61, some 62, some 63] #[true, true, true, true, true, true, true, true, true, true, true, true, true, true, true, true, true, true, true, true, true, true, false] (by kernel_rfl) rfl (by kernel_rfl) (by kernel_rfl) rfl rfl rfl Onto.trans Onto.refl ?monoF ?obF ?qF
                  case monoF => exact ⟨isV_mono _ _, isV_mono _ _, isV_mono _ _, isV_mono _ _, isV_mono _ _, isV_mono _ _, isV_mono _ _, isV_mono _ _, isV_mono _ _, isV_mono _ _, isV_mono _ _, isV_mono _ _, isV_mono _ _, isV_mono _ _, isV_mono _ _, isV_mono _ _, isV_mono _ _, isV_mono _ _, isV_mono _ _, isV_mono _ _, isV_mono _ _, isV_mono _ _, trivial⟩
                  case obF =>
                    refine Obs.cons (j := 1) rfl ?_ ?_
                    · refine Ob.free [(7, none)] (by kernel_rfl) (isV (.slice (some ⟨g0, 0, none⟩) m c)) rfl rfl (fun a X hE hL => ?_)
                      simp [Seen, slotAt] at hL
                      have h7 := hL
                      rw [relAt_eq]
                      go_simp
                      exact ⟨Onto.refl _, rfl⟩
                    refine Obs.cons (j := 2) rfl ?_ ?_
                    · refine Ob.free [(8, none)] (by kernel_rfl) (isV (.int .i64 (p : Int))) rfl rfl (fun a X hE hL => ?_)
                      simp [Seen, slotAt] at hL
                      have h8 := hL
                      rw [relAt_eq]
                      go_simp
                      exact ⟨Onto.refl _, rfl⟩
                    refine Obs.cons (j := 3) rfl ?_ ?_
                    · refine Ob.free [(42, some 0), (43, some 1)] (by kernel_rfl) (isV (.pointer (some ⟨g0, p, none⟩))) rfl rfl (fun a X hE hL => ?_)
                      simp [Seen, slotAt, famV, isV] at hL
                      obtain ⟨h42, h43⟩ := hL
                      rw [relAt_eq]
                      go_simp
                      exact ⟨Onto.refl _, rfl⟩
                    refine Obs.cons (j := 4) rfl ?_ ?_
                    · refine Ob.free [(44, some 2)] (by kernel_rfl) (isV (.slice (some ⟨b0, 0, none⟩) m m)) rfl rfl (fun a X hE hL => ?_)
                      simp [Seen, slotAt, famV, isV] at hL
                      have h44 := hL
                      rw [relAt_eq]
                      have f0 := keeps hE _ _ c0
                      go_simp
                      exact ⟨Onto.refl _, rfl⟩
                    refine Obs.cons (j := 5) rfl ?_ ?_
                    · refine Ob.free [(10, none)] (by kernel_rfl) (isV (.int .i64 (q : Int))) rfl rfl (fun a X hE hL => ?_)
                      simp [Seen, slotAt] at hL
                      have h10 := hL
                      rw [relAt_eq]
                      go_simp
                      exact ⟨Onto.refl _, rfl⟩
                    refine Obs.cons (j := 6) rfl ?_ ?_
                    · refine Ob.free [(7, none)] (by kernel_rfl) (isV (.slice (some ⟨g0, 0, none⟩) m c)) rfl rfl (fun a X hE hL => ?_)
                      simp [Seen, slotAt] at hL
                      have h7 := hL
                      rw [relAt_eq]
                      go_simp
                      exact ⟨Onto.refl _, rfl⟩
                    refine Obs.cons (j := 7) rfl ?_ ?_
                    · refine Ob.free [(8, none)] (by kernel_rfl) (isV (.int .i64 (p : Int))) rfl rfl (fun a X hE hL => ?_)
                      simp [Seen, slotAt] at hL
                      have h8 := hL
                      rw [relAt_eq]
                      go_simp
                      exact ⟨Onto.refl _, rfl⟩
                    refine Obs.cons (j := 8) rfl ?_ ?_
                    · refine Ob.free [(47, some 5), (48, some 6)] (by kernel_rfl) (isV (.pointer (some ⟨g0, p, none⟩))) rfl rfl (fun a X hE hL => ?_)
                      simp [Seen, slotAt, famV, isV] at hL
                      obtain ⟨h47, h48⟩ := hL
                      rw [relAt_eq]
                      go_simp
                      exact ⟨Onto.refl _, rfl⟩
                    refine Obs.cons (j := 9) rfl ?_ ?_
                    · refine Ob.free [(49, some 7)] (by kernel_rfl) (isV (.slice (some ⟨b0, 0, none⟩) m m)) rfl rfl (fun a X hE hL => ?_)
                      simp [Seen, slotAt, famV, isV] at hL
                      have h49 := hL
                      rw [relAt_eq]
                      have f0 := keeps hE _ _ c0
                      go_simp
                      exact ⟨Onto.refl _, rfl⟩
                    refine Obs.cons (j := 10) rfl ?_ ?_
                    · refine Ob.free [(10, none)] (by kernel_rfl) (isV (.int .i64 (q : Int))) rfl rfl (fun a X hE hL => ?_)
                      simp [Seen, slotAt] at hL
                      have h10 := hL
                      rw [relAt_eq]
                      go_simp
                      exact ⟨Onto.refl _, rfl⟩
                    refine Obs.cons (j := 11) rfl ?_ ?_
                    · refine Ob.free [(50, some 8), (51, some 9)] (by kernel_rfl) (isV (.pointer (some ⟨b0, q, none⟩))) rfl rfl (fun a X hE hL => ?_)
                      simp [Seen, slotAt, famV, isV] at hL
                      obtain ⟨h50, h51⟩ := hL
                      rw [relAt_eq]
                      go_simp
                      exact ⟨Onto.refl _, rfl⟩
                    refine Obs.cons (j := 12) rfl ?_ ?_
                    · refine Ob.free [(52, some 10)] (by kernel_rfl) (isV (.bool false)) rfl rfl (fun a X hE hL => ?_)
                      simp [Seen, slotAt, famV, isV] at hL
                      have h52 := hL
                      rw [relAt_eq]
                      have f0 := keeps hE _ _ c1
                      go_simp
                      exact ⟨Onto.refl _, rfl⟩
                    refine Obs.cons (j := 13) rfl ?_ ?_
                    · refine Ob.free [(53, some 11)] (by kernel_rfl) (isV (.bool false)) rfl rfl (fun a X hE hL => ?_)
                      simp [Seen, slotAt, famV, isV] at hL
                      have h53 := hL
                      rw [relAt_eq]
                      go_simp
                      exact ⟨Onto.refl _, rfl⟩
                    refine Obs.cons (j := 14) rfl ?_ ?_
                    · refine Ob.guarded [(1, none), (54, some 12)] (by kernel_rfl) (isV (.slice (some ⟨bb, ob, none⟩) m cb)) rfl 12 false 54 rfl rfl (fun a X hE hL => ?_)
                      simp [Seen, slotAt, famV, isV] at hL
                      obtain ⟨h1, h54⟩ := hL
                      refine ⟨by simpa using h54, ?_⟩
                      clear h54
                      rw [relAt_eq]
                      go_simp
                      exact ⟨Onto.refl _, rfl⟩
                    refine Obs.cons (j := 15) rfl ?_ ?_
                    · refine Ob.guarded [(9, none), (54, some 12)] (by kernel_rfl) (isV (.int .i64 (k : Int))) rfl 12 false 54 rfl rfl (fun a X hE hL => ?_)
                      simp [Seen, slotAt, famV, isV] at hL
                      obtain ⟨h9, h54⟩ := hL
                      refine ⟨by simpa using h54, ?_⟩
                      clear h54
                      rw [relAt_eq]
                      go_simp
                      exact ⟨Onto.refl _, rfl⟩
                    refine Obs.cons (j := 16) rfl ?_ ?_
                    · refine Ob.guarded [(55, some 13), (56, some 14), (54, some 12)] (by kernel_rfl) (isV (.pointer (some ⟨bb, ob + k, none⟩))) rfl 12 false 54 rfl rfl (fun a X hE hL => ?_)
                      simp [Seen, slotAt, famV, isV] at hL
                      obtain ⟨h55, h56, h54⟩ := hL
                      refine ⟨by simpa using h54, ?_⟩
                      clear h54
                      rw [relAt_eq]
                      go_simp
                      exact ⟨Onto.refl _, rfl⟩
                    refine Obs.cons (j := 17) rfl ?_ ?_
                    · refine Ob.guarded [(57, some 15), (54, some 12)] (by kernel_rfl) (isV (.slice (some ⟨rb, so, none⟩) m cs)) rfl 12 false 54 rfl rfl (fun a X hE hL => ?_)
                      simp [Seen, slotAt, famV, isV] at hL
                      obtain ⟨h57, h54⟩ := hL
                      refine ⟨by simpa using h54, ?_⟩
                      clear h54
                      rw [relAt_eq]
                      have f0 := keeps hE _ _ e0
                      go_simp
                      exact ⟨Onto.refl _, rfl⟩
                    refine Obs.cons (j := 18) rfl ?_ ?_
                    · refine Ob.guarded [(10, none), (54, some 12)] (by kernel_rfl) (isV (.int .i64 (q : Int))) rfl 12 false 54 rfl rfl (fun a X hE hL => ?_)
                      simp [Seen, slotAt, famV, isV] at hL
                      obtain ⟨h10, h54⟩ := hL
                      refine ⟨by simpa using h54, ?_⟩
                      clear h54
                      rw [relAt_eq]
                      go_simp
                      exact ⟨Onto.refl _, rfl⟩
                    refine Obs.cons (j := 19) rfl ?_ ?_
                    · refine Ob.guarded [(58, some 16), (59, some 17), (54, some 12)] (by kernel_rfl) (isV (.pointer (some ⟨rb, so + q, none⟩))) rfl 12 false 54 rfl rfl (fun a X hE hL => ?_)
                      simp [Seen, slotAt, famV, isV] at hL
                      obtain ⟨h58, h59, h54⟩ := hL
                      refine ⟨by simpa using h54, ?_⟩
                      clear h54
                      rw [relAt_eq]
                      go_simp
                      exact ⟨Onto.refl _, rfl⟩
                    refine Obs.cons (j := 20) rfl ?_ ?_
                    · refine Ob.guarded [(60, some 18), (54, some 12)] (by kernel_rfl) (isV (.bool vb)) rfl 12 false 54 rfl rfl (fun a X hE hL => ?_)
                      simp [Seen, slotAt, famV, isV] at hL
                      obtain ⟨h60, h54⟩ := hL
                      refine ⟨by simpa using h54, ?_⟩
                      clear h54
                      rw [relAt_eq]
                      have f0 := keeps hE _ _ e1
                      go_simp
                      exact ⟨Onto.refl _, rfl⟩
                    refine Obs.cons (j := 21) rfl ?_ ?_
                    · refine Ob.free [(54, some 12), (61, some 19)] (by kernel_rfl) (isV (.bool vb)) rfl rfl (fun a X hE hL => ?_)
                      simp [Seen, slotAt, famV, isV] at hL
                      obtain ⟨h54, h61⟩ := hL
                      rw [relAt_eq]
                      go_simp
                      exact ⟨Onto.refl _, rfl⟩
                    refine Obs.cons (j := 22) rfl ?_ ?_
                    · refine Ob.free [(45, some 3), (46, some 4)] (by kernel_rfl) (isV (.pointer (some ⟨b0, q, none⟩))) rfl rfl (fun a X hE hL => ?_)
                      simp [Seen, slotAt, famV, isV] at hL
                      obtain ⟨h45, h46⟩ := hL
                      rw [relAt_eq]
                      go_simp
                      exact ⟨Onto.refl _, rfl⟩
                    exact trivial
                  case qF =>
                    intro x wA hE hV
                    simp [AllV, famV, isV] at hV
                    obtain ⟨-, -, -, -, -, -, -, -, -, -, -, -, -, -, -, -, -, -, -, -, h62, h63⟩ := hV
                    simp only [puts, Act.put, List.setIfInBounds_toArray, List.set_cons_zero, List.set_cons_succ, h62, h63]
                    generalize x 42 = y42
                    generalize x 43 = y43
                    generalize x 44 = y44
                    generalize x 45 = y45
                    generalize x 46 = y46
                    generalize x 47 = y47
                    generalize x 48 = y48
                    generalize x 49 = y49
                    generalize x 50 = y50
                    generalize x 51 = y51
                    generalize x 52 = y52
                    generalize x 53 = y53
                    generalize x 54 = y54
                    generalize x 55 = y55
                    generalize x 56 = y56
                    generalize x 57 = y57
                    generalize x 58 = y58
                    generalize x 59 = y59
                    generalize x 60 = y60
                    generalize x 61 = y61
                    clear h62 h63
                    have hbA := onto_drew hE
                    have HBA := Lib.hid hbA
                    have HMA := Lib.hid (HM2.out.below hbA)
                    have cA := (hbA.cell (p := ⟨b0, q, none⟩) hb0l).trans c1
                    have fA := (HMA.out.rows.at_ p b0 HBK.out).2.2
                    clear hE hbA
                    refine wpAny_ready (rs := [22]) (by kernel_rfl) (by simp) ?_
                    refine AllReady.cons rfl (fun K hK => ?_) AllReady.nil
                    rw [if_pos (by rfl)]
                    refine wp_store1 _ _ rfl ⟨b0, q, none⟩ vb _ rfl rfl cA (frozen_of_row wA b0 q _ _ fA) ?_
                    refine hK _ _ ?_
                    clear hK K
                    try simp only [Act.put, List.getElem_toArray, List.getElem_cons_succ, List.getElem_cons_zero, List.setIfInBounds_toArray, List.set_cons_zero, List.set_cons_succ]
                    refine wpAny_done (by kernel_rfl) ?_ _
                    go_wp2
                    go_roundw
                    case rel => exact ⟨q + 1, _, by omega, by omega, by go_num, HMA.out.set HBK.out (by omega) vb, fun p' q' hp hq => bes_next (by omega) (by omega) HAK.out (HF.out p' q' hp hq) (by simpa using HVV.out) (HF.out p q (by omega) (by omega)), (HB.out.trans (HBA.out.mono (by omega))).trans (HMA.out.set_below HBK.out _ _)⟩
                    case measure => simp [intOf]; omega
              · have y2 : ¬ (q : Int) ≤ (s.size : Int) := by omega
                have y3 : decide ((q : Int) ≤ (s.size : Int)) = false := decide_eq_false y2
                have y4 : ¬ q ≤ s.size := by omega
                have y5 : decide (q ≤ s.size) = false := decide_eq_false y4
                have hqm : q = m := by omega
                clear hvk hbw
                go_wp2
                go_roundw
                case rel => exact ⟨k + 1, f, by omega, by omega, by go_num, HM2.out, fun p' q' hp hq => by rw [HF.out p' q' hp hq]; exact bes_k (.inr (by omega)), HB.out⟩
                case measure => simp [intOf]; omega
        · have x2 : ¬ (k : Int) ≤ (s.size : Int) := by omega
          have hkm : k = m := by omega
          subst hkm
          go_wp2
          go_roundw
          case rel => exact ⟨p + 1, f, by omega, by go_num, HM3.out, fun p' q' hp hq => by rw [HF3.out p' q' hp hq]; exact bes_p hq, HB3.out⟩
          case measure => simp [intOf]; omega
    · have z2 : ¬ (p : Int) ≤ (s.size : Int) := by omega
      have hpm : p = m := by omega
      subst hpm
      go_wp2
      go_ret
      exact GivM.mk (HM1.out.read.congr (fun p' q' hp hq => by
        have h := HF1.out p' q' hp hq
        rw [bes_end (n := s.size) (by omega) hp hq] at h
        rw [Bool.eq_iff_iff, h])) (by rw [HG.out]; exact HB2.out)
set_option maxRecDepth 100000 in
set_option maxHeartbeats 2000000 in
theorem again9_any (w : World) (Aa : Option Addr) (ca : Nat) (a : Mx) (s : ByteArray) (m : Nat) (hm : (s.size : Int) + 1 = (m : Int)) (hn : s.size ≤ 1000) (ha : MatR w Aa m a) :
    Calls Try.prog 59 #[.slice Aa m ca, .string s] w fun e w' => ∃ r, s.size + 1 < 2 ^ r ∧ GivM w m (agM s.size a r) e w' := by
  have HA := Lib.hid ha
  obtain ⟨g, hg⟩ : ∃ g, w.heap.size = g := ⟨_, rfl⟩
  have HG := Lib.hid hg
  have HBE := Lib.hid (fun (X : World) (A1 A2 : Option Addr) (c1 c2 : Nat) (a b : Mx) => behind9_any X A1 A2 c1 c2 a b s m hm hn)
  have HBO := Lib.hid (fun (X : World) (A1 A2 : Option Addr) (c1 c2 : Nat) (a b : Mx) => both9_any X A1 A2 c1 c2 a b s m hm hn)
  clear hg ha
  go_enter Try.func59, Try.ntmps59
  go_wp2
  go_loopw [5, 6] (fun u i wr => ∃ (r : Nat) (A : Option Addr) (c : Nat), u = .slice A m c ∧ i = .int .i64 ((2 ^ r : Nat) : Int) ∧ 2 ^ r ≤ 3000 ∧ MatR wr A m (agM s.size a r) ∧ Below g w wr) (fun _ i _ => 3000 - (intOf i).toNat)
  case atStart => exact ⟨0, Aa, ca, rfl, rfl, by decide, HA.out, by rw [← HG.out]; exact Below.refl _ _⟩
  case round =>
    obtain ⟨r, A, c, rfl, rfl, h3, hM, hb⟩ := hrel
    have HM := Lib.hid hM
    have HB := Lib.hid hb
    clear hM hb
    obtain ⟨x, hx⟩ : ∃ x, 2 ^ r = x := ⟨_, rfl⟩
    have hx1 : 1 ≤ x := by rw [← hx]; exact Nat.one_le_two_pow
    have HX2 : Hid (2 ^ (r + 1) = 2 * x) := Lib.hid (by rw [Nat.pow_succ, hx]; omega)
    have HX := Lib.hid hx
    rw [hx] at h3 ⊢
    clear hx
    by_cases hlt : x ≤ s.size + 1
    · have z1 : (x : Int) ≤ (m : Int) := by omega
      have hgl : g ≤ wr.heap.size := by have := HG.out; have := HB.out.size; omega
      go_wp2_with fail
      refine (HBE.out wr A A c c _ _ HM.out HM.out).mono ?_
      rintro e w2 ⟨A2, c2, rfl, hM2, hb2⟩
      have HM2 := Lib.hid hM2
      have HMB := Lib.hid (HM.out.below hb2)
      have HB2 := Lib.hid (HB.out.trans (hb2.mono hgl))
      have hgl2 : g ≤ w2.heap.size := by have := hb2.size; omega
      clear hM2 hb2
      go_wp2_with fail
      refine (HBO.out w2 A A2 c c2 _ _ HMB.out HM2.out).mono ?_
      rintro e w3 ⟨A3, c3, rfl, hM3, hb3⟩
      have HM3 := Lib.hid hM3
      have HB3 := Lib.hid (HB2.out.trans (hb3.mono hgl2))
      clear hM3 hb3
      go_wp2
      go_roundw
      case rel => exact ⟨r + 1, A3, c3, rfl, by rw [HX2.out]; go_num, by rw [HX2.out]; omega, HM3.out, HB3.out⟩
      case measure => simp [intOf]; omega
    · have z1 : ¬ (x : Int) ≤ (m : Int) := by omega
      go_wp2
      go_ret
      exact ⟨r, by rw [HX.out]; omega, GivM.mk HM.out (by rw [HG.out]; exact HB.out)⟩
end Go.Proofs.Ytbefndibkpjgaaa
