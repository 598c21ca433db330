/- What is told of an expression's words, and its words: plain. -/
import Derived.Test.YtbefndibkpjgaaaTw15
namespace Go.Proofs.Ytbefndibkpjgaaa
set_option linter.unusedVariables false

theorem altF_f1 (F : Fact) : (altF f1 F).some_ = true ∧ (altF f1 F).lo = 0 := by
  unfold altF
  rw [if_neg (show ¬ f1.some_ = false by simp [f1])]
  split
  · exact ⟨rfl, rfl⟩
  · exact ⟨rfl, by simp [f1]⟩
theorem fact_null (T : RxT) : (factT T).some_ = true ∧ (factT T).lo = 0 ↔ inT T [] := by
  induction T with
  | set S =>
    constructor
    · rintro ⟨h1, h2⟩
      simp only [factT] at h1 h2
      split at h1
      · simp [f0] at h1
      · rename_i hz
        rw [if_neg hz] at h2
        simp at h2
    · rintro ⟨c, h, _⟩; cases h
  | empty => simp [factT, f1, inT]
  | cat a b iha ihb =>
    simp only [factT, catF, inT]
    constructor
    · rintro ⟨h1, h2⟩
      split at h1
      · rename_i hs
        rw [if_pos hs] at h2
        simp only at h2
        exact ⟨[], [], rfl, iha.1 ⟨hs.1, by omega⟩, ihb.1 ⟨hs.2, by omega⟩⟩
      · simp [f0] at h1
    · rintro ⟨u, v, e, h1, h2⟩
      obtain ⟨rfl, rfl⟩ := List.append_eq_nil_iff.1 e.symm
      obtain ⟨a1, a2⟩ := iha.2 h1
      obtain ⟨b1, b2⟩ := ihb.2 h2
      rw [if_pos ⟨a1, b1⟩]
      exact ⟨rfl, by simp only; omega⟩
  | alt a b iha ihb =>
    simp only [factT, altF, inT]
    rw [← iha, ← ihb]
    by_cases ha : (factT a).some_ = false
    · rw [if_pos ha]; simp [ha]
    · rw [if_neg ha]
      by_cases hb : (factT b).some_ = false
      · rw [if_pos hb]; simp [hb]
      · rw [if_neg hb]
        have ha' : (factT a).some_ = true := by simpa using ha
        have hb' : (factT b).some_ = true := by simpa using hb
        simp only [ha', hb', true_and]
        omega
  | star a iha =>
    constructor
    · intro _; exact .nil
    · intro _; exact altF_f1 _
  | plus a iha =>
    have e : (factT (.plus a)).some_ = (factT a).some_ ∧ (factT (.plus a)).lo = (factT a).lo := ⟨rfl, rfl⟩
    rw [e.1, e.2, iha]
    constructor
    · intro h; exact ⟨[], [], rfl, h, .nil⟩
    · rintro ⟨u, v, e, h1, h2⟩
      obtain ⟨rfl, rfl⟩ := List.append_eq_nil_iff.1 e.symm
      exact h1
  | opt a iha =>
    constructor
    · intro _; exact .inl rfl
    · intro _; exact altF_f1 _
/-- A word of an expression meets what is told of all. -/
def Meets (F : Fact) (w : List UInt8) : Prop := F.some_ = true ∧ F.lo ≤ w.length ∧ (F.more = true ∨ w.length ≤ F.hi) ∧ (∀ c ∈ w, F.used c.toNat = true) ∧ ∀ c r, w = c :: r → F.first c.toNat = true
theorem Meets.cat {F G : Fact} {u v : List UInt8} (h : Meets F u) (g : Meets G v) : Meets (catF F G) (u ++ v) := by
  obtain ⟨h1, h2, h3, h4, h5⟩ := h
  obtain ⟨g1, g2, g3, g4, g5⟩ := g
  unfold catF
  rw [if_pos ⟨h1, g1⟩]
  refine ⟨rfl, by simp only [List.length_append]; omega, ?_, fun c hc => ?_, fun c r e => ?_⟩
  · simp only [List.length_append, Bool.or_eq_true]
    rcases h3 with h3 | h3
    · exact .inl (.inl h3)
    · rcases g3 with g3 | g3
      · exact .inl (.inr g3)
      · exact .inr (by omega)
  · simp only [orS, Bool.or_eq_true]
    rcases List.mem_append.1 hc with hc | hc
    · exact .inl (h4 c hc)
    · exact .inr (g4 c hc)
  · simp only
    cases u with
    | nil =>
      have hl : F.lo = 0 := by simpa using h2
      rw [if_pos hl]
      simp only [orS, Bool.or_eq_true]
      exact .inr (g5 c r e)
    | cons c' u' =>
      simp only [List.cons_append, List.cons.injEq] at e
      obtain ⟨rfl, _⟩ := e
      split
      · simp only [orS, Bool.or_eq_true]; exact .inl (h5 c' u' rfl)
      · exact h5 c' u' rfl
theorem Meets.altL {F G : Fact} {w : List UInt8} (h : Meets F w) : Meets (altF F G) w := by
  obtain ⟨h1, h2, h3, h4, h5⟩ := h
  unfold altF
  rw [if_neg (by simp [h1])]
  split
  · exact ⟨h1, h2, h3, h4, h5⟩
  · refine ⟨rfl, by simp only; omega, ?_, fun c hc => ?_, fun c r e => ?_⟩
    · simp only [Bool.or_eq_true]
      rcases h3 with h3 | h3
      · exact .inl (.inl h3)
      · exact .inr (by omega)
    · simp only [orS, Bool.or_eq_true]; exact .inl (h4 c hc)
    · simp only [orS, Bool.or_eq_true]; exact .inl (h5 c r e)
theorem Meets.altR {F G : Fact} {w : List UInt8} (h : Meets G w) : Meets (altF F G) w := by
  obtain ⟨h1, h2, h3, h4, h5⟩ := h
  unfold altF
  split
  · exact ⟨h1, h2, h3, h4, h5⟩
  · rw [if_neg (by simp [h1])]
    refine ⟨rfl, by simp only; omega, ?_, fun c hc => ?_, fun c r e => ?_⟩
    · simp only [Bool.or_eq_true]
      rcases h3 with h3 | h3
      · exact .inl (.inr h3)
      · exact .inr (by omega)
    · simp only [orS, Bool.or_eq_true]; exact .inr (h4 c hc)
    · simp only [orS, Bool.or_eq_true]; exact .inr (h5 c r e)
theorem meets_empty : Meets f1 [] := ⟨rfl, by simp [f1], .inr (by simp), fun c hc => (by cases hc), fun c r e => (by cases e)⟩
/-- Words of a part, one behind the other. -/
theorem rep_meets {F : Fact} {L : List UInt8 → Prop} (hL : ∀ u, L u → Meets F u) {v : List UInt8} (hv : Rep L v) : v = [] ∨ (F.some_ = true ∧ (F.more = true ∨ 0 < F.hi) ∧ F.lo ≤ v.length ∧ (∀ c ∈ v, F.used c.toNat = true) ∧ ∀ c r, v = c :: r → F.first c.toNat = true) := by
  induction hv with
  | nil => exact .inl rfl
  | cons u v hu hv ih =>
    have h := hL u hu
    obtain ⟨h1, h2, h3, h4, h5⟩ := h
    cases u with
    | nil =>
      rw [List.nil_append]
      exact ih
    | cons c u =>
      right
      refine ⟨h1, ?_, by simp only [List.length_append]; omega, fun d hd => ?_, fun d r e => ?_⟩
      · rcases h3 with h3 | h3
        · exact .inl h3
        · exact .inr (by simp at h3; omega)
      · rcases List.mem_append.1 hd with hd | hd
        · exact h4 d hd
        · rcases ih with rfl | ih
          · cases hd
          · exact ih.2.2.2.1 d hd
      · simp only [List.cons_append, List.cons.injEq] at e
        obtain ⟨rfl, _⟩ := e
        exact h5 c u rfl
theorem meets_more {F : Fact} {v : List UInt8} (h : F.some_ = true ∧ (F.more = true ∨ 0 < F.hi) ∧ F.lo ≤ v.length ∧ (∀ c ∈ v, F.used c.toNat = true) ∧ ∀ c r, v = c :: r → F.first c.toNat = true) : Meets (moreF F) v := by
  obtain ⟨h1, h2, h3, h4, h5⟩ := h
  refine ⟨h1, h3, .inl ?_, h4, h5⟩
  simp only [moreF, Bool.or_eq_true, decide_eq_true_eq]
  exact h2
theorem Meets.more {F : Fact} {v : List UInt8} (h : Meets F v) : Meets (moreF F) v := by
  obtain ⟨h1, h2, h3, h4, h5⟩ := h
  refine ⟨h1, h2, ?_, h4, h5⟩
  simp only [moreF, Bool.or_eq_true]
  rcases h3 with h3 | h3
  · exact .inl (.inl h3)
  · exact .inr h3
theorem fact_meets (T : RxT) : ∀ w, inT T w → Meets (factT T) w := by
  induction T with
  | set S =>
    rintro w ⟨c, rfl, hc⟩
    have hz : ¬ zS S = true := fun h => by
      have := (zS_iff S).1 h c.toNat c.toNat_lt
      rw [hc] at this; cases this
    simp only [factT, if_neg hz]
    refine ⟨rfl, by simp, .inr (by simp), fun d hd => ?_, fun d r e => ?_⟩
    · rw [List.mem_singleton] at hd; subst hd; exact hc
    · simp only [List.cons.injEq] at e; obtain ⟨rfl, _⟩ := e; exact hc
  | empty => rintro w rfl; exact meets_empty
  | cat a b iha ihb => rintro w ⟨u, v, rfl, h1, h2⟩; exact (iha u h1).cat (ihb v h2)
  | alt a b iha ihb =>
    rintro w (h | h)
    · exact (iha w h).altL
    · exact (ihb w h).altR
  | star a iha =>
    intro w h
    rcases rep_meets iha h with rfl | h
    · exact meets_empty.altL
    · exact (meets_more h).altR
  | plus a iha =>
    rintro w ⟨u, v, rfl, h1, h2⟩
    rcases rep_meets iha h2 with rfl | hv
    · rw [List.append_nil]; exact (iha u h1).more
    · rcases rep_meets iha (.cons u v h1 h2) with h9 | h9
      · rw [h9]; obtain ⟨rfl, _⟩ := List.append_eq_nil_iff.1 h9; exact (iha [] h1).more
      · exact meets_more h9
  | opt a iha =>
    rintro w (rfl | h)
    · exact meets_empty.altL
    · exact (iha w h).altR
theorem null_iff (o : Option RxT) : (shF (factO o) == 0) = true ↔ saysW o ⟨#[]⟩ := by
  rw [beq_iff_eq]
  cases o with
  | none => simp [factO, shF, f0, saysW]
  | some T =>
    have h := fact_null T
    have e9 : shF (factO (some T)) = if (factT T).some_ = true then ((factT T).lo : Int) else -1 := rfl
    rw [e9]
    unfold saysW
    constructor
    · intro e
      split at e
      · rename_i hs
        exact ⟨T, rfl, h.1 ⟨hs, by omega⟩⟩
      · omega
    · rintro ⟨T', e, hT⟩
      obtain rfl := Option.some.inj e
      obtain ⟨h1, h2⟩ := h.2 hT
      rw [if_pos h1, h2]; rfl
end Go.Proofs.Ytbefndibkpjgaaa
