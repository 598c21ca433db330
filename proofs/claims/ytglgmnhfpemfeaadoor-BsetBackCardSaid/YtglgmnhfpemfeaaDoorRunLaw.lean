/- The stretches of a set: plain. -/
import Derived.Test.YtglgmnhfpemfeaaDoorBBytes
namespace Go.Proofs.YtglgmnhfpemfeaaDoor
open Go.RowKit
set_option linter.unusedVariables false

theorem nil_or_snoc {α : Type} (l : List α) : l = [] ∨ ∃ l0 x, l = l0 ++ [x] := by
  rcases List.eq_nil_or_concat l with h | ⟨l0, x, h⟩
  · exact .inl h
  · exact .inr ⟨l0, x, by rw [h, List.concat_eq_append]⟩
/-- One byte more. -/
def rstep (l : List (Nat × Nat)) (b : Nat) : List (Nat × Nat) := match l.getLast? with
  | some (a, e) => if e + 1 = b then l.dropLast ++ [(a, b)] else l ++ [(b, b)]
  | none => [(b, b)]
theorem rstep_nil (b : Nat) : rstep [] b = [(b, b)] := rfl
theorem rstep_more (l : List (Nat × Nat)) (a e : Nat) : rstep (l ++ [(a, e)]) (e + 1) = l ++ [(a, e + 1)] := by
  unfold rstep; simp
theorem rstep_new (l : List (Nat × Nat)) (a e b : Nat) (h : e + 1 ≠ b) : rstep (l ++ [(a, e)]) b = l ++ [(a, e)] ++ [(b, b)] := by
  unfold rstep; simp [h]
def runsF (L : List Nat) : List (Nat × Nat) := L.foldl rstep []
theorem runsF_snoc (L : List Nat) (b : Nat) : runsF (L ++ [b]) = rstep (runsF L) b := by simp [runsF, List.foldl_append]
theorem runs_take {L : List Nat} {k b : Nat} (h : L[k]? = some b) : runsF (L.take (k + 1)) = rstep (runsF (L.take k)) b := by
  rw [List.take_add_one, h]; exact runsF_snoc _ _
theorem rstep_len (l : List (Nat × Nat)) (b : Nat) : (rstep l b).length ≤ l.length + 1 := by
  rcases nil_or_snoc l with rfl | ⟨l0, ⟨a, e⟩, rfl⟩
  · simp [rstep_nil]
  · by_cases h : e + 1 = b
    · subst h; rw [rstep_more]; simp
    · rw [rstep_new _ _ _ _ h]; simp
theorem runs_len (L : List Nat) : ∀ k, (runsF (L.take k)).length ≤ k
  | 0 => by simp [runsF]
  | k + 1 => by
    have ih := runs_len L k
    cases h : L[k]? with
    | none =>
      have : L.take (k + 1) = L.take k := by rw [List.take_add_one, h]; simp
      rw [this]; omega
    | some b =>
      rw [runs_take h]
      have := rstep_len (runsF (L.take k)) b
      omega
/-- What is known of the stretches of the bytes below k. -/
structure RunInv (S : Nat → Bool) (k : Nat) (l : List (Nat × Nat)) : Prop where
  ord : ∀ p ∈ l, p.1 ≤ p.2 ∧ p.2 < k
  mem : ∀ x, x < k → (S x = true ↔ ∃ p ∈ l, p.1 ≤ x ∧ x ≤ p.2)
  gap : ∀ i p q, l[i]? = some p → l[i + 1]? = some q → p.2 + 2 ≤ q.1
  sum : (l.map fun p => p.2 + 1 - p.1).sum = cntS S k
theorem cnt_yes {S : Nat → Bool} {k : Nat} (h : S k = true) : cntS S (k + 1) = cntS S k + 1 := by
  unfold cntS; rw [List.range_succ, List.countP_append]; simp [h]
theorem cnt_no {S : Nat → Bool} {k : Nat} (h : S k = false) : cntS S (k + 1) = cntS S k := by
  unfold cntS; rw [List.range_succ, List.countP_append]; simp [h]
theorem run_inv (S : Nat → Bool) : ∀ k, RunInv S k (runsF (bytesL S k))
  | 0 => ⟨by simp [runsF, bytesL], fun x h => by omega, fun i p q h => by simp [runsF, bytesL] at h, by simp [runsF, bytesL, cntS]⟩
  | k + 1 => by
    have ih := run_inv S k
    cases hS : S k with
    | false =>
      rw [bytesL_no hS]
      refine ⟨fun p hp => by have := ih.ord p hp; omega, fun x hx => ?_, ih.gap, by rw [cnt_no hS]; exact ih.sum⟩
      by_cases hxk : x = k
      · subst hxk
        constructor
        · intro h; rw [hS] at h; cases h
        · rintro ⟨p, hp, h1, h2⟩; have := ih.ord p hp; omega
      · exact ih.mem x (by omega)
    | true =>
      rw [bytesL_yes hS, runsF_snoc]
      generalize runsF (bytesL S k) = l at ih
      rcases nil_or_snoc l with rfl | ⟨l0, ⟨a, e⟩, rfl⟩
      · rw [rstep_nil]
        refine ⟨fun p hp => ?_, fun x hx => ?_, fun i p q h1 h2 => ?_, ?_⟩
        · simp at hp; subst hp; simp
        · by_cases hxk : x = k
          · subst hxk; simp [hS]
          · have := ih.mem x (by omega)
            constructor
            · intro h; obtain ⟨p, hp, _⟩ := this.1 h; simp at hp
            · rintro ⟨p, hp, h1, h2⟩; simp at hp; subst hp; simp at h1 h2; omega
        · simp at h2
        · have := ih.sum; rw [cnt_yes hS]; simp at this ⊢; omega
      · have hae := ih.ord (a, e) (by simp)
        by_cases he : e + 1 = k
        · subst he
          rw [rstep_more]
          refine ⟨fun p hp => ?_, fun x hx => ?_, fun i p q h1 h2 => ?_, ?_⟩
          · rcases List.mem_append.1 hp with hp | hp
            · have := ih.ord p (by simp [hp]); omega
            · simp at hp; subst hp; simp at hae ⊢; omega
          · by_cases hxk : x = e + 1
            · subst hxk
              refine ⟨fun _ => ⟨(a, e + 1), by simp, by simp at hae ⊢; omega, by simp⟩, fun _ => hS⟩
            · rw [ih.mem x (by omega)]
              constructor
              · rintro ⟨p, hp, h1, h2⟩
                rcases List.mem_append.1 hp with hp | hp
                · exact ⟨p, by simp [hp], h1, h2⟩
                · simp at hp; subst hp; exact ⟨(a, e + 1), by simp, h1, by simp at h2 ⊢; omega⟩
              · rintro ⟨p, hp, h1, h2⟩
                rcases List.mem_append.1 hp with hp | hp
                · exact ⟨p, by simp [hp], h1, h2⟩
                · simp at hp; subst hp; exact ⟨(a, e), by simp, h1, by simp at h2 ⊢; omega⟩
          · have hil : i + 1 < (l0 ++ [(a, e + 1)]).length := (List.getElem?_eq_some_iff.1 h2).1
            simp at hil
            rw [List.getElem?_append_left (by omega)] at h1
            by_cases hq : i + 1 < l0.length
            · rw [List.getElem?_append_left hq] at h2
              exact ih.gap i p q (by rw [List.getElem?_append_left (by omega)]; exact h1) (by rw [List.getElem?_append_left hq]; exact h2)
            · have hi : i + 1 = l0.length := by omega
              rw [List.getElem?_append_right (by omega), hi] at h2
              simp at h2; subst h2
              have := ih.gap i p (a, e) (by rw [List.getElem?_append_left (by omega)]; exact h1) (by rw [List.getElem?_append_right (by omega), hi]; simp)
              exact this
          · have := ih.sum
            rw [cnt_yes hS]
            simp at this hae ⊢
            omega
        · rw [rstep_new _ _ _ _ he]
          refine ⟨fun p hp => ?_, fun x hx => ?_, fun i p q h1 h2 => ?_, ?_⟩
          · rcases List.mem_append.1 hp with hp | hp
            · have := ih.ord p hp; omega
            · simp at hp; subst hp; simp
          · by_cases hxk : x = k
            · subst hxk
              exact ⟨fun _ => ⟨(x, x), by simp, by simp, by simp⟩, fun _ => hS⟩
            · rw [ih.mem x (by omega)]
              constructor
              · rintro ⟨p, hp, h1, h2⟩; exact ⟨p, List.mem_append_left _ hp, h1, h2⟩
              · rintro ⟨p, hp, h1, h2⟩
                rcases List.mem_append.1 hp with hp | hp
                · exact ⟨p, hp, h1, h2⟩
                · simp at hp; subst hp; simp at h1 h2; omega
          · have hil : i + 1 < (l0 ++ [(a, e)] ++ [(k, k)]).length := (List.getElem?_eq_some_iff.1 h2).1
            simp at hil
            rw [List.getElem?_append_left (by simp; omega)] at h1
            by_cases hq : i + 1 < (l0 ++ [(a, e)]).length
            · rw [List.getElem?_append_left hq] at h2
              exact ih.gap i p q h1 h2
            · have hi : i = l0.length := by simp at hq; omega
              subst hi
              rw [List.getElem?_append_right (by simp)] at h2 h1
              simp at h2 h1
              subst h2 h1
              simp at hae ⊢; omega
          · have := ih.sum
            rw [cnt_yes hS]
            simp at this ⊢
            omega
/-- A whole stretch, behind the bytes ahead of it. -/
theorem F_run {S : Nat → Bool} {b : Nat} (h0 : b = 0 ∨ S (b - 1) = false) : ∀ n, (∀ j, b ≤ j → j ≤ b + n → S j = true) → runsF (bytesL S (b + n + 1)) = runsF (bytesL S b) ++ [(b, b + n)]
  | 0, h => by
    have hb := h b (by omega) (by omega)
    rw [Nat.add_zero, bytesL_yes hb, runsF_snoc]
    have iv := run_inv S b
    generalize runsF (bytesL S b) = l at iv
    rcases nil_or_snoc l with rfl | ⟨l0, ⟨a, e⟩, rfl⟩
    · rfl
    · refine rstep_new _ _ _ _ fun he => ?_
      have ho := iv.ord (a, e) (by simp)
      simp at ho
      have := (iv.mem e (by omega)).2 ⟨(a, e), by simp, by simp; omega, by simp⟩
      rcases h0 with h0 | h0
      · omega
      · rw [show b - 1 = e by omega, this] at h0; cases h0
  | n + 1, h => by
    have ih := F_run h0 n (fun j h1 h2 => h j h1 (by omega))
    have hb := h (b + n + 1) (by omega) (by omega)
    rw [show b + (n + 1) + 1 = (b + n + 1) + 1 by omega, bytesL_yes hb, runsF_snoc, ih]
    exact rstep_more _ _ _
end Go.Proofs.YtglgmnhfpemfeaaDoor
