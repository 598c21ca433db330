import Derived.Test.YtglagipkpdbhcaaKindOf
import Derived.Deep.Slices
namespace Go.Proofs.Ytglagipkpdbhcaa
open Go.RowKit Go.Sort Go.Deep

theorem cnt_finer {α β : Type} [DecidableEq α] [DecidableEq β] (p : Nat → α) (q : Nat → β) (h : ∀ x y, q x = q y → p x = p y) : ∀ n, cnt p n ≤ cnt q n
  | 0 => Nat.le_refl _
  | n + 1 => by
    have ih := cnt_finer p q h n
    simp only [cnt]
    by_cases hp : isNew p n = true
    · have hq : isNew q n = true := by
        rw [isNew_iff] at hp ⊢
        exact fun x hx e => hp x hx (h _ _ e)
      rw [if_pos hp, if_pos hq]; omega
    · rw [if_neg hp]
      split <;> omega
theorem width_ge (ls : List (Nat → Bool)) (S : Nat → Bool) : widthC (clsL ls) 256 ≤ widthC (cls (pairC (clsL ls) S)) 256 := by
  rw [width_cls, ← width_clsL]
  exact cnt_finer _ _ (fun x y e => by
    simp only [pairC, Prod.mk.injEq] at e
    exact (cls_eq_iff (sigL ls) x y).1 e.1) 256
theorem width_le2 (ls : List (Nat → Bool)) (S : Nat → Bool) : widthC (cls (pairC (clsL ls) S)) 256 ≤ 2 * widthC (clsL ls) 256 := by
  rw [width_cls, ← width_clsL]
  have hs := fun c (h : c < cnt (pairC (clsL ls) S) 256) => cnt_surj (pairC (clsL ls) S) 256 c h
  obtain ⟨F, hF⟩ := choose_lt (α := Nat) (n := cnt (pairC (clsL ls) S) 256) (p := fun c a => a < 256 ∧ isNew (pairC (clsL ls) S) a = true ∧ cnt (pairC (clsL ls) S) a = c) hs
  refine inj_le (fun c => 2 * clsL ls (F c) + if S (F c) then 1 else 0) (fun i hi => ?_) (fun i j hi hj e => ?_)
  · have := cls_lt (sigL ls) (hF i hi).1
    have h2 : clsL ls (F i) < cnt (sigL ls) 256 := this
    show 2 * clsL ls (F i) + (if S (F i) then 1 else 0) < _
    split <;> omega
  · have e' : 2 * clsL ls (F i) + (if S (F i) then 1 else 0) = 2 * clsL ls (F j) + (if S (F j) then 1 else 0) := e
    have hq : pairC (clsL ls) S (F i) = pairC (clsL ls) S (F j) := by
      simp only [pairC, Prod.mk.injEq]
      cases hi' : S (F i) <;> cases hj' : S (F j) <;> simp [hi', hj'] at e' ⊢ <;> omega
    have n1 := (isNew_iff _ _).1 (hF i hi).2.1
    have n2 := (isNew_iff _ _).1 (hF j hj).2.1
    have : F i = F j := by
      rcases Nat.lt_trichotomy (F i) (F j) with h | h | h
      · exact absurd hq (n2 _ h)
      · exact h
      · exact absurd hq.symm (n1 _ h)
    rw [← (hF i hi).2.2, ← (hF j hj).2.2, this]
theorem width_256 (ls : List (Nat → Bool)) : widthC (clsL ls) 256 ≤ 256 := by
  rw [← width_clsL]; exact cnt_le _ _
end Go.Proofs.Ytglagipkpdbhcaa
