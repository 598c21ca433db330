/- Rows of the call's own: their cells; one cell written anew. -/
import Derived.Test.YtjlmmpbichfaoaaOwnRow
namespace Go.Proofs.Ytjlmmpbichfaoaa
open Go.RowKit
set_option linter.unusedVariables false

theorem own_at {w : World} {base : Nat} {e : TypeId} {k n c : Nat} {A : Option Addr} {xs : List Value} (h : w.ownsRow base e k (.slice A n c) n xs) (hp : 0 < n) : ∃ g, A = some ⟨g, 0, none⟩ ∧ base ≤ g ∧ g < w.heap.size ∧ ∀ i u, xs[i]? = some u → w.cell? ⟨g, i, none⟩ = some u := by
  rcases h.2 with ⟨_, h0⟩ | ⟨g, cap, cur, hv, hb, _⟩
  · omega
  · injection hv with hA
    subst hA
    refine ⟨g, rfl, hb, (h.lt g rfl).2, fun i u hu => ?_⟩
    have := h.cells (g := g) rfl i u hu
    have e : (⟨g, 0, none⟩ : Addr).add i = ⟨g, i, none⟩ := by unfold Addr.add; split <;> simp_all
    rwa [e] at this
/-- One cell of an owned row written anew. -/
theorem own_set {w : World} {base : Nat} {e : TypeId} {k g n c : Nat} {xs : List Value} (h : w.ownsRow base e k (.slice (some ⟨g, 0, none⟩) n c) n xs) (j : Nat) (u : Value) :
    (w.setCell ⟨g, j, none⟩ u).ownsRow base e k (.slice (some ⟨g, 0, none⟩) n c) n (xs.set j u) ∧ w.frozen? ⟨g, j, none⟩ = false := by
  rcases h.2 with ⟨h1, _⟩ | ⟨g', cap, cur, hv, hb, hg, r1, r2, r3, r4⟩
  · cases h1
  · injection hv with h1 h2 h3
    have h1 := Option.some.inj h1
    injection h1 with h1
    subst h1 h3
    refine ⟨⟨by rw [List.length_set]; exact h.1, .inr ⟨g, c, _, rfl, hb, heap_setCell_same w g j _ _ u hg, r1, r2, by simpa using r3, ?_⟩⟩, frozen_of_row w g j _ _ hg⟩
    rw [← r4, Array.toList_setIfInBounds, List.take_set]
end Go.Proofs.Ytjlmmpbichfaoaa
