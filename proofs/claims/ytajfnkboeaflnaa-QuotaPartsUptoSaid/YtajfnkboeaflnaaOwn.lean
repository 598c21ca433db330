/- An owned row in a later world. -/
import Derived.Test.YtajfnkboeaflnaaAppend
namespace Go.Proofs.Ytajfnkboeaflnaa
open Go.RowKit
theorem ownB {W W' : World} {base : Nat} {e : TypeId} {size : Nat} {v : Value} {n : Nat} {xs : List Value} (h : W.ownsRow base e size v n xs) (hb : Below W.heap.size W W') : W'.ownsRow base e size v n xs := by
  refine ⟨h.1, ?_⟩
  rcases h.2 with h2 | ⟨g, cap, cur, hv, hbg, hg, r⟩
  · exact Or.inl h2
  · refine Or.inr ⟨g, cap, cur, hv, hbg, ?_, r⟩
    have hlt : g < W.heap.size := by
      rcases Nat.lt_or_ge g W.heap.size with hl | hl
      · exact hl
      · rw [Array.getElem?_eq_none hl] at hg; cases hg
    exact (hb.block g hlt).trans hg
/-- Behind an append to another row. -/
theorem own_other {w w' : World} {base base' : Nat} {e e' : TypeId} {size size' : Nat} {v u : Value} {n n' : Nat} {xs ys : List Value} {o : Obj} (h : w.ownsRow base e size v n xs) (_ : w.ownsRow base' e' size' u n' ys)
    (hne : ∀ k, v.ownBlock = some k → u.ownBlock ≠ some k) (hg : (w.alloc o).grownBy w' u.ownBlock) : w'.ownsRow base e size v n xs :=
  (h.alloc o).kept hg (by
    cases hv : v.ownBlock with
    | none => exact .inl rfl
    | some k => exact .inr fun e => hne k hv e.symm)
end Go.Proofs.Ytajfnkboeaflnaa
