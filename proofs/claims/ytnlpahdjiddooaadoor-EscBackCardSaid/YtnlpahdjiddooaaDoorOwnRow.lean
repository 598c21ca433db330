/- Rows of the call's own: in later worlds; as rows of elements. -/
import Derived.Test.YtnlpahdjiddooaaDoorCRow
import Derived.Maps.AppendAt
import Derived.Deep.AppendLies
import Derived.Lib.Hide
namespace Go.Proofs.YtnlpahdjiddooaaDoor
open Go.RowKit

theorem ownB {W W' : World} {base : Nat} {e : TypeId} {size : Nat} {v : Value} {n : Nat} {xs : List Value} (h : W.ownsRow base e size v n xs) (hb : Below W.heap.size W W') : W'.ownsRow base e size v n xs := by
  refine ⟨h.1, ?_⟩
  rcases h.2 with h2 | ⟨g, cap, cur, hv, hbg, hg, r⟩
  · exact Or.inl h2
  · refine Or.inr ⟨g, cap, cur, hv, hbg, ?_, r⟩
    have hlt : g < W.heap.size := by
      rcases Nat.lt_or_ge g W.heap.size with hl | hl
      · exact hl
      · rw [Array.getElem?_eq_none hl] at hg; cases hg
    exact (hb.block g hlt).trans hg
theorem own_form {w : World} {base : Nat} {e : TypeId} {size : Nat} {v : Value} {n : Nat} {xs : List Value} (h : w.ownsRow base e size v n xs) : ∃ A c, v = .slice A n c ∧ n ≤ c ∧ c ≤ 9223372036854775807 := by
  have hm : maxLen ≤ 9223372036854775807 := by decide
  rcases h.2 with ⟨rfl, rfl⟩ | ⟨g, cap, cur, rfl, _, _, h1, h2, _⟩
  · exact ⟨_, _, rfl, Nat.le_refl _, by decide⟩
  · exact ⟨_, _, rfl, h1, by omega⟩
theorem own_ge {w : World} {base : Nat} {e : TypeId} {size : Nat} {v : Value} {n : Nat} {xs : List Value} (h : w.ownsRow base e size v n xs) {k : Nat} (hk : v.ownBlock = some k) : base ≤ k ∧ k < w.heap.size := h.lt k hk
theorem own_mono {w : World} {base base' : Nat} {e : TypeId} {size : Nat} {v : Value} {n : Nat} {xs : List Value} (h : w.ownsRow base e size v n xs) (hb : base' ≤ base) : w.ownsRow base' e size v n xs := by
  obtain ⟨h1, h2⟩ := h
  refine ⟨h1, ?_⟩
  rcases h2 with h2 | ⟨g, cap, cur, hv, hg, r⟩
  · exact .inl h2
  · exact .inr ⟨g, cap, cur, hv, by omega, r⟩
theorem own_new (w : World) (base : Nat) (e : TypeId) (size : Nat) : w.ownsRow base e size (.slice none 0 0) 0 [] := World.ownsRow_nil _ _ _ _
/-- An owned row is a row of elements. -/
theorem flat_get {α : Type} {C : α → List Value} {k : Nat} (hk : ∀ o, (C o).length = k) : ∀ (os : List α) (i : Nat) (o : α), os[i]? = some o → ∀ (j : Nat) (v : Value), (C o)[j]? = some v → (os.flatMap C)[i * k + j]? = some v
  | [], i, o, h, _, _, _ => by simp at h
  | x :: l, 0, o, h, j, v, hj => by
    simp at h; subst h
    have hjl : j < (C x).length := (List.getElem?_eq_some_iff.1 hj).1
    rw [List.flatMap_cons, Nat.zero_mul, Nat.zero_add, List.getElem?_append_left hjl, hj]
  | x :: l, i + 1, o, h, j, v, hj => by
    have := flat_get hk l i o (by simpa using h) j v hj
    rw [List.flatMap_cons, List.getElem?_append_right (by rw [hk]; rw [Nat.succ_mul]; omega), hk, ← this]
    congr 1
    rw [Nat.succ_mul]; omega
theorem own_crow {α : Type} {C : α → List Value} {k : Nat} (hk : ∀ o, (C o).length = k) {w : World} {base : Nat} {e : TypeId} {A : Option Addr} {c : Nat} {os : List α} (h : w.ownsRow base e k (.slice A os.length c) os.length (os.flatMap C)) (hl : os.length ≤ 9223372036854775807) : CRow C k w A os.length os := by
  refine ⟨rfl, hl, fun hp => ?_⟩
  rcases h.2 with ⟨_, h0⟩ | ⟨g, cap, cur, hv, hb, hg, _⟩
  · omega
  · injection hv with hA
    subst hA
    refine ⟨g, 0, rfl, (h.lt g rfl).2, fun i o hi j v hj => ?_⟩
    have := h.cells (g := g) rfl (i * k + j) v (flat_get hk os i o hi j v hj)
    have e : (⟨g, 0, none⟩ : Addr).add (i * k + j) = ⟨g, i * k + j, none⟩ := by unfold Addr.add; split <;> simp_all
    rw [e] at this
    rw [Nat.zero_add]; exact this
theorem below_grown {B : Nat} {w wa w1 : World} {v : Value} (hb : Below B w wa) (hB : B ≤ wa.heap.size) (hg : wa.grownBy w1 v.ownBlock) (hge : ∀ k, v.ownBlock = some k → B ≤ k) : Below B w w1 := hb.grown hg hB hge
end Go.Proofs.YtnlpahdjiddooaaDoor
