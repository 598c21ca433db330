/- A slice of strings, as a list of them. -/
import Derived.Test.YtajfnkboeaflnaaOut
namespace Go.Proofs.Ytajfnkboeaflnaa
open Go.RowKit

def StrRow (w : World) (a : Option Addr) (len : Nat) (ls : List ByteArray) : Prop :=
  ls.length = len ∧ len ≤ 9223372036854775807 ∧ (∀ s ∈ ls, s.size ≤ 9223372036854775807) ∧
  (0 < len → ∃ b off, a = some ⟨b, off, none⟩ ∧ b < w.heap.size ∧ ∀ i s, ls[i]? = some s → w.cell? ⟨b, off + i, none⟩ = some (.string s))
theorem StrRow.below {w w' : World} {a : Option Addr} {len : Nat} {ls : List ByteArray} (h : StrRow w a len ls) (hb : Below w.heap.size w w') : StrRow w' a len ls := by
  obtain ⟨h1, h2, h3, h4⟩ := h
  refine ⟨h1, h2, h3, fun hp => ?_⟩
  obtain ⟨b, off, ha, hlt, hc⟩ := h4 hp
  exact ⟨b, off, ha, by have := hb.size; omega, fun i s hi => (hb.cell (p := ⟨b, off + i, none⟩) hlt).trans (hc i s hi)⟩
/-- The same where the row lies apart from what was written. -/
theorem StrRow.kept {w w' : World} {a : Option Addr} {len : Nat} {ls : List ByteArray} {g : Nat} {r : Option Nat} (h : StrRow w a len ls) (hk : Kept g r w w') (hne : 0 < len → ∀ p, a = some p → p.block ≠ g ∧ r ≠ some p.block) : StrRow w' a len ls := by
  obtain ⟨h1, h2, h3, h4⟩ := h
  refine ⟨h1, h2, h3, fun hp => ?_⟩
  obtain ⟨b, off, rfl, hlt, hc⟩ := h4 hp
  obtain ⟨n1, n2⟩ := hne hp _ rfl
  exact ⟨b, off, rfl, by have := hk.size; omega, fun i s hi => (World.cell?_of_block (w := w) (hk.blk b hlt n1 n2)).trans (hc i s hi)⟩
theorem StrRow.at_ {w : World} {a : Option Addr} {len : Nat} {ls : List ByteArray} (h : StrRow w a len ls) {k : Nat} (hk : k < len) : ∃ b off s, a = some ⟨b, off, none⟩ ∧ b < w.heap.size ∧ ls[k]? = some s ∧ s.size ≤ 9223372036854775807 ∧ w.cell? ⟨b, off + k, none⟩ = some (.string s) := by
  obtain ⟨h1, h2, h3, h4⟩ := h
  obtain ⟨b, off, ha, hlt, hc⟩ := h4 (by omega)
  have hs : ls[k]? = some ls[k] := List.getElem?_eq_getElem (by omega)
  exact ⟨b, off, _, ha, hlt, hs, h3 _ (List.getElem_mem _), hc k _ hs⟩
/-- All of them behind one another. -/
def flat (ls : List ByteArray) : List UInt8 := ls.flatMap fun s => s.data.toList
theorem flat_snoc (ls : List ByteArray) (s : ByteArray) : flat (ls ++ [s]) = flat ls ++ s.data.toList := by simp [flat]
theorem flat_take (ls : List ByteArray) (k : Nat) (s : ByteArray) (h : ls[k]? = some s) : flat (ls.take (k + 1)) = flat (ls.take k) ++ s.data.toList := by
  rw [List.take_add_one, h]; simp [flat]
theorem flat_le (ls : List ByteArray) (k : Nat) : (flat (ls.take k)).length ≤ (flat ls).length := by
  have h : flat ls = flat (ls.take k) ++ flat (ls.drop k) := by
    unfold flat; rw [← List.flatMap_append, List.take_append_drop]
  rw [h]; simp
theorem srow_alloc (w : World) (ss : List ByteArray) (t : TypeId) (hl : ss.length ≤ 9223372036854775807) (hs : ∀ s ∈ ss, s.size ≤ 9223372036854775807) :
    StrRow (w.alloc (.cells (ss.map Value.string).toArray t)) (some ⟨w.heap.size, 0, none⟩) ss.length ss := by
  refine ⟨rfl, hl, hs, fun _ => ⟨_, 0, rfl, by simp, fun i s hi => ?_⟩⟩
  rw [World.cell?_alloc_new]
  simp [hi]
end Go.Proofs.Ytajfnkboeaflnaa
