/- A slice whose elements are of any shape, as a list of them; and such an argument, opened. -/
import Derived.WalkKit
import Derived.ProofKit
import Derived.OpenShut
import Derived.Deep.Slices
import Derived.Deep.Strs
import Derived.Lib.SmallJoins
import Derived.Below
namespace Go.Proofs.YtnlpahdjiddooaaDoor
open Go.RowKit Go.ChangeShapes Go.WideShapes Go.Deep

/-- A row of elements of k cells; C: an element's cells. -/
def CRow {α : Type} (C : α → List Value) (k : Nat) (w : World) (a : Option Addr) (len : Nat) (os : List α) : Prop :=
  os.length = len ∧ len ≤ 9223372036854775807 ∧
  (0 < len → ∃ b off, a = some ⟨b, off, none⟩ ∧ b < w.heap.size ∧ ∀ i o, os[i]? = some o → ∀ j v, (C o)[j]? = some v → w.cell? ⟨b, off + i * k + j, none⟩ = some v)
theorem CRow.below {α : Type} {C : α → List Value} {k : Nat} {w w' : World} {a : Option Addr} {len : Nat} {os : List α} (h : CRow C k w a len os) (hb : Below w.heap.size w w') : CRow C k w' a len os := by
  obtain ⟨h1, h2, h3⟩ := h
  refine ⟨h1, h2, fun hp => ?_⟩
  obtain ⟨b, off, ha, hlt, hc⟩ := h3 hp
  exact ⟨b, off, ha, by have := hb.size; omega, fun i o hi j v hv => (hb.cell (p := ⟨b, off + i * k + j, none⟩) hlt).trans (hc i o hi j v hv)⟩
theorem CRow.at_ {α : Type} {C : α → List Value} {k : Nat} {w : World} {a : Option Addr} {len : Nat} {os : List α} (h : CRow C k w a len os) {i : Nat} (hi : i < len) :
    ∃ b off o, a = some ⟨b, off, none⟩ ∧ b < w.heap.size ∧ os[i]? = some o ∧ ∀ j v, (C o)[j]? = some v → w.cell? ⟨b, off + i * k + j, none⟩ = some v := by
  obtain ⟨h1, h2, h3⟩ := h
  obtain ⟨b, off, ha, hlt, hc⟩ := h3 (by omega)
  have ho : os[i]? = some os[i] := List.getElem?_eq_getElem (by omega)
  exact ⟨b, off, _, ha, hlt, ho, hc i _ ho⟩
theorem CRow.nil {α : Type} {C : α → List Value} {k : Nat} (w : World) (a : Option Addr) : CRow C k w a 0 ([] : List α) := ⟨rfl, by decide, fun h => absurd h (by decide)⟩

section
variable {H : Type} {enc : TypeId × Value → H} {P : Program} {W : World} {fuel : Nat}
/-- A slice's elements, each by its own opening: what is known of each is kept ('G'). -/
theorem crow_open {α : Type} [Inhabited α] {C : α → List Value} {G : α → Prop} {t e : TypeId} {k : Nat} {a : Option Addr} {len cap : Nat} {x : DataW H × List MemPlace} (ht : P.underlying t = some (.slice e)) (hk : P.cellsOf e = k) (hk0 : 0 < k)
    (hel : ∀ n cs y, DataW.trod enc P W 0 (fun _ => true) true n e cs = some y → cs.length = k → ∃ o, cs = C o ∧ G o)
    (h : DataW.trod enc P W 0 (fun _ => true) true fuel t [.slice a len cap] = some x) : ∃ os : List α, CRow C k W a len os ∧ (∀ o ∈ os, G o) ∧ len ≤ cap ∧ cap ≤ 9223372036854775807 := by
  rcases open_slice ht h with ⟨hcs, _⟩ | ⟨b, l, c, m, n, D, Pl, hcs, hb, hl, hm, hmm, _, hi⟩
  · simp at hcs
    obtain ⟨rfl, rfl, rfl⟩ := hcs
    exact ⟨[], CRow.nil _ _, by simp, Nat.le_refl _, by decide⟩
  · simp at hcs
    obtain ⟨rfl, rfl, rfl⟩ := hcs
    rw [hk] at hi
    have hm' : m = cap := by simpa using hmm
    have key : ∀ i, i < len → ∃ o : α, G o ∧ (C o).length = k ∧ ∀ j v, (C o)[j]? = some v → W.cell? (b.add (i * k + j)) = some v := by
      intro i hil
      obtain ⟨cs', h1, h2⟩ := hi i (by omega)
      have hsz := (World.cells?_some h1).2.1
      obtain ⟨o, rfl, hg⟩ := hel _ _ _ h2 hsz
      refine ⟨o, hg, hsz, fun j v hj => ?_⟩
      have hjl : j < (C o).length := (List.getElem?_eq_some_iff.1 hj).1
      have := (World.cells?_some h1).2.2 j (by rw [← hsz]; exact hjl)
      rw [add_add] at this
      rw [this, hj]
    obtain ⟨F, hF⟩ := choose_lt (α := α) (p := fun i o => G o ∧ (C o).length = k ∧ ∀ j v, (C o)[j]? = some v → W.cell? (b.add (i * k + j)) = some v) key
    have hml : maxLen ≤ 9223372036854775807 := by decide
    refine ⟨(List.range len).map F, ⟨by simp, by omega, fun hp => ?_⟩, fun o ho => ?_, by omega, by omega⟩
    · obtain ⟨b0, off, spot⟩ := b
      obtain ⟨_, hl0, hF0⟩ := hF 0 hp
      obtain ⟨v0, hv0⟩ : ∃ v, (C (F 0))[0]? = some v := ⟨_, List.getElem?_eq_getElem (by omega)⟩
      have c0 := hF0 0 v0 hv0
      have hspot : spot = none := by simpa [Addr.add] using World.cell?_spot c0
      subst hspot
      refine ⟨b0, off, rfl, by have := World.block_lt_of_cell? W _ c0; rwa [Go.WideShapes.add_plain] at this, fun i o hi' j v hv => ?_⟩
      have hil : i < len := by
        have := (List.getElem?_eq_some_iff.1 hi').1
        simpa using this
      have hS : o = F i := by
        rw [List.getElem?_map, List.getElem?_range hil] at hi'
        simpa using hi'.symm
      subst hS
      rw [show off + i * k + j = off + (i * k + j) by omega, ← Go.WideShapes.add_plain]
      exact (hF i hil).2.2 j v hv
    · obtain ⟨i, hi', rfl⟩ := List.mem_map.1 ho
      exact (hF i (List.mem_range.1 hi')).1
end
end Go.Proofs.YtnlpahdjiddooaaDoor
