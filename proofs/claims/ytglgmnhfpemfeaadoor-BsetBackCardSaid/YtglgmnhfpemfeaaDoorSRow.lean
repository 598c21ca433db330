/- A slice of sets, as a list of them. A region that draws its order and calls what makes memory. -/
import Derived.Test.YtglgmnhfpemfeaaDoorHas
import Derived.Lib.QuietBelow
namespace Go.Proofs.YtglgmnhfpemfeaaDoor
open Go.RowKit Go.Sort

/-- The slice value reads as the list of sets. -/
def SRow (w : World) (a : Option Addr) (len : Nat) (ls : List (Nat → Bool)) : Prop :=
  ls.length = len ∧ len ≤ 9223372036854775807 ∧
  (0 < len → ∃ b off, a = some ⟨b, off, none⟩ ∧ b < w.heap.size ∧ ∀ i S, ls[i]? = some S → ∀ j, j < 4 → w.cell? ⟨b, off + i * 4 + j, none⟩ = some (.int .u64 (wd S j)))
theorem SRow.below {w w' : World} {a : Option Addr} {len : Nat} {ls : List (Nat → Bool)} (h : SRow w a len ls) (hb : Below w.heap.size w w') : SRow w' a len ls := by
  obtain ⟨h1, h2, h4⟩ := h
  refine ⟨h1, h2, fun hp => ?_⟩
  obtain ⟨b, off, ha, hlt, hc⟩ := h4 hp
  exact ⟨b, off, ha, by have := hb.size; omega, fun i S hi j hj => (hb.cell (p := ⟨b, off + i * 4 + j, none⟩) hlt).trans (hc i S hi j hj)⟩
/-- What is there of place k. -/
theorem SRow.at_ {w : World} {a : Option Addr} {len : Nat} {ls : List (Nat → Bool)} (h : SRow w a len ls) {k : Nat} (hk : k < len) : ∃ b off S, a = some ⟨b, off, none⟩ ∧ b < w.heap.size ∧ ls[k]? = some S ∧
    w.cell? ⟨b, off + k * 4, none⟩ = some (.int .u64 (wd S 0)) ∧ w.cell? ⟨b, off + k * 4 + 1, none⟩ = some (.int .u64 (wd S 1)) ∧
    w.cell? ⟨b, off + k * 4 + 2, none⟩ = some (.int .u64 (wd S 2)) ∧ w.cell? ⟨b, off + k * 4 + 3, none⟩ = some (.int .u64 (wd S 3)) := by
  obtain ⟨h1, h2, h4⟩ := h
  obtain ⟨b, off, ha, hlt, hc⟩ := h4 (by omega)
  have hs : ls[k]? = some ls[k] := List.getElem?_eq_getElem (by omega)
  exact ⟨b, off, _, ha, hlt, hs, hc k _ hs 0 (by omega), hc k _ hs 1 (by omega), hc k _ hs 2 (by omega), hc k _ hs 3 (by omega)⟩

/-- A contract that ends in 'Below', in a world of the class. -/
theorem regrown_call {P : Program} {f : FuncId} {args : Array Value} {w : World} {v : Value} (h : ∀ w', Calls P f args w' fun e w'' => e = .returned v ∧ Below w'.heap.size w' w'') (d : Nat) (os : Array Obj) :
    Calls P f args (grow (redrawn w d) os) fun e w'' => e = .returned v ∧ ∃ p : Regrown, w'' = grow (redrawn w p.d) p.os := Calls.regrown_of (h _)
end Go.Proofs.YtglgmnhfpemfeaaDoor
