/- Steps, and rows of steps, that came in, opened. -/
import Derived.Test.YtjlmmpbichfaoaaOpenSet0
import Derived.Test.YtjlmmpbichfaoaaRxMany
namespace Go.Proofs.Ytjlmmpbichfaoaa
open Go.RowKit Go.ChangeShapes Go.WideShapes Go.Deep

theorem cells_kind : Try.prog.cellsOf 34 = 1 := by kernel_rfl
theorem cells_rx : Try.prog.cellsOf 44 = 5 := by kernel_rfl
theorem cells_row : Try.prog.cellsOf 28 = 1 := by kernel_rfl
section
variable {H : Type} {enc : TypeId × Value → H} {W : World} {fuel : Nat}
theorem rx_open {cs : List Value} {x : DataW H × List MemPlace} (h : DataW.trod enc Try.prog W 0 (fun _ => true) true fuel 44 cs = some x) (hl : cs.length = 5) : ∃ o : Rx, cs = rxC o := by
  match cs, hl with
  | [c0, c1, c2, c3, c4], _ =>
    obtain ⟨y0, y1, n, rfl, _, g0, g1⟩ := trod_struct2 Try.underlying44 h
    simp only [cells_kind, cellsSet, List.drop_zero, List.drop_succ_cons, List.take_succ_cons, List.take_zero] at g0 g1
    obtain ⟨k, e0, _, w0⟩ := DataW.trod_int Try.underlying34 g0
    obtain ⟨S, e1⟩ := set_open g1
    simp at e0 e1
    obtain ⟨rfl, rfl, rfl, rfl⟩ := e1
    subst e0
    exact ⟨⟨k, S⟩, rfl⟩
theorem rxs_open {a : Option Addr} {len cap : Nat} {x : DataW H × List MemPlace} (h : DataW.trod enc Try.prog W 0 (fun _ => true) true fuel 28 [.slice a len cap] = some x) : ∃ rs, CRow rxC 5 W a len rs := by
  obtain ⟨os, ho, _⟩ := crow_open (C := rxC) (G := fun _ => True) Try.underlying28 cells_rx (by decide) (fun n cs y hy hl => by
    obtain ⟨o, e⟩ := rx_open hy hl
    exact ⟨o, e, trivial⟩) h
  exact ⟨os, ho⟩
theorem rows_open {a : Option Addr} {len cap : Nat} {x : DataW H × List MemPlace} (h : DataW.trod enc Try.prog W 0 (fun _ => true) true fuel 22 [.slice a len cap] = some x) : ∃ os, RRow W a len os := by
  obtain ⟨os, ho, hg, _⟩ := crow_open (C := slC) (G := fun o => CRow rxC 5 W o.a o.l o.rs) Try.underlying22 cells_row (by decide) (fun n cs y hy hl => by
    match cs, hl with
    | [c0], _ =>
      obtain ⟨a, l, c, e0⟩ := Joins.slice_form Try.underlying28 hy
      simp at e0
      subst e0
      obtain ⟨rs, hrs⟩ := rxs_open hy
      exact ⟨⟨a, l, c, rs⟩, rfl, hrs⟩) h
  exact ⟨os, ho, hg⟩
end
end Go.Proofs.Ytjlmmpbichfaoaa
