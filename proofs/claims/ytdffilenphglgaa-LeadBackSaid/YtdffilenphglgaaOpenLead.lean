/- Tokens, pieces and words that came in, opened. -/
import Derived.Test.YtdffilenphglgaaSameW
namespace Go.Proofs.Ytdffilenphglgaa
open Go.RowKit Go.ChangeShapes Go.WideShapes Go.Deep

theorem cells_str : Try.prog.cellsOf 9 = 1 := by kernel_rfl
theorem cells_int : Try.prog.cellsOf 3 = 1 := by kernel_rfl
theorem cells_class : Try.prog.cellsOf 41 = 1 := by kernel_rfl
theorem cells_rxs : Try.prog.cellsOf 40 = 1 := by kernel_rfl
theorem cells_tok : Try.prog.cellsOf 43 = 3 := by kernel_rfl
theorem cells_pc : Try.prog.cellsOf 36 = 2 := by kernel_rfl
theorem cells_wd : Try.prog.cellsOf 38 = 3 := by kernel_rfl
theorem cells_pcs : Try.prog.cellsOf 23 = 1 := by kernel_rfl
section
variable {H : Type} {enc : TypeId × Value → H} {W : World} {fuel : Nat}
theorem tk_open {cs : List Value} {x : DataW H × List MemPlace} (h : DataW.trod enc Try.prog W 0 (fun _ => true) true fuel 43 cs = some x) (hl : cs.length = 3) : ∃ o : Tk, cs = tkC o := by
  match cs, hl with
  | [c0, c1, c2], _ =>
    obtain ⟨y0, y1, y2, n, rfl, _, g0, g1, g2⟩ := trod_struct3 Try.underlying43 h
    simp only [cells_class, List.drop_zero, List.drop_succ_cons, List.take_succ_cons, List.take_zero] at g2
    obtain ⟨k, e2, _, _⟩ := DataW.trod_int Try.underlying41 g2
    simp at e2
    subst e2
    exact ⟨⟨c0, c1, k⟩, rfl⟩
theorem toks_open {a : Option Addr} {len cap : Nat} {x : DataW H × List MemPlace} (h : DataW.trod enc Try.prog W 0 (fun _ => true) true fuel 22 [.slice a len cap] = some x) : ∃ ts, CRow tkC 3 W a len ts := by
  obtain ⟨os, ho, _⟩ := crow_open (C := tkC) (G := fun _ => True) Try.underlying22 cells_tok (by decide) (fun n cs y hy hl => by
    obtain ⟨o, e⟩ := tk_open hy hl
    exact ⟨o, e, trivial⟩) h
  exact ⟨os, ho⟩
def PcOk (p : Pc) : Prop := -9223372036854775808 ≤ p.t ∧ p.t ≤ 9223372036854775807
theorem pc_open {cs : List Value} {x : DataW H × List MemPlace} (h : DataW.trod enc Try.prog W 0 (fun _ => true) true fuel 36 cs = some x) (hl : cs.length = 2) : ∃ o : Pc, cs = pcC o ∧ PcOk o := by
  match cs, hl with
  | [c0, c1], _ =>
    obtain ⟨y0, y1, n, rfl, _, g0, g1⟩ := trod_struct2 Try.underlying36 h
    simp only [cells_int, cells_str, List.drop_zero, List.drop_succ_cons, List.take_succ_cons, List.take_zero] at g0 g1
    obtain ⟨k, e0, _, w0⟩ := DataW.trod_int Try.underlying3 g0
    obtain ⟨s, e1, _, _⟩ := DataW.trod_string Try.underlying9 g1
    simp at e0 e1
    subst e0 e1
    exact ⟨⟨k, s⟩, rfl, bounds_i64 w0⟩
theorem pcs_open {a : Option Addr} {len cap : Nat} {x : DataW H × List MemPlace} (h : DataW.trod enc Try.prog W 0 (fun _ => true) true fuel 23 [.slice a len cap] = some x) : ∃ ps, CRow pcC 2 W a len ps ∧ (∀ p ∈ ps, PcOk p) ∧ len ≤ cap ∧ cap ≤ 9223372036854775807 :=
  crow_open (C := pcC) (G := PcOk) Try.underlying23 cells_pc (by decide) (fun n cs y hy hl => pc_open hy hl) h
def WdOk (W : World) (o : Wd) : Prop := CRow pcC 2 W o.a o.l o.ps ∧ (-9223372036854775808 ≤ o.t ∧ o.t ≤ 9223372036854775807) ∧ o.l ≤ o.c ∧ o.c ≤ 9223372036854775807
theorem wd_open {cs : List Value} {x : DataW H × List MemPlace} (h : DataW.trod enc Try.prog W 0 (fun _ => true) true fuel 38 cs = some x) (hl : cs.length = 3) : ∃ o : Wd, cs = wdC o ∧ WdOk W o := by
  match cs, hl with
  | [c0, c1, c2], _ =>
    obtain ⟨y0, y1, y2, n, rfl, _, g0, g1, g2⟩ := trod_struct3 Try.underlying38 h
    simp only [cells_int, cells_str, cells_pcs, List.drop_zero, List.drop_succ_cons, List.take_succ_cons, List.take_zero] at g0 g1 g2
    obtain ⟨k, e1, _, w1⟩ := DataW.trod_int Try.underlying3 g1
    obtain ⟨s, e2, _, _⟩ := DataW.trod_string Try.underlying9 g2
    obtain ⟨a, l, c, e0⟩ := Joins.slice_form Try.underlying23 g0
    simp at e0 e1 e2
    subst e0 e1 e2
    obtain ⟨ps, hps, _, h1, h2⟩ := pcs_open g0
    exact ⟨⟨a, l, c, ps, k, s⟩, rfl, hps, bounds_i64 w1, h1, h2⟩
theorem wds_open {a : Option Addr} {len cap : Nat} {x : DataW H × List MemPlace} (h : DataW.trod enc Try.prog W 0 (fun _ => true) true fuel 27 [.slice a len cap] = some x) : ∃ ws, CRow wdC 3 W a len ws ∧ (∀ o ∈ ws, WdOk W o) ∧ len ≤ cap ∧ cap ≤ 9223372036854775807 :=
  crow_open (C := wdC) (G := WdOk W) Try.underlying27 cells_wd (by decide) (fun n cs y hy hl => wd_open hy hl) h
end
end Go.Proofs.Ytdffilenphglgaa
