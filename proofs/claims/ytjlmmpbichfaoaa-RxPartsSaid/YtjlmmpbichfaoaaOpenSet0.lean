/- A set that came in, opened. -/
import Derived.Test.YtjlmmpbichfaoaaWith0
import Derived.ProofKit
import Derived.OpenShut
import Derived.Deep.Slices
namespace Go.Proofs.Ytjlmmpbichfaoaa
open Go.RowKit Go.ChangeShapes Go.WideShapes Go.Deep

theorem cellsSet : Try.prog.cellsOf 25 = 4 := by kernel_rfl
theorem cellsU64 : Try.prog.cellsOf 23 = 1 := by kernel_rfl
theorem nat_of_wf {n : Int} (h : (Lit.int .u64 n).wf = true) : ∃ m : Nat, n = m ∧ m < 18446744073709551616 := by
  have := bounds_u64 h
  exact ⟨n.toNat, by omega, by omega⟩
theorem set_open {H : Type} {enc : TypeId × Value → H} {W : World} {fuel : Nat} {cs : List Value} {x : DataW H × List MemPlace}
    (h : DataW.trod enc Try.prog W 0 (fun _ => true) true fuel 25 cs = some x) : ∃ S : Nat → Bool, cs = [.int .u64 (wd S 0), .int .u64 (wd S 1), .int .u64 (wd S 2), .int .u64 (wd S 3)] := by
  obtain ⟨xs, m, rfl, rfl, hl, hx, hi⟩ := DataW.trod_array Try.underlying25 h
  rw [cellsSet] at hl
  rw [cellsU64] at hi
  match cs, hl with
  | [c0, c1, c2, c3], _ =>
    have g : ∀ i (h : i < 4), ∃ n : Int, [c0, c1, c2, c3][i]? = some (.int .u64 n) ∧ (Lit.int .u64 n).wf = true := by
      intro i h4
      have hh := hi i h4
      rw [List.getElem?_eq_getElem (show i < xs.length by omega)] at hh
      have hi4 : i = 0 ∨ i = 1 ∨ i = 2 ∨ i = 3 := by omega
      rcases hi4 with rfl | rfl | rfl | rfl
      all_goals
        obtain ⟨n, e, _, wn⟩ := DataW.trod_int Try.underlying23 hh
        simp at e
        exact ⟨n, by simp [e], wn⟩
    obtain ⟨n0, e0, w0⟩ := g 0 (by omega)
    obtain ⟨n1, e1, w1⟩ := g 1 (by omega)
    obtain ⟨n2, e2, w2⟩ := g 2 (by omega)
    obtain ⟨n3, e3, w3⟩ := g 3 (by omega)
    simp at e0 e1 e2 e3
    subst e0 e1 e2 e3
    obtain ⟨m0, rfl, l0⟩ := nat_of_wf w0
    obtain ⟨m1, rfl, l1⟩ := nat_of_wf w1
    obtain ⟨m2, rfl, l2⟩ := nat_of_wf w2
    obtain ⟨m3, rfl, l3⟩ := nat_of_wf w3
    refine ⟨ofWords fun i => if i = 0 then m0 else if i = 1 then m1 else if i = 2 then m2 else m3, ?_⟩
    rw [wd_ofWords _ 0 (by simpa using l0), wd_ofWords _ 1 (by simpa using l1), wd_ofWords _ 2 (by simpa using l2), wd_ofWords _ 3 (by simpa using l3)]
    rfl
theorem okWide_arr {P : Program} {w : World} {r : Reach} {base : Nat} {t : TypeId} {v : Value} {n : Nat} {e : TypeId} (ht : P.underlying t = some (.array n e)) (h : Value.okWide P w r base t v) : ∃ cs, v = .agg cs ∧ cs.size = P.cellsOf t := by
  unfold Value.okWide at h
  simp only [ht] at h
  obtain ⟨cs, rfl, h1, _⟩ := h
  exact ⟨cs, rfl, h1⟩
theorem set_open' {H : Type} {enc : TypeId × Value → H} {W : World} {fuel : Nat} {cs : Array Value} {x : DataW H × List MemPlace}
    (h : DataW.trod enc Try.prog W 0 (fun _ => true) true fuel 25 cs.toList = some x) : ∃ S : Nat → Bool, cs = #[.int .u64 (wd S 0), .int .u64 (wd S 1), .int .u64 (wd S 2), .int .u64 (wd S 3)] := by
  obtain ⟨S, hS⟩ := set_open h
  exact ⟨S, Array.toList_inj.1 hS⟩
end Go.Proofs.Ytjlmmpbichfaoaa
