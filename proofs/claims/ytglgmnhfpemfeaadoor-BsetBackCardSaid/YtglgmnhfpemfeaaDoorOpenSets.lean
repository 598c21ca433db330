/- An argument that is a slice of sets, opened. -/
import Derived.Test.YtglgmnhfpemfeaaDoorSRow
import Derived.ProofKit
import Derived.OpenShut
import Derived.Deep.Slices
namespace Go.Proofs.YtglgmnhfpemfeaaDoor
open Go.RowKit Go.ChangeShapes Go.WideShapes Go.Deep

theorem cellsSet : Tryd.prog.cellsOf 24 = 4 := by kernel_rfl
theorem cellsU64 : Tryd.prog.cellsOf 22 = 1 := by kernel_rfl
theorem nat_of_wf {n : Int} (h : (Lit.int .u64 n).wf = true) : ∃ m : Nat, n = m ∧ m < 18446744073709551616 := by
  have := bounds_u64 h
  exact ⟨n.toNat, by omega, by omega⟩
theorem set_open {H : Type} {enc : TypeId × Value → H} {W : World} {fuel : Nat} {cs : List Value} {x : DataW H × List MemPlace}
    (h : DataW.trod enc Tryd.prog W 0 (fun _ => true) true fuel 24 cs = some x) : ∃ S : Nat → Bool, cs = [.int .u64 (wd S 0), .int .u64 (wd S 1), .int .u64 (wd S 2), .int .u64 (wd S 3)] := by
  obtain ⟨xs, m, rfl, rfl, hl, hx, hi⟩ := DataW.trod_array Tryd.underlying24 h
  rw [cellsSet] at hl
  rw [cellsU64] at hi
  match cs, hl with
  | [c0, c1, c2, c3], _ =>
    have g : ∀ i (h : i < 4), ∃ n : Int, [c0, c1, c2, c3][i]? = some (.int .u64 n) ∧ (Lit.int .u64 n).wf = true := by
      intro i h4
      have hh := hi i h4
      rw [List.getElem?_eq_getElem (show i < xs.length by omega)] at hh
      have hi4 : i = 0 ∨ i = 1 ∨ i = 2 ∨ i = 3 := by omega
      rcases hi4 with rfl | rfl | rfl | rfl
      all_goals
        obtain ⟨n, e, _, wn⟩ := DataW.trod_int Tryd.underlying22 hh
        simp at e
        exact ⟨n, by simp [e], wn⟩
    obtain ⟨n0, e0, w0⟩ := g 0 (by omega)
    obtain ⟨n1, e1, w1⟩ := g 1 (by omega)
    obtain ⟨n2, e2, w2⟩ := g 2 (by omega)
    obtain ⟨n3, e3, w3⟩ := g 3 (by omega)
    simp at e0 e1 e2 e3
    subst e0 e1 e2 e3
    obtain ⟨m0, rfl, l0⟩ := nat_of_wf w0
    obtain ⟨m1, rfl, l1⟩ := nat_of_wf w1
    obtain ⟨m2, rfl, l2⟩ := nat_of_wf w2
    obtain ⟨m3, rfl, l3⟩ := nat_of_wf w3
    refine ⟨ofWords fun i => if i = 0 then m0 else if i = 1 then m1 else if i = 2 then m2 else m3, ?_⟩
    rw [wd_ofWords _ 0 (by simpa using l0), wd_ofWords _ 1 (by simpa using l1), wd_ofWords _ 2 (by simpa using l2), wd_ofWords _ 3 (by simpa using l3)]
    rfl
theorem srow_open {H : Type} {enc : TypeId × Value → H} {W : World} {fuel : Nat} {a : Option Addr} {len cap : Nat} {x : DataW H × List MemPlace}
    (h : DataW.trod enc Tryd.prog W 0 (fun _ => true) true fuel 31 [.slice a len cap] = some x) : ∃ ls, SRow W a len ls := by
  rcases open_slice Tryd.underlying31 h with ⟨hcs, _⟩ | ⟨b, l, c, m, n, D, Pl, hcs, hb, hl, hm, hmm, _, hi⟩
  · simp at hcs
    obtain ⟨rfl, rfl, rfl⟩ := hcs
    exact ⟨[], rfl, by decide, fun h => absurd h (by decide)⟩
  · simp at hcs
    obtain ⟨rfl, rfl, rfl⟩ := hcs
    rw [cellsSet] at hi
    have hm' : m = cap := by simpa using hmm
    have key : ∀ i, i < len → ∃ S : Nat → Bool, ∀ j, j < 4 → W.cell? (b.add (i * 4 + j)) = some (.int .u64 (wd S j)) := by
      intro i hil
      obtain ⟨cs', h1, h2⟩ := hi i (by omega)
      obtain ⟨S, rfl⟩ := set_open h2
      refine ⟨S, fun j hj => ?_⟩
      have := (World.cells?_some h1).2.2 j (by simpa using hj)
      first | rw [Addr.add_add] at this | rw [Go.Deep.add_add] at this | rw [add_add] at this
      rw [this]
      have hj4 : j = 0 ∨ j = 1 ∨ j = 2 ∨ j = 3 := by omega
      rcases hj4 with rfl | rfl | rfl | rfl <;> rfl
    obtain ⟨F, hF⟩ := choose_lt (α := Nat → Bool) (p := fun i S => ∀ j, j < 4 → W.cell? (b.add (i * 4 + j)) = some (.int .u64 (wd S j))) key
    refine ⟨(List.range len).map F, by simp, ?_, fun hp => ?_⟩
    · have hml : maxLen ≤ 9223372036854775807 := by decide
      omega
    obtain ⟨b0, off, spot⟩ := b
    have hspot : spot = none := by simpa [Addr.add] using World.cell?_spot (hF 0 hp 0 (by omega))
    subst hspot
    refine ⟨b0, off, rfl, World.block_lt_of_cell? W _ (hF 0 hp 0 (by omega)), fun i S hi j hj => ?_⟩
    have hil : i < len := by
      have := (List.getElem?_eq_some_iff.1 hi).1
      simpa using this
    have hS : S = F i := by
      rw [List.getElem?_map, List.getElem?_range hil] at hi
      simpa using hi.symm
    rw [hS, show off + i * 4 + j = off + (i * 4 + j) by omega, ← Go.WideShapes.add_plain]
    exact hF i hil j hj
end Go.Proofs.YtglgmnhfpemfeaaDoor
