/- A set that came in, opened. -/
import Derived.Test.YtglgmnhfpemfeaaDoorOpenSets
namespace Go.Proofs.YtglgmnhfpemfeaaDoor
open Go.RowKit Go.ChangeShapes Go.WideShapes Go.Deep
theorem okWide_arr {P : Program} {w : World} {r : Reach} {base : Nat} {t : TypeId} {v : Value} {n : Nat} {e : TypeId} (ht : P.underlying t = some (.array n e)) (h : Value.okWide P w r base t v) : ∃ cs, v = .agg cs ∧ cs.size = P.cellsOf t := by
  unfold Value.okWide at h
  simp only [ht] at h
  obtain ⟨cs, rfl, h1, _⟩ := h
  exact ⟨cs, rfl, h1⟩
theorem set_open' {H : Type} {enc : TypeId × Value → H} {W : World} {fuel : Nat} {cs : Array Value} {x : DataW H × List MemPlace}
    (h : DataW.trod enc Tryd.prog W 0 (fun _ => true) true fuel 24 cs.toList = some x) : ∃ S : Nat → Bool, cs = #[.int .u64 (wd S 0), .int .u64 (wd S 1), .int .u64 (wd S 2), .int .u64 (wd S 3)] := by
  obtain ⟨S, hS⟩ := set_open h
  exact ⟨S, Array.toList_inj.1 hS⟩
end Go.Proofs.YtglgmnhfpemfeaaDoor
