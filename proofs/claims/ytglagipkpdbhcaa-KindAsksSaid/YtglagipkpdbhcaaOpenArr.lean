/- An argument that is an array of 256 bytes, or a set, opened. -/
import Derived.Test.YtglagipkpdbhcaaOpenSets
import Derived.Test.YtglagipkpdbhcaaArr
namespace Go.Proofs.Ytglagipkpdbhcaa
open Go.RowKit Go.ChangeShapes Go.WideShapes Go.Deep

theorem okWide_arr {P : Program} {w : World} {r : Reach} {base : Nat} {t : TypeId} {v : Value} {n : Nat} {e : TypeId} (ht : P.underlying t = some (.array n e)) (h : Value.okWide P w r base t v) : ∃ cs, v = .agg cs ∧ cs.size = P.cellsOf t := by
  unfold Value.okWide at h
  simp only [ht] at h
  obtain ⟨cs, rfl, h1, _⟩ := h
  exact ⟨cs, rfl, h1⟩
theorem cellsArr : Try.prog.cellsOf 24 = 256 := by kernel_rfl
theorem cellsU8 : Try.prog.cellsOf 5 = 1 := by kernel_rfl
set_option maxRecDepth 100000 in
theorem arr_open {H : Type} {enc : TypeId × Value → H} {W : World} {fuel : Nat} {cs : Array Value} {x : DataW H × List MemPlace}
    (h : DataW.trod enc Try.prog W 0 (fun _ => true) true fuel 24 cs.toList = some x) : ∃ C : Nat → Nat, cs = arrC C ∧ ∀ i, C i < 256 := by
  obtain ⟨xs, m, rfl, rfl, hl, hx, hi⟩ := DataW.trod_array Try.underlying24 h
  rw [cellsArr] at hl
  rw [cellsU8] at hi
  have hsz : cs.size = 256 := by simpa using hl
  refine arrC_of cs hsz fun i hic => ?_
  have hh := hi i (by omega)
  rw [List.getElem?_eq_getElem (show i < xs.length by omega)] at hh
  obtain ⟨n, e, _, wn⟩ := DataW.trod_int Try.underlying5 hh
  have he : cs[i] = .int .u8 n := by
    have h2 : (List.take 1 (List.drop (i * 1) cs.toList))[0]? = some (.int .u8 n) := by rw [e]; rfl
    rw [List.getElem?_take_of_lt (by omega), List.getElem?_drop] at h2
    simpa [hic] using h2
  have hb := bounds_u8 wn
  exact ⟨n.toNat, by rw [he]; congr 1; omega, by omega⟩
theorem set_open' {H : Type} {enc : TypeId × Value → H} {W : World} {fuel : Nat} {cs : Array Value} {x : DataW H × List MemPlace}
    (h : DataW.trod enc Try.prog W 0 (fun _ => true) true fuel 28 cs.toList = some x) : ∃ S : Nat → Bool, cs = #[.int .u64 (wd S 0), .int .u64 (wd S 1), .int .u64 (wd S 2), .int .u64 (wd S 3)] := by
  obtain ⟨S, hS⟩ := set_open h
  exact ⟨S, Array.toList_inj.1 hS⟩
end Go.Proofs.Ytglagipkpdbhcaa
