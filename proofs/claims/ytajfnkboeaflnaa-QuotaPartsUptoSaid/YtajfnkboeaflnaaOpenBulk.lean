/- A slice of strings, opened, with the bound on all of them. -/
import Derived.Test.YtajfnkboeaflnaaOpenOps
import Derived.SliceStrings
namespace Go.Proofs.Ytajfnkboeaflnaa
open Go.RowKit Go.ChangeShapes Go.WideShapes Go.Deep

theorem bulk_strs {H : Type} : ∀ (ls : List ByteArray), (flat ls).length ≤ Rows.uptoBulkAll (strs (H := H) ls)
  | [] => by simp [flat]
  | s :: l => by
    have ih := bulk_strs (H := H) l
    have e : (flat (s :: l)).length = s.size + (flat l).length := by simp [flat]
    have e2 : s.data.toList.length = s.size := by simp
    rw [e]
    simp only [strs, List.map_cons, Rows.uptoBulkAll, Rows.uptoBulk] at ih ⊢
    omega
theorem strs_bulk {H : Type} {enc : TypeId × Value → H} {W : World} {fuel : Nat} {a : Option Addr} {len cap : Nat} {d : DataW H} {ps : List MemPlace}
    (h : DataW.trod enc Try.prog W 0 (fun _ => true) true fuel 22 [.slice a len cap] = some (d, ps)) : ∃ ls, StrRow W a len ls ∧ (flat ls).length ≤ Rows.uptoBulk d := by
  rcases open_strings Try.underlying22 Try.underlying9 cells_str h with ⟨hcs, _⟩ | ⟨x, l, c, ss, hcs, hb, hl, hm, hss, hx, hc, hmax⟩
  · simp at hcs
    obtain ⟨rfl, rfl, rfl⟩ := hcs
    exact ⟨[], ⟨rfl, by decide, by simp, fun h => absurd h (by decide)⟩, by simp [flat]⟩
  · simp at hcs
    obtain ⟨rfl, rfl, rfl⟩ := hcs
    simp only [Prod.mk.injEq] at hx
    obtain ⟨rfl, _⟩ := hx
    have hml : maxLen ≤ 9223372036854775807 := by decide
    have hss' : ss.length = cap := by simpa using hss
    refine ⟨ss.take len, ⟨by simp; omega, by omega, fun s hs => by have := hmax s (List.mem_of_mem_take hs); omega, fun hp => ?_⟩, ?_⟩
    · obtain ⟨b0, off, spot⟩ := x
      have c0 := hc 0 (by omega)
      have hspot : spot = none := by simpa [Addr.add] using World.cell?_spot c0
      subst hspot
      refine ⟨b0, off, rfl, by have := World.block_lt_of_cell? W _ c0; rwa [Go.WideShapes.add_plain] at this, fun i s hi => ?_⟩
      have hi1 : i < len := by have := (List.getElem?_eq_some_iff.1 hi).1; simp at this; omega
      rw [List.getElem?_take_of_lt hi1] at hi
      have := hc i (by omega)
      rw [Go.WideShapes.add_plain] at this
      rw [this, List.getD_eq_getElem?_getD, hi]; rfl
    · have := bulk_strs (H := H) (ss.take len)
      simp only [Rows.uptoBulk]
      omega
end Go.Proofs.Ytajfnkboeaflnaa
