/- The operations of a list, opened. -/
import Derived.Test.YtajfnkboeaflnaaQFew
import Derived.Test.YtajfnkboeaflnaaCRow
namespace Go.Proofs.Ytajfnkboeaflnaa
open Go.RowKit Go.ChangeShapes Go.WideShapes Go.Deep

instance : Inhabited OpD := ⟨⟨0, none, 0, 0, [], 0, 0⟩⟩
theorem cells_str : Try.prog.cellsOf 9 = 1 := by kernel_rfl
theorem cells_op : Try.prog.cellsOf 38 = 4 := by kernel_rfl
theorem cells_int : Try.prog.cellsOf 3 = 1 := by kernel_rfl
theorem cells_u8 : Try.prog.cellsOf 5 = 1 := by kernel_rfl
theorem cells_strs : Try.prog.cellsOf 22 = 1 := by kernel_rfl
theorem strs_open {H : Type} {enc : TypeId × Value → H} {W : World} {fuel : Nat} {a : Option Addr} {len cap : Nat} {x : DataW H × List MemPlace}
    (h : DataW.trod enc Try.prog W 0 (fun _ => true) true fuel 22 [.slice a len cap] = some x) : ∃ ls, StrRow W a len ls := by
  obtain ⟨ls, ⟨h1, h2, h3⟩, hg⟩ := crow_open (C := fun s : ByteArray => [.string s]) (G := fun s => s.size ≤ 9223372036854775807) Try.underlying22 cells_str (by decide) (fun n cs y hy hl => by
    obtain ⟨s, rfl, _, hs⟩ := DataW.trod_string Try.underlying9 hy
    exact ⟨s, rfl, by have : maxLen ≤ 9223372036854775807 := by decide
                      omega⟩) h
  refine ⟨ls, h1, h2, hg, fun hp => ?_⟩
  obtain ⟨b, off, ha, hlt, hc⟩ := h3 hp
  exact ⟨b, off, ha, hlt, fun i s hi => by have := hc i s hi 0 _ rfl; simpa using this⟩
theorem op_open {H : Type} {enc : TypeId × Value → H} {W : World} {fuel : Nat} {cs : List Value} {x : DataW H × List MemPlace}
    (h : DataW.trod enc Try.prog W 0 (fun _ => true) true fuel 38 cs = some x) (hl : cs.length = 4) :
    ∃ o : OpD, cs = [.int .i64 o.k, .slice o.a o.len o.cap, .int .i64 o.n, .int .u8 (o.c.toNat : Nat)] ∧ -9223372036854775808 ≤ o.n ∧ o.n ≤ 9223372036854775807 ∧ StrRow W o.a o.len o.ls := by
  match cs, hl with
  | [c0, c1, c2, c3], _ =>
    obtain ⟨y0, y1, y2, y3, n, rfl, _, g0, g1, g2, g3⟩ := Joins.trod_struct4 Try.underlying38 h
    simp only [cells_int, cells_u8, cells_strs, List.drop_zero, List.drop_succ_cons, List.take_succ_cons, List.take_zero] at g0 g1 g2 g3
    obtain ⟨k, e0, _, _⟩ := DataW.trod_int Try.underlying3 g0
    obtain ⟨m, e2, _, w2⟩ := DataW.trod_int Try.underlying3 g2
    obtain ⟨z, e3, _, w3⟩ := DataW.trod_int Try.underlying5 g3
    obtain ⟨a, l, c, e1⟩ := Joins.slice_form Try.underlying22 g1
    simp at e0 e1 e2 e3
    subst e0 e1 e2 e3
    obtain ⟨ls, hls⟩ := strs_open g1
    have b2 := bounds_i64 w2
    have b3 := bounds_u8 w3
    refine ⟨⟨k, a, l, c, ls, m, UInt8.ofNat z.toNat⟩, ?_, b2.1, b2.2, hls⟩
    have : ((UInt8.ofNat z.toNat).toNat : Int) = z := by simp; omega
    dsimp only
    rw [this]
theorem ops_open {H : Type} {enc : TypeId × Value → H} {W : World} {fuel : Nat} {a : Option Addr} {len cap : Nat} {x : DataW H × List MemPlace}
    (h : DataW.trod enc Try.prog W 0 (fun _ => true) true fuel 31 [.slice a len cap] = some x) : ∃ os, OpRow W a len os := by
  obtain ⟨os, ⟨h1, h2, h3⟩, hg⟩ := crow_open (C := fun o : OpD => [.int .i64 o.k, .slice o.a o.len o.cap, .int .i64 o.n, .int .u8 (o.c.toNat : Nat)])
    (G := fun o => -9223372036854775808 ≤ o.n ∧ o.n ≤ 9223372036854775807 ∧ StrRow W o.a o.len o.ls) Try.underlying31 cells_op (by decide) (fun n cs y hy hl => by
      obtain ⟨o, e, g⟩ := op_open hy hl
      exact ⟨o, e, g⟩) h
  refine ⟨os, h1, h2, hg, fun hp => ?_⟩
  obtain ⟨b, off, ha, hlt, hc⟩ := h3 hp
  refine ⟨b, off, ha, hlt, fun i o hi => ⟨?_, ?_, ?_, ?_⟩⟩
  · have := hc i o hi 0 _ rfl; simpa using this
  · exact hc i o hi 1 _ rfl
  · exact hc i o hi 2 _ rfl
  · exact hc i o hi 3 _ rfl
end Go.Proofs.Ytajfnkboeaflnaa
