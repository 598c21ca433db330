/- What an Out holds; which blocks a call may have written. -/
import Derived.Test.YtajfnkboeaflnaaRows
import Derived.Test.YtajfnkboeaflnaaOwn
import Derived.Lib.AppendStr
import Derived.WalkKit
import Derived.WalkLawsBesides
import Derived.WalkSpells
import Derived.Lib.Hide
import Derived.Maps.AppendAt
import Derived.Deep.QuietTactic
import Derived.BigQuiet
namespace Go.Proofs.Ytajfnkboeaflnaa
open Go.RowKit

theorem ret_int {k : IntKind} {a b : Int} (h : a = b) : Ending.returned (.int k a) = .returned (.int k b) := by rw [h]
theorem ret_bool {a b : Bool} (h : a = b) : Ending.returned (.bool a) = .returned (.bool b) := by rw [h]
theorem keeps {W w1 : World} (hb : Below W.heap.size W w1) : ∀ p u, W.cell? p = some u → w1.cell? p = some u :=
  fun p _ h => (hb.cell (World.block_lt_of_cell? W p h)).trans h
theorem infoU8 : (Try.prog.info? 5).map (fun i => (i.zero, i.size, i.bytes)) = some (some (.int .u8 0), 1, 1) := by kernel_rfl
/-- Bytes as cells. -/
def bv (l : List UInt8) : List Value := l.map fun b => Value.int .u8 b.toNat
theorem bv_len (l : List UInt8) : (bv l).length = l.length := by simp [bv]
theorem bv_app (l m : List UInt8) : bv (l ++ m) = bv l ++ bv m := by simp [bv]
theorem bv_str (s : ByteArray) : Lib.strCells s = bv s.data.toList := rfl

/-- All blocks that there were, but g and r, are as they were. -/
structure Kept (g : Nat) (r : Option Nat) (w w' : World) : Prop where
  os : w'.os = w.os
  tape : w'.tape = w.tape
  output : w'.output = w.output
  size : w.heap.size ≤ w'.heap.size
  blk : ∀ k, k < w.heap.size → k ≠ g → r ≠ some k → w'.heap[k]? = w.heap[k]?
/-- A row that was there, or is new. -/
def RowOr (n : Nat) (r0 r : Option Nat) : Prop := r = r0 ∨ ∃ k, n ≤ k ∧ r = some k
theorem Kept.refl (g : Nat) (r : Option Nat) (w : World) : Kept g r w w := ⟨rfl, rfl, rfl, Nat.le_refl _, fun _ _ _ _ => rfl⟩
theorem Kept.of_below {g : Nat} {r : Option Nat} {w w' : World} (h : Below w.heap.size w w') : Kept g r w w' := ⟨h.os, h.tape, h.output, h.size, fun k hk _ _ => h.block k hk⟩
theorem Kept.trans {g : Nat} {r0 r : Option Nat} {w a b : World} (h : Kept g r0 w a) (hr : RowOr w.heap.size r0 r) (k : Kept g r a b) : Kept g r0 w b :=
  ⟨k.os.trans h.os, k.tape.trans h.tape, k.output.trans h.output, Nat.le_trans h.size k.size, fun i hi hg hne => by
    refine (k.blk i (Nat.lt_of_lt_of_le hi h.size) hg ?_).trans (h.blk i hi hg hne)
    rcases hr with rfl | ⟨n, hn, rfl⟩
    · exact hne
    · intro e; have : n = i := by simpa using e
      omega⟩
theorem Kept.below {g : Nat} {r : Option Nat} {w0 w a : World} {B : Nat} (hb : Below B w0 w) (hBw : B ≤ w.heap.size) (h : Kept g r w a) (hg : B ≤ g) (hr : ∀ k, r = some k → B ≤ k) : Below B w0 a :=
  hb.trans ⟨h.os, h.tape, h.output, h.size, fun k hk => h.blk k (by omega) (by omega) (fun e => by have := hr k e; omega)⟩
theorem RowOr.refl (n : Nat) (r : Option Nat) : RowOr n r r := .inl rfl
theorem RowOr.trans {n m : Nat} {r0 r1 r2 : Option Nat} (h : RowOr n r0 r1) (hm : n ≤ m) (k : RowOr m r1 r2) : RowOr n r0 r2 := by
  rcases k with rfl | ⟨i, hi, rfl⟩
  · exact h
  · exact .inr ⟨i, by omega, rfl⟩
theorem RowOr.ge {n B : Nat} {r0 r : Option Nat} (h : RowOr n r0 r) (h0 : ∀ k, r0 = some k → B ≤ k) (hB : B ≤ n) : ∀ k, r = some k → B ≤ k := by
  rcases h with rfl | ⟨i, hi, rfl⟩
  · exact h0
  · intro k e; have : i = k := by simpa using e
    omega

/-- Block g is an Out: its buffer, its bytes, its room. -/
structure OutAt (w : World) (g : Nat) (v : Value) (bs : List UInt8) (room : Nat) : Prop where
  blk : w.heap[g]? = some (.cells #[v, .int .i64 room] 54 (0, 0))
  own : w.ownsRow 0 5 1 v bs.length (bv bs)
  ne : v.ownBlock ≠ some g
theorem OutAt.lt {w : World} {g : Nat} {v : Value} {bs : List UInt8} {room : Nat} (h : OutAt w g v bs room) : g < w.heap.size := by
  rcases Nat.lt_or_ge g w.heap.size with hl | hl
  · exact hl
  · have := h.blk; rw [Array.getElem?_eq_none hl] at this; cases this
theorem OutAt.c0 {w : World} {g : Nat} {v : Value} {bs : List UInt8} {room : Nat} (h : OutAt w g v bs room) : w.cell? ⟨g, 0, none⟩ = some v := by
  rw [cell_of_row w g 0 _ _ _ h.blk]; rfl
theorem OutAt.c1 {w : World} {g : Nat} {v : Value} {bs : List UInt8} {room : Nat} (h : OutAt w g v bs room) : w.cell? ⟨g, 1, none⟩ = some (.int .i64 room) := by
  rw [cell_of_row w g 1 _ _ _ h.blk]; rfl
theorem OutAt.fz {w : World} {g : Nat} {v : Value} {bs : List UInt8} {room : Nat} (h : OutAt w g v bs room) (k : Nat) : w.frozen? ⟨g, k, none⟩ = false := frozen_of_row w g k _ _ h.blk
theorem own_lt {w : World} {base : Nat} {e : TypeId} {size : Nat} {v : Value} {n : Nat} {xs : List Value} (h : w.ownsRow base e size v n xs) {k : Nat} (hk : v.ownBlock = some k) : k < w.heap.size := (h.lt k hk).2
theorem OutAt.kept {w w' : World} {g g' : Nat} {r : Option Nat} {v : Value} {bs : List UInt8} {room : Nat} (h : OutAt w g v bs room) (hk : Kept g' r w w') (h1 : g ≠ g') (h2 : r ≠ some g) (h3 : v.ownBlock ≠ some g') (h4 : v.ownBlock = none ∨ v.ownBlock ≠ r) : OutAt w' g v bs room := by
  refine ⟨(hk.blk g h.lt h1 h2).trans h.blk, ?_, h.ne⟩
  refine ⟨h.own.1, ?_⟩
  rcases h.own.2 with h' | ⟨k, cap, cur, hv, hbg, hg, r'⟩
  · exact .inl h'
  · have hb : v.ownBlock = some k := by rw [hv]; rfl
    refine .inr ⟨k, cap, cur, hv, hbg, (hk.blk k (own_lt h.own hb) ?_ ?_).trans hg, r'⟩
    · intro e; rw [hb, e] at h3; exact h3 rfl
    · intro e
      rcases h4 with h4 | h4
      · rw [hb] at h4; cases h4
      · exact h4 (by rw [hb, e])
theorem OutAt.below {w w' : World} {g : Nat} {v : Value} {bs : List UInt8} {room : Nat} (h : OutAt w g v bs room) (hb : Below w.heap.size w w') : OutAt w' g v bs room :=
  ⟨(hb.block g h.lt).trans h.blk, ownB h.own hb, h.ne⟩
/-- The buffer's value. -/
theorem OutAt.form {w : World} {g : Nat} {v : Value} {bs : List UInt8} {room : Nat} (h : OutAt w g v bs room) : ∃ A c, v = .slice A bs.length c := own_form h.own
end Go.Proofs.Ytajfnkboeaflnaa
