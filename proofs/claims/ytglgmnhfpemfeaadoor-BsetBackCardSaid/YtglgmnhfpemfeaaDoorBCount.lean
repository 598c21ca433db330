/- math/bits' OnesCount64, TrailingZeros64, and how many bytes a set has. -/
import Derived.Test.YtglgmnhfpemfeaaDoorBSpan
import Derived.Test.YtglgmnhfpemfeaaDoorPop
import Derived.Shelf.Spec.TrailingZeros
namespace Go.Proofs.YtglgmnhfpemfeaaDoor
open Go.RowKit
set_option linter.unusedVariables false

theorem u64_nat (a : Nat) (h : a < 18446744073709551616) : IntKind.u64.wrap (a : Int) = (a : Int) := IntWalk.u64_in _ ⟨by omega, by omega⟩
theorem wrap64_mod (y : Nat) (h : y < 18446744073709551616) : wrap64 (y : Int) % 18446744073709551616 = (y : Int) := by unfold wrap64; omega
theorem ofInt_wrap (y : Nat) (h : y < 18446744073709551616) : (BitVec.ofInt 64 (wrap64 (y : Int))).toNat = y := by
  rw [BitVec.toNat_ofInt]
  have e : (((2 ^ 64 : Nat) : Int)) = 18446744073709551616 := by decide
  rw [e, wrap64_mod y h, Int.toNat_natCast]
theorem ofInt127 : (BitVec.ofInt 64 127).toNat = 127 := by decide
theorem and_127 (y : Nat) : y &&& 127 = y % 128 := Nat.and_two_pow_sub_one_eq_mod y 7
theorem and127 (y : Nat) (h : y < 18446744073709551616) : bits BinOp.and IntKind.i64 (wrap64 (y : Int)) 127 = ((y % 128 : Nat) : Int) := by
  show IntKind.i64.wrap ((BitVec.ofInt 64 (wrap64 (y : Int)) &&& BitVec.ofInt 64 127).toNat : Int) = _
  rw [BitVec.toNat_and, ofInt_wrap y h, ofInt127, and_127]
  exact IntWalk.i64_in _ ⟨by omega, by omega⟩
/-- The steps of OnesCount64, as the walk spells them. -/
structure OnesF (x y1 y2 y3 a1 a2 a3 : Nat) : Prop where
  q1 : IntKind.u64.wrap (bits BinOp.and IntKind.u64 ((x : Int) / 2) 6148914691236517205 + bits BinOp.and IntKind.u64 (x : Int) 6148914691236517205) = (a1 : Int)
  q2 : IntKind.u64.wrap (bits BinOp.and IntKind.u64 ((a1 : Int) / 4) 3689348814741910323 + bits BinOp.and IntKind.u64 (a1 : Int) 3689348814741910323) = (a2 : Int)
  q3 : bits BinOp.and IntKind.u64 (IntKind.u64.wrap ((a2 : Int) / 16 + (a2 : Int))) 1085102592571150095 = (a3 : Int)
  q4 : IntKind.u64.wrap ((a3 : Int) + (a3 : Int) / 256) = (y1 : Int)
  q5 : IntKind.u64.wrap ((y1 : Int) + (y1 : Int) / 65536) = (y2 : Int)
  q6 : IntKind.u64.wrap ((y2 : Int) + (y2 : Int) / 4294967296) = (y3 : Int)
  q7 : bits BinOp.and IntKind.i64 (wrap64 (y3 : Int)) 127 = (popN x : Int)
theorem ones_facts (x : Nat) (hx : x < 18446744073709551616) : ∃ y1 y2 y3 a1 a2 a3, OnesF x y1 y2 y3 a1 a2 a3 := by
  obtain ⟨_, b1, b2, b3⟩ := s123 x hx
  obtain ⟨y1, y2, y3, e1, e2, e3, h3, hp⟩ := pop_steps x hx
  obtain ⟨a1, ha1⟩ : ∃ a1, s1 x = a1 := ⟨_, rfl⟩
  rw [ha1] at b1 b2 b3 e1
  obtain ⟨a2, ha2⟩ : ∃ a2, s2 a1 = a2 := ⟨_, rfl⟩
  rw [ha2] at b2 b3 e1
  obtain ⟨a3, ha3⟩ : ∃ a3, s3 a2 = a3 := ⟨_, rfl⟩
  rw [ha3] at e1
  have hb3 : a3 < 18446744073709551616 := by rw [← ha3]; exact Nat.lt_of_le_of_lt Nat.and_le_left b3
  have q1 : IntKind.u64.wrap (bits BinOp.and IntKind.u64 ((x : Int) / 2) 6148914691236517205 + bits BinOp.and IntKind.u64 (x : Int) 6148914691236517205) = (a1 : Int) := by
    have h1 := bits_and_u64 (x / 2) 6148914691236517205 (by omega) (by decide)
    have h2 := bits_and_u64 x 6148914691236517205 hx (by decide)
    have e : ((x / 2 : Nat) : Int) = (x : Int) / 2 := by omega
    rw [e] at h1
    have h1 : bits BinOp.and IntKind.u64 ((x : Int) / 2) 6148914691236517205 = _ := h1
    have h2 : bits BinOp.and IntKind.u64 (x : Int) 6148914691236517205 = _ := h2
    rw [h1, h2, ← ha1, ← u64_nat (s1 x) (by omega)]
    unfold s1
    congr 1
  have q2 : IntKind.u64.wrap (bits BinOp.and IntKind.u64 ((a1 : Int) / 4) 3689348814741910323 + bits BinOp.and IntKind.u64 (a1 : Int) 3689348814741910323) = (a2 : Int) := by
    have h1 := bits_and_u64 (a1 / 4) 3689348814741910323 (by omega) (by decide)
    have h2 := bits_and_u64 a1 3689348814741910323 b1 (by decide)
    have e : ((a1 / 4 : Nat) : Int) = (a1 : Int) / 4 := by omega
    rw [e] at h1
    have h1 : bits BinOp.and IntKind.u64 ((a1 : Int) / 4) 3689348814741910323 = _ := h1
    have h2 : bits BinOp.and IntKind.u64 (a1 : Int) 3689348814741910323 = _ := h2
    rw [h1, h2, ← ha2, ← u64_nat (s2 a1) (by omega)]
    unfold s2
    congr 1
  have q3 : bits BinOp.and IntKind.u64 (IntKind.u64.wrap ((a2 : Int) / 16 + (a2 : Int))) 1085102592571150095 = (a3 : Int) := by
    have e : ((a2 : Int) / 16 + (a2 : Int)) = ((a2 / 16 + a2 : Nat) : Int) := by omega
    rw [e, u64_nat _ b3]
    have h1 := bits_and_u64 (a2 / 16 + a2) 1085102592571150095 b3 (by decide)
    have h1 : bits BinOp.and IntKind.u64 ((a2 / 16 + a2 : Nat) : Int) 1085102592571150095 = _ := h1
    rw [h1, ← ha3]
    rfl
  have q4 : IntKind.u64.wrap ((a3 : Int) + (a3 : Int) / 256) = (y1 : Int) := by
    rw [show ((a3 : Int) + (a3 : Int) / 256) = (y1 : Int) by omega]; exact u64_nat _ (by omega)
  have q5 : IntKind.u64.wrap ((y1 : Int) + (y1 : Int) / 65536) = (y2 : Int) := by
    rw [show ((y1 : Int) + (y1 : Int) / 65536) = (y2 : Int) by omega]; exact u64_nat _ (by omega)
  have q6 : IntKind.u64.wrap ((y2 : Int) + (y2 : Int) / 4294967296) = (y3 : Int) := by
    rw [show ((y2 : Int) + (y2 : Int) / 4294967296) = (y3 : Int) by omega]; exact u64_nat _ (by omega)
  have q7 : bits BinOp.and IntKind.i64 (wrap64 (y3 : Int)) 127 = (popN x : Int) := by rw [and127 y3 h3, hp]
  exact ⟨y1, y2, y3, a1, a2, a3, ⟨q1, q2, q3, q4, q5, q6, q7⟩⟩
theorem ones_core (x y1 y2 y3 a1 a2 a3 n : Nat) (w : World)
    (q1 : IntKind.u64.wrap (bits BinOp.and IntKind.u64 ((x : Int) / 2) 6148914691236517205 + bits BinOp.and IntKind.u64 (x : Int) 6148914691236517205) = (a1 : Int))
    (q2 : IntKind.u64.wrap (bits BinOp.and IntKind.u64 ((a1 : Int) / 4) 3689348814741910323 + bits BinOp.and IntKind.u64 (a1 : Int) 3689348814741910323) = (a2 : Int))
    (q3 : bits BinOp.and IntKind.u64 (IntKind.u64.wrap ((a2 : Int) / 16 + (a2 : Int))) 1085102592571150095 = (a3 : Int))
    (q4 : IntKind.u64.wrap ((a3 : Int) + (a3 : Int) / 256) = (y1 : Int))
    (q5 : IntKind.u64.wrap ((y1 : Int) + (y1 : Int) / 65536) = (y2 : Int))
    (q6 : IntKind.u64.wrap ((y2 : Int) + (y2 : Int) / 4294967296) = (y3 : Int))
    (q7 : bits BinOp.and IntKind.i64 (wrap64 (y3 : Int)) 127 = (n : Int)) :
    Calls Tryd.prog 31 #[.int .u64 x] w fun e w' => e = .returned (.int .i64 n) ∧ w' = w := by
  go_enter Tryd.func31, Tryd.ntmps31
  go_wp2
  go_ret
  exact ⟨rfl, rfl⟩
theorem ones_any (x : Nat) (hx : x < 18446744073709551616) (w : World) :
    Calls Tryd.prog 31 #[.int .u64 x] w fun e w' => e = .returned (.int .i64 (popN x)) ∧ w' = w := by
  obtain ⟨y1, y2, y3, a1, a2, a3, h⟩ := ones_facts x hx
  exact ones_core x y1 y2 y3 a1 a2 a3 _ w h.q1 h.q2 h.q3 h.q4 h.q5 h.q6 h.q7
/-- The table of math/bits lies in the first variable. -/
def TabT (w : World) : Prop := ∀ j, j < 64 → w.cell? ⟨0, j, none⟩ = some (.int .u8 (Lib.deBruijn64tab.getD j 0 : Nat))
theorem TabT.below {w w' : World} (h : TabT w) (hb : Below w.heap.size w w') : TabT w' := fun j hj => keeps hb _ _ (h j hj)
theorem tz_core (x k idx : Nat) (w : World) (hx0 : ((x : Int) == 0) = false)
    (key : IntKind.u64.wrap (bits BinOp.and IntKind.u64 (x : Int) (IntKind.u64.wrap (-(x : Int))) * 285870213051353865) / 288230376151711744 = (idx : Int))
    (hi : idx < 64) (hk : k < 64) (hcell : w.cell? ⟨0, idx, none⟩ = some (.int .u8 k)) :
    Calls Tryd.prog 32 #[.int .u64 x] w fun e w' => e = .returned (.int .i64 k) ∧ w' = w := by
  go_enter Tryd.func32, Tryd.ntmps32
  go_wp2_with (simp only [key])
  go_ret
  exact ⟨rfl, rfl⟩
theorem tz_any (x : Nat) (hx : x < 18446744073709551616) (hx0 : x ≠ 0) (w : World) (hT : TabT w) :
    Calls Tryd.prog 32 #[.int .u64 x] w fun e w' => e = .returned (.int .i64 (Lib.ctz 64 x)) ∧ w' = w := by
  obtain ⟨hlow, hk⟩ := Lib.lowest_bit 64 x hx0 hx
  obtain ⟨hi, htab⟩ := Lib.deBruijn64_at _ hk
  have hcell := hT _ hi
  rw [htab] at hcell
  exact tz_core x _ _ w (by simp; omega) (tz64_key x _ hx hx0 hlow) hi hk hcell
/-- How many bytes below n a set has. -/
def cntS (S : Nat → Bool) (n : Nat) : Nat := (List.range n).countP S
theorem cntS_le (S : Nat → Bool) (n : Nat) : cntS S n ≤ n := by
  have := List.countP_le_length (p := S) (l := List.range n)
  simpa [cntS] using this
theorem cnt_word (S : Nat → Bool) (k : Nat) : cntS S (64 * (k + 1)) = cntS S (64 * k) + popN (wd S k) := by
  unfold cntS popN
  rw [show 64 * (k + 1) = 64 * k + 64 by omega, List.range_add, List.countP_append, List.countP_map]
  congr 1
  refine List.countP_congr fun j hj => ?_
  have hj := List.mem_range.1 hj
  simp [wd_bit, hj]
set_option maxHeartbeats 1000000 in
theorem count_any (S : Nat → Bool) (w : World) :
    Calls Tryd.prog 15 #[setV S] w fun e w' => e = .returned (.int .i64 (cntS S 256)) ∧ Below w.heap.size w w' := by
  have hy : SetAt (w.alloc (.cells #[.int .u64 (wd S 0), .int .u64 (wd S 1), .int .u64 (wd S 2), .int .u64 (wd S 3)] 24)) w.heap.size S := heap_alloc_new w _
  have HB := Lib.hid ((Below.refl _ _).alloc (Nat.le_refl w.heap.size) (.cells #[.int .u64 (wd S 0), .int .u64 (wd S 1), .int .u64 (wd S 2), .int .u64 (wd S 3)] 24))
  have HY := Lib.hid hy
  clear hy
  unfold setV
  go_enter Tryd.func15, Tryd.ntmps15
  go_wp2
  generalize w.alloc (.cells #[.int .u64 (wd S 0), .int .u64 (wd S 1), .int .u64 (wd S 2), .int .u64 (wd S 3)] 24) = w1 at *
  go_loop [3, 5] (fun n i => ∃ k : Nat, k ≤ 4 ∧ i = .int .i64 k ∧ n = .int .i64 (cntS S (64 * k))) (fun _ i => 4 - (intOf i).toNat)
  case atStart => exact ⟨0, by omega, rfl, rfl⟩
  case round =>
    obtain ⟨k, hk, rfl, rfl⟩ := hrel
    by_cases hlt : k < 4
    · have c := HY.out.cell k hlt
      have HO := Lib.hid (ones_any (wd S k) (wd_lt S k) w1)
      have HC := Lib.hid (cnt_word S k)
      have hc := cntS_le S (64 * k)
      have hp := popN_le (wd S k)
      have hp0 : (0 : Int) ≤ (k : Int) := by omega
      have hp1 : (k : Int) < 4 := by omega
      generalize cntS S (64 * k) = m at *
      generalize popN (wd S k) = q at *
      go_wp2_with fail
      refine HO.out.mono ?_
      rintro e w2 ⟨rfl, hw2⟩
      obtain rfl := hw2.symm
      go_wp2
      go_round
      case rel => exact ⟨k + 1, by omega, by go_num, by rw [HC.out]; go_num⟩
      case measure => simp [intOf]; omega
    · have hk4 : k = 4 := by omega
      subst hk4
      go_wp2
      go_ret
      exact ⟨rfl, HB.out⟩
end Go.Proofs.YtglgmnhfpemfeaaDoor
