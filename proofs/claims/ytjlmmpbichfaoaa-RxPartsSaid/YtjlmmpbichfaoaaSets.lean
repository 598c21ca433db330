/- Sets of bytes as functions, and the four words that hold one: plain lemmas. -/
import Derived.WalkKit
namespace Go.Proofs.Ytjlmmpbichfaoaa
open Go.RowKit

/-- The number whose bits below n are f's. -/
def wdf (f : Nat → Bool) : Nat → Nat
  | 0 => 0
  | n + 1 => wdf f n + (if f n then 2 ^ n else 0)
theorem wdf_lt (f : Nat → Bool) : ∀ n, wdf f n < 2 ^ n
  | 0 => by simp [wdf]
  | n + 1 => by
    have := wdf_lt f n
    simp only [wdf]
    split <;> (rw [Nat.pow_succ]; omega)
theorem wdf_bit (f : Nat → Bool) : ∀ n k, (wdf f n).testBit k = (decide (k < n) && f k)
  | 0, k => by simp [wdf]
  | n + 1, k => by
    have hl := wdf_lt f n
    have ih := wdf_bit f n k
    simp only [wdf]
    by_cases hf : f n
    · rw [if_pos hf, Nat.add_comm]
      rcases Nat.lt_trichotomy k n with h | h | h
      · rw [Nat.testBit_two_pow_add_gt h, ih]
        simp [h, Nat.lt_succ_of_lt h]
      · subst h
        rw [Nat.testBit_two_pow_add_eq, ih]
        simp [hf]
      · have : 2 ^ n + wdf f n < 2 ^ k := by
          have h2 : 2 ^ (n + 1) ≤ 2 ^ k := Nat.pow_le_pow_right (by omega) h
          rw [Nat.pow_succ] at h2; omega
        rw [Nat.testBit_lt_two_pow this]
        have h1 : ¬ k < n + 1 := by omega
        simp [h1]
    · rw [if_neg hf, Nat.add_zero, ih]
      rcases Nat.lt_trichotomy k n with h | h | h
      · simp [h, Nat.lt_succ_of_lt h]
      · subst h; simp [hf]
      · have h1 : ¬ k < n + 1 := by omega
        have h2 : ¬ k < n := by omega
        simp [h1, h2]
/-- Word i of a set. -/
def wd (S : Nat → Bool) (i : Nat) : Nat := wdf (fun k => S (64 * i + k)) 64
theorem wd_lt (S : Nat → Bool) (i : Nat) : wd S i < 18446744073709551616 := wdf_lt _ 64
theorem wd_bit (S : Nat → Bool) (i k : Nat) : (wd S i).testBit k = (decide (k < 64) && S (64 * i + k)) := wdf_bit _ 64 k
theorem wd_ext {S : Nat → Bool} {i a : Nat} (ha : a < 18446744073709551616) (h : ∀ k, k < 64 → a.testBit k = S (64 * i + k)) : a = wd S i := by
  apply Nat.eq_of_testBit_eq
  intro k
  rw [wd_bit]
  by_cases hk : k < 64
  · simp [hk, h k hk]
  · have : a < 2 ^ k := Nat.lt_of_lt_of_le (show a < 2 ^ 64 from ha) (Nat.pow_le_pow_right (by omega) (by omega : 64 ≤ k))
    rw [Nat.testBit_lt_two_pow this]; simp [hk]
theorem wd_congr {S T : Nat → Bool} {i : Nat} (h : ∀ k, k < 64 → S (64 * i + k) = T (64 * i + k)) : wd S i = wd T i :=
  wd_ext (wd_lt S i) fun k hk => by rw [wd_bit]; simp [hk, h k hk]
theorem wd_inj {S T : Nat → Bool} {i : Nat} (h : wd S i = wd T i) : ∀ k, k < 64 → S (64 * i + k) = T (64 * i + k) := by
  intro k hk
  have := congrArg (fun a => a.testBit k) h
  simp only [wd_bit, hk, decide_true, Bool.true_and] at this
  exact this
/-- The value of a set. -/
def setV (S : Nat → Bool) : Value := .agg #[.int .u64 (wd S 0), .int .u64 (wd S 1), .int .u64 (wd S 2), .int .u64 (wd S 3)]
/-- The same bytes below 256. -/
def SameSet (S T : Nat → Bool) : Prop := ∀ x, x < 256 → S x = T x
theorem SameSet.wd_eq {S T : Nat → Bool} (h : SameSet S T) (i : Nat) (hi : i < 4) : wd S i = wd T i := wd_congr fun k hk => h _ (by omega)
theorem SameSet.val {S T : Nat → Bool} (h : SameSet S T) : setV S = setV T := by
  unfold setV; rw [h.wd_eq 0 (by omega), h.wd_eq 1 (by omega), h.wd_eq 2 (by omega), h.wd_eq 3 (by omega)]
theorem SameSet.of_words {S T : Nat → Bool} (h : ∀ i, i < 4 → wd S i = wd T i) : SameSet S T := by
  intro x hx
  have := wd_inj (h (x / 64) (by omega)) (x % 64) (by omega)
  rwa [show 64 * (x / 64) + x % 64 = x by omega] at this
/-- The set of four words. -/
def ofWords (a : Nat → Nat) : Nat → Bool := fun x => (a (x / 64)).testBit (x % 64)
theorem wd_ofWords (a : Nat → Nat) (i : Nat) (h : a i < 18446744073709551616) : wd (ofWords a) i = a i :=
  (wd_ext h fun k hk => by unfold ofWords; rw [show (64 * i + k) / 64 = i by omega, show (64 * i + k) % 64 = k by omega]).symm
/-- A word's bit, as Go asks for it: by a mask, by a shift. -/
theorem shr_odd (x k : Nat) : (x / 2 ^ k % 2 == 1) = x.testBit k := by
  rw [Nat.testBit_eq_decide_div_mod_eq]
  by_cases h : x / 2 ^ k % 2 = 1 <;> simp [h]
theorem and_pow_ne (x k : Nat) : ((x &&& 2 ^ k) != 0) = x.testBit k := by
  rw [nat_bit, ← shr_odd]
  have hp : 0 < 2 ^ k := Nat.two_pow_pos k
  have : x / 2 ^ k % 2 = 0 ∨ x / 2 ^ k % 2 = 1 := by omega
  rcases this with h | h
  · simp [h]
  · rw [h]; simp
theorem bits_and_u64 (a b : Nat) (ha : a < 18446744073709551616) (hb : b < 18446744073709551616) : bits .and .u64 (a : Int) (b : Int) = ((a &&& b : Nat) : Int) := u64_and_nat a b ha hb
theorem bits_or_u64 (a b : Nat) (ha : a < 18446744073709551616) (hb : b < 18446744073709551616) : bits .or .u64 (a : Int) (b : Int) = ((a ||| b : Nat) : Int) := u64_or_nat a b ha hb
/-- What And, All, Not come to, word by word. -/
theorem wd_and (S T : Nat → Bool) (i : Nat) : wd S i &&& wd T i = wd (fun x => S x && T x) i :=
  wd_ext (Nat.lt_of_le_of_lt Nat.and_le_left (wd_lt S i)) fun k hk => by simp [Nat.testBit_and, wd_bit, hk]
theorem wd_or (S T : Nat → Bool) (i : Nat) : wd S i ||| wd T i = wd (fun x => S x || T x) i :=
  wd_ext (Nat.or_lt_two_pow (n := 64) (wd_lt S i) (wd_lt T i)) fun k hk => by simp [Nat.testBit_or, wd_bit, hk]
theorem wd_not (S : Nat → Bool) (i : Nat) : 18446744073709551615 - wd S i = wd (fun x => !S x) i :=
  wd_ext (by have := wd_lt S i; omega) fun k hk => by
    have h := Nat.testBit_two_pow_sub_succ (wd_lt S i) k (n := 64)
    have e : (2 : Nat) ^ 64 - (wd S i + 1) = 18446744073709551615 - wd S i := by have := wd_lt S i; omega
    rw [e] at h
    rw [h, wd_bit]; simp [hk]
theorem wd_one (b : Nat) (i : Nat) : wd (fun x => x == b) i = if b / 64 = i then 2 ^ (b % 64) else 0 := by
  split
  · rename_i h
    refine (wd_ext ?_ fun k hk => ?_).symm
    · exact Nat.lt_of_lt_of_le (Nat.pow_lt_pow_right (by omega) (by omega : b % 64 < 64)) (Nat.le_refl (2 ^ 64))
    · rw [Nat.testBit_two_pow]
      have : (b % 64 = k) ↔ (64 * i + k = b) := by omega
      by_cases hb : b % 64 = k
      · have h2 := this.1 hb; simp [hb, h2]
      · have h2 : ¬ 64 * i + k = b := fun e => hb (this.2 e)
        simp [hb, h2]
  · rename_i h
    refine (wd_ext (by decide) fun k hk => ?_).symm
    have h2 : ¬ 64 * i + k = b := by omega
    simp [h2]
end Go.Proofs.Ytjlmmpbichfaoaa
