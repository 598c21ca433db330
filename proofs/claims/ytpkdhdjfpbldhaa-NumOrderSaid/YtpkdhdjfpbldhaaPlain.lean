/- The digits of a number, as a list of bytes: plain lemmas. -/
namespace Go.Proofs.Ytpkdhdjfpbldhaa

/-- The digits of n ahead of the last ones (none of 0), with fuel. -/
def dgf : Nat → Nat → List UInt8
  | 0, _ => []
  | f + 1, n => if n = 0 then [] else dgf f (n / 10) ++ [UInt8.ofNat (48 + n % 10)]
def dg0 (n : Nat) : List UInt8 := dgf n n
def digs (n : Nat) : List UInt8 := dg0 (n / 10) ++ [UInt8.ofNat (48 + n % 10)]

theorem dgf_fuel : ∀ (f g n : Nat), n ≤ f → n ≤ g → dgf f n = dgf g n
  | 0, g, n, hf, _ => by
    have : n = 0 := by omega
    subst this
    cases g <;> simp [dgf]
  | f + 1, 0, n, _, hg => by
    have : n = 0 := by omega
    subst this
    simp [dgf]
  | f + 1, g + 1, n, hf, hg => by
    by_cases h : n = 0
    · simp [dgf, h]
    · simp only [dgf, h, if_false]
      rw [dgf_fuel f g (n / 10) (by omega) (by omega)]
theorem dg0_zero : dg0 0 = [] := rfl
theorem dg0_pos (n : Nat) (h : 0 < n) : dg0 n = dg0 (n / 10) ++ [UInt8.ofNat (48 + n % 10)] := by
  unfold dg0
  obtain ⟨m, rfl⟩ : ∃ m, n = m + 1 := ⟨n - 1, by omega⟩
  rw [dgf]
  simp only [Nat.add_eq_zero_iff, Nat.one_ne_zero, and_false, if_false]
  rw [dgf_fuel m ((m + 1) / 10) ((m + 1) / 10) (by omega) (by omega)]
theorem dg0_len : ∀ (k n : Nat), n < 10 ^ k → (dg0 n).length ≤ k
  | 0, n, h => by
    have : n = 0 := by simpa using h
    subst this; simp [dg0_zero]
  | k + 1, n, h => by
    by_cases hn : n = 0
    · subst hn; simp [dg0_zero]
    · rw [dg0_pos n (by omega)]
      have := dg0_len k (n / 10) (by rw [Nat.pow_succ] at h; omega)
      simp; omega
theorem digs_eq (n : Nat) (h : 0 < n) : digs n = dg0 n := by rw [dg0_pos n h]; rfl
theorem digs_len (n : Nat) (h : n < 10 ^ 20) : (digs n).length ≤ 20 := by
  unfold digs
  have := dg0_len 19 (n / 10) (by omega)
  simp; omega
end Go.Proofs.Ytpkdhdjfpbldhaa
