/- The plain law of texts between quotes. -/
import Derived.Test.YtnlpahdjiddooaaDoorEscFin
namespace Go.Proofs.YtnlpahdjiddooaaDoor
open Go.RowKit Go.PlainAid
set_option linter.unusedVariables false

theorem free {a b : Nat} (ha : a < 256) (hb : b < 256) {r : List UInt8} (h1 : chL a <+: r) (h2 : chL b <+: r) : a = b := by
  rcases Nat.le_total (chL a).length (chL b).length with h | h
  · have := free_fin ⟨a, ha⟩ ⟨b, hb⟩ (List.isPrefixOf_iff_prefix.2 (List.prefix_of_prefix_length_le h1 h2 h))
    exact congrArg Fin.val this
  · have := free_fin ⟨b, hb⟩ ⟨a, ha⟩ (List.isPrefixOf_iff_prefix.2 (List.prefix_of_prefix_length_le h2 h1 h))
    exact (congrArg Fin.val this).symm
/-- The first byte below k whose code a text begins with. -/
def fB (r : List UInt8) : Nat → Option Nat
  | 0 => none
  | k + 1 => match fB r k with
    | some b => some b
    | none => if (chL k).isPrefixOf r = true then some k else none
/-- Is it a beginning of a code of a byte below k, and less? -/
def gB (r : List UInt8) : Nat → Bool
  | 0 => false
  | k + 1 => gB r k || (decide (r.length < (chL k).length) && r.isPrefixOf (chL k))
theorem fB_some {r : List UInt8} : ∀ {k b : Nat}, fB r k = some b → b < k ∧ chL b <+: r
  | 0, b, h => by simp [fB] at h
  | k + 1, b, h => by
    unfold fB at h
    cases hk : fB r k with
    | some c =>
      rw [hk] at h
      simp only [Option.some.injEq] at h
      subst h
      have := fB_some hk
      exact ⟨by omega, this.2⟩
    | none =>
      rw [hk] at h
      simp only at h
      by_cases hp : (chL k).isPrefixOf r = true
      · rw [if_pos hp] at h
        obtain rfl := Option.some.inj h
        exact ⟨by omega, List.isPrefixOf_iff_prefix.1 hp⟩
      · rw [if_neg hp] at h; cases h
theorem fB_none {r : List UInt8} : ∀ {k : Nat}, fB r k = none → ∀ b, b < k → ¬ chL b <+: r
  | 0, _, b, hb => by omega
  | k + 1, h, b, hb => by
    unfold fB at h
    cases hk : fB r k with
    | some c => rw [hk] at h; cases h
    | none =>
      rw [hk] at h
      simp only at h
      by_cases hp : (chL k).isPrefixOf r = true
      · rw [if_pos hp] at h; cases h
      · rcases Nat.lt_or_ge b k with h1 | h1
        · exact fB_none hk b h1
        · obtain rfl : b = k := by omega
          exact fun h2 => hp (List.isPrefixOf_iff_prefix.2 h2)
theorem fB_is {r : List UInt8} {b : Nat} (hb : b < 256) (h : chL b <+: r) : fB r 256 = some b := by
  cases hk : fB r 256 with
  | none => exact absurd h (fB_none hk b hb)
  | some c =>
    obtain ⟨h1, h2⟩ := fB_some hk
    rw [free h1 hb h2 h]
theorem fB_no {r : List UInt8} (h : ∀ b, b < 256 → ¬ chL b <+: r) : fB r 256 = none := by
  cases hk : fB r 256 with
  | none => rfl
  | some c =>
    obtain ⟨h1, h2⟩ := fB_some hk
    exact absurd h2 (h c h1)
theorem gB_iff {r : List UInt8} : ∀ {k : Nat}, gB r k = true ↔ ∃ b, b < k ∧ r.length < (chL b).length ∧ r <+: chL b
  | 0 => by simp [gB]
  | k + 1 => by
    have ih := gB_iff (r := r) (k := k)
    unfold gB
    rw [Bool.or_eq_true, ih, Bool.and_eq_true, decide_eq_true_eq, List.isPrefixOf_iff_prefix]
    constructor
    · rintro (⟨b, h1, h2⟩ | h)
      · exact ⟨b, by omega, h2⟩
      · exact ⟨k, by omega, h⟩
    · rintro ⟨b, h1, h2⟩
      rcases Nat.lt_or_ge b k with h3 | h3
      · exact .inl ⟨b, h3, h2⟩
      · obtain rfl : b = k := by omega
        exact .inr h2
/-- The next byte, how many bytes it takes, and what is wrong. -/
def stepS (r : List UInt8) : Nat × Nat × Nat :=
  match fB r 256 with
  | some b => (b, (chL b).length, 0)
  | none => if gB r 256 = true then (0, 0, 4) else (0, 0, 3)
theorem step_code {r : List UInt8} {b : Nat} (hb : b < 256) (h : chL b <+: r) : stepS r = (b, (chL b).length, 0) := by unfold stepS; rw [fB_is hb h]
theorem step_long {r : List UInt8} (h : ∀ b, b < 256 → ¬ chL b <+: r) (hg : gB r 256 = true) : stepS r = (0, 0, 4) := by unfold stepS; rw [fB_no h, hg]; rfl
theorem step_form {r : List UInt8} (h : ∀ b, b < 256 → ¬ chL b <+: r) (hg : gB r 256 = false) : stepS r = (0, 0, 3) := by unfold stepS; rw [fB_no h, hg]; rfl
theorem T0_inj_fin : ∀ i j : Fin 5, T0 i.val = T0 j.val → i = j := by decide
theorem tab_code (i : Nat) (hi : i < 5) : T1 i < 256 ∧ chL (T1 i) = [92, cu8 (T0 i)] := ⟨(T1_lt i hi).1, chL_tab i hi⟩
theorem cu8_toNat (c : UInt8) : cu8 c.toNat = c := by
  apply UInt8.toNat_inj.1
  rw [u8_nat c.toNat_lt]
/-- A byte that stands for itself. -/
theorem plain_code {c : UInt8} {r : List UInt8} (h1 : 32 ≤ c.toNat) (h2 : c.toNat ≤ 126) (h3 : c ≠ 34) (h4 : c ≠ 92) : stepS (c :: r) = (c.toNat, 1, 0) := by
  have hne : ∀ i, i < 5 → T1 i ≠ c.toNat := by
    intro i hi
    have h34 : c.toNat ≠ 34 := fun e => h3 (UInt8.toNat_inj.1 e)
    have h92 : c.toNat ≠ 92 := fun e => h4 (UInt8.toNat_inj.1 e)
    have : i = 0 ∨ i = 1 ∨ i = 2 ∨ i = 3 ∨ i = 4 := by omega
    rcases this with rfl | rfl | rfl | rfl | rfl <;> simp [T1] <;> omega
  have hc := chL_plain hne h1 h2
  rw [cu8_toNat] at hc
  have := step_code (r := c :: r) c.toNat_lt (by rw [hc]; exact ⟨r, rfl⟩)
  rw [this, hc]; rfl
theorem head_code {b : Nat} (hb : b < 256) : ∃ c t, chL b = c :: t ∧ c ≠ 34 ∧ (c = 92 ∨ (t = [] ∧ 32 ≤ c.toNat ∧ c.toNat ≤ 126)) := by
  rcases code_cases b hb with ⟨_, h, h1, h2, h3, h4⟩ | ⟨_, i, rfl⟩ | ⟨_, h⟩
  · refine ⟨_, _, h, fun e => ?_, .inr ⟨rfl, ?_⟩⟩
    · have := congrArg UInt8.toNat e
      rw [u8_nat hb] at this
      exact h3 this
    · rw [u8_nat hb]; exact ⟨h1, h2⟩
  · exact ⟨_, _, chL_tab i.val i.isLt, by decide, .inl rfl⟩
  · exact ⟨_, _, h, by decide, .inl rfl⟩
theorem bad_code {c : UInt8} {r : List UInt8} (h : c.toNat < 32 ∨ 126 < c.toNat) : stepS (c :: r) = (0, 0, 3) := by
  have h92 : c ≠ 92 := by rintro rfl; revert h; decide
  refine step_form (fun b hb hp => ?_) ?_
  · obtain ⟨d, t, he, _, hd⟩ := head_code hb
    rw [he] at hp
    obtain ⟨u, hu⟩ := hp
    have : d = c := by simpa using congrArg List.head? hu
    subst this
    rcases hd with rfl | ⟨_, h1, h2⟩
    · exact h92 rfl
    · omega
  · rw [Bool.eq_false_iff]
    intro hg
    obtain ⟨b, hb, hlen, hp⟩ := gB_iff.1 hg
    obtain ⟨d, t, he, _, hd⟩ := head_code hb
    rw [he] at hp hlen
    obtain ⟨u, hu⟩ := hp
    have : c = d := by simpa using congrArg List.head? hu
    subst this
    rcases hd with rfl | ⟨_, h1, h2⟩
    · exact h92 rfl
    · omega
theorem one_slash : stepS [92] = (0, 0, 4) := by
  refine step_long (fun b hb hp => ?_) (gB_iff.2 ⟨10, by decide, by decide, ⟨[110], rfl⟩⟩)
  have h1 := hp.length_le
  rcases code_cases b hb with ⟨_, h, h1, h2, h3, h4⟩ | ⟨h, _⟩ | ⟨h, _⟩
  · rw [h] at hp
    obtain ⟨u, hu⟩ := hp
    have : cu8 b = 92 := by simpa using congrArg List.head? hu
    have := congrArg UInt8.toNat this
    rw [u8_nat hb] at this
    exact h4 this
  · rw [h] at h1; simp at h1
  · rw [h] at h1; simp at h1
theorem slash_tab {i : Nat} (hi : i < 5) (r : List UInt8) : stepS (92 :: cu8 (T0 i) :: r) = (T1 i, 2, 0) := by
  obtain ⟨h1, h2⟩ := tab_code i hi
  rw [step_code h1 (by rw [h2]; exact ⟨r, rfl⟩), h2]; rfl
/-- What a code is that begins as a text behind a backslash does. -/
theorem slash_code {b : Nat} (hb : b < 256) {c : UInt8} {t : List UInt8} (h : chL b = 92 :: c :: t) : (∃ i, i < 5 ∧ c = cu8 (T0 i) ∧ t = []) ∨ (c = 120 ∧ t = [hexd (b / 16), hexd (b % 16)]) := by
  rcases code_cases b hb with ⟨h1, _⟩ | ⟨_, i, rfl⟩ | ⟨_, h2⟩
  · rw [h] at h1; simp at h1
  · rw [chL_tab i.val i.isLt] at h
    simp only [List.cons.injEq] at h
    exact .inl ⟨i.val, i.isLt, h.2.1.symm, h.2.2.symm⟩
  · rw [h2] at h
    simp only [List.cons.injEq] at h
    exact .inr ⟨h.2.1.symm, h.2.2.symm⟩
theorem slash_pre {b : Nat} (hb : b < 256) {c : UInt8} {r : List UInt8} (h : chL b <+: 92 :: c :: r) : ∃ t, chL b = 92 :: c :: t ∧ t <+: r := by
  obtain ⟨u, hu⟩ := h
  rcases code_cases b hb with ⟨_, h2, h3⟩ | ⟨_, i, rfl⟩ | ⟨_, h2⟩
  · rw [h2] at hu
    have : cu8 b = 92 := by simpa using congrArg List.head? hu
    have := congrArg UInt8.toNat this
    rw [u8_nat hb] at this
    exact absurd this h3.2.2.2
  · rw [chL_tab i.val i.isLt] at hu ⊢
    simp only [List.cons_append, List.nil_append, List.cons.injEq, true_and] at hu
    rw [hu.1]
    exact ⟨[], rfl, List.nil_prefix⟩
  · rw [h2] at hu ⊢
    simp only [List.cons_append, List.nil_append, List.cons.injEq, true_and] at hu
    rw [hu.1]
    exact ⟨_, rfl, ⟨u, hu.2⟩⟩
theorem slash_form {c : UInt8} {r : List UInt8} (h1 : ∀ i, i < 5 → c ≠ cu8 (T0 i)) (h2 : c ≠ 120) : stepS (92 :: c :: r) = (0, 0, 3) := by
  refine step_form (fun b hb hp => ?_) ?_
  · obtain ⟨t, ht, _⟩ := slash_pre hb hp
    rcases slash_code hb ht with ⟨i, hi, he, _⟩ | ⟨he, _⟩
    · exact h1 i hi he
    · exact h2 he
  · rw [Bool.eq_false_iff]
    intro hg
    obtain ⟨b, hb, hlen, u, hu⟩ := gB_iff.1 hg
    rcases slash_code hb (t := r ++ u) (by rw [← hu]; rfl) with ⟨i, hi, he, _⟩ | ⟨he, _⟩
    · exact h1 i hi he
    · exact h2 he
theorem slash_hex {b : Nat} (hb : b < 256) {x y : UInt8} {r : List UInt8} (h : chL b = [92, 120, x, y]) : stepS (92 :: 120 :: x :: y :: r) = (b, 4, 0) := by
  rw [step_code hb (by rw [h]; exact ⟨r, rfl⟩), h]; rfl
theorem slash_hex_no {x y : UInt8} {r : List UInt8} (h : ∀ b, b < 256 → chL b ≠ [92, 120, x, y]) : stepS (92 :: 120 :: x :: y :: r) = (0, 0, 3) := by
  refine step_form (fun b hb hp => ?_) ?_
  · obtain ⟨t, ht, v, hv⟩ := slash_pre hb hp
    rcases slash_code hb ht with ⟨i, hi, he, _⟩ | ⟨_, he⟩
    · have : i = 0 ∨ i = 1 ∨ i = 2 ∨ i = 3 ∨ i = 4 := by omega
      rcases this with rfl | rfl | rfl | rfl | rfl <;> revert he <;> decide
    · subst he
      simp only [List.cons_append, List.nil_append, List.cons.injEq] at hv
      exact h b hb (by rw [ht, hv.1, hv.2.1])
  · rw [Bool.eq_false_iff]
    intro hg
    obtain ⟨b, hb, hlen, _⟩ := gB_iff.1 hg
    have := (chL_len b).2
    simp at hlen; omega
theorem slash_short {r : List UInt8} (hr : r.length ≤ 1) (h : ∃ b, b < 256 ∧ (chL b).length = 4 ∧ (92 :: 120 :: r) <+: chL b) : stepS (92 :: 120 :: r) = (0, 0, 4) := by
  obtain ⟨b, hb, hl, hp⟩ := h
  refine step_long (fun b hb hp => ?_) (gB_iff.2 ⟨b, hb, by rw [hl]; simp; omega, hp⟩)
  obtain ⟨t, ht, hv⟩ := slash_pre hb hp
  rcases slash_code hb ht with ⟨i, hi, he, _⟩ | ⟨_, he⟩
  · have : i = 0 ∨ i = 1 ∨ i = 2 ∨ i = 3 ∨ i = 4 := by omega
    rcases this with rfl | rfl | rfl | rfl | rfl <;> revert he <;> decide
  · subst he
    have := hv.length_le
    simp at this; omega
theorem slash_short_no {r : List UInt8} (hr : r.length ≤ 1) (h : ∀ b, b < 256 → (chL b).length = 4 → ¬ (92 :: 120 :: r) <+: chL b) : stepS (92 :: 120 :: r) = (0, 0, 3) := by
  refine step_form (fun b hb hp => ?_) ?_
  · obtain ⟨t, ht, hv⟩ := slash_pre hb hp
    rcases slash_code hb ht with ⟨i, hi, he, _⟩ | ⟨_, he⟩
    · have : i = 0 ∨ i = 1 ∨ i = 2 ∨ i = 3 ∨ i = 4 := by omega
      rcases this with rfl | rfl | rfl | rfl | rfl <;> revert he <;> decide
    · subst he
      have := hv.length_le
      simp at this; omega
  · rw [Bool.eq_false_iff]
    intro hg
    obtain ⟨b, hb, hlen, hp⟩ := gB_iff.1 hg
    obtain ⟨u, hu⟩ := hp
    rcases slash_code hb (t := r ++ u) (by rw [← hu]; rfl) with ⟨i, hi, he, _⟩ | ⟨_, he⟩
    · have : i = 0 ∨ i = 1 ∨ i = 2 ∨ i = 3 ∨ i = 4 := by omega
      rcases this with rfl | rfl | rfl | rfl | rfl <;> revert he <;> decide
    · exact h b hb (by rw [← hu]; have := congrArg List.length he; simp at this ⊢; omega) ⟨u, hu⟩
end Go.Proofs.YtnlpahdjiddooaaDoor
