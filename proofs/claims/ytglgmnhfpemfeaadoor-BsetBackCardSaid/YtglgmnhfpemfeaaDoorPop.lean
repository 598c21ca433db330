/- How many bits a word of 64 has, as math/bits reckons it: plain. -/
import Derived.Test.YtglgmnhfpemfeaaDoorSets
import Derived.Lib.TrailingZeros
namespace Go.Proofs.YtglgmnhfpemfeaaDoor
open Go.RowKit
set_option linter.unusedVariables false

def pack : List Nat → Nat
  | [] => 0
  | a :: l => a + 256 * pack l
def msk (m : Nat) : Nat → Nat
  | 0 => 0
  | n + 1 => m + 256 * msk m n
theorem bit_pack (a P k : Nat) (ha : a < 256) : (a + 256 * P).testBit k = if k < 8 then a.testBit k else P.testBit (k - 8) := by
  rw [show a + 256 * P = 2 ^ 8 * P + a by omega]
  exact Nat.testBit_two_pow_mul_add P (by omega : a < 2 ^ 8) k
theorem and_pack (a b P Q : Nat) (ha : a < 256) (hb : b < 256) : (a + 256 * P) &&& (b + 256 * Q) = (a &&& b) + 256 * (P &&& Q) := by
  apply Nat.eq_of_testBit_eq
  intro k
  have hab : a &&& b < 256 := Nat.lt_of_le_of_lt Nat.and_le_left ha
  rw [Nat.testBit_and, bit_pack a P k ha, bit_pack b Q k hb, bit_pack _ _ k hab]
  split <;> simp [Nat.testBit_and]
theorem low1 : ∀ a : Fin 256, ∀ b : Fin 2, (a.val / 2 + 128 * b.val) &&& 85 = (a.val / 2) &&& 85 := by decide +kernel
theorem low2 : ∀ a : Fin 256, ∀ b : Fin 4, (a.val / 4 + 64 * b.val) &&& 51 = (a.val / 4) &&& 51 := by decide +kernel
theorem low3 : ∀ a : Fin 256, ∀ b : Fin 5, a.val % 16 ≤ 4 → a.val / 16 ≤ 4 → (a.val / 16 + 16 * b.val + a.val) &&& 15 = a.val / 16 + a.val % 16 := by decide +kernel
def f1 (a : Nat) : Nat := ((a / 2) &&& 85) + (a &&& 85)
def f2 (a : Nat) : Nat := ((a / 4) &&& 51) + (a &&& 51)
def f3 (a : Nat) : Nat := a / 16 + a % 16
theorem step1 : ∀ l : List Nat, (∀ a ∈ l, a < 256) → ((pack l / 2) &&& msk 85 l.length) + (pack l &&& msk 85 l.length) = pack (l.map f1)
  | [], _ => by simp [pack, msk]
  | a :: l, h => by
    have ha := h a (by simp)
    have ih := step1 l (fun b hb => h b (by simp [hb]))
    have e : pack (a :: l) / 2 = (a / 2 + 128 * (pack l % 2)) + 256 * (pack l / 2) := by simp only [pack]; omega
    have h1 := low1 ⟨a, ha⟩ ⟨pack l % 2, by omega⟩
    simp only at h1
    rw [e, List.length_cons, msk, and_pack _ _ _ _ (by omega) (by decide), h1]
    simp only [pack]
    rw [and_pack _ _ _ _ ha (by decide), List.map_cons, pack, ← ih]
    unfold f1
    omega
theorem step2 : ∀ l : List Nat, (∀ a ∈ l, a < 256) → ((pack l / 4) &&& msk 51 l.length) + (pack l &&& msk 51 l.length) = pack (l.map f2)
  | [], _ => by simp [pack, msk]
  | a :: l, h => by
    have ha := h a (by simp)
    have ih := step2 l (fun b hb => h b (by simp [hb]))
    have e : pack (a :: l) / 4 = (a / 4 + 64 * (pack l % 4)) + 256 * (pack l / 4) := by simp only [pack]; omega
    have h1 := low2 ⟨a, ha⟩ ⟨pack l % 4, by omega⟩
    simp only at h1
    rw [e, List.length_cons, msk, and_pack _ _ _ _ (by omega) (by decide), h1]
    simp only [pack]
    rw [and_pack _ _ _ _ ha (by decide), List.map_cons, pack, ← ih]
    unfold f2
    omega
theorem step3 : ∀ l : List Nat, (∀ a ∈ l, a < 256 ∧ a % 16 ≤ 4 ∧ a / 16 ≤ 4) → (pack l / 16 + pack l) &&& msk 15 l.length = pack (l.map f3)
  | [], _ => by simp [pack, msk]
  | a :: l, h => by
    obtain ⟨ha, h4, h5⟩ := h a (by simp)
    have ih := step3 l (fun b hb => h b (by simp [hb]))
    have hm : pack l % 16 ≤ 4 := by
      cases l with
      | nil => simp [pack]
      | cons b l => have := (h b (by simp)).2.1; simp only [pack]; omega
    have e : pack (a :: l) / 16 + pack (a :: l) = (a / 16 + 16 * (pack l % 16) + a) + 256 * (pack l / 16 + pack l) := by simp only [pack]; omega
    have h1 := low3 ⟨a, ha⟩ ⟨pack l % 16, by omega⟩ h4 h5
    simp only at h1
    rw [e, List.length_cons, msk, and_pack _ _ _ _ (by omega) (by decide), h1, ih, List.map_cons, pack]
    rfl
def pop8 (a : Nat) : Nat := (List.range 8).countP fun k => a.testBit k
theorem f321 : ∀ a : Fin 256, f3 (f2 (f1 a.val)) = pop8 a.val ∧ f1 a.val < 256 ∧ f2 (f1 a.val) < 256 ∧ f2 (f1 a.val) % 16 ≤ 4 ∧ f2 (f1 a.val) / 16 ≤ 4 ∧ pop8 a.val ≤ 8 := by decide +kernel
theorem pop_pack : ∀ l : List Nat, (∀ a ∈ l, a < 256) → (List.range (8 * l.length)).countP (fun k => (pack l).testBit k) = (l.map pop8).sum
  | [], _ => by simp
  | a :: l, h => by
    have ha := h a (by simp)
    have ih := pop_pack l (fun b hb => h b (by simp [hb]))
    rw [List.length_cons, show 8 * (l.length + 1) = 8 + 8 * l.length by omega, List.range_add, List.countP_append, List.countP_map, List.map_cons, List.sum_cons, ← ih]
    congr 1
    · unfold pop8
      refine List.countP_congr fun k hk => ?_
      have hk := List.mem_range.1 hk
      simp only [pack, bit_pack a _ k ha, if_pos hk]
    · refine List.countP_congr fun k hk => ?_
      have : ¬ 8 + k < 8 := by omega
      simp only [pack, Function.comp, bit_pack a _ (8 + k) ha, if_neg this, show 8 + k - 8 = k by omega]
theorem pack_lt : ∀ l : List Nat, (∀ a ∈ l, a < 256) → pack l < 256 ^ l.length
  | [], _ => by simp [pack]
  | a :: l, h => by
    have ha := h a (by simp)
    have ih := pack_lt l (fun b hb => h b (by simp [hb]))
    rw [List.length_cons, Nat.pow_succ]; simp only [pack]; omega
theorem pack_lt3 : ∀ l : List Nat, (∀ a ∈ l, a ≤ 68) → 3 * pack l < 256 ^ l.length
  | [], _ => by simp [pack]
  | a :: l, h => by
    have ha := h a (by simp)
    have ih := pack_lt3 l (fun b hb => h b (by simp [hb]))
    rw [List.length_cons, Nat.pow_succ]; simp only [pack]; omega
/-- A word's bits, counted. -/
def popN (x : Nat) : Nat := (List.range 64).countP fun k => x.testBit k
def bytes8 (x : Nat) : List Nat := [x % 256, x / 256 % 256, x / 65536 % 256, x / 16777216 % 256, x / 4294967296 % 256, x / 1099511627776 % 256, x / 281474976710656 % 256, x / 72057594037927936 % 256]
theorem pack_bytes (x : Nat) (h : x < 18446744073709551616) : pack (bytes8 x) = x := by
  simp only [bytes8, pack]; omega
theorem bytes_lt (x : Nat) : ∀ a ∈ bytes8 x, a < 256 := by
  intro a ha
  simp only [bytes8, List.mem_cons, List.not_mem_nil, or_false] at ha
  rcases ha with rfl | rfl | rfl | rfl | rfl | rfl | rfl | rfl <;> omega
/-- The first three steps. -/
def s1 (x : Nat) : Nat := ((x / 2) &&& 6148914691236517205) + (x &&& 6148914691236517205)
def s2 (x : Nat) : Nat := ((x / 4) &&& 3689348814741910323) + (x &&& 3689348814741910323)
def s3 (x : Nat) : Nat := (x / 16 + x) &&& 1085102592571150095
theorem s123 (x : Nat) (h : x < 18446744073709551616) : s3 (s2 (s1 x)) = pack ((bytes8 x).map pop8) ∧ s1 x < 18446744073709551616 ∧ s2 (s1 x) < 18446744073709551616 ∧ s2 (s1 x) / 16 + s2 (s1 x) < 18446744073709551616 := by
  have hb := bytes_lt x
  have e1 : s1 x = pack ((bytes8 x).map f1) := by
    have := step1 (bytes8 x) hb
    rw [pack_bytes x h, show (bytes8 x).length = 8 from rfl, show msk 85 8 = 6148914691236517205 by decide] at this
    exact this
  have hb1 : ∀ a ∈ (bytes8 x).map f1, a < 256 := by
    intro a ha
    obtain ⟨c, hc, rfl⟩ := List.mem_map.1 ha
    exact (f321 ⟨c, hb c hc⟩).2.1
  have e2 : s2 (s1 x) = pack (((bytes8 x).map f1).map f2) := by
    have := step2 _ hb1
    rw [← e1, show ((bytes8 x).map f1).length = 8 by simp [bytes8], show msk 51 8 = 3689348814741910323 by decide] at this
    exact this
  have hb2 : ∀ a ∈ ((bytes8 x).map f1).map f2, a < 256 ∧ a % 16 ≤ 4 ∧ a / 16 ≤ 4 := by
    intro a ha
    obtain ⟨c, hc, rfl⟩ := List.mem_map.1 ha
    obtain ⟨d, hd, rfl⟩ := List.mem_map.1 hc
    have := f321 ⟨d, hb d hd⟩
    exact ⟨this.2.2.1, this.2.2.2.1, this.2.2.2.2.1⟩
  have e3 : s3 (s2 (s1 x)) = pack ((((bytes8 x).map f1).map f2).map f3) := by
    have := step3 _ hb2
    rw [← e2, show (((bytes8 x).map f1).map f2).length = 8 by simp [bytes8], show msk 15 8 = 1085102592571150095 by decide] at this
    exact this
  have lt8 : ∀ l : List Nat, l.length = 8 → (∀ a ∈ l, a < 256) → pack l < 18446744073709551616 := by
    intro l hl hh
    have := pack_lt l hh
    rw [hl] at this
    exact this
  refine ⟨?_, ?_, ?_, ?_⟩
  · rw [e3, List.map_map, List.map_map]
    congr 1
    refine List.map_congr_left fun a ha => ?_
    exact (f321 ⟨a, hb a ha⟩).1
  · rw [e1]; exact lt8 _ (by simp [bytes8]) hb1
  · rw [e2]; exact lt8 _ (by simp [bytes8]) fun a ha => (hb2 a ha).1
  · rw [e2]
    have := pack_lt3 _ (fun a ha => show a ≤ 68 by have := hb2 a ha; omega)
    rw [show (((bytes8 x).map f1).map f2).length = 8 by simp [bytes8]] at this
    have e : (256 : Nat) ^ 8 = 18446744073709551616 := by decide
    omega
theorem div256 (a : Nat) (l : List Nat) (h : a < 256) : pack (a :: l) / 256 = pack l := by simp only [pack]; omega
theorem div_2 (a b : Nat) (l : List Nat) (ha : a < 256) (hb : b < 256) : pack (a :: b :: l) / 65536 = pack l := by
  rw [show 65536 = 256 * 256 from rfl, ← Nat.div_div_eq_div_mul, div256 _ _ ha, div256 _ _ hb]
theorem div_4 (a b c d : Nat) (l : List Nat) (ha : a < 256) (hb : b < 256) (hc : c < 256) (hd : d < 256) : pack (a :: b :: c :: d :: l) / 4294967296 = pack l := by
  rw [show 4294967296 = 65536 * 65536 from rfl, ← Nat.div_div_eq_div_mul, div_2 _ _ _ ha hb, div_2 _ _ _ hc hd]
theorem mod128 (a : Nat) (l : List Nat) (h : a < 128) : pack (a :: l) % 128 = a := by simp only [pack]; omega
theorem pack_add : ∀ (l m : List Nat), pack l + pack m = pack (List.zipWithAll (fun x y => x.getD 0 + y.getD 0) l m)
  | [], m => by
    induction m with
    | nil => rfl
    | cons y m ih => simp [pack] at ih ⊢
  | x :: l, [] => by
    have ih := pack_add l []
    simp [pack] at ih ⊢
  | x :: l, y :: m => by
    have ih := pack_add l m
    simp only [List.zipWithAll, pack, Option.getD_some] at ih ⊢
    omega
theorem fold8 (a b c d e f g i : Nat) (ha : a ≤ 8) (hb : b ≤ 8) (hc : c ≤ 8) (hd : d ≤ 8) (he : e ≤ 8) (hf : f ≤ 8) (hg : g ≤ 8) (hi : i ≤ 8) :
    ∃ y1 y2 y3, y1 = (pack [a, b, c, d, e, f, g, i] + pack [a, b, c, d, e, f, g, i] / 256) ∧ y2 = y1 + y1 / 65536 ∧ y3 = y2 + y2 / 4294967296 ∧ y3 < 18446744073709551616 ∧ y3 % 128 = a + b + c + d + e + f + g + i := by
  refine ⟨pack [a + b, b + c, c + d, d + e, e + f, f + g, g + i, i],
    pack [a + b + (c + d), b + c + (d + e), c + d + (e + f), d + e + (f + g), e + f + (g + i), f + g + i, g + i, i],
    pack [a + b + (c + d) + (e + f + (g + i)), b + c + (d + e) + (f + g + i), c + d + (e + f) + (g + i), d + e + (f + g) + i, e + f + (g + i), f + g + i, g + i, i], ?_, ?_, ?_, ?_, ?_⟩
  · rw [div256 _ _ (by omega), pack_add]; rfl
  · rw [div_2 _ _ _ (by omega) (by omega), pack_add]; rfl
  · rw [div_4 _ _ _ _ _ (by omega) (by omega) (by omega) (by omega), pack_add]; rfl
  · refine Nat.lt_of_lt_of_eq (pack_lt _ fun x hx => ?_) (show 256 ^ 8 = 18446744073709551616 by decide)
    simp only [List.mem_cons, List.not_mem_nil, or_false] at hx
    rcases hx with rfl | rfl | rfl | rfl | rfl | rfl | rfl | rfl <;> omega
  · rw [mod128 _ _ (by omega)]; omega
theorem pop_steps (x : Nat) (h : x < 18446744073709551616) : ∃ y1 y2 y3, y1 = s3 (s2 (s1 x)) + s3 (s2 (s1 x)) / 256 ∧ y2 = y1 + y1 / 65536 ∧ y3 = y2 + y2 / 4294967296 ∧ y3 < 18446744073709551616 ∧ y3 % 128 = popN x := by
  have hp : popN x = ((bytes8 x).map pop8).sum := by
    have := pop_pack (bytes8 x) (bytes_lt x)
    simp only [pack_bytes x h] at this
    exact this
  have h8 : ∀ a ∈ bytes8 x, pop8 a ≤ 8 := fun a ha => (f321 ⟨a, bytes_lt x a ha⟩).2.2.2.2.2
  rw [(s123 x h).1, hp]
  simp only [bytes8, List.map_cons, List.map_nil] at h8 ⊢
  obtain ⟨y1, y2, y3, e1, e2, e3, h1, h2⟩ := fold8 (pop8 (x % 256)) (pop8 (x / 256 % 256)) (pop8 (x / 65536 % 256)) (pop8 (x / 16777216 % 256)) (pop8 (x / 4294967296 % 256)) (pop8 (x / 1099511627776 % 256)) (pop8 (x / 281474976710656 % 256)) (pop8 (x / 72057594037927936 % 256))
    (h8 _ (by simp)) (h8 _ (by simp)) (h8 _ (by simp)) (h8 _ (by simp)) (h8 _ (by simp)) (h8 _ (by simp)) (h8 _ (by simp)) (h8 _ (by simp))
  refine ⟨y1, y2, y3, e1, e2, e3, h1, ?_⟩
  rw [h2]; simp; omega
theorem popN_le (x : Nat) : popN x ≤ 64 := by
  have := List.countP_le_length (p := fun k => x.testBit k) (l := List.range 64)
  simpa [popN] using this
end Go.Proofs.YtglgmnhfpemfeaaDoor
