/- Texts between quotes, put and taken: the plain law. -/
import Derived.Test.YtnlpahdjiddooaaDoorEscTakeW
namespace Go.Proofs.YtnlpahdjiddooaaDoor
open Go.RowKit Go.PlainAid
set_option linter.unusedVariables false

def getR (L : List UInt8) : List UInt8 × Nat := match takeR L 0 with | (o, n, e) => if e = 0 then (if n < L.length then ([], 3) else (o, 0)) else ([], e)
theorem flat_cons (c : UInt8) (l : List UInt8) : flatC (c :: l) = chL c.toNat ++ flatC l := by simp [flatC]
theorem chL_head (b : Nat) (hb : b < 256) : ∃ c t, chL b = c :: t ∧ c ≠ 34 := by
  obtain ⟨c, t, h, h2, _⟩ := head_code hb
  exact ⟨c, t, h, h2⟩
theorem flat_len (l : List UInt8) : l.length ≤ (flatC l).length := by
  induction l with
  | nil => simp [flatC]
  | cons c l ih => rw [flat_cons, List.length_append, List.length_cons]; have := (chL_len c.toNat).1; omega
theorem tk_put (s : List UInt8) : ∀ (B out : List UInt8) (f : Nat), s.length < f → tkF f (flatC s ++ 34 :: B) out = (out ++ s, B.length + 1, 0) := by
  induction s with
  | nil =>
    intro B out f hf
    obtain ⟨f, rfl⟩ : ∃ g, f = g + 1 := ⟨f - 1, by simp at hf; omega⟩
    simp [flatC, tk_end]
  | cons c s ih =>
    intro B out f hf
    simp only [List.length_cons] at hf
    obtain ⟨f, rfl⟩ : ∃ g, f = g + 1 := ⟨f - 1, by omega⟩
    obtain ⟨d, t, hd, hne⟩ := chL_head c.toNat c.toNat_lt
    have hst := step_code c.toNat_lt (r := chL c.toNat ++ (flatC s ++ 34 :: B)) ⟨_, rfl⟩
    rw [flat_cons, List.append_assoc]
    have e : chL c.toNat ++ (flatC s ++ 34 :: B) = d :: (t ++ (flatC s ++ 34 :: B)) := by rw [hd]; rfl
    rw [e] at hst ⊢
    rw [tk_next hne (by rw [hst]), hst, ← e]
    simp only [List.drop_left, cu8_toNat]
    rw [ih B (out ++ [c]) f (by omega)]
    simp
theorem take_put (A s B : List UInt8) : takeR (A ++ putL s ++ B) (A.length : Int) = (s, (A.length : Int) + (putL s).length, 0) := by
  have h34 : (A ++ putL s ++ B)[A.length]? = some 34 := by simp [putL]
  rw [take_go h34]
  have hdrop : (A ++ putL s ++ B).drop (A.length + 1) = flatC s ++ 34 :: B := by
    rw [List.append_assoc, ← List.drop_drop, List.drop_left]; simp [putL]
  have hlen : s.length < (A ++ putL s ++ B).length + 1 := by
    have := flat_len s
    simp [putL]; omega
  rw [hdrop, tk_put s B [] _ hlen]
  simp only [if_true, List.nil_append]
  congr 2
  simp [putL]; omega
/-- What is taken was put. -/
theorem tk_from : ∀ (f : Nat) (r out o : List UInt8) (m : Nat), tkF f r out = (o, m, 0) → ∃ x B, o = out ++ x ∧ r = flatC x ++ 34 :: B ∧ m = B.length + 1
  | 0, r, out, o, m, h => by simp [tkF] at h
  | f + 1, [], out, o, m, h => by simp [tkF] at h
  | f + 1, c :: r, out, o, m, h => by
    by_cases hc : c = 34
    · subst hc
      rw [tk_end] at h
      simp only [Prod.mk.injEq] at h
      exact ⟨[], r, by simp [h.1], by simp [flatC], by omega⟩
    · by_cases he : (stepS (c :: r)).2.2 = 0
      · rw [tk_next hc he] at h
        obtain ⟨x, B, h1, h2, h3⟩ := tk_from f _ _ _ _ h
        cases hf : fB (c :: r) 256 with
        | none =>
          exfalso
          unfold stepS at he
          rw [hf] at he
          simp only at he
          split at he <;> simp at he
        | some b =>
          obtain ⟨hb, t, ht⟩ := fB_some hf
          have hst : stepS (c :: r) = (b, (chL b).length, 0) := by unfold stepS; rw [hf]
          rw [hst] at h1 h2
          refine ⟨cu8 b :: x, B, by rw [h1]; simp, ?_, h3⟩
          rw [flat_cons, u8_nat hb, List.append_assoc, ← h2, ← ht]
          simp
      · rw [tk_err hc he] at h
        simp only [Prod.mk.injEq] at h
        exact absurd h.2.2 he
theorem take_from {L x : List UInt8} {n : Int} (h : takeR L 0 = (x, n, 0)) : ∃ k : Nat, n = (k : Int) ∧ 2 ≤ k ∧ k ≤ L.length ∧ putL x = L.take k := by
  by_cases h34 : L[0]? = some 34
  case neg =>
    have := take_none (s := L) (k := 0) (Nat.zero_le _) h34
    rw [show ((0 : Nat) : Int) = 0 from rfl, h] at this
    simp at this
  have h2 := take_go h34
  rw [show ((0 : Nat) : Int) = 0 from rfl, h] at h2
  cases hk : tkF (L.length + 1) (L.drop (0 + 1)) [] with
  | mk o me =>
    obtain ⟨m, e⟩ := me
    rw [hk] at h2
    simp only at h2
    by_cases he : e = 0
    · subst he
      rw [if_pos rfl] at h2
      simp only [Prod.mk.injEq] at h2
      obtain ⟨y, B, h3, h4, h5⟩ := tk_from _ _ _ _ _ hk
      rw [List.nil_append] at h3
      obtain ⟨rfl, h6, _⟩ := h2
      subst h3
      have hL : L = putL x ++ B := by
        cases L with
        | nil => simp at h34
        | cons c L =>
          simp only [List.getElem?_cons_zero, Option.some.injEq] at h34
          subst h34
          simp only [Nat.zero_add, List.drop_succ_cons, List.drop_zero] at h4
          rw [h4]; simp [putL]
      have hl2 : (putL x).length + B.length = L.length := by rw [hL]; simp
      have hl3 : 2 ≤ (putL x).length := by simp [putL]
      exact ⟨(putL x).length, by omega, hl3, by omega, by rw [hL]; simp⟩
    · rw [if_neg he] at h2
      simp only [Prod.mk.injEq] at h2
      exact absurd h2.2.2.symm he
theorem cut_code {b j : Nat} (hb : b < 256) (h1 : 0 < j) (h2 : j < (chL b).length) : stepS ((chL b).take j) = (0, 0, 4) := by
  refine step_long (fun b' hb' hp => ?_) (gB_iff.2 ⟨b, hb, by rw [List.length_take]; omega, List.take_prefix _ _⟩)
  have h3 := free hb' hb (hp.trans (List.take_prefix j (chL b))) (List.prefix_refl _)
  subst h3
  have := hp.length_le
  rw [List.length_take] at this
  omega
theorem tk_cut (s : List UInt8) : ∀ (j : Nat) (out : List UInt8) (f : Nat), j < f → j ≤ (flatC s).length → tkF f ((flatC s).take j) out = ([], 0, 4) := by
  induction s with
  | nil => intro j out f hf hj; simp [flatC, tk_nil]
  | cons c s ih =>
    intro j out f hf hj
    obtain ⟨f, rfl⟩ : ∃ g, f = g + 1 := ⟨f - 1, by omega⟩
    obtain ⟨d, t, hd, hne⟩ := chL_head c.toNat c.toNat_lt
    rw [flat_cons] at hj ⊢
    rw [List.length_append] at hj
    by_cases h0 : j = 0
    · subst h0; rw [List.take_zero, tk_nil]
    by_cases hlt : j < (chL c.toNat).length
    · rw [List.take_append_of_le_length (by omega)]
      have hst := cut_code c.toNat_lt (by omega) hlt
      obtain ⟨i, rfl⟩ : ∃ i, j = i + 1 := ⟨j - 1, by omega⟩
      have e : (chL c.toNat).take (i + 1) = d :: t.take i := by rw [hd]; rfl
      rw [e] at hst ⊢
      rw [tk_err hne (by rw [hst]; decide), hst]
    · have e0 : (chL c.toNat ++ flatC s).take j = chL c.toNat ++ (flatC s).take (j - (chL c.toNat).length) := by
        rw [List.take_append]
        rw [List.take_of_length_le (by omega)]
      rw [e0]
      have hst := step_code c.toNat_lt (r := chL c.toNat ++ (flatC s).take (j - (chL c.toNat).length)) ⟨_, rfl⟩
      have e : chL c.toNat ++ (flatC s).take (j - (chL c.toNat).length) = d :: (t ++ (flatC s).take (j - (chL c.toNat).length)) := by rw [hd]; rfl
      rw [e] at hst ⊢
      rw [tk_next hne (by rw [hst]), hst, ← e]
      simp only [List.drop_left]
      have := (chL_len c.toNat).1
      exact ih _ _ f (by omega) (by omega)
theorem get_cut {s : List UInt8} {k : Nat} (h1 : 1 ≤ k) (h2 : k < (putL s).length) : getR ((putL s).take k) = ([], 4) := by
  obtain ⟨j, rfl⟩ : ∃ j, k = j + 1 := ⟨k - 1, by omega⟩
  have hl : (putL s).length = (flatC s).length + 2 := by simp [putL]
  have e : (putL s).take (j + 1) = 34 :: (flatC s).take j := by
    simp only [putL, List.take_succ_cons]
    rw [List.take_append_of_le_length (by omega)]
  have h34 : (34 :: (flatC s).take j)[0]? = some 34 := rfl
  have ht := take_go h34
  rw [show ((0 : Nat) : Int) = 0 from rfl] at ht
  rw [e]
  unfold getR
  rw [ht]
  simp only [Nat.zero_add, List.drop_succ_cons, List.drop_zero]
  have key : tkF ((34 :: (flatC s).take j).length + 1) ((flatC s).take j) [] = ([], 0, 4) :=
    tk_cut s j [] _ (by rw [List.length_cons, List.length_take]; omega) (by omega)
  rw [key]
  simp
theorem get_knows : getR [34, 92, 120, 52, 49, 34] = ([], 3) := by decide +kernel
theorem put_knows : putL [97, 34, 10, 200] = [34, 97, 92, 34, 92, 110, 92, 120, 99, 56, 34] := by decide +kernel
end Go.Proofs.YtnlpahdjiddooaaDoor
