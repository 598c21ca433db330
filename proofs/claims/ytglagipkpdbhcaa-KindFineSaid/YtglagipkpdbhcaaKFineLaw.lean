/- The least byte of each class; a class's bytes; two neighbours differ in a set. Plain. -/
import Derived.Test.YtglagipkpdbhcaaKBytes
import Derived.Test.YtglagipkpdbhcaaKPartsLaw
namespace Go.Proofs.Ytglagipkpdbhcaa
open Go.RowKit Go.Sort

theorem bytesC_mem (C : Nat → Nat) (c : Int) (x : Nat) : ∀ n, x ∈ bytesC C c n ↔ x < n ∧ (C x : Int) = c
  | 0 => by simp [bytesC]
  | n + 1 => by
    simp only [bytesC, List.mem_append, bytesC_mem C c x n]
    by_cases h : (C n : Int) = c
    · simp only [h, if_true, List.mem_singleton]
      constructor
      · rintro (⟨h1, h2⟩ | rfl)
        · exact ⟨by omega, h2⟩
        · exact ⟨by omega, h⟩
      · rintro ⟨h1, h2⟩
        by_cases hx : x = n
        · exact .inr hx
        · exact .inl ⟨by omega, h2⟩
    · simp only [h, if_false, List.not_mem_nil, or_false]
      constructor
      · rintro ⟨h1, h2⟩; exact ⟨by omega, h2⟩
      · rintro ⟨h1, h2⟩
        have : x ≠ n := fun e => by subst e; exact h h2
        exact ⟨by omega, h2⟩
theorem bytesC_sorted (C : Nat → Nat) (c : Int) : ∀ n, (bytesC C c n).Pairwise (· < ·)
  | 0 => by simp [bytesC]
  | n + 1 => by
    simp only [bytesC]
    rw [List.pairwise_append]
    refine ⟨bytesC_sorted C c n, ?_, ?_⟩
    · split <;> simp
    · intro a ha b hb
      split at hb
      · simp only [List.mem_singleton] at hb
        have := ((bytesC_mem C c a n).1 ha).1
        omega
      · simp at hb
def ltC (C : Nat → Nat) (c : Nat) : Nat := ((bytesC C c 256).head?).getD 0
theorem width_cnt (ls : List (Nat → Bool)) : widthC (clsL ls) 256 = cnt (sigL ls) 256 := by
  rw [← width_clsL]
theorem width_pos (ls : List (Nat → Bool)) : 1 ≤ widthC (clsL ls) 256 := by
  rw [width_cnt]
  have := cls_lt (sigL ls) (b := 0) (n := 256) (by omega)
  omega
theorem lt_new (ls : List (Nat → Bool)) (c : Nat) (h : c < widthC (clsL ls) 256) : ∃ l, bytesC (clsL ls) c 256 = ltC (clsL ls) c :: l ∧ isNew (sigL ls) (ltC (clsL ls) c) = true ∧ clsL ls (ltC (clsL ls) c) = c ∧ ltC (clsL ls) c < 256 := by
  rw [width_cnt] at h
  obtain ⟨a, ha, hn, hc⟩ := cls_surj (sigL ls) 256 c h
  have hm : a ∈ bytesC (clsL ls) c 256 := (bytesC_mem _ _ _ _).2 ⟨ha, by unfold clsL; rw [hc]⟩
  have hs := bytesC_sorted (clsL ls) c 256
  unfold ltC
  cases hb : bytesC (clsL ls) c 256 with
  | nil => rw [hb] at hm; simp at hm
  | cons x l =>
    rw [hb] at hm hs
    have hx : x ∈ bytesC (clsL ls) c 256 := by rw [hb]; simp
    obtain ⟨hx1, hx2⟩ := (bytesC_mem _ _ _ _).1 hx
    have hx3 : clsL ls x = c := by omega
    have hxa : x ≤ a := by
      rcases List.mem_cons.1 hm with rfl | h2
      · exact Nat.le_refl _
      · exact Nat.le_of_lt ((List.pairwise_cons.1 hs).1 a h2)
    have hp : sigL ls x = sigL ls a := (cls_eq_iff (sigL ls) x a).1 (by rw [hc]; exact hx3)
    have : x = a := by
      rcases Nat.lt_or_ge x a with h1 | h1
      · exact absurd hp ((isNew_iff (sigL ls) a).1 hn x h1)
      · omega
    subst this
    exact ⟨l, by simp, by simpa using hn, by simpa using hx3, by simpa using hx1⟩
theorem same_class (ls : List (Nat → Bool)) (x y : Nat) (h : clsL ls x = clsL ls y) (S : Nat → Bool) (hS : S ∈ ls) : S x = S y := by
  have := (cls_eq_iff (sigL ls) x y).1 h
  simp only [sigL] at this
  have h2 := List.map_inj_left.1 this
  exact h2 S hS
theorem lt_rise (ls : List (Nat → Bool)) (c : Nat) (h : c + 1 < widthC (clsL ls) 256) : ltC (clsL ls) c < ltC (clsL ls) (c + 1) := by
  obtain ⟨_, _, n1, c1, _⟩ := lt_new ls c (by omega)
  obtain ⟨_, _, n2, c2, _⟩ := lt_new ls (c + 1) h
  have c1 : cls (sigL ls) (ltC (clsL ls) c) = c := c1
  have c2 : cls (sigL ls) (ltC (clsL ls) (c + 1)) = c + 1 := c2
  rw [cls_new _ n1] at c1
  rw [cls_new _ n2] at c2
  rcases Nat.lt_or_ge (ltC (clsL ls) c) (ltC (clsL ls) (c + 1)) with h1 | h1
  · exact h1
  · have := cnt_mono' (sigL ls) h1
    omega
theorem lt_apart (ls : List (Nat → Bool)) (c : Nat) (h : c + 1 < widthC (clsL ls) 256) : ∃ S ∈ ls, S (ltC (clsL ls) (c + 1)) ≠ S (ltC (clsL ls) c) := by
  obtain ⟨_, _, n1, c1, _⟩ := lt_new ls c (by omega)
  obtain ⟨_, _, n2, c2, _⟩ := lt_new ls (c + 1) h
  apply Classical.byContradiction
  intro hn
  have : sigL ls (ltC (clsL ls) (c + 1)) = sigL ls (ltC (clsL ls) c) := by
    unfold sigL
    refine List.map_inj_left.2 fun S hS => ?_
    apply Classical.byContradiction
    intro hne
    exact hn ⟨S, hS, hne⟩
  have := (cls_eq_iff (sigL ls) _ _).2 this
  have c1 : cls (sigL ls) (ltC (clsL ls) c) = c := c1
  have c2 : cls (sigL ls) (ltC (clsL ls) (c + 1)) = c + 1 := c2
  omega
/-- Does one of the first k sets tell two bytes apart? -/
def apartB (ls : List (Nat → Bool)) (x y : Nat) (k : Nat) : Bool := (ls.take k).any fun S => S x != S y
theorem apartB_next (ls : List (Nat → Bool)) (x y k : Nat) (S : Nat → Bool) (h : ls[k]? = some S) : apartB ls x y (k + 1) = (apartB ls x y k || (S x != S y)) := by
  unfold apartB
  rw [List.take_add_one, h]
  simp [List.any_append]
theorem apartB_all (ls : List (Nat → Bool)) (c : Nat) (h : c + 1 < widthC (clsL ls) 256) : apartB ls (ltC (clsL ls) (c + 1)) (ltC (clsL ls) c) ls.length = true := by
  obtain ⟨S, hS, hne⟩ := lt_apart ls c h
  unfold apartB
  rw [List.take_length, List.any_eq_true]
  exact ⟨S, hS, by simpa using hne⟩
def leasts (ls : List (Nat → Bool)) (c : Nat) : List Nat := (List.range c).map (ltC (clsL ls))
theorem leasts_succ (ls : List (Nat → Bool)) (c : Nat) : leasts ls (c + 1) = leasts ls c ++ [ltC (clsL ls) c] := by simp [leasts, List.range_succ]
theorem leasts_len (ls : List (Nat → Bool)) (c : Nat) : (leasts ls c).length = c := by simp [leasts]
theorem leasts_at (ls : List (Nat → Bool)) (c i : Nat) (h : i < c) : (vals (leasts ls c))[i]? = some (.int .u8 (ltC (clsL ls) i)) := by
  simp [vals, leasts, h]
end Go.Proofs.Ytglagipkpdbhcaa
