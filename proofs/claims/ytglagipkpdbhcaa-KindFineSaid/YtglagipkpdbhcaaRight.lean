import Derived.Test.YtglagipkpdbhcaaWidth
import Derived.Test.YtglagipkpdbhcaaClasses
namespace Go.Proofs.Ytglagipkpdbhcaa
open Go.RowKit Go.Sort

def rightB (C : Nat → Nat) : Bool := (List.range 256).all fun b => cls C b == C b
theorem rightB_iff (C : Nat → Nat) : rightB C = true ↔ ∀ b, b < 256 → cls C b = C b := by
  unfold rightB
  rw [List.all_eq_true]
  exact ⟨fun h b hb => by simpa using h b (List.mem_range.2 hb), fun h b hb => by simpa using h b (List.mem_range.1 hb)⟩
theorem right_over (C : Nat → Nat) {b : Nat} (hb : b < 256) (h : cnt C b < C b) : rightB C = false := by
  rw [Bool.eq_false_iff]
  intro hr
  have := (rightB_iff C).1 hr b hb
  have := cls_le C b
  omega
theorem right_new (C : Nat → Nat) {b : Nat} (H : ∀ a, a < b → cls C a = C a) (h : C b = cnt C b) : (∀ a, a < b + 1 → cls C a = C a) ∧ cnt C (b + 1) = cnt C b + 1 := by
  have hn : isNew C b = true := by
    rw [isNew_iff]
    intro a ha e
    have := cls_lt C ha
    rw [H a ha, e, h] at this
    omega
  refine ⟨fun a ha => ?_, by simp [cnt, hn]⟩
  rcases Nat.lt_or_ge a b with hl | hl
  · exact H a hl
  · have : a = b := by omega
    subst this
    rw [cls_new C hn, h]
theorem right_old (C : Nat → Nat) {b : Nat} (H : ∀ a, a < b → cls C a = C a) (h : C b < cnt C b) : (∀ a, a < b + 1 → cls C a = C a) ∧ cnt C (b + 1) = cnt C b := by
  obtain ⟨a, h1, h2, h3⟩ := cls_surj C b (C b) h
  have e : C a = C b := by rw [← H a h1, h3]
  have hn : isNew C b = false := by
    rw [Bool.eq_false_iff]
    intro hn
    exact (isNew_iff C b).1 hn a h1 e
  refine ⟨fun x hx => ?_, by simp [cnt, hn]⟩
  rcases Nat.lt_or_ge x b with hl | hl
  · exact H x hl
  · have : x = b := by omega
    subst this
    rw [← h3]
    exact ((cls_eq_iff C x a).2 e.symm).trans rfl

set_option maxRecDepth 100000 in
theorem refright_any (C : Nat → Nat) (hC : ∀ i, i < 256 → C i < 256) (w : World) :
    Calls Try.prog 15 #[.agg (arrC C)] w fun e w' => e = .returned (.bool (rightB C)) ∧ Below w.heap.size w w' := by
  go_enter Try.func15, Try.ntmps15
  go_wp2
  go_loop [3, 4] (fun n i => ∃ k : Nat, k ≤ 256 ∧ i = .int .i64 k ∧ n = .int .i64 (cnt C k) ∧ ∀ a, a < k → cls C a = C a) (fun _ i => 256 - (intOf i).toNat)
  case atStart => exact ⟨0, by omega, rfl, rfl, by omega⟩
  case round =>
    obtain ⟨k, hk, rfl, rfl, H⟩ := hrel
    have HH := Lib.hid H
    clear H
    have hcl := cnt_le C k
    by_cases hlt : k < 256
    · have hi := arrC_at C k hlt
      have hc := hC k hlt
      have R1 := Lib.hid fun h => right_over C hlt h
      have R2 := Lib.hid fun h => right_new C HH.out h
      have R3 := Lib.hid fun h => right_old C HH.out h
      obtain ⟨m, hm⟩ : ∃ m, cnt C k = m := ⟨_, rfl⟩
      obtain ⟨c, hcc⟩ : ∃ c, C k = c := ⟨_, rfl⟩
      rw [hm, hcc] at R1 R2 R3
      rw [hcc] at hi hc
      rw [hm] at hcl ⊢
      clear hm hcc
      by_cases h1 : m < c
      · have hr := Lib.hid (R1.out h1)
        have h1' : (m : Int) < (c : Int) := by omega
        clear h1
        go_wp2
        go_ret
        exact ⟨ret_bool hr.out.symm, (Below.refl _ _).alloc (Nat.le_refl _) _⟩
      · have h1' : ¬ (m : Int) < (c : Int) := by omega
        by_cases h2 : c = m
        · obtain ⟨r1, r2⟩ := R2.out h2
          have Q1 := Lib.hid r1
          have Q2 := Lib.hid r2
          have h2' : ((c : Int) == (m : Int)) = true := by simp [h2]
          clear r1 r2 h1 h2
          go_wp2
          go_round
          case rel => exact ⟨k + 1, by omega, by go_num, by rw [Q2.out]; go_num, Q1.out⟩
          case measure => simp [intOf]; omega
        · obtain ⟨r1, r2⟩ := R3.out (by omega)
          have Q1 := Lib.hid r1
          have Q2 := Lib.hid r2
          have h2' : ((c : Int) == (m : Int)) = false := by simp; omega
          clear r1 r2 h1 h2
          go_wp2
          go_round
          case rel => exact ⟨k + 1, by omega, by go_num, by rw [Q2.out], Q1.out⟩
          case measure => simp [intOf]; omega
    · have Hk : Hid (rightB C = true) := (rightB_iff C).2 fun b hb => HH.out b (by omega)
      go_wp2
      go_ret
      exact ⟨ret_bool Hk.out.symm, (Below.refl _ _).alloc (Nat.le_refl _) _⟩
end Go.Proofs.Ytglagipkpdbhcaa
