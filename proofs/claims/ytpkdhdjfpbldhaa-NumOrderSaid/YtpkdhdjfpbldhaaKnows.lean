import Derived.Test.YtpkdhdjfpbldhaaHex
import Derived.OpenShut
namespace Go.Proofs.Ytpkdhdjfpbldhaa
open Go.RowKit Go.PlainAid

theorem read_007 (w : World) : Calls Try.prog 12 #[.string ⟨#[48, 48, 55]⟩, .int .i64 9] w fun e w' => e = .returned (.tuple #[.int .i64 0, .int .i64 3]) ∧ w = w' := by
  refine (read_any ⟨#[48, 48, 55]⟩ 9 w (by decide) (by decide) (by decide)).mono fun e w' ⟨he, hw⟩ => ⟨?_, hw⟩
  rw [he]
  exact (readR_bad (.inr (.inl ⟨by rfl, by decide⟩))).symm
theorem show_120 (w : World) : Calls Try.prog 9 #[.int .i64 120] w fun e w' => e = .returned (.string ⟨#[49, 50, 48]⟩) ∧ Below w.heap.size w w' :=
  (show_pos 120 w (by decide)).mono fun _ _ ⟨he, hw⟩ => ⟨he, hw⟩
theorem hex_171 (w : World) : Calls Try.prog 18 #[.int .u8 171] w fun e w' => e = .returned (.string ⟨#[97, 98]⟩) ∧ Below w.heap.size w w' :=
  (hex_any 171 w (by decide)).mono fun _ _ ⟨he, k, hw⟩ => ⟨he, by rw [hw]; exact ⟨rfl, rfl, rfl, Nat.le_refl _, fun _ _ => rfl⟩⟩
theorem cap_ex (w : World) : Calls Try.prog 14 #[.int .i64 5, .slice (some ⟨w.heap.size, 0, none⟩) 3 3] (w.alloc (.cells #[.int .i64 2, .int .i64 (-7), .int .i64 4] 3))
    fun e w' => e = .returned (.int .i64 5) ∧ Below w.heap.size w w' := by
  refine (cap_any 5 (w.alloc (.cells #[.int .i64 2, .int .i64 (-7), .int .i64 4] 3)) (some ⟨w.heap.size, 0, none⟩) 3 3 [2, -7, 4] ?_ (by decide) (by decide)).mono fun e w' ⟨he, hw⟩ => ⟨?_, ?_⟩
  · refine ⟨rfl, by decide, ?_, fun _ => ⟨_, 0, rfl, by simp, ?_⟩⟩
    · intro i
      match i with
      | 0 => decide
      | 1 => decide
      | 2 => decide
      | n + 3 => simp
    · intro i hi
      rw [cell_new]
      match i, hi with
      | 0, _ => rfl
      | 1, _ => rfl
      | 2, _ => rfl
  · rw [he]; rfl
  · exact ((Below.refl _ _).alloc (Nat.le_refl _) _).trans (hw.mono (by simp))

theorem knows_any (w : World) : Calls Try.prog 11 #[] w fun e w' => e = .returned (.bool true) ∧ Below w.heap.size w w' := by
  go_enter Try.func11, Try.ntmps11
  go_wp2_with (first
    | (go_at_call 12; refine (read_007 _).mono ?_; rintro e w' ⟨rfl, rfl⟩)
    | (go_at_call 9; refine (show_120 _).mono ?_; rintro e w1 ⟨rfl, hb1⟩)
    | (go_at_call 14; refine (cap_ex _).mono ?_; rintro e w2 ⟨rfl, hb2⟩)
    | (go_at_call 18; refine (hex_171 _).mono ?_; rintro e w3 ⟨rfl, hb3⟩))
  go_ret
  exact ⟨rfl, (hb1.trans (hb2.mono hb1.size)).trans (hb3.mono (Nat.le_trans hb1.size hb2.size))⟩

theorem refshow_neg (n : Int) (w : World) (h : n < 0) :
    Calls Try.prog 10 #[.int .i64 n] w fun e w' => e = .returned (.string ⟨#[]⟩) ∧ w = w' := by
  go_enter Try.func10, Try.ntmps10
  go_wp2
  go_ret
  exact ⟨rfl, rfl⟩
theorem shows_neg (n : Int) (w : World) (h : n < 0) :
    Calls Try.prog 3 #[.int .i64 n] w fun e w' => e = .returned (.bool true) ∧ Below w.heap.size w w' := by
  go_enter Try.func3, Try.ntmps3
  go_wp2_with (first
    | (go_at_call 9; refine (show_neg _ _ h).mono ?_; rintro e w' ⟨rfl, rfl⟩)
    | (go_at_call 10; refine (refshow_neg _ _ h).mono ?_; rintro e w' ⟨rfl, rfl⟩)
    | (go_at_call 11; refine (knows_any _).mono ?_; rintro e w2 ⟨rfl, hb2⟩))
  go_ret
  exact ⟨rfl, hb2⟩
theorem shows_pos (n : Nat) (w : World) (h : n ≤ 9223372036854775807) :
    Calls Try.prog 3 #[.int .i64 n] w fun e w' => e = .returned (.bool true) ∧ Below w.heap.size w w' := by
  go_enter Try.func3, Try.ntmps3
  go_wp2_with (first
    | (go_at_call 9; refine (show_pos _ _ h).mono ?_; rintro e w1 ⟨rfl, hb1⟩)
    | (go_at_call 10; refine (refshow_pos _ _ h).mono ?_; rintro e w2 ⟨rfl, hb2⟩)
    | (go_at_call 11; refine (knows_any _).mono ?_; rintro e w3 ⟨rfl, hb3⟩))
  go_ret
  exact ⟨rfl, (hb1.trans (hb2.mono hb1.size)).trans (hb3.mono (Nat.le_trans hb1.size hb2.size))⟩
theorem shows_walk (n : Int) (w : World) (wf : (Lit.int .i64 n).wf = true) :
    Calls Try.prog 3 #[.int .i64 n] w fun e w' => e = .returned (.bool true) ∧ Below w.heap.size w w' := by
  have hb := bounds_i64 wf
  by_cases h : n < 0
  · exact shows_neg n w h
  · obtain ⟨m, rfl⟩ := Int.eq_ofNat_of_zero_le (by omega : 0 ≤ n)
    exact shows_pos m w (by omega)
end Go.Proofs.Ytpkdhdjfpbldhaa
