import Derived.Test.YtglagipkpdbhcaaArr
namespace Go.Proofs.Ytglagipkpdbhcaa
open Go.RowKit Go.Sort

/-- One more than the greatest of the first n. -/
def widthC (C : Nat → Nat) : Nat → Nat
  | 0 => 0
  | n + 1 => max (widthC C n) (C n + 1)
theorem widthC_le (C : Nat → Nat) : ∀ n, (∀ i, i < n → C i < 256) → widthC C n ≤ 256
  | 0, _ => by simp [widthC]
  | n + 1, hC => by have := widthC_le C n (fun i hi => hC i (by omega)); have := hC n (by omega); simp only [widthC]; omega

set_option maxRecDepth 100000 in
theorem width_any (C : Nat → Nat) (hC : ∀ i, i < 256 → C i < 256) (w : World) :
    Calls Try.prog 9 #[.agg (arrC C)] w fun e w' => e = .returned (.int .i64 (widthC C 256)) ∧ Below w.heap.size w w' := by
  have hg := heap_alloc_new w (.cells (arrC C) 24)
  have Hg := Lib.hid hg
  clear hg
  go_enter Try.func9, Try.ntmps9
  go_wp2_with (refine wpList_load_row rfl 24 _ rfl w.heap.size rfl 24 (arrC C) (0, 0) _ Hg.out Try.underlying24 rfl (sizeArr C) ?_)
  go_loop [3, 7] (fun n i => ∃ k : Nat, k ≤ 256 ∧ i = .int .i64 k ∧ n = .int .i64 (widthC C k)) (fun _ i => 256 - (intOf i).toNat)
  case atStart => exact ⟨0, by omega, rfl, rfl⟩
  case round =>
    obtain ⟨k, hk, rfl, rfl⟩ := hrel
    have hw := widthC_le C k (fun i hi => hC i (by omega))
    by_cases hlt : k < 256
    · have hi := fun w' => run_index_arr C k w' hlt
      have hc := hC k hlt
      have Hm : Hid (widthC C (k + 1) = max (widthC C k) (C k + 1)) := rfl
      obtain ⟨m, hm⟩ : ∃ m, widthC C k = m := ⟨_, rfl⟩
      obtain ⟨c, hcc⟩ : ∃ c, C k = c := ⟨_, rfl⟩
      rw [hm, hcc] at Hm
      rw [hcc] at hi hc
      rw [hm] at hw ⊢
      clear hm hcc
      by_cases hmc : (m : Int) < (c : Int) + 1
      · go_wp2
        go_round
        case rel => exact ⟨k + 1, by omega, by go_num, by rw [Hm.out]; refine congrArg _ ?_; omega⟩
        case measure => simp [intOf]; omega
      · go_wp2
        go_round
        case rel => exact ⟨k + 1, by omega, by go_num, by rw [Hm.out]; refine congrArg _ ?_; omega⟩
        case measure => simp [intOf]; omega
    · have Hk : Hid (k = 256) := by show k = 256; omega
      go_wp2
      go_ret
      exact ⟨ret_int (by rw [Hk.out]), (Below.refl _ _).alloc (Nat.le_refl _) _⟩
set_option maxRecDepth 100000 in
theorem refwidth_any (C : Nat → Nat) (hC : ∀ i, i < 256 → C i < 256) (w : World) :
    Calls Try.prog 16 #[.agg (arrC C)] w fun e w' => e = .returned (.int .i64 (widthC C 256)) ∧ Below w.heap.size w w' := by
  go_enter Try.func16, Try.ntmps16
  go_wp2
  go_loop [3, 4] (fun n i => ∃ k : Nat, k ≤ 256 ∧ i = .int .i64 k ∧ n = .int .i64 (widthC C k)) (fun _ i => 256 - (intOf i).toNat)
  case atStart => exact ⟨0, by omega, rfl, rfl⟩
  case round =>
    obtain ⟨k, hk, rfl, rfl⟩ := hrel
    have hw := widthC_le C k (fun i hi => hC i (by omega))
    by_cases hlt : k < 256
    · have hi := arrC_at C k hlt
      have hc := hC k hlt
      have Hm : Hid (widthC C (k + 1) = max (widthC C k) (C k + 1)) := rfl
      obtain ⟨m, hm⟩ : ∃ m, widthC C k = m := ⟨_, rfl⟩
      obtain ⟨c, hcc⟩ : ∃ c, C k = c := ⟨_, rfl⟩
      rw [hm, hcc] at Hm
      rw [hcc] at hi hc
      rw [hm] at hw ⊢
      clear hm hcc
      by_cases hmc : (m : Int) < (c : Int) + 1
      · go_wp2
        go_round
        case rel => exact ⟨k + 1, by omega, by go_num, by rw [Hm.out]; refine congrArg _ ?_; omega⟩
        case measure => simp [intOf]; omega
      · go_wp2
        go_round
        case rel => exact ⟨k + 1, by omega, by go_num, by rw [Hm.out]; refine congrArg _ ?_; omega⟩
        case measure => simp [intOf]; omega
    · have Hk : Hid (k = 256) := by show k = 256; omega
      go_wp2
      go_ret
      exact ⟨ret_int (by rw [Hk.out]), (Below.refl _ _).alloc (Nat.le_refl _) _⟩
end Go.Proofs.Ytglagipkpdbhcaa
