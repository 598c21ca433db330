/- bset: SameRuns; First. -/
import Derived.Test.YtglgmnhfpemfeaaDoorBRunsR
import Derived.Test.YtglgmnhfpemfeaaDoorIntsEq
namespace Go.Proofs.YtglgmnhfpemfeaaDoor
open Go.RowKit
set_option linter.unusedVariables false

theorem below_drewN (w : World) (n : Nat) : Below w.heap.size w (w.drewN n) := ⟨rfl, rfl, rfl, Nat.le_refl _, fun _ _ => rfl⟩
theorem drewN_drewN (w : World) (a b : Nat) : (w.drewN a).drewN b = w.drewN (a + b) := by simp [World.drewN, Nat.add_assoc]
attribute [local go_sem ↓] eqS_eq eqS_eq' eqR_eq eqR_eq'
set_option maxHeartbeats 1000000 in
theorem sameruns_yes (w : World) (a b : Option Addr) (n c d : Nat) (ps : List (Nat × Nat)) (ha : CRow rn2 2 w a n ps) (hb : CRow rn2 2 w b n ps) :
    Calls Tryd.prog 20 #[.slice a n c, .slice b n d] w fun e w' => e = .returned (.bool true) ∧ ∃ k, w' = w.drewN k := by
  have hl2 := ha.2.1
  go_enter Tryd.func20, Tryd.ntmps20
  go_wp2
  go_loopw [5] (fun i wr => ∃ k m : Nat, k ≤ n ∧ i = .int .i64 k ∧ wr = w.drewN m) (fun i _ => n - (intOf i).toNat)
  case atStart => exact ⟨0, 0, by omega, rfl, rfl⟩
  case round =>
    obtain ⟨k, m, hk, rfl, hwr⟩ := hrel
    by_cases hlt : k < n
    · obtain ⟨b1, o1, p, rfl, _, hp, hc1⟩ := ha.at_ hlt
      obtain ⟨b2, o2, q, rfl, _, hq, hc2⟩ := hb.at_ hlt
      have hpq : p = q := by rw [hp] at hq; exact Option.some.inj hq
      subst hpq
      have c10 : wr.cell? ⟨b1, o1 + k * 2, none⟩ = some (.int .i64 (p.1 : Int)) := by subst hwr; exact hc1 0 _ rfl
      have c11 : wr.cell? ⟨b1, o1 + k * 2 + 1, none⟩ = some (.int .i64 (p.2 : Int)) := by subst hwr; exact hc1 1 _ rfl
      have c20 : wr.cell? ⟨b2, o2 + k * 2, none⟩ = some (.int .i64 (p.1 : Int)) := by subst hwr; exact hc2 0 _ rfl
      have c21 : wr.cell? ⟨b2, o2 + k * 2 + 1, none⟩ = some (.int .i64 (p.2 : Int)) := by subst hwr; exact hc2 1 _ rfl
      have h0 : (0 : Int) ≤ (k : Int) := by omega
      have h1 : (k : Int) < (n : Int) := by omega
      have hqe := run_eqR (p.1 : Int) (p.2 : Int) (p.1 : Int) (p.2 : Int) wr.drew
      simp only [beq_self_eq_true, Bool.and_self] at hqe
      have HW := Lib.hid hwr
      clear hwr hp hq hc1 hc2 ha hb
      go_wp2
      go_region
      go_wp2
      go_roundw
      case rel => exact ⟨k + 1, m + 1, by omega, by go_num, by rw [HW.out]; rfl⟩
      case measure => simp [intOf]; omega
    · subst hwr
      go_wp2
      go_ret
      exact ⟨rfl, _, rfl⟩
/-- The least byte, or none. -/
def firstF (S : Nat → Bool) : Int := match bytesL S 256 with
  | [] => -1
  | b :: _ => b
theorem first_empty {S : Nat → Bool} (h : bytesL S 256 = []) : ∀ i, i < 4 → wd S i = 0 := fun i hi => by
  have : ∀ x, x < 256 → S x = false := fun x hx => by
    cases hs : S x with
    | false => rfl
    | true =>
      have : x ∈ bytesL S 256 := by unfold bytesL; rw [List.mem_filter, List.mem_range]; exact ⟨hx, hs⟩
      rw [h] at this; cases this
  exact (wd_ext (by decide) fun k hk => by simp [this (64 * i + k) (by omega)]).symm
theorem first_some {S : Nat → Bool} {b : Nat} {l : List Nat} (h : bytesL S 256 = b :: l) : ¬ (wd S 0 = 0 ∧ wd S 1 = 0 ∧ wd S 2 = 0 ∧ wd S 3 = 0) := by
  rintro ⟨h0, h1, h2, h3⟩
  have hb := bytesL_at (S := S) (n := 256) (i := 0) (b := b) (by rw [h]; rfl)
  have : ∀ i, i < 4 → wd S i = 0 := fun i hi => by
    have : i = 0 ∨ i = 1 ∨ i = 2 ∨ i = 3 := by omega
    rcases this with rfl | rfl | rfl | rfl <;> assumption
  have h4 := this (b / 64) (by omega)
  have h5 := wd_bit S (b / 64) (b % 64)
  rw [h4] at h5
  have h6 : b % 64 < 64 := by omega
  rw [show 64 * (b / 64) + b % 64 = b by omega, hb.2] at h5
  simp [h6] at h5
set_option maxHeartbeats 1000000 in
theorem first_any (S : Nat → Bool) (w : World) (hT : TabT w) :
    Calls Tryd.prog 22 #[setV S] w fun e w' => e = .returned (.int .i64 (firstF S)) ∧ Below w.heap.size w w' := by
  have hb0 := ((Below.refl w.heap.size w).alloc (Nat.le_refl w.heap.size) (.cells #[.int .u64 (wd S 0), .int .u64 (wd S 1), .int .u64 (wd S 2), .int .u64 (wd S 3)] 24))
  have HBY := Lib.hid (bytes_any S _ (hT.below hb0))
  have HB0 := Lib.hid hb0
  unfold setV at HBY
  unfold setV
  clear hb0
  cases hl : bytesL S 256 with
  | nil =>
    have hz := first_empty hl
    have HF : Hid (firstF S = -1) := Lib.hid (by unfold firstF; rw [hl])
    rw [hz 0 (by omega), hz 1 (by omega), hz 2 (by omega), hz 3 (by omega)] at HB0 ⊢
    have hq := fun w => run_eqS 0 0 0 0 0 0 0 0 w
    simp only [beq_self_eq_true, Bool.and_self] at hq
    clear hz hl HBY
    go_enter Tryd.func22, Tryd.ntmps22
    go_wp2
    go_ret
    exact ⟨by rw [HF.out]; rfl, HB0.out⟩
  | cons b l =>
    have hz := first_some hl
    have HF : Hid (firstF S = (b : Int)) := Lib.hid (by unfold firstF; rw [hl])
    have hb256 := (bytesL_at (S := S) (n := 256) (i := 0) (b := b) (by rw [hl]; rfl)).1
    have hq : ∀ w, (eqS (.agg #[.int .u64 (wd S 0), .int .u64 (wd S 1), .int .u64 (wd S 2), .int .u64 (wd S 3)]) (.agg #[.int .u64 0, .int .u64 0, .int .u64 0, .int .u64 0])).run Tryd.prog w = .ok false w := fun w => by
      rw [run_eqS]
      congr 1
      rw [Bool.eq_false_iff]
      intro h
      simp at h
      exact hz ⟨h.1, h.2.1, h.2.2.1, h.2.2.2⟩
    rw [hl] at HBY
    have HMB := Lib.hid hb256
    clear hz hl hb256
    go_enter Tryd.func22, Tryd.ntmps22
    go_wp2_with fail
    refine HBY.out.mono ?_
    rintro e w2 ⟨v8, rfl, hown, hb2⟩
    obtain ⟨A8, c8, rfl, _, _⟩ := own_form hown
    obtain ⟨g8, rfl, _, _, hc8⟩ := own_at hown (by simp)
    have c := hc8 0 (.int .u8 (b : Int)) (by rw [by1_flat]; rfl)
    have hlen : 0 < (b :: l).length := by simp
    have HB2 := Lib.hid (HB0.out.trans (hb2.mono (by simp)))
    generalize (b :: l).length = m at *
    clear hown hc8 hb2 HBY
    have hp0 : (0 : Int) < (m : Int) := by omega
    have HWB : Hid (wrap64 (b : Int) = (b : Int)) := Lib.hid (by have := HMB.out; unfold wrap64; omega)
    go_wp2
    go_ret
    exact ⟨by rw [HF.out]; exact ret_int HWB.out, HB2.out⟩
set_option maxHeartbeats 1000000 in
theorem rfirst_any (S : Nat → Bool) (w : World) :
    Calls Tryd.prog 23 #[setV S] w fun e w' => e = .returned (.int .i64 (firstF S)) ∧ Below w.heap.size w w' := by
  have hb0 := ((Below.refl w.heap.size w).alloc (Nat.le_refl w.heap.size) (.cells #[.int .u64 (wd S 0), .int .u64 (wd S 1), .int .u64 (wd S 2), .int .u64 (wd S 3)] 24))
  have HBY := Lib.hid fun w' => rbytes_any S w'
  have HB0 := Lib.hid hb0
  unfold setV at HBY
  unfold setV
  clear hb0
  go_enter Tryd.func23, Tryd.ntmps23
  go_wp2_with fail
  refine (HBY.out _).mono ?_
  rintro e w2 ⟨v8, rfl, hown, hb2⟩
  obtain ⟨A8, c8, rfl, _, _⟩ := own_form hown
  have HB2 := Lib.hid (HB0.out.trans (hb2.mono (by simp)))
  clear hb2 HBY
  cases hl : bytesL S 256 with
  | nil =>
    have HF : Hid (firstF S = -1) := Lib.hid (by unfold firstF; rw [hl])
    rw [List.length_nil]
    clear hown hl
    go_wp2
    go_ret
    exact ⟨by rw [HF.out]; rfl, HB2.out⟩
  | cons b l =>
    have HF : Hid (firstF S = (b : Int)) := Lib.hid (by unfold firstF; rw [hl])
    have HMB := Lib.hid (bytesL_at (S := S) (n := 256) (i := 0) (b := b) (by rw [hl]; rfl)).1
    rw [hl] at hown
    obtain ⟨g8, rfl, _, _, hc8⟩ := own_at hown (by simp)
    have c := hc8 0 (.int .u8 (b : Int)) (by rw [by1_flat]; rfl)
    have hlen : 0 < (b :: l).length := by simp
    generalize (b :: l).length = m at *
    clear hown hc8 hl
    have hp0 : (0 : Int) < (m : Int) := by omega
    have hp1 : ((m : Int) == 0) = false := by simp; omega
    have HWB : Hid (wrap64 (b : Int) = (b : Int)) := Lib.hid (by have := HMB.out; unfold wrap64; omega)
    go_wp2
    go_ret
    exact ⟨by rw [HF.out]; exact ret_int HWB.out, HB2.out⟩
end Go.Proofs.YtglgmnhfpemfeaaDoor
