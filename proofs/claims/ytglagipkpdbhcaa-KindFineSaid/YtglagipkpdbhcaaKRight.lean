import Derived.Test.YtglagipkpdbhcaaROf
import Derived.Test.YtglagipkpdbhcaaRight
import Derived.Test.YtglagipkpdbhcaaArrEq
namespace Go.Proofs.Ytglagipkpdbhcaa
open Go.RowKit Go.Sort

theorem width_cls {α : Type} [DecidableEq α] (p : Nat → α) : ∀ n, widthC (cls p) n = cnt p n
  | 0 => rfl
  | n + 1 => by
    simp only [widthC, cnt, width_cls p n]
    by_cases hn : isNew p n = true
    · rw [if_pos hn, cls_new p hn]; omega
    · have h1 := fi_le p n
      have h2 : fi p n ≠ n := fun e => hn (by unfold isNew; rw [e]; simp)
      have h3 := cls_lt p (show n < n + 1 by omega)
      simp only [cnt, hn] at h3
      rw [if_neg hn]
      simp at h3
      omega
def noS : Nat → Bool := fun _ => false
theorem wd_noS (i : Nat) : wd noS i = 0 := (wd_ext (by decide) fun k _ => by simp [noS]).symm
theorem cls_noS (C : Nat → Nat) (b : Nat) (hb : b < 256) : cls (pairC C noS) b = cls C b :=
  cls_congr (N := 256) (fun x y _ _ => by simp [pairC, noS]) hb
theorem split_no (C : Nat → Nat) (w : World) :
    Calls Try.prog 8 #[.agg (arrC C), .agg #[.int .u64 0, .int .u64 0, .int .u64 0, .int .u64 0]] w fun e w' => e = .returned (.agg (arrC (cls C))) ∧ Below w.heap.size w w' := by
  have h := split_any C noS w
  unfold setV at h
  simp only [wd_noS] at h
  rw [arrC_congr (cls_noS C)] at h
  exact h
theorem rightB_eq (C : Nat → Nat) : ((List.range 256).all fun i => cls C i == C i) = rightB C := rfl

attribute [local go_sem ↓] loadA_eq storeA_eq eqA_eq eqA_eq'
set_option maxHeartbeats 1000000 in
set_option maxRecDepth 100000 in
theorem right_any (C : Nat → Nat) (hC : ∀ i, i < 256 → C i < 256) (w : World) :
    Calls Try.prog 12 #[.agg (arrC C)] w fun e w' => e = .returned (.bool (rightB C)) ∧ Below w.heap.size w w' := by
  have hA := ArrAt.new w C
  have hcl : ∀ i, i < 256 → cls C i < 256 := fun i hi => by have := cls_le_self C i; omega
  have hld := fun d os => run_loadA (grow (redrawn (w.alloc (.cells (arrC C) 24)) d) os) w.heap.size C (hA.below (below_regrown _ d os) (by simp))
  have heq := fun w' => (run_eqA (cls C) C hcl hC w').trans (by rw [rightB_eq])
  have hgd := guard_arr
  have hsp := Lib.hid (split_no C)
  clear hA hcl
  go_enter Try.func12, Try.ntmps12
  go_wp2
  refine wp_region_quiet_below (by kernel_rfl) (by kernel_rfl) ?_
  repeat (go_big_quiet_step (with_reducible exact regrown_call hsp.out _ _))
  refine wpQuiet_nil ?_
  intro _ hw'
  obtain ⟨⟨dq, osq⟩, hw''⟩ := hw'
  subst hw''
  go_wp2
  go_ret
  exact ⟨rfl, ((Below.refl _ _).alloc (Nat.le_refl _) _).trans ((below_regrown _ dq osq).mono (by simp))⟩
end Go.Proofs.Ytglagipkpdbhcaa
