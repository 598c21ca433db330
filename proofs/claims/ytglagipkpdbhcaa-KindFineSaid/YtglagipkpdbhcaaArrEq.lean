/- Two arrays of 256 bytes held against each other. -/
import Derived.Test.YtglagipkpdbhcaaArrAt
import Derived.Stop.BytesEq
namespace Go.Proofs.Ytglagipkpdbhcaa
open Go.RowKit Go.Sort Go.Extern.Stop

def bl (C : Nat → Nat) : List UInt8 := (List.range 256).map fun i => UInt8.ofNat (C i)
theorem bl_len (C : Nat → Nat) : (bl C).length = 256 := by simp [bl]
theorem arrC_bl (C : Nat → Nat) (h : ∀ i, i < 256 → C i < 256) : arrC C = ((bl C).map cell).toArray := by
  apply Array.ext_getElem?
  intro k
  rcases Nat.lt_or_ge k 256 with hk | hk
  · rw [arrC_at C k hk]
    have : (UInt8.ofNat (C k)).toNat = C k := by rw [UInt8.toNat_ofNat']; have := h k hk; omega
    simp [bl, hk, cell, this]
  · rw [arrC_none C k hk, Array.getElem?_eq_none (by simp [bl_len]; exact hk)]
theorem bl_eq (C D : Nat → Nat) (hC : ∀ i, i < 256 → C i < 256) (hD : ∀ i, i < 256 → D i < 256) : (bl C == bl D) = ((List.range 256).all fun i => C i == D i) := by
  rw [Bool.eq_iff_iff, beq_iff_eq, List.all_eq_true]
  constructor
  · intro h i hi
    have hi' := List.mem_range.1 hi
    have h2 := congrArg (fun l => l[i]?) h
    simp [bl, hi'] at h2
    have h3 := congrArg UInt8.toNat h2
    rw [UInt8.toNat_ofNat', UInt8.toNat_ofNat'] at h3
    have := hC i hi'; have := hD i hi'
    rw [beq_iff_eq]; omega
  · intro h
    unfold bl
    apply List.map_congr_left
    intro i hi
    rw [beq_iff_eq.1 (h i hi)]
theorem run_eq_arr (C D : Nat → Nat) (hC : ∀ i, i < 256 → C i < 256) (hD : ∀ i, i < 256 → D i < 256) (w : World) :
    (Op.equalIn 10000 24 (.agg (arrC C)) (.agg (arrC D))).run Try.prog w = .ok ((List.range 256).all fun i => C i == D i) w := by
  obtain ⟨i0, hi, _, hz1, _⟩ := info_parts infoU8
  rw [arrC_bl C hC, arrC_bl D hD, ← bl_eq C D hC hD]
  exact run_equalIn_bytes w 9998 24 5 256 Try.underlying24 Try.underlying5 (fun w => by simp [sizeOf, typeInfo, hi, hz1]) (bl C) (bl D) (bl_len C) (bl_len D)
theorem run_eq_arr_refl (C : Nat → Nat) (hC : ∀ i, i < 256 → C i < 256) (w : World) : (Op.equalIn 10000 24 (.agg (arrC C)) (.agg (arrC C))).run Try.prog w = .ok true w := by
  rw [run_eq_arr C C hC hC w]
  congr 1
  simp
theorem guard_arr : Try.prog.eqGuardType Try.prog.depth 24 = false := by kernel_rfl
def eqA (x y : Value) : Sem Bool := Op.equalIn 10000 24 x y
theorem eqA_eq (x y : Value) : Op.equalIn 10000 24 x y = eqA x y := rfl
theorem eqA_eq' (x y : Value) : Op.equal 24 x y = eqA x y := rfl
theorem run_eqA (C D : Nat → Nat) (hC : ∀ i, i < 256 → C i < 256) (hD : ∀ i, i < 256 → D i < 256) (w : World) : (eqA (.agg (arrC C)) (.agg (arrC D))).run Try.prog w = .ok ((List.range 256).all fun i => C i == D i) w := run_eq_arr C D hC hD w
theorem run_eqA_refl (C : Nat → Nat) (hC : ∀ i, i < 256 → C i < 256) (w : World) : (eqA (.agg (arrC C)) (.agg (arrC C))).run Try.prog w = .ok true w := run_eq_arr_refl C hC w
end Go.Proofs.Ytglagipkpdbhcaa
