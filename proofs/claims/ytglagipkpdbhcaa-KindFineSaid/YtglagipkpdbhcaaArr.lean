/- Arrays of 256 bytes, as functions. -/
import Derived.Test.YtglagipkpdbhcaaSRow
namespace Go.Proofs.Ytglagipkpdbhcaa
open Go.RowKit Go.Sort

/-- The cells of an array of 256 bytes. -/
def arrC (C : Nat → Nat) : Array Value := Array.ofFn (n := 256) fun i => Value.int .u8 (C i.val)
theorem arrC_size (C : Nat → Nat) : (arrC C).size = 256 := by simp [arrC]
theorem arrC_at (C : Nat → Nat) (i : Nat) (h : i < 256) : (arrC C)[i]? = some (.int .u8 (C i)) := by
  unfold arrC
  rw [Array.getElem?_eq_getElem (by simpa using h)]
  simp
def upd (C : Nat → Nat) (i v : Nat) : Nat → Nat := fun x => if x = i then v else C x
theorem arrC_none (C : Nat → Nat) (i : Nat) (h : 256 ≤ i) : (arrC C)[i]? = none := Array.getElem?_eq_none (by rw [arrC_size]; exact h)
theorem arrC_set (C : Nat → Nat) (i v : Nat) (h : i < 256) : (arrC C).setIfInBounds i (.int .u8 v) = arrC (upd C i v) := by
  apply Array.ext_getElem?
  intro k
  rw [Array.getElem?_setIfInBounds]
  rcases Nat.lt_or_ge k 256 with hk | hk
  · rw [arrC_at C k hk, arrC_at (upd C i v) k hk]
    by_cases e : i = k
    · subst e
      rw [if_pos rfl, if_pos (by rw [arrC_size]; exact h)]
      rw [show upd C i v i = v from if_pos rfl]
    · rw [if_neg e, show upd C i v k = C k from if_neg fun h => e h.symm]
  · rw [if_neg (by omega), arrC_none _ k hk, arrC_none _ k hk]
theorem arrC_congr {C D : Nat → Nat} (h : ∀ i, i < 256 → C i = D i) : arrC C = arrC D := by
  apply Array.ext
  · simp [arrC]
  · intro k hk1 hk2
    have hk : k < 256 := by simpa [arrC_size] using hk2
    simp [arrC, h k hk]
theorem arrC_inj {C D : Nat → Nat} (h : arrC C = arrC D) (i : Nat) (hi : i < 256) : C i = D i := by
  have h1 := arrC_at C i hi
  rw [h, arrC_at D i hi] at h1
  simp at h1; omega
/-- Every value that is an array of 256 bytes is one. -/
theorem arrC_of (cs : Array Value) (h : cs.size = 256) (hb : ∀ i (hi : i < cs.size), ∃ n : Nat, cs[i] = .int .u8 n ∧ n < 256) : ∃ C : Nat → Nat, cs = arrC C ∧ ∀ i, C i < 256 := by
  refine ⟨fun i => if hi : i < cs.size then (hb i hi).choose else 0, ?_, ?_⟩
  · apply Array.ext
    · simp [arrC_size, h]
    · intro k hk1 hk2
      simp only [arrC, Array.getElem_ofFn, hk1, dif_pos]
      exact (hb k hk1).choose_spec.1
  · intro i
    by_cases hi : i < cs.size
    · simp only [hi, dif_pos]; exact (hb i hi).choose_spec.2
    · simp [hi]
def arrV (C : Nat → Nat) : Value := .agg (arrC C)
theorem arr_cells (w : World) (C : Nat → Nat) (t : TypeId) (i : Nat) (h : i < 256) : (w.alloc (.cells (arrC C) t)).cell? ⟨w.heap.size, i, none⟩ = some (.int .u8 (C i)) := by
  rw [World.cell?_alloc_new]; exact arrC_at C i h

/-! ### The operations on such arrays -/
theorem sizeArr (C : Nat → Nat) : (Try.prog.info? 24).map (·.size) = some (arrC C).size := by
  rw [arrC_size]; kernel_rfl
theorem infoU8 : (Try.prog.info? 5).map (fun i => (i.zero, i.size, i.bytes)) = some (some (.int .u8 0), 1, 1) := by kernel_rfl
theorem run_index_arr (C : Nat → Nat) (k : Nat) (w : World) (h : k < 256) : (Instr.index 24 (.agg (arrC C)) (.int .i64 k)).run Try.prog w = .ok (.int .u8 (C k)) w := by
  obtain ⟨i0, hi, _, hz1, _⟩ := info_parts infoU8
  have hs : (sizeOf 5).run Try.prog w = .ok 1 w := by simp [sizeOf, typeInfo, hi, hz1]
  have ha : (isAgg 5).run Try.prog w = .ok false w := by unfold isAgg; rw [Sem.run_bind, run_underlying Try.underlying5 w]; rfl
  have hb : (0 : Int) ≤ (k : Int) ∧ (k : Int) < (256 : Nat) := by omega
  unfold Instr.index
  simp only [asIntOf, Sem.run_bind, Sem.run_pure, Result.andThen_ok, run_underlying Try.underlying24 w]
  rw [if_pos hb]
  simp only [part, Sem.run_bind, hs, ha, Result.andThen_ok, Nat.mul_one, Int.toNat_natCast, arrC_at C k h]
  rfl
def zeroC : Nat → Nat := fun _ => 0
theorem run_alloc_arr (w : World) : (Instr.alloc 24 true (.tuple #[])).run Try.prog w = .ok (.pointer (some ⟨w.heap.size, 0, none⟩)) (w.alloc (.cells (arrC zeroC) 24)) := by kernel_rfl
theorem run_zero_arr (w : World) : (zeroValue 24).run Try.prog w = .ok (.agg (arrC zeroC)) w := by kernel_rfl
theorem run_build_arr (w : World) : (Instr.build 24 #[]).run Try.prog w = .ok (.agg (arrC zeroC)) w := by kernel_rfl
attribute [irreducible] arrC
end Go.Proofs.Ytglagipkpdbhcaa
