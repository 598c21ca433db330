import Derived.Test.YtpkdhdjfpbldhaaRows
import Derived.Test.YtpkdhdjfpbldhaaPlain
import Derived.WalkKit
import Derived.WalkLawsBesides
import Derived.WalkSpells
import Derived.Lib.Hide
namespace Go.Proofs.Ytpkdhdjfpbldhaa
open Go.RowKit

theorem cell_new (w : World) (C : Array Value) (t : TypeId) (j : Nat) : (w.alloc (.cells C t)).cell? ⟨w.heap.size, j, none⟩ = C[j]? :=
  World.cell?_alloc_mark w C t (0, 0) j

/-- 'string([]byte{c})'. -/
theorem conv_one (w : World) (x : Int) : (convert 40 9 (.slice (some ⟨w.heap.size, 0, none⟩) 1 1)).run Try.prog (w.alloc (.cells #[.int .u8 x] 5)) =
    .ok (.string ⟨#[UInt8.ofNat x.toNat]⟩) (w.alloc (.cells #[.int .u8 x] 5)) := by
  have h := run_convert_bytes_arg (P := Try.prog) (w.alloc (.cells #[.int .u8 x] 5)) 40 5 Try.underlying40 Try.underlying5 w.heap.size 0 1 1 [x] rfl
    (by
      intro i hi
      have : i = 0 := by omega
      subst this
      rw [show (⟨w.heap.size, 0 + 0, none⟩ : Addr) = ⟨w.heap.size, 0, none⟩ from rfl, cell_new]
      rfl) 9 Try.underlying9
  exact h

theorem show_neg (n : Int) (w : World) (h : n < 0) :
    Calls Try.prog 9 #[.int .i64 n] w fun e w' => e = .returned (.string ⟨#[]⟩) ∧ w = w' := by
  go_enter Try.func9, Try.ntmps9
  go_wp2
  go_ret
  exact ⟨rfl, rfl⟩

theorem str_step (m : Nat) (t : List UInt8) : (ByteArray.mk #[48 + UInt8.ofNat (m % 10)] ++ ByteArray.mk t.toArray) = ByteArray.mk (UInt8.ofNat (48 + m % 10) :: t).toArray := by
  have h := ByteArray.mk_append_mk [48 + UInt8.ofNat (m % 10)] t
  rw [show (ByteArray.mk #[48 + UInt8.ofNat (m % 10)] : ByteArray) = ByteArray.mk [48 + UInt8.ofNat (m % 10)].toArray from rfl, h, UInt8.ofNat_add]
  rfl
theorem ret_str {a b : ByteArray} (h : a = b) : Ending.returned (.string a) = .returned (.string b) := by rw [h]
theorem val_str {a b : ByteArray} (h : a = b) : Value.string a = .string b := by rw [h]

theorem refshow_pos (n : Nat) (w : World) (h1 : n ≤ 9223372036854775807) :
    Calls Try.prog 10 #[.int .i64 n] w fun e w' => e = .returned (.string ⟨(digs n).toArray⟩) ∧ Below w.heap.size w w' := by
  have hcv := conv_one
  have hlen := dg0_len 19 (n / 10) (by omega)
  have hdl := digs_len n (by omega)
  go_enter Try.func10, Try.ntmps10
  go_wp2
  go_loopw [0, 3] (fun a s wr => ∃ (m : Nat) (t : List UInt8), m ≤ 9223372036854775807 ∧ t.length ≤ 20 ∧ a = .int .i64 m ∧ s = .string ⟨t.toArray⟩ ∧ digs n = dg0 m ++ t ∧ Below w.heap.size w wr)
     (fun a _ _ => (intOf a).toNat)
  case atStart => exact ⟨n / 10, [UInt8.ofNat (48 + n % 10)], by omega, by simp, rfl, rfl, rfl, (Below.refl _ _).alloc (Nat.le_refl _) _⟩
  case round =>
    obtain ⟨m, t, hm, ht, rfl, rfl, hd, hb⟩ := hrel
    have Hd := Lib.hid hd
    clear hd
    go_wp2
    · have hpos : 0 < m := by assumption
      have hd := Hd.out
      rw [dg0_pos m hpos, List.append_assoc] at hd
      go_roundw
      case rel =>
        refine ⟨m / 10, UInt8.ofNat (48 + m % 10) :: t, by omega, ?_, rfl, val_str (str_step m t), by simpa using hd, hb.alloc hb.size _⟩
        have h2 := congrArg List.length hd
        simp at h2 ⊢
        omega
      case measure => simp [intOf]; omega
    · have h0 : m = 0 := by have : ¬ 0 < m := by assumption
                            omega
      go_ret
      refine ⟨ret_str ?_, hb⟩
      rw [Hd.out, h0, dg0_zero]; rfl

/-- The array of Show: zeros, then the digits that are there. -/
def row20 (t : List UInt8) : Array Value := (List.replicate (20 - t.length) (Value.int .u8 0) ++ t.map fun c => Value.int .u8 c.toNat).toArray
theorem row20_nil : row20 [] = #[.int .u8 0, .int .u8 0, .int .u8 0, .int .u8 0, .int .u8 0, .int .u8 0, .int .u8 0, .int .u8 0, .int .u8 0, .int .u8 0, .int .u8 0, .int .u8 0, .int .u8 0, .int .u8 0, .int .u8 0, .int .u8 0, .int .u8 0, .int .u8 0, .int .u8 0, .int .u8 0] := rfl

theorem row20_at (t : List UInt8) (k : Nat) (h : k < 20 - t.length) : (row20 t)[k]? = some (.int .u8 0) := by
  unfold row20
  simp only [List.getElem?_toArray]
  rw [List.getElem?_append_left (by simpa using h)]
  simp [h]

def dch (m : Nat) : UInt8 := UInt8.ofNat (48 + m % 10)
theorem digs_more (m : Nat) (hz : 0 < m / 10) : digs m = digs (m / 10) ++ [dch m] := by rw [digs_eq _ hz]; rfl
theorem row20_set (t : List UInt8) (m : Nat) (h : t.length < 20) : (row20 t).setIfInBounds (20 - t.length - 1) (.int .u8 (48 + (m : Int) % 10)) = row20 (dch m :: t) := by
  unfold row20
  rw [List.setIfInBounds_toArray]
  congr 1
  have e : 20 - t.length = (20 - (t.length + 1)) + 1 := by omega
  rw [e, List.replicate_succ', List.append_assoc, List.set_append_right _ _ (by simp)]
  have : (dch m).toNat = 48 + m % 10 := by unfold dch; simp; omega
  simp [this]
theorem info5 : (Try.prog.info? 5).map (fun i => (i.zero, i.size, i.bytes)) = some (some (.int .u8 0), 1, 1) := by kernel_rfl

theorem sl_arr (w' : World) (b k : Nat) (h : k ≤ 19) : (Instr.sliceAt 39 (.pointer (some ⟨b, 0, none⟩)) (some (.int .i64 (20 - (k : Int) - 1))) none none).run Try.prog w' =
    .ok (.slice (some ⟨b, 20 - k - 1, none⟩) (k + 1) (k + 1)) w' := by
  have h0 : (0 : Int) ≤ 20 - (k : Int) - 1 := by omega
  have h1 : (20 - (k : Int) - 1) ≤ 20 := by omega
  have hn : Try.prog.arrayLen 39 = 20 := by simp [Program.arrayLen, Try.underlying39]
  have ht : Try.prog.underlying 39 = some (.array (Try.prog.arrayLen 39) (Try.prog.elem 39)) := by simp [Program.arrayLen, Program.elem, Try.underlying39]
  have hx := run_sliceAt_array_l (P := Try.prog) w' 39 ⟨b, 0, none⟩ ht .i64 _ h0 (by rw [hn]; exact h1)
  rw [hx]
  have e : (20 - (k : Int) - 1).toNat = 20 - k - 1 := by omega
  have e2 : 20 - (20 - k - 1) = k + 1 := by omega
  have e3 : 20 ≠ 20 - k - 1 := by omega
  have e4 : (⟨b, 0, none⟩ : Addr).add (20 - k - 1) = ⟨b, 20 - k - 1, none⟩ := by unfold Addr.add; split <;> simp_all
  rw [hn, e]
  have el : Try.prog.elem 39 = 5 := by simp [Program.elem, Try.underlying39]
  obtain ⟨i0, hi, _, hz1, _⟩ := info_parts info5
  have hs : (sizeOf (Try.prog.elem 39)).run Try.prog w' = .ok 1 w' := by rw [el]; simp [sizeOf, typeInfo, hi, hz1]
  rw [hs]
  simp only [Result.andThen_ok, slicedAt, if_neg e3, e2, Nat.mul_one, e4]
theorem row20_tail (t : List UInt8) (j : Nat) (hj : j < t.length) : (row20 t)[20 - t.length + j]? = some (.int .u8 t[j].toNat) := by
  unfold row20
  simp only [List.getElem?_toArray]
  rw [List.getElem?_append_right (by simp)]
  simp [hj]
theorem conv_row (w : World) (c : UInt8) (t : List UInt8) (hl : t.length ≤ 19) :
    (convert 40 9 (.slice (some ⟨w.heap.size, 20 - t.length - 1, none⟩) (t.length + 1) (t.length + 1))).run Try.prog (w.alloc (.cells (row20 (c :: t)) 39)) =
    .ok (.string ⟨(c :: t).toArray⟩) (w.alloc (.cells (row20 (c :: t)) 39)) := by
  have h := run_convert_bytes_back (P := Try.prog) (w.alloc (.cells (row20 (c :: t)) 39)) 40 9 5 ⟨w.heap.size, 20 - t.length - 1, none⟩ (t.length + 1) (c :: t) Try.underlying40 Try.underlying5 Try.underlying9
    (by
      intro j hj
      have := row20_tail (c :: t) j hj
      rw [← this]
      have e : (⟨w.heap.size, 20 - t.length - 1, none⟩ : Addr).add j = ⟨w.heap.size, 20 - (c :: t).length + j, none⟩ := by
        unfold Addr.add; split <;> simp_all <;> omega
      rw [e, cell_new])
  exact h

theorem show_pos (n : Nat) (w : World) (h1 : n ≤ 9223372036854775807) :
    Calls Try.prog 9 #[.int .i64 n] w fun e w' => e = .returned (.string ⟨(digs n).toArray⟩) ∧ Below w.heap.size w w' := by
  go_enter Try.func9, Try.ntmps9
  go_wp2
  go_loopw [0, 4] (fun a s wr => ∃ (m : Nat) (t : List UInt8), m ≤ 9223372036854775807 ∧ t.length + (digs m).length ≤ 20 ∧ a = .int .i64 m ∧ s = .int .i64 (20 - (t.length : Nat)) ∧ digs n = digs m ++ t ∧ wr = w.alloc (.cells (row20 t) 39))
     (fun _ s _ => (intOf s).toNat)
  case atStart => 
    refine ⟨n, [], by omega, ?_, rfl, rfl, by simp, rfl⟩
    simpa using digs_len n (by omega)
  case round =>
    obtain ⟨m, t, hm, ht, rfl, rfl, hd, rfl⟩ := hrel
    have Hd := Lib.hid hd
    clear hd
    have hl1 : t.length ≤ 19 := by
      have : 0 < (digs m).length := by unfold digs; simp
      omega
    have hrow := row20_at t _ (show 20 - t.length - 1 < 20 - t.length by omega)
    have hset := row20_set t m (by omega)
    have hsl := fun w' => sl_arr w' w.heap.size t.length hl1
    have hcv := conv_row w (dch m) t hl1
    have hdm := digs_len m (by omega)
    go_wp2
    · have hz : m / 10 = 0 := by
        have : ((m : Int) / 10 == 0) = true := by assumption
        simp at this; omega
      go_ret
      refine ⟨ret_str ?_, (Below.refl _ _).alloc (Nat.le_refl _) _⟩
      rw [Hd.out, digs, hz, dg0_zero]; rfl
    · have hz : 0 < m / 10 := by
        have : ((m : Int) / 10 == 0) = false := by assumption
        simp at this; omega
      have hd := Hd.out
      rw [digs_more m hz, List.append_assoc] at hd
      have hlen : (digs m).length = (digs (m / 10)).length + 1 := by rw [digs_more m hz]; simp
      go_roundw
      case rel =>
        refine ⟨m / 10, dch m :: t, by omega, ?_, rfl, ?_, by simpa [dch] using hd, rfl⟩
        · simp; omega
        · simp; omega
      case measure => simp [intOf]; omega
end Go.Proofs.Ytpkdhdjfpbldhaa
