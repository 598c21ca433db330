import Derived.Test.YtajfnkboeaflnaaOutPad
import Derived.Laws.ResultCell
import Derived.Lib.Strings
namespace Go.Proofs.Ytajfnkboeaflnaa
open Go.RowKit

def bstr (l : List UInt8) : ByteArray := ⟨l.toArray⟩
theorem bstr_data (l : List UInt8) : (bstr l).data.toList = l := rfl
theorem bstr_size (l : List UInt8) : (bstr l).size = l.length := rfl
theorem bstr_app (l : List UInt8) (s : ByteArray) : bstr l ++ s = bstr (l ++ s.data.toList) := by
  have := ByteArray.mk_append_mk l s.data.toList
  simpa [bstr] using this
theorem bstr_take (l : List UInt8) (n : Nat) : (bstr l).extract 0 n = bstr (l.take n) := by
  have h := Lib.extract_data (bstr l) 0 n
  have : (bstr l).extract 0 n = bstr ((bstr l).extract 0 n).data.toList := by
    cases (bstr l).extract 0 n; rfl
  rw [this, h]; simp [bstr]
/-- The document's Out. -/
def refV (room : Nat) (bs : List UInt8) : Value := .agg #[.int .i64 room, .string (bstr bs)]
def refO (room : Nat) (bs : List UInt8) : Obj := .cells #[.int .i64 room, .string (bstr bs)] 33 (0, 0)

theorem rnew_bad (w : World) (r : Int) (h : r < 0 ∨ 1073741824 < r) : Calls Try.prog 10 #[.int .i64 r] w fun e w' => e = .returned (.tuple #[refV 0 [], .int .i64 2]) ∧ Below w.heap.size w w' := by
  by_cases h0 : r < 0
  · have j : decide (r < 0) = true := decide_eq_true h0
    go_enter Try.func10, Try.ntmps10
    go_wp2
    refine bodyPost_ret (v := .tuple #[refV 0 [], .int .i64 2]) (by simp [results, Try.results10, go_sem, refV, bstr]) rfl ⟨rfl, ?_⟩
    exact (Below.refl _ _).alloc (Nat.le_refl _) _
  · have h1 : 1073741824 < r := by omega
    have j : decide (r < 0) = false := decide_eq_false h0
    have j1 : decide (1073741824 < r) = true := decide_eq_true h1
    go_enter Try.func10, Try.ntmps10
    go_wp2
    refine bodyPost_ret (v := .tuple #[refV 0 [], .int .i64 2]) (by simp [results, Try.results10, go_sem, refV, bstr]) rfl ⟨rfl, ?_⟩
    exact (Below.refl _ _).alloc (Nat.le_refl _) _
theorem rnew_good (w : World) (room : Nat) (h : room ≤ 1073741824) : Calls Try.prog 10 #[.int .i64 room] w fun e w' => e = .returned (.tuple #[refV room [], .int .i64 0]) ∧ Below w.heap.size w w' := by
  have j : decide ((room : Int) < 0) = false := decide_eq_false (by omega)
  have j1 : decide ((1073741824 : Int) < room) = false := decide_eq_false (by omega)
  go_enter Try.func10, Try.ntmps10
  go_wp2
  refine bodyPost_ret (v := .tuple #[refV room [], .int .i64 0]) (by simp [results, Try.results10, go_sem, refV, bstr]) rfl ⟨rfl, ?_⟩
  exact (Below.refl _ _).alloc (Nat.le_refl _) _
theorem rcut_bad (w : World) (room : Nat) (bs : List UInt8) (n : Int) (hbad : n < 0 ∨ (bs.length : Nat) < n) :
    Calls Try.prog 16 #[refV room bs, .int .i64 n] w fun e w' => e = .returned (.tuple #[refV room bs, .int .i64 2]) ∧ Below w.heap.size w w' := by
  have hsz := bstr_size bs
  unfold refV
  obtain ⟨s, hs⟩ : ∃ s, bstr bs = s := ⟨_, rfl⟩
  rw [hs] at hsz ⊢
  rw [← hsz] at hbad
  clear hs hsz
  by_cases h0 : n < 0
  · have j : decide (n < 0) = true := decide_eq_true h0
    clear hbad
    go_enter Try.func16, Try.ntmps16
    go_wp2
    refine bodyPost_ret (v := .tuple #[.agg #[.int .i64 room, .string s], .int .i64 2]) (by simp [results, Try.results16, go_sem]) rfl ⟨rfl, ?_⟩
    exact ((Below.refl _ _).alloc (Nat.le_refl _) _).alloc (by simp) _
  · have j : decide (n < 0) = false := decide_eq_false h0
    have h1 : (s.size : Int) < n := by omega
    have j1 : decide ((s.size : Int) < n) = true := decide_eq_true h1
    clear hbad
    go_enter Try.func16, Try.ntmps16
    go_wp2
    refine bodyPost_ret (v := .tuple #[.agg #[.int .i64 room, .string s], .int .i64 2]) (by simp [results, Try.results16, go_sem]) rfl ⟨rfl, ?_⟩
    exact ((Below.refl _ _).alloc (Nat.le_refl _) _).alloc (by simp) _
theorem rcut_good (w : World) (room : Nat) (bs : List UInt8) (n : Nat) (hn : n ≤ bs.length) :
    Calls Try.prog 16 #[refV room bs, .int .i64 n] w fun e w' => e = .returned (.tuple #[refV room (bs.take n), .int .i64 0]) ∧ Below w.heap.size w w' := by
  have HT := Lib.hid (bstr_take bs n)
  have hsz := bstr_size bs
  rw [← hsz] at hn
  unfold refV
  obtain ⟨t, ht⟩ : ∃ t, bstr (bs.take n) = t := ⟨_, rfl⟩
  rw [ht] at HT ⊢
  obtain ⟨s, hs⟩ : ∃ s, bstr bs = s := ⟨_, rfl⟩
  rw [hs] at hn HT ⊢
  clear hs hsz ht
  have j : decide ((n : Int) < 0) = false := decide_eq_false (by omega)
  have j1 : decide ((s.size : Int) < n) = false := decide_eq_false (by omega)
  go_enter Try.func16, Try.ntmps16
  go_wp2
  have hT := HT.out
  refine bodyPost_ret (v := .tuple #[.agg #[.int .i64 room, .string t], .int .i64 0]) (by simp [results, Try.results16, go_sem, hT]) rfl ⟨rfl, ?_⟩
  exact ((Below.refl _ _).alloc (Nat.le_refl _) _).alloc (by simp) _
end Go.Proofs.Ytajfnkboeaflnaa
