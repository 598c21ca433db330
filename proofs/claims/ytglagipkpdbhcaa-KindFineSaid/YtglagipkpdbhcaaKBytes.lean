import Derived.Test.YtglagipkpdbhcaaWidth
import Derived.Test.YtglagipkpdbhcaaAppend
namespace Go.Proofs.Ytglagipkpdbhcaa
open Go.RowKit Go.Sort

/-- The bytes of class c, below n. -/
def bytesC (C : Nat → Nat) (c : Int) : Nat → List Nat
  | 0 => []
  | n + 1 => bytesC C c n ++ if (C n : Int) = c then [n] else []
theorem bytesC_len (C : Nat → Nat) (c : Int) : ∀ n, (bytesC C c n).length ≤ n
  | 0 => by simp [bytesC]
  | n + 1 => by have := bytesC_len C c n; simp only [bytesC]; split <;> simp <;> omega
def vals (l : List Nat) : List Value := l.map fun (n : Nat) => Value.int .u8 (n : Int)
theorem vals_snoc (l : List Nat) (k : Nat) : vals l ++ [.int .u8 k] = vals (l ++ [k]) := by simp [vals]

theorem bytesC_yes (C : Nat → Nat) (c : Int) (k : Nat) (h : (C k : Int) = c) : bytesC C c (k + 1) = bytesC C c k ++ [k] := by simp [bytesC, h]
theorem bytesC_no (C : Nat → Nat) (c : Int) (k : Nat) (h : ¬ (C k : Int) = c) : bytesC C c (k + 1) = bytesC C c k := by simp [bytesC, h]
set_option maxRecDepth 100000 in
theorem bytes_any (C : Nat → Nat) (hC : ∀ i, i < 256 → C i < 256) (c : Int) (w : World) :
    Calls Try.prog 13 #[.agg (arrC C), .int .i64 c] w fun e w' => ∃ v, e = .returned v ∧ w'.ownsRow w.heap.size 5 1 v (bytesC C c 256).length (vals (bytesC C c 256)) ∧ Below w.heap.size w w' := by
  obtain ⟨i0, hi, hz0, hz1, hz2⟩ := info_parts infoU8
  go_enter Try.func13, Try.ntmps13
  go_wp2
  go_loopw [5, 7] (fun v i wr => ∃ k : Nat, k ≤ 256 ∧ i = .int .i64 k ∧ wr.ownsRow (w.heap.size + 1) 5 1 v (bytesC C c k).length (vals (bytesC C c k)) ∧ Below (w.heap.size + 1) (w.alloc (.cells (arrC C) 24)) wr) (fun _ i _ => 256 - (intOf i).toNat)
  case atStart => exact ⟨0, by omega, rfl, World.ownsRow_nil _ _ _ _, Below.refl _ _⟩
  case round =>
    obtain ⟨k, hk, rfl, hown, hb⟩ := hrel
    have hsz : w.heap.size + 1 ≤ wr.heap.size := by have := hb.size; simpa using this
    by_cases hlt : k < 256
    · have hcell : wr.cell? ⟨w.heap.size, k, none⟩ = some (.int .u8 (C k)) := (hb.cell (p := ⟨w.heap.size, k, none⟩) (by show w.heap.size < _; omega)).trans (arr_cells w C _ k hlt)
      have hc := hC k hlt
      by_cases heq : (C k : Int) = c
      · have heq' : ((C k : Int) == c) = true := by simp [heq]
        have Hb := Lib.hid (bytesC_yes C c k heq)
        have hl := bytesC_len C c k
        have hA := Lib.hid fun ops rest o a Q hg s x ho hs hx h => app1 (P := Try.prog) (T := 34) Try.underlying34 hi hz0 hz1 hz2 rfl hown (u := .int .u8 k) rfl (by unfold maxLen; omega) (by omega) hsz ops rest o a Q hg s x ho hs hx h
        obtain ⟨z, hz⟩ : ∃ z, C k = z := ⟨_, rfl⟩
        rw [hz] at hcell heq' hc
        clear heq hz
        go_wp2_with (at_builtin; refine hA.out _ _ _ _ _ rfl _ _ rfl rfl rfl ?_; intro v' w1 hown1 hg1)
        have hb1 := app1_below hb hsz hown hg1
        go_roundw
        case rel => exact ⟨k + 1, by omega, by go_num, by rw [Hb.out, ← vals_snoc, List.length_append]; exact hown1, hb1⟩
        case measure => simp [intOf]; omega
      · have heq' : ((C k : Int) == c) = false := by simp [heq]
        have Hb := Lib.hid (bytesC_no C c k heq)
        obtain ⟨z, hz⟩ : ∃ z, C k = z := ⟨_, rfl⟩
        rw [hz] at hcell heq' hc
        clear heq hz
        go_wp2
        go_roundw
        case rel => exact ⟨k + 1, by omega, by go_num, by rw [Hb.out]; exact hown, hb⟩
        case measure => simp [intOf]; omega
    · have Hk : Hid (k = 256) := by show k = 256; omega
      go_wp2
      go_ret
      have hown' := hown
      rw [Hk.out] at hown'
      exact ⟨_, rfl, own_mono hown' (by omega), ((Below.refl _ _).alloc (Nat.le_refl _) _).trans (hb.mono (by omega))⟩
set_option maxRecDepth 100000 in
theorem refbytes_any (C : Nat → Nat) (hC : ∀ i, i < 256 → C i < 256) (c : Int) (w : World) :
    Calls Try.prog 17 #[.agg (arrC C), .int .i64 c] w fun e w' => ∃ v, e = .returned v ∧ w'.ownsRow w.heap.size 5 1 v (bytesC C c 256).length (vals (bytesC C c 256)) ∧ Below w.heap.size w w' := by
  obtain ⟨i0, hi, hz0, hz1, hz2⟩ := info_parts infoU8
  have h0 : w.heap.size + 1 ≤ (w.alloc (.cells (arrC C) 24)).heap.size := by simp
  have hm := World.ownsRow_made (base := w.heap.size + 1) (e := 5) (size := 1) (w.alloc (.cells (arrC C) 24)) #[] 0 h0 (by decide) rfl
  have hs : (w.alloc (.cells (arrC C) 24)).heap.size = w.heap.size + 1 := by simp
  rw [hs] at hm
  have Hm := Lib.hid hm
  clear hm hs
  go_enter Try.func17, Try.ntmps17
  go_wp2
  go_loopw [5, 6] (fun v i wr => ∃ k : Nat, k ≤ 256 ∧ i = .int .i64 k ∧ wr.ownsRow (w.heap.size + 1) 5 1 v (bytesC C c k).length (vals (bytesC C c k)) ∧ Below (w.heap.size + 1) (w.alloc (.cells (arrC C) 24)) wr) (fun _ i _ => 256 - (intOf i).toNat)
  case atStart => exact ⟨0, by omega, rfl, Hm.out, (Below.refl _ _).alloc h0 _⟩
  case round =>
    obtain ⟨k, hk, rfl, hown, hb⟩ := hrel
    have hsz : w.heap.size + 1 ≤ wr.heap.size := by have := hb.size; simpa using this
    by_cases hlt : k < 256
    · have hcell : wr.cell? ⟨w.heap.size, k, none⟩ = some (.int .u8 (C k)) := (hb.cell (p := ⟨w.heap.size, k, none⟩) (by show w.heap.size < _; omega)).trans (arr_cells w C _ k hlt)
      have hc := hC k hlt
      by_cases heq : (C k : Int) = c
      · have heq' : ((C k : Int) == c) = true := by simp [heq]
        have Hb := Lib.hid (bytesC_yes C c k heq)
        have hl := bytesC_len C c k
        have hA := Lib.hid fun ops rest o a Q hg s x ho hs hx h => app1 (P := Try.prog) (T := 34) Try.underlying34 hi hz0 hz1 hz2 rfl hown (u := .int .u8 k) rfl (by unfold maxLen; omega) (by omega) hsz ops rest o a Q hg s x ho hs hx h
        obtain ⟨z, hz⟩ : ∃ z, C k = z := ⟨_, rfl⟩
        rw [hz] at hcell heq' hc
        clear heq hz
        go_wp2_with (at_builtin; refine hA.out _ _ _ _ _ rfl _ _ rfl rfl rfl ?_; intro v' w1 hown1 hg1)
        have hb1 := app1_below hb hsz hown hg1
        go_roundw
        case rel => exact ⟨k + 1, by omega, by go_num, by rw [Hb.out, ← vals_snoc, List.length_append]; exact hown1, hb1⟩
        case measure => simp [intOf]; omega
      · have heq' : ((C k : Int) == c) = false := by simp [heq]
        have Hb := Lib.hid (bytesC_no C c k heq)
        obtain ⟨z, hz⟩ : ∃ z, C k = z := ⟨_, rfl⟩
        rw [hz] at hcell heq' hc
        clear heq hz
        go_wp2
        go_roundw
        case rel => exact ⟨k + 1, by omega, by go_num, by rw [Hb.out]; exact hown, hb⟩
        case measure => simp [intOf]; omega
    · have Hk : Hid (k = 256) := by show k = 256; omega
      go_wp2
      go_ret
      have hown' := hown
      rw [Hk.out] at hown'
      exact ⟨_, rfl, own_mono hown' (by omega), ((Below.refl _ _).alloc (Nat.le_refl _) _).trans (hb.mono (by omega))⟩
end Go.Proofs.Ytglagipkpdbhcaa
