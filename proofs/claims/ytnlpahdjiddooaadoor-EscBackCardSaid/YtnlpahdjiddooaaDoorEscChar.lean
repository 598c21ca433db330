/- A byte as it stands between quotes. -/
import Derived.Test.YtnlpahdjiddooaaDoorEscHex
namespace Go.Proofs.YtnlpahdjiddooaaDoor
open Go.RowKit Go.PlainAid
set_option linter.unusedVariables false

/-- What stands behind a backslash; what for. -/
def T0 (i : Nat) : Nat := [110, 116, 114, 34, 92].getD i 0
def T1 (i : Nat) : Nat := [10, 9, 13, 34, 92].getD i 0
def cu8 (n : Nat) : UInt8 := UInt8.ofNat n
/-- The bytes of a byte between quotes. -/
def chL (b : Nat) : List UInt8 :=
  if b = 10 then [92, 110] else if b = 9 then [92, 116] else if b = 13 then [92, 114] else if b = 34 then [92, 34] else if b = 92 then [92, 92]
  else if 32 ≤ b ∧ b ≤ 126 then [cu8 b] else [92, 120, hexd (b / 16), hexd (b % 16)]
def BA (l : List UInt8) : ByteArray := ⟨l.toArray⟩
theorem BA_app (l m : List UInt8) : BA l ++ BA m = BA (l ++ m) := ByteArray.mk_append_mk l m
theorem BA_size (l : List UInt8) : (BA l).size = l.length := by simp [BA, ByteArray.size]
theorem chL_tab : ∀ i, i < 5 → chL (T1 i) = [92, cu8 (T0 i)] := by decide +kernel
theorem T1_lt : ∀ i, i < 5 → T1 i < 256 ∧ T0 i < 256 := by decide
theorem chL_plain {b : Nat} (h : ∀ i, i < 5 → T1 i ≠ b) (h1 : 32 ≤ b) (h2 : b ≤ 126) : chL b = [cu8 b] := by
  have a0 := h 0 (by omega); have a1 := h 1 (by omega); have a2 := h 2 (by omega); have a3 := h 3 (by omega); have a4 := h 4 (by omega)
  simp only [T1, List.getD, List.getElem?_cons_zero, List.getElem?_cons_succ, Option.getD] at a0 a1 a2 a3 a4
  unfold chL
  rw [if_neg (Ne.symm a0), if_neg (Ne.symm a1), if_neg (Ne.symm a2), if_neg (Ne.symm a3), if_neg (Ne.symm a4), if_pos ⟨h1, h2⟩]
theorem chL_hex {b : Nat} (h : ∀ i, i < 5 → T1 i ≠ b) (h1 : ¬ (32 ≤ b ∧ b ≤ 126)) : chL b = [92, 120, hexd (b / 16), hexd (b % 16)] := by
  have a0 := h 0 (by omega); have a1 := h 1 (by omega); have a2 := h 2 (by omega); have a3 := h 3 (by omega); have a4 := h 4 (by omega)
  simp only [T1, List.getD, List.getElem?_cons_zero, List.getElem?_cons_succ, Option.getD] at a0 a1 a2 a3 a4
  unfold chL
  rw [if_neg (Ne.symm a0), if_neg (Ne.symm a1), if_neg (Ne.symm a2), if_neg (Ne.symm a3), if_neg (Ne.symm a4), if_neg h1]
theorem hex_app (b : Nat) : (⟨#[92, 120]⟩ : ByteArray) ++ hexS b = BA [92, 120, hexd (b / 16), hexd (b % 16)] := ByteArray.mk_append_mk [92, 120] [hexd (b / 16), hexd (b % 16)]
theorem u8_nat {n : Nat} (h : n < 256) : (cu8 n).toNat = n := by unfold cu8; rw [UInt8.toNat_ofNat']; omega
theorem conv_one (w : World) (x : UInt8) : (convert 35 9 (.slice (some ⟨w.heap.size, 0, none⟩) 1 1)).run Tryd.prog (w.alloc (.cells #[.int .u8 x.toNat] 5)) =
    .ok (.string ⟨#[x]⟩) (w.alloc (.cells #[.int .u8 x.toNat] 5)) :=
  run_convert_bytes_back (P := Tryd.prog) (w.alloc (.cells #[.int .u8 x.toNat] 5)) 35 9 5 ⟨w.heap.size, 0, none⟩ 1 [x] Tryd.underlying35 Tryd.underlying5 Tryd.underlying9
    (by
      intro j hj
      have : j = 0 := by simp at hj; omega
      subst this
      rw [show (⟨w.heap.size, 0, none⟩ : Addr).add 0 = ⟨w.heap.size, 0, none⟩ from rfl, cell_new]; rfl)
/-- The table of package esc. -/
def TabS (w : World) : Prop := ∀ i, i < 5 → w.cell? ⟨0, i * 2, none⟩ = some (.int .u8 (T0 i : Int)) ∧ w.cell? ⟨0, i * 2 + 1, none⟩ = some (.int .u8 (T1 i : Int))
theorem TabS.below {w w' : World} (h : TabS w) (hb : Below w.heap.size w w') : TabS w' := fun i hi =>
  ⟨(hb.cell (p := ⟨0, i * 2, none⟩) (World.block_lt_of_cell? w _ (h i hi).1)).trans (h i hi).1, (hb.cell (p := ⟨0, i * 2 + 1, none⟩) (World.block_lt_of_cell? w _ (h i hi).2)).trans (h i hi).2⟩
set_option maxHeartbeats 1000000 in
theorem char_any (b : Nat) (w : World) (hb : b < 256) (hT : TabS w) :
    Calls Tryd.prog 7 #[.int .u8 (b : Int)] w fun e w' => e = .returned (.string (BA (chL b))) ∧ Below w.heap.size w w' := by
  have HT := Lib.hid hT
  have HX := Lib.hid (hex_any b w (by omega))
  clear hT
  go_enter Tryd.func7, Tryd.ntmps7
  go_wp2
  go_loop [4] (fun i => ∃ k : Nat, k ≤ 5 ∧ i = .int .i64 (k : Int) ∧ ∀ j, j < k → T1 j ≠ b) (fun i => 5 - (intOf i).toNat)
  case atStart => exact ⟨0, by omega, rfl, by omega⟩
  case round =>
    obtain ⟨k, hk, rfl, hall⟩ := hrel
    have HA := Lib.hid hall
    clear hall
    by_cases hlt : k < 5
    · have hc := HT.out k hlt
      have ht := T1_lt k hlt
      have HCH := Lib.hid (chL_tab k hlt)
      have HT1 : Hid (T1 k = b → chL b = [92, cu8 (T0 k)]) := Lib.hid fun h => by rw [← h]; exact HCH.out
      have HNX : Hid (T1 k ≠ b → ∀ j, j < k + 1 → T1 j ≠ b) := Lib.hid fun h j hj => by
        rcases Nat.lt_or_ge j k with h1 | h1
        · exact HA.out j h1
        · have : j = k := by omega
          subst this; exact h
      obtain ⟨t1, ht1⟩ : ∃ x, T1 k = x := ⟨_, rfl⟩
      obtain ⟨t0, ht0⟩ : ∃ x, T0 k = x := ⟨_, rfl⟩
      rw [ht1] at hc ht HT1 HNX
      rw [ht0] at hc ht HT1
      obtain ⟨c0, c1⟩ := hc
      have h1 : (k : Int) < 5 := by omega
      have h0 : (0 : Int) ≤ (k : Int) := by omega
      clear ht1 ht0 HCH HA
      by_cases he : t1 = b
      · subst he
        have HE := Lib.hid (HT1.out rfl)
        have hcv := conv_two w 92 (cu8 t0)
        rw [show (((92 : UInt8).toNat : Nat) : Int) = 92 from rfl, u8_nat ht.2] at hcv
        clear HT1 HNX
        go_wp2
        go_ret
        exact ⟨by rw [HE.out]; rfl, (Below.refl _ _).alloc (Nat.le_refl _) _⟩
      · have e1 : ((t1 : Int) == (b : Int)) = false := by simp; omega
        have HN := Lib.hid (HNX.out he)
        clear he HNX HT1
        go_wp2
        go_round
        case rel => exact ⟨k + 1, by omega, by go_num, HN.out⟩
        case measure => simp [intOf]; omega
    · have hk5 : k = 5 := by omega
      subst hk5
      by_cases hp : 32 ≤ b ∧ b ≤ 126
      · have HE := Lib.hid (chL_plain HA.out hp.1 hp.2)
        have hcv := conv_one w (cu8 b)
        rw [u8_nat hb] at hcv
        have p1 : ¬ (b : Int) < 32 := by omega
        have p2 : ¬ (126 : Int) < (b : Int) := by omega
        clear hp
        go_wp2
        go_ret
        exact ⟨by rw [HE.out]; rfl, (Below.refl _ _).alloc (Nat.le_refl _) _⟩
      · have HE := Lib.hid (chL_hex HA.out hp)
        have HAP := Lib.hid (hex_app b)
        have p1 : (b : Int) < 32 ∨ (¬ (b : Int) < 32 ∧ (126 : Int) < (b : Int)) := by omega
        clear hp
        rcases p1 with p1 | ⟨p1, p2⟩
        all_goals
          go_wp2_with fail
          refine HX.out.mono ?_
          rintro e w1 ⟨rfl, q, hw1⟩
          have HB : Hid (Below w.heap.size w w1) := Lib.hid (by rw [hw1]; exact ⟨rfl, rfl, rfl, Nat.le_refl _, fun _ _ => rfl⟩)
          clear hw1
          go_wp2
          go_ret
          exact ⟨by rw [HE.out, ← HAP.out]; rfl, HB.out⟩
set_option maxHeartbeats 1000000 in
theorem refchar_any (b : Nat) (w : World) (hb : b < 256) :
    Calls Tryd.prog 8 #[.int .u8 (b : Int)] w fun e w' => e = .returned (.string (BA (chL b))) ∧ Below w.heap.size w w' := by
  have HX := Lib.hid (refhex_any b w (by omega))
  by_cases h10 : b = 10
  · subst h10
    go_enter Tryd.func8, Tryd.ntmps8
    go_wp2
    go_ret
    exact ⟨rfl, Below.refl _ _⟩
  by_cases h9 : b = 9
  · subst h9
    go_enter Tryd.func8, Tryd.ntmps8
    go_wp2
    go_ret
    exact ⟨rfl, Below.refl _ _⟩
  by_cases h13 : b = 13
  · subst h13
    go_enter Tryd.func8, Tryd.ntmps8
    go_wp2
    go_ret
    exact ⟨rfl, Below.refl _ _⟩
  by_cases h34 : b = 34
  · subst h34
    have hcv := conv_two w 92 34
    rw [show (((92 : UInt8).toNat : Nat) : Int) = 92 from rfl, show (((34 : UInt8).toNat : Nat) : Int) = 34 from rfl] at hcv
    go_enter Tryd.func8, Tryd.ntmps8
    go_wp2
    go_ret
    exact ⟨rfl, (Below.refl _ _).alloc (Nat.le_refl _) _⟩
  by_cases h92 : b = 92
  · subst h92
    have hcv := conv_two w 92 92
    rw [show (((92 : UInt8).toNat : Nat) : Int) = 92 from rfl] at hcv
    go_enter Tryd.func8, Tryd.ntmps8
    go_wp2
    go_ret
    exact ⟨rfl, (Below.refl _ _).alloc (Nat.le_refl _) _⟩
  have hall : ∀ i, i < 5 → T1 i ≠ b := by
    intro i hi
    have : i = 0 ∨ i = 1 ∨ i = 2 ∨ i = 3 ∨ i = 4 := by omega
    rcases this with rfl | rfl | rfl | rfl | rfl <;> simp [T1] <;> omega
  have e10 : ((b : Int) == 10) = false := by simp; omega
  have e9 : ((b : Int) == 9) = false := by simp; omega
  have e13 : ((b : Int) == 13) = false := by simp; omega
  have e34 : ((b : Int) == 34) = false := by simp; omega
  have e92 : ((b : Int) == 92) = false := by simp; omega
  by_cases hp : 32 ≤ b ∧ b ≤ 126
  · have HE := Lib.hid (chL_plain hall hp.1 hp.2)
    have hcv := conv_one w (cu8 b)
    rw [u8_nat hb] at hcv
    have p1 : (32 : Int) ≤ (b : Int) := by omega
    have p2 : (b : Int) ≤ 126 := by omega
    clear hp hall h10 h9 h13 h34 h92
    go_enter Tryd.func8, Tryd.ntmps8
    go_wp2
    go_ret
    exact ⟨by rw [HE.out]; rfl, (Below.refl _ _).alloc (Nat.le_refl _) _⟩
  · have HE := Lib.hid (chL_hex hall hp)
    have HAP := Lib.hid (hex_app b)
    have p1 : ¬ (32 : Int) ≤ (b : Int) ∨ ((32 : Int) ≤ (b : Int) ∧ ¬ (b : Int) ≤ 126) := by omega
    clear hp hall h10 h9 h13 h34 h92
    rcases p1 with p1 | ⟨p1, p2⟩
    all_goals
      go_enter Tryd.func8, Tryd.ntmps8
      go_wp2_with fail
      refine HX.out.mono ?_
      rintro e w1 ⟨rfl, hb1⟩
      have HB := Lib.hid hb1
      clear hb1
      go_wp2
      go_ret
      exact ⟨by rw [HE.out, ← HAP.out]; rfl, HB.out⟩
end Go.Proofs.YtnlpahdjiddooaaDoor
