/- The document's char and begins. -/
import Derived.Test.YtnlpahdjiddooaaDoorEscBehind
namespace Go.Proofs.YtnlpahdjiddooaaDoor
open Go.RowKit Go.PlainAid
set_option linter.unusedVariables false

def cvR (r : List UInt8) : Nat × Nat := match fB r 256 with | some b => (b, (chL b).length) | none => (0, 0)
theorem pre_raw (s p : ByteArray) : p.size ≤ s.size ∧ ((s.extract 0 p.size).toList == p.toList) = true ↔ LS p <+: LS s := by
  have h := Lib.hasPrefix_raw s p
  have h2 : Lib.hasPrefix s.data.toList p.data.toList = true ↔ LS p <+: LS s := by unfold Lib.hasPrefix; rw [List.isPrefixOf_iff_prefix]; rfl
  rw [← h2, ← h, Bool.and_eq_true, decide_eq_true_eq]
theorem LS_BA (l : List UInt8) : LS (BA l) = l := rfl
theorem fB_step {r : List UInt8} {k : Nat} (h : fB r k = none) (h2 : ¬ chL k <+: r) : fB r (k + 1) = none := by
  unfold fB
  rw [h]
  simp only
  rw [if_neg (fun h3 => h2 (List.isPrefixOf_iff_prefix.1 h3))]
theorem gB_step {r : List UInt8} {k : Nat} (h : gB r k = false) (h2 : ¬ (r.length < (chL k).length ∧ r <+: chL k)) : gB r (k + 1) = false := by
  unfold gB
  rw [h, Bool.false_or, Bool.eq_false_iff]
  intro h3
  rw [Bool.and_eq_true, decide_eq_true_eq, List.isPrefixOf_iff_prefix] at h3
  exact h2 h3
set_option maxHeartbeats 4000000 in
theorem rchar_any (s : ByteArray) (w : World) (hs : s.size ≤ 100000) :
    Calls Tryd.prog 21 #[.string s] w fun e w' => e = .returned (.tuple #[.int .u8 ((cvR (LS s)).1 : Nat), .int .i64 ((cvR (LS s)).2 : Nat)]) ∧ Below w.heap.size w w' := by
  obtain ⟨cv, hcv⟩ : ∃ x, cvR (LS s) = x := ⟨_, rfl⟩
  have HCV := Lib.hid hcv
  rw [hcv]
  clear hcv
  go_enter Tryd.func21, Tryd.ntmps21
  go_wp2
  go_loopw [4] (fun i wr => ∃ k : Nat, k ≤ 256 ∧ i = .int .i64 (k : Int) ∧ fB (LS s) k = none ∧ Below w.heap.size w wr) (fun i _ => 256 - (intOf i).toNat)
  case atStart => exact ⟨0, by omega, rfl, rfl, Below.refl _ _⟩
  case round =>
    obtain ⟨k, hk, rfl, hf, hb⟩ := hrel
    have HF := Lib.hid hf
    have HB := Lib.hid hb
    have hgl := hb.size
    clear hf hb
    by_cases hlt : k < 256
    · have HCH := Lib.hid (refchar_any k wr hlt)
      have hkm : (k : Int) % 256 = (k : Int) := by omega
      have hkm2 : k % 256 = k := by omega
      have h1 : (k : Int) < 256 := by omega
      have HPR := Lib.hid (pre_raw s (BA (chL k)))
      rw [LS_BA] at HPR
      have HSZ := Lib.hid (BA_size (chL k))
      have HC4 := Lib.hid (chL_len k).2
      obtain ⟨cs, hcs⟩ : ∃ x, BA (chL k) = x := ⟨_, rfl⟩
      rw [hcs] at HCH HPR HSZ
      have hcs4 : cs.size ≤ 4 := by rw [HSZ.out]; exact HC4.out
      clear hcs
      go_wp2_with fail
      refine HCH.out.mono ?_
      rintro e w3 ⟨rfl, hb3⟩
      have HB3 := Lib.hid (HB.out.trans (hb3.mono hgl))
      clear hb3 HCH
      by_cases hle : cs.size ≤ s.size
      · have g1 : (cs.size : Int) ≤ (s.size : Int) := by omega
        obtain ⟨eq, heq⟩ : ∃ x, ((s.extract 0 cs.size).toList == cs.toList) = x := ⟨_, rfl⟩
        have HEQ := Lib.hid heq
        cases eq with
        | true =>
          have HE : Hid (cv = (k, cs.size)) := Lib.hid (by
            rw [← HCV.out]
            unfold cvR
            rw [fB_is hlt (HPR.out.1 ⟨hle, HEQ.out⟩), HSZ.out])
          go_wp2
          go_ret2
          exact ⟨by rw [HE.out]; rfl, HB3.out⟩
        | false =>
          have HNX := Lib.hid (fB_step HF.out (fun h => by have := (HPR.out.2 h).2; rw [HEQ.out] at this; cases this))
          go_wp2
          go_roundw
          case rel => exact ⟨k + 1, by omega, by go_num, HNX.out, HB3.out⟩
          case measure => simp [intOf]; omega
      · have g1 : ¬ (cs.size : Int) ≤ (s.size : Int) := by omega
        have HNX := Lib.hid (fB_step HF.out (fun h => hle (HPR.out.2 h).1))
        go_wp2
        go_roundw
        case rel => exact ⟨k + 1, by omega, by go_num, HNX.out, HB3.out⟩
        case measure => simp [intOf]; omega
    · have hk6 : k = 256 := by omega
      subst hk6
      have HE : Hid (cv = (0, 0)) := Lib.hid (by rw [← HCV.out]; unfold cvR; rw [HF.out])
      go_wp2
      go_ret2
      exact ⟨by rw [HE.out]; rfl, HB.out⟩
set_option maxHeartbeats 4000000 in
theorem begins_any (s : ByteArray) (w : World) (hs : s.size ≤ 100000) :
    Calls Tryd.prog 22 #[.string s] w fun e w' => e = .returned (.bool (gB (LS s) 256)) ∧ Below w.heap.size w w' := by
  obtain ⟨cv, hcv⟩ : ∃ x, gB (LS s) 256 = x := ⟨_, rfl⟩
  have HCV := Lib.hid hcv
  have HLL := Lib.hid (LS_len s)
  rw [hcv]
  clear hcv
  go_enter Tryd.func22, Tryd.ntmps22
  go_wp2
  go_loopw [3] (fun i wr => ∃ k : Nat, k ≤ 256 ∧ i = .int .i64 (k : Int) ∧ gB (LS s) k = false ∧ Below w.heap.size w wr) (fun i _ => 256 - (intOf i).toNat)
  case atStart => exact ⟨0, by omega, rfl, rfl, Below.refl _ _⟩
  case round =>
    obtain ⟨k, hk, rfl, hf, hb⟩ := hrel
    have HF := Lib.hid hf
    have HB := Lib.hid hb
    have hgl := hb.size
    clear hf hb
    by_cases hlt : k < 256
    · have HCH := Lib.hid (refchar_any k wr hlt)
      have hkm : (k : Int) % 256 = (k : Int) := by omega
      have hkm2 : k % 256 = k := by omega
      have h1 : (k : Int) < 256 := by omega
      have HPR := Lib.hid (pre_raw (BA (chL k)) s)
      rw [LS_BA] at HPR
      have HSZ := Lib.hid (BA_size (chL k))
      have HC4 := Lib.hid (chL_len k).2
      obtain ⟨cs, hcs⟩ : ∃ x, BA (chL k) = x := ⟨_, rfl⟩
      rw [hcs] at HCH HPR HSZ
      have hcs4 : cs.size ≤ 4 := by rw [HSZ.out]; exact HC4.out
      clear hcs
      go_wp2_with fail
      refine HCH.out.mono ?_
      rintro e w3 ⟨rfl, hb3⟩
      have HB3 := Lib.hid (HB.out.trans (hb3.mono hgl))
      clear hb3 HCH
      by_cases hle : s.size < cs.size
      · have g1 : (s.size : Int) < (cs.size : Int) := by omega
        obtain ⟨eq, heq⟩ : ∃ x, ((cs.extract 0 s.size).toList == s.toList) = x := ⟨_, rfl⟩
        have HEQ := Lib.hid heq
        cases eq with
        | true =>
          have HE : Hid (cv = true) := Lib.hid (by
            rw [← HCV.out]
            exact gB_iff.2 ⟨k, hlt, by rw [HLL.out, ← HSZ.out]; exact hle, HPR.out.1 ⟨by omega, HEQ.out⟩⟩)
          go_wp2
          go_ret
          exact ⟨by rw [HE.out]; rfl, HB3.out⟩
        | false =>
          have HNX := Lib.hid (gB_step HF.out (fun h => by have := (HPR.out.2 h.2).2; rw [HEQ.out] at this; cases this))
          go_wp2
          go_roundw
          case rel => exact ⟨k + 1, by omega, by go_num, HNX.out, HB3.out⟩
          case measure => simp [intOf]; omega
      · have g1 : ¬ (s.size : Int) < (cs.size : Int) := by omega
        have HNX := Lib.hid (gB_step HF.out (fun h => hle (by have := h.1; rw [HLL.out, ← HSZ.out] at this; exact this)))
        go_wp2
        go_roundw
        case rel => exact ⟨k + 1, by omega, by go_num, HNX.out, HB3.out⟩
        case measure => simp [intOf]; omega
    · have hk6 : k = 256 := by omega
      subst hk6
      have HE : Hid (cv = false) := Lib.hid (by rw [← HCV.out]; exact HF.out)
      go_wp2
      go_ret
      exact ⟨by rw [HE.out]; rfl, HB.out⟩
end Go.Proofs.YtnlpahdjiddooaaDoor
