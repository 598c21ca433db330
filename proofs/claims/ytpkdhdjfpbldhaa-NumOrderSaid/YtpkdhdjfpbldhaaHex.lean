import Derived.Test.YtpkdhdjfpbldhaaRead
import Derived.Test.YtpkdhdjfpbldhaaCap
import Derived.Deep.QuietTactic
import Derived.BigQuiet
import Derived.PlainAid
namespace Go.Proofs.Ytpkdhdjfpbldhaa
open Go.RowKit Go.PlainAid

theorem quiet_id {P : Program} {f : FuncId} {args : Array Value} {w : World} {n : Nat} {v : Value}
    (h : Calls P f args (w.drewN n) fun e w' => e = .returned v ∧ w.drewN n = w') : Calls P f args (w.drewN n) fun e w'' => e = .returned v ∧ ∃ m, w'' = w.drewN m :=
  h.mono fun _ _ ⟨he, hm⟩ => ⟨he, n, hm.symm⟩

/-- A digit of sixteen. -/
def hexd (k : Nat) : UInt8 := if k < 10 then UInt8.ofNat (48 + k) else UInt8.ofNat (87 + k)
def hexS (n : Nat) : ByteArray := ⟨#[hexd (n / 16), hexd (n % 16)]⟩
def hexv (c : Int) : Int := if 48 ≤ c ∧ c ≤ 57 then c - 48 else if 97 ≤ c ∧ c ≤ 102 then c - 97 + 10 else -1

theorem table_at : ∀ k, k < 16 → (ByteArray.mk #[48, 49, 50, 51, 52, 53, 54, 55, 56, 57, 97, 98, 99, 100, 101, 102]).extract k (k + 1) = ByteArray.mk #[hexd k] := by
  intro k hk
  have : k = 0 ∨ k = 1 ∨ k = 2 ∨ k = 3 ∨ k = 4 ∨ k = 5 ∨ k = 6 ∨ k = 7 ∨ k = 8 ∨ k = 9 ∨ k = 10 ∨ k = 11 ∨ k = 12 ∨ k = 13 ∨ k = 14 ∨ k = 15 := by omega
  rcases this with h | h | h | h | h | h | h | h | h | h | h | h | h | h | h | h <;> (subst h; rfl)
theorem hexS_eq (n : Nat) (h : n ≤ 255) : (ByteArray.mk #[48, 49, 50, 51, 52, 53, 54, 55, 56, 57, 97, 98, 99, 100, 101, 102]).extract (n / 16) (n / 16 + 1) ++
    (ByteArray.mk #[48, 49, 50, 51, 52, 53, 54, 55, 56, 57, 97, 98, 99, 100, 101, 102]).extract (n % 16) (n % 16 + 1) = hexS n := by
  rw [table_at _ (by omega), table_at _ (by omega)]
  exact ByteArray.mk_append_mk [hexd (n / 16)] [hexd (n % 16)]

theorem hex_any (n : Nat) (w : World) (h : n ≤ 255) :
    Calls Try.prog 18 #[.int .u8 n] w fun e w' => e = .returned (.string (hexS n)) ∧ ∃ k, w' = w.drewN k := by
  have ha : n / 16 ≤ 15 := by omega
  have hb : n % 16 ≤ 15 := by omega
  have hx := hexS_eq n h
  go_enter Try.func18, Try.ntmps18
  go_wp2
  go_quiet (fail)
  go_wp2
  go_ret
  exact ⟨rfl, _, rfl⟩

theorem value_any (n : Int) (w : World) (h0 : 0 ≤ n) (h : n ≤ 255) :
    Calls Try.prog 21 #[.int .u8 n] w fun e w' => e = .returned (.int .i64 (hexv n)) ∧ w = w' := by
  have Hv : Hid (hexv n = if 48 ≤ n ∧ n ≤ 57 then n - 48 else if 97 ≤ n ∧ n ≤ 102 then n - 97 + 10 else -1) := rfl
  go_enter Try.func21, Try.ntmps21
  go_wp2
  all_goals
    go_ret
    refine ⟨ret_int ?_, rfl⟩
    rw [Hv.out]
    (repeat' split) <;> omega

theorem digit_any (n : Int) (w : World) (h0 : 0 ≤ n) (h : n ≤ 15) :
    Calls Try.prog 22 #[.int .i64 n] w fun e w' => e = .returned (.int .u8 (hexd n.toNat).toNat) ∧ w = w' := by
  have Hv : Hid (((hexd n.toNat).toNat : Int) = if n < 10 then 48 + n else 97 + n - 10) := by
    show _ = _
    unfold hexd
    split <;> (rw [UInt8.toNat_ofNat']; split <;> omega)
  by_cases hn : n < 10
  all_goals
    go_enter Try.func22, Try.ntmps22
    go_wp2
    go_ret
    refine ⟨ret_int ?_, rfl⟩
    rw [Hv.out]
    split <;> omega

theorem conv_two (w : World) (x y : UInt8) : (convert 40 9 (.slice (some ⟨w.heap.size, 0, none⟩) 2 2)).run Try.prog (w.alloc (.cells #[.int .u8 x.toNat, .int .u8 y.toNat] 5)) =
    .ok (.string ⟨#[x, y]⟩) (w.alloc (.cells #[.int .u8 x.toNat, .int .u8 y.toNat] 5)) := by
  have h := run_convert_bytes_back (P := Try.prog) (w.alloc (.cells #[.int .u8 x.toNat, .int .u8 y.toNat] 5)) 40 9 5 ⟨w.heap.size, 0, none⟩ 2 [x, y] Try.underlying40 Try.underlying5 Try.underlying9
    (by
      intro j hj
      have : j = 0 ∨ j = 1 := by simp at hj; omega
      rcases this with rfl | rfl
      · rw [show (⟨w.heap.size, 0, none⟩ : Addr).add 0 = ⟨w.heap.size, 0, none⟩ from rfl, cell_new]; rfl
      · rw [show (⟨w.heap.size, 0, none⟩ : Addr).add 1 = ⟨w.heap.size, 1, none⟩ from rfl, cell_new]; rfl)
  exact h

theorem refhex_any (n : Nat) (w : World) (h : n ≤ 255) :
    Calls Try.prog 19 #[.int .u8 n] w fun e w' => e = .returned (.string (hexS n)) ∧ Below w.heap.size w w' := by
  have hcv := conv_two
  go_enter Try.func19, Try.ntmps19
  go_wp2_with (go_at_call 22; refine (digit_any _ _ (by omega) (by omega)).mono ?_; rintro e w' ⟨rfl, rfl⟩)
  go_ret
  exact ⟨rfl, (Below.refl _ _).alloc (Nat.le_refl _) _⟩

def unhexN (s : ByteArray) : Int × Bool := if s.size = 2 ∧ 0 ≤ hexv (bt s 0) ∧ 0 ≤ hexv (bt s 1) then (hexv (bt s 0) * 16 + hexv (bt s 1), true) else (0, false)
def unhexR (s : ByteArray) : Value := .tuple #[.int .u8 (unhexN s).1, .bool (unhexN s).2]
theorem unhexR_no (s : ByteArray) (h : ¬ (s.size = 2 ∧ 0 ≤ hexv (bt s 0) ∧ 0 ≤ hexv (bt s 1))) : Ending.returned (.tuple #[.int .u8 0, .bool false]) = .returned (unhexR s) := by
  unfold unhexR unhexN; rw [if_neg h]
theorem hexv_le (c : Int) : -1 ≤ hexv c ∧ hexv c ≤ 15 := by
  unfold hexv; split
  · omega
  · split <;> omega
theorem or_nib_fin : ∀ (x y : Fin 16), bits .or .i64 ((x.val : Int) * 16) y.val = (x.val : Int) * 16 + y.val := by decide +kernel
theorem or_nib (x y : Nat) (hx : x < 16) (hy : y < 16) : bits .or .i64 ((x : Int) * 16) y = (x : Int) * 16 + y := or_nib_fin ⟨x, hx⟩ ⟨y, hy⟩
theorem unhex_any (s : ByteArray) (w : World) (hs : s.size ≤ maxLen) :
    Calls Try.prog 16 #[.string s] w fun e w' => e = .returned (unhexR s) ∧ ∃ k, w' = w.drewN k := by
  unfold maxLen at hs
  have hbt := get_bt s
  by_cases h2 : s.size = 2
  · have g0 := bt_nonneg s 0
    have g1 := bt_nonneg s 1
    have g2 := bt_le s 0
    have g3 := bt_le s 1
    have k0 := hexv_le (bt s 0)
    have k1 := hexv_le (bt s 1)
    have hl : (1:Int) < (s.size : Int) := by omega
    have hl' : (0:Int) < (s.size : Int) := by omega
    have hm : ((s.size : Int) != 2) = false := by simp [h2]
    have H2 := Lib.hid h2
    clear h2
    by_cases hv0 : hexv (bt s 0) < 0
    · go_enter Try.func16, Try.ntmps16
      go_wp2_with (go_at_call 21; refine (value_any _ _ (by omega) (by omega)).mono ?_; rintro e w' ⟨rfl, rfl⟩)
      go_ret2
      exact ⟨unhexR_no s (by omega), 0, rfl⟩
    · by_cases hv1 : hexv (bt s 1) < 0
      · go_enter Try.func16, Try.ntmps16
        go_wp2_with (go_at_call 21; refine (value_any _ _ (by omega) (by omega)).mono ?_; rintro e w' ⟨rfl, rfl⟩)
        go_ret2
        exact ⟨unhexR_no s (by omega), 0, rfl⟩
      · have Hr : Hid (Value.tuple #[.int .u8 (hexv (bt s 0) * 16 + hexv (bt s 1)), .bool true] = unhexR s) := by
          show _ = _
          unfold unhexR unhexN; rw [if_pos ⟨H2.out, by omega, by omega⟩]
        obtain ⟨x, hx⟩ : ∃ x : Nat, hexv (bt s 0) = x := ⟨(hexv (bt s 0)).toNat, by omega⟩
        obtain ⟨y, hy⟩ : ∃ y : Nat, hexv (bt s 1) = y := ⟨(hexv (bt s 1)).toNat, by omega⟩
        go_enter Try.func16, Try.ntmps16
        go_wp2_with (go_at_call 21; refine (value_any _ _ (by omega) (by omega)).mono ?_; rintro e w' ⟨rfl, rfl⟩)
        go_quiet ((go_at_call 21; exact quiet_id (value_any _ _ (by omega) (by omega))))
        go_wp2
        go_ret2
        refine ⟨?_, nq, rfl⟩
        rw [← Hr.out, hx, hy]
        show Ending.returned (.tuple #[.int .u8 (bits .or .i64 ((x : Int) * 16) y % 256), .bool true]) = _
        rw [or_nib x y (by omega) (by omega)]
        have : ((x : Int) * 16 + y) % 256 = x * 16 + y := by omega
        rw [this]
  · have hm : ((s.size : Int) != 2) = true := by rw [bne_iff_ne]; omega
    have H2 := Lib.hid h2
    clear h2
    go_enter Try.func16, Try.ntmps16
    go_wp2
    go_ret2
    exact ⟨unhexR_no s (fun h => H2.out h.1), 0, rfl⟩

/-- The byte of two digits, and back. -/
theorem hexv_hexd_fin : ∀ k : Fin 16, hexv ((hexd k.val).toNat : Int) = k.val := by decide +kernel
theorem hexv_hexd (k : Nat) (h : k < 16) : hexv ((hexd k).toNat : Int) = k := hexv_hexd_fin ⟨k, h⟩
theorem hexd_hexv_all : ∀ c : Fin 256, 0 ≤ hexv (c.val : Int) → (hexd (hexv (c.val : Int)).toNat).toNat = c.val := by decide +kernel
theorem hexd_hexv (c : UInt8) (h : 0 ≤ hexv (c.toNat : Int)) : hexd (hexv (c.toNat : Int)).toNat = c :=
  UInt8.toNat_inj.1 (hexd_hexv_all ⟨c.toNat, c.toNat_lt⟩ h)
theorem bt_hexS (n : Nat) : bt (hexS n) 0 = ((hexd (n / 16)).toNat : Int) ∧ bt (hexS n) 1 = ((hexd (n % 16)).toNat : Int) := ⟨(get_bt (hexS n) 0 (by show 0 < 2; omega)).symm, (get_bt (hexS n) 1 (by show 1 < 2; omega)).symm⟩
theorem unhex_hexS (n : Nat) (h : n ≤ 255) : unhexN (hexS n) = ((n : Int), true) := by
  have hb := bt_hexS n
  have h0 := hexv_hexd (n / 16) (by omega)
  have h1 := hexv_hexd (n % 16) (by omega)
  unfold unhexN
  rw [hb.1, hb.2, h0, h1, if_pos ⟨rfl, by omega, by omega⟩]
  have : ((n / 16 : Nat) : Int) * 16 + ((n % 16 : Nat) : Int) = n := by omega
  rw [this]
theorem hexS_unhex (s : ByteArray) (h : s.size = 2 ∧ 0 ≤ hexv (bt s 0) ∧ 0 ≤ hexv (bt s 1)) : ∃ n : Nat, n ≤ 255 ∧ hexS n = s := by
  obtain ⟨h2, h0, h1⟩ := h
  have k0 := hexv_le (bt s 0)
  have k1 := hexv_le (bt s 1)
  refine ⟨(hexv (bt s 0)).toNat * 16 + (hexv (bt s 1)).toNat, by omega, ?_⟩
  have e0 : ((hexv (bt s 0)).toNat * 16 + (hexv (bt s 1)).toNat) / 16 = (hexv (bt s 0)).toNat := by omega
  have e1 : ((hexv (bt s 0)).toNat * 16 + (hexv (bt s 1)).toNat) % 16 = (hexv (bt s 1)).toNat := by omega
  unfold hexS
  rw [e0, e1]
  rw [← get_bt s 0 (by omega)] at h0 ⊢
  rw [← get_bt s 1 (by omega)] at h1 ⊢
  rw [hexd_hexv _ h0, hexd_hexv _ h1]
  apply ByteArray.ext
  apply Array.ext
  · show 2 = s.data.size; exact h2.symm
  · intro i hi _
    have : i = 0 ∨ i = 1 := by have : i < 2 := hi; omega
    rcases this with rfl | rfl <;> rfl
theorem unhexN_hit (s : ByteArray) (n : Nat) (h : n ≤ 255) (hs : hexS n = s) : unhexR s = .tuple #[.int .u8 n, .bool true] := by
  subst hs; unfold unhexR; rw [unhex_hexS n h]
theorem unhexN_miss (s : ByteArray) (h : ∀ n, n < 256 → hexS n ≠ s) : Ending.returned (.tuple #[.int .u8 0, .bool false]) = .returned (unhexR s) :=
  unhexR_no s fun hc => by obtain ⟨n, hn, e⟩ := hexS_unhex s hc; exact h n (by omega) e

theorem toList_beq (a b : ByteArray) : (a.toList == b.toList) = decide (a = b) := by
  rw [ByteArray.toList_eq, ByteArray.toList_eq]
  by_cases h : a = b
  · subst h; simp
  · have : a.data ≠ b.data := fun e => h (ByteArray.ext e)
    simp [h, this]

set_option maxRecDepth 100000 in
theorem refunhex_any (s : ByteArray) (w : World) :
    Calls Try.prog 17 #[.string s] w fun e w' => e = .returned (unhexR s) ∧ Below w.heap.size w w' := by
  go_enter Try.func17, Try.ntmps17
  go_wp2
  go_loopw [4] (fun i wr => ∃ k : Nat, k ≤ 256 ∧ i = .int .i64 k ∧ (∀ n, n < k → hexS n ≠ s) ∧ Below w.heap.size w wr) (fun i _ => 256 - (intOf i).toNat)
  case atStart => exact ⟨0, by omega, rfl, by omega, Below.refl _ _⟩
  case round =>
    obtain ⟨k, hk, rfl, hno, hb⟩ := hrel
    have Hno := Lib.hid hno
    clear hno
    by_cases hlt : k < 256
    · by_cases he : hexS k = s
      · have het : ((hexS k).toList == s.toList) = true := by rw [toList_beq]; simpa using he
        have Hr := Lib.hid (unhexN_hit s k (by omega) he)
        clear he
        go_wp2_with (go_at_call 19; refine (refhex_any _ _ (by omega)).mono ?_; rintro e w' ⟨rfl, hb2⟩)
        go_ret2
        exact ⟨by rw [Hr.out]; rfl, hb.trans (hb2.mono hb.size)⟩
      · have het : ((hexS k).toList == s.toList) = false := by rw [toList_beq]; simpa using he
        have Hno' : Hid (∀ n, n < k + 1 → hexS n ≠ s) := by
          intro n hn
          rcases Nat.lt_or_ge n k with h | h
          · exact Hno.out n h
          · have : n = k := by omega
            subst this; exact he
        clear he
        go_wp2_with (go_at_call 19; refine (refhex_any _ _ (by omega)).mono ?_; rintro e w' ⟨rfl, hb2⟩)
        go_roundw
        case rel => exact ⟨k + 1, by omega, by go_num, Hno'.out, hb.trans (hb2.mono hb.size)⟩
        case measure => simp [intOf]; omega
    · have Hk : Hid (k = 256) := by show k = 256; omega
      go_wp2
      go_ret2
      exact ⟨unhexN_miss s (by rw [← Hk.out]; exact Hno.out), hb⟩
end Go.Proofs.Ytpkdhdjfpbldhaa
