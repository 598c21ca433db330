/- Digits of sixteen: the program's, and the document's. -/
import Derived.Test.YtnlpahdjiddooaaDoorEscBuild
import Derived.Deep.QuietTactic
import Derived.BigQuiet
import Derived.PlainAid
namespace Go.Proofs.YtnlpahdjiddooaaDoor
open Go.RowKit Go.PlainAid
set_option linter.unusedVariables false

theorem cell_new (w : World) (C : Array Value) (t : TypeId) (j : Nat) : (w.alloc (.cells C t)).cell? ⟨w.heap.size, j, none⟩ = C[j]? :=
  World.cell?_alloc_mark w C t (0, 0) j
theorem ret_int {k : IntKind} {a b : Int} (h : a = b) : Ending.returned (.int k a) = .returned (.int k b) := by rw [h]
theorem ret_bool {a b : Bool} (h : a = b) : Ending.returned (.bool a) = .returned (.bool b) := by rw [h]
theorem quiet_id {P : Program} {f : FuncId} {args : Array Value} {w : World} {n : Nat} {v : Value}
    (h : Calls P f args (w.drewN n) fun e w' => e = .returned v ∧ w.drewN n = w') : Calls P f args (w.drewN n) fun e w'' => e = .returned v ∧ ∃ m, w'' = w.drewN m :=
  h.mono fun _ _ ⟨he, hm⟩ => ⟨he, n, hm.symm⟩

/-- A digit of sixteen. -/
def hexd (k : Nat) : UInt8 := if k < 10 then UInt8.ofNat (48 + k) else UInt8.ofNat (87 + k)
def hexS (n : Nat) : ByteArray := ⟨#[hexd (n / 16), hexd (n % 16)]⟩
def hexv (c : Int) : Int := if 48 ≤ c ∧ c ≤ 57 then c - 48 else if 97 ≤ c ∧ c ≤ 102 then c - 97 + 10 else -1

theorem table_at : ∀ k, k < 16 → (ByteArray.mk #[48, 49, 50, 51, 52, 53, 54, 55, 56, 57, 97, 98, 99, 100, 101, 102]).extract k (k + 1) = ByteArray.mk #[hexd k] := by
  intro k hk
  have : k = 0 ∨ k = 1 ∨ k = 2 ∨ k = 3 ∨ k = 4 ∨ k = 5 ∨ k = 6 ∨ k = 7 ∨ k = 8 ∨ k = 9 ∨ k = 10 ∨ k = 11 ∨ k = 12 ∨ k = 13 ∨ k = 14 ∨ k = 15 := by omega
  rcases this with h | h | h | h | h | h | h | h | h | h | h | h | h | h | h | h <;> (subst h; rfl)
theorem hexS_eq (n : Nat) (h : n ≤ 255) : (ByteArray.mk #[48, 49, 50, 51, 52, 53, 54, 55, 56, 57, 97, 98, 99, 100, 101, 102]).extract (n / 16) (n / 16 + 1) ++
    (ByteArray.mk #[48, 49, 50, 51, 52, 53, 54, 55, 56, 57, 97, 98, 99, 100, 101, 102]).extract (n % 16) (n % 16 + 1) = hexS n := by
  rw [table_at _ (by omega), table_at _ (by omega)]
  exact ByteArray.mk_append_mk [hexd (n / 16)] [hexd (n % 16)]

theorem hex_any (n : Nat) (w : World) (h : n ≤ 255) :
    Calls Tryd.prog 15 #[.int .u8 n] w fun e w' => e = .returned (.string (hexS n)) ∧ ∃ k, w' = w.drewN k := by
  have ha : n / 16 ≤ 15 := by omega
  have hb : n % 16 ≤ 15 := by omega
  have hx := hexS_eq n h
  go_enter Tryd.func15, Tryd.ntmps15
  go_wp2
  go_quiet (fail)
  go_wp2
  go_ret
  exact ⟨rfl, _, rfl⟩

theorem value_any (n : Int) (w : World) (h0 : 0 ≤ n) (h : n ≤ 255) :
    Calls Tryd.prog 28 #[.int .u8 n] w fun e w' => e = .returned (.int .i64 (hexv n)) ∧ w = w' := by
  have Hv : Hid (hexv n = if 48 ≤ n ∧ n ≤ 57 then n - 48 else if 97 ≤ n ∧ n ≤ 102 then n - 97 + 10 else -1) := rfl
  go_enter Tryd.func28, Tryd.ntmps28
  go_wp2
  all_goals
    go_ret
    refine ⟨ret_int ?_, rfl⟩
    rw [Hv.out]
    (repeat' split) <;> omega

theorem digit_any (n : Int) (w : World) (h0 : 0 ≤ n) (h : n ≤ 15) :
    Calls Tryd.prog 23 #[.int .i64 n] w fun e w' => e = .returned (.int .u8 (hexd n.toNat).toNat) ∧ w = w' := by
  have Hv : Hid (((hexd n.toNat).toNat : Int) = if n < 10 then 48 + n else 97 + n - 10) := by
    show _ = _
    unfold hexd
    split <;> (rw [UInt8.toNat_ofNat']; split <;> omega)
  by_cases hn : n < 10
  all_goals
    go_enter Tryd.func23, Tryd.ntmps23
    go_wp2
    go_ret
    refine ⟨ret_int ?_, rfl⟩
    rw [Hv.out]
    split <;> omega

theorem conv_two (w : World) (x y : UInt8) : (convert 35 9 (.slice (some ⟨w.heap.size, 0, none⟩) 2 2)).run Tryd.prog (w.alloc (.cells #[.int .u8 x.toNat, .int .u8 y.toNat] 5)) =
    .ok (.string ⟨#[x, y]⟩) (w.alloc (.cells #[.int .u8 x.toNat, .int .u8 y.toNat] 5)) := by
  have h := run_convert_bytes_back (P := Tryd.prog) (w.alloc (.cells #[.int .u8 x.toNat, .int .u8 y.toNat] 5)) 35 9 5 ⟨w.heap.size, 0, none⟩ 2 [x, y] Tryd.underlying35 Tryd.underlying5 Tryd.underlying9
    (by
      intro j hj
      have : j = 0 ∨ j = 1 := by simp at hj; omega
      rcases this with rfl | rfl
      · rw [show (⟨w.heap.size, 0, none⟩ : Addr).add 0 = ⟨w.heap.size, 0, none⟩ from rfl, cell_new]; rfl
      · rw [show (⟨w.heap.size, 0, none⟩ : Addr).add 1 = ⟨w.heap.size, 1, none⟩ from rfl, cell_new]; rfl)
  exact h

theorem refhex_any (n : Nat) (w : World) (h : n ≤ 255) :
    Calls Tryd.prog 16 #[.int .u8 n] w fun e w' => e = .returned (.string (hexS n)) ∧ Below w.heap.size w w' := by
  have hcv := conv_two
  go_enter Tryd.func16, Tryd.ntmps16
  go_wp2_with (go_at_call 23; refine (digit_any _ _ (by omega) (by omega)).mono ?_; rintro e w' ⟨rfl, rfl⟩)
  go_ret
  exact ⟨rfl, (Below.refl _ _).alloc (Nat.le_refl _) _⟩

def unhexN (s : ByteArray) : Int × Bool := if s.size = 2 ∧ 0 ≤ hexv (bt s 0) ∧ 0 ≤ hexv (bt s 1) then (hexv (bt s 0) * 16 + hexv (bt s 1), true) else (0, false)
def unhexR (s : ByteArray) : Value := .tuple #[.int .u8 (unhexN s).1, .bool (unhexN s).2]
theorem unhexR_no (s : ByteArray) (h : ¬ (s.size = 2 ∧ 0 ≤ hexv (bt s 0) ∧ 0 ≤ hexv (bt s 1))) : Ending.returned (.tuple #[.int .u8 0, .bool false]) = .returned (unhexR s) := by
  unfold unhexR unhexN; rw [if_neg h]
theorem hexv_le (c : Int) : -1 ≤ hexv c ∧ hexv c ≤ 15 := by
  unfold hexv; split
  · omega
  · split <;> omega
theorem or_nib_fin : ∀ (x y : Fin 16), bits .or .i64 ((x.val : Int) * 16) y.val = (x.val : Int) * 16 + y.val := by decide +kernel
theorem or_nib (x y : Nat) (hx : x < 16) (hy : y < 16) : bits .or .i64 ((x : Int) * 16) y = (x : Int) * 16 + y := or_nib_fin ⟨x, hx⟩ ⟨y, hy⟩
theorem unhex_any (s : ByteArray) (w : World) (hs : s.size ≤ maxLen) :
    Calls Tryd.prog 25 #[.string s] w fun e w' => e = .returned (unhexR s) ∧ ∃ k, w' = w.drewN k := by
  unfold maxLen at hs
  have hbt := get_bt s
  by_cases h2 : s.size = 2
  · have g0 := bt_nonneg s 0
    have g1 := bt_nonneg s 1
    have g2 := bt_le s 0
    have g3 := bt_le s 1
    have k0 := hexv_le (bt s 0)
    have k1 := hexv_le (bt s 1)
    have hl : (1:Int) < (s.size : Int) := by omega
    have hl' : (0:Int) < (s.size : Int) := by omega
    have hm : ((s.size : Int) != 2) = false := by simp [h2]
    have H2 := Lib.hid h2
    clear h2
    by_cases hv0 : hexv (bt s 0) < 0
    · go_enter Tryd.func25, Tryd.ntmps25
      go_wp2_with (go_at_call 28; refine (value_any _ _ (by omega) (by omega)).mono ?_; rintro e w' ⟨rfl, rfl⟩)
      go_ret2
      exact ⟨unhexR_no s (by omega), 0, rfl⟩
    · by_cases hv1 : hexv (bt s 1) < 0
      · go_enter Tryd.func25, Tryd.ntmps25
        go_wp2_with (go_at_call 28; refine (value_any _ _ (by omega) (by omega)).mono ?_; rintro e w' ⟨rfl, rfl⟩)
        go_ret2
        exact ⟨unhexR_no s (by omega), 0, rfl⟩
      · have Hr : Hid (Value.tuple #[.int .u8 (hexv (bt s 0) * 16 + hexv (bt s 1)), .bool true] = unhexR s) := by
          show _ = _
          unfold unhexR unhexN; rw [if_pos ⟨H2.out, by omega, by omega⟩]
        obtain ⟨x, hx⟩ : ∃ x : Nat, hexv (bt s 0) = x := ⟨(hexv (bt s 0)).toNat, by omega⟩
        obtain ⟨y, hy⟩ : ∃ y : Nat, hexv (bt s 1) = y := ⟨(hexv (bt s 1)).toNat, by omega⟩
        go_enter Tryd.func25, Tryd.ntmps25
        go_wp2_with (go_at_call 28; refine (value_any _ _ (by omega) (by omega)).mono ?_; rintro e w' ⟨rfl, rfl⟩)
        go_quiet ((go_at_call 28; exact quiet_id (value_any _ _ (by omega) (by omega))))
        go_wp2
        go_ret2
        refine ⟨?_, nq, rfl⟩
        rw [← Hr.out, hx, hy]
        show Ending.returned (.tuple #[.int .u8 (bits .or .i64 ((x : Int) * 16) y % 256), .bool true]) = _
        rw [or_nib x y (by omega) (by omega)]
        have : ((x : Int) * 16 + y) % 256 = x * 16 + y := by omega
        rw [this]
  · have hm : ((s.size : Int) != 2) = true := by rw [bne_iff_ne]; omega
    have H2 := Lib.hid h2
    clear h2
    go_enter Tryd.func25, Tryd.ntmps25
    go_wp2
    go_ret2
    exact ⟨unhexR_no s (fun h => H2.out h.1), 0, rfl⟩

/-- The byte of two digits, and back. -/
theorem hexv_hexd_fin : ∀ k : Fin 16, hexv ((hexd k.val).toNat : Int) = k.val := by decide +kernel
theorem hexv_hexd (k : Nat) (h : k < 16) : hexv ((hexd k).toNat : Int) = k := hexv_hexd_fin ⟨k, h⟩
theorem hexd_hexv_all : ∀ c : Fin 256, 0 ≤ hexv (c.val : Int) → (hexd (hexv (c.val : Int)).toNat).toNat = c.val := by decide +kernel
theorem hexd_hexv (c : UInt8) (h : 0 ≤ hexv (c.toNat : Int)) : hexd (hexv (c.toNat : Int)).toNat = c :=
  UInt8.toNat_inj.1 (hexd_hexv_all ⟨c.toNat, c.toNat_lt⟩ h)
end Go.Proofs.YtnlpahdjiddooaaDoor
