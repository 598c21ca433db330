import Derived.Test.YtajfnkboeaflnaaOut
import Derived.Lib.BufferRead
namespace Go.Proofs.Ytajfnkboeaflnaa
open Go.RowKit

theorem below_drewN (w : World) (n : Nat) : Below w.heap.size w (w.drewN n) := ⟨rfl, rfl, rfl, Nat.le_refl _, fun _ _ => rfl⟩
theorem left_any (w : World) (g : Nat) (v : Value) (bs : List UInt8) (room : Nat) (h : OutAt w g v bs room) (hr : room ≤ 1073741824) (hb : bs.length ≤ room) :
    Calls Try.prog 22 #[.pointer (some ⟨g, 0, none⟩)] w fun e w' => e = .returned (.int .i64 ((room : Int) - (bs.length : Nat))) ∧ Below w.heap.size w w' := by
  obtain ⟨A, c, rfl⟩ := h.form
  have c0 := h.c0
  have c1 := h.c1
  have hlen : (bs.length : Int) ≤ room := by omega
  have hroom : (room : Int) ≤ 1073741824 := by omega
  obtain ⟨n, hn⟩ : ∃ n, bs.length = n := ⟨_, rfl⟩
  rw [hn] at c0 hlen ⊢
  have hw : IntKind.i64.wrap ((room : Int) - n) = room - n := IntWalk.i64_in _ (by omega)
  clear hn
  go_enter Try.func22, Try.ntmps22
  go_wp2
  go_quiet (fail)
  go_wp2
  go_ret
  exact ⟨rfl, below_drewN _ _⟩
theorem fits_any (w : World) (g : Nat) (v : Value) (bs : List UInt8) (room : Nat) (n : Int) (h : OutAt w g v bs room) (hr : room ≤ 1073741824) (hb : bs.length ≤ room) :
    Calls Try.prog 21 #[.pointer (some ⟨g, 0, none⟩), .int .i64 n] w fun e w' => e = .returned (.int .i64 (if (room : Int) - (bs.length : Nat) < n then 6 else 0)) ∧ Below w.heap.size w w' := by
  have HL := Lib.hid (left_any w g v bs room h hr hb)
  obtain ⟨m, hm⟩ : ∃ m : Int, (room : Int) - (bs.length : Nat) = m := ⟨_, rfl⟩
  rw [hm] at HL ⊢
  clear hm h
  by_cases hlt : m < n
  · go_enter Try.func21, Try.ntmps21
    go_wp2_with (go_at_call 22; (with_reducible refine HL.out.mono ?_); rintro e w1 ⟨rfl, hb1⟩)
    go_ret
    exact ⟨rfl, hb1⟩
  · go_enter Try.func21, Try.ntmps21
    go_wp2_with (go_at_call 22; (with_reducible refine HL.out.mono ?_); rintro e w1 ⟨rfl, hb1⟩)
    go_ret
    exact ⟨rfl, hb1⟩
theorem len_nil (w : World) : Calls Try.prog 19 #[.pointer none] w fun e w' => e = .returned (.int .i64 0) ∧ w' = w := by
  go_enter Try.func19, Try.ntmps19
  go_wp2
  go_ret
  exact ⟨rfl, rfl⟩
theorem len_any (w : World) (g : Nat) (v : Value) (bs : List UInt8) (room : Nat) (h : OutAt w g v bs room) :
    Calls Try.prog 19 #[.pointer (some ⟨g, 0, none⟩)] w fun e w' => e = .returned (.int .i64 (bs.length : Nat)) ∧ w' = w := by
  obtain ⟨A, c, rfl⟩ := h.form
  have c0 := h.c0
  go_enter Try.func19, Try.ntmps19
  go_wp2
  go_ret
  exact ⟨rfl, rfl⟩
theorem leftO_nil (w : World) : Calls Try.prog 20 #[.pointer none] w fun e w' => e = .returned (.int .i64 0) ∧ w' = w := by
  go_enter Try.func20, Try.ntmps20
  go_wp2
  go_ret
  exact ⟨rfl, rfl⟩
theorem leftO_any (w : World) (g : Nat) (v : Value) (bs : List UInt8) (room : Nat) (h : OutAt w g v bs room) (hr : room ≤ 1073741824) (hb : bs.length ≤ room) :
    Calls Try.prog 20 #[.pointer (some ⟨g, 0, none⟩)] w fun e w' => e = .returned (.int .i64 ((room : Int) - (bs.length : Nat))) ∧ Below w.heap.size w w' := by
  have HL := Lib.hid (left_any w g v bs room h hr hb)
  clear h
  go_enter Try.func20, Try.ntmps20
  go_wp2_with (go_at_call 22; (with_reducible refine HL.out.mono ?_); rintro e w1 ⟨rfl, hb1⟩)
  go_ret
  exact ⟨rfl, hb1⟩
theorem text_nil (w : World) : Calls Try.prog 8 #[.pointer none] w fun e w' => e = .returned (.string ⟨#[]⟩) ∧ w' = w := by
  go_enter Try.func8, Try.ntmps8
  go_wp2
  go_ret
  exact ⟨rfl, rfl⟩
theorem conv_bv {W : World} {base : Nat} {v : Value} {l : List UInt8} (h : W.ownsRow base 5 1 v l.length (bv l)) : (convert 50 9 v).run Try.prog W = .ok (.string ⟨l.toArray⟩) W := by
  rcases h.2 with ⟨rfl, h0⟩ | ⟨g, cap, cur, rfl, hb, hg, hn, hm, hsz, htk⟩
  · have hl : l = [] := List.length_eq_zero_iff.1 h0
    subst hl
    exact Lib.run_convert_nil_bytes W 50 9 5 0 Try.underlying50 Try.underlying5 Try.underlying9
  · exact run_convert_bytes_back (P := Try.prog) W 50 9 5 ⟨g, 0, none⟩ cap l Try.underlying50 Try.underlying5 Try.underlying9 (fun j hj => h.cells (g := g) rfl j _ (by simp [bv, hj]))
theorem text_any (w : World) (g : Nat) (v : Value) (bs : List UInt8) (room : Nat) (h : OutAt w g v bs room) :
    Calls Try.prog 8 #[.pointer (some ⟨g, 0, none⟩)] w fun e w' => e = .returned (.string ⟨bs.toArray⟩) ∧ w' = w := by
  have c0 := h.c0
  have cv := conv_bv h.own
  clear h
  go_enter Try.func8, Try.ntmps8
  go_wp2
  go_ret
  exact ⟨rfl, rfl⟩
theorem last_nil (w : World) : Calls Try.prog 18 #[.pointer none] w fun e w' => e = .returned (.tuple #[.int .u8 0, .bool false]) ∧ w' = w := by
  have HL := Lib.hid fun w' => len_nil w'
  go_enter Try.func18, Try.ntmps18
  go_wp2_with (go_at_call 19; (with_reducible refine (HL.out _).mono ?_); rintro e w1 ⟨rfl, rfl⟩)
  go_ret2
  exact ⟨rfl, rfl⟩
theorem last_none (w : World) (g : Nat) (v : Value) (room : Nat) (h : OutAt w g v [] room) :
    Calls Try.prog 18 #[.pointer (some ⟨g, 0, none⟩)] w fun e w' => e = .returned (.tuple #[.int .u8 0, .bool false]) ∧ Below w.heap.size w w' := by
  have HL := Lib.hid (len_any w g v [] room h)
  go_enter Try.func18, Try.ntmps18
  go_wp2_with (go_at_call 19; (with_reducible refine HL.out.mono ?_); rintro e w1 ⟨rfl, rfl⟩)
  go_ret2
  exact ⟨rfl, Below.refl _ _⟩
theorem last_some (w : World) (g : Nat) (v : Value) (bs : List UInt8) (b : UInt8) (room : Nat) (h : OutAt w g v (bs ++ [b]) room) :
    Calls Try.prog 18 #[.pointer (some ⟨g, 0, none⟩)] w fun e w' => e = .returned (.tuple #[.int .u8 b.toNat, .bool true]) ∧ Below w.heap.size w w' := by
  have HL := Lib.hid (len_any w g v (bs ++ [b]) room h)
  obtain ⟨A, c, rfl⟩ := h.form
  obtain ⟨gb, rfl, _, hgb, hcl⟩ := own_cells h.own (by simp)
  have c0 := h.c0
  have cl : w.cell? ⟨gb, bs.length, none⟩ = some (.int .u8 b.toNat) := hcl bs.length _ (by simp [bv])
  have e1 : (bs ++ [b]).length = bs.length + 1 := by simp
  rw [e1] at HL c0
  have hmx := h.own.2
  have hm : bs.length + 1 ≤ 9223372036854775807 := by
    rcases hmx with ⟨h1, _⟩ | ⟨_, cap, _, _, _, _, h2, h3, _⟩
    · cases h1
    · unfold maxLen at h3; rw [e1] at h2; omega
  obtain ⟨n, hn⟩ : ∃ n, bs.length = n := ⟨_, rfl⟩
  rw [hn] at HL c0 cl hm
  clear hcl hmx h e1 hn
  have jn : (((n : Int) + 1) == 0) = false := by simp; omega
  have hw : IntKind.i64.wrap ((n : Int) + 1 - 1) = n := by rw [IntWalk.i64_in _ (by omega)]; omega
  have hlt : n < n + 1 := by omega
  have hi1 : (0 : Int) ≤ n := by omega
  have hi2 : (n : Int) < ((n + 1 : Nat) : Int) := by omega
  have hi3 : ((n : Int)).toNat = n := by omega
  go_enter Try.func18, Try.ntmps18
  go_wp2_with (go_at_call 19; (with_reducible refine HL.out.mono ?_); rintro e w1 ⟨rfl, rfl⟩)
  go_quiet (fail)
  go_wp2
  go_ret2
  exact ⟨rfl, below_drewN _ _⟩
end Go.Proofs.Ytajfnkboeaflnaa
