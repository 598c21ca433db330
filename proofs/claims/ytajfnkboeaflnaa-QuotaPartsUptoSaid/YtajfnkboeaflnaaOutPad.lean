import Derived.Test.YtajfnkboeaflnaaOutPut
namespace Go.Proofs.Ytajfnkboeaflnaa
open Go.RowKit

theorem pad_neg (w : World) (g : Nat) (n c : Int) (h : n < 0) : Calls Try.prog 13 #[.pointer (some ⟨g, 0, none⟩), .int .i64 n, .int .u8 c] w fun e w' => e = .returned (.int .i64 2) ∧ w' = w := by
  have j : decide (n < 0) = true := decide_eq_true h
  go_enter Try.func13, Try.ntmps13
  go_wp2
  go_ret
  exact ⟨rfl, rfl⟩
theorem pad_no (w : World) (g : Nat) (v : Value) (bs : List UInt8) (room : Nat) (h : OutAt w g v bs room) (hr : room ≤ 1073741824) (hb : bs.length ≤ room) (n c : Int) (h0 : 0 ≤ n) (hno : (room : Int) - (bs.length : Nat) < n) :
    Calls Try.prog 13 #[.pointer (some ⟨g, 0, none⟩), .int .i64 n, .int .u8 c] w fun e w' => e = .returned (.int .i64 6) ∧ Below w.heap.size w w' := by
  have HF := Lib.hid (fits_any w g v bs room n h hr hb)
  rw [if_pos hno] at HF
  have j : decide (n < 0) = false := decide_eq_false (by omega)
  clear h hno
  go_enter Try.func13, Try.ntmps13
  go_wp2_with (go_at_call 21; (with_reducible refine HF.out.mono ?_); rintro e w1 ⟨rfl, hb1⟩)
  go_ret
  exact ⟨rfl, hb1⟩
set_option maxHeartbeats 400000 in
theorem pad_yes (w : World) (g : Nat) (v : Value) (bs : List UInt8) (room : Nat) (h : OutAt w g v bs room) (hr : room ≤ 1073741824) (n : Nat) (c : UInt8) (hyes : bs.length + n ≤ room) :
    Calls Try.prog 13 #[.pointer (some ⟨g, 0, none⟩), .int .i64 n, .int .u8 c.toNat] w fun e w' => e = .returned (.int .i64 0) ∧ Kept g v.ownBlock w w' ∧ ∃ v', RowOr w.heap.size v.ownBlock v'.ownBlock ∧ OutAt w' g v' (bs ++ List.replicate n c) room := by
  have HF := Lib.hid (fits_any w g v bs room (n : Int) h hr (by omega))
  rw [if_neg (by omega)] at HF
  have j : decide ((n : Int) < 0) = false := decide_eq_false (by omega)
  have HY := Lib.hid hyes
  have HO := Lib.hid h
  have hnb : n ≤ 1073741824 := by omega
  have hcb : c.toNat < 256 := c.toNat_lt
  obtain ⟨i0, hi, hz0, hz1, hz2⟩ := info_parts infoU8
  obtain ⟨d, hd⟩ : ∃ d, c.toNat = d := ⟨_, rfl⟩
  have HD := Lib.hid hd
  rw [hd] at hcb ⊢
  clear hyes h hd
  go_enter Try.func13, Try.ntmps13
  go_wp2_with (go_at_call 21; (with_reducible refine HF.out.mono ?_); rintro e w1 ⟨rfl, hb1⟩)
  have HB1 := Lib.hid hb1
  clear hb1
  go_loopw [23] (fun i wr => ∃ k : Nat, k ≤ n ∧ i = .int .i64 k ∧ Kept g v.ownBlock w wr ∧ ∃ v', RowOr w.heap.size v.ownBlock v'.ownBlock ∧ OutAt wr g v' (bs ++ List.replicate k c) room) (fun i _ => n - (intOf i).toNat)
  case atStart => exact ⟨0, by omega, rfl, Kept.of_below HB1.out, v, RowOr.refl _ _, by simpa using HO.out.below HB1.out⟩
  case round =>
    obtain ⟨k, hk, rfl, hkp, v', hro, hout⟩ := hrel
    have HKP := Lib.hid hkp
    have HRO := Lib.hid hro
    have hbd0 : (bs ++ List.replicate k c).length ≤ 1073741824 := by have := HY.out; simp; omega
    have e2 : bs ++ List.replicate (k + 1) c = (bs ++ List.replicate k c) ++ [c] := by rw [List.replicate_succ', List.append_assoc]
    obtain ⟨bk, hbk⟩ : ∃ bk, bs ++ List.replicate k c = bk := ⟨_, rfl⟩
    have HBK := Lib.hid hbk
    rw [hbk] at hout hbd0 e2
    have HE2 := Lib.hid e2
    have HOUT := Lib.hid hout
    clear hbk e2
    by_cases hlt : k < n
    · have c0 := hout.c0
      have hA := Lib.hid fun ops rest o a Q hg s' x ho hs' hx h => app1_at (P := Try.prog) (T := 50) Try.underlying50 hi hz0 hz1 hz2 rfl hout.own (u := .int .u8 d) rfl (by unfold maxLen; omega) (by omega) (Nat.zero_le _) ops rest o a Q hg s' x ho hs' hx h
      obtain ⟨nk, hnk⟩ : ∃ nk, bk.length = nk := ⟨_, rfl⟩
      rw [hnk] at hA
      clear hkp hro hout hnk hbd0
      go_wp2_with (at_builtin; refine hA.out _ _ _ _ _ rfl _ _ rfl rfl rfl ?_; intro v2 w2 hown2 hg2 hat2; obtain ⟨A2, c2, rfl⟩ := own_form hown2; obtain ⟨d0, d1, d2, d3, d4⟩ := out_store [c] HOUT.out ((Below.refl _ _).alloc (Nat.le_refl _) _) hg2 (by rw [← HD.out] at hown2; exact hown2) (by simpa using hat2); have D2 := Lib.hid d2; have D3 := Lib.hid d3; have D4 := Lib.hid d4; clear d2 d3 d4 hown2 hg2 hat2)
      go_roundw
      case rel => exact ⟨k + 1, by omega, by go_num, HKP.out.trans HRO.out D2.out, _, HRO.out.trans HKP.out.size D3.out, by rw [HE2.out]; exact D4.out⟩
      case measure => simp [intOf]; omega
    · have Hk : Hid (k = n) := by show k = n; omega
      go_wp2
      go_ret
      exact ⟨rfl, HKP.out, v', HRO.out, by rw [← Hk.out, HBK.out]; exact HOUT.out⟩
theorem own_take {w : World} {base : Nat} {e : TypeId} {A : Option Addr} {n c : Nat} {xs : List Value} (h : w.ownsRow base e 1 (.slice A n c) n xs) {k : Nat} (hk : k ≤ n) : w.ownsRow base e 1 (.slice A k c) k (xs.take k) := by
  obtain ⟨h1, h2⟩ := h
  refine ⟨by simp at h1 ⊢; omega, ?_⟩
  rcases h2 with ⟨h2, rfl⟩ | ⟨g, cap, cur, hv, hb, hg, hn, hm, hs, ht⟩
  · have hk0 : k = 0 := by omega
    subst hk0
    injection h2 with e1 _ e2
    subst e1 e2
    exact .inl ⟨rfl, rfl⟩
  · injection hv with e1 _ e2
    subst e1 e2
    refine .inr ⟨g, c, cur, rfl, hb, hg, by omega, hm, hs, ?_⟩
    rw [← ht, List.take_take]
    congr 1
    omega
theorem own_cap {w : World} {base : Nat} {e : TypeId} {A : Option Addr} {n c : Nat} {xs : List Value} (h : w.ownsRow base e 1 (.slice A n c) n xs) : n ≤ c ∧ c ≤ 9223372036854775807 := by
  rcases h.2 with ⟨h2, rfl⟩ | ⟨g, cap, cur, hv, hb, hg, hn, hm, hs, ht⟩
  · exact ⟨by omega, by injection h2 with _ _ e; omega⟩
  · injection hv with e1 e3 e2
    unfold maxLen at hm
    omega
theorem cut_bad (w : World) (g : Nat) (v : Value) (bs : List UInt8) (room : Nat) (h : OutAt w g v bs room) (n : Int) (hbad : n < 0 ∨ (bs.length : Nat) < n) :
    Calls Try.prog 15 #[.pointer (some ⟨g, 0, none⟩), .int .i64 n] w fun e w' => e = .returned (.int .i64 2) ∧ w' = w := by
  obtain ⟨A, c, rfl⟩ := h.form
  have c0 := h.c0
  obtain ⟨m, hm⟩ : ∃ m, bs.length = m := ⟨_, rfl⟩
  rw [hm] at c0 hbad
  clear h hm
  by_cases h0 : n < 0
  · have j : decide (n < 0) = true := decide_eq_true h0
    go_enter Try.func15, Try.ntmps15
    go_wp2
    go_ret
    exact ⟨rfl, rfl⟩
  · have j : decide (n < 0) = false := decide_eq_false h0
    have h1 : (m : Int) < n := by omega
    have j1 : decide ((m : Int) < n) = true := decide_eq_true h1
    clear hbad
    go_enter Try.func15, Try.ntmps15
    go_wp2
    go_ret
    exact ⟨rfl, rfl⟩
theorem cut_good (w : World) (g : Nat) (v : Value) (bs : List UInt8) (room : Nat) (h : OutAt w g v bs room) (n : Nat) (hn : n ≤ bs.length) :
    Calls Try.prog 15 #[.pointer (some ⟨g, 0, none⟩), .int .i64 n] w fun e w' => e = .returned (.int .i64 0) ∧ Kept g v.ownBlock w w' ∧ ∃ v', v'.ownBlock = v.ownBlock ∧ OutAt w' g v' (bs.take n) room := by
  obtain ⟨A, c, rfl⟩ := h.form
  have c0 := h.c0
  have cf := h.fz 0
  have hcap := own_cap h.own
  have HT := Lib.hid (own_take h.own hn)
  have HO := Lib.hid h
  obtain ⟨m, hm⟩ : ∃ m, bs.length = m := ⟨_, rfl⟩
  have HM := Lib.hid hm
  rw [hm] at c0 hn hcap
  clear h hm
  have j : decide ((n : Int) < 0) = false := decide_eq_false (by omega)
  have j1 : decide ((m : Int) < n) = false := decide_eq_false (by omega)
  have hnc : n ≤ c := by omega
  go_enter Try.func15, Try.ntmps15
  go_wp2
  go_ret
  have hO := HO.out
  have hne : (Value.slice A n c).ownBlock = (Value.slice A bs.length c).ownBlock := by cases A <;> rfl
  refine ⟨rfl, ⟨rfl, rfl, rfl, by simp, fun k hk h1 h2 => heap_setCell_other w ⟨g, 0, none⟩ k _ h1⟩, .slice A n c, by rw [hne, HM.out], ?_, ?_, ?_⟩
  · rw [heap_setCell_same w g 0 _ _ _ hO.blk]; rfl
  · have hT := HT.out
    have hl : (bs.take n).length = n := by have := HM.out; simp; omega
    have e1 : bv (bs.take n) = (bv bs).take n := by simp [bv, List.map_take]
    rw [hl, e1]
    refine ⟨hT.1, ?_⟩
    rcases hT.2 with h' | ⟨k, cap, cur, hv, hbg, hgk, r⟩
    · exact .inl h'
    · refine .inr ⟨k, cap, cur, hv, hbg, ?_, r⟩
      have hkg : k ≠ g := fun e => by
        apply hO.ne
        rw [← hne, hv, e]; rfl
      rw [heap_setCell_other w ⟨g, 0, none⟩ k _ hkg]; exact hgk
  · rw [hne]; exact hO.ne
end Go.Proofs.Ytajfnkboeaflnaa
