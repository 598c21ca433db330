import Derived.Test.YtajfnkboeaflnaaOutSmall
import Derived.Test.YtajfnkboeaflnaaStrRow
import Derived.Test.YtajfnkboeaflnaaAppStr
namespace Go.Proofs.Ytajfnkboeaflnaa
open Go.RowKit

theorem new_bad (w : World) (r : Int) (h : r < 0 ∨ 1073741824 < r) : Calls Try.prog 6 #[.int .i64 r] w fun e w' => e = .returned (.tuple #[.pointer none, .int .i64 2]) ∧ w' = w := by
  by_cases h0 : r < 0
  · have j : decide (r < 0) = true := decide_eq_true h0
    go_enter Try.func6, Try.ntmps6
    go_wp2
    go_ret2
    exact ⟨rfl, rfl⟩
  · have h1 : 1073741824 < r := by omega
    have j : decide (r < 0) = false := decide_eq_false h0
    have j1 : decide (1073741824 < r) = true := decide_eq_true h1
    go_enter Try.func6, Try.ntmps6
    go_wp2
    go_ret2
    exact ⟨rfl, rfl⟩
theorem out_new (w : World) (room : Nat) : OutAt (w.alloc (.cells #[.slice none 0 0, .int .i64 room] 54)) w.heap.size (.slice none 0 0) [] room :=
  ⟨heap_alloc_new _ _, World.ownsRow_nil _ _ _ _, by simp [Value.ownBlock]⟩
theorem new_good (w : World) (room : Nat) (h : room ≤ 1073741824) : Calls Try.prog 6 #[.int .i64 room] w fun e w' => e = .returned (.tuple #[.pointer (some ⟨w.heap.size, 0, none⟩), .int .i64 0]) ∧ OutAt w' w.heap.size (.slice none 0 0) [] room ∧ w'.heap.size = w.heap.size + 1 ∧ Below w.heap.size w w' := by
  have HO := Lib.hid (out_new w room)
  have j : decide ((room : Int) < 0) = false := decide_eq_false (by omega)
  have j1 : decide ((1073741824 : Int) < room) = false := decide_eq_false (by omega)
  go_enter Try.func6, Try.ntmps6
  go_wp2
  go_ret2
  exact ⟨rfl, HO.out, by simp, (Below.refl _ _).alloc (Nat.le_refl _) _⟩
theorem put_nil (w : World) (a : Option Addr) (len cap : Nat) : Calls Try.prog 7 #[.pointer none, .slice a len cap] w fun e w' => e = .returned (.int .i64 24) ∧ w' = w := by
  go_enter Try.func7, Try.ntmps7
  go_wp2
  go_ret
  exact ⟨rfl, rfl⟩
theorem pad_nil (w : World) (n : Int) (c : Int) : Calls Try.prog 13 #[.pointer none, .int .i64 n, .int .u8 c] w fun e w' => e = .returned (.int .i64 24) ∧ w' = w := by
  go_enter Try.func13, Try.ntmps13
  go_wp2
  go_ret
  exact ⟨rfl, rfl⟩
theorem cut_nil (w : World) (n : Int) : Calls Try.prog 15 #[.pointer none, .int .i64 n] w fun e w' => e = .returned (.int .i64 24) ∧ w' = w := by
  go_enter Try.func15, Try.ntmps15
  go_wp2
  go_ret
  exact ⟨rfl, rfl⟩
/-- What a grown buffer that is stored back comes to. -/
theorem out_store {w wa w1 : World} {g : Nat} {v v' : Value} {bs : List UInt8} {room m : Nat} (ds : List UInt8) (h : OutAt w g v bs room) (hwa : Below w.heap.size w wa) (hg : wa.grownBy w1 v.ownBlock)
    (ho : w1.ownsRow 0 5 1 v' m (bv bs ++ bv ds)) (hat : v'.ownBlock = v.ownBlock ∨ v'.ownBlock = some wa.heap.size) :
    w1.cell? ⟨g, 0, none⟩ = some v ∧ w1.frozen? ⟨g, 0, none⟩ = false ∧ Kept g v.ownBlock w (w1.setCell ⟨g, 0, none⟩ v') ∧ RowOr w.heap.size v.ownBlock v'.ownBlock ∧ OutAt (w1.setCell ⟨g, 0, none⟩ v') g v' (bs ++ ds) room := by
  have hm : m = (bs ++ ds).length := by have := ho.1; simp [bv] at this; simp; omega
  subst hm
  rw [← bv_app] at ho
  have hlt := h.lt
  have hsz := hwa.size
  have hb : w1.heap[g]? = some (.cells #[v, .int .i64 room] 54 (0, 0)) := by
    rw [hg.block g (by omega) (fun e => h.ne e.symm), hwa.block g hlt]; exact h.blk
  have hne' : v'.ownBlock ≠ some g := by
    rcases hat with e | e
    · rw [e]; exact h.ne
    · rw [e]; intro e2; have : wa.heap.size = g := by simpa using e2
      omega
  refine ⟨by rw [cell_of_row w1 g 0 _ _ _ hb]; rfl, frozen_of_row w1 g 0 _ _ hb, ?_, ?_, ?_, ?_, hne'⟩
  · refine ⟨(by show w1.os = _; rw [hg.os, hwa.os]), (by show w1.tape = _; rw [hg.tape, hwa.tape]), (by show w1.output = _; rw [hg.output, hwa.output]), ?_, fun k hk h1 h2 => ?_⟩
    · have := hg.size; simp; omega
    · rw [heap_setCell_other w1 ⟨g, 0, none⟩ k v' h1, hg.block k (by omega) (fun e => h2 e.symm), hwa.block k hk]
  · rcases hat with e | e
    · exact .inl e
    · exact .inr ⟨_, hsz, e⟩
  · rw [heap_setCell_same w1 g 0 _ _ _ hb]; rfl
  · refine ⟨ho.1, ?_⟩
    rcases ho.2 with h' | ⟨k, cap, cur, hv, hbg, hgk, r⟩
    · exact .inl h'
    · refine .inr ⟨k, cap, cur, hv, hbg, ?_, r⟩
      have hkg : k ≠ g := fun e => hne' (by rw [hv, e]; rfl)
      rw [heap_setCell_other w1 ⟨g, 0, none⟩ k v' hkg]; exact hgk

theorem put_no (w : World) (g : Nat) (v : Value) (bs : List UInt8) (room : Nat) (h : OutAt w g v bs room) (hr : room ≤ 1073741824) (hb : bs.length ≤ room) (a : Option Addr) (len cap : Nat) (ls : List ByteArray) (hs : StrRow w a len ls)
    (hf : (flat ls).length ≤ 1099511627776) (hno : room < bs.length + (flat ls).length) :
    Calls Try.prog 7 #[.pointer (some ⟨g, 0, none⟩), .slice a len cap] w fun e w' => e = .returned (.int .i64 6) ∧ Below w.heap.size w w' := by
  have hl2 := hs.2.1
  have Hl := Lib.hid hs.1
  have HF := Lib.hid (fits_any w g v bs room ((flat ls).length : Nat) h hr hb)
  rw [if_pos (by omega)] at HF
  have HFL := Lib.hid hf
  clear hno hb h hf
  go_enter Try.func7, Try.ntmps7
  go_wp2
  go_loop [5, 15] (fun n i => ∃ k : Nat, k ≤ len ∧ i = .int .i64 k ∧ n = .int .i64 ((flat (ls.take k)).length : Nat)) (fun _ i => len - (intOf i).toNat)
  case atStart => exact ⟨0, by omega, rfl, rfl⟩
  case round =>
    obtain ⟨k, hk, rfl, rfl⟩ := hrel
    by_cases hlt : k < len
    · obtain ⟨b, off, s, rfl, _, hs1, hs2, hc⟩ := hs.at_ hlt
      have hfl := flat_take ls k s hs1
      have h2 := flat_le ls (k + 1)
      have h3 := HFL.out
      have HT : Hid ((flat (ls.take (k + 1))).length = (flat (ls.take k)).length + s.size) := by show _ = _; rw [hfl]; simp
      have hT := HT.out
      obtain ⟨m, hm⟩ : ∃ m, (flat (ls.take k)).length = m := ⟨_, rfl⟩
      rw [hm] at HT hT ⊢
      have hbd : m + s.size ≤ 1099511627776 := by omega
      clear hfl h2 h3 hT hm hs1
      go_wp2
      go_round
      case rel => exact ⟨k + 1, by omega, by go_num, by rw [HT.out]; go_num⟩
      case measure => simp [intOf]; omega
    · have Hk : Hid (k = len) := by show k = len; omega
      rw [List.take_of_length_le (by rw [Hl.out]; omega)]
      obtain ⟨m, hm⟩ : ∃ m, (flat ls).length = m := ⟨_, rfl⟩
      rw [hm] at HF ⊢
      clear hm
      go_wp2_with (go_at_call 21; (with_reducible refine HF.out.mono ?_); rintro e w1 ⟨rfl, hb1⟩)
      go_ret
      exact ⟨rfl, hb1⟩

set_option maxHeartbeats 400000 in
theorem put_yes (w : World) (g : Nat) (v : Value) (bs : List UInt8) (room : Nat) (h : OutAt w g v bs room) (hr : room ≤ 1073741824) (a : Option Addr) (len cap : Nat) (ls : List ByteArray) (hs : StrRow w a len ls)
    (hap : 0 < len → ∀ p, a = some p → p.block ≠ g ∧ v.ownBlock ≠ some p.block) (hyes : bs.length + (flat ls).length ≤ room) :
    Calls Try.prog 7 #[.pointer (some ⟨g, 0, none⟩), .slice a len cap] w fun e w' => e = .returned (.int .i64 0) ∧ Kept g v.ownBlock w w' ∧ ∃ v', RowOr w.heap.size v.ownBlock v'.ownBlock ∧ OutAt w' g v' (bs ++ flat ls) room := by
  have hl2 := hs.2.1
  have Hl := Lib.hid hs.1
  have HF := Lib.hid (fits_any w g v bs room ((flat ls).length : Nat) h hr (by omega))
  rw [if_neg (by omega)] at HF
  have HY := Lib.hid hyes
  have HO := Lib.hid h
  have HAP := Lib.hid hap
  have hu8 := infoU8
  obtain ⟨i0, hi, hz0, hz1, hz2⟩ := info_parts infoU8
  clear hyes h hap hu8
  go_enter Try.func7, Try.ntmps7
  go_wp2
  go_loop [5, 15] (fun n i => ∃ k : Nat, k ≤ len ∧ i = .int .i64 k ∧ n = .int .i64 ((flat (ls.take k)).length : Nat)) (fun _ i => len - (intOf i).toNat)
  case atStart => exact ⟨0, by omega, rfl, rfl⟩
  case round =>
    obtain ⟨k, hk, rfl, rfl⟩ := hrel
    by_cases hlt : k < len
    · obtain ⟨b, off, s, rfl, _, hs1, hs2, hc⟩ := hs.at_ hlt
      have hfl := flat_take ls k s hs1
      have h2 := flat_le ls (k + 1)
      have h3 := HY.out
      have HT : Hid ((flat (ls.take (k + 1))).length = (flat (ls.take k)).length + s.size) := by show _ = _; rw [hfl]; simp
      have hT := HT.out
      obtain ⟨m, hm⟩ : ∃ m, (flat (ls.take k)).length = m := ⟨_, rfl⟩
      rw [hm] at HT hT ⊢
      have hbd : m + s.size ≤ 1099511627776 := by omega
      clear hfl h2 h3 hT hm hs1
      go_wp2
      go_round
      case rel => exact ⟨k + 1, by omega, by go_num, by rw [HT.out]; go_num⟩
      case measure => simp [intOf]; omega
    · have Hk : Hid (k = len) := by show k = len; omega
      rw [List.take_of_length_le (by rw [Hl.out]; omega)]
      obtain ⟨m, hm⟩ : ∃ m, (flat ls).length = m := ⟨_, rfl⟩
      rw [hm] at HF ⊢
      clear hm
      go_wp2_with (go_at_call 21; (with_reducible refine HF.out.mono ?_); rintro e w1 ⟨rfl, hb1⟩)
      have HB1 := Lib.hid hb1
      clear hb1
      go_loopw [34] (fun i wr => ∃ k : Nat, k ≤ len ∧ i = .int .i64 k ∧ Kept g v.ownBlock w wr ∧ ∃ v', RowOr w.heap.size v.ownBlock v'.ownBlock ∧ OutAt wr g v' (bs ++ flat (ls.take k)) room) (fun i _ => len - (intOf i).toNat)
      case atStart => exact ⟨0, by omega, rfl, Kept.of_below HB1.out, v, RowOr.refl _ _, by simpa [flat] using HO.out.below HB1.out⟩
      case round =>
        obtain ⟨k, hk, rfl, hkp, v', hro, hout⟩ := hrel
        obtain ⟨bk, hbk⟩ : ∃ bk, bs ++ flat (ls.take k) = bk := ⟨_, rfl⟩
        have HBK := Lib.hid hbk
        rw [hbk] at hout
        clear hbk
        have HKP := Lib.hid hkp
        have HRO := Lib.hid hro
        have HOUT := Lib.hid hout
        by_cases hlt : k < len
        · obtain ⟨b, off, s, rfl, _, hs1, hs2, hc⟩ := (hs.kept hkp HAP.out).at_ hlt
          have hfl := flat_take ls k s hs1
          have h2 := flat_le ls (k + 1)
          have h3 := HY.out
          have hbd : bk.length + s.size ≤ 1073741824 := by
            rw [← HBK.out]
            have e1 : (flat (ls.take (k + 1))).length = (flat (ls.take k)).length + s.size := by rw [hfl]; simp
            simp only [List.length_append]; omega
          have HFL := Lib.hid hfl
          have c0 := hout.c0
          have hA := Lib.hid fun ops rest o a Q hg s' x ho hs' hx h => app_str (P := Try.prog) (t := 50) (u := 9) Try.underlying50 Try.underlying9 hi hz0 hz1 hz2 hout.own (s := s) (by unfold maxLen; omega) (by omega) (Nat.zero_le _) ops rest o a Q hg s' x ho hs' hx h
          obtain ⟨nk, hnk⟩ : ∃ nk, bk.length = nk := ⟨_, rfl⟩
          rw [hnk] at hA
          clear hs1 hfl h2 h3 hkp hro hout hnk hbd
          go_wp2_with (at_builtin; refine hA.out _ _ _ _ _ rfl _ _ rfl rfl rfl ?_; intro v2 w2 hown2 hg2 hat2; obtain ⟨A2, c2, rfl⟩ := own_form hown2; obtain ⟨d0, d1, d2, d3, d4⟩ := out_store s.data.toList HOUT.out (Below.refl _ _) hg2 hown2 hat2; have D2 := Lib.hid d2; have D3 := Lib.hid d3; have D4 := Lib.hid d4; clear d2 d3 d4 hown2 hg2 hat2)
          go_roundw
          case rel => exact ⟨k + 1, by omega, by go_num, HKP.out.trans HRO.out D2.out, _, HRO.out.trans HKP.out.size D3.out, by rw [HFL.out, ← List.append_assoc, HBK.out]; exact D4.out⟩
          case measure => simp [intOf]; omega
        · have Hk2 : Hid (ls.take k = ls) := by show _ = _; exact List.take_of_length_le (by rw [Hl.out]; omega)
          go_wp2
          go_ret
          exact ⟨rfl, HKP.out, v', HRO.out, by rw [← Hk2.out, HBK.out]; exact HOUT.out⟩
end Go.Proofs.Ytajfnkboeaflnaa
