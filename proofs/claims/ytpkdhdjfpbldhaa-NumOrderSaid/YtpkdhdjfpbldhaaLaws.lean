import Derived.Test.YtpkdhdjfpbldhaaKnows
import Derived.WalkSmall
namespace Go.Proofs.Ytpkdhdjfpbldhaa
open Go.RowKit Go.PlainAid

theorem irow_nil (w : World) (a : Option Addr) : IRow w a 0 [] := ⟨rfl, by decide, fun i => by simp, fun h => absurd h (by decide)⟩
theorem irow_of {w : World} {x : Addr} {len cap : Nat} {zs : List Int} (hl : len ≤ cap) (hm : cap ≤ maxLen) (hz : zs.length = cap)
    (hc : ∀ i, i < zs.length → w.cell? (x.add i) = some (.int .i64 (zs.getD i 0))) (hw : ∀ n ∈ zs, (Lit.int .i64 n).wf = true) : IRow w (some x) len (zs.take len) := by
  unfold maxLen at hm
  have hg : ∀ i, i < len → (zs.take len).getD i 0 = zs.getD i 0 := by
    intro i hi
    simp only [List.getD_eq_getElem?_getD, List.getElem?_take, hi, if_true]
  refine ⟨by simp; omega, by omega, ?_, ?_⟩
  · intro i
    rcases Nat.lt_or_ge i len with h | h
    · rw [hg i h]
      have := range_i64 hw i
      simpa [List.getD_eq_getElem?_getD] using this
    · have : (zs.take len)[i]? = none := by simp; omega
      simp [List.getD_eq_getElem?_getD, this]
  · intro hp
    obtain ⟨b, off, spot⟩ := x
    have h0 := hc 0 (by omega)
    have hspot : spot = none := by simpa [Addr.add] using World.cell?_spot h0
    subst hspot
    refine ⟨b, off, rfl, ?_, ?_⟩
    · have := World.block_lt_of_cell? w _ h0
      simpa [Addr.add] using this
    · intro i hi
      rw [hg i hi]
      have e : (⟨b, off, none⟩ : Addr).add i = ⟨b, off + i, none⟩ := by unfold Addr.add; split <;> simp_all
      rw [← e]
      exact hc i (by omega)

theorem reads_walk (s : ByteArray) (most : Int) (w : World) (hs : s.size ≤ maxLen) (wf : (Lit.int .i64 most).wf = true) :
    Calls Try.prog 4 #[.string s, .int .i64 most] w fun e w' => e = .returned (.bool true) ∧ Below w.heap.size w w' := by
  have hb := bounds_i64 wf
  obtain ⟨n, e, hr⟩ : ∃ n e, readR s most = .tuple #[.int .i64 n, .int .i64 e] := ⟨_, _, rfl⟩
  have h1 := fun w => read_any s most w hs hb.1 hb.2
  have h2 := fun w => refread_any s most w hs hb.1 hb.2
  rw [hr] at h1 h2
  have H1 := Lib.hid h1
  have H2 := Lib.hid h2
  clear h1 h2 hr hs
  go_enter Try.func4, Try.ntmps4
  go_wp2_with (first
    | (go_at_call 12; refine (H1.out _).mono ?_; rintro e w' ⟨rfl, rfl⟩)
    | (go_at_call 13; refine (H2.out _).mono ?_; rintro e w' ⟨rfl, rfl⟩)
    | (go_at_call 11; refine (knows_any _).mono ?_; rintro e w3 ⟨rfl, hb3⟩))
  go_ret
  exact ⟨rfl, hb3⟩

theorem caps_walk (top : Int) (a : Option Addr) (len cap : Nat) (xs : List Int) (w : World) (wf : (Lit.int .i64 top).wf = true) (h : IRow w a len xs) :
    Calls Try.prog 5 #[.int .i64 top, .slice a len cap] w fun e w' => e = .returned (.bool true) ∧ Below w.heap.size w w' := by
  have hb := bounds_i64 wf
  have H1 := Lib.hid fun (w' : World) (h : IRow w' a len xs) => cap_any top w' a len cap xs h hb.1 hb.2
  have H2 := Lib.hid fun (w' : World) (h : IRow w' a len xs) => refcap_any top w' a len cap xs h hb.1 hb.2
  go_enter Try.func5, Try.ntmps5
  go_wp2_with (first
    | (go_at_call 14; refine (H1.out _ h).mono ?_; rintro e w1 ⟨rfl, hb1⟩)
    | (go_at_call 15; refine (H2.out _ (h.below hb1)).mono ?_; rintro e w' ⟨rfl, rfl⟩)
    | (go_at_call 11; refine (knows_any _).mono ?_; rintro e w3 ⟨rfl, hb3⟩))
  go_ret
  exact ⟨rfl, hb1.trans (hb3.mono hb1.size)⟩

theorem hexes_walk (n : Int) (s : ByteArray) (w : World) (wf : (Lit.int .u8 n).wf = true) (hs : s.size ≤ maxLen) :
    Calls Try.prog 8 #[.int .u8 n, .string s] w fun e w' => e = .returned (.bool true) ∧ Below w.heap.size w w' := by
  have hb := bounds_u8 wf
  obtain ⟨b, rfl⟩ := Int.eq_ofNat_of_zero_le hb.1
  have hb2 : b ≤ 255 := by omega
  obtain ⟨n, e, hr⟩ : ∃ n e, unhexR s = .tuple #[.int .u8 n, .bool e] := ⟨_, _, rfl⟩
  have h1 := fun w => unhex_any s w hs
  have h2 := fun w => refunhex_any s w
  rw [hr] at h1 h2
  have h3 := fun w => unhex_any (hexS b) w (by show 2 ≤ 2 ^ 63 - 1; decide)
  rw [unhexN_hit (hexS b) b hb2 rfl] at h3
  have H1 := Lib.hid h1
  have H2 := Lib.hid h2
  have H3 := Lib.hid h3
  have hbt : ((hexS b).toList == (hexS b).toList) = true := by simp
  clear h1 h2 h3 hr hs wf hb
  go_enter Try.func8, Try.ntmps8
  go_wp2_with fail
  refine (H1.out _).mono ?_
  rintro e w1 ⟨rfl, k1, rfl⟩
  go_wp2_with fail
  refine (H2.out _).mono ?_
  rintro e w2 ⟨rfl, g2⟩
  go_wp2_with fail
  refine (hex_any b _ hb2).mono ?_
  rintro e w3 ⟨rfl, k3, rfl⟩
  go_wp2_with fail
  refine (H3.out _).mono ?_
  rintro e w4 ⟨rfl, k4, rfl⟩
  go_wp2_with fail
  refine (hex_any b _ hb2).mono ?_
  rintro e w5 ⟨rfl, k5, rfl⟩
  go_wp2_with fail
  refine (refhex_any b _ hb2).mono ?_
  rintro e w6 ⟨rfl, g6⟩
  go_wp2_with (go_at_call 11; refine (knows_any _).mono ?_; rintro e w7 ⟨rfl, g7⟩)
  go_ret
  refine ⟨rfl, ?_⟩
  have e1 : Below w.heap.size w w2 := (below_drewN (Below.refl _ w) k1).trans (g2.mono (Nat.le_refl _))
  have e2 : Below w.heap.size w (w2.drewN (k3 + k4 + k5)) := below_drewN e1 _
  exact (e2.trans (g6.mono e2.size)).trans (g7.mono (e2.trans (g6.mono e2.size)).size)

/-! ### A number is read of its digits, and the other way round -/
theorem bt_list (l : List UInt8) (k : Nat) (h : k < l.length) : bt ⟨l.toArray⟩ k = (l[k].toNat : Int) := by
  have := get_bt ⟨l.toArray⟩ k (by simpa [ByteArray.size] using h)
  rw [← this]
  rfl
theorem bt_data (s : ByteArray) (k : Nat) (h : k < s.data.toList.length) : bt s k = (s.data.toList[k].toNat : Int) := by
  rw [← get_bt s k (by simpa using h)]
  rfl
theorem val_digits (s : ByteArray) (h0 : bt s 0 ≠ 48) (hd : ∀ j, j < s.size → isDg s j) : ∀ k, k ≤ s.size → (dg0 (valAt s k).toNat = s.data.toList.take k ∧ 0 ≤ valAt s k ∧ (0 < k → 0 < valAt s k))
  | 0, _ => by simp [valAt, dg0_zero]
  | k + 1, hk => by
    obtain ⟨h1, h2, h3⟩ := val_digits s h0 hd k (by omega)
    have hdk := hd k (by omega)
    unfold isDg at hdk
    have hpos : 0 < valAt s k * 10 + (bt s k - 48) := by
      rcases Nat.eq_zero_or_pos k with rfl | hp
      · simp only [valAt]; omega
      · have := h3 hp; omega
    simp only [valAt]
    refine ⟨?_, by omega, fun _ => hpos⟩
    have hlen : k < s.data.toList.length := by simp only [Array.length_toList]; exact hk
    have e1 : (valAt s k * 10 + (bt s k - 48)).toNat / 10 = (valAt s k).toNat := by omega
    have e2 : (valAt s k * 10 + (bt s k - 48)).toNat % 10 = (bt s k - 48).toNat := by omega
    rw [dg0_pos _ (by omega), e1, e2, h1, List.take_succ_eq_append_getElem hlen]
    congr 2
    have hb := bt_data s k hlen
    have : 48 + (bt s k - 48).toNat = s.data.toList[k].toNat := by omega
    rw [this, UInt8.ofNat_toNat]
theorem digs_val (s : ByteArray) (h : ¬ Bad s) : (⟨(digs (valAt s s.size).toNat).toArray⟩ : ByteArray) = s ∧ 0 ≤ valAt s s.size := by
  have hne : 0 < s.size := by
    rcases Nat.eq_zero_or_pos s.size with h0 | h0
    · exact absurd (.inl h0) h
    · exact h0
  have hd : ∀ j, j < s.size → isDg s j := fun j hj => Classical.byContradiction fun hn => h (.inr (.inr ⟨j, hj, hn⟩))
  have hfull : s.data.toList.take s.size = s.data.toList := List.take_of_length_le (by simp only [Array.length_toList]; exact Nat.le_refl _)
  by_cases h0 : bt s 0 = 48
  · have h1 : s.size = 1 := by
      rcases Nat.lt_or_ge 1 s.size with hl | hl
      · exact absurd (.inr (.inl ⟨h0, hl⟩)) h
      · omega
    have hv : valAt s s.size = 0 := by rw [h1]; simp [valAt, h0]
    rw [hv]
    refine ⟨?_, by omega⟩
    have ht := toList_one s h0 h1
    rw [ByteArray.toList_eq] at ht
    have : digs 0 = s.data.toList := by rw [ht]; rfl
    show (⟨(digs 0).toArray⟩ : ByteArray) = s
    rw [this]
  · obtain ⟨h1, h2, h3⟩ := val_digits s h0 hd s.size (Nat.le_refl _)
    refine ⟨?_, h2⟩
    rw [digs_eq _ (by have := h3 hne; omega), h1, hfull]

def vl (l : List UInt8) : Int := l.foldl (fun n c => n * 10 + ((c.toNat : Int) - 48)) 0
theorem vl_snoc (l : List UInt8) (c : UInt8) : vl (l ++ [c]) = vl l * 10 + ((c.toNat : Int) - 48) := by simp [vl]
theorem valAt_list (l : List UInt8) : ∀ k, k ≤ l.length → valAt ⟨l.toArray⟩ k = vl (l.take k)
  | 0, _ => rfl
  | k + 1, hk => by
    rw [List.take_succ_eq_append_getElem (by omega), vl_snoc, ← valAt_list l k (by omega)]
    simp only [valAt]
    rw [bt_list l k (by omega)]
theorem dchar (m : Nat) : (UInt8.ofNat (48 + m % 10)).toNat = 48 + m % 10 := by
  rw [UInt8.toNat_ofNat']; omega
theorem dg0_facts : ∀ (f n : Nat), n ≤ f → (vl (dg0 n) = n ∧ (∀ c ∈ dg0 n, 48 ≤ c.toNat ∧ c.toNat ≤ 57) ∧ (0 < n → ∃ c t, dg0 n = c :: t ∧ c.toNat ≠ 48))
  | 0, n, h => by
    have : n = 0 := by omega
    subst this
    exact ⟨rfl, by simp [dg0_zero], by omega⟩
  | f + 1, n, h => by
    rcases Nat.eq_zero_or_pos n with rfl | hp
    · exact ⟨rfl, by simp [dg0_zero], by omega⟩
    · obtain ⟨a, b, c⟩ := dg0_facts f (n / 10) (by omega)
      rw [dg0_pos n hp]
      refine ⟨?_, ?_, fun _ => ?_⟩
      · rw [vl_snoc, a, dchar]; omega
      · intro x hx
        rcases List.mem_append.1 hx with hx | hx
        · exact b x hx
        · have : x = UInt8.ofNat (48 + n % 10) := by simpa using hx
          rw [this, dchar]; omega
      · rcases Nat.eq_zero_or_pos (n / 10) with h0 | h0
        · refine ⟨UInt8.ofNat (48 + n % 10), [], by rw [h0, dg0_zero]; rfl, by rw [dchar]; omega⟩
        · obtain ⟨x, t, e, hx⟩ := c h0
          exact ⟨x, t ++ [UInt8.ofNat (48 + n % 10)], by rw [e]; rfl, hx⟩
theorem digs_facts (n : Nat) : ¬ Bad ⟨(digs n).toArray⟩ ∧ valAt ⟨(digs n).toArray⟩ (ByteArray.size ⟨(digs n).toArray⟩) = n := by
  have hsz : ByteArray.size ⟨(digs n).toArray⟩ = (digs n).length := rfl
  rw [hsz, valAt_list _ _ (Nat.le_refl _), List.take_length]
  rcases Nat.eq_zero_or_pos n with rfl | hp
  · refine ⟨?_, rfl⟩
    rintro (h | ⟨_, h⟩ | ⟨j, hj, hn⟩)
    · exact absurd h (by decide)
    · exact absurd h (by decide)
    · have : j = 0 := by rw [hsz] at hj; have : j < 1 := hj; omega
      subst this
      exact hn (by unfold isDg; decide)
  · obtain ⟨a, b, c⟩ := dg0_facts n n (Nat.le_refl _)
    rw [digs_eq n hp] at hsz ⊢
    refine ⟨?_, a⟩
    obtain ⟨x, t, e, hx⟩ := c hp
    rintro (h | ⟨h, _⟩ | ⟨j, hj, hn⟩)
    · rw [hsz, e] at h; simp at h
    · rw [bt_list _ 0 (by rw [e]; simp)] at h
      simp [e] at h
      omega
    · rw [hsz] at hj
      apply hn
      unfold isDg
      rw [bt_list _ j hj]
      have := b _ (List.getElem_mem hj)
      omega
theorem readR_digs (n : Nat) : readR ⟨(digs n).toArray⟩ n = .tuple #[.int .i64 n, .int .i64 0] := by
  obtain ⟨a, b⟩ := digs_facts n
  have := readR_ok (s := ⟨(digs n).toArray⟩) (most := n) (v := n) a (by rw [b]; exact Int.le_refl _) b.symm
  injection this with h
  exact h.symm
theorem readR_digs_less (n : Nat) : readR ⟨(digs n).toArray⟩ ((n : Int) - 1) = .tuple #[.int .i64 0, .int .i64 2] := by
  obtain ⟨a, b⟩ := digs_facts n
  have := readR_over (s := ⟨(digs n).toArray⟩) (most := (n : Int) - 1) a (by rw [b]; omega)
  injection this with h
  exact h.symm

theorem back_neg (n : Int) (s : ByteArray) (w : World) (h1 : -9223372036854775808 ≤ n) (hn : n < 0) (hs : s.size ≤ maxLen) :
    Calls Try.prog 6 #[.int .i64 n, .string s] w fun e w' => e = .returned (.bool true) ∧ Below w.heap.size w w' := by
  have hr : ∃ e : Int, readR s n = .tuple #[.int .i64 0, .int .i64 e] ∧ (e == 0) = false := by
    unfold readR readN
    by_cases hb : Bad s
    · rw [if_pos hb]; exact ⟨3, rfl, rfl⟩
    · have := (digs_val s hb).2
      rw [if_neg hb, if_pos (by omega)]; exact ⟨2, rfl, rfl⟩
  obtain ⟨e, hr, he⟩ := hr
  have h1 := fun w => read_any s n w hs h1 (by omega)
  rw [hr] at h1
  have H1 := Lib.hid h1
  clear h1 hr
  go_enter Try.func6, Try.ntmps6
  go_wp2_with (first
    | (go_at_call 12; refine (H1.out _).mono ?_; rintro e w' ⟨rfl, rfl⟩)
    | (go_at_call 9; refine (show_neg _ _ hn).mono ?_; rintro e w' ⟨rfl, rfl⟩)
    | (go_at_call 11; refine (knows_any _).mono ?_; rintro e w3 ⟨rfl, hb3⟩))
  go_ret
  exact ⟨rfl, hb3⟩

theorem digs_small (n : Nat) (h : n ≤ 9223372036854775807) : ByteArray.size ⟨(digs n).toArray⟩ ≤ maxLen := by
  have := digs_len n (by omega)
  show (digs n).length ≤ maxLen
  unfold maxLen; omega
theorem back_pos (n : Nat) (s : ByteArray) (w : World) (hn : n ≤ 9223372036854775807) (hs : s.size ≤ maxLen) :
    Calls Try.prog 6 #[.int .i64 n, .string s] w fun e w' => e = .returned (.bool true) ∧ Below w.heap.size w w' := by
  have hs1 := digs_small n hn
  have h2 := fun w => read_any ⟨(digs n).toArray⟩ n w hs1 (by omega) (by omega)
  have h3 := fun w => read_any ⟨(digs n).toArray⟩ ((n : Int) - 1) w hs1 (by omega) (by omega)
  rw [readR_digs] at h2
  rw [readR_digs_less] at h3
  have H2 := Lib.hid h2
  have H3 := Lib.hid h3
  have h1 := fun w => read_any s n w hs (by omega) (by omega)
  clear h2 h3 hs1
  by_cases hok : ¬ Bad s ∧ valAt s s.size ≤ n
  · obtain ⟨hb, hv⟩ := hok
    obtain ⟨hd, hv0⟩ := digs_val s hb
    have hr : readR s n = .tuple #[.int .i64 (valAt s s.size), .int .i64 0] := by
      have := readR_ok (s := s) (most := n) hb hv rfl
      injection this with h; exact h.symm
    rw [hr] at h1
    obtain ⟨v, hv1⟩ := Int.eq_ofNat_of_zero_le hv0
    rw [hv1] at h1 hd hv
    have hvn : v ≤ n := by omega
    rw [Int.toNat_natCast] at hd
    have H1 := Lib.hid h1
    have hbt : ((⟨(digs v).toArray⟩ : ByteArray).toList == s.toList) = true := by rw [hd]; simp
    rw [toList_beq] at hbt
    have hne : s.toList = digs v := by rw [← hd, ByteArray.toList_mk]
    clear h1 hr hv0 hv1 hs hb hv hd hbt
    go_enter Try.func6, Try.ntmps6
    go_wp2_with fail
    refine (H1.out _).mono ?_
    rintro e w' ⟨rfl, rfl⟩
    go_wp2_with fail
    refine (show_pos v _ (by omega)).mono ?_
    rintro e w1 ⟨rfl, g1⟩
    go_wp2_with fail
    refine (show_pos n _ hn).mono ?_
    rintro e w2 ⟨rfl, g2⟩
    go_wp2_with fail
    refine (H2.out _).mono ?_
    rintro e w' ⟨rfl, rfl⟩
    go_wp2_with fail
    refine (show_pos n _ hn).mono ?_
    rintro e w3 ⟨rfl, g3⟩
    go_wp2_with fail
    refine (H3.out _).mono ?_
    rintro e w' ⟨rfl, rfl⟩
    go_wp2_with (go_at_call 11; refine (knows_any _).mono ?_; rintro e w7 ⟨rfl, g7⟩)
    go_ret
    have e2 := g1.trans (g2.mono g1.size)
    have e3 := e2.trans (g3.mono e2.size)
    exact ⟨rfl, e3.trans (g7.mono e3.size)⟩
  · have hr : ∃ e : Int, readR s n = .tuple #[.int .i64 0, .int .i64 e] ∧ (e == 0) = false := by
      unfold readR readN
      by_cases hb : Bad s
      · rw [if_pos hb]; exact ⟨3, rfl, rfl⟩
      · have : ¬ valAt s s.size ≤ n := fun h => hok ⟨hb, h⟩
        rw [if_neg hb, if_pos (by omega)]; exact ⟨2, rfl, rfl⟩
    obtain ⟨e, hr, he⟩ := hr
    rw [hr] at h1
    have H1 := Lib.hid h1
    clear h1 hr hs hok
    go_enter Try.func6, Try.ntmps6
    go_wp2_with fail
    refine (H1.out _).mono ?_
    rintro e w' ⟨rfl, rfl⟩
    go_wp2_with fail
    refine (show_pos n _ hn).mono ?_
    rintro e w2 ⟨rfl, g2⟩
    go_wp2_with fail
    refine (H2.out _).mono ?_
    rintro e w' ⟨rfl, rfl⟩
    go_wp2_with fail
    refine (show_pos n _ hn).mono ?_
    rintro e w3 ⟨rfl, g3⟩
    go_wp2_with fail
    refine (H3.out _).mono ?_
    rintro e w' ⟨rfl, rfl⟩
    go_wp2_with (go_at_call 11; refine (knows_any _).mono ?_; rintro e w7 ⟨rfl, g7⟩)
    go_ret
    have e3 := g2.trans (g3.mono g2.size)
    exact ⟨rfl, e3.trans (g7.mono e3.size)⟩
theorem back_walk (n : Int) (s : ByteArray) (w : World) (wf : (Lit.int .i64 n).wf = true) (hs : s.size ≤ maxLen) :
    Calls Try.prog 6 #[.int .i64 n, .string s] w fun e w' => e = .returned (.bool true) ∧ Below w.heap.size w w' := by
  have hb := bounds_i64 wf
  by_cases h : n < 0
  · exact back_neg n s w hb.1 h hs
  · obtain ⟨m, rfl⟩ := Int.eq_ofNat_of_zero_le (by omega : 0 ≤ n)
    exact back_pos m s w (by omega) hs
end Go.Proofs.Ytpkdhdjfpbldhaa
