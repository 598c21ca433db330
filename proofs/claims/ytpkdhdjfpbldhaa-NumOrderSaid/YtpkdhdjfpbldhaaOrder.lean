import Derived.Test.YtpkdhdjfpbldhaaLaws
import Derived.Deep.RegionWith
namespace Go.Proofs.Ytpkdhdjfpbldhaa
open Go.RowKit Go.PlainAid

theorem info3 : (Try.prog.info? 3).map (fun i => (i.zero, i.size, i.bytes)) = some (some (.int .i64 0), 1, 8) := by kernel_rfl

theorem irow_zero {w : World} {a : Option Addr} {xs : List Int} (h : xs = []) : IRow w a 0 xs := by subst h; exact irow_nil w a
theorem irow_take {w : World} {a : Option Addr} {len : Nat} {xs : List Int} (h : IRow w a len xs) {m : Nat} (hm : m ≤ len) : IRow w a m (xs.take m) := by
  obtain ⟨h1, h2, h3, h4⟩ := h
  have hg : ∀ i, i < m → (xs.take m).getD i 0 = xs.getD i 0 := by
    intro i hi
    simp only [List.getD_eq_getElem?_getD, List.getElem?_take, hi, if_true]
  refine ⟨by simp; omega, by omega, ?_, fun hp => ?_⟩
  · intro i
    rcases Nat.lt_or_ge i m with hh | hh
    · rw [hg i hh]; exact h3 i
    · have : (xs.take m)[i]? = none := by simp; omega
      simp [List.getD_eq_getElem?_getD, this]
  · obtain ⟨b, off, ha, hb, hc⟩ := h4 (by omega)
    exact ⟨b, off, ha, hb, fun i hi => by rw [hg i hi]; exact hc i (by omega)⟩
theorem irow_drop {w : World} {a : Option Addr} {len : Nat} {xs : List Int} (h : IRow w a len xs) {m : Nat} (hm : m ≤ len) :
    IRow w (Option.map (fun x => x.add m) a) (len - m) (xs.drop m) := by
  obtain ⟨h1, h2, h3, h4⟩ := h
  have hg : ∀ i, (xs.drop m).getD i 0 = xs.getD (m + i) 0 := by
    intro i
    simp only [List.getD_eq_getElem?_getD, List.getElem?_drop]
  refine ⟨by simp; omega, by omega, fun i => by rw [hg]; exact h3 _, fun hp => ?_⟩
  obtain ⟨b, off, ha, hb, hcc⟩ := h4 (by omega)
  rw [ha]
  refine ⟨b, off + m, ?_, hb, fun i hi => by rw [hg, Nat.add_assoc]; exact hcc _ (by omega)⟩
  simp only [Option.map_some]
  unfold Addr.add; split <;> simp_all

theorem own_form {w : World} {base : Nat} {e : TypeId} {size : Nat} {v : Value} {n : Nat} {xs : List Value} (h : w.ownsRow base e size v n xs) : ∃ A c, v = .slice A n c := by
  rcases h.2 with ⟨rfl, rfl⟩ | ⟨g, cap, cur, rfl, _⟩
  · exact ⟨_, _, rfl⟩
  · exact ⟨_, _, rfl⟩
theorem irow_own {w : World} {base n c : Nat} {A : Option Addr} {xs : List Int} (h : w.ownsRow base 3 1 (.slice A n c) n (xs.map (Value.int .i64))) (hn : n ≤ 9223372036854775807)
    (hb : ∀ i, -9223372036854775808 ≤ xs.getD i 0 ∧ xs.getD i 0 ≤ 9223372036854775807) : IRow w A n xs := by
  have hl : xs.length = n := by have := h.1; simpa using this
  refine ⟨hl, hn, hb, fun hp => ?_⟩
  rcases h.2 with ⟨_, h0⟩ | ⟨g, cap, cur, hv, _, hg, _⟩
  · omega
  · injection hv with hA
    subst hA
    refine ⟨g, 0, rfl, ?_, fun i hi => ?_⟩
    · exact (h.lt g rfl).2
    · have := h.cells (g := g) rfl i (.int .i64 (xs.getD i 0)) (by
        rw [List.getElem?_map, List.getElem?_eq_getElem (by omega)]
        simp [List.getD_eq_getElem?_getD, List.getElem?_eq_getElem (show i < xs.length by omega)])
      have e : (⟨g, 0, none⟩ : Addr).add i = ⟨g, 0 + i, none⟩ := by unfold Addr.add; split <;> simp_all
      rwa [e] at this
theorem getD_rev {xs : List Int} (h : ∀ i, -9223372036854775808 ≤ xs.getD i 0 ∧ xs.getD i 0 ≤ 9223372036854775807) (i : Nat) : -9223372036854775808 ≤ xs.reverse.getD i 0 ∧ xs.reverse.getD i 0 ≤ 9223372036854775807 := by
  rcases Nat.lt_or_ge i xs.length with hi | hi
  · have := h (xs.length - 1 - i)
    rw [List.getD_eq_getElem?_getD, List.getElem?_reverse hi, ← List.getD_eq_getElem?_getD]; exact this
  · rw [List.getD_eq_getElem?_getD, List.getElem?_eq_none (by simpa using hi)]; simp
theorem irow_two (w : World) (x y : Int) (hx : -9223372036854775808 ≤ x ∧ x ≤ 9223372036854775807) (hy : -9223372036854775808 ≤ y ∧ y ≤ 9223372036854775807) :
    IRow (w.alloc (.cells #[.int .i64 x, .int .i64 y] 3)) (some ⟨w.heap.size, 0, none⟩) 2 [x, y] := by
  refine ⟨rfl, by decide, ?_, fun _ => ⟨_, 0, rfl, by simp, ?_⟩⟩
  · intro i
    match i with
    | 0 => exact hx
    | 1 => exact hy
    | n + 2 => simp
  · intro i hi
    rw [cell_new]
    match i, hi with
    | 0, _ => rfl
    | 1, _ => rfl
theorem capN_bd (top : Int) (xs : List Int) (h1 : top ≤ 9223372036854775807) : -9223372036854775808 ≤ capN top xs ∧ capN top xs ≤ 9223372036854775807 := by
  have := posSum_nonneg xs
  unfold capN; split <;> omega
theorem capN_le (top : Int) (xs : List Int) : capN top xs ≤ (if top < 0 then 0 else top) := by
  unfold capN; split <;> omega
theorem posSum_rev : ∀ xs, posSum xs.reverse = posSum xs
  | [] => rfl
  | x :: l => by rw [List.reverse_cons, posSum_append, posSum_rev l]; simp only [posSum]; omega
theorem capN_rev (top : Int) (xs : List Int) : (capN top xs == capN top xs.reverse) = true := by
  unfold capN; rw [posSum_rev]; simp
theorem capN_two (top : Int) (xs : List Int) (M : Nat) : (capN top xs == capN top [capN top (xs.take M), capN top (xs.drop M)]) = true := by
  have h := posSum_append (xs.take M) (xs.drop M)
  rw [List.take_append_drop] at h
  have h1 := posSum_nonneg (xs.take M)
  have h2 := posSum_nonneg (xs.drop M)
  rw [beq_iff_eq]
  unfold capN
  split
  · rfl
  · simp only [posSum]; omega

set_option maxHeartbeats 2000000 in
theorem order_walk (top : Int) (a : Option Addr) (len cap : Nat) (xs : List Int) (k : Int) (w : World) (wf : (Lit.int .i64 top).wf = true) (h : IRow w a len xs) (hr : len * 8 ≤ 140737488351232) (hcap : len ≤ cap) (hcap2 : cap ≤ maxLen)
    (wk : (Lit.int .u8 k).wf = true) :
    Calls Try.prog 7 #[.int .i64 top, .slice a len cap, .int .u8 k] w fun e w' => e = .returned (.bool true) ∧ Below w.heap.size w w' := by
  have hb := bounds_i64 wf
  have hk := bounds_u8 wk
  obtain ⟨i0, hi, hz0, hz1, hz2⟩ := info_parts info3
  obtain ⟨kk, rfl⟩ := Int.eq_ofNat_of_zero_le hk.1
  unfold maxLen at hcap2
  go_enter Try.func7, Try.ntmps7
  go_wp2
  go_loopw [7, 8] (fun v i wr => ∃ m : Nat, m ≤ len ∧ i = .int .i64 ((len : Int) - 1 - m) ∧ wr.ownsRow w.heap.size 3 1 v m ((xs.drop (len - m)).reverse.map (Value.int .i64)) ∧ Below w.heap.size w wr) (fun _ i _ => (intOf i + 1).toNat)
  case atStart => exact ⟨0, by omega, by go_num, by
    have := World.ownsRow_made (base := w.heap.size) (e := 3) (size := 1) w #[] 0 (Nat.le_refl _) (by decide) (by simp)
    rw [List.drop_of_length_le (by rw [h.1]; omega)]
    simpa using this, (Below.refl _ _).alloc (Nat.le_refl _) _⟩
  case round =>
    obtain ⟨m, hm, rfl, hown, hbw⟩ := hrel
    by_cases hlt : m < len
    · obtain ⟨b, off, rfl, hbl, hcell⟩ := h.2.2.2 (by omega)
      have hc : wr.cell? ⟨b, off + (len - 1 - m), none⟩ = some (.int .i64 (xs.getD (len - 1 - m) 0)) := (hbw.cell (p := ⟨b, off + (len - 1 - m), none⟩) hbl).trans (hcell _ (by omega))
      have hl := h.1
      have hsnoc : (xs.drop (len - (m + 1))).reverse.map (Value.int .i64) = (xs.drop (len - m)).reverse.map (Value.int .i64) ++ [.int .i64 (xs.getD (len - 1 - m) 0)] := by
        have e1 : len - (m + 1) = len - 1 - m := by omega
        have e2 : len - m = len - 1 - m + 1 := by omega
        have hlt2 : len - 1 - m < xs.length := by omega
        have e3 : xs.getD (len - 1 - m) 0 = xs[len - 1 - m] := by simp [List.getD_eq_getElem?_getD, List.getElem?_eq_getElem hlt2]
        rw [e1, e2, List.drop_eq_getElem_cons hlt2, e3, List.reverse_cons, List.map_append]
        rfl
      have Hs := Lib.hid hsnoc
      have Hl := Lib.hid hl
      clear hcell hsnoc hl
      obtain ⟨x, hx⟩ : ∃ x, xs.getD (len - 1 - m) 0 = x := ⟨_, rfl⟩
      rw [hx] at hc Hs
      clear hx
      have t1 : [Value.int .i64 x].length = 1 * 1 := rfl
      have t2 := (cell_one_new (wr) (.int .i64 x) 3)
      have t3 : ∀ u ∈ [Value.int .i64 x], u.oneCell' = true := (by simp [Value.oneCell'])
      have t4 : m + 1 ≤ maxLen := (by unfold maxLen; omega)
      have t5 : (m + 1) * 8 ≤ 140737488355328 := (by omega)
      have t6 : w.heap.size ≤ (wr.alloc (.cells #[.int .i64 x] 3)).heap.size := (by have := hbw.size; simp; omega)
      have hh := Lib.hid fun ops rest o a Q hg s x' ho hs hx => @wpList_append_own Try.prog (wr.alloc (.cells #[.int .i64 x] 3)) ops rest o a Q hg s x' 29 ho w.heap.size 3 i0 (.int .i64 0) 1 8 Try.underlying29 hi hz0 hz1 hz2 rfl (by decide) u7 m _ hs (hown.alloc _) ⟨wr.heap.size, 0, none⟩ 1 1 [.int .i64 x] hx t1 t2 t3 t4 t5 t6
      clear t1 t2 t3 t4 t5 t6
      go_wp2_with (at_builtin; refine hh.out _ _ _ _ _ rfl _ _ rfl rfl rfl ?_; intro v' w1 hown1 hg1 hnil1)
      have g1 : Below w.heap.size w w1 := (hbw.alloc hbw.size _).grown hg1 (hbw.alloc hbw.size _).size (fun k hk => (hown.lt k hk).1)
      go_roundw
      case rel => exact ⟨m + 1, by omega, by go_num, by rw [Hs.out]; exact hown1, g1⟩
      case measure => simp [intOf]; omega
    · have hI := fun (w1 : World) (h1 : Below w.heap.size w w1) => h.below h1
      have hmlen : m = len := by omega
      have hm' : m ≤ 9223372036854775807 := by omega
      have HT := Lib.hid fun (M : Nat) (hM : M ≤ len) (c : Nat) (w1 : World) (h1 : Below w.heap.size w w1) => cap_any top w1 a M c (xs.take M) (irow_take (hI w1 h1) hM) hb.1 hb.2
      have HZ := Lib.hid fun (A : Option Addr) (c : Nat) (w1 : World) (h1 : Below w.heap.size w w1) => cap_any top w1 A 0 c (xs.drop len) (irow_zero (by rw [List.drop_of_length_le (by rw [h.1]; omega)])) hb.1 hb.2
      have HD := Lib.hid fun (M : Nat) (hM : M ≤ len) (c : Nat) (w1 : World) (h1 : Below w.heap.size w w1) => cap_any top w1 _ _ c (xs.drop M) (irow_drop (hI w1 h1) hM) hb.1 hb.2
      subst hmlen
      rw [Nat.sub_self, List.drop_zero] at hown
      obtain ⟨A, c, rfl⟩ := own_form hown
      have hIR := irow_own hown hm' (getD_rev h.2.2.1)
      have HR := Lib.hid fun (w1 : World) (h1 : Below wr.heap.size wr w1) => cap_any top w1 A m c xs.reverse (hIR.below h1) hb.1 hb.2
      have HA := Lib.hid fun (w1 : World) (h1 : Below w.heap.size w w1) => cap_any top w1 a m cap xs (h.below h1) hb.1 hb.2
      have HE := Lib.hid fun (x y : Int) (w1 : World) (hx : -9223372036854775808 ≤ x ∧ x ≤ 9223372036854775807) (hy : -9223372036854775808 ≤ y ∧ y ≤ 9223372036854775807) =>
        cap_any top _ _ 2 2 [x, y] (irow_two w1 x y hx hy) hb.1 hb.2
      have q1 := capN_rev top xs
      have q2 := capN_le top xs
      have Hb := Lib.hid fun ys => capN_bd top ys hb.2
      have Ht := Lib.hid h
      clear hI
      have hcase : (m < kk ∨ m = kk) ∨ kk < m := by omega
      rcases hcase with hkk | hkk
      · have hmin : ((if (m : Int) < (kk : Int) then (m : Int) else (kk : Int)) = m) := by split <;> omega
        rcases hkk with hkk | rfl
        · clear hmin
          by_cases hcm : cap = m
          · subst hcm
            go_wp2
            go_region_with (first
              | (go_at_call 14; (with_reducible refine (HT.out _ (by omega) _ _ ?_).mono ?_); exact hbw.drew; rintro e w1 ⟨rfl, g1⟩)
              | (go_at_call 14; (with_reducible refine (HZ.out _ _ _ ?_).mono ?_); exact hbw.drew.trans (g1.mono hbw.drew.size); rintro e w2 ⟨rfl, g2⟩))
            have q3 := capN_two top xs cap
            have f1 := hbw.drew.trans (g1.mono hbw.drew.size)
            have f2 := f1.trans (g2.mono f1.size)
            have f3 := (g1.trans (g2.mono g1.size))
            go_wp2_with fail
            ((with_reducible refine (HA.out _ ?_).mono ?_))
            · exact f2
            rintro e w3 ⟨rfl, g3⟩
            go_wp2_with fail
            ((with_reducible refine (HR.out _ ?_).mono ?_))
            · exact (Below.refl _ _).drew.trans (f3.trans (g3.mono f3.size))
            rintro e w4 ⟨rfl, g4⟩
            go_wp2_with fail
            ((with_reducible refine (HE.out _ _ _ ?_ ?_).mono ?_))
            · exact Hb.out _
            · exact Hb.out _
            rintro e w5 ⟨rfl, g5⟩
            have f4 := f2.trans (g3.mono f2.size)
            have f5 := f4.trans (g4.mono f4.size)
            have f6 := (f5.alloc f5.size _).trans (g5.mono (f5.alloc f5.size _).size)
            clear HT HZ HD HR HA HE
            by_cases htop : top < 0
            · rw [if_pos htop] at q2
              go_wp2_with fail
              refine (knows_any _).mono ?_
              rintro e w6 ⟨rfl, g6⟩
              go_wp2_with fail
              go_ret
              exact ⟨rfl, f6.trans (g6.mono f6.size)⟩
            · rw [if_neg htop] at q2
              go_wp2_with fail
              refine (knows_any _).mono ?_
              rintro e w6 ⟨rfl, g6⟩
              go_wp2_with fail
              go_ret
              exact ⟨rfl, f6.trans (g6.mono f6.size)⟩
          · have hcm' : ¬ m = cap := fun e => hcm e.symm
            go_wp2
            go_region_with (first
              | (go_at_call 14; (with_reducible refine (HT.out _ (by omega) _ _ ?_).mono ?_); exact hbw.drew; rintro e w1 ⟨rfl, g1⟩)
              | (go_at_call 14; (with_reducible refine (HZ.out _ _ _ ?_).mono ?_); exact hbw.drew.trans (g1.mono hbw.drew.size); rintro e w2 ⟨rfl, g2⟩))
            have q3 := capN_two top xs m
            have f1 := hbw.drew.trans (g1.mono hbw.drew.size)
            have f2 := f1.trans (g2.mono f1.size)
            have f3 := (g1.trans (g2.mono g1.size))
            go_wp2_with fail
            ((with_reducible refine (HA.out _ ?_).mono ?_))
            · exact f2
            rintro e w3 ⟨rfl, g3⟩
            go_wp2_with fail
            ((with_reducible refine (HR.out _ ?_).mono ?_))
            · exact (Below.refl _ _).drew.trans (f3.trans (g3.mono f3.size))
            rintro e w4 ⟨rfl, g4⟩
            go_wp2_with fail
            ((with_reducible refine (HE.out _ _ _ ?_ ?_).mono ?_))
            · exact Hb.out _
            · exact Hb.out _
            rintro e w5 ⟨rfl, g5⟩
            have f4 := f2.trans (g3.mono f2.size)
            have f5 := f4.trans (g4.mono f4.size)
            have f6 := (f5.alloc f5.size _).trans (g5.mono (f5.alloc f5.size _).size)
            clear HT HZ HD HR HA HE
            by_cases htop : top < 0
            · rw [if_pos htop] at q2
              go_wp2_with fail
              refine (knows_any _).mono ?_
              rintro e w6 ⟨rfl, g6⟩
              go_wp2_with fail
              go_ret
              exact ⟨rfl, f6.trans (g6.mono f6.size)⟩
            · rw [if_neg htop] at q2
              go_wp2_with fail
              refine (knows_any _).mono ?_
              rintro e w6 ⟨rfl, g6⟩
              go_wp2_with fail
              go_ret
              exact ⟨rfl, f6.trans (g6.mono f6.size)⟩
        · clear hmin
          by_cases hcm : cap = m
          · subst hcm
            go_wp2
            go_region_with (first
              | (go_at_call 14; (with_reducible refine (HT.out _ (by omega) _ _ ?_).mono ?_); exact hbw.drew; rintro e w1 ⟨rfl, g1⟩)
              | (go_at_call 14; (with_reducible refine (HZ.out _ _ _ ?_).mono ?_); exact hbw.drew.trans (g1.mono hbw.drew.size); rintro e w2 ⟨rfl, g2⟩))
            have q3 := capN_two top xs cap
            have f1 := hbw.drew.trans (g1.mono hbw.drew.size)
            have f2 := f1.trans (g2.mono f1.size)
            have f3 := (g1.trans (g2.mono g1.size))
            go_wp2_with fail
            ((with_reducible refine (HA.out _ ?_).mono ?_))
            · exact f2
            rintro e w3 ⟨rfl, g3⟩
            go_wp2_with fail
            ((with_reducible refine (HR.out _ ?_).mono ?_))
            · exact (Below.refl _ _).drew.trans (f3.trans (g3.mono f3.size))
            rintro e w4 ⟨rfl, g4⟩
            go_wp2_with fail
            ((with_reducible refine (HE.out _ _ _ ?_ ?_).mono ?_))
            · exact Hb.out _
            · exact Hb.out _
            rintro e w5 ⟨rfl, g5⟩
            have f4 := f2.trans (g3.mono f2.size)
            have f5 := f4.trans (g4.mono f4.size)
            have f6 := (f5.alloc f5.size _).trans (g5.mono (f5.alloc f5.size _).size)
            clear HT HZ HD HR HA HE
            by_cases htop : top < 0
            · rw [if_pos htop] at q2
              go_wp2_with fail
              refine (knows_any _).mono ?_
              rintro e w6 ⟨rfl, g6⟩
              go_wp2_with fail
              go_ret
              exact ⟨rfl, f6.trans (g6.mono f6.size)⟩
            · rw [if_neg htop] at q2
              go_wp2_with fail
              refine (knows_any _).mono ?_
              rintro e w6 ⟨rfl, g6⟩
              go_wp2_with fail
              go_ret
              exact ⟨rfl, f6.trans (g6.mono f6.size)⟩
          · have hcm' : ¬ m = cap := fun e => hcm e.symm
            go_wp2
            go_region_with (first
              | (go_at_call 14; (with_reducible refine (HT.out _ (by omega) _ _ ?_).mono ?_); exact hbw.drew; rintro e w1 ⟨rfl, g1⟩)
              | (go_at_call 14; (with_reducible refine (HZ.out _ _ _ ?_).mono ?_); exact hbw.drew.trans (g1.mono hbw.drew.size); rintro e w2 ⟨rfl, g2⟩))
            have q3 := capN_two top xs m
            have f1 := hbw.drew.trans (g1.mono hbw.drew.size)
            have f2 := f1.trans (g2.mono f1.size)
            have f3 := (g1.trans (g2.mono g1.size))
            go_wp2_with fail
            ((with_reducible refine (HA.out _ ?_).mono ?_))
            · exact f2
            rintro e w3 ⟨rfl, g3⟩
            go_wp2_with fail
            ((with_reducible refine (HR.out _ ?_).mono ?_))
            · exact (Below.refl _ _).drew.trans (f3.trans (g3.mono f3.size))
            rintro e w4 ⟨rfl, g4⟩
            go_wp2_with fail
            ((with_reducible refine (HE.out _ _ _ ?_ ?_).mono ?_))
            · exact Hb.out _
            · exact Hb.out _
            rintro e w5 ⟨rfl, g5⟩
            have f4 := f2.trans (g3.mono f2.size)
            have f5 := f4.trans (g4.mono f4.size)
            have f6 := (f5.alloc f5.size _).trans (g5.mono (f5.alloc f5.size _).size)
            clear HT HZ HD HR HA HE
            by_cases htop : top < 0
            · rw [if_pos htop] at q2
              go_wp2_with fail
              refine (knows_any _).mono ?_
              rintro e w6 ⟨rfl, g6⟩
              go_wp2_with fail
              go_ret
              exact ⟨rfl, f6.trans (g6.mono f6.size)⟩
            · rw [if_neg htop] at q2
              go_wp2_with fail
              refine (knows_any _).mono ?_
              rintro e w6 ⟨rfl, g6⟩
              go_wp2_with fail
              go_ret
              exact ⟨rfl, f6.trans (g6.mono f6.size)⟩
      · have hcm : ¬ cap = kk := by omega
        have hkl : kk ≤ m := by omega
        go_wp2
        go_region_with (first
          | (go_at_call 14; (with_reducible refine (HT.out _ (by omega) _ _ ?_).mono ?_); exact hbw.drew; rintro e w1 ⟨rfl, g1⟩)
          | (go_at_call 14; (with_reducible refine (HD.out kk hkl _ _ ?_).mono ?_); exact hbw.drew.trans (g1.mono hbw.drew.size); rintro e w2 ⟨rfl, g2⟩))
        have q3 := capN_two top xs kk
        have f1 := hbw.drew.trans (g1.mono hbw.drew.size)
        have f2 := f1.trans (g2.mono f1.size)
        have f3 := (g1.trans (g2.mono g1.size))
        go_wp2_with fail
        ((with_reducible refine (HA.out _ ?_).mono ?_))
        · exact f2
        rintro e w3 ⟨rfl, g3⟩
        go_wp2_with fail
        ((with_reducible refine (HR.out _ ?_).mono ?_))
        · exact (Below.refl _ _).drew.trans (f3.trans (g3.mono f3.size))
        rintro e w4 ⟨rfl, g4⟩
        go_wp2_with fail
        ((with_reducible refine (HE.out _ _ _ ?_ ?_).mono ?_))
        · exact Hb.out _
        · exact Hb.out _
        rintro e w5 ⟨rfl, g5⟩
        have f4 := f2.trans (g3.mono f2.size)
        have f5 := f4.trans (g4.mono f4.size)
        have f6 := (f5.alloc f5.size _).trans (g5.mono (f5.alloc f5.size _).size)
        clear HT HZ HD HR HA HE
        by_cases htop : top < 0
        · rw [if_pos htop] at q2
          go_wp2_with fail
          refine (knows_any _).mono ?_
          rintro e w6 ⟨rfl, g6⟩
          go_wp2_with fail
          go_ret
          exact ⟨rfl, f6.trans (g6.mono f6.size)⟩
        · rw [if_neg htop] at q2
          go_wp2_with fail
          refine (knows_any _).mono ?_
          rintro e w6 ⟨rfl, g6⟩
          go_wp2_with fail
          go_ret
          exact ⟨rfl, f6.trans (g6.mono f6.size)⟩
theorem order_walk2 (top : Int) (a : Option Addr) (len cap : Nat) (xs : List Int) (k : Int) (w : World) (wf : (Lit.int .i64 top).wf = true) (h : IRow w a len xs) (hr : len * 8 ≤ 140737488351232) (hcap : len ≤ cap) (hcap2 : cap ≤ maxLen)
    (wk : (Lit.int .u8 k).wf = true) :
    Calls Try.prog 7 #[.int .i64 top, .slice a len cap, .int .u8 k] w fun e w' => e = .returned (.bool true) ∧ Below w.heap.size w w' := order_walk top a len cap xs k w wf h hr hcap hcap2 wk
end Go.Proofs.Ytpkdhdjfpbldhaa
