/- Several texts in one: Bnd, Facts, BndS, RefB. -/
import Derived.Test.YtbefndibkpjgaaaTw2
import Derived.Test.YtbefndibkpjgaaaTw3
import Derived.Test.YtbefndibkpjgaaaTw1
import Derived.Test.YtbefndibkpjgaaaTw8
/- The document's shortest and longest word of a part. -/
namespace Go.Proofs.Ytbefndibkpjgaaa
open Go.RowKit
set_option linter.unusedVariables false

attribute [local go_sem ↓] eqS_eq eqS_eq'
theorem sh_range (T : RxT) : -2 ≤ shT T ∧ shT T ≤ (post T).length := by
  rcases same_fact T with ⟨_, s, _⟩ | ⟨lo, hi, _, _, _, _, s, _, _, _, l1, l2⟩ <;> rw [s] <;> omega
theorem lo_range (T : RxT) : -2 ≤ loT T ∧ loT T ≤ (post T).length := by
  rcases same_fact T with ⟨_, _, s, _⟩ | ⟨lo, hi, mo, _, _, _, _, s, _, _, l1, l2⟩ <;> rw [s]
  · omega
  · cases mo <;> simp <;> omega
theorem PartAt.short_le {l : List Rx} {i base : Nat} {T : RxT} (h : PartAt l i base T) : -2 ≤ shT T ∧ shT T ≤ (l.length : Int) := by
  obtain ⟨p, q, rfl, _, _⟩ := h
  have := sh_range T
  simp only [List.length_append]; omega
theorem PartAt.long_le {l : List Rx} {i base : Nat} {T : RxT} (h : PartAt l i base T) : -2 ≤ loT T ∧ loT T ≤ (l.length : Int) := by
  obtain ⟨p, q, rfl, _, _⟩ := h
  have := lo_range T
  simp only [List.length_append]; omega
theorem PartAt.one {l : List Rx} {i base : Nat} {T : RxT} {r : Rx} (h : PartAt l i base T) (hT : post T = [r]) : l[i]? = some r := by
  obtain ⟨p, q, rfl, hi, _⟩ := h
  rw [hT] at hi ⊢
  simp only [List.length_singleton] at hi
  obtain rfl : i = p.length := by omega
  simp
theorem step_one {w : World} {a : Option Addr} {n : Nat} {l : List Rx} (h : CRow rxC 5 w a n l) {i base : Nat} {T : RxT} {r : Rx} (hp : PartAt l i base T) (hT : post T = [r]) : ∃ b off, i < n ∧ a = some ⟨b, off, none⟩ ∧ w.cell? ⟨b, off + i * 5, none⟩ = some (.int .i64 r.k) ∧
    w.cell? ⟨b, off + i * 5 + 1, none⟩ = some (.int .u64 (wd r.s 0)) ∧ w.cell? ⟨b, off + i * 5 + 2, none⟩ = some (.int .u64 (wd r.s 1)) ∧ w.cell? ⟨b, off + i * 5 + 3, none⟩ = some (.int .u64 (wd r.s 2)) ∧ w.cell? ⟨b, off + i * 5 + 4, none⟩ = some (.int .u64 (wd r.s 3)) := by
  have hin : i < n := by rw [← h.1]; exact hp.lt
  obtain ⟨b, off, x, ha, hb, hx, c⟩ := h.kind hin
  rw [hp.one hT] at hx
  obtain rfl := Option.some.inj hx
  exact ⟨b, off, hin, ha, c⟩
theorem step_set {w : World} {a : Option Addr} {n : Nat} {l : List Rx} (h : CRow rxC 5 w a n l) {i base : Nat} {S : Nat → Bool} (hp : PartAt l i base (.set S)) : ∃ b off, i < n ∧ a = some ⟨b, off, none⟩ ∧ w.cell? ⟨b, off + i * 5, none⟩ = some (.int .i64 1) ∧
    w.cell? ⟨b, off + i * 5 + 1, none⟩ = some (.int .u64 (wd S 0)) ∧ w.cell? ⟨b, off + i * 5 + 2, none⟩ = some (.int .u64 (wd S 1)) ∧ w.cell? ⟨b, off + i * 5 + 3, none⟩ = some (.int .u64 (wd S 2)) ∧ w.cell? ⟨b, off + i * 5 + 4, none⟩ = some (.int .u64 (wd S 3)) := step_one h hp rfl
theorem step_empty {w : World} {a : Option Addr} {n : Nat} {l : List Rx} (h : CRow rxC 5 w a n l) {i base : Nat} (hp : PartAt l i base .empty) : ∃ b off, i < n ∧ a = some ⟨b, off, none⟩ ∧ w.cell? ⟨b, off + i * 5, none⟩ = some (.int .i64 2) ∧
    w.cell? ⟨b, off + i * 5 + 1, none⟩ = some (.int .u64 (wd emptyS 0)) ∧ w.cell? ⟨b, off + i * 5 + 2, none⟩ = some (.int .u64 (wd emptyS 1)) ∧ w.cell? ⟨b, off + i * 5 + 3, none⟩ = some (.int .u64 (wd emptyS 2)) ∧ w.cell? ⟨b, off + i * 5 + 4, none⟩ = some (.int .u64 (wd emptyS 3)) := step_one h hp rfl
set_option maxHeartbeats 4000000 in
theorem short_any (w : World) (a : Option Addr) (n c : Nat) (l : List Rx) (h : CRow rxC 5 w a n l) (hn : n ≤ 100000) : ∀ (T : RxT) (i base : Nat), PartAt l i base T →
    Calls Try.prog 40 #[.slice a n c, .int .i64 (i : Int)] w fun e w' => e = .returned (.int .i64 (shT T)) ∧ w = w' := by
  intro T
  induction T with
  | set S =>
    intro i base hp
    obtain ⟨b, off, hin, rfl, c0, c1, c2, c3, c4⟩ := step_set h hp
    have hqe := fun w => run_eqS (wd S 0) (wd S 1) (wd S 2) (wd S 3) 0 0 0 0 w
    obtain ⟨z, hz⟩ : ∃ z, zS S = z := ⟨_, rfl⟩
    have HZ := Lib.hid hz
    unfold zS at hz
    rw [hz] at hqe
    have z1 : (i : Int) < (n : Int) := by omega
    have z0 : (0 : Int) ≤ (i : Int) := by omega
    obtain ⟨W0, hW0⟩ : ∃ x, wd S 0 = x := ⟨_, rfl⟩
    obtain ⟨W1, hW1⟩ : ∃ x, wd S 1 = x := ⟨_, rfl⟩
    obtain ⟨W2, hW2⟩ : ∃ x, wd S 2 = x := ⟨_, rfl⟩
    obtain ⟨W3, hW3⟩ : ∃ x, wd S 3 = x := ⟨_, rfl⟩
    rw [hW0] at c1 hqe
    rw [hW1] at c2 hqe
    rw [hW2] at c3 hqe
    rw [hW3] at c4 hqe
    clear h hp hz hW0 hW1 hW2 hW3
    cases z with
    | true =>
      have HE : Hid (shT (.set S) = -1) := Lib.hid (by simp only [shT]; rw [HZ.out]; rfl)
      go_enter Try.func40, Try.ntmps40
      go_wp2_with fail
      go_ret
      exact ⟨ret_int (by rw [HE.out]), rfl⟩
    | false =>
      have HE : Hid (shT (.set S) = 1) := Lib.hid (by simp only [shT]; rw [HZ.out]; rfl)
      go_enter Try.func40, Try.ntmps40
      go_wp2_with fail
      go_ret
      exact ⟨ret_int (by rw [HE.out]), rfl⟩
  | empty =>
    intro i base hp
    obtain ⟨b, off, rfl, hin, c0⟩ := step_at h hp
    replace c0 : w.cell? ⟨b, off + i * 5, none⟩ = some (.int .i64 2) := c0
    have z1 : (i : Int) < (n : Int) := by omega
    have z0 : (0 : Int) ≤ (i : Int) := by omega
    have HE : Hid (shT .empty = 0) := Lib.hid rfl
    clear h hp
    go_enter Try.func40, Try.ntmps40
    go_wp2_with fail
    go_ret
    exact ⟨ret_int (by rw [HE.out]), rfl⟩
  | star x ihx =>
    intro i base hp
    obtain ⟨b, off, rfl, hin, c0⟩ := step_at h hp
    replace c0 : w.cell? ⟨b, off + i * 5, none⟩ = some (.int .i64 5) := c0
    have z1 : (i : Int) < (n : Int) := by omega
    have z0 : (0 : Int) ≤ (i : Int) := by omega
    have HE : Hid (shT (.star x) = 0) := Lib.hid rfl
    clear h hp ihx
    go_enter Try.func40, Try.ntmps40
    go_wp2_with fail
    go_ret
    exact ⟨ret_int (by rw [HE.out]), rfl⟩
  | plus x ihx =>
    intro i base hp
    obtain ⟨b, off, rfl, hin, c0⟩ := step_at h hp
    replace c0 : w.cell? ⟨b, off + i * 5, none⟩ = some (.int .i64 6) := c0
    obtain ⟨h1, hpx⟩ := hp.last1 (k := 6) rfl
    have HX := Lib.hid (ihx (i - 1) base hpx)
    have z1 : (i : Int) < (n : Int) := by omega
    have z0 : (0 : Int) ≤ (i : Int) := by omega
    obtain ⟨j, rfl⟩ : ∃ j, i = j + 1 := ⟨i - 1, by omega⟩
    rw [Nat.add_sub_cancel] at HX
    have z2 : (((j + 1 : Nat) : Int) - 1) = (j : Int) := by omega
    have z3 : ((j : Int) + 1 - 1) = (j : Int) := by omega
    obtain ⟨sx, hsx⟩ : ∃ s, shT x = s := ⟨_, rfl⟩
    rw [hsx] at HX
    have HSX := Lib.hid hsx
    clear h hp ihx hpx hsx
    go_enter Try.func40, Try.ntmps40
    go_wp2_with fail
    refine HX.out.mono ?_
    rintro e w' ⟨rfl, rfl⟩
    have HE : Hid (shT (.plus x) = sx) := Lib.hid HSX.out
    go_wp2_with fail
    go_ret
    exact ⟨ret_int (by rw [HE.out]), rfl⟩
  | opt x ihx =>
    intro i base hp
    obtain ⟨b, off, rfl, hin, c0⟩ := step_at h hp
    replace c0 : w.cell? ⟨b, off + i * 5, none⟩ = some (.int .i64 7) := c0
    have z1 : (i : Int) < (n : Int) := by omega
    have z0 : (0 : Int) ≤ (i : Int) := by omega
    have HE : Hid (shT (.opt x) = 0) := Lib.hid rfl
    clear h hp ihx
    go_enter Try.func40, Try.ntmps40
    go_wp2_with fail
    go_ret
    exact ⟨ret_int (by rw [HE.out]), rfl⟩
  | cat x y ihx ihy =>
    intro i base hp
    obtain ⟨b, off, rfl, hin, c0⟩ := step_at h hp
    replace c0 : w.cell? ⟨b, off + i * 5, none⟩ = some (.int .i64 3) := c0
    obtain ⟨h1, hpy, h2, hpx⟩ := hp.last2 (k := 3) rfl
    have HY := Lib.hid (ihy (i - 1) _ hpy)
    have HB := Lib.hid (rbegin_any w _ n c l h hn y (i - 1) _ hpy)
    have HX := Lib.hid (ihx _ _ hpx)
    have hp1 := post_pos y
    have hrx := hpx.short_le
    have hry := hpy.short_le
    have hl9 := h.1
    have z1 : (i : Int) < (n : Int) := by omega
    have z0 : (0 : Int) ≤ (i : Int) := by omega
    obtain ⟨j, rfl⟩ : ∃ j, i = j + 1 := ⟨i - 1, by omega⟩
    rw [Nat.add_sub_cancel] at HY HB
    obtain ⟨m, hm⟩ : ∃ m, j + 1 - (post y).length = m + 1 := ⟨j + 1 - (post y).length - 1, by omega⟩
    rw [show j + 1 - (post y).length - 1 = m by omega] at HX
    rw [hm] at HB
    have z2 : (((j + 1 : Nat) : Int) - 1) = (j : Int) := by omega
    have z3 : ((j : Int) + 1 - 1) = (j : Int) := by omega
    have z4 : ((m : Int) + 1 - 1) = (m : Int) := by omega
    have hmb : m ≤ 200000 := by omega
    obtain ⟨sx, hsx⟩ : ∃ s, shT x = s := ⟨_, rfl⟩
    obtain ⟨sy, hsy⟩ : ∃ s, shT y = s := ⟨_, rfl⟩
    rw [hsx] at HX hrx
    rw [hsy] at HY hry
    have HSX := Lib.hid hsx
    have HSY := Lib.hid hsy
    obtain ⟨hx1, hx2⟩ := hrx
    obtain ⟨hy1, hy2⟩ := hry
    replace hx2 : sx ≤ 100000 := by omega
    replace hy2 : sy ≤ 100000 := by omega
    clear h hp ihx ihy hpx hpy hm hsx hsy hl9
    go_enter Try.func40, Try.ntmps40
    go_wp2_with fail
    refine HY.out.mono ?_
    rintro e w' ⟨rfl, rfl⟩
    go_wp2_with fail
    refine HB.out.mono ?_
    rintro e w' ⟨rfl, rfl⟩
    go_wp2_with fail
    refine HX.out.mono ?_
    rintro e w' ⟨rfl, rfl⟩
    by_cases k1 : sx < 0
    · have HE : Hid (shT (.cat x y) = -1) := Lib.hid (by simp only [shT]; rw [HSX.out, HSY.out]; rw [if_pos (.inl k1)])
      go_wp2_with fail
      go_ret
      exact ⟨ret_int (by rw [HE.out]), rfl⟩
    · by_cases k2 : sy < 0
      · have HE : Hid (shT (.cat x y) = -1) := Lib.hid (by simp only [shT]; rw [HSX.out, HSY.out]; rw [if_pos (.inr k2)])
        go_wp2_with fail
        go_ret
        exact ⟨ret_int (by rw [HE.out]), rfl⟩
      · have HE : Hid (shT (.cat x y) = sx + sy) := Lib.hid (by simp only [shT]; rw [HSX.out, HSY.out]; rw [if_neg (by omega)])
        go_wp2_with fail
        go_ret
        exact ⟨ret_int (by rw [HE.out]), rfl⟩
  | alt x y ihx ihy =>
    intro i base hp
    obtain ⟨b, off, rfl, hin, c0⟩ := step_at h hp
    replace c0 : w.cell? ⟨b, off + i * 5, none⟩ = some (.int .i64 4) := c0
    obtain ⟨h1, hpy, h2, hpx⟩ := hp.last2 (k := 4) rfl
    have HY := Lib.hid (ihy (i - 1) _ hpy)
    have HB := Lib.hid (rbegin_any w _ n c l h hn y (i - 1) _ hpy)
    have HX := Lib.hid (ihx _ _ hpx)
    have hp1 := post_pos y
    have hrx := hpx.short_le
    have hry := hpy.short_le
    have hl9 := h.1
    have z1 : (i : Int) < (n : Int) := by omega
    have z0 : (0 : Int) ≤ (i : Int) := by omega
    obtain ⟨j, rfl⟩ : ∃ j, i = j + 1 := ⟨i - 1, by omega⟩
    rw [Nat.add_sub_cancel] at HY HB
    obtain ⟨m, hm⟩ : ∃ m, j + 1 - (post y).length = m + 1 := ⟨j + 1 - (post y).length - 1, by omega⟩
    rw [show j + 1 - (post y).length - 1 = m by omega] at HX
    rw [hm] at HB
    have z2 : (((j + 1 : Nat) : Int) - 1) = (j : Int) := by omega
    have z3 : ((j : Int) + 1 - 1) = (j : Int) := by omega
    have z4 : ((m : Int) + 1 - 1) = (m : Int) := by omega
    have hmb : m ≤ 200000 := by omega
    obtain ⟨sx, hsx⟩ : ∃ s, shT x = s := ⟨_, rfl⟩
    obtain ⟨sy, hsy⟩ : ∃ s, shT y = s := ⟨_, rfl⟩
    rw [hsx] at HX hrx
    rw [hsy] at HY hry
    have HSX := Lib.hid hsx
    have HSY := Lib.hid hsy
    obtain ⟨hx1, hx2⟩ := hrx
    obtain ⟨hy1, hy2⟩ := hry
    replace hx2 : sx ≤ 100000 := by omega
    replace hy2 : sy ≤ 100000 := by omega
    clear h hp ihx ihy hpx hpy hm hsx hsy hl9
    go_enter Try.func40, Try.ntmps40
    go_wp2_with fail
    refine HY.out.mono ?_
    rintro e w' ⟨rfl, rfl⟩
    go_wp2_with fail
    refine HB.out.mono ?_
    rintro e w' ⟨rfl, rfl⟩
    go_wp2_with fail
    refine HX.out.mono ?_
    rintro e w' ⟨rfl, rfl⟩
    by_cases k1 : sx < 0
    · have HE : Hid (shT (.alt x y) = sy) := Lib.hid (by simp only [shT]; rw [HSX.out, HSY.out]; rw [if_pos (.inl k1)])
      go_wp2_with fail
      go_ret
      exact ⟨ret_int (by rw [HE.out]), rfl⟩
    · by_cases k2 : 0 ≤ sy
      · by_cases k3 : sy < sx
        · have HE : Hid (shT (.alt x y) = sy) := Lib.hid (by simp only [shT]; rw [HSX.out, HSY.out]; rw [if_pos (.inr ⟨k2, k3⟩)])
          go_wp2_with fail
          go_ret
          exact ⟨ret_int (by rw [HE.out]), rfl⟩
        · have HE : Hid (shT (.alt x y) = sx) := Lib.hid (by simp only [shT]; rw [HSX.out, HSY.out]; rw [if_neg (by omega)])
          go_wp2_with fail
          go_ret
          exact ⟨ret_int (by rw [HE.out]), rfl⟩
      · have HE : Hid (shT (.alt x y) = sx) := Lib.hid (by simp only [shT]; rw [HSX.out, HSY.out]; rw [if_neg (by omega)])
        go_wp2_with fail
        go_ret
        exact ⟨ret_int (by rw [HE.out]), rfl⟩
set_option maxHeartbeats 4000000 in
theorem long_any (w : World) (a : Option Addr) (n c : Nat) (l : List Rx) (h : CRow rxC 5 w a n l) (hn : n ≤ 100000) : ∀ (T : RxT) (i base : Nat), PartAt l i base T →
    Calls Try.prog 41 #[.slice a n c, .int .i64 (i : Int)] w fun e w' => e = .returned (.int .i64 (loT T)) ∧ w = w' := by
  intro T
  induction T with
  | set S =>
    intro i base hp
    have HS := Lib.hid (short_any w a n c l h hn (.set S) i base hp)
    obtain ⟨b, off, rfl, hin, c0⟩ := step_at h hp
    replace c0 : w.cell? ⟨b, off + i * 5, none⟩ = some (.int .i64 1) := c0
    have z1 : (i : Int) < (n : Int) := by omega
    have z0 : (0 : Int) ≤ (i : Int) := by omega
    have HE : Hid (loT (.set S) = shT (.set S)) := Lib.hid rfl
    clear h hp
    go_enter Try.func41, Try.ntmps41
    go_wp2_with fail
    refine HS.out.mono ?_
    rintro e w' ⟨rfl, rfl⟩
    go_wp2_with fail
    go_ret
    exact ⟨ret_int (by rw [HE.out]), rfl⟩
  | empty =>
    intro i base hp
    obtain ⟨b, off, rfl, hin, c0⟩ := step_at h hp
    replace c0 : w.cell? ⟨b, off + i * 5, none⟩ = some (.int .i64 2) := c0
    have z1 : (i : Int) < (n : Int) := by omega
    have z0 : (0 : Int) ≤ (i : Int) := by omega
    have HE : Hid (loT .empty = 0) := Lib.hid rfl
    clear h hp
    go_enter Try.func41, Try.ntmps41
    go_wp2_with fail
    go_ret
    exact ⟨ret_int (by rw [HE.out]), rfl⟩
  | star x ihx =>
    intro i base hp
    obtain ⟨b, off, rfl, hin, c0⟩ := step_at h hp
    replace c0 : w.cell? ⟨b, off + i * 5, none⟩ = some (.int .i64 5) := c0
    obtain ⟨h1, hpx⟩ := hp.last1 (k := 5) rfl
    have HX := Lib.hid (ihx (i - 1) base hpx)
    have z1 : (i : Int) < (n : Int) := by omega
    have z0 : (0 : Int) ≤ (i : Int) := by omega
    obtain ⟨j, rfl⟩ : ∃ j, i = j + 1 := ⟨i - 1, by omega⟩
    rw [Nat.add_sub_cancel] at HX
    have z2 : (((j + 1 : Nat) : Int) - 1) = (j : Int) := by omega
    have z3 : ((j : Int) + 1 - 1) = (j : Int) := by omega
    obtain ⟨sx, hsx⟩ : ∃ s, loT x = s := ⟨_, rfl⟩
    rw [hsx] at HX
    have HSX := Lib.hid hsx
    clear h hp ihx hpx hsx
    go_enter Try.func41, Try.ntmps41
    go_wp2_with fail
    refine HX.out.mono ?_
    rintro e w' ⟨rfl, rfl⟩
    by_cases k1 : 0 < sx
    · have HE : Hid (loT (.star x) = -2) := Lib.hid (by simp only [loT]; rw [HSX.out, if_pos k1])
      go_wp2_with fail
      go_ret
      exact ⟨ret_int (by rw [HE.out]), rfl⟩
    · by_cases k2 : sx = -1
      · have HE : Hid (loT (.star x) = 0) := Lib.hid (by simp only [loT]; rw [HSX.out, if_neg k1, if_pos k2])
        subst k2
        go_wp2_with fail
        go_ret
        exact ⟨ret_int (by rw [HE.out]), rfl⟩
      · have HE : Hid (loT (.star x) = sx) := Lib.hid (by simp only [loT]; rw [HSX.out, if_neg k1, if_neg k2])
        have k3 : (sx == -1) = false := by simpa using k2
        clear k2
        go_wp2_with fail
        go_ret
        exact ⟨ret_int (by rw [HE.out]), rfl⟩
  | plus x ihx =>
    intro i base hp
    obtain ⟨b, off, rfl, hin, c0⟩ := step_at h hp
    replace c0 : w.cell? ⟨b, off + i * 5, none⟩ = some (.int .i64 6) := c0
    obtain ⟨h1, hpx⟩ := hp.last1 (k := 6) rfl
    have HX := Lib.hid (ihx (i - 1) base hpx)
    have z1 : (i : Int) < (n : Int) := by omega
    have z0 : (0 : Int) ≤ (i : Int) := by omega
    obtain ⟨j, rfl⟩ : ∃ j, i = j + 1 := ⟨i - 1, by omega⟩
    rw [Nat.add_sub_cancel] at HX
    have z2 : (((j + 1 : Nat) : Int) - 1) = (j : Int) := by omega
    have z3 : ((j : Int) + 1 - 1) = (j : Int) := by omega
    obtain ⟨sx, hsx⟩ : ∃ s, loT x = s := ⟨_, rfl⟩
    rw [hsx] at HX
    have HSX := Lib.hid hsx
    clear h hp ihx hpx hsx
    go_enter Try.func41, Try.ntmps41
    go_wp2_with fail
    refine HX.out.mono ?_
    rintro e w' ⟨rfl, rfl⟩
    by_cases k1 : 0 < sx
    · have HE : Hid (loT (.plus x) = -2) := Lib.hid (by simp only [loT]; rw [HSX.out, if_pos k1])
      go_wp2_with fail
      go_ret
      exact ⟨ret_int (by rw [HE.out]), rfl⟩
    · have HE : Hid (loT (.plus x) = sx) := Lib.hid (by simp only [loT]; rw [HSX.out, if_neg k1])
      go_wp2_with fail
      go_ret
      exact ⟨ret_int (by rw [HE.out]), rfl⟩
  | opt x ihx =>
    intro i base hp
    obtain ⟨b, off, rfl, hin, c0⟩ := step_at h hp
    replace c0 : w.cell? ⟨b, off + i * 5, none⟩ = some (.int .i64 7) := c0
    obtain ⟨h1, hpx⟩ := hp.last1 (k := 7) rfl
    have HX := Lib.hid (ihx (i - 1) base hpx)
    have z1 : (i : Int) < (n : Int) := by omega
    have z0 : (0 : Int) ≤ (i : Int) := by omega
    obtain ⟨j, rfl⟩ : ∃ j, i = j + 1 := ⟨i - 1, by omega⟩
    rw [Nat.add_sub_cancel] at HX
    have z2 : (((j + 1 : Nat) : Int) - 1) = (j : Int) := by omega
    have z3 : ((j : Int) + 1 - 1) = (j : Int) := by omega
    obtain ⟨sx, hsx⟩ : ∃ s, loT x = s := ⟨_, rfl⟩
    rw [hsx] at HX
    have HSX := Lib.hid hsx
    clear h hp ihx hpx hsx
    go_enter Try.func41, Try.ntmps41
    go_wp2_with fail
    refine HX.out.mono ?_
    rintro e w' ⟨rfl, rfl⟩
    by_cases k1 : sx = -1
    · have HE : Hid (loT (.opt x) = 0) := Lib.hid (by simp only [loT]; rw [HSX.out, if_pos k1])
      subst k1
      go_wp2_with fail
      go_ret
      exact ⟨ret_int (by rw [HE.out]), rfl⟩
    · have HE : Hid (loT (.opt x) = sx) := Lib.hid (by simp only [loT]; rw [HSX.out, if_neg k1])
      have k2 : (sx == -1) = false := by simpa using k1
      clear k1
      go_wp2_with fail
      go_ret
      exact ⟨ret_int (by rw [HE.out]), rfl⟩
  | cat x y ihx ihy =>
    intro i base hp
    obtain ⟨b, off, rfl, hin, c0⟩ := step_at h hp
    replace c0 : w.cell? ⟨b, off + i * 5, none⟩ = some (.int .i64 3) := c0
    obtain ⟨h1, hpy, h2, hpx⟩ := hp.last2 (k := 3) rfl
    have HY := Lib.hid (ihy (i - 1) _ hpy)
    have HB := Lib.hid (rbegin_any w _ n c l h hn y (i - 1) _ hpy)
    have HX := Lib.hid (ihx _ _ hpx)
    have hp1 := post_pos y
    have hrx := hpx.long_le
    have hry := hpy.long_le
    have hl9 := h.1
    have z1 : (i : Int) < (n : Int) := by omega
    have z0 : (0 : Int) ≤ (i : Int) := by omega
    obtain ⟨j, rfl⟩ : ∃ j, i = j + 1 := ⟨i - 1, by omega⟩
    rw [Nat.add_sub_cancel] at HY HB
    obtain ⟨m, hm⟩ : ∃ m, j + 1 - (post y).length = m + 1 := ⟨j + 1 - (post y).length - 1, by omega⟩
    rw [show j + 1 - (post y).length - 1 = m by omega] at HX
    rw [hm] at HB
    have z2 : (((j + 1 : Nat) : Int) - 1) = (j : Int) := by omega
    have z3 : ((j : Int) + 1 - 1) = (j : Int) := by omega
    have z4 : ((m : Int) + 1 - 1) = (m : Int) := by omega
    have hmb : m ≤ 200000 := by omega
    obtain ⟨sx, hsx⟩ : ∃ s, loT x = s := ⟨_, rfl⟩
    obtain ⟨sy, hsy⟩ : ∃ s, loT y = s := ⟨_, rfl⟩
    rw [hsx] at HX hrx
    rw [hsy] at HY hry
    have HSX := Lib.hid hsx
    have HSY := Lib.hid hsy
    obtain ⟨hx1, hx2⟩ := hrx
    obtain ⟨hy1, hy2⟩ := hry
    replace hx2 : sx ≤ 100000 := by omega
    replace hy2 : sy ≤ 100000 := by omega
    clear h hp ihx ihy hpx hpy hm hsx hsy hl9
    go_enter Try.func41, Try.ntmps41
    go_wp2_with fail
    refine HY.out.mono ?_
    rintro e w' ⟨rfl, rfl⟩
    go_wp2_with fail
    refine HB.out.mono ?_
    rintro e w' ⟨rfl, rfl⟩
    go_wp2_with fail
    refine HX.out.mono ?_
    rintro e w' ⟨rfl, rfl⟩
    by_cases k1 : sx = -1
    · have HE : Hid (loT (.cat x y) = -1) := Lib.hid (by simp only [loT]; rw [HSX.out, HSY.out]; rw [if_pos (.inl k1)])
      subst k1
      go_wp2_with fail
      go_ret
      exact ⟨ret_int (by rw [HE.out]), rfl⟩
    · have q1 : (sx == -1) = false := by simpa using k1
      by_cases k2 : sy = -1
      · have HE : Hid (loT (.cat x y) = -1) := Lib.hid (by simp only [loT]; rw [HSX.out, HSY.out]; rw [if_pos (.inr k2)])
        subst k2
        clear k1
        go_wp2_with fail
        go_ret
        exact ⟨ret_int (by rw [HE.out]), rfl⟩
      · have q2 : (sy == -1) = false := by simpa using k2
        by_cases k3 : sx = -2
        · have HE : Hid (loT (.cat x y) = -2) := Lib.hid (by simp only [loT]; rw [HSX.out, HSY.out]; rw [if_neg (by omega), if_pos (.inl k3)])
          subst k3
          clear k1 k2
          go_wp2_with fail
          go_ret
          exact ⟨ret_int (by rw [HE.out]), rfl⟩
        · have q3 : (sx == -2) = false := by simpa using k3
          by_cases k4 : sy = -2
          · have HE : Hid (loT (.cat x y) = -2) := Lib.hid (by simp only [loT]; rw [HSX.out, HSY.out]; rw [if_neg (by omega), if_pos (.inr k4)])
            subst k4
            clear k1 k2 k3
            go_wp2_with fail
            go_ret
            exact ⟨ret_int (by rw [HE.out]), rfl⟩
          · have HE : Hid (loT (.cat x y) = sx + sy) := Lib.hid (by simp only [loT]; rw [HSX.out, HSY.out]; rw [if_neg (by omega), if_neg (by omega)])
            have q4 : (sy == -2) = false := by simpa using k4
            clear k1 k2 k3 k4
            go_wp2_with fail
            go_ret
            exact ⟨ret_int (by rw [HE.out]), rfl⟩
  | alt x y ihx ihy =>
    intro i base hp
    obtain ⟨b, off, rfl, hin, c0⟩ := step_at h hp
    replace c0 : w.cell? ⟨b, off + i * 5, none⟩ = some (.int .i64 4) := c0
    obtain ⟨h1, hpy, h2, hpx⟩ := hp.last2 (k := 4) rfl
    have HY := Lib.hid (ihy (i - 1) _ hpy)
    have HB := Lib.hid (rbegin_any w _ n c l h hn y (i - 1) _ hpy)
    have HX := Lib.hid (ihx _ _ hpx)
    have hp1 := post_pos y
    have hrx := hpx.long_le
    have hry := hpy.long_le
    have hl9 := h.1
    have z1 : (i : Int) < (n : Int) := by omega
    have z0 : (0 : Int) ≤ (i : Int) := by omega
    obtain ⟨j, rfl⟩ : ∃ j, i = j + 1 := ⟨i - 1, by omega⟩
    rw [Nat.add_sub_cancel] at HY HB
    obtain ⟨m, hm⟩ : ∃ m, j + 1 - (post y).length = m + 1 := ⟨j + 1 - (post y).length - 1, by omega⟩
    rw [show j + 1 - (post y).length - 1 = m by omega] at HX
    rw [hm] at HB
    have z2 : (((j + 1 : Nat) : Int) - 1) = (j : Int) := by omega
    have z3 : ((j : Int) + 1 - 1) = (j : Int) := by omega
    have z4 : ((m : Int) + 1 - 1) = (m : Int) := by omega
    have hmb : m ≤ 200000 := by omega
    obtain ⟨sx, hsx⟩ : ∃ s, loT x = s := ⟨_, rfl⟩
    obtain ⟨sy, hsy⟩ : ∃ s, loT y = s := ⟨_, rfl⟩
    rw [hsx] at HX hrx
    rw [hsy] at HY hry
    have HSX := Lib.hid hsx
    have HSY := Lib.hid hsy
    obtain ⟨hx1, hx2⟩ := hrx
    obtain ⟨hy1, hy2⟩ := hry
    replace hx2 : sx ≤ 100000 := by omega
    replace hy2 : sy ≤ 100000 := by omega
    clear h hp ihx ihy hpx hpy hm hsx hsy hl9
    go_enter Try.func41, Try.ntmps41
    go_wp2_with fail
    refine HY.out.mono ?_
    rintro e w' ⟨rfl, rfl⟩
    go_wp2_with fail
    refine HB.out.mono ?_
    rintro e w' ⟨rfl, rfl⟩
    go_wp2_with fail
    refine HX.out.mono ?_
    rintro e w' ⟨rfl, rfl⟩
    by_cases k3 : sx = -2
    · have HE : Hid (loT (.alt x y) = -2) := Lib.hid (by simp only [loT]; rw [HSX.out, HSY.out]; rw [if_pos (.inl k3)])
      subst k3
      go_wp2_with fail
      go_ret
      exact ⟨ret_int (by rw [HE.out]), rfl⟩
    · have q3 : (sx == -2) = false := by simpa using k3
      by_cases k4 : sy = -2
      · have HE : Hid (loT (.alt x y) = -2) := Lib.hid (by simp only [loT]; rw [HSX.out, HSY.out]; rw [if_pos (.inr k4)])
        subst k4
        clear k3
        go_wp2_with fail
        go_ret
        exact ⟨ret_int (by rw [HE.out]), rfl⟩
      · have q4 : (sy == -2) = false := by simpa using k4
        by_cases k5 : sx < sy
        · have HE : Hid (loT (.alt x y) = sy) := Lib.hid (by simp only [loT]; rw [HSX.out, HSY.out]; rw [if_neg (by omega)]; omega)
          clear k3 k4
          go_wp2_with fail
          go_ret
          exact ⟨ret_int (by rw [HE.out]), rfl⟩
        · have HE : Hid (loT (.alt x y) = sx) := Lib.hid (by simp only [loT]; rw [HSX.out, HSY.out]; rw [if_neg (by omega)]; omega)
          clear k3 k4
          go_wp2_with fail
          go_ret
          exact ⟨ret_int (by rw [HE.out]), rfl⟩
end Go.Proofs.Ytbefndibkpjgaaa
/- rxfact: what is told of all words of any expression: the program's. -/
namespace Go.Proofs.Ytbefndibkpjgaaa
open Go.RowKit
set_option linter.unusedVariables false
set_option linter.unusedSimpArgs false
attribute [local go_sem ↓] loadF_eq
set_option maxRecDepth 100000 in
set_option maxHeartbeats 2000000 in
theorem know_any9 (w : World) (a : Option Addr) (n c : Nat) (o : Option RxT) (h : IsRx w a n o) (hn : n ≤ 600) :
    Calls Try.prog 39 #[.slice a n c] w fun e w' => e = .returned (.agg (factA (factO o))) ∧ Below w.heap.size w w' := by
  obtain ⟨g, hg⟩ : ∃ g, w.heap.size = g := ⟨_, rfl⟩
  have HG := Lib.hid hg
  obtain ⟨W0, hW0⟩ : ∃ W, W = w.alloc ZF := ⟨_, rfl⟩
  have hs0 : W0.heap.size = g + 1 := by rw [hW0]; simp [hg]
  have hb0 : Below g w W0 := by rw [hW0, ← hg]; exact (Below.refl _ _).alloc (Nat.le_refl _) _
  have hz0 : FactAt W0 g f0 := by rw [hW0]; exact FactAt.zero w g hg
  have HB0 := Lib.hid hb0
  have HS0 := Lib.hid hs0
  have HZ0 := Lib.hid hz0
  have hov := overF_any W0 a n c o (h.below (by rw [hg]; exact hb0)) hn
  obtain ⟨G9, hG9⟩ : ∃ G, factO o = G := ⟨_, rfl⟩
  rw [hG9] at hov ⊢
  rw [hW0] at hov
  unfold ZF at hov hW0
  have HOV := Lib.hid hov
  clear hov h hs0 hb0 hz0 hG9
  go_enter Try.func39, Try.ntmps39
  go_wp2_with fail
  refine HOV.out.mono ?_
  rintro e w1 ⟨b, rfl, hb1⟩
  rw [← hW0] at hb1
  have HB1 := Lib.hid (HB0.out.trans (hb1.mono (by have := HS0.out; omega)))
  have HZ1 := Lib.hid (HZ0.out.onto hb1)
  have hg1 : g + 1 ≤ w1.heap.size := by have := hb1.size; have := HS0.out; omega
  obtain ⟨k, hk⟩ : ∃ k, w1.heap.size = k := ⟨_, rfl⟩
  have HK := Lib.hid (FactAt.zero w1 k hk)
  have hbk := Below.alloc (Below.refl w1.heap.size w1) (Nat.le_refl _) ZF
  have HZ2 := Lib.hid (HZ1.out.onto hbk)
  have HBK := Lib.hid (HB1.out.trans (hbk.mono (by omega)))
  have hgk : g + 1 ≤ k := by omega
  clear hb1 hbk HOV hW0
  go_wp2_with (first
    | (refine wpList_store_fact rfl _ _ rfl k f0 G9 rfl rfl HK.out ?_
       intro w2 hF2 hB2 hO2 hS2
       have HB2 := Lib.hid (HBK.out.trans (hB2 g (by omega)))
       have HZ3 : Hid (FactAt w2 g f0) := Lib.hid ((hO2 g (by omega)).trans HZ2.out)
       have hl2 := run_loadF0 w2 k G9 hF2
       clear hF2 hB2 hO2 hS2)
    | (refine wpList_store_fact rfl _ _ rfl g f0 G9 rfl rfl HZ3.out ?_
       intro wR hR hBR hOR hSR
       have HR := Lib.hid hR
       have HBR := Lib.hid (HB2.out.trans (hBR g (Nat.le_refl _)))
       clear hR hBR hOR hSR))
  refine bodyPost_ret (results_cell_row rfl _ _ g 61 _ (0, 0) _ rfl HR.out Try.underlying61 rfl (sizeFact _)) rfl ⟨rfl, ?_⟩
  first | exact HBR.out | (rw [HG.out]; exact HBR.out)
def shF (G : Fact) : Int := if G.some_ = true then (G.lo : Int) else -1
def loF (G : Fact) : Int := if G.some_ = true then (if G.more = true then -2 else (G.hi : Int)) else -1
set_option maxRecDepth 100000 in
set_option maxHeartbeats 2000000 in
theorem pshort_any (w : World) (a : Option Addr) (n c : Nat) (o : Option RxT) (h : IsRx w a n o) (hn : n ≤ 600) :
    Calls Try.prog 15 #[.slice a n c] w fun e w' => e = .returned (.int .i64 (shF (factO o))) ∧ Below w.heap.size w w' := by
  have HKN := Lib.hid (know_any9 w a n c o h hn)
  obtain ⟨g, hg⟩ : ∃ g, w.heap.size = g := ⟨_, rfl⟩
  have HG := Lib.hid hg
  obtain ⟨G9, hG9⟩ : ∃ G, factO o = G := ⟨_, rfl⟩
  rw [hG9] at HKN ⊢
  clear h hG9 hg
  go_enter Try.func15, Try.ntmps15
  go_wp2_with fail
  refine HKN.out.mono ?_
  rintro e w1 ⟨rfl, hb1⟩
  have HB1 := Lib.hid hb1
  obtain ⟨k, hk⟩ : ∃ k, w1.heap.size = k := ⟨_, rfl⟩
  have HK := Lib.hid (FactAt.zero w1 k hk)
  have HBK := Lib.hid (hb1.trans ((Below.alloc (Below.refl w1.heap.size w1) (Nat.le_refl _) ZF).mono hb1.size))
  have hgk : w.heap.size ≤ k := by rw [← hk]; exact hb1.size
  obtain ⟨s9, l9, h9, m9, f9, u9⟩ := G9
  clear hb1 HKN
  cases s9 with
  | true =>
    go_wp2_with (refine wpList_store_fact rfl _ _ rfl k f0 ⟨true, l9, h9, m9, f9, u9⟩ rfl rfl HK.out ?_; intro w2 hF2 hB2 hO2 hS2; have HB2 := Lib.hid (HBK.out.trans (hB2 _ hgk)); have e0 : w2.cell? ⟨k, 0, none⟩ = some (.bool true) := hF2.cell (j := 0) rfl; have e1 : w2.cell? ⟨k, 1, none⟩ = some (.int .i64 (l9 : Int)) := hF2.cell (j := 1) rfl; clear hF2 hB2 hO2 hS2)
    go_ret
    exact ⟨rfl, HB2.out⟩
  | false =>
    go_wp2_with (refine wpList_store_fact rfl _ _ rfl k f0 ⟨false, l9, h9, m9, f9, u9⟩ rfl rfl HK.out ?_; intro w2 hF2 hB2 hO2 hS2; have HB2 := Lib.hid (HBK.out.trans (hB2 _ hgk)); have e0 : w2.cell? ⟨k, 0, none⟩ = some (.bool false) := hF2.cell (j := 0) rfl; clear hF2 hB2 hO2 hS2)
    go_ret
    exact ⟨rfl, HB2.out⟩
set_option maxRecDepth 100000 in
set_option maxHeartbeats 2000000 in
theorem plong_any (w : World) (a : Option Addr) (n c : Nat) (o : Option RxT) (h : IsRx w a n o) (hn : n ≤ 600) :
    Calls Try.prog 17 #[.slice a n c] w fun e w' => e = .returned (.int .i64 (loF (factO o))) ∧ Below w.heap.size w w' := by
  have HKN := Lib.hid (know_any9 w a n c o h hn)
  obtain ⟨g, hg⟩ : ∃ g, w.heap.size = g := ⟨_, rfl⟩
  have HG := Lib.hid hg
  obtain ⟨G9, hG9⟩ : ∃ G, factO o = G := ⟨_, rfl⟩
  rw [hG9] at HKN ⊢
  clear h hG9 hg
  go_enter Try.func17, Try.ntmps17
  go_wp2_with fail
  refine HKN.out.mono ?_
  rintro e w1 ⟨rfl, hb1⟩
  have HB1 := Lib.hid hb1
  obtain ⟨k, hk⟩ : ∃ k, w1.heap.size = k := ⟨_, rfl⟩
  have HK := Lib.hid (FactAt.zero w1 k hk)
  have HBK := Lib.hid (hb1.trans ((Below.alloc (Below.refl w1.heap.size w1) (Nat.le_refl _) ZF).mono hb1.size))
  have hgk : w.heap.size ≤ k := by rw [← hk]; exact hb1.size
  obtain ⟨s9, l9, h9, m9, f9, u9⟩ := G9
  clear hb1 HKN
  cases s9 with
  | true =>
    cases m9 with
    | true =>
      go_wp2_with (refine wpList_store_fact rfl _ _ rfl k f0 ⟨true, l9, h9, true, f9, u9⟩ rfl rfl HK.out ?_; intro w2 hF2 hB2 hO2 hS2; have HB2 := Lib.hid (HBK.out.trans (hB2 _ hgk)); have e0 : w2.cell? ⟨k, 0, none⟩ = some (.bool true) := hF2.cell (j := 0) rfl; have e3 : w2.cell? ⟨k, 3, none⟩ = some (.bool true) := hF2.cell (j := 3) rfl; clear hF2 hB2 hO2 hS2)
      go_ret
      exact ⟨rfl, HB2.out⟩
    | false =>
      go_wp2_with (refine wpList_store_fact rfl _ _ rfl k f0 ⟨true, l9, h9, false, f9, u9⟩ rfl rfl HK.out ?_; intro w2 hF2 hB2 hO2 hS2; have HB2 := Lib.hid (HBK.out.trans (hB2 _ hgk)); have e0 : w2.cell? ⟨k, 0, none⟩ = some (.bool true) := hF2.cell (j := 0) rfl; have e3 : w2.cell? ⟨k, 3, none⟩ = some (.bool false) := hF2.cell (j := 3) rfl; have e2 : w2.cell? ⟨k, 2, none⟩ = some (.int .i64 (h9 : Int)) := hF2.cell (j := 2) rfl; clear hF2 hB2 hO2 hS2)
      go_ret
      exact ⟨rfl, HB2.out⟩
  | false =>
    go_wp2_with (refine wpList_store_fact rfl _ _ rfl k f0 ⟨false, l9, h9, m9, f9, u9⟩ rfl rfl HK.out ?_; intro w2 hF2 hB2 hO2 hS2; have HB2 := Lib.hid (HBK.out.trans (hB2 _ hgk)); have e0 : w2.cell? ⟨k, 0, none⟩ = some (.bool false) := hF2.cell (j := 0) rfl; clear hF2 hB2 hO2 hS2)
    go_ret
    exact ⟨rfl, HB2.out⟩
theorem pnull_any (w : World) (a : Option Addr) (n c : Nat) (o : Option RxT) (h : IsRx w a n o) (hn : n ≤ 600) :
    Calls Try.prog 14 #[.slice a n c] w fun e w' => e = .returned (.bool (shF (factO o) == 0)) ∧ Below w.heap.size w w' := by
  have HKN := Lib.hid (pshort_any w a n c o h hn)
  obtain ⟨z, hz⟩ : ∃ z, shF (factO o) = z := ⟨_, rfl⟩
  rw [hz] at HKN ⊢
  clear h hz
  go_enter Try.func14, Try.ntmps14
  go_wp2_with fail
  refine HKN.out.mono ?_
  rintro e w1 ⟨rfl, hb1⟩
  have HB1 := Lib.hid hb1
  clear hb1
  go_wp2
  go_ret
  exact ⟨rfl, HB1.out⟩
def zSet : Obj := .cells #[.int .u64 0, .int .u64 0, .int .u64 0, .int .u64 0] 33
set_option maxRecDepth 100000 in
set_option maxHeartbeats 2000000 in
theorem pfirst_any (w : World) (a : Option Addr) (n c : Nat) (o : Option RxT) (h : IsRx w a n o) (hn : n ≤ 600) :
    Calls Try.prog 19 #[.slice a n c] w fun e w' => e = .returned (setV (factO o).first) ∧ Below w.heap.size w w' := by
  obtain ⟨g, hg⟩ : ∃ g, w.heap.size = g := ⟨_, rfl⟩
  have HG := Lib.hid hg
  obtain ⟨W0, hW0⟩ : ∃ W, W = w.alloc zSet := ⟨_, rfl⟩
  have hs0 : W0.heap.size = g + 1 := by rw [hW0]; simp [hg]
  have hb0 : Below g w W0 := by rw [hW0, ← hg]; exact (Below.refl _ _).alloc (Nat.le_refl _) _
  have hz0 : SetAt W0 g emptyS := by rw [hW0]; exact SetAt.of_empty (by subst hg; exact heap_alloc_new w _)
  have HB0 := Lib.hid hb0
  have HS0 := Lib.hid hs0
  have HZ0 := Lib.hid hz0
  have hov := know_any9 W0 a n c o (h.below (by rw [hg]; exact hb0)) hn
  obtain ⟨G9, hG9⟩ : ∃ G, factO o = G := ⟨_, rfl⟩
  rw [hG9] at hov ⊢
  rw [hW0] at hov
  unfold zSet at hov hW0
  have HOV := Lib.hid hov
  clear hov h hs0 hb0 hz0 hG9
  obtain ⟨s9, l9, h9, m9, f9, u9⟩ := G9
  go_enter Try.func19, Try.ntmps19
  go_wp2_with fail
  refine HOV.out.mono ?_
  rintro e w1 ⟨rfl, hb1⟩
  rw [← hW0] at hb1
  have HB1 := Lib.hid (HB0.out.trans (hb1.mono (by have := HS0.out; omega)))
  have HZ1 := Lib.hid (HZ0.out.below hb1 (by have := HS0.out; omega))
  clear hb1 HOV hW0
  have hfd : ∀ w : World, (Instr.field 61 (.agg (factA ⟨s9, l9, h9, m9, f9, u9⟩)) 4).run Try.prog w = .ok (setV f9) w := fun _ => by kernel_rfl
  obtain ⟨A9, hA9⟩ : ∃ A, factA ⟨s9, l9, h9, m9, f9, u9⟩ = A := ⟨_, rfl⟩
  rw [hA9] at hfd ⊢
  clear hA9
  go_wp2_with (refine wpList_store_set rfl _ _ rfl g emptyS f9 rfl rfl HZ1.out ?_; intro w2 hF2 hB2 hO2 hS2; have HR := Lib.hid hF2; have HBR := Lib.hid (HB1.out.trans (hB2 g (Nat.le_refl _))); clear hF2 hB2 hO2 hS2)
  refine bodyPost_ret (results_cell_row rfl _ _ g 33 _ (0, 0) _ rfl HR.out Try.underlying33 rfl sizeSet) rfl ⟨rfl, ?_⟩
  first | exact HBR.out | (rw [HG.out]; exact HBR.out)
set_option maxRecDepth 100000 in
set_option maxHeartbeats 2000000 in
theorem pused_any (w : World) (a : Option Addr) (n c : Nat) (o : Option RxT) (h : IsRx w a n o) (hn : n ≤ 600) :
    Calls Try.prog 21 #[.slice a n c] w fun e w' => e = .returned (setV (factO o).used) ∧ Below w.heap.size w w' := by
  obtain ⟨g, hg⟩ : ∃ g, w.heap.size = g := ⟨_, rfl⟩
  have HG := Lib.hid hg
  obtain ⟨W0, hW0⟩ : ∃ W, W = w.alloc zSet := ⟨_, rfl⟩
  have hs0 : W0.heap.size = g + 1 := by rw [hW0]; simp [hg]
  have hb0 : Below g w W0 := by rw [hW0, ← hg]; exact (Below.refl _ _).alloc (Nat.le_refl _) _
  have hz0 : SetAt W0 g emptyS := by rw [hW0]; exact SetAt.of_empty (by subst hg; exact heap_alloc_new w _)
  have HB0 := Lib.hid hb0
  have HS0 := Lib.hid hs0
  have HZ0 := Lib.hid hz0
  have hov := know_any9 W0 a n c o (h.below (by rw [hg]; exact hb0)) hn
  obtain ⟨G9, hG9⟩ : ∃ G, factO o = G := ⟨_, rfl⟩
  rw [hG9] at hov ⊢
  rw [hW0] at hov
  unfold zSet at hov hW0
  have HOV := Lib.hid hov
  clear hov h hs0 hb0 hz0 hG9
  obtain ⟨s9, l9, h9, m9, f9, u9⟩ := G9
  go_enter Try.func21, Try.ntmps21
  go_wp2_with fail
  refine HOV.out.mono ?_
  rintro e w1 ⟨rfl, hb1⟩
  rw [← hW0] at hb1
  have HB1 := Lib.hid (HB0.out.trans (hb1.mono (by have := HS0.out; omega)))
  have HZ1 := Lib.hid (HZ0.out.below hb1 (by have := HS0.out; omega))
  clear hb1 HOV hW0
  have hfd : ∀ w : World, (Instr.field 61 (.agg (factA ⟨s9, l9, h9, m9, f9, u9⟩)) 5).run Try.prog w = .ok (setV u9) w := fun _ => by kernel_rfl
  obtain ⟨A9, hA9⟩ : ∃ A, factA ⟨s9, l9, h9, m9, f9, u9⟩ = A := ⟨_, rfl⟩
  rw [hA9] at hfd ⊢
  clear hA9
  go_wp2_with (refine wpList_store_set rfl _ _ rfl g emptyS u9 rfl rfl HZ1.out ?_; intro w2 hF2 hB2 hO2 hS2; have HR := Lib.hid hF2; have HBR := Lib.hid (HB1.out.trans (hB2 g (Nat.le_refl _))); clear hF2 hB2 hO2 hS2)
  refine bodyPost_ret (results_cell_row rfl _ _ g 33 _ (0, 0) _ rfl HR.out Try.underlying33 rfl sizeSet) rfl ⟨rfl, ?_⟩
  first | exact HBR.out | (rw [HG.out]; exact HBR.out)
end Go.Proofs.Ytbefndibkpjgaaa
/- The document's first bytes and the bytes of any word of a part. -/
namespace Go.Proofs.Ytbefndibkpjgaaa
open Go.RowKit
set_option linter.unusedVariables false

def loadS (a : Addr) : Sem Value := loadVar 33 a
theorem loadS_eq (a : Addr) : loadVar 33 a = loadS a := rfl
theorem run_loadS (w : World) (b off : Nat) (S : Nat → Bool) (c0 : w.cell? ⟨b, off, none⟩ = some (.int .u64 (wd S 0))) (c1 : w.cell? ⟨b, off + 1, none⟩ = some (.int .u64 (wd S 1))) (c2 : w.cell? ⟨b, off + 2, none⟩ = some (.int .u64 (wd S 2))) (c3 : w.cell? ⟨b, off + 3, none⟩ = some (.int .u64 (wd S 3))) :
    (loadS ⟨b, off, none⟩).run Try.prog w = .ok (setV S) w := by
  have := run_loadVar_mid (P := Try.prog) w b off 33 [.int .u64 (wd S 0), .int .u64 (wd S 1), .int .u64 (wd S 2), .int .u64 (wd S 3)] _ (fun j v hv => by
    match j, hv with
    | 0, hv => simp at hv; subst hv; exact c0
    | 1, hv => simp at hv; subst hv; exact c1
    | 2, hv => simp at hv; subst hv; exact c2
    | 3, hv => simp at hv; subst hv; exact c3) Try.underlying33 rfl sizeSet
  simpa [loadS, setV] using this
theorem run_loadS0 (w : World) (g : Nat) (S : Nat → Bool) (h : SetAt w g S) : (loadS ⟨g, 0, none⟩).run Try.prog w = .ok (setV S) w :=
  run_loadS w g 0 S (h.cell 0 (by decide)) (h.cell 1 (by decide)) (h.cell 2 (by decide)) (h.cell 3 (by decide))
theorem SetAt.zero (w : World) (g : Nat) (hg : w.heap.size = g) : SetAt (w.alloc zSet) g emptyS := SetAt.of_empty (by subst hg; exact heap_alloc_new w _)
theorem two0_any (S T : Nat → Bool) (w : World) : Calls Try.prog 65 #[.int .i64 0, setV S, setV T] w fun e w' => e = .returned (setV (orS S T)) ∧ Below w.heap.size w w' := by
  have e : setV (fun x => twoB 0 (S x) (T x)) = setV (orS S T) := SameSet.val fun x _ => by simp [twoB, orS]
  rw [← e]; exact rtwo_any 0 (.inl rfl) S T w
attribute [local go_sem ↓] loadS_eq
set_option maxHeartbeats 4000000 in
set_option maxRecDepth 100000 in
theorem first_any (a : Option Addr) (n c : Nat) (l : List Rx) (hn : n ≤ 100000) : ∀ (T : RxT) (w : World) (i base : Nat), CRow rxC 5 w a n l → PartAt l i base T →
    Calls Try.prog 42 #[.slice a n c, .int .i64 (i : Int)] w fun e w' => e = .returned (setV (frT T)) ∧ Below w.heap.size w w' := by
  intro T
  induction T with
  | set S =>
    intro w i base h hp
    obtain ⟨g, hg⟩ : ∃ g, w.heap.size = g := ⟨_, rfl⟩
    have HG := Lib.hid hg
    obtain ⟨W0, hW0⟩ : ∃ W, W = w.alloc zSet := ⟨_, rfl⟩
    have hs0 : W0.heap.size = g + 1 := by rw [hW0]; simp [hg]
    have hb0 : Below g w W0 := by rw [hW0, ← hg]; exact (Below.refl _ _).alloc (Nat.le_refl _) _
    have hz0 : SetAt W0 g emptyS := by rw [hW0]; exact SetAt.zero w g hg
    have h0 : CRow rxC 5 W0 a n l := h.below (by rw [hg]; exact hb0)
    have HB0 := Lib.hid hb0
    have HS0 := Lib.hid hs0
    have HZ0 := Lib.hid hz0
    obtain ⟨b, off, hin, rfl, c0, c1, c2, c3, c4⟩ := step_set h0 hp
    have z1 : (i : Int) < (n : Int) := by omega
    have z0 : (0 : Int) ≤ (i : Int) := by omega
    have hl := run_loadS W0 b (off + i * 5 + 1) S c1 c2 c3 c4
    have HE : Hid (frT (.set S) = S) := Lib.hid rfl
    rw [hW0] at c0 hl
    unfold zSet at c0 hl hW0
    clear h hp h0 hs0 hb0 hz0 c1 c2 c3 c4
    go_enter Try.func42, Try.ntmps42
    go_wp2_with (refine wpList_store_set rfl _ _ rfl g emptyS S rfl rfl (by rw [← hW0]; exact HZ0.out) ?_; intro w9 hF9 hB9 hO9 hS9; rw [← hW0] at hB9; have HR := Lib.hid hF9; have HBR := Lib.hid (HB0.out.trans (hB9 g (by omega))); clear hF9 hB9 hO9 hS9)
    refine bodyPost_ret (results_cell_row rfl _ _ g 33 _ (0, 0) _ rfl HR.out Try.underlying33 rfl sizeSet) rfl ⟨by rw [HE.out]; rfl, ?_⟩
    first | exact HBR.out | (rw [HG.out]; exact HBR.out)
  | empty =>
    intro w i base h hp
    obtain ⟨g, hg⟩ : ∃ g, w.heap.size = g := ⟨_, rfl⟩
    have HG := Lib.hid hg
    obtain ⟨W0, hW0⟩ : ∃ W, W = w.alloc zSet := ⟨_, rfl⟩
    have hs0 : W0.heap.size = g + 1 := by rw [hW0]; simp [hg]
    have hb0 : Below g w W0 := by rw [hW0, ← hg]; exact (Below.refl _ _).alloc (Nat.le_refl _) _
    have hz0 : SetAt W0 g emptyS := by rw [hW0]; exact SetAt.zero w g hg
    have h0 : CRow rxC 5 W0 a n l := h.below (by rw [hg]; exact hb0)
    have HB0 := Lib.hid hb0
    have HS0 := Lib.hid hs0
    have HZ0 := Lib.hid hz0
    obtain ⟨b, off, hin, rfl, c0, c1, c2, c3, c4⟩ := step_empty h0 hp
    have z1 : (i : Int) < (n : Int) := by omega
    have z0 : (0 : Int) ≤ (i : Int) := by omega
    have hl := run_loadS W0 b (off + i * 5 + 1) emptyS c1 c2 c3 c4
    have HE : Hid (frT (.empty) = emptyS) := Lib.hid rfl
    rw [hW0] at c0 hl
    unfold zSet at c0 hl hW0
    clear h hp h0 hs0 hb0 hz0 c1 c2 c3 c4
    go_enter Try.func42, Try.ntmps42
    go_wp2_with (refine wpList_store_set rfl _ _ rfl g emptyS emptyS rfl rfl (by rw [← hW0]; exact HZ0.out) ?_; intro w9 hF9 hB9 hO9 hS9; rw [← hW0] at hB9; have HR := Lib.hid hF9; have HBR := Lib.hid (HB0.out.trans (hB9 g (by omega))); clear hF9 hB9 hO9 hS9)
    refine bodyPost_ret (results_cell_row rfl _ _ g 33 _ (0, 0) _ rfl HR.out Try.underlying33 rfl sizeSet) rfl ⟨by rw [HE.out]; rfl, ?_⟩
    first | exact HBR.out | (rw [HG.out]; exact HBR.out)
  | star x ihx =>
    intro w i base h hp
    obtain ⟨g, hg⟩ : ∃ g, w.heap.size = g := ⟨_, rfl⟩
    have HG := Lib.hid hg
    obtain ⟨W0, hW0⟩ : ∃ W, W = w.alloc zSet := ⟨_, rfl⟩
    have hs0 : W0.heap.size = g + 1 := by rw [hW0]; simp [hg]
    have hb0 : Below g w W0 := by rw [hW0, ← hg]; exact (Below.refl _ _).alloc (Nat.le_refl _) _
    have hz0 : SetAt W0 g emptyS := by rw [hW0]; exact SetAt.zero w g hg
    have h0 : CRow rxC 5 W0 a n l := h.below (by rw [hg]; exact hb0)
    have HB0 := Lib.hid hb0
    have HS0 := Lib.hid hs0
    have HZ0 := Lib.hid hz0
    obtain ⟨b, off, rfl, hin, c0⟩ := step_at h0 hp
    replace c0 : W0.cell? ⟨b, off + i * 5, none⟩ = some (.int .i64 5) := c0
    obtain ⟨h1, hpx⟩ := hp.last1 (k := 5) rfl
    have hx := ihx W0 (i - 1) base h0 hpx
    have z1 : (i : Int) < (n : Int) := by omega
    have z0 : (0 : Int) ≤ (i : Int) := by omega
    obtain ⟨j, rfl⟩ : ∃ j, i = j + 1 := ⟨i - 1, by omega⟩
    rw [Nat.add_sub_cancel] at hx
    have z2 : (((j + 1 : Nat) : Int) - 1) = (j : Int) := by omega
    have z3 : ((j : Int) + 1 - 1) = (j : Int) := by omega
    have HE : Hid (frT (.star x) = frT x) := Lib.hid rfl
    obtain ⟨fx, hfx⟩ : ∃ f, frT x = f := ⟨_, rfl⟩
    rw [hfx] at hx HE
    rw [hW0] at c0 hx
    unfold zSet at c0 hx hW0
    have HX := Lib.hid hx
    clear h hp h0 hs0 hb0 hz0 hx ihx hpx hfx
    go_enter Try.func42, Try.ntmps42
    go_wp2_with fail
    refine HX.out.mono ?_
    rintro e w1 ⟨rfl, hb1⟩
    rw [← hW0] at hb1
    have HB1 := Lib.hid (HB0.out.trans (hb1.mono (by have := HS0.out; omega)))
    have HZ1 := Lib.hid (HZ0.out.below hb1 (by have := HS0.out; omega))
    have hg1 : g + 1 ≤ w1.heap.size := by have := hb1.size; have := HS0.out; omega
    obtain ⟨k, hk⟩ : ∃ k, w1.heap.size = k := ⟨_, rfl⟩
    have HK := Lib.hid (SetAt.zero w1 k hk)
    have hbk := Below.alloc (Below.refl w1.heap.size w1) (Nat.le_refl _) zSet
    have HZ2 := Lib.hid (HZ1.out.below hbk (by omega))
    have HBK := Lib.hid (HB1.out.trans (hbk.mono (by omega)))
    have hgk : g + 1 ≤ k := by omega
    clear hb1 hbk HX hW0
    go_wp2_with (first
      | (refine wpList_store_set rfl _ _ rfl k emptyS fx rfl rfl HK.out ?_; intro w9 hF9 hB9 hO9 hS9; have HB2 := Lib.hid (HBK.out.trans (hB9 g (by omega))); have HZ3 : Hid (SetAt w9 g emptyS) := Lib.hid ((hO9 g (by omega)).trans HZ2.out); have hl2 := run_loadS0 w9 k fx hF9; clear hF9 hB9 hO9 hS9)
      | (refine wpList_store_set rfl _ _ rfl g emptyS fx rfl rfl HZ3.out ?_; intro w9 hF9 hB9 hO9 hS9; have HR := Lib.hid hF9; have HBR := Lib.hid (HB2.out.trans (hB9 g (by omega))); clear hF9 hB9 hO9 hS9))
    refine bodyPost_ret (results_cell_row rfl _ _ g 33 _ (0, 0) _ rfl HR.out Try.underlying33 rfl sizeSet) rfl ⟨by rw [HE.out]; rfl, ?_⟩
    first | exact HBR.out | (rw [HG.out]; exact HBR.out)
  | plus x ihx =>
    intro w i base h hp
    obtain ⟨g, hg⟩ : ∃ g, w.heap.size = g := ⟨_, rfl⟩
    have HG := Lib.hid hg
    obtain ⟨W0, hW0⟩ : ∃ W, W = w.alloc zSet := ⟨_, rfl⟩
    have hs0 : W0.heap.size = g + 1 := by rw [hW0]; simp [hg]
    have hb0 : Below g w W0 := by rw [hW0, ← hg]; exact (Below.refl _ _).alloc (Nat.le_refl _) _
    have hz0 : SetAt W0 g emptyS := by rw [hW0]; exact SetAt.zero w g hg
    have h0 : CRow rxC 5 W0 a n l := h.below (by rw [hg]; exact hb0)
    have HB0 := Lib.hid hb0
    have HS0 := Lib.hid hs0
    have HZ0 := Lib.hid hz0
    obtain ⟨b, off, rfl, hin, c0⟩ := step_at h0 hp
    replace c0 : W0.cell? ⟨b, off + i * 5, none⟩ = some (.int .i64 6) := c0
    obtain ⟨h1, hpx⟩ := hp.last1 (k := 6) rfl
    have hx := ihx W0 (i - 1) base h0 hpx
    have z1 : (i : Int) < (n : Int) := by omega
    have z0 : (0 : Int) ≤ (i : Int) := by omega
    obtain ⟨j, rfl⟩ : ∃ j, i = j + 1 := ⟨i - 1, by omega⟩
    rw [Nat.add_sub_cancel] at hx
    have z2 : (((j + 1 : Nat) : Int) - 1) = (j : Int) := by omega
    have z3 : ((j : Int) + 1 - 1) = (j : Int) := by omega
    have HE : Hid (frT (.plus x) = frT x) := Lib.hid rfl
    obtain ⟨fx, hfx⟩ : ∃ f, frT x = f := ⟨_, rfl⟩
    rw [hfx] at hx HE
    rw [hW0] at c0 hx
    unfold zSet at c0 hx hW0
    have HX := Lib.hid hx
    clear h hp h0 hs0 hb0 hz0 hx ihx hpx hfx
    go_enter Try.func42, Try.ntmps42
    go_wp2_with fail
    refine HX.out.mono ?_
    rintro e w1 ⟨rfl, hb1⟩
    rw [← hW0] at hb1
    have HB1 := Lib.hid (HB0.out.trans (hb1.mono (by have := HS0.out; omega)))
    have HZ1 := Lib.hid (HZ0.out.below hb1 (by have := HS0.out; omega))
    have hg1 : g + 1 ≤ w1.heap.size := by have := hb1.size; have := HS0.out; omega
    obtain ⟨k, hk⟩ : ∃ k, w1.heap.size = k := ⟨_, rfl⟩
    have HK := Lib.hid (SetAt.zero w1 k hk)
    have hbk := Below.alloc (Below.refl w1.heap.size w1) (Nat.le_refl _) zSet
    have HZ2 := Lib.hid (HZ1.out.below hbk (by omega))
    have HBK := Lib.hid (HB1.out.trans (hbk.mono (by omega)))
    have hgk : g + 1 ≤ k := by omega
    clear hb1 hbk HX hW0
    go_wp2_with (first
      | (refine wpList_store_set rfl _ _ rfl k emptyS fx rfl rfl HK.out ?_; intro w9 hF9 hB9 hO9 hS9; have HB2 := Lib.hid (HBK.out.trans (hB9 g (by omega))); have HZ3 : Hid (SetAt w9 g emptyS) := Lib.hid ((hO9 g (by omega)).trans HZ2.out); have hl2 := run_loadS0 w9 k fx hF9; clear hF9 hB9 hO9 hS9)
      | (refine wpList_store_set rfl _ _ rfl g emptyS fx rfl rfl HZ3.out ?_; intro w9 hF9 hB9 hO9 hS9; have HR := Lib.hid hF9; have HBR := Lib.hid (HB2.out.trans (hB9 g (by omega))); clear hF9 hB9 hO9 hS9))
    refine bodyPost_ret (results_cell_row rfl _ _ g 33 _ (0, 0) _ rfl HR.out Try.underlying33 rfl sizeSet) rfl ⟨by rw [HE.out]; rfl, ?_⟩
    first | exact HBR.out | (rw [HG.out]; exact HBR.out)
  | opt x ihx =>
    intro w i base h hp
    obtain ⟨g, hg⟩ : ∃ g, w.heap.size = g := ⟨_, rfl⟩
    have HG := Lib.hid hg
    obtain ⟨W0, hW0⟩ : ∃ W, W = w.alloc zSet := ⟨_, rfl⟩
    have hs0 : W0.heap.size = g + 1 := by rw [hW0]; simp [hg]
    have hb0 : Below g w W0 := by rw [hW0, ← hg]; exact (Below.refl _ _).alloc (Nat.le_refl _) _
    have hz0 : SetAt W0 g emptyS := by rw [hW0]; exact SetAt.zero w g hg
    have h0 : CRow rxC 5 W0 a n l := h.below (by rw [hg]; exact hb0)
    have HB0 := Lib.hid hb0
    have HS0 := Lib.hid hs0
    have HZ0 := Lib.hid hz0
    obtain ⟨b, off, rfl, hin, c0⟩ := step_at h0 hp
    replace c0 : W0.cell? ⟨b, off + i * 5, none⟩ = some (.int .i64 7) := c0
    obtain ⟨h1, hpx⟩ := hp.last1 (k := 7) rfl
    have hx := ihx W0 (i - 1) base h0 hpx
    have z1 : (i : Int) < (n : Int) := by omega
    have z0 : (0 : Int) ≤ (i : Int) := by omega
    obtain ⟨j, rfl⟩ : ∃ j, i = j + 1 := ⟨i - 1, by omega⟩
    rw [Nat.add_sub_cancel] at hx
    have z2 : (((j + 1 : Nat) : Int) - 1) = (j : Int) := by omega
    have z3 : ((j : Int) + 1 - 1) = (j : Int) := by omega
    have HE : Hid (frT (.opt x) = frT x) := Lib.hid rfl
    obtain ⟨fx, hfx⟩ : ∃ f, frT x = f := ⟨_, rfl⟩
    rw [hfx] at hx HE
    rw [hW0] at c0 hx
    unfold zSet at c0 hx hW0
    have HX := Lib.hid hx
    clear h hp h0 hs0 hb0 hz0 hx ihx hpx hfx
    go_enter Try.func42, Try.ntmps42
    go_wp2_with fail
    refine HX.out.mono ?_
    rintro e w1 ⟨rfl, hb1⟩
    rw [← hW0] at hb1
    have HB1 := Lib.hid (HB0.out.trans (hb1.mono (by have := HS0.out; omega)))
    have HZ1 := Lib.hid (HZ0.out.below hb1 (by have := HS0.out; omega))
    have hg1 : g + 1 ≤ w1.heap.size := by have := hb1.size; have := HS0.out; omega
    obtain ⟨k, hk⟩ : ∃ k, w1.heap.size = k := ⟨_, rfl⟩
    have HK := Lib.hid (SetAt.zero w1 k hk)
    have hbk := Below.alloc (Below.refl w1.heap.size w1) (Nat.le_refl _) zSet
    have HZ2 := Lib.hid (HZ1.out.below hbk (by omega))
    have HBK := Lib.hid (HB1.out.trans (hbk.mono (by omega)))
    have hgk : g + 1 ≤ k := by omega
    clear hb1 hbk HX hW0
    go_wp2_with (first
      | (refine wpList_store_set rfl _ _ rfl k emptyS fx rfl rfl HK.out ?_; intro w9 hF9 hB9 hO9 hS9; have HB2 := Lib.hid (HBK.out.trans (hB9 g (by omega))); have HZ3 : Hid (SetAt w9 g emptyS) := Lib.hid ((hO9 g (by omega)).trans HZ2.out); have hl2 := run_loadS0 w9 k fx hF9; clear hF9 hB9 hO9 hS9)
      | (refine wpList_store_set rfl _ _ rfl g emptyS fx rfl rfl HZ3.out ?_; intro w9 hF9 hB9 hO9 hS9; have HR := Lib.hid hF9; have HBR := Lib.hid (HB2.out.trans (hB9 g (by omega))); clear hF9 hB9 hO9 hS9))
    refine bodyPost_ret (results_cell_row rfl _ _ g 33 _ (0, 0) _ rfl HR.out Try.underlying33 rfl sizeSet) rfl ⟨by rw [HE.out]; rfl, ?_⟩
    first | exact HBR.out | (rw [HG.out]; exact HBR.out)
  | cat x y ihx ihy =>
    intro w i base h hp
    obtain ⟨g, hg⟩ : ∃ g, w.heap.size = g := ⟨_, rfl⟩
    have HG := Lib.hid hg
    obtain ⟨W0, hW0⟩ : ∃ W, W = w.alloc zSet := ⟨_, rfl⟩
    have hs0 : W0.heap.size = g + 1 := by rw [hW0]; simp [hg]
    have hb0 : Below g w W0 := by rw [hW0, ← hg]; exact (Below.refl _ _).alloc (Nat.le_refl _) _
    have hz0 : SetAt W0 g emptyS := by rw [hW0]; exact SetAt.zero w g hg
    have h0 : CRow rxC 5 W0 a n l := h.below (by rw [hg]; exact hb0)
    have HB0 := Lib.hid hb0
    have HS0 := Lib.hid hs0
    have HZ0 := Lib.hid hz0
    have HHS := Lib.hid fun w h => short_any w a n c l h hn (.cat x y) i base hp
    obtain ⟨b, off, hA, hin, c0⟩ := step_at h0 hp
    replace c0 : W0.cell? ⟨b, off + i * 5, none⟩ = some (.int .i64 3) := c0
    obtain ⟨h1, hpy, h2, hpx⟩ := hp.last2 (k := 3) rfl
    have hy := ihy W0 (i - 1) _ h0 hpy
    have HB := Lib.hid fun w h => rbegin_any w a n c l h hn y (i - 1) _ hpy
    have HX := Lib.hid fun w h => ihx w _ _ h hpx
    have HSY := Lib.hid fun w h => short_any w a n c l h hn y (i - 1) _ hpy
    have HSX := Lib.hid fun w h => short_any w a n c l h hn x _ _ hpx
    have HH := Lib.hid h0
    have hp1 := post_pos y
    have hl1 := h.1
    have z1 : (i : Int) < (n : Int) := by omega
    have z0 : (0 : Int) ≤ (i : Int) := by omega
    obtain ⟨j, rfl⟩ : ∃ j, i = j + 1 := ⟨i - 1, by omega⟩
    rw [Nat.add_sub_cancel] at hy HB HSY
    obtain ⟨m, hm⟩ : ∃ m, j + 1 - (post y).length = m + 1 := ⟨j + 1 - (post y).length - 1, by omega⟩
    rw [show j + 1 - (post y).length - 1 = m by omega] at HX HSX
    rw [hm] at HB
    have z2 : (((j + 1 : Nat) : Int) - 1) = (j : Int) := by omega
    have z3 : ((j : Int) + 1 - 1) = (j : Int) := by omega
    have z4 : ((m : Int) + 1 - 1) = (m : Int) := by omega
    have hmb : m ≤ 200000 := by omega
    obtain ⟨fx, hfx⟩ : ∃ f, frT x = f := ⟨_, rfl⟩
    obtain ⟨fy, hfy⟩ : ∃ f, frT y = f := ⟨_, rfl⟩
    obtain ⟨sx, hsx⟩ : ∃ s, shT x = s := ⟨_, rfl⟩
    obtain ⟨sy, hsy⟩ : ∃ s, shT y = s := ⟨_, rfl⟩
    obtain ⟨sh, hsh⟩ : ∃ s, shT (.cat x y) = s := ⟨_, rfl⟩
    rw [hfy] at hy
    rw [hfx] at HX
    rw [hsx] at HSX
    rw [hsy] at HSY
    rw [hsh] at HHS
    rw [hW0] at c0 hy
    unfold zSet at c0 hy hW0
    have HFX := Lib.hid hfx
    have HFY := Lib.hid hfy
    have HSX2 := Lib.hid hsx
    have HSY2 := Lib.hid hsy
    have HSH2 := Lib.hid hsh
    have HY := Lib.hid hy
    have HTW := Lib.hid fun w => two0_any fx fy w
    subst hA
    clear h hp h0 hs0 hb0 hz0 hy ihx ihy hpx hpy hm hfx hfy hsx hsy hsh hl1
    go_enter Try.func42, Try.ntmps42
    go_wp2_with fail
    refine HY.out.mono ?_
    rintro e w1 ⟨rfl, hb1⟩
    rw [← hW0] at hb1
    have HB1 := Lib.hid (HB0.out.trans (hb1.mono (by have := HS0.out; omega)))
    have HH1 := Lib.hid (HH.out.below hb1)
    have HZ1 := Lib.hid (HZ0.out.below hb1 (by have := HS0.out; omega))
    have hg1 : g + 1 ≤ w1.heap.size := by have := hb1.size; have := HS0.out; omega
    obtain ⟨k, hk⟩ : ∃ k, w1.heap.size = k := ⟨_, rfl⟩
    have HK := Lib.hid (SetAt.zero w1 k hk)
    have hbk := Below.alloc (Below.refl w1.heap.size w1) (Nat.le_refl _) zSet
    have HZ2 := Lib.hid (HZ1.out.below hbk (by omega))
    have HH2 := Lib.hid (HH1.out.below hbk)
    have HBK := Lib.hid (HB1.out.trans (hbk.mono (by omega)))
    have hgk : g + 1 ≤ k := by omega
    have HHK : Hid (Below k w1 (w1.alloc zSet)) := Lib.hid (by rw [← hk]; exact hbk)
    clear hb1 hbk HY hW0 c0
    go_wp2_with (refine wpList_store_set rfl _ _ rfl k emptyS fy rfl rfl HK.out ?_; intro w9 hF9 hB9 hO9 hS9; have HB2 := Lib.hid (HBK.out.trans (hB9 g (by omega))); have HZ3 : Hid (SetAt w9 g emptyS) := Lib.hid ((hO9 g (by omega)).trans HZ2.out); have HK3 := Lib.hid hF9; have hbb := HHK.out.trans (hB9 k (Nat.le_refl _)); have HH3 := Lib.hid (HH1.out.below (hbb.mono (Nat.le_of_eq hk))); clear hbb; have hg9 : g + 1 ≤ w9.heap.size := (by have := hF9.lt; omega); clear hF9 hB9 hO9 hS9)
    refine (HB.out _ HH3.out).mono ?_
    rintro e w' ⟨rfl, rfl⟩
    go_wp2_with fail
    refine (HX.out _ HH3.out).mono ?_
    rintro e w3 ⟨rfl, hb3⟩
    have HB3 := Lib.hid (HB2.out.trans (hb3.mono (by omega)))
    have HH4 := Lib.hid (HH3.out.below hb3)
    have HZ4 := Lib.hid (HZ3.out.below hb3 HZ3.out.lt)
    have HK4 := Lib.hid (HK3.out.below hb3 HK3.out.lt)
    have hg3 : g + 1 ≤ w3.heap.size := by have := hb3.size; omega
    have hk3 : k < w3.heap.size := HK4.out.lt
    obtain ⟨k2, hk2⟩ : ∃ k, w3.heap.size = k := ⟨_, rfl⟩
    have HL := Lib.hid (SetAt.zero w3 k2 hk2)
    have hbl := Below.alloc (Below.refl w3.heap.size w3) (Nat.le_refl _) zSet
    have HZ5 := Lib.hid (HZ4.out.below hbl (by omega))
    have HK5 := Lib.hid (HK4.out.below hbl (by omega))
    have HH5 := Lib.hid (HH4.out)
    have HBL := Lib.hid (HB3.out.trans (hbl.mono (by omega)))
    have HHL : Hid (Below k2 w3 (w3.alloc zSet)) := Lib.hid (by rw [← hk2]; exact hbl)
    have hkk : k < k2 := by omega
    clear hb3 hbl hk hk3
    go_wp2_with (first
      | (refine wpList_store_set rfl _ _ rfl k2 emptyS fx rfl rfl HL.out ?_; intro w9 hF9 hB9 hO9 hS9; have HB4 := Lib.hid (HBL.out.trans (hB9 g (by omega))); have HZ6 : Hid (SetAt w9 g emptyS) := Lib.hid ((hO9 g (by omega)).trans HZ5.out); have hlx := run_loadS0 w9 k2 fx hF9; have hly := run_loadS0 w9 k fy ((hO9 k (by omega)).trans HK5.out); have hbb := HHL.out.trans (hB9 k2 (Nat.le_refl _)); have HH6 := Lib.hid (HH4.out.below (hbb.mono (Nat.le_of_eq hk2))); clear hbb; have hg8 : g + 1 ≤ w9.heap.size := (by have := hF9.lt; omega); clear hF9 hB9 hO9 hS9)
      | fail)
    refine (HSY.out _ HH6.out).mono ?_
    rintro e w' ⟨rfl, rfl⟩
    by_cases q1 : sy < 0
    · have HE : Hid (frT (.cat x y) = emptyS) := Lib.hid (by simp only [frT]; rw [HSY2.out, if_pos q1])
      go_wp2_with (refine wpList_store_set rfl _ _ rfl g emptyS emptyS rfl rfl HZ6.out ?_; intro w9 hF9 hB9 hO9 hS9; have HR := Lib.hid hF9; have HBR := Lib.hid (HB4.out.trans (hB9 g (by omega))); clear hF9 hB9 hO9 hS9)
      refine bodyPost_ret (results_cell_row rfl _ _ g 33 _ (0, 0) _ rfl HR.out Try.underlying33 rfl sizeSet) rfl ⟨by rw [HE.out]; rfl, ?_⟩
      first | exact HBR.out | (rw [HG.out]; exact HBR.out)
    · go_wp2_with fail
      refine (HSX.out _ HH6.out).mono ?_
      rintro e w' ⟨rfl, rfl⟩
      by_cases q2 : sx = 0
      · have HE : Hid (frT (.cat x y) = orS fx fy) := Lib.hid (by simp only [frT]; rw [HSX2.out, HSY2.out, HFX.out, HFY.out, if_neg (by omega), if_pos q2]; rfl)
        subst q2
        go_wp2_with (first
          | (go_at_call 65; refine (HTW.out _).mono ?_; rintro e wt ⟨rfl, hbt⟩; have HBT := Lib.hid (HB4.out.trans (hbt.mono (by omega))); have HZT := Lib.hid (HZ6.out.below hbt HZ6.out.lt); clear hbt)
          | (refine wpList_store_set rfl _ _ rfl g emptyS (orS fx fy) rfl rfl HZT.out ?_; intro w9 hF9 hB9 hO9 hS9; have HR := Lib.hid hF9; have HBR := Lib.hid (HBT.out.trans (hB9 g (by omega))); clear hF9 hB9 hO9 hS9))
        refine bodyPost_ret (results_cell_row rfl _ _ g 33 _ (0, 0) _ rfl HR.out Try.underlying33 rfl sizeSet) rfl ⟨by rw [HE.out]; rfl, ?_⟩
        first | exact HBR.out | (rw [HG.out]; exact HBR.out)
      · have HE : Hid (frT (.cat x y) = fx) := Lib.hid (by simp only [frT]; rw [HSX2.out, HSY2.out, HFX.out, if_neg (by omega), if_neg (by omega)])
        have q3 : (sx == 0) = false := by simpa using q2
        clear q2
        go_wp2_with (refine wpList_store_set rfl _ _ rfl g emptyS fx rfl rfl HZ6.out ?_; intro w9 hF9 hB9 hO9 hS9; have HR := Lib.hid hF9; have HBR := Lib.hid (HB4.out.trans (hB9 g (by omega))); clear hF9 hB9 hO9 hS9)
        refine bodyPost_ret (results_cell_row rfl _ _ g 33 _ (0, 0) _ rfl HR.out Try.underlying33 rfl sizeSet) rfl ⟨by rw [HE.out]; rfl, ?_⟩
        first | exact HBR.out | (rw [HG.out]; exact HBR.out)
  | alt x y ihx ihy =>
    intro w i base h hp
    obtain ⟨g, hg⟩ : ∃ g, w.heap.size = g := ⟨_, rfl⟩
    have HG := Lib.hid hg
    obtain ⟨W0, hW0⟩ : ∃ W, W = w.alloc zSet := ⟨_, rfl⟩
    have hs0 : W0.heap.size = g + 1 := by rw [hW0]; simp [hg]
    have hb0 : Below g w W0 := by rw [hW0, ← hg]; exact (Below.refl _ _).alloc (Nat.le_refl _) _
    have hz0 : SetAt W0 g emptyS := by rw [hW0]; exact SetAt.zero w g hg
    have h0 : CRow rxC 5 W0 a n l := h.below (by rw [hg]; exact hb0)
    have HB0 := Lib.hid hb0
    have HS0 := Lib.hid hs0
    have HZ0 := Lib.hid hz0
    have HHS := Lib.hid fun w h => short_any w a n c l h hn (.alt x y) i base hp
    obtain ⟨b, off, hA, hin, c0⟩ := step_at h0 hp
    replace c0 : W0.cell? ⟨b, off + i * 5, none⟩ = some (.int .i64 4) := c0
    obtain ⟨h1, hpy, h2, hpx⟩ := hp.last2 (k := 4) rfl
    have hy := ihy W0 (i - 1) _ h0 hpy
    have HB := Lib.hid fun w h => rbegin_any w a n c l h hn y (i - 1) _ hpy
    have HX := Lib.hid fun w h => ihx w _ _ h hpx
    have HSY := Lib.hid fun w h => short_any w a n c l h hn y (i - 1) _ hpy
    have HSX := Lib.hid fun w h => short_any w a n c l h hn x _ _ hpx
    have HH := Lib.hid h0
    have hp1 := post_pos y
    have hl1 := h.1
    have z1 : (i : Int) < (n : Int) := by omega
    have z0 : (0 : Int) ≤ (i : Int) := by omega
    obtain ⟨j, rfl⟩ : ∃ j, i = j + 1 := ⟨i - 1, by omega⟩
    rw [Nat.add_sub_cancel] at hy HB HSY
    obtain ⟨m, hm⟩ : ∃ m, j + 1 - (post y).length = m + 1 := ⟨j + 1 - (post y).length - 1, by omega⟩
    rw [show j + 1 - (post y).length - 1 = m by omega] at HX HSX
    rw [hm] at HB
    have z2 : (((j + 1 : Nat) : Int) - 1) = (j : Int) := by omega
    have z3 : ((j : Int) + 1 - 1) = (j : Int) := by omega
    have z4 : ((m : Int) + 1 - 1) = (m : Int) := by omega
    have hmb : m ≤ 200000 := by omega
    obtain ⟨fx, hfx⟩ : ∃ f, frT x = f := ⟨_, rfl⟩
    obtain ⟨fy, hfy⟩ : ∃ f, frT y = f := ⟨_, rfl⟩
    obtain ⟨sx, hsx⟩ : ∃ s, shT x = s := ⟨_, rfl⟩
    obtain ⟨sy, hsy⟩ : ∃ s, shT y = s := ⟨_, rfl⟩
    obtain ⟨sh, hsh⟩ : ∃ s, shT (.alt x y) = s := ⟨_, rfl⟩
    rw [hfy] at hy
    rw [hfx] at HX
    rw [hsx] at HSX
    rw [hsy] at HSY
    rw [hsh] at HHS
    rw [hW0] at c0 hy
    unfold zSet at c0 hy hW0
    have HFX := Lib.hid hfx
    have HFY := Lib.hid hfy
    have HSX2 := Lib.hid hsx
    have HSY2 := Lib.hid hsy
    have HSH2 := Lib.hid hsh
    have HY := Lib.hid hy
    have HTW := Lib.hid fun w => two0_any fx fy w
    subst hA
    clear h hp h0 hs0 hb0 hz0 hy ihx ihy hpx hpy hm hfx hfy hsx hsy hsh hl1
    go_enter Try.func42, Try.ntmps42
    go_wp2_with fail
    refine HY.out.mono ?_
    rintro e w1 ⟨rfl, hb1⟩
    rw [← hW0] at hb1
    have HB1 := Lib.hid (HB0.out.trans (hb1.mono (by have := HS0.out; omega)))
    have HH1 := Lib.hid (HH.out.below hb1)
    have HZ1 := Lib.hid (HZ0.out.below hb1 (by have := HS0.out; omega))
    have hg1 : g + 1 ≤ w1.heap.size := by have := hb1.size; have := HS0.out; omega
    obtain ⟨k, hk⟩ : ∃ k, w1.heap.size = k := ⟨_, rfl⟩
    have HK := Lib.hid (SetAt.zero w1 k hk)
    have hbk := Below.alloc (Below.refl w1.heap.size w1) (Nat.le_refl _) zSet
    have HZ2 := Lib.hid (HZ1.out.below hbk (by omega))
    have HH2 := Lib.hid (HH1.out.below hbk)
    have HBK := Lib.hid (HB1.out.trans (hbk.mono (by omega)))
    have hgk : g + 1 ≤ k := by omega
    have HHK : Hid (Below k w1 (w1.alloc zSet)) := Lib.hid (by rw [← hk]; exact hbk)
    clear hb1 hbk HY hW0 c0
    go_wp2_with (refine wpList_store_set rfl _ _ rfl k emptyS fy rfl rfl HK.out ?_; intro w9 hF9 hB9 hO9 hS9; have HB2 := Lib.hid (HBK.out.trans (hB9 g (by omega))); have HZ3 : Hid (SetAt w9 g emptyS) := Lib.hid ((hO9 g (by omega)).trans HZ2.out); have HK3 := Lib.hid hF9; have hbb := HHK.out.trans (hB9 k (Nat.le_refl _)); have HH3 := Lib.hid (HH1.out.below (hbb.mono (Nat.le_of_eq hk))); clear hbb; have hg9 : g + 1 ≤ w9.heap.size := (by have := hF9.lt; omega); clear hF9 hB9 hO9 hS9)
    refine (HB.out _ HH3.out).mono ?_
    rintro e w' ⟨rfl, rfl⟩
    go_wp2_with fail
    refine (HX.out _ HH3.out).mono ?_
    rintro e w3 ⟨rfl, hb3⟩
    have HB3 := Lib.hid (HB2.out.trans (hb3.mono (by omega)))
    have HH4 := Lib.hid (HH3.out.below hb3)
    have HZ4 := Lib.hid (HZ3.out.below hb3 HZ3.out.lt)
    have HK4 := Lib.hid (HK3.out.below hb3 HK3.out.lt)
    have hg3 : g + 1 ≤ w3.heap.size := by have := hb3.size; omega
    have hk3 : k < w3.heap.size := HK4.out.lt
    obtain ⟨k2, hk2⟩ : ∃ k, w3.heap.size = k := ⟨_, rfl⟩
    have HL := Lib.hid (SetAt.zero w3 k2 hk2)
    have hbl := Below.alloc (Below.refl w3.heap.size w3) (Nat.le_refl _) zSet
    have HZ5 := Lib.hid (HZ4.out.below hbl (by omega))
    have HK5 := Lib.hid (HK4.out.below hbl (by omega))
    have HH5 := Lib.hid (HH4.out)
    have HBL := Lib.hid (HB3.out.trans (hbl.mono (by omega)))
    have HHL : Hid (Below k2 w3 (w3.alloc zSet)) := Lib.hid (by rw [← hk2]; exact hbl)
    have hkk : k < k2 := by omega
    clear hb3 hbl hk hk3
    have HE : Hid (frT (.alt x y) = orS fx fy) := Lib.hid (by simp only [frT]; rw [HFX.out, HFY.out]; rfl)
    go_wp2_with (first
      | (refine wpList_store_set rfl _ _ rfl k2 emptyS fx rfl rfl HL.out ?_; intro w9 hF9 hB9 hO9 hS9; have HB4 := Lib.hid (HBL.out.trans (hB9 g (by omega))); have HZ6 : Hid (SetAt w9 g emptyS) := Lib.hid ((hO9 g (by omega)).trans HZ5.out); have hlx := run_loadS0 w9 k2 fx hF9; have hly := run_loadS0 w9 k fy ((hO9 k (by omega)).trans HK5.out); have hbb := HHL.out.trans (hB9 k2 (Nat.le_refl _)); have HH6 := Lib.hid (HH4.out.below (hbb.mono (Nat.le_of_eq hk2))); clear hbb; have hg8 : g + 1 ≤ w9.heap.size := (by have := hF9.lt; omega); clear hF9 hB9 hO9 hS9)
      | (go_at_call 65; refine (HTW.out _).mono ?_; rintro e wt ⟨rfl, hbt⟩; have HBT := Lib.hid (HB4.out.trans (hbt.mono (by omega))); have HZT := Lib.hid (HZ6.out.below hbt HZ6.out.lt); clear hbt)
      | (refine wpList_store_set rfl _ _ rfl g emptyS (orS fx fy) rfl rfl HZT.out ?_; intro w9 hF9 hB9 hO9 hS9; have HR := Lib.hid hF9; have HBR := Lib.hid (HBT.out.trans (hB9 g (by omega))); clear hF9 hB9 hO9 hS9))
    refine bodyPost_ret (results_cell_row rfl _ _ g 33 _ (0, 0) _ rfl HR.out Try.underlying33 rfl sizeSet) rfl ⟨by rw [HE.out]; rfl, ?_⟩
    first | exact HBR.out | (rw [HG.out]; exact HBR.out)
set_option maxHeartbeats 4000000 in
set_option maxRecDepth 100000 in
theorem used_any (a : Option Addr) (n c : Nat) (l : List Rx) (hn : n ≤ 100000) : ∀ (T : RxT) (w : World) (i base : Nat), CRow rxC 5 w a n l → PartAt l i base T →
    Calls Try.prog 43 #[.slice a n c, .int .i64 (i : Int)] w fun e w' => e = .returned (setV (usT T)) ∧ Below w.heap.size w w' := by
  intro T
  induction T with
  | set S =>
    intro w i base h hp
    obtain ⟨g, hg⟩ : ∃ g, w.heap.size = g := ⟨_, rfl⟩
    have HG := Lib.hid hg
    obtain ⟨W0, hW0⟩ : ∃ W, W = w.alloc zSet := ⟨_, rfl⟩
    have hs0 : W0.heap.size = g + 1 := by rw [hW0]; simp [hg]
    have hb0 : Below g w W0 := by rw [hW0, ← hg]; exact (Below.refl _ _).alloc (Nat.le_refl _) _
    have hz0 : SetAt W0 g emptyS := by rw [hW0]; exact SetAt.zero w g hg
    have h0 : CRow rxC 5 W0 a n l := h.below (by rw [hg]; exact hb0)
    have HB0 := Lib.hid hb0
    have HS0 := Lib.hid hs0
    have HZ0 := Lib.hid hz0
    obtain ⟨b, off, hin, rfl, c0, c1, c2, c3, c4⟩ := step_set h0 hp
    have z1 : (i : Int) < (n : Int) := by omega
    have z0 : (0 : Int) ≤ (i : Int) := by omega
    have hl := run_loadS W0 b (off + i * 5 + 1) S c1 c2 c3 c4
    have HE : Hid (usT (.set S) = S) := Lib.hid rfl
    rw [hW0] at c0 hl
    unfold zSet at c0 hl hW0
    clear h hp h0 hs0 hb0 hz0 c1 c2 c3 c4
    go_enter Try.func43, Try.ntmps43
    go_wp2_with (refine wpList_store_set rfl _ _ rfl g emptyS S rfl rfl (by rw [← hW0]; exact HZ0.out) ?_; intro w9 hF9 hB9 hO9 hS9; rw [← hW0] at hB9; have HR := Lib.hid hF9; have HBR := Lib.hid (HB0.out.trans (hB9 g (by omega))); clear hF9 hB9 hO9 hS9)
    refine bodyPost_ret (results_cell_row rfl _ _ g 33 _ (0, 0) _ rfl HR.out Try.underlying33 rfl sizeSet) rfl ⟨by rw [HE.out]; rfl, ?_⟩
    first | exact HBR.out | (rw [HG.out]; exact HBR.out)
  | empty =>
    intro w i base h hp
    obtain ⟨g, hg⟩ : ∃ g, w.heap.size = g := ⟨_, rfl⟩
    have HG := Lib.hid hg
    obtain ⟨W0, hW0⟩ : ∃ W, W = w.alloc zSet := ⟨_, rfl⟩
    have hs0 : W0.heap.size = g + 1 := by rw [hW0]; simp [hg]
    have hb0 : Below g w W0 := by rw [hW0, ← hg]; exact (Below.refl _ _).alloc (Nat.le_refl _) _
    have hz0 : SetAt W0 g emptyS := by rw [hW0]; exact SetAt.zero w g hg
    have h0 : CRow rxC 5 W0 a n l := h.below (by rw [hg]; exact hb0)
    have HB0 := Lib.hid hb0
    have HS0 := Lib.hid hs0
    have HZ0 := Lib.hid hz0
    obtain ⟨b, off, hin, rfl, c0, c1, c2, c3, c4⟩ := step_empty h0 hp
    have z1 : (i : Int) < (n : Int) := by omega
    have z0 : (0 : Int) ≤ (i : Int) := by omega
    have hl := run_loadS W0 b (off + i * 5 + 1) emptyS c1 c2 c3 c4
    have HE : Hid (usT (.empty) = emptyS) := Lib.hid rfl
    rw [hW0] at c0 hl
    unfold zSet at c0 hl hW0
    clear h hp h0 hs0 hb0 hz0 c1 c2 c3 c4
    go_enter Try.func43, Try.ntmps43
    go_wp2_with (refine wpList_store_set rfl _ _ rfl g emptyS emptyS rfl rfl (by rw [← hW0]; exact HZ0.out) ?_; intro w9 hF9 hB9 hO9 hS9; rw [← hW0] at hB9; have HR := Lib.hid hF9; have HBR := Lib.hid (HB0.out.trans (hB9 g (by omega))); clear hF9 hB9 hO9 hS9)
    refine bodyPost_ret (results_cell_row rfl _ _ g 33 _ (0, 0) _ rfl HR.out Try.underlying33 rfl sizeSet) rfl ⟨by rw [HE.out]; rfl, ?_⟩
    first | exact HBR.out | (rw [HG.out]; exact HBR.out)
  | star x ihx =>
    intro w i base h hp
    obtain ⟨g, hg⟩ : ∃ g, w.heap.size = g := ⟨_, rfl⟩
    have HG := Lib.hid hg
    obtain ⟨W0, hW0⟩ : ∃ W, W = w.alloc zSet := ⟨_, rfl⟩
    have hs0 : W0.heap.size = g + 1 := by rw [hW0]; simp [hg]
    have hb0 : Below g w W0 := by rw [hW0, ← hg]; exact (Below.refl _ _).alloc (Nat.le_refl _) _
    have hz0 : SetAt W0 g emptyS := by rw [hW0]; exact SetAt.zero w g hg
    have h0 : CRow rxC 5 W0 a n l := h.below (by rw [hg]; exact hb0)
    have HB0 := Lib.hid hb0
    have HS0 := Lib.hid hs0
    have HZ0 := Lib.hid hz0
    obtain ⟨b, off, rfl, hin, c0⟩ := step_at h0 hp
    replace c0 : W0.cell? ⟨b, off + i * 5, none⟩ = some (.int .i64 5) := c0
    obtain ⟨h1, hpx⟩ := hp.last1 (k := 5) rfl
    have hx := ihx W0 (i - 1) base h0 hpx
    have z1 : (i : Int) < (n : Int) := by omega
    have z0 : (0 : Int) ≤ (i : Int) := by omega
    obtain ⟨j, rfl⟩ : ∃ j, i = j + 1 := ⟨i - 1, by omega⟩
    rw [Nat.add_sub_cancel] at hx
    have z2 : (((j + 1 : Nat) : Int) - 1) = (j : Int) := by omega
    have z3 : ((j : Int) + 1 - 1) = (j : Int) := by omega
    have HE : Hid (usT (.star x) = usT x) := Lib.hid rfl
    obtain ⟨fx, hfx⟩ : ∃ f, usT x = f := ⟨_, rfl⟩
    rw [hfx] at hx HE
    rw [hW0] at c0 hx
    unfold zSet at c0 hx hW0
    have HX := Lib.hid hx
    clear h hp h0 hs0 hb0 hz0 hx ihx hpx hfx
    go_enter Try.func43, Try.ntmps43
    go_wp2_with fail
    refine HX.out.mono ?_
    rintro e w1 ⟨rfl, hb1⟩
    rw [← hW0] at hb1
    have HB1 := Lib.hid (HB0.out.trans (hb1.mono (by have := HS0.out; omega)))
    have HZ1 := Lib.hid (HZ0.out.below hb1 (by have := HS0.out; omega))
    have hg1 : g + 1 ≤ w1.heap.size := by have := hb1.size; have := HS0.out; omega
    obtain ⟨k, hk⟩ : ∃ k, w1.heap.size = k := ⟨_, rfl⟩
    have HK := Lib.hid (SetAt.zero w1 k hk)
    have hbk := Below.alloc (Below.refl w1.heap.size w1) (Nat.le_refl _) zSet
    have HZ2 := Lib.hid (HZ1.out.below hbk (by omega))
    have HBK := Lib.hid (HB1.out.trans (hbk.mono (by omega)))
    have hgk : g + 1 ≤ k := by omega
    clear hb1 hbk HX hW0
    go_wp2_with (first
      | (refine wpList_store_set rfl _ _ rfl k emptyS fx rfl rfl HK.out ?_; intro w9 hF9 hB9 hO9 hS9; have HB2 := Lib.hid (HBK.out.trans (hB9 g (by omega))); have HZ3 : Hid (SetAt w9 g emptyS) := Lib.hid ((hO9 g (by omega)).trans HZ2.out); have hl2 := run_loadS0 w9 k fx hF9; clear hF9 hB9 hO9 hS9)
      | (refine wpList_store_set rfl _ _ rfl g emptyS fx rfl rfl HZ3.out ?_; intro w9 hF9 hB9 hO9 hS9; have HR := Lib.hid hF9; have HBR := Lib.hid (HB2.out.trans (hB9 g (by omega))); clear hF9 hB9 hO9 hS9))
    refine bodyPost_ret (results_cell_row rfl _ _ g 33 _ (0, 0) _ rfl HR.out Try.underlying33 rfl sizeSet) rfl ⟨by rw [HE.out]; rfl, ?_⟩
    first | exact HBR.out | (rw [HG.out]; exact HBR.out)
  | plus x ihx =>
    intro w i base h hp
    obtain ⟨g, hg⟩ : ∃ g, w.heap.size = g := ⟨_, rfl⟩
    have HG := Lib.hid hg
    obtain ⟨W0, hW0⟩ : ∃ W, W = w.alloc zSet := ⟨_, rfl⟩
    have hs0 : W0.heap.size = g + 1 := by rw [hW0]; simp [hg]
    have hb0 : Below g w W0 := by rw [hW0, ← hg]; exact (Below.refl _ _).alloc (Nat.le_refl _) _
    have hz0 : SetAt W0 g emptyS := by rw [hW0]; exact SetAt.zero w g hg
    have h0 : CRow rxC 5 W0 a n l := h.below (by rw [hg]; exact hb0)
    have HB0 := Lib.hid hb0
    have HS0 := Lib.hid hs0
    have HZ0 := Lib.hid hz0
    obtain ⟨b, off, rfl, hin, c0⟩ := step_at h0 hp
    replace c0 : W0.cell? ⟨b, off + i * 5, none⟩ = some (.int .i64 6) := c0
    obtain ⟨h1, hpx⟩ := hp.last1 (k := 6) rfl
    have hx := ihx W0 (i - 1) base h0 hpx
    have z1 : (i : Int) < (n : Int) := by omega
    have z0 : (0 : Int) ≤ (i : Int) := by omega
    obtain ⟨j, rfl⟩ : ∃ j, i = j + 1 := ⟨i - 1, by omega⟩
    rw [Nat.add_sub_cancel] at hx
    have z2 : (((j + 1 : Nat) : Int) - 1) = (j : Int) := by omega
    have z3 : ((j : Int) + 1 - 1) = (j : Int) := by omega
    have HE : Hid (usT (.plus x) = usT x) := Lib.hid rfl
    obtain ⟨fx, hfx⟩ : ∃ f, usT x = f := ⟨_, rfl⟩
    rw [hfx] at hx HE
    rw [hW0] at c0 hx
    unfold zSet at c0 hx hW0
    have HX := Lib.hid hx
    clear h hp h0 hs0 hb0 hz0 hx ihx hpx hfx
    go_enter Try.func43, Try.ntmps43
    go_wp2_with fail
    refine HX.out.mono ?_
    rintro e w1 ⟨rfl, hb1⟩
    rw [← hW0] at hb1
    have HB1 := Lib.hid (HB0.out.trans (hb1.mono (by have := HS0.out; omega)))
    have HZ1 := Lib.hid (HZ0.out.below hb1 (by have := HS0.out; omega))
    have hg1 : g + 1 ≤ w1.heap.size := by have := hb1.size; have := HS0.out; omega
    obtain ⟨k, hk⟩ : ∃ k, w1.heap.size = k := ⟨_, rfl⟩
    have HK := Lib.hid (SetAt.zero w1 k hk)
    have hbk := Below.alloc (Below.refl w1.heap.size w1) (Nat.le_refl _) zSet
    have HZ2 := Lib.hid (HZ1.out.below hbk (by omega))
    have HBK := Lib.hid (HB1.out.trans (hbk.mono (by omega)))
    have hgk : g + 1 ≤ k := by omega
    clear hb1 hbk HX hW0
    go_wp2_with (first
      | (refine wpList_store_set rfl _ _ rfl k emptyS fx rfl rfl HK.out ?_; intro w9 hF9 hB9 hO9 hS9; have HB2 := Lib.hid (HBK.out.trans (hB9 g (by omega))); have HZ3 : Hid (SetAt w9 g emptyS) := Lib.hid ((hO9 g (by omega)).trans HZ2.out); have hl2 := run_loadS0 w9 k fx hF9; clear hF9 hB9 hO9 hS9)
      | (refine wpList_store_set rfl _ _ rfl g emptyS fx rfl rfl HZ3.out ?_; intro w9 hF9 hB9 hO9 hS9; have HR := Lib.hid hF9; have HBR := Lib.hid (HB2.out.trans (hB9 g (by omega))); clear hF9 hB9 hO9 hS9))
    refine bodyPost_ret (results_cell_row rfl _ _ g 33 _ (0, 0) _ rfl HR.out Try.underlying33 rfl sizeSet) rfl ⟨by rw [HE.out]; rfl, ?_⟩
    first | exact HBR.out | (rw [HG.out]; exact HBR.out)
  | opt x ihx =>
    intro w i base h hp
    obtain ⟨g, hg⟩ : ∃ g, w.heap.size = g := ⟨_, rfl⟩
    have HG := Lib.hid hg
    obtain ⟨W0, hW0⟩ : ∃ W, W = w.alloc zSet := ⟨_, rfl⟩
    have hs0 : W0.heap.size = g + 1 := by rw [hW0]; simp [hg]
    have hb0 : Below g w W0 := by rw [hW0, ← hg]; exact (Below.refl _ _).alloc (Nat.le_refl _) _
    have hz0 : SetAt W0 g emptyS := by rw [hW0]; exact SetAt.zero w g hg
    have h0 : CRow rxC 5 W0 a n l := h.below (by rw [hg]; exact hb0)
    have HB0 := Lib.hid hb0
    have HS0 := Lib.hid hs0
    have HZ0 := Lib.hid hz0
    obtain ⟨b, off, rfl, hin, c0⟩ := step_at h0 hp
    replace c0 : W0.cell? ⟨b, off + i * 5, none⟩ = some (.int .i64 7) := c0
    obtain ⟨h1, hpx⟩ := hp.last1 (k := 7) rfl
    have hx := ihx W0 (i - 1) base h0 hpx
    have z1 : (i : Int) < (n : Int) := by omega
    have z0 : (0 : Int) ≤ (i : Int) := by omega
    obtain ⟨j, rfl⟩ : ∃ j, i = j + 1 := ⟨i - 1, by omega⟩
    rw [Nat.add_sub_cancel] at hx
    have z2 : (((j + 1 : Nat) : Int) - 1) = (j : Int) := by omega
    have z3 : ((j : Int) + 1 - 1) = (j : Int) := by omega
    have HE : Hid (usT (.opt x) = usT x) := Lib.hid rfl
    obtain ⟨fx, hfx⟩ : ∃ f, usT x = f := ⟨_, rfl⟩
    rw [hfx] at hx HE
    rw [hW0] at c0 hx
    unfold zSet at c0 hx hW0
    have HX := Lib.hid hx
    clear h hp h0 hs0 hb0 hz0 hx ihx hpx hfx
    go_enter Try.func43, Try.ntmps43
    go_wp2_with fail
    refine HX.out.mono ?_
    rintro e w1 ⟨rfl, hb1⟩
    rw [← hW0] at hb1
    have HB1 := Lib.hid (HB0.out.trans (hb1.mono (by have := HS0.out; omega)))
    have HZ1 := Lib.hid (HZ0.out.below hb1 (by have := HS0.out; omega))
    have hg1 : g + 1 ≤ w1.heap.size := by have := hb1.size; have := HS0.out; omega
    obtain ⟨k, hk⟩ : ∃ k, w1.heap.size = k := ⟨_, rfl⟩
    have HK := Lib.hid (SetAt.zero w1 k hk)
    have hbk := Below.alloc (Below.refl w1.heap.size w1) (Nat.le_refl _) zSet
    have HZ2 := Lib.hid (HZ1.out.below hbk (by omega))
    have HBK := Lib.hid (HB1.out.trans (hbk.mono (by omega)))
    have hgk : g + 1 ≤ k := by omega
    clear hb1 hbk HX hW0
    go_wp2_with (first
      | (refine wpList_store_set rfl _ _ rfl k emptyS fx rfl rfl HK.out ?_; intro w9 hF9 hB9 hO9 hS9; have HB2 := Lib.hid (HBK.out.trans (hB9 g (by omega))); have HZ3 : Hid (SetAt w9 g emptyS) := Lib.hid ((hO9 g (by omega)).trans HZ2.out); have hl2 := run_loadS0 w9 k fx hF9; clear hF9 hB9 hO9 hS9)
      | (refine wpList_store_set rfl _ _ rfl g emptyS fx rfl rfl HZ3.out ?_; intro w9 hF9 hB9 hO9 hS9; have HR := Lib.hid hF9; have HBR := Lib.hid (HB2.out.trans (hB9 g (by omega))); clear hF9 hB9 hO9 hS9))
    refine bodyPost_ret (results_cell_row rfl _ _ g 33 _ (0, 0) _ rfl HR.out Try.underlying33 rfl sizeSet) rfl ⟨by rw [HE.out]; rfl, ?_⟩
    first | exact HBR.out | (rw [HG.out]; exact HBR.out)
  | cat x y ihx ihy =>
    intro w i base h hp
    obtain ⟨g, hg⟩ : ∃ g, w.heap.size = g := ⟨_, rfl⟩
    have HG := Lib.hid hg
    obtain ⟨W0, hW0⟩ : ∃ W, W = w.alloc zSet := ⟨_, rfl⟩
    have hs0 : W0.heap.size = g + 1 := by rw [hW0]; simp [hg]
    have hb0 : Below g w W0 := by rw [hW0, ← hg]; exact (Below.refl _ _).alloc (Nat.le_refl _) _
    have hz0 : SetAt W0 g emptyS := by rw [hW0]; exact SetAt.zero w g hg
    have h0 : CRow rxC 5 W0 a n l := h.below (by rw [hg]; exact hb0)
    have HB0 := Lib.hid hb0
    have HS0 := Lib.hid hs0
    have HZ0 := Lib.hid hz0
    have HHS := Lib.hid fun w h => short_any w a n c l h hn (.cat x y) i base hp
    obtain ⟨b, off, hA, hin, c0⟩ := step_at h0 hp
    replace c0 : W0.cell? ⟨b, off + i * 5, none⟩ = some (.int .i64 3) := c0
    obtain ⟨h1, hpy, h2, hpx⟩ := hp.last2 (k := 3) rfl
    have hy := ihy W0 (i - 1) _ h0 hpy
    have HB := Lib.hid fun w h => rbegin_any w a n c l h hn y (i - 1) _ hpy
    have HX := Lib.hid fun w h => ihx w _ _ h hpx
    have HSY := Lib.hid fun w h => short_any w a n c l h hn y (i - 1) _ hpy
    have HSX := Lib.hid fun w h => short_any w a n c l h hn x _ _ hpx
    have HH := Lib.hid h0
    have hp1 := post_pos y
    have hl1 := h.1
    have z1 : (i : Int) < (n : Int) := by omega
    have z0 : (0 : Int) ≤ (i : Int) := by omega
    obtain ⟨j, rfl⟩ : ∃ j, i = j + 1 := ⟨i - 1, by omega⟩
    rw [Nat.add_sub_cancel] at hy HB HSY
    obtain ⟨m, hm⟩ : ∃ m, j + 1 - (post y).length = m + 1 := ⟨j + 1 - (post y).length - 1, by omega⟩
    rw [show j + 1 - (post y).length - 1 = m by omega] at HX HSX
    rw [hm] at HB
    have z2 : (((j + 1 : Nat) : Int) - 1) = (j : Int) := by omega
    have z3 : ((j : Int) + 1 - 1) = (j : Int) := by omega
    have z4 : ((m : Int) + 1 - 1) = (m : Int) := by omega
    have hmb : m ≤ 200000 := by omega
    obtain ⟨fx, hfx⟩ : ∃ f, usT x = f := ⟨_, rfl⟩
    obtain ⟨fy, hfy⟩ : ∃ f, usT y = f := ⟨_, rfl⟩
    obtain ⟨sx, hsx⟩ : ∃ s, shT x = s := ⟨_, rfl⟩
    obtain ⟨sy, hsy⟩ : ∃ s, shT y = s := ⟨_, rfl⟩
    obtain ⟨sh, hsh⟩ : ∃ s, shT (.cat x y) = s := ⟨_, rfl⟩
    rw [hfy] at hy
    rw [hfx] at HX
    rw [hsx] at HSX
    rw [hsy] at HSY
    rw [hsh] at HHS
    rw [hW0] at c0 hy
    unfold zSet at c0 hy hW0
    have HFX := Lib.hid hfx
    have HFY := Lib.hid hfy
    have HSX2 := Lib.hid hsx
    have HSY2 := Lib.hid hsy
    have HSH2 := Lib.hid hsh
    have HY := Lib.hid hy
    have HTW := Lib.hid fun w => two0_any fx fy w
    subst hA
    clear h hp h0 hs0 hb0 hz0 hy ihx ihy hpx hpy hm hfx hfy hsx hsy hsh hl1
    go_enter Try.func43, Try.ntmps43
    go_wp2_with fail
    refine HY.out.mono ?_
    rintro e w1 ⟨rfl, hb1⟩
    rw [← hW0] at hb1
    have HB1 := Lib.hid (HB0.out.trans (hb1.mono (by have := HS0.out; omega)))
    have HH1 := Lib.hid (HH.out.below hb1)
    have HZ1 := Lib.hid (HZ0.out.below hb1 (by have := HS0.out; omega))
    have hg1 : g + 1 ≤ w1.heap.size := by have := hb1.size; have := HS0.out; omega
    obtain ⟨k, hk⟩ : ∃ k, w1.heap.size = k := ⟨_, rfl⟩
    have HK := Lib.hid (SetAt.zero w1 k hk)
    have hbk := Below.alloc (Below.refl w1.heap.size w1) (Nat.le_refl _) zSet
    have HZ2 := Lib.hid (HZ1.out.below hbk (by omega))
    have HH2 := Lib.hid (HH1.out.below hbk)
    have HBK := Lib.hid (HB1.out.trans (hbk.mono (by omega)))
    have hgk : g + 1 ≤ k := by omega
    have HHK : Hid (Below k w1 (w1.alloc zSet)) := Lib.hid (by rw [← hk]; exact hbk)
    clear hb1 hbk HY hW0 c0
    go_wp2_with (refine wpList_store_set rfl _ _ rfl k emptyS fy rfl rfl HK.out ?_; intro w9 hF9 hB9 hO9 hS9; have HB2 := Lib.hid (HBK.out.trans (hB9 g (by omega))); have HZ3 : Hid (SetAt w9 g emptyS) := Lib.hid ((hO9 g (by omega)).trans HZ2.out); have HK3 := Lib.hid hF9; have hbb := HHK.out.trans (hB9 k (Nat.le_refl _)); have HH3 := Lib.hid (HH1.out.below (hbb.mono (Nat.le_of_eq hk))); clear hbb; have hg9 : g + 1 ≤ w9.heap.size := (by have := hF9.lt; omega); clear hF9 hB9 hO9 hS9)
    refine (HHS.out _ HH3.out).mono ?_
    rintro e w' ⟨rfl, rfl⟩
    by_cases q1 : sh < 0
    · have HE : Hid (usT (.cat x y) = emptyS) := Lib.hid (by simp only [usT]; rw [HSH2.out, if_pos q1])
      go_wp2_with (refine wpList_store_set rfl _ _ rfl g emptyS emptyS rfl rfl HZ3.out ?_; intro w9 hF9 hB9 hO9 hS9; have HR := Lib.hid hF9; have HBR := Lib.hid (HB2.out.trans (hB9 g (by omega))); clear hF9 hB9 hO9 hS9)
      refine bodyPost_ret (results_cell_row rfl _ _ g 33 _ (0, 0) _ rfl HR.out Try.underlying33 rfl sizeSet) rfl ⟨by rw [HE.out]; rfl, ?_⟩
      first | exact HBR.out | (rw [HG.out]; exact HBR.out)
    · have HE : Hid (usT (.cat x y) = orS fx fy) := Lib.hid (by simp only [usT]; rw [HSH2.out, HFX.out, HFY.out, if_neg (by omega)]; rfl)
      go_wp2_with fail
      refine wp_region_fam_tail_lit (E := Onto) 9 1
        [isV (.slice (some ⟨b, off, none⟩) n c),
         isV (.slice (some ⟨b, off, none⟩) n c),
         isV (.int .i64 ((j + 1 : Nat) : Int)),
         isV (.int .i64 (j : Int)),
         isV (.int .i64 ((m + 1 : Nat) : Int)),
         isV (.int .i64 (m : Int)),
         isV (setV fx),
         isV (setV fy),
         isV (setV (orS fx fy))]
        [some 43, some 44, some 45, some 46, some 47, some 48, some 49, some 50, some 51] #[true, true, true, true, true, true, true, true, true, false] (by kernel_rfl) rfl (by kernel_rfl) (by kernel_rfl) rfl rfl rfl Onto.trans Onto.refl ?monoC ?obC ?qC
      case monoC => exact ⟨isV_mono _ _, isV_mono _ _, isV_mono _ _, isV_mono _ _, isV_mono _ _, isV_mono _ _, isV_mono _ _, isV_mono _ _, isV_mono _ _, trivial⟩
      case obC =>
        refine Obs.cons (j := 1) rfl ?_ ?_
        · refine Ob.free [(0, none)] (by kernel_rfl) (isV (.slice (some ⟨b, off, none⟩) n c)) rfl rfl (fun a X hE hL => ?_)
          simp [Seen, slotAt] at hL
          have h0 := hL
          rw [relAt_eq]
          go_simp
          exact ⟨Onto.refl _, rfl⟩
        refine Obs.cons (j := 2) rfl ?_ ?_
        · refine Ob.free [(0, none)] (by kernel_rfl) (isV (.slice (some ⟨b, off, none⟩) n c)) rfl rfl (fun a X hE hL => ?_)
          simp [Seen, slotAt] at hL
          have h0 := hL
          rw [relAt_eq]
          go_simp
          exact ⟨Onto.refl _, rfl⟩
        refine Obs.cons (j := 3) rfl ?_ ?_
        · refine Ob.free [(1, none)] (by kernel_rfl) (isV (.int .i64 ((j + 1 : Nat) : Int))) rfl rfl (fun a X hE hL => ?_)
          simp [Seen, slotAt] at hL
          have h1 := hL
          rw [relAt_eq]
          go_simp
          exact ⟨Onto.refl _, rfl⟩
        refine Obs.cons (j := 4) rfl ?_ ?_
        · refine Ob.free [(45, some 2)] (by kernel_rfl) (isV (.int .i64 (j : Int))) rfl rfl (fun a X hE hL => ?_)
          simp [Seen, slotAt, famV, isV] at hL
          have h45 := hL
          rw [relAt_eq]
          go_simp
          exact ⟨Onto.refl _, congrArg (Value.int .i64) (IntWalk.i64_in _ ⟨by omega, by omega⟩)⟩
        refine Obs.cons (j := 5) rfl ?_ ?_
        · refine Ob.free [(44, some 1), (46, some 3)] (by kernel_rfl) (isV (.int .i64 ((m + 1 : Nat) : Int))) rfl rfl (fun a X hE hL => ?_)
          simp [Seen, slotAt, famV, isV] at hL
          obtain ⟨h44, h46⟩ := hL
          rw [relAt_eq]
          go_simp
          rw [relUpon_enter]
          go_at_call 64
          refine (HB.out X (HH3.out.below (onto_drew hE))).mono ?_
          rintro e Y ⟨rfl, rfl⟩
          exact ⟨_, rfl, Onto.refl _, rfl⟩
        refine Obs.cons (j := 6) rfl ?_ ?_
        · refine Ob.free [(47, some 4)] (by kernel_rfl) (isV (.int .i64 (m : Int))) rfl rfl (fun a X hE hL => ?_)
          simp [Seen, slotAt, famV, isV] at hL
          have h47 := hL
          rw [relAt_eq]
          go_simp
          exact ⟨Onto.refl _, congrArg (Value.int .i64) (IntWalk.i64_in _ ⟨by omega, by omega⟩)⟩
        refine Obs.cons (j := 7) rfl ?_ ?_
        · refine Ob.free [(43, some 0), (48, some 5)] (by kernel_rfl) (isV (setV fx)) rfl rfl (fun a X hE hL => ?_)
          simp [Seen, slotAt, famV, isV] at hL
          obtain ⟨h43, h48⟩ := hL
          rw [relAt_eq]
          go_simp
          rw [relUpon_enter]
          go_at_call 43
          refine (HX.out X (HH3.out.below (onto_drew hE))).mono ?_
          rintro e Y ⟨rfl, hY⟩
          exact ⟨_, rfl, hY, rfl⟩
        refine Obs.cons (j := 8) rfl ?_ ?_
        · refine Ob.free [(6, none)] (by kernel_rfl) (isV (setV fy)) rfl rfl (fun a X hE hL => ?_)
          simp [Seen, slotAt] at hL
          have h6 := hL
          rw [relAt_eq]
          have hly := run_loadS0 X k fy (HK3.out.below (onto_drew hE) HK3.out.lt)
          go_simp
          exact ⟨Onto.refl _, rfl⟩
        refine Obs.cons (j := 9) rfl ?_ ?_
        · refine Ob.free [(49, some 6), (50, some 7)] (by kernel_rfl) (isV (setV (orS fx fy))) rfl rfl (fun a X hE hL => ?_)
          simp [Seen, slotAt, famV, isV] at hL
          obtain ⟨h49, h50⟩ := hL
          rw [relAt_eq]
          go_simp
          rw [relUpon_enter]
          go_at_call 65
          refine (HTW.out X).mono ?_
          rintro e Y ⟨rfl, hY⟩
          exact ⟨_, rfl, hY, rfl⟩
        exact trivial
      case qC =>
        intro x wA hE hV
        simp [AllV, famV, isV] at hV
        obtain ⟨-, -, -, -, -, -, -, -, h51⟩ := hV
        simp only [puts, Act.put, List.setIfInBounds_toArray, List.set_cons_zero, List.set_cons_succ, h51]
        generalize x 43 = y43
        generalize x 44 = y44
        generalize x 45 = y45
        generalize x 46 = y46
        generalize x 47 = y47
        generalize x 48 = y48
        generalize x 49 = y49
        generalize x 50 = y50
        clear h51
        have hbA := onto_drew hE
        have HBA := Lib.hid (HB2.out.trans (hbA.mono (by omega)))
        have HZA := Lib.hid (HZ3.out.below hbA HZ3.out.lt)
        clear hE hbA
        refine wpAny_ready (rs := [9]) (by kernel_rfl) (by simp) ?_
        refine AllReady.cons rfl (fun K hK => ?_) AllReady.nil
        rw [if_pos (by rfl)]
        refine wp_store_set _ _ rfl g emptyS (orS fx fy) rfl rfl HZA.out ?_
        intro w9 hF9 hB9 hO9 hS9
        have HR := Lib.hid hF9
        have HBR := Lib.hid (HBA.out.trans (hB9 g (by omega)))
        clear hF9 hB9 hO9 hS9
        refine hK _ _ ?_
        clear hK K
        try simp only [Act.put, List.getElem_toArray, List.getElem_cons_succ, List.getElem_cons_zero, List.setIfInBounds_toArray, List.set_cons_zero, List.set_cons_succ]
        refine wpAny_done (by kernel_rfl) ?_ _
        go_wp2
        refine bodyPost_ret (results_cell_row rfl _ _ g 33 _ (0, 0) _ rfl HR.out Try.underlying33 rfl sizeSet) rfl ⟨by rw [HE.out]; rfl, ?_⟩
        first | exact HBR.out | (rw [HG.out]; exact HBR.out)
  | alt x y ihx ihy =>
    intro w i base h hp
    obtain ⟨g, hg⟩ : ∃ g, w.heap.size = g := ⟨_, rfl⟩
    have HG := Lib.hid hg
    obtain ⟨W0, hW0⟩ : ∃ W, W = w.alloc zSet := ⟨_, rfl⟩
    have hs0 : W0.heap.size = g + 1 := by rw [hW0]; simp [hg]
    have hb0 : Below g w W0 := by rw [hW0, ← hg]; exact (Below.refl _ _).alloc (Nat.le_refl _) _
    have hz0 : SetAt W0 g emptyS := by rw [hW0]; exact SetAt.zero w g hg
    have h0 : CRow rxC 5 W0 a n l := h.below (by rw [hg]; exact hb0)
    have HB0 := Lib.hid hb0
    have HS0 := Lib.hid hs0
    have HZ0 := Lib.hid hz0
    have HHS := Lib.hid fun w h => short_any w a n c l h hn (.alt x y) i base hp
    obtain ⟨b, off, hA, hin, c0⟩ := step_at h0 hp
    replace c0 : W0.cell? ⟨b, off + i * 5, none⟩ = some (.int .i64 4) := c0
    obtain ⟨h1, hpy, h2, hpx⟩ := hp.last2 (k := 4) rfl
    have hy := ihy W0 (i - 1) _ h0 hpy
    have HB := Lib.hid fun w h => rbegin_any w a n c l h hn y (i - 1) _ hpy
    have HX := Lib.hid fun w h => ihx w _ _ h hpx
    have HSY := Lib.hid fun w h => short_any w a n c l h hn y (i - 1) _ hpy
    have HSX := Lib.hid fun w h => short_any w a n c l h hn x _ _ hpx
    have HH := Lib.hid h0
    have hp1 := post_pos y
    have hl1 := h.1
    have z1 : (i : Int) < (n : Int) := by omega
    have z0 : (0 : Int) ≤ (i : Int) := by omega
    obtain ⟨j, rfl⟩ : ∃ j, i = j + 1 := ⟨i - 1, by omega⟩
    rw [Nat.add_sub_cancel] at hy HB HSY
    obtain ⟨m, hm⟩ : ∃ m, j + 1 - (post y).length = m + 1 := ⟨j + 1 - (post y).length - 1, by omega⟩
    rw [show j + 1 - (post y).length - 1 = m by omega] at HX HSX
    rw [hm] at HB
    have z2 : (((j + 1 : Nat) : Int) - 1) = (j : Int) := by omega
    have z3 : ((j : Int) + 1 - 1) = (j : Int) := by omega
    have z4 : ((m : Int) + 1 - 1) = (m : Int) := by omega
    have hmb : m ≤ 200000 := by omega
    obtain ⟨fx, hfx⟩ : ∃ f, usT x = f := ⟨_, rfl⟩
    obtain ⟨fy, hfy⟩ : ∃ f, usT y = f := ⟨_, rfl⟩
    obtain ⟨sx, hsx⟩ : ∃ s, shT x = s := ⟨_, rfl⟩
    obtain ⟨sy, hsy⟩ : ∃ s, shT y = s := ⟨_, rfl⟩
    obtain ⟨sh, hsh⟩ : ∃ s, shT (.alt x y) = s := ⟨_, rfl⟩
    rw [hfy] at hy
    rw [hfx] at HX
    rw [hsx] at HSX
    rw [hsy] at HSY
    rw [hsh] at HHS
    rw [hW0] at c0 hy
    unfold zSet at c0 hy hW0
    have HFX := Lib.hid hfx
    have HFY := Lib.hid hfy
    have HSX2 := Lib.hid hsx
    have HSY2 := Lib.hid hsy
    have HSH2 := Lib.hid hsh
    have HY := Lib.hid hy
    have HTW := Lib.hid fun w => two0_any fx fy w
    subst hA
    clear h hp h0 hs0 hb0 hz0 hy ihx ihy hpx hpy hm hfx hfy hsx hsy hsh hl1
    go_enter Try.func43, Try.ntmps43
    go_wp2_with fail
    refine HY.out.mono ?_
    rintro e w1 ⟨rfl, hb1⟩
    rw [← hW0] at hb1
    have HB1 := Lib.hid (HB0.out.trans (hb1.mono (by have := HS0.out; omega)))
    have HH1 := Lib.hid (HH.out.below hb1)
    have HZ1 := Lib.hid (HZ0.out.below hb1 (by have := HS0.out; omega))
    have hg1 : g + 1 ≤ w1.heap.size := by have := hb1.size; have := HS0.out; omega
    obtain ⟨k, hk⟩ : ∃ k, w1.heap.size = k := ⟨_, rfl⟩
    have HK := Lib.hid (SetAt.zero w1 k hk)
    have hbk := Below.alloc (Below.refl w1.heap.size w1) (Nat.le_refl _) zSet
    have HZ2 := Lib.hid (HZ1.out.below hbk (by omega))
    have HH2 := Lib.hid (HH1.out.below hbk)
    have HBK := Lib.hid (HB1.out.trans (hbk.mono (by omega)))
    have hgk : g + 1 ≤ k := by omega
    have HHK : Hid (Below k w1 (w1.alloc zSet)) := Lib.hid (by rw [← hk]; exact hbk)
    clear hb1 hbk HY hW0 c0
    go_wp2_with (refine wpList_store_set rfl _ _ rfl k emptyS fy rfl rfl HK.out ?_; intro w9 hF9 hB9 hO9 hS9; have HB2 := Lib.hid (HBK.out.trans (hB9 g (by omega))); have HZ3 : Hid (SetAt w9 g emptyS) := Lib.hid ((hO9 g (by omega)).trans HZ2.out); have HK3 := Lib.hid hF9; have hbb := HHK.out.trans (hB9 k (Nat.le_refl _)); have HH3 := Lib.hid (HH1.out.below (hbb.mono (Nat.le_of_eq hk))); clear hbb; have hg9 : g + 1 ≤ w9.heap.size := (by have := hF9.lt; omega); clear hF9 hB9 hO9 hS9)
    have HE : Hid (usT (.alt x y) = orS fx fy) := Lib.hid (by simp only [usT]; rw [HFX.out, HFY.out]; rfl)
    refine wp_region_fam_tail_lit (E := Onto) 9 1
      [isV (.slice (some ⟨b, off, none⟩) n c),
       isV (.slice (some ⟨b, off, none⟩) n c),
       isV (.int .i64 ((j + 1 : Nat) : Int)),
       isV (.int .i64 (j : Int)),
       isV (.int .i64 ((m + 1 : Nat) : Int)),
       isV (.int .i64 (m : Int)),
       isV (setV fx),
       isV (setV fy),
       isV (setV (orS fx fy))]
      [some 43, some 44, some 45, some 46, some 47, some 48, some 49, some 50, some 51] #[true, true, true, true, true, true, true, true, true, false] (by kernel_rfl) rfl (by kernel_rfl) (by kernel_rfl) rfl rfl rfl Onto.trans Onto.refl ?monoA ?obA ?qA
    case monoA => exact ⟨isV_mono _ _, isV_mono _ _, isV_mono _ _, isV_mono _ _, isV_mono _ _, isV_mono _ _, isV_mono _ _, isV_mono _ _, isV_mono _ _, trivial⟩
    case obA =>
      refine Obs.cons (j := 1) rfl ?_ ?_
      · refine Ob.free [(0, none)] (by kernel_rfl) (isV (.slice (some ⟨b, off, none⟩) n c)) rfl rfl (fun a X hE hL => ?_)
        simp [Seen, slotAt] at hL
        have h0 := hL
        rw [relAt_eq]
        go_simp
        exact ⟨Onto.refl _, rfl⟩
      refine Obs.cons (j := 2) rfl ?_ ?_
      · refine Ob.free [(0, none)] (by kernel_rfl) (isV (.slice (some ⟨b, off, none⟩) n c)) rfl rfl (fun a X hE hL => ?_)
        simp [Seen, slotAt] at hL
        have h0 := hL
        rw [relAt_eq]
        go_simp
        exact ⟨Onto.refl _, rfl⟩
      refine Obs.cons (j := 3) rfl ?_ ?_
      · refine Ob.free [(1, none)] (by kernel_rfl) (isV (.int .i64 ((j + 1 : Nat) : Int))) rfl rfl (fun a X hE hL => ?_)
        simp [Seen, slotAt] at hL
        have h1 := hL
        rw [relAt_eq]
        go_simp
        exact ⟨Onto.refl _, rfl⟩
      refine Obs.cons (j := 4) rfl ?_ ?_
      · refine Ob.free [(45, some 2)] (by kernel_rfl) (isV (.int .i64 (j : Int))) rfl rfl (fun a X hE hL => ?_)
        simp [Seen, slotAt, famV, isV] at hL
        have h45 := hL
        rw [relAt_eq]
        go_simp
        exact ⟨Onto.refl _, congrArg (Value.int .i64) (IntWalk.i64_in _ ⟨by omega, by omega⟩)⟩
      refine Obs.cons (j := 5) rfl ?_ ?_
      · refine Ob.free [(44, some 1), (46, some 3)] (by kernel_rfl) (isV (.int .i64 ((m + 1 : Nat) : Int))) rfl rfl (fun a X hE hL => ?_)
        simp [Seen, slotAt, famV, isV] at hL
        obtain ⟨h44, h46⟩ := hL
        rw [relAt_eq]
        go_simp
        rw [relUpon_enter]
        go_at_call 64
        refine (HB.out X (HH3.out.below (onto_drew hE))).mono ?_
        rintro e Y ⟨rfl, rfl⟩
        exact ⟨_, rfl, Onto.refl _, rfl⟩
      refine Obs.cons (j := 6) rfl ?_ ?_
      · refine Ob.free [(47, some 4)] (by kernel_rfl) (isV (.int .i64 (m : Int))) rfl rfl (fun a X hE hL => ?_)
        simp [Seen, slotAt, famV, isV] at hL
        have h47 := hL
        rw [relAt_eq]
        go_simp
        exact ⟨Onto.refl _, congrArg (Value.int .i64) (IntWalk.i64_in _ ⟨by omega, by omega⟩)⟩
      refine Obs.cons (j := 7) rfl ?_ ?_
      · refine Ob.free [(43, some 0), (48, some 5)] (by kernel_rfl) (isV (setV fx)) rfl rfl (fun a X hE hL => ?_)
        simp [Seen, slotAt, famV, isV] at hL
        obtain ⟨h43, h48⟩ := hL
        rw [relAt_eq]
        go_simp
        rw [relUpon_enter]
        go_at_call 43
        refine (HX.out X (HH3.out.below (onto_drew hE))).mono ?_
        rintro e Y ⟨rfl, hY⟩
        exact ⟨_, rfl, hY, rfl⟩
      refine Obs.cons (j := 8) rfl ?_ ?_
      · refine Ob.free [(6, none)] (by kernel_rfl) (isV (setV fy)) rfl rfl (fun a X hE hL => ?_)
        simp [Seen, slotAt] at hL
        have h6 := hL
        rw [relAt_eq]
        have hly := run_loadS0 X k fy (HK3.out.below (onto_drew hE) HK3.out.lt)
        go_simp
        exact ⟨Onto.refl _, rfl⟩
      refine Obs.cons (j := 9) rfl ?_ ?_
      · refine Ob.free [(49, some 6), (50, some 7)] (by kernel_rfl) (isV (setV (orS fx fy))) rfl rfl (fun a X hE hL => ?_)
        simp [Seen, slotAt, famV, isV] at hL
        obtain ⟨h49, h50⟩ := hL
        rw [relAt_eq]
        go_simp
        rw [relUpon_enter]
        go_at_call 65
        refine (HTW.out X).mono ?_
        rintro e Y ⟨rfl, hY⟩
        exact ⟨_, rfl, hY, rfl⟩
      exact trivial
    case qA =>
      intro x wA hE hV
      simp [AllV, famV, isV] at hV
      obtain ⟨-, -, -, -, -, -, -, -, h51⟩ := hV
      simp only [puts, Act.put, List.setIfInBounds_toArray, List.set_cons_zero, List.set_cons_succ, h51]
      generalize x 43 = y43
      generalize x 44 = y44
      generalize x 45 = y45
      generalize x 46 = y46
      generalize x 47 = y47
      generalize x 48 = y48
      generalize x 49 = y49
      generalize x 50 = y50
      clear h51
      have hbA := onto_drew hE
      have HBA := Lib.hid (HB2.out.trans (hbA.mono (by omega)))
      have HZA := Lib.hid (HZ3.out.below hbA HZ3.out.lt)
      clear hE hbA
      refine wpAny_ready (rs := [9]) (by kernel_rfl) (by simp) ?_
      refine AllReady.cons rfl (fun K hK => ?_) AllReady.nil
      rw [if_pos (by rfl)]
      refine wp_store_set _ _ rfl g emptyS (orS fx fy) rfl rfl HZA.out ?_
      intro w9 hF9 hB9 hO9 hS9
      have HR := Lib.hid hF9
      have HBR := Lib.hid (HBA.out.trans (hB9 g (by omega)))
      clear hF9 hB9 hO9 hS9
      refine hK _ _ ?_
      clear hK K
      try simp only [Act.put, List.getElem_toArray, List.getElem_cons_succ, List.getElem_cons_zero, List.setIfInBounds_toArray, List.set_cons_zero, List.set_cons_succ]
      refine wpAny_done (by kernel_rfl) ?_ _
      go_wp2
      refine bodyPost_ret (results_cell_row rfl _ _ g 33 _ (0, 0) _ rfl HR.out Try.underlying33 rfl sizeSet) rfl ⟨by rw [HE.out]; rfl, ?_⟩
      first | exact HBR.out | (rw [HG.out]; exact HBR.out)
end Go.Proofs.Ytbefndibkpjgaaa
/- The document's shortest and longest word, first and used bytes of any expression. -/
namespace Go.Proofs.Ytbefndibkpjgaaa
open Go.RowKit
set_option linter.unusedVariables false

theorem same_sh (T : RxT) : shT T = shF (factT T) := by
  rcases same_fact T with ⟨fa, s, _⟩ | ⟨lo, hi, mo, f, u, fa, s, _⟩ <;> rw [fa, s] <;> simp [shF, f0]
theorem same_lo (T : RxT) : loT T = loF (factT T) := by
  rcases same_fact T with ⟨fa, _, s, _⟩ | ⟨lo, hi, mo, f, u, fa, _, s, _⟩ <;> rw [fa, s] <;> simp [loF, f0]
theorem same_fr (T : RxT) : setV (frT T) = setV (factT T).first := by
  rcases same_fact T with ⟨fa, _, _, s, _⟩ | ⟨lo, hi, mo, f, u, fa, _, _, s, _⟩ <;> rw [fa]
  · exact SameSet.val fun x hx => by rw [s x hx]; rfl
  · exact (SameSet.val s).symm
theorem same_us (T : RxT) : setV (usT T) = setV (factT T).used := by
  rcases same_fact T with ⟨fa, _, _, _, s⟩ | ⟨lo, hi, mo, f, u, fa, _, _, _, s, _⟩ <;> rw [fa]
  · exact SameSet.val fun x hx => by rw [s x hx]; rfl
  · exact (SameSet.val s).symm
set_option maxHeartbeats 2000000 in
theorem rshort_any (w : World) (a : Option Addr) (n c : Nat) (o : Option RxT) (h : IsRx w a n o) (hn : n ≤ 600) :
    Calls Try.prog 16 #[.slice a n c] w fun e w' => e = .returned (.int .i64 (shF (factO o))) ∧ w = w' := by
  obtain ⟨e, hck, hek⟩ := h.check c
  have HCK := Lib.hid hck
  have HEK := Lib.hid hek
  clear hck hek
  cases o with
  | none =>
    have he : ((e : Int) != 0) = true := by rw [bne_iff_ne]; intro h; have := HEK.out.1 (by omega); simp at this
    clear h
    go_enter Try.func16, Try.ntmps16
    go_wp2_with fail
    refine HCK.out.mono ?_
    rintro e w' ⟨rfl, rfl⟩
    go_wp2_with fail
    go_ret
    exact ⟨rfl, rfl⟩
  | some T =>
    have he : e = 0 := HEK.out.2 rfl
    subst he
    have h1 : (post T).length = n := h.1.1
    have hp0 := post_pos T
    obtain ⟨k, rfl⟩ : ∃ k, n = k + 1 := ⟨n - 1, by omega⟩
    have HP : Hid (PartAt (post T) k 0 T) := Lib.hid (by have := PartAt.whole T; rwa [show (post T).length - 1 = k by omega] at this)
    have HS := Lib.hid (short_any w a (k + 1) c (post T) h.1 (by omega) T k 0 HP.out)
    rw [same_sh] at HS
    have z2 : (((k + 1 : Nat) : Int) - 1) = (k : Int) := by omega
    have z3 : ((k : Int) + 1 - 1) = (k : Int) := by omega
    clear h
    go_enter Try.func16, Try.ntmps16
    go_wp2_with fail
    refine HCK.out.mono ?_
    rintro e w' ⟨rfl, rfl⟩
    go_wp2_with fail
    refine HS.out.mono ?_
    rintro e w' ⟨rfl, rfl⟩
    go_wp2_with fail
    go_ret
    exact ⟨rfl, rfl⟩
set_option maxHeartbeats 2000000 in
theorem rlong_any (w : World) (a : Option Addr) (n c : Nat) (o : Option RxT) (h : IsRx w a n o) (hn : n ≤ 600) :
    Calls Try.prog 18 #[.slice a n c] w fun e w' => e = .returned (.int .i64 (loF (factO o))) ∧ w = w' := by
  obtain ⟨e, hck, hek⟩ := h.check c
  have HCK := Lib.hid hck
  have HEK := Lib.hid hek
  clear hck hek
  cases o with
  | none =>
    have he : ((e : Int) != 0) = true := by rw [bne_iff_ne]; intro h; have := HEK.out.1 (by omega); simp at this
    clear h
    go_enter Try.func18, Try.ntmps18
    go_wp2_with fail
    refine HCK.out.mono ?_
    rintro e w' ⟨rfl, rfl⟩
    go_wp2_with fail
    go_ret
    exact ⟨rfl, rfl⟩
  | some T =>
    have he : e = 0 := HEK.out.2 rfl
    subst he
    have h1 : (post T).length = n := h.1.1
    have hp0 := post_pos T
    obtain ⟨k, rfl⟩ : ∃ k, n = k + 1 := ⟨n - 1, by omega⟩
    have HP : Hid (PartAt (post T) k 0 T) := Lib.hid (by have := PartAt.whole T; rwa [show (post T).length - 1 = k by omega] at this)
    have HS := Lib.hid (long_any w a (k + 1) c (post T) h.1 (by omega) T k 0 HP.out)
    rw [same_lo] at HS
    have z2 : (((k + 1 : Nat) : Int) - 1) = (k : Int) := by omega
    have z3 : ((k : Int) + 1 - 1) = (k : Int) := by omega
    clear h
    go_enter Try.func18, Try.ntmps18
    go_wp2_with fail
    refine HCK.out.mono ?_
    rintro e w' ⟨rfl, rfl⟩
    go_wp2_with fail
    refine HS.out.mono ?_
    rintro e w' ⟨rfl, rfl⟩
    go_wp2_with fail
    go_ret
    exact ⟨rfl, rfl⟩
set_option maxHeartbeats 2000000 in
theorem rfirst_any (w : World) (a : Option Addr) (n c : Nat) (o : Option RxT) (h : IsRx w a n o) (hn : n ≤ 600) :
    Calls Try.prog 20 #[.slice a n c] w fun e w' => e = .returned (setV (factO o).first) ∧ Below w.heap.size w w' := by
  obtain ⟨g, hg⟩ : ∃ g, w.heap.size = g := ⟨_, rfl⟩
  have HG := Lib.hid hg
  obtain ⟨W0, hW0⟩ : ∃ W, W = w.alloc zSet := ⟨_, rfl⟩
  have hs0 : W0.heap.size = g + 1 := by rw [hW0]; simp [hg]
  have hb0 : Below g w W0 := by rw [hW0, ← hg]; exact (Below.refl _ _).alloc (Nat.le_refl _) _
  have hz0 : SetAt W0 g emptyS := by rw [hW0]; exact SetAt.zero w g hg
  have h0 : IsRx W0 a n o := h.below (by rw [hg]; exact hb0)
  have HB0 := Lib.hid hb0
  have HS0 := Lib.hid hs0
  have HZ0 := Lib.hid hz0
  obtain ⟨e, hck, hek⟩ := h0.check c
  have HEK := Lib.hid hek
  cases o with
  | none =>
    have he : ((e : Int) != 0) = true := by rw [bne_iff_ne]; intro h; have := HEK.out.1 (by omega); simp at this
    rw [hW0] at hck
    unfold zSet at hck hW0
    have HCK := Lib.hid hck
    clear h h0 hb0 hs0 hz0 hek hck
    go_enter Try.func20, Try.ntmps20
    go_wp2_with fail
    refine HCK.out.mono ?_
    rintro e w' ⟨rfl, rfl⟩
    go_wp2_with (refine wpList_store_set rfl _ _ rfl g emptyS emptyS rfl (by rw [setV_empty]; rfl) (by rw [← hW0]; exact HZ0.out) ?_; intro w9 hF9 hB9 hO9 hS9; rw [← hW0] at hB9; have HR := Lib.hid hF9; have HBR := Lib.hid (HB0.out.trans (hB9 g (by omega))); clear hF9 hB9 hO9 hS9)
    refine bodyPost_ret (results_cell_row rfl _ _ g 33 _ (0, 0) _ rfl HR.out Try.underlying33 rfl sizeSet) rfl ⟨rfl, ?_⟩
    first | exact HBR.out | (rw [HG.out]; exact HBR.out)
  | some T =>
    have he : e = 0 := HEK.out.2 rfl
    subst he
    have h1 : (post T).length = n := h.1.1
    have hp0 := post_pos T
    obtain ⟨k, rfl⟩ : ∃ k, n = k + 1 := ⟨n - 1, by omega⟩
    have HP : Hid (PartAt (post T) k 0 T) := Lib.hid (by have := PartAt.whole T; rwa [show (post T).length - 1 = k by omega] at this)
    have hs := first_any a (k + 1) c (post T) (by omega) T W0 k 0 h0.1 HP.out
    rw [same_fr] at hs
    have z2 : (((k + 1 : Nat) : Int) - 1) = (k : Int) := by omega
    have z3 : ((k : Int) + 1 - 1) = (k : Int) := by omega
    rw [hW0] at hck hs
    unfold zSet at hck hs hW0
    have HCK := Lib.hid hck
    have HS := Lib.hid hs
    obtain ⟨f9, hf9⟩ : ∃ f, (factT T).first = f := ⟨_, rfl⟩
    have hgo : (factO (some T)).first = f9 := hf9
    rw [hf9] at HS
    rw [hgo]
    clear h h0 hb0 hs0 hz0 hek hck hs hf9 hgo
    go_enter Try.func20, Try.ntmps20
    go_wp2_with fail
    refine HCK.out.mono ?_
    rintro e w' ⟨rfl, rfl⟩
    go_wp2_with fail
    refine HS.out.mono ?_
    rintro e w1 ⟨rfl, hb1⟩
    rw [← hW0] at hb1
    have HB1 := Lib.hid (HB0.out.trans (hb1.mono (by have := HS0.out; omega)))
    have HZ1 := Lib.hid (HZ0.out.below hb1 HZ0.out.lt)
    clear hb1 HCK HS hW0
    go_wp2_with (refine wpList_store_set rfl _ _ rfl g emptyS f9 rfl rfl HZ1.out ?_; intro w9 hF9 hB9 hO9 hS9; have HR := Lib.hid hF9; have HBR := Lib.hid (HB1.out.trans (hB9 g (by omega))); clear hF9 hB9 hO9 hS9)
    refine bodyPost_ret (results_cell_row rfl _ _ g 33 _ (0, 0) _ rfl HR.out Try.underlying33 rfl sizeSet) rfl ⟨rfl, ?_⟩
    first | exact HBR.out | (rw [HG.out]; exact HBR.out)
set_option maxHeartbeats 2000000 in
theorem rused_any (w : World) (a : Option Addr) (n c : Nat) (o : Option RxT) (h : IsRx w a n o) (hn : n ≤ 600) :
    Calls Try.prog 22 #[.slice a n c] w fun e w' => e = .returned (setV (factO o).used) ∧ Below w.heap.size w w' := by
  obtain ⟨g, hg⟩ : ∃ g, w.heap.size = g := ⟨_, rfl⟩
  have HG := Lib.hid hg
  obtain ⟨W0, hW0⟩ : ∃ W, W = w.alloc zSet := ⟨_, rfl⟩
  have hs0 : W0.heap.size = g + 1 := by rw [hW0]; simp [hg]
  have hb0 : Below g w W0 := by rw [hW0, ← hg]; exact (Below.refl _ _).alloc (Nat.le_refl _) _
  have hz0 : SetAt W0 g emptyS := by rw [hW0]; exact SetAt.zero w g hg
  have h0 : IsRx W0 a n o := h.below (by rw [hg]; exact hb0)
  have HB0 := Lib.hid hb0
  have HS0 := Lib.hid hs0
  have HZ0 := Lib.hid hz0
  obtain ⟨e, hck, hek⟩ := h0.check c
  have HEK := Lib.hid hek
  cases o with
  | none =>
    have he : ((e : Int) != 0) = true := by rw [bne_iff_ne]; intro h; have := HEK.out.1 (by omega); simp at this
    rw [hW0] at hck
    unfold zSet at hck hW0
    have HCK := Lib.hid hck
    clear h h0 hb0 hs0 hz0 hek hck
    go_enter Try.func22, Try.ntmps22
    go_wp2_with fail
    refine HCK.out.mono ?_
    rintro e w' ⟨rfl, rfl⟩
    go_wp2_with (refine wpList_store_set rfl _ _ rfl g emptyS emptyS rfl (by rw [setV_empty]; rfl) (by rw [← hW0]; exact HZ0.out) ?_; intro w9 hF9 hB9 hO9 hS9; rw [← hW0] at hB9; have HR := Lib.hid hF9; have HBR := Lib.hid (HB0.out.trans (hB9 g (by omega))); clear hF9 hB9 hO9 hS9)
    refine bodyPost_ret (results_cell_row rfl _ _ g 33 _ (0, 0) _ rfl HR.out Try.underlying33 rfl sizeSet) rfl ⟨rfl, ?_⟩
    first | exact HBR.out | (rw [HG.out]; exact HBR.out)
  | some T =>
    have he : e = 0 := HEK.out.2 rfl
    subst he
    have h1 : (post T).length = n := h.1.1
    have hp0 := post_pos T
    obtain ⟨k, rfl⟩ : ∃ k, n = k + 1 := ⟨n - 1, by omega⟩
    have HP : Hid (PartAt (post T) k 0 T) := Lib.hid (by have := PartAt.whole T; rwa [show (post T).length - 1 = k by omega] at this)
    have hs := used_any a (k + 1) c (post T) (by omega) T W0 k 0 h0.1 HP.out
    rw [same_us] at hs
    have z2 : (((k + 1 : Nat) : Int) - 1) = (k : Int) := by omega
    have z3 : ((k : Int) + 1 - 1) = (k : Int) := by omega
    rw [hW0] at hck hs
    unfold zSet at hck hs hW0
    have HCK := Lib.hid hck
    have HS := Lib.hid hs
    obtain ⟨f9, hf9⟩ : ∃ f, (factT T).used = f := ⟨_, rfl⟩
    have hgo : (factO (some T)).used = f9 := hf9
    rw [hf9] at HS
    rw [hgo]
    clear h h0 hb0 hs0 hz0 hek hck hs hf9 hgo
    go_enter Try.func22, Try.ntmps22
    go_wp2_with fail
    refine HCK.out.mono ?_
    rintro e w' ⟨rfl, rfl⟩
    go_wp2_with fail
    refine HS.out.mono ?_
    rintro e w1 ⟨rfl, hb1⟩
    rw [← hW0] at hb1
    have HB1 := Lib.hid (HB0.out.trans (hb1.mono (by have := HS0.out; omega)))
    have HZ1 := Lib.hid (HZ0.out.below hb1 HZ0.out.lt)
    clear hb1 HCK HS hW0
    go_wp2_with (refine wpList_store_set rfl _ _ rfl g emptyS f9 rfl rfl HZ1.out ?_; intro w9 hF9 hB9 hO9 hS9; have HR := Lib.hid hF9; have HBR := Lib.hid (HB1.out.trans (hB9 g (by omega))); clear hF9 hB9 hO9 hS9)
    refine bodyPost_ret (results_cell_row rfl _ _ g 33 _ (0, 0) _ rfl HR.out Try.underlying33 rfl sizeSet) rfl ⟨rfl, ?_⟩
    first | exact HBR.out | (rw [HG.out]; exact HBR.out)
end Go.Proofs.Ytbefndibkpjgaaa
