/- rx: of how many parts a step is; the walk over steps; Check, High, Begin. -/
import Derived.Test.YtjlmmpbichfaoaaRxOps
namespace Go.Proofs.Ytjlmmpbichfaoaa
open Go.RowKit
set_option linter.unusedVariables false

attribute [local go_sem ↓] eqS_eq eqS_eq'
/-- Is a kind one? -/
def okK (k : Int) : Bool := k == 3 || k == 4 || k == 5 || k == 6 || k == 7 || k == 1 || k == 2
/-- Of how many parts. -/
def nP (k : Int) : Nat := if k = 3 ∨ k = 4 then 2 else if k = 5 ∨ k = 6 ∨ k = 7 then 1 else 0
theorem nP_le (k : Int) : nP k ≤ 2 := by
  unfold nP
  by_cases h : k = 3 ∨ k = 4
  · rw [if_pos h]; omega
  · rw [if_neg h]
    by_cases h2 : k = 5 ∨ k = 6 ∨ k = 7
    · rw [if_pos h2]; omega
    · rw [if_neg h2]; omega
theorem of_any (x : Rx) (w : World) :
    Calls Try.prog 31 #[.agg #[.int .i64 x.k, .int .u64 (wd x.s 0), .int .u64 (wd x.s 1), .int .u64 (wd x.s 2), .int .u64 (wd x.s 3)]] w
      fun e w' => e = .returned (.tuple #[.int .i64 (nP x.k : Nat), .bool (okK x.k)]) ∧ Below w.heap.size w w' := by
  obtain ⟨k, s⟩ := x
  dsimp only
  have HB := Lib.hid ((Below.refl w.heap.size w).alloc (Nat.le_refl _) (.cells #[.int .i64 k, .int .u64 (wd s 0), .int .u64 (wd s 1), .int .u64 (wd s 2), .int .u64 (wd s 3)] 44))
  by_cases h3 : k = 3
  · have HN : Hid (nP k = 2 ∧ okK k = true) := Lib.hid (by subst h3; decide)
    rw [HN.out.1, HN.out.2]
    subst h3
    go_enter Try.func31, Try.ntmps31
    go_wp2
    go_ret2
    exact ⟨rfl, HB.out⟩
  by_cases h4 : k = 4
  · have HN : Hid (nP k = 2 ∧ okK k = true) := Lib.hid (by subst h4; decide)
    rw [HN.out.1, HN.out.2]
    subst h4
    go_enter Try.func31, Try.ntmps31
    go_wp2
    go_ret2
    exact ⟨rfl, HB.out⟩
  by_cases h5 : k = 5
  · have HN : Hid (nP k = 1 ∧ okK k = true) := Lib.hid (by subst h5; decide)
    rw [HN.out.1, HN.out.2]
    subst h5
    go_enter Try.func31, Try.ntmps31
    go_wp2
    go_ret2
    exact ⟨rfl, HB.out⟩
  by_cases h6 : k = 6
  · have HN : Hid (nP k = 1 ∧ okK k = true) := Lib.hid (by subst h6; decide)
    rw [HN.out.1, HN.out.2]
    subst h6
    go_enter Try.func31, Try.ntmps31
    go_wp2
    go_ret2
    exact ⟨rfl, HB.out⟩
  by_cases h7 : k = 7
  · have HN : Hid (nP k = 1 ∧ okK k = true) := Lib.hid (by subst h7; decide)
    rw [HN.out.1, HN.out.2]
    subst h7
    go_enter Try.func31, Try.ntmps31
    go_wp2
    go_ret2
    exact ⟨rfl, HB.out⟩
  by_cases h1 : k = 1
  · have HN : Hid (nP k = 0 ∧ okK k = true) := Lib.hid (by subst h1; decide)
    rw [HN.out.1, HN.out.2]
    subst h1
    go_enter Try.func31, Try.ntmps31
    go_wp2
    go_ret2
    exact ⟨rfl, HB.out⟩
  by_cases h2 : k = 2
  · have HN : Hid (nP k = 0 ∧ okK k = true) := Lib.hid (by subst h2; decide)
    rw [HN.out.1, HN.out.2]
    subst h2
    go_enter Try.func31, Try.ntmps31
    go_wp2
    go_ret2
    exact ⟨rfl, HB.out⟩
  have HN : Hid (nP k = 0 ∧ okK k = false) := Lib.hid (by unfold nP okK; simp [h1, h2, h3, h4, h5, h6, h7])
  rw [HN.out.1, HN.out.2]
  have e1 : (k == 1) = false := by simp [h1]
  have e2 : (k == 2) = false := by simp [h2]
  have e3 : (k == 3) = false := by simp [h3]
  have e4 : (k == 4) = false := by simp [h4]
  have e5 : (k == 5) = false := by simp [h5]
  have e6 : (k == 6) = false := by simp [h6]
  have e7 : (k == 7) = false := by simp [h7]
  clear h1 h2 h3 h4 h5 h6 h7
  go_enter Try.func31, Try.ntmps31
  go_wp2
  go_ret2
  exact ⟨rfl, HB.out⟩
/-- Is a set the empty one? -/
def zS (S : Nat → Bool) : Bool := ((wd S 0 : Int) == 0 && ((wd S 1 : Int) == 0 && ((wd S 2 : Int) == 0 && (wd S 3 : Int) == 0)))
theorem zS_empty : zS emptyS = true := by unfold zS; simp only [wd_emptyS]; rfl
def badR (r : Rx) : Bool := !okK r.k || (r.k != 1 && !zS r.s)
/-- The walk: parts, the most at once, what is wrong. -/
def wk : List Rx → Nat → Nat → Nat × Nat × Nat
  | [], p, m => (p, m, 0)
  | r :: l, p, m => if badR r = true then (0, 0, 1) else if p < nP r.k then (0, 0, 3) else wk l (p + 1 - nP r.k) (max m (p + 1 - nP r.k))
def walkR (l : List Rx) : Nat × Nat × Nat := if 512 < l.length then (0, 0, 4) else wk l 0 0
theorem drop_at {α : Type} {l : List α} {k : Nat} {x : α} (h : l[k]? = some x) : l.drop k = x :: l.drop (k + 1) := by
  obtain ⟨hk, rfl⟩ := List.getElem?_eq_some_iff.1 h
  exact List.drop_eq_getElem_cons hk
def wv (x : Nat × Nat × Nat) : Value := .tuple #[.int .i64 (x.1 : Nat), .int .i64 (x.2.1 : Nat), .int .i64 (x.2.2 : Nat)]
theorem ret_wv {x : Nat × Nat × Nat} {a b c : Nat} (h : x = (a, b, c)) : Ending.returned (.tuple #[.int .i64 (a : Int), .int .i64 (b : Int), .int .i64 (c : Int)]) = .returned (wv x) := by subst h; rfl
set_option maxHeartbeats 4000000 in
theorem walk_any (w : World) (a : Option Addr) (n c : Nat) (rs : List Rx) (h : CRow rxC 5 w a n rs) :
    Calls Try.prog 30 #[.slice a n c] w fun e w' => e = .returned (wv (walkR rs)) ∧ Below w.heap.size w w' := by
  have hl := h.1
  have hl2 := h.2.1
  by_cases h512 : 512 < n
  · have j1 : (512 : Int) < (n : Int) := by omega
    have HW : Hid (walkR rs = (0, 0, 4)) := Lib.hid (by unfold walkR; rw [if_pos (by omega)])
    clear h hl h512
    go_enter Try.func30, Try.ntmps30
    go_wp2
    go_ret3
    exact ⟨ret_wv HW.out, Below.refl _ _⟩
  have j1 : ¬ (512 : Int) < (n : Int) := by omega
  have HW : Hid (walkR rs = wk rs 0 0) := Lib.hid (by unfold walkR; rw [if_neg (by omega)])
  have HR := Lib.hid h
  have HL := Lib.hid hl
  have hn : n ≤ 512 := by omega
  clear h hl h512
  go_enter Try.func30, Try.ntmps30
  go_wp2
  go_loopw [5, 6, 16] (fun v5 v6 i wr => ∃ (j p m : Nat), j ≤ n ∧ i = .int .i64 (j : Int) ∧ v5 = .int .i64 (p : Int) ∧ v6 = .int .i64 (m : Int) ∧ p ≤ j ∧ m ≤ j ∧ wk rs 0 0 = wk (rs.drop j) p m ∧ Below w.heap.size w wr) (fun _ _ i _ => n - (intOf i).toNat)
  case atStart => exact ⟨0, 0, 0, by omega, rfl, rfl, rfl, by omega, by omega, rfl, Below.refl _ _⟩
  case round =>
    obtain ⟨j, p, m, hj, rfl, rfl, rfl, hp, hm, hwk, hb⟩ := hrel
    have HB := Lib.hid hb
    have HWK := Lib.hid hwk
    have hgl := hb.size
    clear hb hwk
    by_cases hlt : j < n
    · obtain ⟨b1, o1, r, rfl, hbl, hr, hc⟩ := HR.out.at_ hlt
      have kp : ∀ i u, w.cell? ⟨b1, i, none⟩ = some u → wr.cell? ⟨b1, i, none⟩ = some u := fun i u h => (HB.out.cell (p := ⟨b1, i, none⟩) hbl).trans h
      have c0 : wr.cell? ⟨b1, o1 + j * 5, none⟩ = some (.int .i64 r.k) := kp _ _ (hc 0 _ rfl)
      have c1 : wr.cell? ⟨b1, o1 + j * 5 + 1, none⟩ = some (.int .u64 (wd r.s 0)) := kp _ _ (hc 1 _ rfl)
      have c2 : wr.cell? ⟨b1, o1 + j * 5 + 2, none⟩ = some (.int .u64 (wd r.s 1)) := kp _ _ (hc 2 _ rfl)
      have c3 : wr.cell? ⟨b1, o1 + j * 5 + 3, none⟩ = some (.int .u64 (wd r.s 2)) := kp _ _ (hc 3 _ rfl)
      have c4 : wr.cell? ⟨b1, o1 + j * 5 + 4, none⟩ = some (.int .u64 (wd r.s 3)) := kp _ _ (hc 4 _ rfl)
      have HD : Hid (wk rs 0 0 = wk (r :: rs.drop (j + 1)) p m) := Lib.hid (by rw [HWK.out, drop_at hr])
      have HOF := Lib.hid fun w => of_any r w
      have hnp := nP_le r.k
      have hqe := fun w => run_eqS (wd r.s 0) (wd r.s 1) (wd r.s 2) (wd r.s 3) 0 0 0 0 w
      obtain ⟨z, hz⟩ : ∃ z, zS r.s = z := ⟨_, rfl⟩
      have HZ := Lib.hid hz
      unfold zS at hz
      have HB1 : Hid (Below w.heap.size w (wr.alloc (.cells #[.int .i64 r.k, .int .u64 (wd r.s 0), .int .u64 (wd r.s 1), .int .u64 (wd r.s 2), .int .u64 (wd r.s 3)] 44))) := Lib.hid (HB.out.alloc hgl _)
      have h0 : (0 : Int) ≤ (j : Int) := by omega
      have h1 : (j : Int) < (n : Int) := by omega
      rw [hz] at hqe
      clear kp hc hr hz HWK
      obtain ⟨k, s⟩ := r
      dsimp only at *
      obtain ⟨W0, hW0⟩ : ∃ x, wd s 0 = x := ⟨_, rfl⟩
      obtain ⟨W1, hW1⟩ : ∃ x, wd s 1 = x := ⟨_, rfl⟩
      obtain ⟨W2, hW2⟩ : ∃ x, wd s 2 = x := ⟨_, rfl⟩
      obtain ⟨W3, hW3⟩ : ∃ x, wd s 3 = x := ⟨_, rfl⟩
      rw [hW0] at c1 HOF hqe HB1
      rw [hW1] at c2 HOF hqe HB1
      rw [hW2] at c3 HOF hqe HB1
      rw [hW3] at c4 HOF hqe HB1
      clear hW0 hW1 hW2 hW3
      cases hok : okK k with
      | false =>
        have HE : Hid (walkR rs = (0, 0, 1)) := Lib.hid (by rw [HW.out, HD.out, wk, if_pos (by simp [badR, hok])])
        rw [hok] at HOF
        clear hok
        go_wp2_with fail
        refine (HOF.out _).mono ?_
        rintro e w2 ⟨rfl, hb2⟩
        have HB2 := Lib.hid (HB1.out.trans (hb2.mono HB1.out.size))
        clear hb2
        go_wp2
        go_ret3
        exact ⟨ret_wv HE.out, HB2.out⟩
      | true =>
        rw [hok] at HOF
        obtain ⟨q, hq⟩ : ∃ q, nP k = q := ⟨_, rfl⟩
        rw [hq] at HOF hnp
        have HOK := Lib.hid hok
        have HQ := Lib.hid hq
        clear hok hq
        by_cases hbad : k ≠ 1 ∧ z = false
        · have HE : Hid (walkR rs = (0, 0, 1)) := Lib.hid (by
            have : badR ⟨k, s⟩ = true := by simp [badR, HOK.out, HZ.out, hbad]
            rw [HW.out, HD.out, wk, if_pos this])
          have e1 : (k != 1) = true := by simp [hbad.1]
          have e2 : z = false := hbad.2
          subst e2
          clear hbad
          go_wp2_with fail
          refine (HOF.out _).mono ?_
          rintro e w2 ⟨rfl, hb2⟩
          have HB2 := Lib.hid (HB1.out.trans (hb2.mono HB1.out.size))
          have d0 : w2.cell? ⟨wr.heap.size, 0, none⟩ = some (.int .i64 k) := (hb2.cell (p := ⟨wr.heap.size, 0, none⟩) (by simp)).trans (by simp)
          have d1 : w2.cell? ⟨wr.heap.size, 1, none⟩ = some (.int .u64 W0) := (hb2.cell (p := ⟨wr.heap.size, 1, none⟩) (by simp)).trans (by simp)
          have d2 : w2.cell? ⟨wr.heap.size, 2, none⟩ = some (.int .u64 W1) := (hb2.cell (p := ⟨wr.heap.size, 2, none⟩) (by simp)).trans (by simp)
          have d3 : w2.cell? ⟨wr.heap.size, 3, none⟩ = some (.int .u64 W2) := (hb2.cell (p := ⟨wr.heap.size, 3, none⟩) (by simp)).trans (by simp)
          have d4 : w2.cell? ⟨wr.heap.size, 4, none⟩ = some (.int .u64 W3) := (hb2.cell (p := ⟨wr.heap.size, 4, none⟩) (by simp)).trans (by simp)
          clear hb2
          go_wp2
          go_ret3
          exact ⟨ret_wv HE.out, HB2.out⟩
        · have HG : Hid (badR ⟨k, s⟩ = false) := Lib.hid (by
            by_cases hk : k = 1
            · simp [badR, hk]
              have := HOK.out; rwa [hk] at this
            · have : z = true := by cases z <;> simp_all
              simp [badR, HOK.out, HZ.out, this])
          have e12 : (k = 1 ∧ (k == 1) = true) ∨ ((k != 1) = true ∧ z = true) := by
            by_cases hk : k = 1
            · exact .inl ⟨hk, by simp [hk]⟩
            · exact .inr ⟨by simp [hk], by cases z <;> simp_all⟩
          clear hbad
          by_cases hqp : p < q
          · have HE : Hid (walkR rs = (0, 0, 3)) := Lib.hid (by
              rw [HW.out, HD.out, wk, if_neg (by rw [HG.out]; decide), if_pos (by rw [HQ.out]; exact hqp)])
            have q1 : (p : Int) < (q : Int) := by omega
            clear hqp
            rcases e12 with ⟨rfl, e1⟩ | ⟨e1, rfl⟩
            all_goals
              go_wp2_with fail
              refine (HOF.out _).mono ?_
              rintro e w2 ⟨rfl, hb2⟩
              have HB2 := Lib.hid (HB1.out.trans (hb2.mono HB1.out.size))
              have d0 : w2.cell? ⟨wr.heap.size, 0, none⟩ = some (.int .i64 _) := (hb2.cell (p := ⟨wr.heap.size, 0, none⟩) (by simp)).trans (by simp; rfl)
              have d1 : w2.cell? ⟨wr.heap.size, 1, none⟩ = some (.int .u64 W0) := (hb2.cell (p := ⟨wr.heap.size, 1, none⟩) (by simp)).trans (by simp)
              have d2 : w2.cell? ⟨wr.heap.size, 2, none⟩ = some (.int .u64 W1) := (hb2.cell (p := ⟨wr.heap.size, 2, none⟩) (by simp)).trans (by simp)
              have d3 : w2.cell? ⟨wr.heap.size, 3, none⟩ = some (.int .u64 W2) := (hb2.cell (p := ⟨wr.heap.size, 3, none⟩) (by simp)).trans (by simp)
              have d4 : w2.cell? ⟨wr.heap.size, 4, none⟩ = some (.int .u64 W3) := (hb2.cell (p := ⟨wr.heap.size, 4, none⟩) (by simp)).trans (by simp)
              clear hb2
              go_wp2
              go_ret3
              exact ⟨ret_wv HE.out, HB2.out⟩
          · have HE : Hid (wk rs 0 0 = wk (rs.drop (j + 1)) (p + 1 - q) (max m (p + 1 - q))) := Lib.hid (by
              rw [HD.out, wk, if_neg (by rw [HG.out]; decide), if_neg (by rw [HQ.out]; exact hqp), HQ.out])
            have q1 : ¬ (p : Int) < (q : Int) := by omega
            obtain ⟨t, ht⟩ : ∃ t, p + 1 - q = t := ⟨_, rfl⟩
            rw [ht] at HE
            have q2 : (p : Int) + (1 - (q : Int)) = (t : Int) := by omega
            have q3 : Hid ((if m < t then (t : Int) else (m : Int)) = ((max m t : Nat) : Int)) := Lib.hid (by by_cases h : m < t <;> simp only [h, if_true, if_false] <;> omega)
            have ht2 : t ≤ j + 1 := by omega
            clear hqp ht
            rcases e12 with ⟨rfl, e1⟩ | ⟨e1, rfl⟩
            all_goals
              go_wp2_with fail
              refine (HOF.out _).mono ?_
              rintro e w2 ⟨rfl, hb2⟩
              have HB2 := Lib.hid (HB1.out.trans (hb2.mono HB1.out.size))
              have d0 : w2.cell? ⟨wr.heap.size, 0, none⟩ = some (.int .i64 _) := (hb2.cell (p := ⟨wr.heap.size, 0, none⟩) (by simp)).trans (by simp; rfl)
              have d1 : w2.cell? ⟨wr.heap.size, 1, none⟩ = some (.int .u64 W0) := (hb2.cell (p := ⟨wr.heap.size, 1, none⟩) (by simp)).trans (by simp)
              have d2 : w2.cell? ⟨wr.heap.size, 2, none⟩ = some (.int .u64 W1) := (hb2.cell (p := ⟨wr.heap.size, 2, none⟩) (by simp)).trans (by simp)
              have d3 : w2.cell? ⟨wr.heap.size, 3, none⟩ = some (.int .u64 W2) := (hb2.cell (p := ⟨wr.heap.size, 3, none⟩) (by simp)).trans (by simp)
              have d4 : w2.cell? ⟨wr.heap.size, 4, none⟩ = some (.int .u64 W3) := (hb2.cell (p := ⟨wr.heap.size, 4, none⟩) (by simp)).trans (by simp)
              clear hb2
              go_wp2
              go_roundw
              case rel =>
                exact ⟨j + 1, t, max m t, by omega, by go_num, rfl, by rw [q3.out], ht2, by omega, HE.out, HB2.out⟩
              case measure => simp [intOf]; omega
    · have HE : Hid (walkR rs = (p, m, 0)) := Lib.hid (by rw [HW.out, HWK.out, List.drop_of_length_le (by rw [HL.out]; omega)]; rfl)
      go_wp2
      go_ret3
      exact ⟨ret_wv HE.out, HB.out⟩
def chkR (l : List Rx) : Nat := if (walkR l).2.2 = 0 ∧ (walkR l).1 ≠ 1 then 3 else (walkR l).2.2
theorem wk_le : ∀ (l : List Rx) (p m : Nat), (wk l p m).1 ≤ p + l.length ∧ (wk l p m).2.1 ≤ max m (p + l.length) ∧ (wk l p m).2.2 ≤ 3
  | [], p, m => by simp [wk]; omega
  | r :: l, p, m => by
    rw [wk]
    by_cases h1 : badR r = true
    · rw [if_pos h1]; simp
    · rw [if_neg h1]
      by_cases h2 : p < nP r.k
      · rw [if_pos h2]; simp
      · rw [if_neg h2]
        have := wk_le l (p + 1 - nP r.k) (max m (p + 1 - nP r.k))
        simp only [List.length_cons]; omega
theorem walkR_le (l : List Rx) : (walkR l).1 ≤ 512 ∧ (walkR l).2.1 ≤ 512 ∧ (walkR l).2.2 ≤ 4 := by
  unfold walkR
  by_cases h : 512 < l.length
  · rw [if_pos h]; simp
  · rw [if_neg h]
    have := wk_le l 0 0
    omega
theorem ret_i64 {a b : Int} (h : a = b) : Ending.returned (.int .i64 a) = .returned (.int .i64 b) := by rw [h]
theorem check_any (w : World) (a : Option Addr) (n c : Nat) (rs : List Rx) (h : CRow rxC 5 w a n rs) :
    Calls Try.prog 22 #[.slice a n c] w fun e w' => e = .returned (.int .i64 (chkR rs : Nat)) ∧ Below w.heap.size w w' := by
  have HC := Lib.hid (walk_any w a n c rs h)
  have HLE := Lib.hid (walkR_le rs)
  have hl2 := h.2.1
  unfold chkR wv at *
  clear h
  generalize walkR rs = x at HC HLE ⊢
  obtain ⟨p, m, q⟩ := x
  dsimp only at *
  obtain ⟨hp, hm, hq⟩ := HLE.out
  clear HLE
  by_cases h0 : q = 0
  · subst h0
    by_cases h1 : p = 1
    · have HE : Hid ((if 0 = 0 ∧ p ≠ 1 then 3 else 0) = 0) := Lib.hid (by simp [h1])
      have e1 : ((p : Int) != 1) = false := by simp [h1]
      rw [HE.out]
      clear h1 HE
      go_enter Try.func22, Try.ntmps22
      go_wp2_with fail
      refine HC.out.mono ?_
      rintro e w1 ⟨rfl, hb⟩
      have HB := Lib.hid hb
      clear hb HC
      go_wp2
      go_ret
      exact ⟨rfl, HB.out⟩
    · have HE : Hid ((if 0 = 0 ∧ p ≠ 1 then 3 else 0) = 3) := Lib.hid (by simp [h1])
      have e1 : ((p : Int) != 1) = true := by simp; omega
      rw [HE.out]
      clear h1 HE
      go_enter Try.func22, Try.ntmps22
      go_wp2_with fail
      refine HC.out.mono ?_
      rintro e w1 ⟨rfl, hb⟩
      have HB := Lib.hid hb
      clear hb HC
      go_wp2
      go_ret
      exact ⟨rfl, HB.out⟩
  · have HE : Hid ((if q = 0 ∧ p ≠ 1 then 3 else q) = q) := Lib.hid (by simp [h0])
    have e1 : ((q : Int) == 0) = false := by simp; omega
    have e2 : (q : Int) ≠ 0 := by omega
    rw [HE.out]
    clear h0 HE
    go_enter Try.func22, Try.ntmps22
    go_wp2_with fail
    refine HC.out.mono ?_
    rintro e w1 ⟨rfl, hb⟩
    have HB := Lib.hid hb
    clear hb HC
    go_wp2
    go_ret
    exact ⟨rfl, HB.out⟩
def highR (l : List Rx) : Nat := if chkR l = 0 then (walkR l).2.1 else 0
theorem high_any (w : World) (a : Option Addr) (n c : Nat) (rs : List Rx) (h : CRow rxC 5 w a n rs) :
    Calls Try.prog 24 #[.slice a n c] w fun e w' => e = .returned (.int .i64 (highR rs : Nat)) ∧ Below w.heap.size w w' := by
  have HR := Lib.hid h
  have HC := Lib.hid (check_any w a n c rs h)
  have HW := Lib.hid fun w => walk_any w a n c rs
  have HLE := Lib.hid (walkR_le rs)
  have hl2 := h.2.1
  unfold highR wv at *
  clear h
  generalize walkR rs = x at HW HLE ⊢
  obtain ⟨p, m, q⟩ := x
  dsimp only at *
  obtain ⟨hp, hm, hq⟩ := HLE.out
  clear HLE
  generalize chkR rs = k at HC ⊢
  by_cases h0 : k = 0
  · have HE : Hid ((if k = 0 then m else 0) = m) := Lib.hid (by simp [h0])
    rw [HE.out]
    subst h0
    clear HE
    go_enter Try.func24, Try.ntmps24
    go_wp2_with fail
    refine HC.out.mono ?_
    rintro e w1 ⟨rfl, hb⟩
    have HB := Lib.hid hb
    have HW1 := Lib.hid (HW.out w1 (HR.out.below hb))
    clear hb HC HW
    go_wp2_with fail
    refine HW1.out.mono ?_
    rintro e w2 ⟨rfl, hb⟩
    have HB2 := Lib.hid (HB.out.trans (hb.mono HB.out.size))
    clear hb HW1
    go_wp2
    go_ret
    exact ⟨rfl, HB2.out⟩
  · have HE : Hid ((if k = 0 then m else 0) = 0) := Lib.hid (by simp [h0])
    have e1 : ((k : Int) != 0) = true := by simp; omega
    rw [HE.out]
    clear h0 HE
    go_enter Try.func24, Try.ntmps24
    go_wp2_with fail
    refine HC.out.mono ?_
    rintro e w1 ⟨rfl, hb⟩
    have HB := Lib.hid hb
    clear hb HC HW
    go_wp2
    go_ret
    exact ⟨rfl, HB.out⟩
end Go.Proofs.Ytjlmmpbichfaoaa
