/- rx: Begin; the law of parts. -/
import Derived.Test.YtjlmmpbichfaoaaRxWalk
namespace Go.Proofs.Ytjlmmpbichfaoaa
open Go.RowKit
set_option linter.unusedVariables false

theorem wk_app : ∀ {a : List Rx} {b : List Rx} {p m p' m' : Nat}, wk a p m = (p', m', 0) → wk (a ++ b) p m = wk b p' m'
  | [], b, p, m, p', m', h => by
    rw [wk] at h
    simp only [Prod.mk.injEq] at h
    obtain ⟨rfl, rfl, _⟩ := h
    rfl
  | r :: a, b, p, m, p', m', h => by
    rw [List.cons_append, wk]
    rw [wk] at h
    by_cases h1 : badR r = true
    · rw [if_pos h1] at h; simp at h
    · rw [if_neg h1] at h ⊢
      by_cases h2 : p < nP r.k
      · rw [if_pos h2] at h; simp at h
      · rw [if_neg h2] at h ⊢
        exact wk_app h
theorem wk_split : ∀ {a b : List Rx} {p m p' m' : Nat}, wk (a ++ b) p m = (p', m', 0) → ∃ p0 m0, wk a p m = (p0, m0, 0) ∧ wk b p0 m0 = (p', m', 0)
  | [], b, p, m, p', m', h => ⟨p, m, rfl, h⟩
  | r :: a, b, p, m, p', m', h => by
    rw [List.cons_append, wk] at h
    by_cases h1 : badR r = true
    · rw [if_pos h1] at h; simp at h
    · rw [if_neg h1] at h
      by_cases h2 : p < nP r.k
      · rw [if_pos h2] at h; simp at h
      · rw [if_neg h2] at h
        obtain ⟨p0, m0, h3, h4⟩ := wk_split h
        refine ⟨p0, m0, ?_, h4⟩
        rw [wk, if_neg h1, if_neg h2]
        exact h3
theorem wk_shift : ∀ {b : List Rx} {p m p' m' M : Nat}, wk b p m = (p', m', 0) → wk b (p + 1) (max M (m + 1)) = (p' + 1, max M (m' + 1), 0)
  | [], p, m, p', m', M, h => by
    rw [wk] at h
    simp only [Prod.mk.injEq] at h
    obtain ⟨rfl, rfl, _⟩ := h
    rfl
  | r :: b, p, m, p', m', M, h => by
    rw [wk] at h ⊢
    by_cases h1 : badR r = true
    · rw [if_pos h1] at h; simp at h
    · rw [if_neg h1] at h ⊢
      by_cases h2 : p < nP r.k
      · rw [if_pos h2] at h; simp at h
      · rw [if_neg h2] at h
        rw [if_neg (by omega)]
        have h3 := wk_shift (M := M) h
        have e1 : p + 1 + 1 - nP r.k = p + 1 - nP r.k + 1 := by omega
        have e2 : max (max M (m + 1)) (p + 1 - nP r.k + 1) = max M (max m (p + 1 - nP r.k) + 1) := by omega
        rw [e1, e2]
        exact h3
theorem wk_hi : ∀ {a : List Rx} {p m p' m' : Nat}, wk a p m = (p', m', 0) → m ≤ m' ∧ (a ≠ [] → 1 ≤ p' ∧ p' ≤ m')
  | [], p, m, p', m', h => by
    rw [wk] at h
    simp only [Prod.mk.injEq] at h
    obtain ⟨rfl, rfl, _⟩ := h
    exact ⟨Nat.le_refl _, fun h => absurd rfl h⟩
  | r :: a, p, m, p', m', h => by
    rw [wk] at h
    by_cases h1 : badR r = true
    · rw [if_pos h1] at h; simp at h
    · rw [if_neg h1] at h
      by_cases h2 : p < nP r.k
      · rw [if_pos h2] at h; simp at h
      · rw [if_neg h2] at h
        have h3 := wk_hi h
        refine ⟨by omega, fun _ => ?_⟩
        by_cases ha : a = []
        · subst ha
          rw [wk] at h
          simp only [Prod.mk.injEq] at h
          omega
        · exact h3.2 ha
theorem chk_zero {l : List Rx} : chkR l = 0 ↔ l.length ≤ 512 ∧ ∃ m, wk l 0 0 = (1, m, 0) := by
  unfold chkR walkR
  by_cases h : 512 < l.length
  · rw [if_pos h]; simp; omega
  · rw [if_neg h]
    obtain ⟨p, m, e⟩ := wk l 0 0
    simp only
    constructor
    · intro h2
      by_cases h3 : e = 0 ∧ p ≠ 1
      · rw [if_pos h3] at h2; omega
      · rw [if_neg h3] at h2
        subst h2
        have : p = 1 := by
          by_cases h4 : p = 1
          · exact h4
          · exact absurd ⟨rfl, h4⟩ h3
        subst this
        exact ⟨by omega, m, rfl⟩
    · rintro ⟨_, m', h2⟩
      simp only [Prod.mk.injEq] at h2
      obtain ⟨rfl, _, rfl⟩ := h2
      simp
theorem high_of {l : List Rx} {m : Nat} (hl : l.length ≤ 512) (h : wk l 0 0 = (1, m, 0)) : highR l = m := by
  have hc : chkR l = 0 := chk_zero.2 ⟨hl, m, h⟩
  unfold highR
  rw [if_pos hc]
  unfold walkR
  rw [if_neg (by omega), h]
theorem bad_stp (k : Int) (hk : okK k = true) : badR (stp0 k) = false := by simp [badR, stp0, hk, zS_empty]
theorem cat_wk {a b : List Rx} {ha hb : Nat} (h1 : wk a 0 0 = (1, ha, 0)) (h2 : wk b 0 0 = (1, hb, 0)) (hne : a ≠ []) : wk (a ++ b) 0 0 = (2, max ha (hb + 1), 0) := by
  rw [wk_app h1]
  have h3 := wk_shift (M := ha) h2
  have h4 := (wk_hi h1).2 hne
  have e : max ha (0 + 1) = ha := by omega
  rw [e] at h3
  exact h3
theorem two_wk {a b : List Rx} {ha hb : Nat} (k : Int) (hk : okK k = true) (hn : nP k = 2) (h1 : wk a 0 0 = (1, ha, 0)) (h2 : wk b 0 0 = (1, hb, 0)) (hne : a ≠ []) : wk (a ++ b ++ [stp0 k]) 0 0 = (1, max ha (hb + 1), 0) := by
  rw [wk_app (cat_wk h1 h2 hne), wk, bad_stp k hk, if_neg (by decide)]
  have e : nP (stp0 k).k = 2 := hn
  rw [e, if_neg (by omega), wk]
  have h4 := (wk_hi h1).2 hne
  have e2 : max (max ha (hb + 1)) (2 + 1 - 2) = max ha (hb + 1) := by omega
  rw [e2]
theorem star_wk {l : List Rx} {h : Nat} (k : Int) (hk : okK k = true) (hn : nP k = 1) (h1 : wk l 0 0 = (1, h, 0)) (hp : 1 ≤ h) : wk (l ++ [stp0 k]) 0 0 = (1, h, 0) := by
  rw [wk_app h1, wk, bad_stp k hk, if_neg (by decide)]
  have e : nP (stp0 k).k = 1 := hn
  rw [e, if_neg (by omega), wk]
  have e2 : max h (1 + 1 - 1) = h := by omega
  rw [e2]
/-- Where the part begins that ends ahead of a place. -/
def bgL (l : List Rx) : Nat → Nat → Int
  | _, 0 => -1
  | q, i + 1 => match l[i]? with
    | none => -1
    | some r => if okK r.k = false then -1 else if q + nP r.k = 1 then (i : Int) else bgL l (q + nP r.k - 1) i
theorem bg_part : ∀ (n : Nat) (b u r : List Rx) (p' m m' : Nat), b.length = n → wk b 0 m = (p', m', 0) → 1 ≤ p' → bgL (u ++ b ++ r) p' (u.length + b.length) = (u.length : Int) := by
  intro n
  induction n with
  | zero =>
    intro b u r p' m m' hn h hp
    have : b = [] := List.length_eq_zero_iff.1 hn
    subst this
    rw [wk] at h
    simp only [Prod.mk.injEq] at h
    omega
  | succ n ih =>
    intro b u r p' m m' hn h hp
    rcases List.eq_nil_or_concat b with rfl | ⟨b0, x, rfl⟩
    · simp at hn
    · rw [List.concat_eq_append] at hn h ⊢
      obtain ⟨p0, m0, h1, h2⟩ := wk_split h
      rw [wk] at h2
      by_cases hb : badR x = true
      · rw [if_pos hb] at h2; simp at h2
      rw [if_neg hb] at h2
      by_cases hlt : p0 < nP x.k
      · rw [if_pos hlt] at h2; simp at h2
      rw [if_neg hlt, wk] at h2
      simp only [Prod.mk.injEq] at h2
      have hok : okK x.k = true := by
        cases hx : okK x.k with
        | true => rfl
        | false => exact absurd (by simp [badR, hx]) hb
      have hl0 : b0.length = n := by simp at hn; omega
      have hget : (u ++ (b0 ++ [x]) ++ r)[u.length + b0.length]? = some x := by
        rw [List.getElem?_append_left (by simp), List.getElem?_append_right (by omega), List.getElem?_append_right (by omega)]
        simp
      have e : u.length + (b0 ++ [x]).length = (u.length + b0.length) + 1 := by simp; omega
      rw [e, bgL, hget]
      simp only
      rw [if_neg (by rw [hok]; decide)]
      by_cases h0 : b0 = []
      · subst h0
        rw [wk] at h1
        simp only [Prod.mk.injEq] at h1
        rw [if_pos (by omega)]
        simp
      · have h3 := (wk_hi h1).2 h0
        rw [if_neg (by omega)]
        have e2 : p' + nP x.k - 1 = p0 := by omega
        rw [e2]
        have := ih b0 u ([x] ++ r) p0 m m0 hl0 h1 h3.1
        rw [show u ++ (b0 ++ [x]) ++ r = u ++ b0 ++ ([x] ++ r) by simp]
        exact this
theorem bg_step {l : List Rx} {q i : Nat} {r : Rx} (h : l[i]? = some r) : bgL l q (i + 1) = if okK r.k = false then -1 else if q + nP r.k = 1 then (i : Int) else bgL l (q + nP r.k - 1) i := by
  rw [bgL, h]
set_option maxHeartbeats 4000000 in
theorem begin_any (w : World) (a : Option Addr) (n c : Nat) (rs : List Rx) (i0 : Nat) (h : CRow rxC 5 w a n rs) (hn : n ≤ 100000) (hi : i0 < n) :
    Calls Try.prog 23 #[.slice a n c, .int .i64 (i0 : Int)] w fun e w' => e = .returned (.int .i64 (bgL rs 1 (i0 + 1))) ∧ Below w.heap.size w w' := by
  have hl2 := h.2.1
  have HR := Lib.hid h
  have HL := Lib.hid h.1
  have j1 : ¬ (n : Int) ≤ (i0 : Int) := by omega
  have j2 : ¬ n ≤ i0 := by omega
  have j3 : decide (n ≤ i0) = false := decide_eq_false j2
  obtain ⟨res, hres⟩ : ∃ x, bgL rs 1 (i0 + 1) = x := ⟨_, rfl⟩
  have HRES := Lib.hid hres
  rw [hres]
  clear h hres
  go_enter Try.func23, Try.ntmps23
  go_wp2
  go_loopw [1, 5] (fun i v wr => ∃ (k q : Nat) (x : Int), k ≤ n ∧ i = .int .i64 x ∧ x + 1 = (k : Int) ∧ v = .int .i64 (q : Int) ∧ 1 ≤ q ∧ q + 2 * k ≤ 2 * n + 2 ∧ bgL rs q k = res ∧ Below w.heap.size w wr) (fun i _ _ => (intOf i + 1).toNat)
  case atStart => exact ⟨i0 + 1, 1, i0, by omega, rfl, by omega, rfl, by omega, by omega, HRES.out, Below.refl _ _⟩
  case round =>
    obtain ⟨k, q, x, hk, rfl, hx, rfl, hq, hqk, hbg, hb⟩ := hrel
    have HB := Lib.hid hb
    have HBG := Lib.hid hbg
    clear hb hbg
    cases k with
    | zero =>
      obtain rfl : x = -1 := by omega
      have HE : Hid (res = -1) := Lib.hid (by rw [← HBG.out]; rfl)
      go_wp2
      go_ret
      exact ⟨ret_i64 HE.out.symm, HB.out⟩
    | succ j =>
      obtain rfl : x = (j : Int) := by omega
      obtain ⟨b1, o1, r, rfl, hbl, hr, hc⟩ := HR.out.at_ (i := j) (by omega)
      have kp : ∀ i u, w.cell? ⟨b1, i, none⟩ = some u → wr.cell? ⟨b1, i, none⟩ = some u := fun i u h => (HB.out.cell (p := ⟨b1, i, none⟩) hbl).trans h
      have c0 : wr.cell? ⟨b1, o1 + j * 5, none⟩ = some (.int .i64 r.k) := kp _ _ (hc 0 _ rfl)
      have c1 : wr.cell? ⟨b1, o1 + j * 5 + 1, none⟩ = some (.int .u64 (wd r.s 0)) := kp _ _ (hc 1 _ rfl)
      have c2 : wr.cell? ⟨b1, o1 + j * 5 + 2, none⟩ = some (.int .u64 (wd r.s 1)) := kp _ _ (hc 2 _ rfl)
      have c3 : wr.cell? ⟨b1, o1 + j * 5 + 3, none⟩ = some (.int .u64 (wd r.s 2)) := kp _ _ (hc 3 _ rfl)
      have c4 : wr.cell? ⟨b1, o1 + j * 5 + 4, none⟩ = some (.int .u64 (wd r.s 3)) := kp _ _ (hc 4 _ rfl)
      have HST := Lib.hid (bg_step (q := q) hr)
      have HOF := Lib.hid (of_any r wr)
      have hnp := nP_le r.k
      have h0 : (0 : Int) ≤ (j : Int) := by omega
      have h1 : (j : Int) < (n : Int) := by omega
      have hgl := HB.out.size
      clear kp hc hr
      obtain ⟨z, hz⟩ : ∃ z, okK r.k = z := ⟨_, rfl⟩
      obtain ⟨t, ht⟩ : ∃ z, nP r.k = z := ⟨_, rfl⟩
      rw [hz, ht] at HOF HST
      rw [ht] at hnp
      clear hz ht
      cases z with
      | false =>
        have HE : Hid (res = -1) := Lib.hid (by rw [← HBG.out, HST.out, if_pos rfl])
        go_wp2_with fail
        refine HOF.out.mono ?_
        rintro e w2 ⟨rfl, hb2⟩
        have HB2 := Lib.hid (HB.out.trans (hb2.mono hgl))
        clear hb2
        go_wp2
        go_ret
        exact ⟨ret_i64 HE.out.symm, HB2.out⟩
      | true =>
        by_cases hq1 : q + t = 1
        · have HE : Hid (res = (j : Int)) := Lib.hid (by rw [← HBG.out, HST.out, if_neg (by decide), if_pos hq1])
          have q2 : (q : Int) + ((t : Int) - 1) = 0 := by omega
          clear hq1
          go_wp2_with fail
          refine HOF.out.mono ?_
          rintro e w2 ⟨rfl, hb2⟩
          have HB2 := Lib.hid (HB.out.trans (hb2.mono hgl))
          clear hb2
          go_wp2
          go_ret
          exact ⟨ret_i64 HE.out.symm, HB2.out⟩
        · have HE : Hid (bgL rs (q + t - 1) j = res) := Lib.hid (by rw [← HBG.out, HST.out, if_neg (by decide), if_neg hq1])
          obtain ⟨y, hy⟩ : ∃ y, q + t - 1 = y := ⟨_, rfl⟩
          rw [hy] at HE
          have q2 : (q : Int) + ((t : Int) - 1) = (y : Int) := by omega
          have q3 : ((y : Int) == 0) = false := by simp; omega
          have q4 : 1 ≤ y := by omega
          have q5 : y + 2 * j ≤ 2 * n + 2 := by omega
          clear hq1 hy
          go_wp2_with fail
          refine HOF.out.mono ?_
          rintro e w2 ⟨rfl, hb2⟩
          have HB2 := Lib.hid (HB.out.trans (hb2.mono hgl))
          clear hb2
          go_wp2
          go_roundw
          case rel => exact ⟨j, y, _, by omega, rfl, by omega, rfl, q4, q5, HE.out, HB2.out⟩
          case measure => simp [intOf]
end Go.Proofs.Ytjlmmpbichfaoaa
