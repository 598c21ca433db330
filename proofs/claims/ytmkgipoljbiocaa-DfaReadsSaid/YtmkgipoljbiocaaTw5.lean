/- Several texts in one: Spot2, Spot3, Spot4, Spot5, FuseS, Read4, NetT, Find, Append. -/
import Derived.Test.YtmkgipoljbiocaaTw4
import Derived.Test.YtmkgipoljbiocaaTw1
import Derived.Deep.CutRange
import Derived.WalkKit
import Derived.Lib.Hide
import Derived.Maps.AppendAt
/- Spots of an expression: the document's. -/
namespace Go.Proofs.Ytmkgipoljbiocaa
open Go.RowKit
set_option linter.unusedVariables false

attribute [local go_sem ↓] eqS_eq eqS_eq'
theorem cntS1_take {l : List Rx} {k : Nat} {r : Rx} (h : l[k]? = some r) : cntS1 (l.take (k + 1)) = cntS1 (l.take k) + if r.k = 1 then 1 else 0 := by
  rw [take_snoc h, cntS1_app]
  congr 1
  unfold cntS1
  by_cases hk : r.k = 1
  · rw [if_pos hk]; simp [hk]
  · rw [if_neg hk]; simp [hk]
theorem cntS1_le (l : List Rx) (k : Nat) : cntS1 (l.take k) ≤ k := by
  unfold cntS1
  exact Nat.le_trans (List.length_filter_le _ _) (List.length_take_le _ _)
theorem PartAt.base {l : List Rx} {i base : Nat} {T : RxT} (h : PartAt l i base T) (h1 : (post T).length = 1) : cntS1 (l.take i) = base := by
  obtain ⟨p, q, rfl, hi, hc⟩ := h
  rw [h1] at hi
  have : i = p.length := by omega
  subst this
  rw [List.append_assoc, List.take_left, hc]
theorem number_any (w : World) (a : Option Addr) (n c : Nat) (l : List Rx) (i : Nat) (h : CRow rxC 5 w a n l) (hi : i ≤ n) (hn : n ≤ 100000) :
    Calls Try.prog 72 #[.slice a n c, .int .i64 (i : Int)] w fun e w' => e = .returned (.int .i64 (cntS1 (l.take i) : Nat)) ∧ w = w' := by
  have HL := Lib.hid h.1
  have HH := Lib.hid h
  clear h
  go_enter Try.func72, Try.ntmps72
  go_wp2
  go_loop [5, 6] (fun u j => ∃ k : Nat, k ≤ i ∧ j = .int .i64 (k : Int) ∧ u = .int .i64 (cntS1 (l.take k) : Nat)) (fun _ j => i - (intOf j).toNat)
  case atStart => exact ⟨0, by omega, rfl, rfl⟩
  case round =>
    obtain ⟨k, hk, rfl, rfl⟩ := hrel
    have hle := cntS1_le l k
    by_cases hlt : k < i
    · obtain ⟨b, off, x, rfl, hb, hx, c0, c1, c2, c3, c4⟩ := HH.out.kind (k := k) (by omega)
      have HNX := Lib.hid (cntS1_take hx)
      obtain ⟨y, hy⟩ : ∃ y, cntS1 (l.take k) = y := ⟨_, rfl⟩
      rw [hy] at HNX hle ⊢
      have z0 : (0 : Int) ≤ (k : Int) := by omega
      have z1 : (k : Int) < (n : Int) := by omega
      clear hy hx
      by_cases hk1 : x.k = 1
      · have HNE : Hid (cntS1 (l.take (k + 1)) = y + 1) := Lib.hid (by rw [HNX.out, if_pos hk1])
        have e1 : (x.k == 1) = true := by simpa using hk1
        clear hk1
        go_wp2
        go_round
        case rel => exact ⟨k + 1, by omega, by go_num, by rw [HNE.out]; go_num⟩
        case measure => simp [intOf]; omega
      · have HNE : Hid (cntS1 (l.take (k + 1)) = y) := Lib.hid (by rw [HNX.out, if_neg hk1]; rfl)
        have e1 : (x.k == 1) = false := by simpa using hk1
        clear hk1
        go_wp2
        go_round
        case rel => exact ⟨k + 1, by omega, by go_num, by rw [HNE.out]⟩
        case measure => simp [intOf]; omega
    · have hk2 : k = i := by omega
      subst hk2
      obtain ⟨y, hy⟩ : ∃ y, cntS1 (l.take k) = y := ⟨_, rfl⟩
      have HY := Lib.hid hy
      rw [hy]
      clear hy
      go_wp2
      go_ret
      exact ⟨ret_int (by rw [HY.out]), rfl⟩
def freeT : RxT → Bool
  | .set _ => false
  | .empty => true
  | .cat a b => freeT a && freeT b
  | .alt a b => freeT a || freeT b
  | .star _ => true
  | .plus a => freeT a
  | .opt _ => true
/-- What the step at a place is. -/
theorem step_at {w : World} {a : Option Addr} {n : Nat} {l : List Rx} (h : CRow rxC 5 w a n l) {i base : Nat} {T : RxT} (hp : PartAt l i base T) : ∃ b off, a = some ⟨b, off, none⟩ ∧ i < n ∧ w.cell? ⟨b, off + i * 5, none⟩ = some (.int .i64 (topK T)) := by
  obtain ⟨r, hr, hk⟩ := hp.kind
  have hin : i < n := by rw [← h.1]; exact hp.lt
  obtain ⟨b, off, x, ha, hb, hx, c0, _⟩ := h.kind hin
  rw [hr] at hx
  obtain rfl := Option.some.inj hx
  rw [hk] at c0
  exact ⟨b, off, ha, hin, c0⟩
theorem free_any (w : World) (a : Option Addr) (n c : Nat) (l : List Rx) (h : CRow rxC 5 w a n l) (hn : n ≤ 100000) : ∀ (T : RxT) (i base : Nat), PartAt l i base T →
    Calls Try.prog 74 #[.slice a n c, .int .i64 (i : Int)] w fun e w' => e = .returned (.bool (freeT T)) ∧ w = w' := by
  intro T
  induction T with
  | set S =>
    intro i base hp
    obtain ⟨b, off, rfl, hin, c0⟩ := step_at h hp
    replace c0 : w.cell? ⟨b, off + i * 5, none⟩ = some (.int .i64 1) := c0
    have z1 : (i : Int) < (n : Int) := by omega
    have z0 : (0 : Int) ≤ (i : Int) := by omega
    clear h hp
    go_enter Try.func74, Try.ntmps74
    go_wp2_with fail
    go_ret
    exact ⟨rfl, rfl⟩
  | empty =>
    intro i base hp
    obtain ⟨b, off, rfl, hin, c0⟩ := step_at h hp
    replace c0 : w.cell? ⟨b, off + i * 5, none⟩ = some (.int .i64 2) := c0
    have z1 : (i : Int) < (n : Int) := by omega
    have z0 : (0 : Int) ≤ (i : Int) := by omega
    clear h hp
    go_enter Try.func74, Try.ntmps74
    go_wp2_with fail
    go_ret
    exact ⟨rfl, rfl⟩
  | star x ihx =>
    intro i base hp
    obtain ⟨b, off, rfl, hin, c0⟩ := step_at h hp
    replace c0 : w.cell? ⟨b, off + i * 5, none⟩ = some (.int .i64 5) := c0
    have z1 : (i : Int) < (n : Int) := by omega
    have z0 : (0 : Int) ≤ (i : Int) := by omega
    clear h hp ihx
    go_enter Try.func74, Try.ntmps74
    go_wp2_with fail
    go_ret
    exact ⟨rfl, rfl⟩
  | opt x ihx =>
    intro i base hp
    obtain ⟨b, off, rfl, hin, c0⟩ := step_at h hp
    replace c0 : w.cell? ⟨b, off + i * 5, none⟩ = some (.int .i64 7) := c0
    have z1 : (i : Int) < (n : Int) := by omega
    have z0 : (0 : Int) ≤ (i : Int) := by omega
    clear h hp ihx
    go_enter Try.func74, Try.ntmps74
    go_wp2_with fail
    go_ret
    exact ⟨rfl, rfl⟩
  | plus x ihx =>
    intro i base hp
    obtain ⟨b, off, rfl, hin, c0⟩ := step_at h hp
    replace c0 : w.cell? ⟨b, off + i * 5, none⟩ = some (.int .i64 6) := c0
    obtain ⟨h1, hpx⟩ := hp.last1 (k := 6) rfl
    have HX := Lib.hid (ihx (i - 1) base hpx)
    have z1 : (i : Int) < (n : Int) := by omega
    have z0 : (0 : Int) ≤ (i : Int) := by omega
    obtain ⟨j, rfl⟩ : ∃ j, i = j + 1 := ⟨i - 1, by omega⟩
    rw [Nat.add_sub_cancel] at HX
    have z2 : (((j + 1 : Nat) : Int) - 1) = (j : Int) := by omega
    have z3 : ((j : Int) + 1 - 1) = (j : Int) := by omega
    clear h hp ihx hpx
    go_enter Try.func74, Try.ntmps74
    go_wp2_with fail
    refine HX.out.mono ?_
    rintro e w' ⟨rfl, rfl⟩
    go_wp2_with fail
    go_ret
    exact ⟨rfl, rfl⟩
  | cat x y ihx ihy =>
    intro i base hp
    obtain ⟨b, off, rfl, hin, c0⟩ := step_at h hp
    replace c0 : w.cell? ⟨b, off + i * 5, none⟩ = some (.int .i64 3) := c0
    obtain ⟨h1, hpy, h2, hpx⟩ := hp.last2 (k := 3) rfl
    have HY := Lib.hid (ihy (i - 1) _ hpy)
    have HB := Lib.hid (rbegin_any w _ n c l h hn y (i - 1) _ hpy)
    have HX := Lib.hid (ihx _ _ hpx)
    have hp1 := post_pos y
    have z1 : (i : Int) < (n : Int) := by omega
    have z0 : (0 : Int) ≤ (i : Int) := by omega
    obtain ⟨j, rfl⟩ : ∃ j, i = j + 1 := ⟨i - 1, by omega⟩
    rw [Nat.add_sub_cancel] at HY HB
    obtain ⟨m, hm⟩ : ∃ m, j + 1 - (post y).length = m + 1 := ⟨j + 1 - (post y).length - 1, by omega⟩
    rw [show j + 1 - (post y).length - 1 = m by omega] at HX
    rw [hm] at HB
    have z2 : (((j + 1 : Nat) : Int) - 1) = (j : Int) := by omega
    have z3 : ((j : Int) + 1 - 1) = (j : Int) := by omega
    have z4 : ((m : Int) + 1 - 1) = (m : Int) := by omega
    have hmb : m ≤ 200000 := by omega
    clear h hp ihx ihy hpx hpy hm
    go_enter Try.func74, Try.ntmps74
    go_wp2_with fail
    refine HY.out.mono ?_
    rintro e w' ⟨rfl, rfl⟩
    go_wp2_with fail
    refine HB.out.mono ?_
    rintro e w' ⟨rfl, rfl⟩
    go_wp2_with fail
    refine HX.out.mono ?_
    rintro e w' ⟨rfl, rfl⟩
    cases hx : freeT x with
    | false =>
      have HE : Hid (freeT (.cat x y) = false) := Lib.hid (by simp [freeT, hx])
      go_wp2_with fail
      go_ret
      exact ⟨ret_bool HE.out.symm, rfl⟩
    | true =>
      have HE : Hid (freeT (.cat x y) = freeT y) := Lib.hid (by simp [freeT, hx])
      go_wp2_with fail
      go_ret
      exact ⟨ret_bool HE.out.symm, rfl⟩
  | alt x y ihx ihy =>
    intro i base hp
    obtain ⟨b, off, rfl, hin, c0⟩ := step_at h hp
    replace c0 : w.cell? ⟨b, off + i * 5, none⟩ = some (.int .i64 4) := c0
    obtain ⟨h1, hpy, h2, hpx⟩ := hp.last2 (k := 4) rfl
    have HY := Lib.hid (ihy (i - 1) _ hpy)
    have HB := Lib.hid (rbegin_any w _ n c l h hn y (i - 1) _ hpy)
    have HX := Lib.hid (ihx _ _ hpx)
    have hp1 := post_pos y
    have z1 : (i : Int) < (n : Int) := by omega
    have z0 : (0 : Int) ≤ (i : Int) := by omega
    obtain ⟨j, rfl⟩ : ∃ j, i = j + 1 := ⟨i - 1, by omega⟩
    rw [Nat.add_sub_cancel] at HY HB
    obtain ⟨m, hm⟩ : ∃ m, j + 1 - (post y).length = m + 1 := ⟨j + 1 - (post y).length - 1, by omega⟩
    rw [show j + 1 - (post y).length - 1 = m by omega] at HX
    rw [hm] at HB
    have z2 : (((j + 1 : Nat) : Int) - 1) = (j : Int) := by omega
    have z3 : ((j : Int) + 1 - 1) = (j : Int) := by omega
    have z4 : ((m : Int) + 1 - 1) = (m : Int) := by omega
    have hmb : m ≤ 200000 := by omega
    clear h hp ihx ihy hpx hpy hm
    go_enter Try.func74, Try.ntmps74
    go_wp2_with fail
    refine HY.out.mono ?_
    rintro e w' ⟨rfl, rfl⟩
    go_wp2_with fail
    refine HB.out.mono ?_
    rintro e w' ⟨rfl, rfl⟩
    go_wp2_with fail
    refine HX.out.mono ?_
    rintro e w' ⟨rfl, rfl⟩
    cases hx : freeT x with
    | true =>
      have HE : Hid (freeT (.alt x y) = true) := Lib.hid (by simp [freeT, hx])
      go_wp2_with fail
      go_ret
      exact ⟨ret_bool HE.out.symm, rfl⟩
    | false =>
      have HE : Hid (freeT (.alt x y) = freeT y) := Lib.hid (by simp [freeT, hx])
      go_wp2_with fail
      go_ret
      exact ⟨ret_bool HE.out.symm, rfl⟩
end Go.Proofs.Ytmkgipoljbiocaa
/- The spots with which spellings begin and end, and what follows: the document's. -/
namespace Go.Proofs.Ytmkgipoljbiocaa
open Go.RowKit
set_option linter.unusedVariables false

theorem own_lit {α : Type} {C : α → List Value} {k : Nat} (hk : ∀ o, (C o).length = k) (w : World) (base : Nat) (e : TypeId) (hb : base ≤ w.heap.size) (o : α) (cs : Array Value) (hcs : cs = (C o).toArray) : (w.alloc (.cells cs e)).ownsRow base e k (.slice (some ⟨w.heap.size, 0, none⟩) 1 1) 1 ([o].flatMap C) := by
  subst hcs
  refine ⟨by simp [hk], .inr ⟨w.heap.size, 1, (C o).toArray, rfl, hb, heap_alloc_new w _, Nat.le_refl _, by decide, by simp [hk], ?_⟩⟩
  simp [List.take_of_length_le, hk]
theorem PartAt.len {l : List Rx} {i base : Nat} {T : RxT} (h : PartAt l i base T) : (post T).length ≤ l.length := by
  obtain ⟨p, q, rfl, _, _⟩ := h
  simp only [List.length_append]; omega
/-- The spots with which spellings begin, or end. -/
def endsT (last : Bool) : RxT → Nat → List Int
  | .set _, base => [(base : Int)]
  | .empty, _ => []
  | .cat a b, base => if (last && !freeT b) = true then endsT last b (base + nSet a) else if (!last && !freeT a) = true then endsT last a base else endsT last a base ++ endsT last b (base + nSet a)
  | .alt a b, base => endsT last a base ++ endsT last b (base + nSet a)
  | .star a, base => endsT last a base
  | .plus a, base => endsT last a base
  | .opt a, base => endsT last a base
theorem endsT_len (last : Bool) : ∀ (T : RxT) (base : Nat), (endsT last T base).length ≤ nSet T := by
  intro T
  induction T with
  | set S => intro b; simp [endsT, nSet]
  | empty => intro b; simp [endsT, nSet]
  | cat a b iha ihb =>
    intro base
    have h1 := iha base
    have h2 := ihb (base + nSet a)
    simp only [endsT, nSet]
    split
    · omega
    · split
      · omega
      · rw [List.length_append]; omega
  | alt a b iha ihb =>
    intro base
    have h1 := iha base
    have h2 := ihb (base + nSet a)
    simp only [endsT, nSet, List.length_append]; omega
  | star a iha => intro base; exact iha base
  | plus a iha => intro base; exact iha base
  | opt a iha => intro base; exact iha base
set_option maxHeartbeats 4000000 in
theorem ends_any (a : Option Addr) (n c : Nat) (l : List Rx) (hn : n ≤ 100000) : ∀ (T : RxT) (w : World) (i base : Nat) (last : Bool), CRow rxC 5 w a n l → PartAt l i base T →
    Calls Try.prog 61 #[.slice a n c, .int .i64 (i : Int), .bool last] w (Giv 3 1 intC w (endsT last T base)) := by
  intro T
  induction T with
  | set S =>
    intro w i base last h hp
    obtain ⟨b, off, hA, hin, c0⟩ := step_at h hp
    replace c0 : w.cell? ⟨b, off + i * 5, none⟩ = some (.int .i64 1) := c0
    have HN := Lib.hid (number_any w a n c l i h (by omega) hn)
    rw [hp.base rfl] at HN
    have HO := Lib.hid (own_lit intC_len w w.heap.size 3 (Nat.le_refl _) (base : Int) #[.int .i64 (base : Int)] rfl)
    have z1 : (i : Int) < (n : Int) := by omega
    have z0 : (0 : Int) ≤ (i : Int) := by omega
    subst hA
    have HE : Hid (endsT last (.set S) base = [(base : Int)]) := Lib.hid rfl
    unfold Giv
    clear h hp
    go_enter Try.func61, Try.ntmps61
    go_wp2_with (go_at_call 72; refine HN.out.mono ?_; rintro e w' ⟨rfl, rfl⟩)
    go_ret
    rw [HE.out]
    exact Giv.mk rfl HO.out ((Below.refl _ _).alloc (Nat.le_refl _) _)
  | empty =>
    intro w i base last h hp
    obtain ⟨b, off, hA, hin, c0⟩ := step_at h hp
    replace c0 : w.cell? ⟨b, off + i * 5, none⟩ = some (.int .i64 2) := c0
    have HO := Lib.hid (own_zero w w.heap.size 3 1 (Nat.le_refl _))
    have z1 : (i : Int) < (n : Int) := by omega
    have z0 : (0 : Int) ≤ (i : Int) := by omega
    subst hA
    have HE : Hid (endsT last .empty base = []) := Lib.hid rfl
    unfold Giv
    clear h hp
    go_enter Try.func61, Try.ntmps61
    go_wp2_with fail
    go_ret
    rw [HE.out]
    exact Giv.mk rfl HO.out ((Below.refl _ _).alloc (Nat.le_refl _) _)
  | cat x y ihx ihy =>
    intro w i base last h hp
    obtain ⟨b, off, hA, hin, c0⟩ := step_at h hp
    replace c0 : w.cell? ⟨b, off + i * 5, none⟩ = some (.int .i64 3) := c0
    obtain ⟨h1, hpy, h2, hpx⟩ := hp.last2 (k := 3) rfl
    have HY := Lib.hid (ihy w (i - 1) _ last h hpy)
    have HB := Lib.hid fun w h => rbegin_any w a n c l h hn y (i - 1) _ hpy
    have HX := Lib.hid fun w h => ihx w _ _ last h hpx
    have HFY := Lib.hid fun w h => free_any w a n c l h hn y (i - 1) _ hpy
    have HFX := Lib.hid fun w h => free_any w a n c l h hn x _ _ hpx
    have hp1 := post_pos y
    have hlx := endsT_len last x base
    have hly := endsT_len last y (base + nSet x)
    have hnx := nSet_le x
    have hny := nSet_le y
    have hpl := hp.len
    have hl1 := h.1
    have HH := Lib.hid h
    have z1 : (i : Int) < (n : Int) := by omega
    have z0 : (0 : Int) ≤ (i : Int) := by omega
    have hlen : (post (.cat x y)).length = (post x).length + ((post y).length + 1) := by simp [post]
    obtain ⟨j, rfl⟩ : ∃ j, i = j + 1 := ⟨i - 1, by omega⟩
    rw [Nat.add_sub_cancel] at HY HB HFY
    obtain ⟨m, hm⟩ : ∃ m, j + 1 - (post y).length = m + 1 := ⟨j + 1 - (post y).length - 1, by omega⟩
    rw [show j + 1 - (post y).length - 1 = m by omega] at HX HFX
    rw [hm] at HB
    have z2 : (((j + 1 : Nat) : Int) - 1) = (j : Int) := by omega
    have z3 : ((j : Int) + 1 - 1) = (j : Int) := by omega
    have z4 : ((m : Int) + 1 - 1) = (m : Int) := by omega
    have hmb : m ≤ 200000 := by omega
    have HLE : Hid ((endsT last x base).length + (endsT last y (base + nSet x)).length ≤ 200000) := Lib.hid (by omega)
    obtain ⟨ex, hex⟩ : ∃ e, endsT last x base = e := ⟨_, rfl⟩
    obtain ⟨ey, hey⟩ : ∃ e, endsT last y (base + nSet x) = e := ⟨_, rfl⟩
    rw [hex] at HX HLE
    rw [hey] at HY HLE
    have HEE : Hid (endsT last (.cat x y) base = if (last && !freeT y) = true then ey else if (!last && !freeT x) = true then ex else ex ++ ey) := Lib.hid (by simp only [endsT]; rw [hex, hey])
    subst hA
    unfold Giv
    clear h hp ihx ihy hpx hpy hm hlx hly hnx hny hpl hex hey hl1 hlen
    go_enter Try.func61, Try.ntmps61
    go_wp2_with fail
    refine HY.out.mono ?_
    rintro e w2 ⟨A2, c2, rfl, ho2, hb2⟩
    have HO2 := Lib.hid ho2
    have HB2 := Lib.hid hb2
    have hg2 := hb2.size
    have HH2 := Lib.hid (HH.out.below hb2)
    clear ho2 hb2
    go_wp2_with fail
    refine (HB.out _ HH2.out).mono ?_
    rintro e w' ⟨rfl, rfl⟩
    go_wp2_with fail
    refine (HX.out _ HH2.out).mono ?_
    rintro e w3 ⟨A3, c3, rfl, ho3, hb3⟩
    have HO3 := Lib.hid (own_mono ho3 hg2)
    have HO23 := Lib.hid (ownB HO2.out hb3)
    have HB3 := Lib.hid (HB2.out.trans (hb3.mono hg2))
    have HH3 := Lib.hid (HH2.out.below hb3)
    have hg3 := HB3.out.size
    clear ho3 hb3
    cases last with
    | true =>
      cases hy : freeT y with
      | false =>
        have HE : Hid (endsT true (.cat x y) base = ey) := Lib.hid (by rw [HEE.out, hy]; rfl)
        rw [hy] at HFY
        go_wp2_with (go_at_call 74; refine (HFY.out _ HH3.out).mono ?_; rintro e w' ⟨rfl, rfl⟩)
        go_ret
        rw [HE.out]
        exact Giv.mk rfl HO23.out HB3.out
      | true =>
        have HE : Hid (endsT true (.cat x y) base = ex ++ ey) := Lib.hid (by rw [HEE.out, hy]; rfl)
        rw [hy] at HFY
        have HAP := Lib.hid (app_ints (c := c2) HO3.out (own_row intC_len HO23.out) (by have := HLE.out; omega) hg3)
        go_wp2_with (first | (at_builtin; refine HAP.out _ _ _ _ _ rfl _ _ rfl rfl rfl ?_; intro v4 w4 hown4 hgrow hat; have HO4 := Lib.hid hown4; have HB4 := Lib.hid (below_grown HB3.out hg3 hgrow (fun j hj => (own_ge HO3.out hj).1)); have HF4 := Lib.hid (own_form hown4); clear hown4 hgrow hat; obtain ⟨A4, c4, rfl, hle4, hcc4⟩ := HF4.out; clear HF4) | (go_at_call 74; refine (HFY.out _ HH3.out).mono ?_; rintro e w' ⟨rfl, rfl⟩))
        go_ret
        rw [HE.out]
        exact Giv.mk (by simp) HO4.out HB4.out
    | false =>
      cases hx : freeT x with
      | false =>
        have HE : Hid (endsT false (.cat x y) base = ex) := Lib.hid (by rw [HEE.out, hx]; rfl)
        rw [hx] at HFX
        go_wp2_with (go_at_call 74; refine (HFX.out _ HH3.out).mono ?_; rintro e w' ⟨rfl, rfl⟩)
        go_ret
        rw [HE.out]
        exact Giv.mk rfl HO3.out HB3.out
      | true =>
        have HE : Hid (endsT false (.cat x y) base = ex ++ ey) := Lib.hid (by rw [HEE.out, hx]; rfl)
        rw [hx] at HFX
        have HAP := Lib.hid (app_ints (c := c2) HO3.out (own_row intC_len HO23.out) (by have := HLE.out; omega) hg3)
        go_wp2_with (first | (at_builtin; refine HAP.out _ _ _ _ _ rfl _ _ rfl rfl rfl ?_; intro v4 w4 hown4 hgrow hat; have HO4 := Lib.hid hown4; have HB4 := Lib.hid (below_grown HB3.out hg3 hgrow (fun j hj => (own_ge HO3.out hj).1)); have HF4 := Lib.hid (own_form hown4); clear hown4 hgrow hat; obtain ⟨A4, c4, rfl, hle4, hcc4⟩ := HF4.out; clear HF4) | (go_at_call 74; refine (HFX.out _ HH3.out).mono ?_; rintro e w' ⟨rfl, rfl⟩))
        go_ret
        rw [HE.out]
        exact Giv.mk (by simp) HO4.out HB4.out
  | alt x y ihx ihy =>
    intro w i base last h hp
    obtain ⟨b, off, hA, hin, c0⟩ := step_at h hp
    replace c0 : w.cell? ⟨b, off + i * 5, none⟩ = some (.int .i64 4) := c0
    obtain ⟨h1, hpy, h2, hpx⟩ := hp.last2 (k := 4) rfl
    have HY := Lib.hid (ihy w (i - 1) _ last h hpy)
    have HB := Lib.hid fun w h => rbegin_any w a n c l h hn y (i - 1) _ hpy
    have HX := Lib.hid fun w h => ihx w _ _ last h hpx
    have hp1 := post_pos y
    have hlx := endsT_len last x base
    have hly := endsT_len last y (base + nSet x)
    have hnx := nSet_le x
    have hny := nSet_le y
    have hpl := hp.len
    have hl1 := h.1
    have HH := Lib.hid h
    have z1 : (i : Int) < (n : Int) := by omega
    have z0 : (0 : Int) ≤ (i : Int) := by omega
    have hlen : (post (.alt x y)).length = (post x).length + ((post y).length + 1) := by simp [post]
    obtain ⟨j, rfl⟩ : ∃ j, i = j + 1 := ⟨i - 1, by omega⟩
    rw [Nat.add_sub_cancel] at HY HB
    obtain ⟨m, hm⟩ : ∃ m, j + 1 - (post y).length = m + 1 := ⟨j + 1 - (post y).length - 1, by omega⟩
    rw [show j + 1 - (post y).length - 1 = m by omega] at HX
    rw [hm] at HB
    have z2 : (((j + 1 : Nat) : Int) - 1) = (j : Int) := by omega
    have z3 : ((j : Int) + 1 - 1) = (j : Int) := by omega
    have z4 : ((m : Int) + 1 - 1) = (m : Int) := by omega
    have hmb : m ≤ 200000 := by omega
    have HLE : Hid ((endsT last x base).length + (endsT last y (base + nSet x)).length ≤ 200000) := Lib.hid (by omega)
    obtain ⟨ex, hex⟩ : ∃ e, endsT last x base = e := ⟨_, rfl⟩
    obtain ⟨ey, hey⟩ : ∃ e, endsT last y (base + nSet x) = e := ⟨_, rfl⟩
    rw [hex] at HX HLE
    rw [hey] at HY HLE
    have HEE : Hid (endsT last (.alt x y) base = ex ++ ey) := Lib.hid (by simp only [endsT]; rw [hex, hey])
    subst hA
    unfold Giv
    clear h hp ihx ihy hpx hpy hm hlx hly hnx hny hpl hex hey hl1 hlen
    go_enter Try.func61, Try.ntmps61
    go_wp2_with fail
    refine HY.out.mono ?_
    rintro e w2 ⟨A2, c2, rfl, ho2, hb2⟩
    have HO2 := Lib.hid ho2
    have HB2 := Lib.hid hb2
    have hg2 := hb2.size
    have HH2 := Lib.hid (HH.out.below hb2)
    clear ho2 hb2
    go_wp2_with fail
    refine (HB.out _ HH2.out).mono ?_
    rintro e w' ⟨rfl, rfl⟩
    go_wp2_with fail
    refine (HX.out _ HH2.out).mono ?_
    rintro e w3 ⟨A3, c3, rfl, ho3, hb3⟩
    have HO3 := Lib.hid (own_mono ho3 hg2)
    have HO23 := Lib.hid (ownB HO2.out hb3)
    have HB3 := Lib.hid (HB2.out.trans (hb3.mono hg2))
    have HH3 := Lib.hid (HH2.out.below hb3)
    have hg3 := HB3.out.size
    clear ho3 hb3
    have HAP := Lib.hid (app_ints (c := c2) HO3.out (own_row intC_len HO23.out) (by have := HLE.out; omega) hg3)
    go_wp2_with (first | (at_builtin; refine HAP.out _ _ _ _ _ rfl _ _ rfl rfl rfl ?_; intro v4 w4 hown4 hgrow hat; have HO4 := Lib.hid hown4; have HB4 := Lib.hid (below_grown HB3.out hg3 hgrow (fun j hj => (own_ge HO3.out hj).1)); have HF4 := Lib.hid (own_form hown4); clear hown4 hgrow hat; obtain ⟨A4, c4, rfl, hle4, hcc4⟩ := HF4.out; clear HF4))
    go_ret
    rw [HEE.out]
    exact Giv.mk (by simp) HO4.out HB4.out
  | star x ihx =>
    intro w i base last h hp
    obtain ⟨b, off, hA, hin, c0⟩ := step_at h hp
    replace c0 : w.cell? ⟨b, off + i * 5, none⟩ = some (.int .i64 5) := c0
    obtain ⟨h1, hpx⟩ := hp.last1 (k := 5) rfl
    have HX := Lib.hid (ihx w (i - 1) base last h hpx)
    have z1 : (i : Int) < (n : Int) := by omega
    have z0 : (0 : Int) ≤ (i : Int) := by omega
    obtain ⟨j, rfl⟩ : ∃ j, i = j + 1 := ⟨i - 1, by omega⟩
    rw [Nat.add_sub_cancel] at HX
    have z2 : (((j + 1 : Nat) : Int) - 1) = (j : Int) := by omega
    have z3 : ((j : Int) + 1 - 1) = (j : Int) := by omega
    have HE : Hid (endsT last (.star x) base = endsT last x base) := Lib.hid rfl
    subst hA
    unfold Giv
    clear h hp ihx hpx
    go_enter Try.func61, Try.ntmps61
    go_wp2_with fail
    refine HX.out.mono ?_
    rintro e w2 ⟨A2, c2, rfl, ho2, hb2⟩
    have HO2 := Lib.hid ho2
    have HB2 := Lib.hid hb2
    clear ho2 hb2
    go_wp2_with fail
    go_ret
    rw [HE.out]
    exact Giv.mk rfl HO2.out HB2.out
  | plus x ihx =>
    intro w i base last h hp
    obtain ⟨b, off, hA, hin, c0⟩ := step_at h hp
    replace c0 : w.cell? ⟨b, off + i * 5, none⟩ = some (.int .i64 6) := c0
    obtain ⟨h1, hpx⟩ := hp.last1 (k := 6) rfl
    have HX := Lib.hid (ihx w (i - 1) base last h hpx)
    have z1 : (i : Int) < (n : Int) := by omega
    have z0 : (0 : Int) ≤ (i : Int) := by omega
    obtain ⟨j, rfl⟩ : ∃ j, i = j + 1 := ⟨i - 1, by omega⟩
    rw [Nat.add_sub_cancel] at HX
    have z2 : (((j + 1 : Nat) : Int) - 1) = (j : Int) := by omega
    have z3 : ((j : Int) + 1 - 1) = (j : Int) := by omega
    have HE : Hid (endsT last (.plus x) base = endsT last x base) := Lib.hid rfl
    subst hA
    unfold Giv
    clear h hp ihx hpx
    go_enter Try.func61, Try.ntmps61
    go_wp2_with fail
    refine HX.out.mono ?_
    rintro e w2 ⟨A2, c2, rfl, ho2, hb2⟩
    have HO2 := Lib.hid ho2
    have HB2 := Lib.hid hb2
    clear ho2 hb2
    go_wp2_with fail
    go_ret
    rw [HE.out]
    exact Giv.mk rfl HO2.out HB2.out
  | opt x ihx =>
    intro w i base last h hp
    obtain ⟨b, off, hA, hin, c0⟩ := step_at h hp
    replace c0 : w.cell? ⟨b, off + i * 5, none⟩ = some (.int .i64 7) := c0
    obtain ⟨h1, hpx⟩ := hp.last1 (k := 7) rfl
    have HX := Lib.hid (ihx w (i - 1) base last h hpx)
    have z1 : (i : Int) < (n : Int) := by omega
    have z0 : (0 : Int) ≤ (i : Int) := by omega
    obtain ⟨j, rfl⟩ : ∃ j, i = j + 1 := ⟨i - 1, by omega⟩
    rw [Nat.add_sub_cancel] at HX
    have z2 : (((j + 1 : Nat) : Int) - 1) = (j : Int) := by omega
    have z3 : ((j : Int) + 1 - 1) = (j : Int) := by omega
    have HE : Hid (endsT last (.opt x) base = endsT last x base) := Lib.hid rfl
    subst hA
    unfold Giv
    clear h hp ihx hpx
    go_enter Try.func61, Try.ntmps61
    go_wp2_with fail
    refine HX.out.mono ?_
    rintro e w2 ⟨A2, c2, rfl, ho2, hb2⟩
    have HO2 := Lib.hid ho2
    have HB2 := Lib.hid hb2
    clear ho2 hb2
    go_wp2_with fail
    go_ret
    rw [HE.out]
    exact Giv.mk rfl HO2.out HB2.out
theorem rhas10_any (w : World) (a : Option Addr) (n c : Nat) (xs : List Int) (z : Int) (h : CRow intC 1 w a n xs) :
    Calls Try.prog 75 #[.slice a n c, .int .i64 z] w fun e w' => e = .returned (.bool (xs.contains z)) ∧ w = w' := by
  have hl1 := Lib.hid h.1
  have hl2 := h.2.1
  have HH := Lib.hid h
  obtain ⟨r, hr⟩ : ∃ r, xs.contains z = r := ⟨_, rfl⟩
  have HR := Lib.hid hr
  rw [hr]
  clear h hr
  go_enter Try.func75, Try.ntmps75
  go_wp2
  go_loop [5] (fun i => ∃ k : Nat, k ≤ n ∧ i = .int .i64 (k : Int) ∧ z ∉ xs.take k) (fun i => n - (intOf i).toNat)
  case atStart => exact ⟨0, by omega, rfl, by simp⟩
  case round =>
    obtain ⟨k, hk, rfl, hno⟩ := hrel
    have HN := Lib.hid hno
    clear hno
    by_cases hlt : k < n
    · obtain ⟨b, off, y, rfl, hb, hy, hc⟩ := HH.out.int hlt
      have h0 : (0 : Int) ≤ (k : Int) := by omega
      have h1 : (k : Int) < (n : Int) := by omega
      have HY := Lib.hid hy
      clear hy
      by_cases he : y = z
      · subst he
        have HE : Hid (r = true) := Lib.hid (by rw [← HR.out]; simpa using List.mem_of_getElem? HY.out)
        go_wp2
        go_ret
        exact ⟨ret_bool HE.out.symm, rfl⟩
      · have e1 : (y == z) = false := by simpa using he
        have HE : Hid (z ∉ xs.take (k + 1)) := Lib.hid (by rw [take_snoc HY.out, List.mem_append, List.mem_singleton]; intro h; rcases h with h | h; exact HN.out h; exact he h.symm)
        clear he
        go_wp2
        go_round
        case rel => exact ⟨k + 1, by omega, by go_num, HE.out⟩
        case measure => simp [intOf]; omega
    · have hk2 : k = n := by omega
      have HE : Hid (r = false) := Lib.hid (by
        rw [← HR.out, Bool.eq_false_iff]
        intro h
        have := HN.out
        rw [hk2, List.take_of_length_le (by rw [hl1.out]; exact Nat.le_refl _)] at this
        exact this (by simpa using h))
      subst hk2
      go_wp2
      go_ret
      exact ⟨ret_bool HE.out.symm, rfl⟩
end Go.Proofs.Ytmkgipoljbiocaa
/- Which spots follow which; sets, first and last spots: the document's. -/
namespace Go.Proofs.Ytmkgipoljbiocaa
open Go.RowKit
set_option linter.unusedVariables false

def condTop (base : Nat) : RxT → Int → Int → Bool
  | .star a, x, y => (endsT true a base).contains x && (endsT false a base).contains y
  | .plus a, x, y => (endsT true a base).contains x && (endsT false a base).contains y
  | .cat a b, x, y => (endsT true a base).contains x && (endsT false b (base + nSet a)).contains y
  | _, _, _ => false
/-- May a spot stand behind another one? -/
def followsT (T : RxT) (x y : Int) : Bool := (partsT 0 T).any fun p => condTop p.1 p.2 x y
theorem any_take {α : Type} {l : List α} {p : α → Bool} {k : Nat} {z : α} (h : l[k]? = some z) (h0 : (l.take k).any p = false) : (l.take (k + 1)).any p = p z := by
  rw [take_snoc h, List.any_append, h0]; simp
set_option maxHeartbeats 4000000 in
theorem follows_any (w : World) (a : Option Addr) (n c : Nat) (T : RxT) (x y : Int) (h : CRow rxC 5 w a n (post T)) (hn : n ≤ 100000) :
    Calls Try.prog 62 #[.slice a n c, .int .i64 x, .int .i64 y] w fun e w' => e = .returned (.bool (followsT T x y)) ∧ Below w.heap.size w w' := by
  have HL := Lib.hid h.1
  have HH := Lib.hid h
  obtain ⟨r, hr⟩ : ∃ r, followsT T x y = r := ⟨_, rfl⟩
  have HR := Lib.hid hr
  rw [hr]
  have hpos := post_pos T
  obtain ⟨b1, off1, rfl⟩ : ∃ b off, a = some ⟨b, off, none⟩ := by
    obtain ⟨b, off, _, ha, _⟩ := h.kind (k := 0) (by rw [← h.1]; exact hpos)
    exact ⟨b, off, ha⟩
  clear h hr hpos
  go_enter Try.func62, Try.ntmps62
  go_wp2_with fail
  go_loopw [7] (fun i wr => ∃ k : Nat, k ≤ n ∧ i = .int .i64 (k : Int) ∧ ((partsT 0 T).take k).any (fun p => condTop p.1 p.2 x y) = false ∧ Below w.heap.size w wr) (fun i _ => n - (intOf i).toNat)
  case atStart => exact ⟨0, by omega, rfl, rfl, Below.refl _ _⟩
  case round =>
    obtain ⟨k, hk, rfl, hany, hb⟩ := hrel
    have HAN := Lib.hid hany
    have HB := Lib.hid hb
    have hgl := hb.size
    have HHR := Lib.hid (HH.out.below hb)
    clear hany hb
    by_cases hlt : k < n
    case neg =>
      have hk2 : k = n := by omega
      have HE : Hid (r = false) := Lib.hid (by
        rw [← HR.out]; unfold followsT
        have := HAN.out
        rwa [List.take_of_length_le (by rw [partsT_len, HL.out]; omega)] at this)
      have z1 : ¬ (k : Int) < (n : Int) := by omega
      clear hk2
      go_wp2_with fail
      go_ret
      exact ⟨ret_bool HE.out.symm, HB.out⟩
    case pos =>
      have z1 : (k : Int) < (n : Int) := by omega
      have z0 : (0 : Int) ≤ (k : Int) := by omega
      have hkp : k < (partsT 0 T).length := by rw [partsT_len, HL.out]; exact hlt
      obtain ⟨⟨bs, T2⟩, hP⟩ : ∃ p, (partsT 0 T)[k]? = some p := ⟨_, List.getElem?_eq_getElem hkp⟩
      have HP := Lib.hid hP
      obtain ⟨bs', hbs, hp⟩ := parts_at T 0 k _ hP
      dsimp only at hbs hp
      rw [Nat.zero_add] at hbs
      subst hbs
      have HNX := Lib.hid (any_take (p := fun p => condTop p.1 p.2 x y) HP.out HAN.out)
      obtain ⟨b1', off1', hA', hin, c0⟩ := step_at HHR.out hp
      simp only [Option.some.injEq, Addr.mk.injEq, and_true] at hA'
      obtain ⟨rfl, rfl⟩ := hA'
      clear hP
      cases T2 with
        | set S =>
          replace c0 : wr.cell? ⟨b1, off1 + k * 5, none⟩ = some (.int .i64 1) := c0
          have HNO : Hid (((partsT 0 T).take (k + 1)).any (fun p => condTop p.1 p.2 x y) = false) := Lib.hid (by rw [HNX.out]; rfl)
          clear HNX hp
          go_wp2_with fail
          go_roundw
          case rel => exact ⟨k + 1, by omega, by go_num, HNO.out, HB.out⟩
          case measure => simp [intOf]; omega
        | empty =>
          replace c0 : wr.cell? ⟨b1, off1 + k * 5, none⟩ = some (.int .i64 2) := c0
          have HNO : Hid (((partsT 0 T).take (k + 1)).any (fun p => condTop p.1 p.2 x y) = false) := Lib.hid (by rw [HNX.out]; rfl)
          clear HNX hp
          go_wp2_with fail
          go_roundw
          case rel => exact ⟨k + 1, by omega, by go_num, HNO.out, HB.out⟩
          case measure => simp [intOf]; omega
        | alt a2 b2 =>
          replace c0 : wr.cell? ⟨b1, off1 + k * 5, none⟩ = some (.int .i64 4) := c0
          have HNO : Hid (((partsT 0 T).take (k + 1)).any (fun p => condTop p.1 p.2 x y) = false) := Lib.hid (by rw [HNX.out]; rfl)
          clear HNX hp
          go_wp2_with fail
          go_roundw
          case rel => exact ⟨k + 1, by omega, by go_num, HNO.out, HB.out⟩
          case measure => simp [intOf]; omega
        | opt a2 =>
          replace c0 : wr.cell? ⟨b1, off1 + k * 5, none⟩ = some (.int .i64 7) := c0
          have HNO : Hid (((partsT 0 T).take (k + 1)).any (fun p => condTop p.1 p.2 x y) = false) := Lib.hid (by rw [HNX.out]; rfl)
          clear HNX hp
          go_wp2_with fail
          go_roundw
          case rel => exact ⟨k + 1, by omega, by go_num, HNO.out, HB.out⟩
          case measure => simp [intOf]; omega
        | star a2 =>
          replace c0 : wr.cell? ⟨b1, off1 + k * 5, none⟩ = some (.int .i64 5) := c0
          obtain ⟨h1k, hpa⟩ := hp.last1 (k := 5) rfl
          have H1 := Lib.hid fun w h => ends_any (some ⟨b1, off1, none⟩) n c (post T) hn a2 w (k - 1) bs true h hpa
          have H2 := Lib.hid fun w h => ends_any (some ⟨b1, off1, none⟩) n c (post T) hn a2 w (k - 1) bs false h hpa
          obtain ⟨m, rfl⟩ : ∃ m, k = m + 1 := ⟨k - 1, by omega⟩
          rw [Nat.add_sub_cancel] at H1 H2
          have z4 : ((m : Int) + 1 - 1) = (m : Int) := by omega
          have z5 : (((m + 1 : Nat) : Int) - 1) = (m : Int) := by omega
          obtain ⟨e1, he1⟩ : ∃ e, endsT true a2 bs = e := ⟨_, rfl⟩
          obtain ⟨e2, he2⟩ : ∃ e, endsT false a2 bs = e := ⟨_, rfl⟩
          rw [he1] at H1
          rw [he2] at H2
          have HCT : Hid (condTop bs (.star a2) x y = (e1.contains x && e2.contains y)) := Lib.hid (by simp only [condTop]; rw [he1, he2])
          clear hp he1 he2
          go_wp2_with fail
          refine (H1.out _ HHR.out).mono ?_
          rintro e w2 ⟨A2, c2, rfl, ho2, hb2⟩
          have HO2 := Lib.hid ho2
          have HB2 := Lib.hid (HB.out.trans (hb2.mono hgl))
          have hg2 : w.heap.size ≤ w2.heap.size := by have := hb2.size; omega
          have HH2 := Lib.hid (HHR.out.below hb2)
          clear ho2 hb2
          go_wp2_with fail
          refine (rhas10_any _ _ _ _ _ _ (own_row intC_len HO2.out)).mono ?_
          rintro e w' ⟨rfl, rfl⟩
          cases hx : e1.contains x with
          | false =>
            have HNO : Hid (((partsT 0 T).take (m + 1 + 1)).any (fun p => condTop p.1 p.2 x y) = false) := Lib.hid (by rw [HNX.out, HCT.out, hx]; rfl)
            clear hx HNX
            go_wp2_with fail
            go_roundw
            case rel => exact ⟨m + 1 + 1, by omega, by go_num, HNO.out, HB2.out⟩
            case measure => simp [intOf]; omega
          | true =>
            go_wp2_with fail
            refine (H2.out _ HH2.out).mono ?_
            rintro e w3 ⟨A3, c3, rfl, ho3, hb3⟩
            have HO3 := Lib.hid ho3
            have HB3 := Lib.hid (HB2.out.trans (hb3.mono hg2))
            clear ho3 hb3
            go_wp2_with fail
            refine (rhas10_any _ _ _ _ _ _ (own_row intC_len HO3.out)).mono ?_
            rintro e w' ⟨rfl, rfl⟩
            cases hy : e2.contains y with
            | false =>
              have HNO : Hid (((partsT 0 T).take (m + 1 + 1)).any (fun p => condTop p.1 p.2 x y) = false) := Lib.hid (by rw [HNX.out, HCT.out, hx, hy]; rfl)
              clear hx hy HNX
              go_wp2_with fail
              go_roundw
              case rel => exact ⟨m + 1 + 1, by omega, by go_num, HNO.out, HB3.out⟩
              case measure => simp [intOf]; omega
            | true =>
              have HYE : Hid (r = true) := Lib.hid (by
                rw [← HR.out]; unfold followsT
                rw [List.any_eq_true]
                exact ⟨_, List.mem_of_getElem? HP.out, by show condTop bs _ x y = true; rw [HCT.out, hx, hy]; rfl⟩)
              clear hx hy HNX
              go_wp2_with fail
              go_ret
              exact ⟨ret_bool HYE.out.symm, HB3.out⟩
        | plus a2 =>
          replace c0 : wr.cell? ⟨b1, off1 + k * 5, none⟩ = some (.int .i64 6) := c0
          obtain ⟨h1k, hpa⟩ := hp.last1 (k := 6) rfl
          have H1 := Lib.hid fun w h => ends_any (some ⟨b1, off1, none⟩) n c (post T) hn a2 w (k - 1) bs true h hpa
          have H2 := Lib.hid fun w h => ends_any (some ⟨b1, off1, none⟩) n c (post T) hn a2 w (k - 1) bs false h hpa
          obtain ⟨m, rfl⟩ : ∃ m, k = m + 1 := ⟨k - 1, by omega⟩
          rw [Nat.add_sub_cancel] at H1 H2
          have z4 : ((m : Int) + 1 - 1) = (m : Int) := by omega
          have z5 : (((m + 1 : Nat) : Int) - 1) = (m : Int) := by omega
          obtain ⟨e1, he1⟩ : ∃ e, endsT true a2 bs = e := ⟨_, rfl⟩
          obtain ⟨e2, he2⟩ : ∃ e, endsT false a2 bs = e := ⟨_, rfl⟩
          rw [he1] at H1
          rw [he2] at H2
          have HCT : Hid (condTop bs (.plus a2) x y = (e1.contains x && e2.contains y)) := Lib.hid (by simp only [condTop]; rw [he1, he2])
          clear hp he1 he2
          go_wp2_with fail
          refine (H1.out _ HHR.out).mono ?_
          rintro e w2 ⟨A2, c2, rfl, ho2, hb2⟩
          have HO2 := Lib.hid ho2
          have HB2 := Lib.hid (HB.out.trans (hb2.mono hgl))
          have hg2 : w.heap.size ≤ w2.heap.size := by have := hb2.size; omega
          have HH2 := Lib.hid (HHR.out.below hb2)
          clear ho2 hb2
          go_wp2_with fail
          refine (rhas10_any _ _ _ _ _ _ (own_row intC_len HO2.out)).mono ?_
          rintro e w' ⟨rfl, rfl⟩
          cases hx : e1.contains x with
          | false =>
            have HNO : Hid (((partsT 0 T).take (m + 1 + 1)).any (fun p => condTop p.1 p.2 x y) = false) := Lib.hid (by rw [HNX.out, HCT.out, hx]; rfl)
            clear hx HNX
            go_wp2_with fail
            go_roundw
            case rel => exact ⟨m + 1 + 1, by omega, by go_num, HNO.out, HB2.out⟩
            case measure => simp [intOf]; omega
          | true =>
            go_wp2_with fail
            refine (H2.out _ HH2.out).mono ?_
            rintro e w3 ⟨A3, c3, rfl, ho3, hb3⟩
            have HO3 := Lib.hid ho3
            have HB3 := Lib.hid (HB2.out.trans (hb3.mono hg2))
            clear ho3 hb3
            go_wp2_with fail
            refine (rhas10_any _ _ _ _ _ _ (own_row intC_len HO3.out)).mono ?_
            rintro e w' ⟨rfl, rfl⟩
            cases hy : e2.contains y with
            | false =>
              have HNO : Hid (((partsT 0 T).take (m + 1 + 1)).any (fun p => condTop p.1 p.2 x y) = false) := Lib.hid (by rw [HNX.out, HCT.out, hx, hy]; rfl)
              clear hx hy HNX
              go_wp2_with fail
              go_roundw
              case rel => exact ⟨m + 1 + 1, by omega, by go_num, HNO.out, HB3.out⟩
              case measure => simp [intOf]; omega
            | true =>
              have HYE : Hid (r = true) := Lib.hid (by
                rw [← HR.out]; unfold followsT
                rw [List.any_eq_true]
                exact ⟨_, List.mem_of_getElem? HP.out, by show condTop bs _ x y = true; rw [HCT.out, hx, hy]; rfl⟩)
              clear hx hy HNX
              go_wp2_with fail
              go_ret
              exact ⟨ret_bool HYE.out.symm, HB3.out⟩
        | cat a2 b2 =>
          replace c0 : wr.cell? ⟨b1, off1 + k * 5, none⟩ = some (.int .i64 3) := c0
          obtain ⟨h1k, hpb, h2k, hpa⟩ := hp.last2 (k := 3) rfl
          have H1 := Lib.hid fun w h => ends_any (some ⟨b1, off1, none⟩) n c (post T) hn a2 w _ bs true h hpa
          have H2 := Lib.hid fun w h => ends_any (some ⟨b1, off1, none⟩) n c (post T) hn b2 w (k - 1) _ false h hpb
          have HBG := Lib.hid fun w h => rbegin_any w (some ⟨b1, off1, none⟩) n c (post T) h hn b2 (k - 1) _ hpb
          have hpb1 := post_pos b2
          obtain ⟨m, rfl⟩ : ∃ m, k = m + 1 := ⟨k - 1, by omega⟩
          rw [Nat.add_sub_cancel] at H2 HBG
          have z4 : ((m : Int) + 1 - 1) = (m : Int) := by omega
          have z5 : (((m + 1 : Nat) : Int) - 1) = (m : Int) := by omega
          obtain ⟨q, hq⟩ : ∃ q, m + 1 - (post b2).length = q + 1 := ⟨m + 1 - (post b2).length - 1, by omega⟩
          rw [show m + 1 - (post b2).length - 1 = q by omega] at H1
          rw [hq] at HBG
          have z6 : ((q : Int) + 1 - 1) = (q : Int) := by omega
          have hqb : q ≤ 200000 := by omega
          clear hq
          obtain ⟨e1, he1⟩ : ∃ e, endsT true a2 bs = e := ⟨_, rfl⟩
          obtain ⟨e2, he2⟩ : ∃ e, endsT false b2 (bs + nSet a2) = e := ⟨_, rfl⟩
          rw [he1] at H1
          rw [he2] at H2
          have HCT : Hid (condTop bs (.cat a2 b2) x y = (e1.contains x && e2.contains y)) := Lib.hid (by simp only [condTop]; rw [he1, he2])
          clear hp he1 he2
          go_wp2_with fail
          refine (HBG.out _ HHR.out).mono ?_
          rintro e w' ⟨rfl, rfl⟩
          go_wp2_with fail
          refine (H1.out _ HHR.out).mono ?_
          rintro e w2 ⟨A2, c2, rfl, ho2, hb2⟩
          have HO2 := Lib.hid ho2
          have HB2 := Lib.hid (HB.out.trans (hb2.mono hgl))
          have hg2 : w.heap.size ≤ w2.heap.size := by have := hb2.size; omega
          have HH2 := Lib.hid (HHR.out.below hb2)
          clear ho2 hb2
          go_wp2_with fail
          refine (rhas10_any _ _ _ _ _ _ (own_row intC_len HO2.out)).mono ?_
          rintro e w' ⟨rfl, rfl⟩
          cases hx : e1.contains x with
          | false =>
            have HNO : Hid (((partsT 0 T).take (m + 1 + 1)).any (fun p => condTop p.1 p.2 x y) = false) := Lib.hid (by rw [HNX.out, HCT.out, hx]; rfl)
            clear hx HNX
            go_wp2_with fail
            go_roundw
            case rel => exact ⟨m + 1 + 1, by omega, by go_num, HNO.out, HB2.out⟩
            case measure => simp [intOf]; omega
          | true =>
            go_wp2_with fail
            refine (H2.out _ HH2.out).mono ?_
            rintro e w3 ⟨A3, c3, rfl, ho3, hb3⟩
            have HO3 := Lib.hid ho3
            have HB3 := Lib.hid (HB2.out.trans (hb3.mono hg2))
            clear ho3 hb3
            go_wp2_with fail
            refine (rhas10_any _ _ _ _ _ _ (own_row intC_len HO3.out)).mono ?_
            rintro e w' ⟨rfl, rfl⟩
            cases hy : e2.contains y with
            | false =>
              have HNO : Hid (((partsT 0 T).take (m + 1 + 1)).any (fun p => condTop p.1 p.2 x y) = false) := Lib.hid (by rw [HNX.out, HCT.out, hx, hy]; rfl)
              clear hx hy HNX
              go_wp2_with fail
              go_roundw
              case rel => exact ⟨m + 1 + 1, by omega, by go_num, HNO.out, HB3.out⟩
              case measure => simp [intOf]; omega
            | true =>
              have HYE : Hid (r = true) := Lib.hid (by
                rw [← HR.out]; unfold followsT
                rw [List.any_eq_true]
                exact ⟨_, List.mem_of_getElem? HP.out, by show condTop bs _ x y = true; rw [HCT.out, hx, hy]; rfl⟩)
              clear hx hy HNX
              go_wp2_with fail
              go_ret
              exact ⟨ret_bool HYE.out.symm, HB3.out⟩
/-! Of any steps. -/
/-- The sets of an expression's spots; none's, if it is none. -/
def setsL (o : Option RxT) : List (Nat → Bool) := match o with | some T => setsT T | none => []
def endsL (last : Bool) (o : Option RxT) : List Int := match o with | some T => endsT last T 0 | none => []
def folUp (T : RxT) (i k : Nat) : List Int := ((List.range k).filter fun (b : Nat) => followsT T (i : Int) (b : Int)).map fun (b : Nat) => (b : Int)
def folL (o : Option RxT) (i : Nat) : List Int := match o with | some T => folUp T i (nSet T) | none => []
/-- What steps are: an expression, or none. -/
def IsRx (w : World) (a : Option Addr) (n : Nat) : Option RxT → Prop
  | some T => CRow rxC 5 w a n (post T) ∧ chkR (post T) = 0
  | none => ∃ rs, CRow rxC 5 w a n rs ∧ chkR rs ≠ 0
theorem badR_cells {r s : Rx} (h : rxC r = rxC s) : badR r = badR s ∧ r.k = s.k := by
  unfold rxC at h
  simp only [List.cons.injEq, Value.int.injEq, true_and, and_true] at h
  obtain ⟨h0, h1, h2, h3, h4⟩ := h
  refine ⟨?_, h0⟩
  unfold badR zS
  rw [h0, h1, h2, h3, h4]
theorem wk_cells : ∀ (l m : List Rx), l.map rxC = m.map rxC → ∀ p q, wk l p q = wk m p q
  | [], [], _, _, _ => rfl
  | [], _ :: _, h, _, _ => by simp at h
  | _ :: _, [], h, _, _ => by simp at h
  | r :: l, s :: m, h, p, q => by
    simp only [List.map_cons, List.cons.injEq] at h
    obtain ⟨h1, h2⟩ := badR_cells h.1
    rw [wk, wk, h1, h2]
    simp only [wk_cells l m h.2]
theorem chk_cells {l m : List Rx} (h : l.map rxC = m.map rxC) : chkR l = chkR m := by
  have hl : l.length = m.length := by have := congrArg List.length h; simpa using this
  unfold chkR walkR
  rw [hl, wk_cells l m h]
theorem isRx_of {w : World} {a : Option Addr} {n : Nat} {rs : List Rx} (h : CRow rxC 5 w a n rs) : ∃ o, IsRx w a n o := by
  by_cases hc : chkR rs = 0
  · obtain ⟨_, T, hT⟩ := tree_of hc
    exact ⟨some T, crow_cells h hT, by rw [chk_cells hT, hc]⟩
  · exact ⟨none, rs, h, hc⟩
theorem IsRx.below {w w' : World} {a : Option Addr} {n : Nat} {o : Option RxT} (h : IsRx w a n o) (hb : Below w.heap.size w w') : IsRx w' a n o := by
  cases o with
  | some T => exact ⟨h.1.below hb, h.2⟩
  | none => obtain ⟨rs, h1, h2⟩ := h; exact ⟨rs, h1.below hb, h2⟩
/-- What Check says of it. -/
theorem IsRx.check {w : World} {a : Option Addr} {n : Nat} {o : Option RxT} (h : IsRx w a n o) (c : Nat) : ∃ e : Nat, (Calls Try.prog 60 #[.slice a n c] w fun x w' => x = .returned (.int .i64 (e : Nat)) ∧ w = w') ∧ (e = 0 ↔ o.isSome = true) := by
  cases o with
  | some T => exact ⟨chkR (post T), rcheck_any w a n c _ h.1, by rw [h.2]; simp⟩
  | none => obtain ⟨rs, h1, h2⟩ := h; exact ⟨chkR rs, rcheck_any w a n c _ h1, by simp [h2]⟩
theorem setC_flat (S : Nat → Bool) : ([.int .u64 (wd S 0), .int .u64 (wd S 1), .int .u64 (wd S 2), .int .u64 (wd S 3)] : List Value).length = 4 := rfl
def setC (S : Nat → Bool) : List Value := [.int .u64 (wd S 0), .int .u64 (wd S 1), .int .u64 (wd S 2), .int .u64 (wd S 3)]
theorem setC_len (S : Nat → Bool) : (setC S).length = 4 := rfl
theorem setC_one (S : Nat → Bool) : ∀ u ∈ setC S, u.oneCell' = true := fun u hu => by
  simp [setC] at hu
  rcases hu with rfl | rfl | rfl | rfl <;> rfl
theorem crow_srow {w : World} {a : Option Addr} {len : Nat} {ls : List (Nat → Bool)} (h : CRow setC 4 w a len ls) : SRow w a len ls := by
  obtain ⟨h1, h2, h3⟩ := h
  refine ⟨h1, h2, fun hp => ?_⟩
  obtain ⟨b, off, ha, hlt, hc⟩ := h3 hp
  refine ⟨b, off, ha, hlt, fun i S hi j hj => hc i S hi j _ ?_⟩
  have : j = 0 ∨ j = 1 ∨ j = 2 ∨ j = 3 := by omega
  rcases this with rfl | rfl | rfl | rfl <;> rfl
theorem sets_take {l : List Rx} {k : Nat} {r : Rx} (h : l[k]? = some r) : ((l.take (k + 1)).filter fun r => r.k == 1).map Rx.s = ((l.take k).filter fun r => r.k == 1).map Rx.s ++ if r.k = 1 then [r.s] else [] := by
  rw [take_snoc h, List.filter_append, List.map_append]
  congr 1
  by_cases hk : r.k = 1
  · rw [if_pos hk]; simp [hk]
  · rw [if_neg hk]; simp [hk]
set_option maxHeartbeats 2000000 in
theorem rsets_any (w : World) (a : Option Addr) (n c : Nat) (o : Option RxT) (h : IsRx w a n o) (hn : n ≤ 100000) :
    Calls Try.prog 43 #[.slice a n c] w (Giv 74 4 setC w (setsL o)) := by
  have HI := Lib.hid h
  have HO0 := Lib.hid (own_zero w w.heap.size 74 4 (Nat.le_refl _))
  have hb0 : Below w.heap.size w (w.alloc (.cells #[] 74)) := (Below.refl _ _).alloc (Nat.le_refl _) _
  have HB0 := Lib.hid hb0
  obtain ⟨e, hck, hek⟩ := (h.below hb0).check c
  have HCK := Lib.hid hck
  have HEK := Lib.hid hek
  obtain ⟨g, hg⟩ : ∃ g, w.heap.size = g := ⟨_, rfl⟩
  have HG := Lib.hid hg
  unfold Giv
  clear h hb0 hck hek
  cases o with
  | none =>
    have he : ((e : Int) != 0) = true := by rw [bne_iff_ne]; intro h; have := HEK.out.1 (by omega); simp at this
    clear hg
    go_enter Try.func43, Try.ntmps43
    go_wp2_with fail
    refine HCK.out.mono ?_
    rintro e w' ⟨rfl, rfl⟩
    go_wp2_with fail
    go_ret
    exact Giv.mk rfl HO0.out HB0.out
  | some T =>
    have he : e = 0 := HEK.out.2 rfl
    have hcr := HI.out.1
    have HL := Lib.hid hcr.1
    have HH := Lib.hid hcr
    obtain ⟨l, hl⟩ : ∃ l, post T = l := ⟨_, rfl⟩
    have HLT : Hid ((l.filter fun r => r.k == 1).map Rx.s = setsL (some T)) := Lib.hid (by rw [← hl]; exact filt_sets T)
    rw [hl] at HH HL
    subst he
    clear hcr hl HEK HI
    go_enter Try.func43, Try.ntmps43
    go_wp2_with fail
    refine HCK.out.mono ?_
    rintro e w' ⟨rfl, rfl⟩
    rw [hg] at HO0 HB0
    go_wp2_with fail
    clear hg
    go_loopw [3, 4] (fun u i wr => ∃ k : Nat, k ≤ n ∧ i = .int .i64 (k : Int) ∧ wr.ownsRow g 74 4 u (((l.take k).filter fun r => r.k == 1).map Rx.s).length ((((l.take k).filter fun r => r.k == 1).map Rx.s).flatMap setC) ∧ Below g w wr) (fun _ i _ => n - (intOf i).toNat)
    case atStart => exact ⟨0, by omega, rfl, HO0.out, HB0.out⟩
    case round =>
      obtain ⟨k, hk, rfl, hown, hb⟩ := hrel
      have HOF := Lib.hid (own_form hown)
      have HOW := Lib.hid hown
      have HB := Lib.hid hb
      have hgl : g ≤ wr.heap.size := by have := HG.out; have := hb.size; omega
      have hle2 : (((l.take k).filter fun r => r.k == 1).map Rx.s).length ≤ k := by
        rw [List.length_map]; exact Nat.le_trans (List.length_filter_le _ _) (List.length_take_le _ _)
      clear hown hb HO0 HB0
      obtain ⟨A, cc, rfl, hle, hcc⟩ := HOF.out
      clear HOF
      by_cases hlt : k < n
      case neg =>
        have hk2 : k = n := by omega
        have HK : Hid (((l.take k).filter fun r => r.k == 1).map Rx.s = setsL (some T)) := Lib.hid (by rw [List.take_of_length_le (by rw [HL.out]; omega)]; exact HLT.out)
        rw [HK.out] at HOW ⊢
        have z1 : ¬ (k : Int) < (n : Int) := by omega
        clear hk2
        go_wp2_with fail
        go_ret
        exact Giv.mk rfl (by first | exact HOW.out | (rw [HG.out]; exact HOW.out)) (by first | exact HB.out | (rw [HG.out]; exact HB.out))
      case pos =>
        have z1 : (k : Int) < (n : Int) := by omega
        have z0 : (0 : Int) ≤ (k : Int) := by omega
        obtain ⟨b, off, x, rfl, hbl, hx, c0, c1, c2, c3, c4⟩ := (HH.out.below (w' := wr) (by rw [HG.out]; exact HB.out)).kind hlt
        have HNX := Lib.hid (sets_take hx)
        obtain ⟨ls, hls⟩ : ∃ ls, ((l.take k).filter fun r => r.k == 1).map Rx.s = ls := ⟨_, rfl⟩
        rw [hls] at HNX HOW hle2 hle ⊢
        clear hls hx
        by_cases hk1 : x.k = 1
        · have HNE : Hid (((l.take (k + 1)).filter fun r => r.k == 1).map Rx.s = ls ++ [x.s]) := Lib.hid (by rw [HNX.out, if_pos hk1])
          have e1 : (x.k == 1) = true := by simpa using hk1
          have HLN : Hid ((ls ++ [x.s]).length = ls.length + 1) := Lib.hid (by simp)
          have HAP := Lib.hid (app_el (P := Try.prog) (C := setC) (T := 22) (by decide) setC_len setC_one Try.underlying22 infoSet rfl HOW.out x.s (by unfold maxLen; omega) (by omega) hgl wr.heap.size rfl #[.int .u64 (wd x.s 0), .int .u64 (wd x.s 1), .int .u64 (wd x.s 2), .int .u64 (wd x.s 3)] rfl)
          clear hk1
          go_wp2_with (at_builtin; refine HAP.out _ _ _ _ _ rfl _ _ rfl rfl rfl ?_; intro gg cap w3 hown1 hgrow hat; have HW := Lib.hid hown1; have HB3 := Lib.hid (below_grown (HB.out.alloc (by omega) _) (by simp; omega) hgrow (fun j hj => (own_ge HOW.out hj).1)); clear hown1 hgrow hat)
          go_roundw
          case rel => exact ⟨k + 1, by omega, by go_num, by rw [HNE.out, HLN.out]; exact HW.out, HB3.out⟩
          case measure => simp [intOf]; omega
        · have HNE : Hid (((l.take (k + 1)).filter fun r => r.k == 1).map Rx.s = ls) := Lib.hid (by rw [HNX.out, if_neg hk1]; simp)
          have e1 : (x.k == 1) = false := by simpa using hk1
          clear hk1
          go_wp2_with fail
          go_roundw
          case rel => exact ⟨k + 1, by omega, by go_num, by rw [HNE.out]; exact HOW.out, HB.out⟩
          case measure => simp [intOf]; omega
end Go.Proofs.Ytmkgipoljbiocaa
/- First, last spots; what follows one: the document's. -/
namespace Go.Proofs.Ytmkgipoljbiocaa
open Go.RowKit
set_option linter.unusedVariables false

theorem rfirst10_any (w : World) (a : Option Addr) (n c : Nat) (o : Option RxT) (h : IsRx w a n o) (hn : n ≤ 100000) :
    Calls Try.prog 48 #[.slice a n c] w (Giv 3 1 intC w (endsL false o)) := by
  obtain ⟨e, hck, hek⟩ := h.check c
  have HCK := Lib.hid hck
  have HEK := Lib.hid hek
  unfold Giv
  clear hck hek
  cases o with
  | none =>
    have he : ((e : Int) != 0) = true := by rw [bne_iff_ne]; intro h; have := HEK.out.1 (by omega); simp at this
    have HO0 := Lib.hid (own_zero w w.heap.size 3 1 (Nat.le_refl _))
    clear h
    go_enter Try.func48, Try.ntmps48
    go_wp2_with fail
    refine HCK.out.mono ?_
    rintro e w' ⟨rfl, rfl⟩
    go_wp2_with fail
    go_ret
    exact Giv.mk rfl HO0.out ((Below.refl _ _).alloc (Nat.le_refl _) _)
  | some T =>
    have he : e = 0 := HEK.out.2 rfl
    subst he
    have hpos := post_pos T
    have hl := h.1.1
    have HE1 := Lib.hid (ends_any a n c (post T) hn T w (n - 1) 0 false h.1 (by have := PartAt.whole T; rwa [hl] at this))
    obtain ⟨m, rfl⟩ : ∃ m, n = m + 1 := ⟨n - 1, by omega⟩
    rw [Nat.add_sub_cancel] at HE1
    have z4 : ((m : Int) + 1 - 1) = (m : Int) := by omega
    have z5 : (((m + 1 : Nat) : Int) - 1) = (m : Int) := by omega
    clear h hl hpos
    go_enter Try.func48, Try.ntmps48
    go_wp2_with fail
    refine HCK.out.mono ?_
    rintro e w' ⟨rfl, rfl⟩
    go_wp2_with fail
    refine HE1.out.mono ?_
    rintro e w2 ⟨A2, c2, rfl, ho2, hb2⟩
    have HO2 := Lib.hid ho2
    have HB2 := Lib.hid hb2
    clear ho2 hb2
    go_wp2_with fail
    go_ret
    exact Giv.mk rfl HO2.out HB2.out
theorem rlast10_any (w : World) (a : Option Addr) (n c : Nat) (o : Option RxT) (h : IsRx w a n o) (hn : n ≤ 100000) :
    Calls Try.prog 44 #[.slice a n c] w (Giv 3 1 intC w (endsL true o)) := by
  obtain ⟨e, hck, hek⟩ := h.check c
  have HCK := Lib.hid hck
  have HEK := Lib.hid hek
  unfold Giv
  clear hck hek
  cases o with
  | none =>
    have he : ((e : Int) != 0) = true := by rw [bne_iff_ne]; intro h; have := HEK.out.1 (by omega); simp at this
    have HO0 := Lib.hid (own_zero w w.heap.size 3 1 (Nat.le_refl _))
    clear h
    go_enter Try.func44, Try.ntmps44
    go_wp2_with fail
    refine HCK.out.mono ?_
    rintro e w' ⟨rfl, rfl⟩
    go_wp2_with fail
    go_ret
    exact Giv.mk rfl HO0.out ((Below.refl _ _).alloc (Nat.le_refl _) _)
  | some T =>
    have he : e = 0 := HEK.out.2 rfl
    subst he
    have hpos := post_pos T
    have hl := h.1.1
    have HE1 := Lib.hid (ends_any a n c (post T) hn T w (n - 1) 0 true h.1 (by have := PartAt.whole T; rwa [hl] at this))
    obtain ⟨m, rfl⟩ : ∃ m, n = m + 1 := ⟨n - 1, by omega⟩
    rw [Nat.add_sub_cancel] at HE1
    have z4 : ((m : Int) + 1 - 1) = (m : Int) := by omega
    have z5 : (((m + 1 : Nat) : Int) - 1) = (m : Int) := by omega
    clear h hl hpos
    go_enter Try.func44, Try.ntmps44
    go_wp2_with fail
    refine HCK.out.mono ?_
    rintro e w' ⟨rfl, rfl⟩
    go_wp2_with fail
    refine HE1.out.mono ?_
    rintro e w2 ⟨A2, c2, rfl, ho2, hb2⟩
    have HO2 := Lib.hid ho2
    have HB2 := Lib.hid hb2
    clear ho2 hb2
    go_wp2_with fail
    go_ret
    exact Giv.mk rfl HO2.out HB2.out
theorem folUp_succ (T : RxT) (i k : Nat) : folUp T i (k + 1) = folUp T i k ++ if followsT T (i : Int) (k : Int) = true then [(k : Int)] else [] := by
  unfold folUp
  rw [List.range_succ, List.filter_append, List.map_append]
  by_cases h : followsT T (i : Int) (k : Int) = true
  · rw [if_pos h, List.filter_cons, if_pos h]; rfl
  · rw [if_neg h, List.filter_cons, if_neg h]; rfl
theorem folUp_len (T : RxT) (i k : Nat) : (folUp T i k).length ≤ k := by
  unfold folUp
  rw [List.length_map]
  exact Nat.le_trans (List.length_filter_le _ _) (by simp)
set_option maxHeartbeats 2000000 in
theorem rfollow10_any (w : World) (a : Option Addr) (n c : Nat) (T : RxT) (i : Nat) (h : IsRx w a n (some T)) (hn : n ≤ 100000) (hi : i < nSet T) :
    Calls Try.prog 47 #[.slice a n c, .int .i64 (i : Int)] w (Giv 3 1 intC w (folL (some T) i)) := by
  have HI := Lib.hid h
  have HO0 := Lib.hid (own_zero w w.heap.size 3 1 (Nat.le_refl _))
  have hb0 : Below w.heap.size w (w.alloc (.cells #[] 3)) := (Below.refl _ _).alloc (Nat.le_refl _) _
  have HB0 := Lib.hid hb0
  have hs0 : (w.alloc (.cells #[] 3)).heap.size = w.heap.size + 1 := by simp
  have HS0 := Lib.hid hs0
  have HSE := Lib.hid (rsets_any _ a n c (some T) (h.below hb0) hn)
  have hns := nSet_le T
  have HLN : Hid ((setsL (some T)).length = nSet T) := Lib.hid (setsT_len T)
  have hl := h.1.1
  obtain ⟨g, hg⟩ : ∃ g, w.heap.size = g := ⟨_, rfl⟩
  have HG := Lib.hid hg
  unfold Giv
  clear h hb0 hs0
  go_enter Try.func47, Try.ntmps47
  go_wp2_with fail
  refine HSE.out.mono ?_
  rintro e w2 ⟨A2, c2, rfl, ho2, hb2⟩
  rw [HLN.out]
  have HB2 : Hid (Below g w w2) := Lib.hid (by rw [← hg]; exact HB0.out.trans (hb2.mono (by rw [HS0.out]; omega)))
  have HO2 : Hid (w2.ownsRow g 3 1 (.slice (some ⟨g, 0, none⟩) 0 0) 0 []) := Lib.hid (by have := ownB HO0.out (hb2.mono (by rw [HS0.out]; exact Nat.le_refl _)); rwa [hg] at this)
  have hg2 : g + 1 ≤ w2.heap.size := by have := hb2.size; have := HS0.out; omega
  obtain ⟨m, hm⟩ : ∃ m, nSet T = m := ⟨_, rfl⟩
  have HMN := Lib.hid hm
  rw [hm] at hns hi ⊢
  have z1 : (0 : Int) ≤ (i : Int) := by omega
  have z2 : (i : Int) < (m : Int) := by omega
  have z3 : decide ((0 : Int) ≤ (i : Int)) = true := decide_eq_true z1
  have z4 : decide ((i : Int) < (m : Int)) = true := decide_eq_true z2
  have z5 : decide (i < m) = true := decide_eq_true hi
  clear ho2 hb2 hg hm
  go_wp2_with fail
  go_loopw [5, 7] (fun u j wr => ∃ k : Nat, k ≤ m ∧ j = .int .i64 (k : Int) ∧ wr.ownsRow g 3 1 u (folUp T i k).length ((folUp T i k).flatMap intC) ∧ Below g w wr) (fun _ j _ => m - (intOf j).toNat)
  case atStart => exact ⟨0, by omega, rfl, HO2.out, HB2.out⟩
  case round =>
    obtain ⟨k, hk, rfl, hown, hb⟩ := hrel
    have HOF := Lib.hid (own_form hown)
    have HOW := Lib.hid hown
    have HB := Lib.hid hb
    have hgl : g ≤ wr.heap.size := by have := HG.out; have := hb.size; omega
    have hle2 := folUp_len T i k
    have HNX := Lib.hid (folUp_succ T i k)
    clear hown hb
    obtain ⟨A, cc, rfl, hle, hcc⟩ := HOF.out
    clear HOF
    by_cases hlt : k < m
    case neg =>
      have hk2 : k = m := by omega
      have HK : Hid (folUp T i k = folL (some T) i) := Lib.hid (by unfold folL; rw [hk2]; simp only; rw [HMN.out])
      rw [HK.out] at HOW ⊢
      have y1 : ¬ (k : Int) < (m : Int) := by omega
      clear hk2
      go_wp2_with fail
      go_ret
      exact Giv.mk rfl (by first | exact HOW.out | (rw [HG.out]; exact HOW.out)) (by first | exact HB.out | (rw [HG.out]; exact HB.out))
    case pos =>
      have y1 : (k : Int) < (m : Int) := by omega
      have y0 : (0 : Int) ≤ (k : Int) := by omega
      have HFO := Lib.hid (follows_any wr a n c T (i : Int) (k : Int) (HI.out.1.below (by rw [HG.out]; exact HB.out)) hn)
      obtain ⟨p, hp⟩ : ∃ p, followsT T (i : Int) (k : Int) = p := ⟨_, rfl⟩
      rw [hp] at HFO HNX
      obtain ⟨l, hl2⟩ : ∃ l, folUp T i k = l := ⟨_, rfl⟩
      rw [hl2] at HNX HOW hle hle2 ⊢
      clear hp hl2
      go_wp2_with fail
      refine HFO.out.mono ?_
      rintro e w3 ⟨rfl, hb3⟩
      have HOW3 := Lib.hid (ownB HOW.out hb3)
      have HB3 := Lib.hid (HB.out.trans (hb3.mono hgl))
      have hg3 : g ≤ w3.heap.size := by have := hb3.size; omega
      clear hb3
      cases p with
      | false =>
        have HNE : Hid (folUp T i (k + 1) = l) := Lib.hid (by rw [HNX.out]; simp)
        clear HNX
        go_wp2_with fail
        go_roundw
        case rel => exact ⟨k + 1, by omega, by go_num, by rw [HNE.out]; exact HOW3.out, HB3.out⟩
        case measure => simp [intOf]; omega
      | true =>
        have HNE : Hid (folUp T i (k + 1) = l ++ [(k : Int)]) := Lib.hid (by rw [HNX.out]; simp)
        have HLL : Hid ((l ++ [(k : Int)]).length = l.length + 1) := Lib.hid (by simp)
        have HAP := Lib.hid (app_int HOW3.out (k : Int) (by omega) hg3 w3.heap.size rfl)
        clear HNX
        go_wp2_with (at_builtin; refine HAP.out _ _ _ _ _ rfl _ _ rfl rfl rfl ?_; intro gg cap w4 hown1 hgrow hat; have HW := Lib.hid hown1; have HB4 := Lib.hid (below_grown (HB3.out.alloc (by omega) _) (by simp; omega) hgrow (fun j hj => (own_ge HOW3.out hj).1)); clear hown1 hgrow hat)
        go_roundw
        case rel => exact ⟨k + 1, by omega, by go_num, by rw [HNE.out, HLL.out]; exact HW.out, HB4.out⟩
        case measure => simp [intOf]; omega
end Go.Proofs.Ytmkgipoljbiocaa
/- The net of tokens: what it is; how it lies while it is made. -/
namespace Go.Proofs.Ytmkgipoljbiocaa
open Go.RowKit
set_option linter.unusedVariables false

/-- So many spots of a token more. -/
def addUp (N : NetS) (t : Nat) (o : Option RxT) (k : Nat) : NetS :=
  { sets := N.sets ++ (setsL o).take k, of := N.of ++ (List.range k).map (fun _ => (t : Int)), last := N.last ++ (List.range k).map (fun (i : Nat) => (endsL true o).contains (i : Int)),
    fol := N.fol ++ (List.range k).map (fun (i : Nat) => (folL o i).map (· + (N.sets.length : Int))), first := N.first }
def addTok (N : NetS) (t : Nat) (o : Option RxT) : NetS := { addUp N t o (setsL o).length with first := N.first ++ (endsL false o).map (· + (N.sets.length : Int)) }
def net0 : NetS := ⟨[], [], [], [], []⟩
def fuseUp (os : List (Option RxT)) : Nat → NetS
  | 0 => net0
  | k + 1 => addTok (fuseUp os k) k ((os[k]?).getD none)
def fuseN (os : List (Option RxT)) : NetS := fuseUp os os.length
theorem addUp_len (N : NetS) (t : Nat) (o : Option RxT) (k : Nat) (hk : k ≤ (setsL o).length) : (addUp N t o k).sets.length = N.sets.length + k ∧ (addUp N t o k).of.length = N.of.length + k ∧ (addUp N t o k).last.length = N.last.length + k ∧ (addUp N t o k).fol.length = N.fol.length + k := by
  simp [addUp]; omega
theorem addUp_succ (N : NetS) (t : Nat) (o : Option RxT) (k : Nat) (S : Nat → Bool) (h : (setsL o)[k]? = some S) : (addUp N t o (k + 1)).sets = (addUp N t o k).sets ++ [S] ∧ (addUp N t o (k + 1)).of = (addUp N t o k).of ++ [(t : Int)] ∧
    (addUp N t o (k + 1)).last = (addUp N t o k).last ++ [(endsL true o).contains (k : Int)] ∧ (addUp N t o (k + 1)).fol = (addUp N t o k).fol ++ [(folL o k).map (· + (N.sets.length : Int))] ∧ (addUp N t o (k + 1)).first = (addUp N t o k).first := by
  refine ⟨?_, ?_, ?_, ?_, rfl⟩
  · simp only [addUp]; rw [take_snoc h, List.append_assoc]
  · simp only [addUp]; rw [List.range_succ, List.map_append, List.append_assoc]; rfl
  · simp only [addUp]; rw [List.range_succ, List.map_append, List.append_assoc]; rfl
  · simp only [addUp]; rw [List.range_succ, List.map_append, List.append_assoc]; rfl
theorem setsL_len (o : Option RxT) : ∀ (w : World) (a : Option Addr) (n : Nat), IsRx w a n o → (setsL o).length ≤ n := by
  intro w a n h
  cases o with
  | none => simp [setsL]
  | some T =>
    have h1 := nSet_le T
    have h2 := h.1.1
    show (setsT T).length ≤ n
    rw [setsT_len]; omega
/-- A row among a net's lists. -/
def inn (o : Sl Int) : RowD := ⟨3, 1, .slice o.a o.l o.c, o.l, o.xs.flatMap intC⟩
def base5 (N : NetS) (os : List (Sl Int)) (sv ov lv fv rv : Value) : List RowD :=
  [⟨74, 4, sv, N.sets.length, N.sets.flatMap setC⟩, ⟨3, 1, ov, N.of.length, N.of.flatMap intC⟩, ⟨4, 1, lv, N.last.length, N.last.flatMap bolC⟩, ⟨23, 1, fv, os.length, os.flatMap seC⟩, ⟨3, 1, rv, N.first.length, N.first.flatMap intC⟩]
/-- A net while it is made: its box, its rows, all apart, and others. -/
structure NB (B X : Nat) (w : World) (N : NetS) (os : List (Sl Int)) (rest : List RowD) (sv ov lv fv rv : Value) : Prop where
  box : w.heap[X]? = some (.cells #[sv, ov, lv, fv, rv] 27 (0, 0))
  rows : RowsD B w (base5 N os sv ov lv fv rv ++ rest)
  mem : ∀ o ∈ os, inn o ∈ rest ∧ o.l = o.xs.length
  fol : N.fol = os.map Sl.xs
  lt : X < B
  le : B ≤ w.heap.size
theorem NB.below {B X : Nat} {w w' : World} {N : NetS} {os : List (Sl Int)} {rest : List RowD} {sv ov lv fv rv : Value} (h : NB B X w N os rest sv ov lv fv rv) (hb : Below w.heap.size w w') : NB B X w' N os rest sv ov lv fv rv :=
  ⟨(hb.block X (by have := h.lt; have := h.le; omega)).trans h.box, h.rows.below hb, h.mem, h.fol, h.lt, by have := hb.size; have := h.le; omega⟩
theorem NB.forms {B X : Nat} {w : World} {N : NetS} {os : List (Sl Int)} {rest : List RowD} {sv ov lv fv rv : Value} (h : NB B X w N os rest sv ov lv fv rv) :
    (∃ a c, sv = .slice a N.sets.length c ∧ N.sets.length ≤ c ∧ c ≤ 9223372036854775807) ∧ (∃ a c, ov = .slice a N.of.length c ∧ N.of.length ≤ c ∧ c ≤ 9223372036854775807) ∧ (∃ a c, lv = .slice a N.last.length c ∧ N.last.length ≤ c ∧ c ≤ 9223372036854775807) ∧ (∃ a c, fv = .slice a os.length c ∧ os.length ≤ c ∧ c ≤ 9223372036854775807) ∧ (∃ a c, rv = .slice a N.first.length c ∧ N.first.length ≤ c ∧ c ≤ 9223372036854775807) :=
  ⟨own_form (h.rows.own _ (List.mem_append_left _ (.head _))), own_form (h.rows.own _ (List.mem_append_left _ (.tail _ (.head _)))), own_form (h.rows.own _ (List.mem_append_left _ (.tail _ (.tail _ (.head _))))),
    own_form (h.rows.own _ (List.mem_append_left _ (.tail _ (.tail _ (.tail _ (.head _)))))), own_form (h.rows.own _ (List.mem_append_left _ (.tail _ (.tail _ (.tail _ (.tail _ (.head _)))))))⟩
/-- Rows that are apart, one of which has grown and is put into the box. -/
theorem rows_put {B X : Nat} {w wa w1 : World} {rs : List RowD} {i : Nat} {r r' : RowD} {cs : Array Value} {t : TypeId} (h : RowsD B w rs) (hX : X < B) (hB : B ≤ w.heap.size) (hbox : w.heap[X]? = some (.cells cs t (0, 0))) (hb : Below w.heap.size w wa)
    (hi : rs[i]? = some r) (hg : wa.grownBy w1 r.v.ownBlock) (hr' : r'.at_ B w1) (hv : r'.v.ownBlock = r.v.ownBlock ∨ ∃ b, r'.v.ownBlock = some b ∧ w.heap.size ≤ b) :
    RowsD B (w1.setCell ⟨X, i, none⟩ r'.v) (rs.set i r') ∧ (w1.setCell ⟨X, i, none⟩ r'.v).heap[X]? = some (.cells (cs.setIfInBounds i r'.v) t (0, 0)) ∧ B ≤ (w1.setCell ⟨X, i, none⟩ r'.v).heap.size := by
  have h1 := h.grow hb hi hg hr' hv
  have hxn : ∀ k, r.v.ownBlock = some k → k ≠ X := fun k hk => by have := ((h.own r (List.mem_of_getElem? hi)).lt k hk).1; omega
  have h2 : wa.heap[X]? = w.heap[X]? := hb.block X (by omega)
  have h3 : w1.heap[X]? = wa.heap[X]? := hg.block X (by have := hb.size; omega) (fun e => hxn X e.symm rfl)
  have hx1 : w1.heap[X]? = some (.cells cs t (0, 0)) := h3.trans (h2.trans hbox)
  have hs : w.heap.size ≤ w1.heap.size := by have := hb.size; have := hg.size; omega
  refine ⟨h1.kept fun s hs k hk => heap_setCell_other _ _ _ _ ?_, heap_setCell_same w1 X i cs t r'.v hx1, by simp; omega⟩
  have := ((h1.own s hs).lt k hk).1
  show k ≠ X
  omega
theorem row_new {v : Value} {w : World} {gg H : Nat} {a : Option Nat} (h : a = some gg ∨ gg = H) (hH : w.heap.size ≤ H) (hv : v.ownBlock = some gg) : v.ownBlock = a ∨ ∃ b, v.ownBlock = some b ∧ w.heap.size ≤ b := by
  rcases h with h | h
  · exact .inl (by rw [hv, h])
  · exact .inr ⟨gg, hv, by omega⟩
/-- What stands in a place of the five. -/
theorem b5 {N : NetS} {os : List (Sl Int)} {sv ov lv fv rv : Value} {rest : List RowD} :
    (base5 N os sv ov lv fv rv ++ rest)[0]? = some ⟨74, 4, sv, N.sets.length, N.sets.flatMap setC⟩ ∧ (base5 N os sv ov lv fv rv ++ rest)[1]? = some ⟨3, 1, ov, N.of.length, N.of.flatMap intC⟩ ∧ (base5 N os sv ov lv fv rv ++ rest)[2]? = some ⟨4, 1, lv, N.last.length, N.last.flatMap bolC⟩ ∧
    (base5 N os sv ov lv fv rv ++ rest)[3]? = some ⟨23, 1, fv, os.length, os.flatMap seC⟩ ∧ (base5 N os sv ov lv fv rv ++ rest)[4]? = some ⟨3, 1, rv, N.first.length, N.first.flatMap intC⟩ := ⟨rfl, rfl, rfl, rfl, rfl⟩
theorem NB.put_s {B X : Nat} {w wa w1 : World} {N : NetS} {os : List (Sl Int)} {rest : List RowD} {sv ov lv fv rv : Value} (h : NB B X w N os rest sv ov lv fv rv) (hb : Below w.heap.size w wa) (hg : wa.grownBy w1 sv.ownBlock) {v : Value} {S : Nat → Bool}
    (ho : w1.ownsRow B 74 4 v (N.sets.length + 1) ((N.sets ++ [S]).flatMap setC)) (hv : v.ownBlock = sv.ownBlock ∨ ∃ b, v.ownBlock = some b ∧ w.heap.size ≤ b) : NB B X (w1.setCell ⟨X, 0, none⟩ v) { N with sets := N.sets ++ [S] } os rest v ov lv fv rv := by
  obtain ⟨h1, h2, h3⟩ := rows_put (r' := ⟨74, 4, v, N.sets.length + 1, (N.sets ++ [S]).flatMap setC⟩) h.rows h.lt h.le h.box hb b5.1 hg ho hv
  refine ⟨h2, ?_, h.mem, h.fol, h.lt, h3⟩
  have e : (base5 N os sv ov lv fv rv ++ rest).set 0 ⟨74, 4, v, N.sets.length + 1, (N.sets ++ [S]).flatMap setC⟩ = base5 { N with sets := N.sets ++ [S] } os v ov lv fv rv ++ rest := by simp [base5]
  rw [e] at h1; exact h1
theorem NB.put_o {B X : Nat} {w wa w1 : World} {N : NetS} {os : List (Sl Int)} {rest : List RowD} {sv ov lv fv rv : Value} (h : NB B X w N os rest sv ov lv fv rv) (hb : Below w.heap.size w wa) (hg : wa.grownBy w1 ov.ownBlock) {v : Value} {z : Int}
    (ho : w1.ownsRow B 3 1 v (N.of.length + 1) ((N.of ++ [z]).flatMap intC)) (hv : v.ownBlock = ov.ownBlock ∨ ∃ b, v.ownBlock = some b ∧ w.heap.size ≤ b) : NB B X (w1.setCell ⟨X, 1, none⟩ v) { N with of := N.of ++ [z] } os rest sv v lv fv rv := by
  obtain ⟨h1, h2, h3⟩ := rows_put (r' := ⟨3, 1, v, N.of.length + 1, (N.of ++ [z]).flatMap intC⟩) h.rows h.lt h.le h.box hb b5.2.1 hg ho hv
  refine ⟨h2, ?_, h.mem, h.fol, h.lt, h3⟩
  have e : (base5 N os sv ov lv fv rv ++ rest).set 1 ⟨3, 1, v, N.of.length + 1, (N.of ++ [z]).flatMap intC⟩ = base5 { N with of := N.of ++ [z] } os sv v lv fv rv ++ rest := by simp [base5]
  rw [e] at h1; exact h1
theorem NB.put_l {B X : Nat} {w wa w1 : World} {N : NetS} {os : List (Sl Int)} {rest : List RowD} {sv ov lv fv rv : Value} (h : NB B X w N os rest sv ov lv fv rv) (hb : Below w.heap.size w wa) (hg : wa.grownBy w1 lv.ownBlock) {v : Value} {z : Bool}
    (ho : w1.ownsRow B 4 1 v (N.last.length + 1) ((N.last ++ [z]).flatMap bolC)) (hv : v.ownBlock = lv.ownBlock ∨ ∃ b, v.ownBlock = some b ∧ w.heap.size ≤ b) : NB B X (w1.setCell ⟨X, 2, none⟩ v) { N with last := N.last ++ [z] } os rest sv ov v fv rv := by
  obtain ⟨h1, h2, h3⟩ := rows_put (r' := ⟨4, 1, v, N.last.length + 1, (N.last ++ [z]).flatMap bolC⟩) h.rows h.lt h.le h.box hb b5.2.2.1 hg ho hv
  refine ⟨h2, ?_, h.mem, h.fol, h.lt, h3⟩
  have e : (base5 N os sv ov lv fv rv ++ rest).set 2 ⟨4, 1, v, N.last.length + 1, (N.last ++ [z]).flatMap bolC⟩ = base5 { N with last := N.last ++ [z] } os sv ov v fv rv ++ rest := by simp [base5]
  rw [e] at h1; exact h1
theorem NB.put_f {B X : Nat} {w wa w1 : World} {N : NetS} {os : List (Sl Int)} {rest : List RowD} {sv ov lv fv rv : Value} (h : NB B X w N os rest sv ov lv fv rv) (hb : Below w.heap.size w wa) (hg : wa.grownBy w1 fv.ownBlock) {v : Value} {z : Sl Int}
    (ho : w1.ownsRow B 23 1 v (os.length + 1) ((os ++ [z]).flatMap seC)) (hv : v.ownBlock = fv.ownBlock ∨ ∃ b, v.ownBlock = some b ∧ w.heap.size ≤ b) (hz : inn z ∈ rest ∧ z.l = z.xs.length) : NB B X (w1.setCell ⟨X, 3, none⟩ v) { N with fol := N.fol ++ [z.xs] } (os ++ [z]) rest sv ov lv v rv := by
  obtain ⟨h1, h2, h3⟩ := rows_put (r' := ⟨23, 1, v, os.length + 1, (os ++ [z]).flatMap seC⟩) h.rows h.lt h.le h.box hb b5.2.2.2.1 hg ho hv
  refine ⟨h2, ?_, fun o ho => ?_, by rw [h.fol]; simp, h.lt, h3⟩
  · have e : (base5 N os sv ov lv fv rv ++ rest).set 3 ⟨23, 1, v, os.length + 1, (os ++ [z]).flatMap seC⟩ = base5 { N with fol := N.fol ++ [z.xs] } (os ++ [z]) sv ov lv v rv ++ rest := by simp [base5]
    rw [e] at h1; exact h1
  · rcases List.mem_append.1 ho with ho | ho
    · exact h.mem o ho
    · rw [List.mem_singleton] at ho; subst ho; exact hz
theorem NB.put_r {B X : Nat} {w wa w1 : World} {N : NetS} {os : List (Sl Int)} {rest : List RowD} {sv ov lv fv rv : Value} (h : NB B X w N os rest sv ov lv fv rv) (hb : Below w.heap.size w wa) (hg : wa.grownBy w1 rv.ownBlock) {v : Value} {m : Nat} {zs : List Int} (hm : zs.length = m)
    (ho : w1.ownsRow B 3 1 v (N.first.length + m) ((N.first ++ zs).flatMap intC)) (hv : v.ownBlock = rv.ownBlock ∨ ∃ b, v.ownBlock = some b ∧ w.heap.size ≤ b) : NB B X (w1.setCell ⟨X, 4, none⟩ v) { N with first := N.first ++ zs } os rest sv ov lv fv v := by
  subst hm
  obtain ⟨h1, h2, h3⟩ := rows_put (r' := ⟨3, 1, v, N.first.length + zs.length, (N.first ++ zs).flatMap intC⟩) h.rows h.lt h.le h.box hb b5.2.2.2.2 hg ho hv
  refine ⟨h2, ?_, h.mem, h.fol, h.lt, h3⟩
  have e : (base5 N os sv ov lv fv rv ++ rest).set 4 ⟨3, 1, v, N.first.length + zs.length, (N.first ++ zs).flatMap intC⟩ = base5 { N with first := N.first ++ zs } os sv ov lv fv v ++ rest := by simp [base5]
  rw [e] at h1; exact h1
/-- Another row beside them. -/
theorem NB.add {B X : Nat} {w w' : World} {N : NetS} {os : List (Sl Int)} {rest : List RowD} {sv ov lv fv rv : Value} (h : NB B X w N os rest sv ov lv fv rv) (hb : Below w.heap.size w w') {r : RowD} (hr : w'.ownsRow w.heap.size r.e r.k r.v r.n r.xs) : NB B X w' N os (rest ++ [r]) sv ov lv fv rv := by
  have h' := h.below hb
  refine ⟨h'.box, ?_, fun o ho => ⟨List.mem_append_left _ (h.mem o ho).1, (h.mem o ho).2⟩, h.fol, h.lt, h'.le⟩
  have := h.rows.add hb hr h.le
  rwa [List.append_assoc] at this
/-- A row beside them is apart from the five. -/
theorem NB.apart {B X : Nat} {w : World} {N : NetS} {os : List (Sl Int)} {rest : List RowD} {sv ov lv fv rv : Value} (h : NB B X w N os rest sv ov lv fv rv) {r : RowD} (hr : r ∈ rest) : ∀ v ∈ [sv, ov, lv, fv, rv], ∀ k, v.ownBlock = some k → r.v.ownBlock ≠ some k := by
  obtain ⟨j, hj⟩ := List.getElem?_of_mem hr
  have hj' : (base5 N os sv ov lv fv rv ++ rest)[5 + j]? = some r := by
    rw [List.getElem?_append_right (by simp [base5])]; simpa [base5] using hj
  intro v hv k hk
  simp only [List.mem_cons, List.not_mem_nil, or_false] at hv
  rcases hv with rfl | rfl | rfl | rfl | rfl
  · exact h.rows.apart 0 (5 + j) _ r b5.1 hj' (by omega) k hk
  · exact h.rows.apart 1 (5 + j) _ r b5.2.1 hj' (by omega) k hk
  · exact h.rows.apart 2 (5 + j) _ r b5.2.2.1 hj' (by omega) k hk
  · exact h.rows.apart 3 (5 + j) _ r b5.2.2.2.1 hj' (by omega) k hk
  · exact h.rows.apart 4 (5 + j) _ r b5.2.2.2.2 hj' (by omega) k hk
end Go.Proofs.Ytmkgipoljbiocaa
/- The reader: a branch's walk. -/
namespace Go.Proofs.Ytmkgipoljbiocaa
open Go.RowKit Go.PlainAid
set_option linter.unusedVariables false
set_option linter.unusedSimpArgs false

theorem suf_of {b : Nat} (h : inB sufB b = true) : b = 42 ∨ b = 43 ∨ b = 63 := by
  unfold inB at h
  rw [List.any_eq_true] at h
  obtain ⟨x, hx, e⟩ := h
  rw [beq_iff_eq] at e
  have : x ∈ ([42, 43, 63] : List UInt8) := hx
  simp only [List.mem_cons, List.not_mem_nil, or_false] at this
  rcases this with rfl | rfl | rfl
  · exact .inl e.symm
  · exact .inr (.inl e.symm)
  · exact .inr (.inr e.symm)
theorem infoRxs : (Try.prog.info? 43).map (fun i => (i.zero, i.size, i.bytes)) = some (some (.slice none 0 0), 1, 24) := by kernel_rfl
/-- One slice of steps more behind a row of the call's own. -/
theorem app_rw {w : World} {base n : Nat} {v : Value} {os : List Rw} (hown : w.ownsRow base 43 1 v n (os.flatMap slC)) (z : Rw) (hn : n ≤ 1000000) (hbase : base ≤ w.heap.size) (H : Nat) (hH : w.heap.size = H)
    (ops : Array Oper) (rest : List Oper) (o : Oper) (a : Act) (Q : Exit → Act → World → Prop) (hg : o.guard = none) (s x : Operand) (ho : o.op = .call { callee := .builtin .append, args := #[s, x], argTypes := #[93, 93] })
    (hs : a.eval s = v) (hx : a.eval x = .slice (some ⟨H, 0, none⟩) 1 1)
    (h : ∀ g cap w', w'.ownsRow base 43 1 (.slice (some ⟨g, 0, none⟩) (n + 1) cap) (n + 1) ((os ++ [z]).flatMap slC) → (w.alloc (.cells #[.slice z.a z.l z.c] 43)).grownBy w' v.ownBlock → (v.ownBlock = some g ∨ g = H + 1) →
      wpList Try.prog ops Q rest (a.put o.dst (.slice (some ⟨g, 0, none⟩) (n + 1) cap)) w') : wpList Try.prog ops Q (o :: rest) a (w.alloc (.cells #[.slice z.a z.l z.c] 43)) :=
  app_el (P := Try.prog) (C := slC) (T := 93) (by decide) slC_len slC_one Try.underlying93 infoRxs rfl hown z (by unfold maxLen; omega) (by omega) hbase H hH #[.slice z.a z.l z.c] rfl ops rest o a Q hg s x ho hs hx h
theorem branchF_len (tx : Nat → Option (List Rx × Nat)) (s : ByteArray) : ∀ (m : Nat) (ps : List (List Rx)) (k : Nat) r, branchF tx s m ps k = some r → ps.length ≤ 2000 ∧ k ≤ r.2 ∧ (k ≤ s.size → r.2 ≤ s.size)
  | 0, _, _, _, h => by cases h
  | m + 1, ps, k, r, h => by
    simp only [branchF] at h
    split at h
    · cases ha : atomF tx s k with
      | none => rw [ha] at h; cases h
      | some p =>
        obtain ⟨l1, n1⟩ := p
        rw [ha] at h
        simp only at h
        split at h
        · rename_i h1 h2
          have h3 := branchF_len tx s m _ _ r h
          have h4 := starsF_le s (s.size - n1) l1 n1 h2.2.1
          rw [List.length_append] at h3
          exact ⟨by omega, by omega, fun _ => h3.2.2 h4.2⟩
        · cases h
    · split at h
      · rename_i h1
        simp only [Option.some.injEq] at h
        subst h
        exact ⟨by omega, Nat.le_refl _, fun h => h⟩
      · cases h
set_option maxHeartbeats 4000000 in
theorem branch_any (s : ByteArray) (tx : Nat → Option (List Rx × Nat)) (hs : s.size ≤ 1000)
    (htx : ∀ (k : Nat) (w : World) l nx, tx k = some (l, nx) → Calls Try.prog 52 #[.string s, .int .i64 (k : Int)] w (Rd w l nx))
    (m0 k0 : Nat) (w : World) (l : List Rx) (nx : Nat) (hk0 : k0 ≤ s.size) (h : branchF tx s m0 [] k0 = some (l, nx)) :
    Calls Try.prog 64 #[.string s, .int .i64 (k0 : Int)] w (Rd w l nx) := by
  have gb := get_bt s
  have HAT := Lib.hid fun (k : Nat) (w : World) l nx h => atom_any s k tx hs (fun w l nx h => htx (k + 1) w l nx h) w l nx h
  have HH := Lib.hid h
  have HB0 := Lib.hid (RB.start (own_zero w w.heap.size 43 1 (Nat.le_refl _)) (by simp))
  have HBL := Lib.hid ((Below.refl w.heap.size w).alloc (Nat.le_refl _) (.cells #[] 43))
  clear h htx
  go_enter Try.func64, Try.ntmps64
  go_wp2_with fail
  go_loopg [1, 7] (s.size - k0) (fun gk av pv wr => ∃ (k m : Nat) (os : List Rw) (rest : List RowD), k ≤ s.size ∧ gk = s.size - k ∧ av = .int .i64 (k : Int) ∧ RB w.heap.size wr pv os rest ∧ branchF tx s m (os.map Rw.rs) k = some (l, nx) ∧ Below w.heap.size w wr)
  case atStart => exact ⟨k0, m0, [], [], hk0, rfl, rfl, HB0.out, HH.out, HBL.out⟩
  case round =>
    obtain ⟨k, m, os, rest, hk, hgk, rfl, hrb, hbr, hbw⟩ := hrel
    have hosl := (branchF_len _ _ _ _ _ _ hbr).1
    rw [List.length_map] at hosl
    have HRB := Lib.hid hrb
    have HBW := Lib.hid hbw
    obtain ⟨pa, pc, rfl, hp1, hp2⟩ := own_form hrb.own
    have hgl : w.heap.size ≤ wr.heap.size := hrb.le
    clear hrb hbw
    cases m with
    | zero => cases hbr
    | succ m =>
      simp only [branchF] at hbr
      by_cases hgo : k < s.size ∧ byteAt s k ≠ 124 ∧ byteAt s k ≠ 41
      case neg =>
        rw [if_neg hgo] at hbr
        split at hbr
        case isFalse => cases hbr
        case isTrue htot =>
          simp only [Option.some.injEq, Prod.mk.injEq] at hbr
          obtain ⟨hl, rfl⟩ := hbr
          have HCA : Hid (Calls Try.prog 84 #[.slice pa os.length pc] wr (Gives wr l)) := Lib.hid (by
            have h1 := refcat_any wr pa os.length pc os HRB.out.rrow (by rw [List.length_map] at htot; exact htot)
            have h2 : catR os os.length = l := by rw [← hl]; unfold catR catP; rw [List.length_map]
            rw [h2] at h1; exact h1)
          clear htot hl
          have z0 : (0 : Int) ≤ (k : Int) := by omega
          by_cases hks : k < s.size
          case neg =>
            have z1 : ¬ (k : Int) < (s.size : Int) := by omega
            clear hgo hks
            go_wp2_with fail
            refine HCA.out.mono ?_
            rintro e w2 ⟨v, rfl, ho, hb⟩
            obtain ⟨A, c, rfl, _, _⟩ := own_form ho
            have HO := Lib.hid (own_mono ho HBW.out.size)
            have HB := Lib.hid (HBW.out.trans (hb.mono HBW.out.size))
            clear ho hb
            go_wp2
            go_ret3
            exact ⟨A, c, rfl, HO.out, HB.out⟩
          case pos =>
            have z1 : (k : Int) < (s.size : Int) := by omega
            have hba := bt_at s k hks
            by_cases h124 : byteAt s k = 124
            case pos =>
              have t1 : (bt s k != 124) = false := by rw [bne_eq_false_iff_eq, hba, h124]; rfl
              clear hgo h124 hba
              go_wp2_with fail
              refine HCA.out.mono ?_
              rintro e w2 ⟨v, rfl, ho, hb⟩
              obtain ⟨A, c, rfl, _, _⟩ := own_form ho
              have HO := Lib.hid (own_mono ho HBW.out.size)
              have HB := Lib.hid (HBW.out.trans (hb.mono HBW.out.size))
              clear ho hb
              go_wp2
              go_ret3
              exact ⟨A, c, rfl, HO.out, HB.out⟩
            case neg =>
              have h41 : byteAt s k = 41 := by
                by_cases h : byteAt s k = 41
                · exact h
                · exact absurd ⟨hks, h124, h⟩ hgo
              have t1 : (bt s k != 124) = true := by rw [bne_iff_ne, hba, h41]; decide
              have t2 : (bt s k != 41) = false := by rw [bne_eq_false_iff_eq, hba, h41]; rfl
              clear hgo h124 h41 hba
              go_wp2_with fail
              refine HCA.out.mono ?_
              rintro e w2 ⟨v, rfl, ho, hb⟩
              obtain ⟨A, c, rfl, _, _⟩ := own_form ho
              have HO := Lib.hid (own_mono ho HBW.out.size)
              have HB := Lib.hid (HBW.out.trans (hb.mono HBW.out.size))
              clear ho hb
              go_wp2
              go_ret3
              exact ⟨A, c, rfl, HO.out, HB.out⟩
      case pos =>
        rw [if_pos hgo] at hbr
        cases hat : atomF tx s k with
        | none => rw [hat] at hbr; cases hbr
        | some p =>
          obtain ⟨l1, n1⟩ := p
          rw [hat] at hbr
          simp only at hbr
          split at hbr
          case isFalse => cases hbr
          case isTrue hc1 =>
            obtain ⟨⟨l2, n2⟩, hst⟩ : ∃ p, starsF s (s.size - n1) l1 n1 = p := ⟨_, rfl⟩
            rw [hst] at hbr
            have hn2 := starsF_le s (s.size - n1) l1 n1 hc1.2.1
            rw [hst] at hn2
            simp only at hbr hn2
            have HBR := Lib.hid hbr
            have HA := Lib.hid (HAT.out k wr l1 n1 hat)
            have HST := Lib.hid hst
            have z0 : (0 : Int) ≤ (k : Int) := by omega
            have z1 : (k : Int) < (s.size : Int) := by omega
            have hba := bt_at s k hgo.1
            have t1 : (bt s k != 124) = true := by rw [bne_iff_ne, hba]; have := hgo.2.1; omega
            have t2 : (bt s k != 41) = true := by rw [bne_iff_ne, hba]; have := hgo.2.2; omega
            obtain ⟨hkn, hns, hl1⟩ := hc1
            obtain ⟨ol, hol⟩ : ∃ x, os.length = x := ⟨_, rfl⟩
            have HOL := Lib.hid hol
            rw [hol] at hosl ⊢
            clear hgo hba hbr hat hst hol
            go_wp2_with fail
            refine HA.out.mono ?_
            rintro e w2 ⟨A, c, rfl, ho, hb⟩
            have HO := Lib.hid ho
            have HB := Lib.hid hb
            have hw2 : wr.heap.size ≤ w2.heap.size := hb.size
            clear ho hb t1 t2
            go_wp2_with fail
            obtain ⟨wo, rfl⟩ : ∃ x, x = wr := ⟨_, rfl⟩
            go_loopg [8, 9] (s.size - n1) (fun gk lv nv wq => ∃ (A : Option Addr) (c : Nat) (ll : List Rx) (nq : Nat), nq ≤ s.size ∧ n1 ≤ nq ∧ gk = s.size - nq ∧ lv = .slice A ll.length c ∧ nv = .int .i64 (nq : Int) ∧ wq.ownsRow wo.heap.size 88 5 (.slice A ll.length c) ll.length (ll.flatMap rxC) ∧ starsF s (s.size - nq) ll nq = (l2, n2) ∧ ll.length + (s.size - nq) ≤ 2000 ∧ Below wo.heap.size wo wq)
            case atStart => exact ⟨A, c, l1, n1, hns, Nat.le_refl _, rfl, rfl, rfl, HO.out, HST.out, by omega, HB.out⟩
            case round =>
              obtain ⟨A, c, ll, nq, hnq, hn1, hgk2, rfl, rfl, hown, hsf, hll, hbq⟩ := hrel
              have HOW := Lib.hid hown
              have HBQ := Lib.hid hbq
              skip
              clear hown hbq
              have y0 : (0 : Int) ≤ (nq : Int) := by omega
              by_cases hns2 : nq < s.size
              case neg =>
                have y1 : ¬ (nq : Int) < (s.size : Int) := by omega
                rw [show s.size - nq = 0 by omega] at hsf
                simp only [starsF, Prod.mk.injEq] at hsf
                obtain ⟨rfl, rfl⟩ := hsf
                have HD := Lib.hid (HRB.out.add HBQ.out (q := ⟨88, 5, .slice A ll.length c, ll.length, ll.flatMap rxC⟩) HOW.out)
                have hle : w.heap.size ≤ wr.heap.size := HD.out.le
                have HBW2 := Lib.hid (HBW.out.trans (HBQ.out.mono hgl))
                have HOP : Hid (wr.ownsRow w.heap.size 43 1 (.slice pa ol pc) ol (os.flatMap slC)) := Lib.hid (by rw [← HOL.out]; exact HD.out.own)
                have HAP := Lib.hid (app_rw HOP.out ⟨A, ll.length, c, ll⟩ (by omega) hle wr.heap.size rfl)
                go_wp2_with (at_builtin; refine HAP.out _ _ _ _ _ rfl _ _ rfl rfl rfl ?_; intro gg cap w5 hownB hgrow hat; have HOB := Lib.hid hownB; have HGB := Lib.hid hgrow; have HATT := Lib.hid hat; clear hownB hgrow hat)
                have HDN := Lib.hid (HD.out.put ((Below.refl wr.heap.size wr).alloc (Nat.le_refl _) (.cells #[.slice A ll.length c] 43)) (by rw [HOL.out]; exact HGB.out) (v := .slice (some ⟨gg, 0, none⟩) (ol + 1) cap) (z := ⟨A, ll.length, c, ll⟩) (by rw [HOL.out]; exact HOB.out) (by rw [HOL.out]; exact row_new HATT.out (by omega) rfl) ⟨List.mem_append_right _ (.head _), rfl⟩)
                have HBN : Hid (Below w.heap.size w w5) := Lib.hid (below_grown (HBW2.out.alloc hle _) (by simp; omega) HGB.out (fun q hq => (own_ge HOP.out hq).1))
                go_roundg (s.size - nq)
                case measure => omega
                case rel => exact ⟨nq, m, os ++ [⟨A, ll.length, c, ll⟩], _, hnq, rfl, rfl, HDN.out, by rw [List.map_append]; exact HBR.out, HBN.out⟩
              case pos =>
                have y1 : (nq : Int) < (s.size : Int) := by omega
                have hbq2 := bt_at s nq hns2
                obtain ⟨b, hbb⟩ : ∃ b, byteAt s nq = b := ⟨_, rfl⟩
                rw [hbb] at hbq2
                have hin := in_any sufB b wr (by decide)
                rw [← hbq2] at hin
                have HIN := Lib.hid hin
                rw [show s.size - nq = (s.size - (nq + 1)) + 1 by omega] at hsf
                simp only [starsF] at hsf
                rw [hbb] at hsf
                obtain ⟨q, hq⟩ : ∃ q, inB sufB b = q := ⟨_, rfl⟩
                rw [hq] at HIN hsf
                have HBT := Lib.hid hbq2
                have HQ := Lib.hid hq
                clear hbb hbq2 hq hin
                cases q with
                | false =>
                  rw [if_neg (by simp)] at hsf
                  simp only [Prod.mk.injEq] at hsf
                  obtain ⟨rfl, rfl⟩ := hsf
                  skip
                  go_wp2_with fail
                  refine HIN.out.mono ?_
                  rintro e w3 ⟨rfl, rfl⟩
                  have HD := Lib.hid (HRB.out.add HBQ.out (q := ⟨88, 5, .slice A ll.length c, ll.length, ll.flatMap rxC⟩) HOW.out)
                  have hle : w.heap.size ≤ wr.heap.size := HD.out.le
                  have HBW2 := Lib.hid (HBW.out.trans (HBQ.out.mono hgl))
                  have HOP : Hid (wr.ownsRow w.heap.size 43 1 (.slice pa ol pc) ol (os.flatMap slC)) := Lib.hid (by rw [← HOL.out]; exact HD.out.own)
                  have HAP := Lib.hid (app_rw HOP.out ⟨A, ll.length, c, ll⟩ (by omega) hle wr.heap.size rfl)
                  go_wp2_with (at_builtin; refine HAP.out _ _ _ _ _ rfl _ _ rfl rfl rfl ?_; intro gg cap w5 hownB hgrow hat; have HOB := Lib.hid hownB; have HGB := Lib.hid hgrow; have HATT := Lib.hid hat; clear hownB hgrow hat)
                  have HDN := Lib.hid (HD.out.put ((Below.refl wr.heap.size wr).alloc (Nat.le_refl _) (.cells #[.slice A ll.length c] 43)) (by rw [HOL.out]; exact HGB.out) (v := .slice (some ⟨gg, 0, none⟩) (ol + 1) cap) (z := ⟨A, ll.length, c, ll⟩) (by rw [HOL.out]; exact HOB.out) (by rw [HOL.out]; exact row_new HATT.out (by omega) rfl) ⟨List.mem_append_right _ (.head _), rfl⟩)
                  have HBN : Hid (Below w.heap.size w w5) := Lib.hid (below_grown (HBW2.out.alloc hle _) (by simp; omega) HGB.out (fun q hq => (own_ge HOP.out hq).1))
                  go_roundg (s.size - nq)
                  case measure => omega
                  case rel => exact ⟨nq, m, os ++ [⟨A, ll.length, c, ll⟩], _, hnq, rfl, rfl, HDN.out, by rw [List.map_append]; exact HBR.out, HBN.out⟩
                | true =>
                  rw [if_pos ⟨hns2, rfl⟩] at hsf
                  have hb3 := suf_of HQ.out
                  have HON := Lib.hid (refone_any wr A ll.length c ll (kindOfB b) (own_row rxC_len HOW.out) (by omega))
                  obtain ⟨kd, hkd⟩ : ∃ x, kindOfB b = x := ⟨_, rfl⟩
                  rw [hkd] at HON hsf
                  have HSF := Lib.hid hsf
                  have HKD := Lib.hid hkd
                  clear hsf hkd
                  rcases hb3 with hbv | hbv | hbv
                  ·
                    obtain rfl : kd = 5 := by rw [← HKD.out, hbv]; rfl
                    have t1 : (bt s nq == 43) = false := by rw [HBT.out, hbv]; rfl
                    have t2 : (bt s nq == 63) = false := by rw [HBT.out, hbv]; rfl
                    clear hbv
                    go_wp2_with fail
                    refine HIN.out.mono ?_
                    rintro e w3 ⟨rfl, rfl⟩
                    go_wp2_with fail
                    refine HON.out.mono ?_
                    rintro e w4 ⟨v, rfl, ho4, hb4⟩
                    obtain ⟨A4, c4, rfl, _, _⟩ := own_form ho4
                    have HO4 := Lib.hid (own_mono ho4 HBQ.out.size)
                    have HB4 := Lib.hid (HBQ.out.trans (hb4.mono HBQ.out.size))
                    clear ho4 hb4
                    go_wp2_with fail
                    go_roundg (s.size - (nq + 1))
                    case measure => omega
                    case rel => exact ⟨A4, c4, oneF ll 5, nq + 1, by omega, by omega, rfl, rfl, rfl, HO4.out, HSF.out, by unfold oneF; rw [List.length_append]; simp; omega, HB4.out⟩
                  ·
                    obtain rfl : kd = 6 := by rw [← HKD.out, hbv]; rfl
                    have t1 : (bt s nq == 43) = true := by rw [HBT.out, hbv]; rfl
                    have t2 : (bt s nq == 63) = false := by rw [HBT.out, hbv]; rfl
                    clear hbv
                    go_wp2_with fail
                    refine HIN.out.mono ?_
                    rintro e w3 ⟨rfl, rfl⟩
                    go_wp2_with fail
                    refine HON.out.mono ?_
                    rintro e w4 ⟨v, rfl, ho4, hb4⟩
                    obtain ⟨A4, c4, rfl, _, _⟩ := own_form ho4
                    have HO4 := Lib.hid (own_mono ho4 HBQ.out.size)
                    have HB4 := Lib.hid (HBQ.out.trans (hb4.mono HBQ.out.size))
                    clear ho4 hb4
                    go_wp2_with fail
                    go_roundg (s.size - (nq + 1))
                    case measure => omega
                    case rel => exact ⟨A4, c4, oneF ll 6, nq + 1, by omega, by omega, rfl, rfl, rfl, HO4.out, HSF.out, by unfold oneF; rw [List.length_append]; simp; omega, HB4.out⟩
                  ·
                    obtain rfl : kd = 7 := by rw [← HKD.out, hbv]; rfl
                    have t1 : (bt s nq == 43) = false := by rw [HBT.out, hbv]; rfl
                    have t2 : (bt s nq == 63) = true := by rw [HBT.out, hbv]; rfl
                    clear hbv
                    go_wp2_with fail
                    refine HIN.out.mono ?_
                    rintro e w3 ⟨rfl, rfl⟩
                    go_wp2_with fail
                    refine HON.out.mono ?_
                    rintro e w4 ⟨v, rfl, ho4, hb4⟩
                    obtain ⟨A4, c4, rfl, _, _⟩ := own_form ho4
                    have HO4 := Lib.hid (own_mono ho4 HBQ.out.size)
                    have HB4 := Lib.hid (HBQ.out.trans (hb4.mono HBQ.out.size))
                    clear ho4 hb4
                    go_wp2_with fail
                    go_roundg (s.size - (nq + 1))
                    case measure => omega
                    case rel => exact ⟨A4, c4, oneF ll 7, nq + 1, by omega, by omega, rfl, rfl, rfl, HO4.out, HSF.out, by unfold oneF; rw [List.length_append]; simp; omega, HB4.out⟩
end Go.Proofs.Ytmkgipoljbiocaa
/- A net: whose token some spots are: the document's. -/
namespace Go.Proofs.Ytmkgipoljbiocaa
open Go.RowKit
set_option linter.unusedVariables false

def tokZ (N : NetS) (t z : Int) : Int := if 0 ≤ z ∧ z < (N.sets.length : Int) ∧ N.last[z.toNat]? = some true ∧ (t < 0 ∨ (N.of[z.toNat]?).getD 0 < t) then (N.of[z.toNat]?).getD 0 else t
def tokenL (N : NetS) (xs : List Int) : Int := if netR N = true then xs.foldl (tokZ N) (-1) else -1
theorem foldl_take {α β : Type} {f : β → α → β} {b : β} {l : List α} {k : Nat} {z : α} (h : l[k]? = some z) : (l.take (k + 1)).foldl f b = f ((l.take k).foldl f b) z := by
  rw [take_snoc h, List.foldl_append]; rfl
set_option maxHeartbeats 4000000 in
set_option maxRecDepth 100000 in
theorem rtoken_any (w : World) (v : Nv) (N : NetS) (a : Option Addr) (n c : Nat) (xs : List Int) (hv : NetAt w v N) (h : CRow intC 1 w a n xs) :
    Calls Try.prog 39 #[.agg (netA v), .slice a n c] w fun e w' => e = .returned (.int .i64 (tokenL N xs)) ∧ Below w.heap.size w w' := by
  have HV := Lib.hid hv
  have HH := Lib.hid h
  have hl1 := Lib.hid h.1
  have hln := h.2.1
  have hls := hv.s.2.1
  have HLS := Lib.hid hv.s.1
  have HLO := Lib.hid hv.o.1
  have HLL := Lib.hid hv.l.1
  obtain ⟨g, hg⟩ : ∃ g, w.heap.size = g := ⟨_, rfl⟩
  have HG := Lib.hid hg
  obtain ⟨W1, hW1⟩ : ∃ W, W = w.alloc (.cells (netA v) 27) := ⟨_, rfl⟩
  have hb1 : Below g w W1 := by rw [hW1, ← hg]; exact (Below.refl _ _).alloc (Nat.le_refl _) _
  have hs1 : W1.heap.size = g + 1 := by rw [hW1, ← hg]; simp
  have hbx : W1.heap[g]? = some (.cells (netA v) 27 (0, 0)) := by rw [hW1, ← hg]; exact heap_alloc_new w _
  have HR := Lib.hid (rnet_any W1 v N (hv.below (by rw [hg]; exact hb1)))
  rw [hW1] at HR
  have HBX := Lib.hid hbx
  have HB1 := Lib.hid hb1
  have HS1 := Lib.hid hs1
  have HW1 := Lib.hid hW1
  obtain ⟨cc0, cc1, cc2, cc3, cc4⟩ := netC (W := w.alloc (.cells (netA v) 27)) (g := g) (v := v) (by rw [← hg]; exact heap_alloc_new w _)
  obtain ⟨r, hr⟩ : ∃ r, netR N = r := ⟨_, rfl⟩
  have HRR := Lib.hid hr
  rw [hr] at HR
  obtain ⟨tk, htk⟩ : ∃ t, tokenL N xs = t := ⟨_, rfl⟩
  have HTK := Lib.hid htk
  rw [htk]
  clear hv hbx hb1 hs1 hW1 hr h htk
  go_enter Try.func39, Try.ntmps39
  go_wp2_with fail
  refine HR.out.mono ?_
  rintro e w2 ⟨rfl, hb2⟩
  rw [← HW1.out, HS1.out] at hb2
  have HB2 := Lib.hid hb2
  have HBT := Lib.hid (HB1.out.trans (hb2.mono (by omega)))
  have hs2 : g + 1 ≤ w2.heap.size := by have := hb2.size; have := HS1.out; omega
  clear hb2 HR hg cc0 cc1 cc2 cc3 cc4
  cases r with
  | false =>
    have HE : Hid (tk = -1) := Lib.hid (by rw [← HTK.out]; unfold tokenL; rw [HRR.out]; rfl)
    go_wp2
    go_ret
    exact ⟨ret_int HE.out.symm, by rw [HG.out]; exact HBT.out⟩
  | true =>
    obtain ⟨ho, hl, _⟩ := netR_len HRR.out
    have hon : v.on = v.sn := by rw [← HLO.out, ← HLS.out]; exact ho
    have hlnn : v.ln = v.sn := by rw [← HLL.out, ← HLS.out]; exact hl
    have HON := Lib.hid hon
    have HLNN := Lib.hid hlnn
    have HE : Hid (xs.foldl (tokZ N) (-1) = tk) := Lib.hid (by rw [← HTK.out]; unfold tokenL; rw [HRR.out]; rfl)
    clear ho hl hon hlnn
    go_wp2
    go_loopw [5, 6] (fun u i wr => ∃ k m : Nat, k ≤ n ∧ i = .int .i64 (k : Int) ∧ u = .int .i64 ((xs.take k).foldl (tokZ N) (-1)) ∧ wr = w2.drewN m) (fun _ i _ => n - (intOf i).toNat)
    case atStart => exact ⟨0, 0, by omega, rfl, rfl, rfl⟩
    case round =>
      obtain ⟨k, m, hk, rfl, rfl, hwr⟩ := hrel
      have HWR := Lib.hid hwr
      have hbw : Below (g + 1) W1 wr := by rw [hwr]; exact HB2.out.trans ((below_drewN w2 m).mono (by omega))
      have hgl : g + 1 ≤ wr.heap.size := by have := HS1.out; have := hbw.size; omega
      obtain ⟨c0, c1, c2, c3, c4⟩ := netC ((hbw.block g (by omega)).trans HBX.out)
      have HBTW := Lib.hid (HB1.out.trans (hbw.mono (by omega)))
      have HVW := Lib.hid (HV.out.below (w' := wr) (by rw [HG.out]; exact HBTW.out))
      clear hwr hbw
      by_cases hlt : k < n
      · have h0 : (0 : Int) ≤ (k : Int) := by omega
        have h1 : (k : Int) < (n : Int) := by omega
        obtain ⟨b1, off1, z, rfl, hbl1, hz, d1⟩ := (HH.out.below (w' := wr) (by rw [HG.out]; exact HBTW.out)).int (k := k) (by omega)
        have HNX := Lib.hid (foldl_take (f := tokZ N) (b := -1) hz)
        obtain ⟨t, ht⟩ : ∃ t, (xs.take k).foldl (tokZ N) (-1) = t := ⟨_, rfl⟩
        rw [ht] at HNX ⊢
        clear ht hz
        by_cases hz0 : z < 0
        · have HNE : Hid ((xs.take (k + 1)).foldl (tokZ N) (-1) = t) := Lib.hid (by rw [HNX.out]; unfold tokZ; rw [if_neg (by omega)])
          have z1 : ¬ 0 ≤ z := by omega
          have z2 : decide (0 ≤ z) = false := decide_eq_false z1
          go_wp2
          go_quiet (fail)
          go_wp2
          go_roundw
          case rel => exact ⟨k + 1, m + nq, by omega, by go_num, by rw [HNE.out], by rw [HWR.out]; simp [World.drewN, Nat.add_assoc]⟩
          case measure => simp [intOf]; omega
        · have z1 : 0 ≤ z := by omega
          have z2 : decide (0 ≤ z) = true := decide_eq_true z1
          by_cases hz1 : z < (v.sn : Int)
          case neg =>
            have z3 : decide (z < (v.sn : Int)) = false := decide_eq_false hz1
            have HNE : Hid ((xs.take (k + 1)).foldl (tokZ N) (-1) = t) := Lib.hid (by rw [HNX.out]; unfold tokZ; rw [if_neg (by rw [HLS.out]; omega)])
            go_wp2
            go_quiet (fail)
            go_wp2
            go_roundw
            case rel => exact ⟨k + 1, m + nq, by omega, by go_num, by rw [HNE.out], by rw [HWR.out]; simp [World.drewN, Nat.add_assoc]⟩
            case measure => simp [intOf]; omega
          case pos =>
            obtain ⟨y, rfl⟩ : ∃ y : Nat, z = (y : Int) := ⟨z.toNat, by omega⟩
            have hyo : (y : Int) < (v.on : Int) := by have := HON.out; omega
            have hyl : (y : Int) < (v.ln : Int) := by have := HLNN.out; omega
            have hys : y < v.sn := by omega
            obtain ⟨b2, off2, L, ha2, hbl2, hL, d2⟩ := HVW.out.l.bool (k := y) (by omega)
            obtain ⟨b3, off3, f, ha3, hbl3, hf, d3⟩ := HVW.out.o.int (k := y) (by omega)
            have HNX2 : Hid ((xs.take (k + 1)).foldl (tokZ N) (-1) = if L = true ∧ (t < 0 ∨ f < t) then f else t) := Lib.hid (by
              rw [HNX.out]; unfold tokZ
              rw [Int.toNat_natCast, hL, hf]
              by_cases hc : L = true ∧ (t < 0 ∨ f < t)
              · rw [if_pos hc, if_pos ⟨by omega, by rw [HLS.out]; omega, by rw [hc.1], hc.2⟩]; rfl
              · rw [if_neg hc, if_neg (fun h => hc ⟨by simpa using h.2.2.1, h.2.2.2⟩)])
            rw [ha2] at c2
            rw [ha3] at c1
            clear hL hf ha2 ha3 HNX
            cases L with
            | false =>
              have HNE : Hid ((xs.take (k + 1)).foldl (tokZ N) (-1) = t) := Lib.hid (by rw [HNX2.out]; simp)
              clear HNX2
              go_wp2
              go_quiet (fail)
              go_wp2
              go_roundw
              case rel => exact ⟨k + 1, m + nq, by omega, by go_num, by rw [HNE.out], by rw [HWR.out]; simp [World.drewN, Nat.add_assoc]⟩
              case measure => simp [intOf]; omega
            | true =>
              by_cases ht0 : t < 0
              · have HNE : Hid ((xs.take (k + 1)).foldl (tokZ N) (-1) = f) := Lib.hid (by rw [HNX2.out, if_pos ⟨rfl, .inl ht0⟩])
                have t2 : decide (t < 0) = true := decide_eq_true ht0
                clear HNX2
                go_wp2
                go_quiet (fail)
                generalize nq = nA
                go_wp2
                go_quiet (fail)
                go_wp2
                go_roundw
                case rel => exact ⟨k + 1, m + nA + nq, by omega, by go_num, by rw [HNE.out], by rw [HWR.out]; simp [World.drewN, Nat.add_assoc]⟩
                case measure => simp [intOf]; omega
              · have t2 : decide (t < 0) = false := decide_eq_false ht0
                by_cases hft : f < t
                · have HNE : Hid ((xs.take (k + 1)).foldl (tokZ N) (-1) = f) := Lib.hid (by rw [HNX2.out, if_pos ⟨rfl, .inr hft⟩])
                  have t3 : decide (f < t) = true := decide_eq_true hft
                  clear HNX2
                  go_wp2
                  go_quiet (fail)
                  generalize nq = nA
                  go_wp2
                  go_quiet (fail)
                  go_wp2
                  go_roundw
                  case rel => exact ⟨k + 1, m + nA + nq, by omega, by go_num, by rw [HNE.out], by rw [HWR.out]; simp [World.drewN, Nat.add_assoc]⟩
                  case measure => simp [intOf]; omega
                · have HNE : Hid ((xs.take (k + 1)).foldl (tokZ N) (-1) = t) := Lib.hid (by rw [HNX2.out, if_neg (by omega)])
                  have t3 : decide (f < t) = false := decide_eq_false hft
                  clear HNX2
                  go_wp2
                  go_quiet (fail)
                  go_wp2
                  go_roundw
                  case rel => exact ⟨k + 1, m + nq, by omega, by go_num, by rw [HNE.out], by rw [HWR.out]; simp [World.drewN, Nat.add_assoc]⟩
                  case measure => simp [intOf]; omega
      · have hk2 : k = n := by omega
        have HK : Hid ((xs.take k).foldl (tokZ N) (-1) = tk) := Lib.hid (by rw [List.take_of_length_le (by rw [hl1.out]; omega)]; exact HE.out)
        rw [HK.out]
        have z1 : ¬ (k : Int) < (n : Int) := by omega
        clear hk2
        go_wp2
        go_ret
        exact ⟨rfl, by rw [HG.out]; exact HBTW.out⟩
end Go.Proofs.Ytmkgipoljbiocaa
/- Where a list stands among others. -/
namespace Go.Proofs.Ytmkgipoljbiocaa
open Go.RowKit
set_option linter.unusedVariables false

/-- Where a list stands among others; -1. -/
def findL : List (List Int) → List Int → Int
  | [], _ => -1
  | y :: l, x => if y = x then 0 else if findL l x < 0 then -1 else findL l x + 1
theorem findL_ge (l : List (List Int)) (x : List Int) : -1 ≤ findL l x ∧ findL l x < l.length := by
  induction l with
  | nil => simp [findL]
  | cons y l ih =>
    simp only [findL, List.length_cons]
    split
    · omega
    · split <;> omega
theorem findL_no {l : List (List Int)} {x : List Int} (h : x ∉ l) : findL l x = -1 := by
  induction l with
  | nil => rfl
  | cons y l ih =>
    simp only [List.mem_cons, not_or] at h
    simp only [findL]
    rw [if_neg (fun e => h.1 e.symm), ih h.2]; simp
theorem findL_at {l : List (List Int)} {x : List Int} : ∀ {k : Nat}, l[k]? = some x → x ∉ l.take k → findL l x = (k : Int) := by
  induction l with
  | nil => intro k h; simp at h
  | cons y l ih =>
    intro k h hn
    cases k with
    | zero => simp at h; simp [findL, h]
    | succ k =>
      simp only [List.getElem?_cons_succ] at h
      simp only [List.take_succ_cons, List.mem_cons, not_or] at hn
      simp only [findL]
      rw [if_neg (fun e => hn.1 e.symm), ih h hn.2, if_neg (by omega)]
      push_cast; rfl
theorem rfind_any (w : World) (a b : Option Addr) (n m c d : Nat) (ls : List (List Int)) (xs : List Int) (h : NRow intC 1 w a n ls) (h' : CRow intC 1 w b m xs) :
    Calls Try.prog 38 #[.slice a n c, .slice b m d] w fun e w' => e = .returned (.int .i64 (findL ls xs)) ∧ Below w.heap.size w w' := by
  have hl1 := Lib.hid h.len.1
  have hl1' := Lib.hid h'.1
  have hl2 := h.len.2
  have hl2' := h'.2.1
  have HH := Lib.hid h
  have HH' := Lib.hid h'
  clear h h'
  go_enter Try.func38, Try.ntmps38
  go_wp2
  go_loopw [5] (fun i wr => ∃ k : Nat, k ≤ n ∧ i = .int .i64 (k : Int) ∧ xs ∉ ls.take k ∧ Below w.heap.size w wr) (fun i _ => n - (intOf i).toNat)
  case atStart => exact ⟨0, by omega, rfl, by simp, Below.refl _ _⟩
  case round =>
    obtain ⟨k, hk, rfl, hno, hwr⟩ := hrel
    have HN := Lib.hid hno
    have HW := Lib.hid hwr
    clear hno hwr
    by_cases hlt : k < n
    · obtain ⟨b1, off, l, rfl, hb, hl, A, cc, hc, hr⟩ := (HH.out.below HW.out).at_ hlt
      have h0 : (0 : Int) ≤ (k : Int) := by omega
      have h1 : (k : Int) < (n : Int) := by omega
      have HL := Lib.hid hl
      have HS := Lib.hid (rsame_any wr A b l.length m cc d l xs hr (HH'.out.below HW.out))
      obtain ⟨r, hr2⟩ : ∃ r, (l == xs) = r := ⟨_, rfl⟩
      have HR := Lib.hid hr2
      rw [hr2] at HS
      clear hl hr hr2
      cases r
      · have HE : Hid (xs ∉ ls.take (k + 1)) := Lib.hid (by
          rw [take_snoc HL.out, List.mem_append, List.mem_singleton]
          rintro (h | h)
          · exact HN.out h
          · have := HR.out; rw [h, beq_self_eq_true] at this; cases this)
        go_wp2_with (go_at_call 40; refine HS.out.mono ?_; rintro e w2 ⟨rfl, hb2⟩; have HB2 := Lib.hid (HW.out.trans (hb2.mono HW.out.size)); clear hb2)
        go_roundw
        case rel => exact ⟨k + 1, by omega, by go_num, HE.out, HB2.out⟩
        case measure => simp [intOf]; omega
      · have HE : Hid (findL ls xs = (k : Int)) := Lib.hid (by
          have e := HR.out
          rw [beq_iff_eq] at e
          subst e
          exact findL_at HL.out HN.out)
        go_wp2_with (go_at_call 40; refine HS.out.mono ?_; rintro e w2 ⟨rfl, hb2⟩; have HB2 := Lib.hid (HW.out.trans (hb2.mono HW.out.size)); clear hb2)
        go_ret
        exact ⟨ret_int HE.out.symm, HB2.out⟩
    · have hk2 : k = n := by omega
      have HE : Hid (findL ls xs = -1) := Lib.hid (findL_no (by
        have := HN.out
        rwa [hk2, List.take_of_length_le (by rw [hl1.out]; exact Nat.le_refl _)] at this))
      subst hk2
      go_wp2
      go_ret
      exact ⟨ret_int HE.out.symm, HW.out⟩
end Go.Proofs.Ytmkgipoljbiocaa
/- One more behind a row of the call's own. -/
namespace Go.Proofs.Ytmkgipoljbiocaa
open Go.RowKit

theorem app1 {P : Program} {T e : TypeId} {i : TypeInfo} {z : Value} {bytes : Nat} (ht : P.underlying T = some (.slice e)) (hi : P.info? e = some i) (hz : i.zero = some z) (hsz : i.size = 1) (hby : i.bytes = bytes) (hzs : z.cells.size = 1)
    {w : World} {base n : Nat} {v u : Value} {xs : List Value} (hown : w.ownsRow base e 1 v n xs) (h1 : u.oneCell' = true) (hn : n + 1 ≤ maxLen) (hb : (n + 1) * bytes ≤ 140737488355328) (hbase : base ≤ w.heap.size)
    (ops : Array Oper) (rest : List Oper) (o : Oper) (a : Act) (Q : Exit → Act → World → Prop) (hg : o.guard = none) (s x : Operand) (ho : o.op = .call { callee := .builtin .append, args := #[s, x], argTypes := #[T, T] })
    (hs : a.eval s = v) (hx : a.eval x = .slice (some ⟨w.heap.size, 0, none⟩) 1 1)
    (h : ∀ v' w', w'.ownsRow base e 1 v' (n + 1) (xs ++ [u]) → (w.alloc (.cells #[u] e)).grownBy w' v.ownBlock → wpList P ops Q rest (a.put o.dst v') w') : wpList P ops Q (o :: rest) a (w.alloc (.cells #[u] e)) :=
  wpList_append_own _ hg s x T ho base e i z 1 bytes ht hi hz hsz hby hzs (by decide) v n xs hs (hown.alloc _) ⟨w.heap.size, 0, none⟩ 1 1 [u] hx rfl (cell_one_new _ _ _) (by simpa using h1) hn hb
    (by simp; omega) fun v' w' h2 h3 _ => h v' w' h2 h3
/-- What was there has not turned. -/
theorem app1_below {B : Nat} {w w1 wr : World} {e : TypeId} {size : Nat} {v : Value} {n : Nat} {xs : List Value} {o : Obj} (hb : Below B w wr) (hB : B ≤ wr.heap.size) (hown : wr.ownsRow B e size v n xs) (hg : (wr.alloc o).grownBy w1 v.ownBlock) : Below B w w1 :=
  (hb.alloc hB _).grown hg (by simp; omega) fun k hk => (hown.lt k hk).1
theorem own_form0 {w : World} {base : Nat} {e : TypeId} {size : Nat} {v : Value} {n : Nat} {xs : List Value} (h : w.ownsRow base e size v n xs) : ∃ A c, v = .slice A n c := by
  rcases h.2 with ⟨rfl, rfl⟩ | ⟨g, cap, cur, rfl, _⟩
  · exact ⟨_, _, rfl⟩
  · exact ⟨_, _, rfl⟩
theorem own_mono0 {w : World} {base base' : Nat} {e : TypeId} {size : Nat} {v : Value} {n : Nat} {xs : List Value} (h : w.ownsRow base e size v n xs) (hb : base' ≤ base) : w.ownsRow base' e size v n xs := by
  obtain ⟨h1, h2⟩ := h
  refine ⟨h1, ?_⟩
  rcases h2 with h2 | ⟨g, cap, cur, hv, hg, r⟩
  · exact .inl h2
  · exact .inr ⟨g, cap, cur, hv, by omega, r⟩
/-- An owned row, read as cells. -/
theorem own_cells {w : World} {base : Nat} {e : TypeId} {n c : Nat} {A : Option Addr} {xs : List Value} (h : w.ownsRow base e 1 (.slice A n c) n xs) (hp : 0 < n) : ∃ g, A = some ⟨g, 0, none⟩ ∧ base ≤ g ∧ g < w.heap.size ∧ ∀ i u, xs[i]? = some u → w.cell? ⟨g, i, none⟩ = some u := by
  rcases h.2 with ⟨_, h0⟩ | ⟨g, cap, cur, hv, hb, _⟩
  · omega
  · injection hv with hA
    subst hA
    refine ⟨g, rfl, hb, (h.lt g rfl).2, fun i u hu => ?_⟩
    have := h.cells (g := g) rfl i u hu
    have e : (⟨g, 0, none⟩ : Addr).add i = ⟨g, i, none⟩ := by unfold Addr.add; split <;> simp_all
    rwa [e] at this
end Go.Proofs.Ytmkgipoljbiocaa
