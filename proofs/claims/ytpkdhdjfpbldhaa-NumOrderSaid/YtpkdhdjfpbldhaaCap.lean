import Derived.Test.YtpkdhdjfpbldhaaShow
namespace Go.Proofs.Ytpkdhdjfpbldhaa
open Go.RowKit

/-- The slice value reads as the list. -/
def IRow (w : World) (a : Option Addr) (len : Nat) (xs : List Int) : Prop :=
  xs.length = len ∧ len ≤ 9223372036854775807 ∧ (∀ i, -9223372036854775808 ≤ xs.getD i 0 ∧ xs.getD i 0 ≤ 9223372036854775807) ∧
  (0 < len → ∃ b off, a = some ⟨b, off, none⟩ ∧ b < w.heap.size ∧ ∀ i, i < len → w.cell? ⟨b, off + i, none⟩ = some (.int .i64 (xs.getD i 0)))
theorem IRow.below {w w' : World} {a : Option Addr} {len : Nat} {xs : List Int} (h : IRow w a len xs) (hb : Below w.heap.size w w') : IRow w' a len xs := by
  obtain ⟨h1, h2, h3, h4⟩ := h
  refine ⟨h1, h2, h3, fun hp => ?_⟩
  obtain ⟨b, off, ha, hlt, hc⟩ := h4 hp
  exact ⟨b, off, ha, by have := hb.size; omega, fun i hi => (hb.cell (p := ⟨b, off + i, none⟩) hlt).trans (hc i hi)⟩

def posSum : List Int → Int
  | [] => 0
  | x :: l => max x 0 + posSum l
def capN (top : Int) (l : List Int) : Int := if top < 0 then 0 else min top (posSum l)

theorem posSum_nonneg : ∀ l, 0 ≤ posSum l
  | [] => by simp [posSum]
  | x :: l => by have := posSum_nonneg l; simp only [posSum]; omega
theorem posSum_append : ∀ l m, posSum (l ++ m) = posSum l + posSum m
  | [], m => by simp [posSum]
  | x :: l, m => by simp only [List.cons_append, posSum, posSum_append l m]; omega
theorem posSum_take (l : List Int) (k : Nat) (h : k < l.length) : posSum (l.take (k + 1)) = posSum (l.take k) + max (l.getD k 0) 0 := by
  rw [List.take_succ_eq_append_getElem h, posSum_append]
  simp [posSum, h]

theorem ret_int {k : IntKind} {a b : Int} (h : a = b) : Ending.returned (.int k a) = .returned (.int k b) := by rw [h]

/-- One number more. -/
theorem add_any (n top s : Int) (w : World) (h0 : 0 ≤ s) (h1 : s ≤ top) (h2 : top ≤ 9223372036854775807) (hn : n ≤ 9223372036854775807) :
    Calls Try.prog 20 #[.int .i64 n, .pointer (some ⟨w.heap.size, 0, none⟩), .pointer (some ⟨w.heap.size + 1, 0, none⟩)] ((w.alloc (.cells #[.int .i64 top] 3)).alloc (.cells #[.int .i64 s] 3))
      fun e w' => e = .returned (.tuple #[]) ∧ ((w.alloc (.cells #[.int .i64 top] 3)).alloc (.cells #[.int .i64 (min top (s + max n 0))] 3)) = w' := by
  have key : ∀ m : Int, min top (s + max n 0) = m → ((w.alloc (.cells #[.int .i64 top] 3)).alloc (.cells #[.int .i64 (min top (s + max n 0))] 3)) = ((w.alloc (.cells #[.int .i64 top] 3)).alloc (.cells #[.int .i64 m] 3)) := fun m h => by rw [h]
  have Key := Lib.hid key
  clear key
  by_cases hn0 : n < 0
  · have hz : ¬ top - s < 0 := by omega
    go_enter Try.func20, Try.ntmps20
    go_wp2
    go_end0
    exact ⟨rfl, Key.out _ (by omega)⟩
  · by_cases hc : top - s < n
    · go_enter Try.func20, Try.ntmps20
      go_wp2
      refine bodyPost_ret (results_none rfl _ _ _) rfl ?_
      exact ⟨rfl, Key.out _ (by omega)⟩
    · go_enter Try.func20, Try.ntmps20
      go_wp2
      go_end0
      exact ⟨rfl, Key.out _ (by omega)⟩

theorem cap_any (top : Int) (w : World) (a : Option Addr) (len cap : Nat) (xs : List Int) (h : IRow w a len xs) (h1 : -9223372036854775808 ≤ top) (h2 : top ≤ 9223372036854775807) :
    Calls Try.prog 14 #[.int .i64 top, .slice a len cap] w fun e w' => e = .returned (.int .i64 (capN top xs)) ∧ Below w.heap.size w w' := by
  by_cases ht : top < 0
  · have hc : Hid (capN top xs = 0) := by unfold capN; exact if_pos ht
    go_enter Try.func14, Try.ntmps14
    go_wp2
    go_ret
    exact ⟨ret_int hc.out.symm, (Below.refl _ _).alloc (Nat.le_refl _) _⟩
  · have hc : Hid (capN top xs = min top (posSum xs)) := by unfold capN; exact if_neg ht
    have hl1 := h.1
    have hl2 := h.2.1
    have Hl := Lib.hid hl1
    clear hl1
    go_enter Try.func14, Try.ntmps14
    go_wp2
    go_loopw [14] (fun i wr => ∃ k : Nat, k ≤ len ∧ i = .int .i64 k ∧ wr = (w.alloc (.cells #[.int .i64 top] 3)).alloc (.cells #[.int .i64 (min top (posSum (xs.take k)))] 3)) (fun i _ => len - (intOf i).toNat)
    case atStart => exact ⟨0, by omega, rfl, by simp only [List.take_zero, posSum]; rw [show min top 0 = 0 by omega]⟩
    case round =>
      obtain ⟨k, hk, rfl, rfl⟩ := hrel
      have hp := posSum_nonneg (xs.take k)
      by_cases hlt : k < len
      · obtain ⟨b, off, rfl, hb, hcell⟩ := h.2.2.2 (by omega)
        have hck : ((w.alloc (.cells #[.int .i64 top] 3)).alloc (.cells #[.int .i64 (min top (posSum (xs.take k)))] 3)).cell? ⟨b, off + k, none⟩ = some (.int .i64 (xs.getD k 0)) := by
          rw [World.cell?_alloc_lt _ _ _ (by simp; omega), World.cell?_alloc_lt _ _ _ (by simpa using hb)]
          exact hcell k hlt
        have hx := h.2.2.1 k
        have Hs : Hid (min top (posSum (xs.take (k + 1))) = min top (min top (posSum (xs.take k)) + max (xs.getD k 0) 0)) := by
          show _ = _
          rw [posSum_take xs k (by rw [Hl.out]; exact hlt)]; omega
        have hm0 : 0 ≤ min top (posSum (xs.take k)) := by omega
        have hm1 : min top (posSum (xs.take k)) ≤ top := by omega
        clear hcell
        go_wp2_with (go_at_call 20; refine (add_any _ _ _ _ hm0 hm1 h2 hx.2).mono ?_; rintro e w' ⟨rfl, rfl⟩)
        go_roundw
        case rel => exact ⟨k + 1, by omega, by go_num, by rw [Hs.out]; simp⟩
        case measure => simp [intOf]; omega
      · have Hk : Hid (xs.take k = xs) := by
          show _ = _
          exact List.take_of_length_le (by rw [Hl.out]; omega)
        go_wp2
        go_ret
        exact ⟨ret_int (by rw [hc.out, Hk.out]), ((Below.refl _ _).alloc (Nat.le_refl _) _).alloc (by simp) _⟩

theorem refcap_any (top : Int) (w : World) (a : Option Addr) (len cap : Nat) (xs : List Int) (h : IRow w a len xs) (h1 : -9223372036854775808 ≤ top) (h2 : top ≤ 9223372036854775807) :
    Calls Try.prog 15 #[.int .i64 top, .slice a len cap] w fun e w' => e = .returned (.int .i64 (capN top xs)) ∧ w = w' := by
  have hl1 := h.1
  have hl2 := h.2.1
  have Hl := Lib.hid hl1
  clear hl1
  by_cases ht : top < 0
  · have hc : Hid (capN top xs = 0) := by unfold capN; exact if_pos ht
    go_enter Try.func15, Try.ntmps15
    go_wp2
    go_loop [5, 6] (fun s i => s = .int .i64 0 ∧ i = .int .i64 0) (fun _ _ => 0)
    case atStart => exact ⟨rfl, rfl⟩
    case round =>
      obtain ⟨rfl, rfl⟩ := hrel
      by_cases hlt : 0 < len
      · go_wp2
        go_ret
        exact ⟨ret_int hc.out.symm, rfl⟩
      · go_wp2
        go_ret
        exact ⟨ret_int hc.out.symm, rfl⟩
  · have hc : Hid (capN top xs = min top (posSum xs)) := by unfold capN; exact if_neg ht
    go_enter Try.func15, Try.ntmps15
    go_wp2
    go_loop [5, 6] (fun s i => ∃ k : Nat, k ≤ len ∧ i = .int .i64 k ∧ s = .int .i64 (min top (posSum (xs.take k)))) (fun _ i => len - (intOf i).toNat)
    case atStart => exact ⟨0, by omega, rfl, by simp only [List.take_zero, posSum]; rw [show min top 0 = 0 by omega]⟩
    case round =>
      obtain ⟨k, hk, rfl, rfl⟩ := hrel
      have hp := posSum_nonneg (xs.take k)
      by_cases hlt : k < len
      · obtain ⟨b, off, rfl, hb, hcell⟩ := h.2.2.2 (by omega)
        have hck := hcell k hlt
        have hx := h.2.2.1 k
        have Hs : Hid (min top (posSum (xs.take (k + 1))) = min top (min top (posSum (xs.take k)) + max (xs.getD k 0) 0)) := by
          show _ = _
          rw [posSum_take xs k (by rw [Hl.out]; exact hlt)]; omega
        obtain ⟨m, hm⟩ : ∃ m, min top (posSum (xs.take k)) = m := ⟨_, rfl⟩
        obtain ⟨x, hxx⟩ : ∃ x, xs.getD k 0 = x := ⟨_, rfl⟩
        rw [hm, hxx] at Hs
        rw [hxx] at hck hx
        rw [hm]
        have hm0 : 0 ≤ m := by omega
        have hm1 : m ≤ top := by omega
        clear hcell hm hxx hp
        have hx1 := hx.1
        have hx2 := hx.2
        clear hx
        by_cases c1 : top - m < x
        · go_wp2
          go_round
          case rel => exact ⟨k + 1, by omega, by go_num, by rw [Hs.out]; refine congrArg _ ?_; omega⟩
          case measure => simp [intOf]; omega
        · by_cases c2 : 0 < x
          · go_wp2
            go_round
            case rel => exact ⟨k + 1, by omega, by go_num, by rw [Hs.out]; refine congrArg _ ?_; omega⟩
            case measure => simp [intOf]; omega
          · go_wp2
            go_round
            case rel => exact ⟨k + 1, by omega, by go_num, by rw [Hs.out]; refine congrArg _ ?_; omega⟩
            case measure => simp [intOf]; omega
      · have Hk : Hid (xs.take k = xs) := by
          show _ = _
          exact List.take_of_length_le (by rw [Hl.out]; omega)
        go_wp2
        go_ret
        exact ⟨ret_int (by rw [hc.out, Hk.out]), rfl⟩
end Go.Proofs.Ytpkdhdjfpbldhaa
