/- What a token is for. -/
import Derived.Test.YtdffilenphglgaaRows
import Derived.Test.YtdffilenphglgaaCRow
import Derived.WalkKit
import Derived.Lib.Hide
import Derived.Deep.QuietTactic
import Derived.BigQuiet
namespace Go.Proofs.Ytdffilenphglgaa
open Go.RowKit

theorem ret_int {k : IntKind} {a b : Int} (h : a = b) : Ending.returned (.int k a) = .returned (.int k b) := by rw [h]
theorem ret_bool {a b : Bool} (h : a = b) : Ending.returned (.bool a) = .returned (.bool b) := by rw [h]
theorem keeps {W w1 : World} (hb : Below W.heap.size W w1) : ∀ p u, W.cell? p = some u → w1.cell? p = some u :=
  fun p _ h => (hb.cell (World.block_lt_of_cell? W p h)).trans h
theorem below_of_eq {w w' : World} (h : w' = w) : Below w.heap.size w w' := by subst h; exact Below.refl _ _
theorem below_drewN (w : World) (n : Nat) : Below w.heap.size w (w.drewN n) := ⟨rfl, rfl, rfl, Nat.le_refl _, fun _ _ => rfl⟩

/-- A token, as far as it is looked at. -/
structure Tk where
  nm : Value
  rx : Value
  c : Int
instance : Inhabited Tk := ⟨⟨.bool false, .bool false, 0⟩⟩
def tkC (t : Tk) : List Value := [t.nm, t.rx, .int .i64 t.c]
/-- 0: nothing, 1: a blank, 2: a note. -/
def clc (c : Int) : Int := if c = 2 ∨ c = 3 then 2 else if c = 1 then 1 else 0
def cl (ts : List Tk) (t : Int) : Int := if t < 0 then 0 else match ts[t.toNat]? with | some k => clc k.c | none => 0
def trivB (ts : List Tk) (t : Int) : Bool := decide (0 < cl ts t)
def noteB (ts : List Tk) (t : Int) : Bool := decide (1 < cl ts t)
def isB (ts : List Tk) (t c : Int) : Bool := if t < 0 then false else match ts[t.toNat]? with | some k => k.c == c | none => false
theorem cl_neg {ts : List Tk} {t : Int} (h : t < 0) : cl ts t = 0 := if_pos h
theorem cl_far {ts : List Tk} {t : Int} (h : (ts.length : Int) ≤ t) : cl ts t = 0 := by
  unfold cl
  rw [if_neg (by omega), List.getElem?_eq_none (by omega)]
theorem cl_at {ts : List Tk} {n : Nat} {k : Tk} (h : ts[n]? = some k) : cl ts n = clc k.c := by
  unfold cl
  rw [if_neg (by omega), Int.toNat_natCast, h]
theorem isB_neg {ts : List Tk} {t c : Int} (h : t < 0) : isB ts t c = false := if_pos h
theorem isB_far {ts : List Tk} {t c : Int} (h : (ts.length : Int) ≤ t) : isB ts t c = false := by
  unfold isB
  rw [if_neg (by omega), List.getElem?_eq_none (by omega)]
theorem isB_at {ts : List Tk} {n : Nat} {k : Tk} {c : Int} (h : ts[n]? = some k) : isB ts n c = (k.c == c) := by
  unfold isB
  rw [if_neg (by omega), Int.toNat_natCast, h]
theorem triv_is (ts : List Tk) (t : Int) : trivB ts t = (isB ts t 1 || (isB ts t 2 || isB ts t 3)) := by
  by_cases h0 : t < 0
  · unfold trivB; rw [cl_neg h0, isB_neg h0, isB_neg h0, isB_neg h0]; rfl
  · obtain ⟨n, rfl⟩ : ∃ n : Nat, t = n := ⟨t.toNat, by omega⟩
    cases h : ts[n]? with
    | none =>
      have : ts.length ≤ n := List.getElem?_eq_none_iff.1 h
      unfold trivB; rw [cl_far (by omega), isB_far (by omega), isB_far (by omega), isB_far (by omega)]; rfl
    | some k =>
      unfold trivB
      rw [cl_at h, isB_at h, isB_at h, isB_at h]
      unfold clc
      by_cases c1 : k.c = 1
      · simp [c1]
      · by_cases c2 : k.c = 2
        · simp [c2]
        · by_cases c3 : k.c = 3
          · simp [c3]
          · simp [c1, c2, c3]
theorem note_is (ts : List Tk) (t : Int) : noteB ts t = (isB ts t 2 || isB ts t 3) := by
  by_cases h0 : t < 0
  · unfold noteB; rw [cl_neg h0, isB_neg h0, isB_neg h0]; rfl
  · obtain ⟨n, rfl⟩ : ∃ n : Nat, t = n := ⟨t.toNat, by omega⟩
    cases h : ts[n]? with
    | none =>
      have : ts.length ≤ n := List.getElem?_eq_none_iff.1 h
      unfold noteB; rw [cl_far (by omega), isB_far (by omega), isB_far (by omega)]; rfl
    | some k =>
      unfold noteB
      rw [cl_at h, isB_at h, isB_at h]
      unfold clc
      by_cases c1 : k.c = 1
      · simp [c1]
      · by_cases c2 : k.c = 2
        · simp [c2]
        · by_cases c3 : k.c = 3
          · simp [c3]
          · simp [c1, c2, c3]

theorem class_any (w : World) (a : Option Addr) (len cap : Nat) (ts : List Tk) (t : Int) (h : CRow tkC 3 w a len ts) :
    Calls Try.prog 20 #[.slice a len cap, .int .i64 t] w fun e w' => e = .returned (.int .i64 (cl ts t)) ∧ w' = w := by
  have hl2 := h.2.1
  have hl1 := h.1
  by_cases h0 : t < 0
  · have HC := Lib.hid (cl_neg (ts := ts) h0)
    clear hl1
    go_enter Try.func20, Try.ntmps20
    go_wp2
    go_ret
    exact ⟨ret_int HC.out.symm, rfl⟩
  · by_cases h1 : (len : Int) ≤ t
    · have HC := Lib.hid (cl_far (ts := ts) (t := t) (by omega))
      clear hl1
      go_enter Try.func20, Try.ntmps20
      go_wp2
      go_ret
      exact ⟨ret_int HC.out.symm, rfl⟩
    · obtain ⟨n, rfl⟩ : ∃ n : Nat, t = n := ⟨t.toNat, by omega⟩
      obtain ⟨b, off, k, rfl, _, hk, hc⟩ := h.at_ (i := n) (by omega)
      have HC := Lib.hid (cl_at hk)
      have c2 := hc 2 _ rfl
      have hn : n < len := by omega
      obtain ⟨nm, rx, c⟩ := k
      dsimp only at HC c2
      clear h0 h1 hl1 hk hc h
      by_cases e1 : c = 1
      · subst e1
        go_enter Try.func20, Try.ntmps20
        go_wp2
        go_ret
        exact ⟨ret_int HC.out.symm, rfl⟩
      · by_cases e2 : c = 2
        · subst e2
          clear e1
          go_enter Try.func20, Try.ntmps20
          go_wp2
          go_ret
          exact ⟨ret_int HC.out.symm, rfl⟩
        · by_cases e3 : c = 3
          · subst e3
            clear e1 e2
            go_enter Try.func20, Try.ntmps20
            go_wp2
            go_ret
            exact ⟨ret_int HC.out.symm, rfl⟩
          · have HC : Hid (cl ts n = 0) := by
              have h := HC.out
              unfold clc at h
              rw [if_neg (by omega), if_neg (by omega)] at h
              exact Lib.hid h
            have j1 : (c == 1) = false := beq_eq_false_iff_ne.2 e1
            have j2 : (c == 2) = false := beq_eq_false_iff_ne.2 e2
            have j3 : (c == 3) = false := beq_eq_false_iff_ne.2 e3
            clear e1 e2 e3
            go_enter Try.func20, Try.ntmps20
            go_wp2
            go_ret
            exact ⟨ret_int HC.out.symm, rfl⟩
theorem trivia_any (w : World) (a : Option Addr) (len cap : Nat) (ts : List Tk) (t : Int) (h : CRow tkC 3 w a len ts) :
    Calls Try.prog 7 #[.slice a len cap, .int .i64 t] w fun e w' => e = .returned (.bool (trivB ts t)) ∧ w' = w := by
  unfold trivB
  have HC := Lib.hid (class_any w a len cap ts t h)
  obtain ⟨c, hc⟩ : ∃ c, cl ts t = c := ⟨_, rfl⟩
  rw [hc] at HC ⊢
  clear hc h
  go_enter Try.func7, Try.ntmps7
  go_wp2_with (go_at_call 20; (with_reducible refine HC.out.mono ?_); rintro e w1 ⟨rfl, rfl⟩)
  go_ret
  exact ⟨rfl, rfl⟩
theorem is_any (w : World) (a : Option Addr) (len cap : Nat) (ts : List Tk) (t c : Int) (h : CRow tkC 3 w a len ts) :
    Calls Try.prog 21 #[.slice a len cap, .int .i64 t, .int .i64 c] w fun e w' => e = .returned (.bool (isB ts t c)) ∧ w' = w := by
  have hl2 := h.2.1
  have hl1 := h.1
  by_cases h0 : t < 0
  · have HC := Lib.hid (isB_neg (ts := ts) (c := c) h0)
    have j0 : decide (0 ≤ t) = false := decide_eq_false (by omega)
    clear hl1
    go_enter Try.func21, Try.ntmps21
    go_wp2
    go_ret
    exact ⟨ret_bool HC.out.symm, rfl⟩
  · have j0 : decide (0 ≤ t) = true := decide_eq_true (by omega)
    by_cases h1 : (len : Int) ≤ t
    · have HC := Lib.hid (isB_far (ts := ts) (c := c) (t := t) (by omega))
      have j1 : decide (t < (len : Int)) = false := decide_eq_false (by omega)
      clear hl1
      go_enter Try.func21, Try.ntmps21
      go_wp2
      go_ret
      exact ⟨ret_bool HC.out.symm, rfl⟩
    · obtain ⟨n, rfl⟩ : ∃ n : Nat, t = n := ⟨t.toNat, by omega⟩
      obtain ⟨b, off, k, rfl, _, hk, hc⟩ := h.at_ (i := n) (by omega)
      have HC := Lib.hid (isB_at (c := c) hk)
      have c2 := hc 2 _ rfl
      have hn : n < len := by omega
      clear h0 h1 hl1 hk hc h j0
      go_enter Try.func21, Try.ntmps21
      go_wp2
      go_ret
      exact ⟨ret_bool HC.out.symm, rfl⟩
theorem reftriv_any (w : World) (a : Option Addr) (len cap : Nat) (ts : List Tk) (t : Int) (h : CRow tkC 3 w a len ts) :
    Calls Try.prog 8 #[.slice a len cap, .int .i64 t] w fun e w' => e = .returned (.bool (trivB ts t)) ∧ w' = w := by
  rw [triv_is]
  have H1 := Lib.hid (is_any w a len cap ts t 1 h)
  have H2 := Lib.hid (is_any w a len cap ts t 2 h)
  have H3 := Lib.hid (is_any w a len cap ts t 3 h)
  clear h
  cases h1 : isB ts t 1 <;> cases h2 : isB ts t 2 <;> cases h3 : isB ts t 3
  all_goals
    rw [h1] at H1
    rw [h2] at H2
    rw [h3] at H3
    clear h1 h2 h3
    go_enter Try.func8, Try.ntmps8
    go_wp2_with fail
    refine H1.out.mono ?_
    rintro e w1 ⟨rfl, rfl⟩
    go_wp2_with (first
      | ((with_reducible refine H2.out.mono ?_); rintro e w1 ⟨rfl, rfl⟩)
      | ((with_reducible refine H3.out.mono ?_); rintro e w1 ⟨rfl, rfl⟩))
    go_ret
    exact ⟨rfl, rfl⟩
end Go.Proofs.Ytdffilenphglgaa
