/- Several texts in one: Read1, RxCat, Read2, Read3, Read4, Read5, Read6, BSpan, Know9P, Know9, OpenSet0, OpenRx. -/
import Derived.Test.YtbefndibkpjgaaaTw3
import Derived.Test.YtbefndibkpjgaaaTw2
import Derived.PlainAid
import Derived.OwnWalk
import Derived.Test.YtbefndibkpjgaaaTw1
import Derived.Deep.CutRange
import Derived.Test.YtbefndibkpjgaaaTw13
import Derived.Test.YtbefndibkpjgaaaTw14
import Derived.ProofKit
import Derived.OpenShut
import Derived.Deep.Slices
/- The reader's small functions. -/
namespace Go.Proofs.Ytbefndibkpjgaaa
open Go.RowKit Go.PlainAid
set_option linter.unusedVariables false

/-- Is a byte one of a text's? -/
def inB (s : ByteArray) (c : Nat) : Bool := (LS s).any fun x => x.toNat == c
theorem bt_LS (s : ByteArray) (k : Nat) (h : k < s.size) : ∃ x : UInt8, (LS s)[k]? = some x ∧ bt s k = (x.toNat : Int) :=
  ⟨_, LS_at s k h, (get_bt s k h).symm⟩
theorem inB_yes {s : ByteArray} {c k : Nat} (h : k < s.size) (e : bt s k = (c : Int)) : inB s c = true := by
  obtain ⟨x, h1, h2⟩ := bt_LS s k h
  unfold inB
  rw [List.any_eq_true]
  exact ⟨x, List.mem_of_getElem? h1, by rw [beq_iff_eq]; omega⟩
theorem inB_no {s : ByteArray} {c : Nat} (h : ∀ k, k < s.size → bt s k ≠ (c : Int)) : inB s c = false := by
  unfold inB
  rw [List.any_eq_false]
  intro x hx
  obtain ⟨k, hk⟩ := List.getElem?_of_mem hx
  have hlt : k < s.size := by rw [← LS_len]; exact (List.getElem?_eq_some_iff.1 hk).1
  obtain ⟨y, h1, h2⟩ := bt_LS s k hlt
  obtain rfl : x = y := Option.some.inj (hk.symm.trans h1)
  have := h k hlt
  simp only [beq_iff_eq]
  omega
theorem all_succ {P : Nat → Prop} {k : Nat} (h : ∀ j, j < k → P j) (hk : P k) : ∀ j, j < k + 1 → P j := fun j hj => by
  by_cases e : j = k
  · rw [e]; exact hk
  · exact h j (by omega)
theorem in_any (s : ByteArray) (c : Nat) (w : World) (hs : s.size ≤ 100000) :
    Calls Try.prog 77 #[.string s, .int .u8 (c : Int)] w fun e w' => e = .returned (.bool (inB s c)) ∧ w = w' := by
  have gb := get_bt s
  have hy := Lib.hid fun k h e => inB_yes (s := s) (c := c) (k := k) h e
  have hn := Lib.hid fun h => inB_no (s := s) (c := c) h
  go_enter Try.func77, Try.ntmps77
  go_wp2
  go_loop [5] (fun i => ∃ k : Nat, k ≤ s.size ∧ i = .int .i64 (k : Int) ∧ ∀ j, j < k → bt s j ≠ (c : Int)) (fun i => s.size - (intOf i).toNat)
  case atStart => exact ⟨0, by omega, rfl, fun j h => by omega⟩
  case round =>
    obtain ⟨k, hk, rfl, hno⟩ := hrel
    have HN := Lib.hid hno
    clear hno
    by_cases hlt : k < s.size
    · have h0 : (0 : Int) ≤ (k : Int) := by omega
      have h1 : (k : Int) < (s.size : Int) := by omega
      by_cases he : bt s k = (c : Int)
      · have t1 : (bt s k == (c : Int)) = true := by rw [beq_iff_eq]; exact he
        have HE := Lib.hid (hy.out k hlt he)
        clear he
        go_wp2
        go_ret
        exact ⟨ret_bool HE.out.symm, rfl⟩
      · have t1 : (bt s k == (c : Int)) = false := by rw [beq_eq_false_iff_ne]; exact he
        have HE := Lib.hid he
        clear he
        go_wp2
        go_round
        case rel => exact ⟨k + 1, by omega, by go_num, all_succ HN.out HE.out⟩
        case measure => simp [intOf]; omega
    · have HE := Lib.hid (hn.out fun j hj => HN.out j (by omega))
      have h1 : ¬ (k : Int) < (s.size : Int) := by omega
      go_wp2
      go_ret
      exact ⟨ret_bool HE.out.symm, rfl⟩
/-- May a byte be seen? -/
def seenB (c : Nat) : Bool := decide (33 ≤ c) && decide (c ≤ 126)
theorem seen_any (c : Nat) (w : World) :
    Calls Try.prog 89 #[.int .u8 (c : Int)] w fun e w' => e = .returned (.bool (seenB c)) ∧ w = w' := by
  by_cases h1 : (33 : Int) ≤ (c : Int)
  · by_cases h2 : (c : Int) ≤ 126
    · have HE : Hid (seenB c = true) := Lib.hid (by unfold seenB; rw [decide_eq_true (by omega : 33 ≤ c), decide_eq_true (by omega : c ≤ 126)]; rfl)
      go_enter Try.func89, Try.ntmps89
      go_wp2
      go_ret
      exact ⟨ret_bool HE.out.symm, rfl⟩
    · have HE : Hid (seenB c = false) := Lib.hid (by unfold seenB; rw [decide_eq_false (by omega : ¬ c ≤ 126), Bool.and_false])
      go_enter Try.func89, Try.ntmps89
      go_wp2
      go_ret
      exact ⟨ret_bool HE.out.symm, rfl⟩
  · have HE : Hid (seenB c = false) := Lib.hid (by unfold seenB; rw [decide_eq_false (by omega : ¬ 33 ≤ c), Bool.false_and])
    go_enter Try.func89, Try.ntmps89
    go_wp2
    go_ret
    exact ⟨ret_bool HE.out.symm, rfl⟩
/-- A char that stands for itself. -/
theorem char_any (s but : ByteArray) (k c : Nat) (w : World) (hs : s.size ≤ 100000) (hb : but.size ≤ 100000) (hk : k < s.size) (hc : bt s k = (c : Int)) (h92 : c ≠ 92) (h1 : seenB c = true) (h2 : inB but c = false) :
    Calls Try.prog 85 #[.string s, .int .i64 (k : Int), .string but] w fun e w' => e = .returned (.tuple #[.int .u8 (c : Int), .int .i64 ((k : Int) + 1), .bool true]) ∧ w = w' := by
  have gb := get_bt s
  have HSE := Lib.hid (seen_any c w)
  have HIN := Lib.hid (in_any but c w hb)
  rw [h1] at HSE
  rw [h2] at HIN
  have HC := Lib.hid hc
  have t1 : (bt s k == 92) = false := by rw [beq_eq_false_iff_ne, hc]; omega
  have z0 : (0 : Int) ≤ (k : Int) := by omega
  have z1 : (k : Int) < (s.size : Int) := by omega
  have z2 : ¬ (s.size : Int) ≤ (k : Int) := by omega
  clear h1 h2 hc
  go_enter Try.func85, Try.ntmps85
  go_wp2_with fail
  rw [HC.out]
  refine HSE.out.mono ?_
  rintro e w2 ⟨rfl, rfl⟩
  go_wp2_with fail
  rw [HC.out]
  refine HIN.out.mono ?_
  rintro e w3 ⟨rfl, rfl⟩
  go_wp2
  go_ret3
  rw [HC.out]
  exact ⟨rfl, rfl⟩
end Go.Proofs.Ytbefndibkpjgaaa
/- rx: Cat, Alt; are these few steps. -/
namespace Go.Proofs.Ytbefndibkpjgaaa
open Go.RowKit
set_option linter.unusedVariables false

def catR (os : List Rw) (n : Nat) : List Rx := if n = 0 then [stp0 2] else behUp 3 (os.map Rw.rs) n
def altR (os : List Rw) (n : Nat) : List Rx := if n = 0 then [⟨1, emptyS⟩] else behUp 4 (os.map Rw.rs) n
theorem cat_any (w : World) (A : Option Addr) (n d : Nat) (os : List Rw) (h : RRow w A n os) (hsm : tot (os.map Rw.rs) + n ≤ 2000) :
    Calls Try.prog 27 #[.slice A n d] w (Gives w (catR os n)) := by
  have hl2 := h.1.2.1
  have HE := Lib.hid (empty_any w)
  have HM := Lib.hid (behind_any w A n d os 3 h hsm)
  unfold Gives catR at *
  clear h hsm
  by_cases h0 : n = 0
  · rw [if_pos h0]
    have j1 : ((n : Int) == 0) = true := by simp [h0]
    clear HM
    go_enter Try.func27, Try.ntmps27
    go_wp2_with fail
    refine HE.out.mono ?_
    rintro e w1 ⟨v, rfl, hown, hb⟩
    have HO := Lib.hid hown
    have HB := Lib.hid hb
    clear hown hb HE
    go_wp2
    go_ret
    exact ⟨_, rfl, HO.out, HB.out⟩
  · rw [if_neg h0]
    have j1 : ((n : Int) == 0) = false := by simp [h0]
    clear HE
    go_enter Try.func27, Try.ntmps27
    go_wp2_with fail
    refine HM.out.mono ?_
    rintro e w1 ⟨v, rfl, hown, hb⟩
    have HO := Lib.hid hown
    have HB := Lib.hid hb
    clear hown hb HM
    go_wp2
    go_ret
    exact ⟨_, rfl, HO.out, HB.out⟩
theorem refcat_any (w : World) (A : Option Addr) (n d : Nat) (os : List Rw) (h : RRow w A n os) (hsm : tot (os.map Rw.rs) + n ≤ 2000) :
    Calls Try.prog 79 #[.slice A n d] w (Gives w (catR os n)) := by
  have hl2 := h.1.2.1
  have HE := Lib.hid (refempty_any w)
  have HM := Lib.hid (many_any w A n d os 3 h hsm)
  unfold Gives catR at *
  clear h hsm
  by_cases h0 : n = 0
  · rw [if_pos h0]
    have j1 : ((n : Int) == 0) = true := by simp [h0]
    clear HM
    go_enter Try.func79, Try.ntmps79
    go_wp2_with fail
    refine HE.out.mono ?_
    rintro e w1 ⟨v, rfl, hown, hb⟩
    have HO := Lib.hid hown
    have HB := Lib.hid hb
    clear hown hb HE
    go_wp2
    go_ret
    exact ⟨_, rfl, HO.out, HB.out⟩
  · rw [if_neg h0]
    have j1 : ((n : Int) == 0) = false := by simp [h0]
    clear HE
    go_enter Try.func79, Try.ntmps79
    go_wp2_with fail
    refine HM.out.mono ?_
    rintro e w1 ⟨v, rfl, hown, hb⟩
    have HO := Lib.hid hown
    have HB := Lib.hid hb
    clear hown hb HM
    go_wp2
    go_ret
    exact ⟨_, rfl, HO.out, HB.out⟩
theorem alt_any (w : World) (A : Option Addr) (n d : Nat) (os : List Rw) (h : RRow w A n os) (hsm : tot (os.map Rw.rs) + n ≤ 2000) :
    Calls Try.prog 26 #[.slice A n d] w (Gives w (altR os n)) := by
  have hl2 := h.1.2.1
  have HE := Lib.hid (rset_any emptyS w)
  have HM := Lib.hid (behind_any w A n d os 4 h hsm)
  rw [setV_empty] at HE
  unfold Gives altR at *
  clear h hsm
  by_cases h0 : n = 0
  · rw [if_pos h0]
    have j1 : ((n : Int) == 0) = true := by simp [h0]
    clear HM
    go_enter Try.func26, Try.ntmps26
    go_wp2_with fail
    refine HE.out.mono ?_
    rintro e w1 ⟨v, rfl, hown, hb⟩
    have HO := Lib.hid hown
    have HB := Lib.hid hb
    clear hown hb HE
    go_wp2
    go_ret
    exact ⟨_, rfl, HO.out, HB.out⟩
  · rw [if_neg h0]
    have j1 : ((n : Int) == 0) = false := by simp [h0]
    clear HE
    go_enter Try.func26, Try.ntmps26
    go_wp2_with fail
    refine HM.out.mono ?_
    rintro e w1 ⟨v, rfl, hown, hb⟩
    have HO := Lib.hid hown
    have HB := Lib.hid hb
    clear hown hb HM
    go_wp2
    go_ret
    exact ⟨_, rfl, HO.out, HB.out⟩
theorem refalt_any (w : World) (A : Option Addr) (n d : Nat) (os : List Rw) (h : RRow w A n os) (hsm : tot (os.map Rw.rs) + n ≤ 2000) :
    Calls Try.prog 70 #[.slice A n d] w (Gives w (altR os n)) := by
  have hl2 := h.1.2.1
  have HE := Lib.hid (refset_any emptyS w)
  have HM := Lib.hid (many_any w A n d os 4 h hsm)
  rw [setV_empty] at HE
  unfold Gives altR at *
  clear h hsm
  by_cases h0 : n = 0
  · rw [if_pos h0]
    have j1 : ((n : Int) == 0) = true := by simp [h0]
    clear HM
    go_enter Try.func70, Try.ntmps70
    go_wp2_with fail
    refine HE.out.mono ?_
    rintro e w1 ⟨v, rfl, hown, hb⟩
    have HO := Lib.hid hown
    have HB := Lib.hid hb
    clear hown hb HE
    go_wp2
    go_ret
    exact ⟨_, rfl, HO.out, HB.out⟩
  · rw [if_neg h0]
    have j1 : ((n : Int) == 0) = false := by simp [h0]
    clear HE
    go_enter Try.func70, Try.ntmps70
    go_wp2_with fail
    refine HM.out.mono ?_
    rintro e w1 ⟨v, rfl, hown, hb⟩
    have HO := Lib.hid hown
    have HB := Lib.hid hb
    clear hown hb HM
    go_wp2
    go_ret
    exact ⟨_, rfl, HO.out, HB.out⟩
def msum (ws : List Rw) : Nat := (ws.map fun o => min o.l 1000).sum
theorem msum_take {ws : List Rw} {k : Nat} {o : Rw} (h : ws[k]? = some o) : msum (ws.take (k + 1)) = msum (ws.take k) + min o.l 1000 := by
  unfold msum; rw [List.take_add_one, h]; simp
theorem msum_le (ws : List Rw) (k : Nat) : msum (ws.take k) ≤ 1000 * k := by
  have : ∀ (l : List Rw), msum l ≤ 1000 * l.length := by
    intro l
    induction l with
    | nil => simp [msum]
    | cons o l ih =>
      have e : msum (o :: l) = min o.l 1000 + msum l := by simp [msum]
      rw [e, List.length_cons]; omega
  have h1 := this (ws.take k)
  have h2 : (ws.take k).length ≤ k := List.length_take_le _ _
  omega
def fewR (ws : List Rw) : Bool := decide (ws.length ≤ 40) && decide (msum ws ≤ 900)
theorem few_sum {ws : List Rw} (hl : ∀ o ∈ ws, o.l = o.rs.length) (h : fewR ws = true) : ws.length ≤ 40 ∧ tot (ws.map Rw.rs) ≤ 900 := by
  unfold fewR at h
  simp only [Bool.and_eq_true, decide_eq_true_eq] at h
  refine ⟨h.1, ?_⟩
  have : ∀ (l : List Rw), (∀ o ∈ l, o.l = o.rs.length) → msum l ≤ 900 → tot (l.map Rw.rs) ≤ msum l := by
    intro l
    induction l with
    | nil => intro _ _; simp [tot, msum]
    | cons o l ih =>
      intro hl hm
      have e : msum (o :: l) = min o.l 1000 + msum l := by simp [msum]
      have e2 : tot ((o :: l).map Rw.rs) = o.rs.length + tot (l.map Rw.rs) := by simp [tot]
      have h3 := hl o (by simp)
      rw [e] at hm ⊢
      rw [e2]
      have := ih (fun q hq => hl q (by simp [hq])) (by omega)
      omega
  have := this ws hl h.2
  omega
end Go.Proofs.Ytbefndibkpjgaaa
/- The reader: an atom. -/
namespace Go.Proofs.Ytbefndibkpjgaaa
open Go.RowKit Go.PlainAid
set_option linter.unusedVariables false

/-- The byte at a place. -/
def byteAt (s : ByteArray) (k : Nat) : Nat := ((LS s)[k]?.getD 0).toNat
theorem bt_at (s : ByteArray) (k : Nat) (h : k < s.size) : bt s k = (byteAt s k : Int) := by
  obtain ⟨x, h1, h2⟩ := bt_LS s k h
  unfold byteAt
  rw [h1]; exact h2
theorem byteAt_lt (s : ByteArray) (k : Nat) : byteAt s k < 256 := by unfold byteAt; exact UInt8.toNat_lt _
/-- The bytes that may not stand by themselves. -/
def loneB : ByteArray := ⟨#[40, 41, 91, 93, 124, 42, 43, 63, 46]⟩
/-- An atom: a text in brackets, or a byte that stands for itself; the others are not spoken of. -/
def atomF (tx : Nat → Option (List Rx × Nat)) (s : ByteArray) (k : Nat) : Option (List Rx × Nat) :=
  if k < s.size then
    if byteAt s k = 40 then
      match tx (k + 1) with
      | none => none
      | some (l, nx) => if nx < s.size ∧ byteAt s nx = 41 then some (l, nx + 1) else none
    else if byteAt s k = 92 ∨ seenB (byteAt s k) = false ∨ inB loneB (byteAt s k) = true then none
    else some ([⟨1, fun x => x == byteAt s k⟩], k + 1)
  else none
/-- What the reader's functions give where all is well. -/
def Rd (w : World) (l : List Rx) (nx : Nat) (e : Ending) (w' : World) : Prop :=
  ∃ A c, e = .returned (.tuple #[.slice A l.length c, .int .i64 (nx : Int), .bool true]) ∧ w'.ownsRow w.heap.size 78 5 (.slice A l.length c) l.length (l.flatMap rxC) ∧ Below w.heap.size w w'
theorem lone_sep {c : Nat} (h : inB loneB c = false) : c ≠ 46 ∧ c ≠ 91 ∧ c ≠ 40 := by
  refine ⟨?_, ?_, ?_⟩ <;> (rintro rfl; revert h; decide)
set_option maxHeartbeats 2000000 in
theorem atom_any (s : ByteArray) (k : Nat) (tx : Nat → Option (List Rx × Nat)) (hs : s.size ≤ 1000)
    (htx : ∀ (w : World) l nx, tx (k + 1) = some (l, nx) → Calls Try.prog 49 #[.string s, .int .i64 ((k + 1 : Nat) : Int)] w (Rd w l nx))
    (w : World) (l : List Rx) (nx : Nat) (h : atomF tx s k = some (l, nx)) :
    Calls Try.prog 76 #[.string s, .int .i64 (k : Int)] w (Rd w l nx) := by
  have gb := get_bt s
  unfold atomF at h
  by_cases hk : k < s.size
  case neg => rw [if_neg hk] at h; cases h
  rw [if_pos hk] at h
  have z0 : (0 : Int) ≤ (k : Int) := by omega
  have z1 : (k : Int) < (s.size : Int) := by omega
  have hba := bt_at s k hk
  by_cases h40 : byteAt s k = 40
  case pos =>
    rw [if_pos h40] at h
    cases htk : tx (k + 1) with
    | none => rw [htk] at h; cases h
    | some p =>
      obtain ⟨l1, n1⟩ := p
      rw [htk] at h
      simp only at h
      split at h
      case isFalse => cases h
      case isTrue hn =>
        simp only [Option.some.injEq, Prod.mk.injEq] at h
        obtain ⟨rfl, rfl⟩ := h
        have HT := Lib.hid (htx w l1 n1 htk)
        have t1 : (bt s k == 40) = true := by rw [beq_iff_eq, hba, h40]; rfl
        have y0 : (0 : Int) ≤ (n1 : Int) := by omega
        have y1 : (n1 : Int) < (s.size : Int) := by have := hn.1; omega
        have y2 : ¬ (s.size : Int) ≤ (n1 : Int) := by have := hn.1; omega
        have t2 : (bt s n1 != 41) = false := by rw [bne_eq_false_iff_eq, bt_at s n1 hn.1, hn.2]; rfl
        clear hn htk h40 hba htx
        go_enter Try.func76, Try.ntmps76
        go_wp2_with fail
        refine HT.out.mono ?_
        rintro e w2 ⟨A, c, rfl, ho, hb⟩
        have HO := Lib.hid ho
        have HB := Lib.hid hb
        clear ho hb
        go_wp2
        go_ret3
        exact ⟨A, c, rfl, HO.out, HB.out⟩
  case neg =>
    rw [if_neg h40] at h
    split at h
    case isTrue => cases h
    case isFalse hn =>
      simp only [Option.some.injEq, Prod.mk.injEq] at h
      obtain ⟨rfl, rfl⟩ := h
      simp only [not_or] at hn
      obtain ⟨h92, hse, hlo⟩ := hn
      have hse : seenB (byteAt s k) = true := by simpa using hse
      have hlo : inB loneB (byteAt s k) = false := by simpa using hlo
      obtain ⟨h46, h91, _⟩ := lone_sep hlo
      obtain ⟨b, hbb⟩ : ∃ b, byteAt s k = b := ⟨_, rfl⟩
      have hb256 : b < 256 := by rw [← hbb]; exact byteAt_lt _ _
      rw [hbb] at h40 h92 hse hlo h46 h91 hba ⊢
      have HCH := Lib.hid (char_any s loneB k b w (by omega) (by decide) hk hba h92 hse hlo)
      have HON := Lib.hid fun w' => one_any b w' hb256
      have HSE := Lib.hid fun w' => refset_any (fun x => x == b) w'
      have t1 : (bt s k == 40) = false := by rw [beq_eq_false_iff_ne, hba]; omega
      have t2 : (bt s k == 46) = false := by rw [beq_eq_false_iff_ne, hba]; omega
      have t3 : (bt s k == 91) = false := by rw [beq_eq_false_iff_ne, hba]; omega
      clear h40 h92 hse hlo h46 h91 hba htx hbb
      go_enter Try.func76, Try.ntmps76
      go_wp2_with fail
      refine HCH.out.mono ?_
      rintro e w2 ⟨rfl, rfl⟩
      go_wp2_with fail
      refine (HON.out _).mono ?_
      rintro e w3 ⟨rfl, hb3⟩
      have HB3 := Lib.hid hb3
      clear hb3
      go_wp2_with fail
      refine (HSE.out _).mono ?_
      rintro e w4 ⟨v, rfl, ho4, hb4⟩
      obtain ⟨A, c, rfl, _, _⟩ := own_form ho4
      have HO4 := Lib.hid (own_mono ho4 HB3.out.size)
      have HB4 := Lib.hid (HB3.out.trans (hb4.mono HB3.out.size))
      clear ho4 hb4
      go_wp2
      go_ret3
      exact ⟨A, c, rfl, HO4.out, HB4.out⟩
end Go.Proofs.Ytbefndibkpjgaaa
/- The reader: a branch. -/
namespace Go.Proofs.Ytbefndibkpjgaaa
open Go.RowKit Go.PlainAid
set_option linter.unusedVariables false
set_option linter.unusedSimpArgs false

def sufB : ByteArray := ⟨#[42, 43, 63]⟩
def kindOfB (b : Nat) : Int := if b = 43 then 6 else if b = 63 then 7 else 5
/-- The signs behind an atom. -/
def starsF (s : ByteArray) : Nat → List Rx → Nat → List Rx × Nat
  | 0, l, nx => (l, nx)
  | m + 1, l, nx => if nx < s.size ∧ inB sufB (byteAt s nx) = true then starsF s m (oneF l (kindOfB (byteAt s nx))) (nx + 1) else (l, nx)
def catP (ps : List (List Rx)) : List Rx := if ps.length = 0 then [stp0 2] else behUp 3 ps ps.length
def branchF (tx : Nat → Option (List Rx × Nat)) (s : ByteArray) : Nat → List (List Rx) → Nat → Option (List Rx × Nat)
  | 0, _, _ => none
  | m + 1, ps, k =>
    if k < s.size ∧ byteAt s k ≠ 124 ∧ byteAt s k ≠ 41 then
      match atomF tx s k with
      | none => none
      | some (l, nx) => if k < nx ∧ nx ≤ s.size ∧ l.length ≤ 1000 then branchF tx s m (ps ++ [(starsF s (s.size - nx) l nx).1]) (starsF s (s.size - nx) l nx).2 else none
    else if tot ps + ps.length ≤ 2000 then some (catP ps, k) else none
theorem starsF_le (s : ByteArray) : ∀ (m : Nat) (l : List Rx) (nx : Nat), nx ≤ s.size → nx ≤ (starsF s m l nx).2 ∧ (starsF s m l nx).2 ≤ s.size
  | 0, l, nx, h => ⟨Nat.le_refl _, h⟩
  | m + 1, l, nx, h => by
    simp only [starsF]
    split
    · rename_i h1
      have := starsF_le s m (oneF l (kindOfB (byteAt s nx))) (nx + 1) (by omega)
      omega
    · exact ⟨Nat.le_refl _, h⟩
/-- The parts of a branch while it is read: apart from their own row. -/
structure RB (B : Nat) (w : World) (pv : Value) (os : List Rw) (rest : List RowD) : Prop where
  rows : RowsD B w (⟨22, 1, pv, os.length, os.flatMap slC⟩ :: rest)
  mem : ∀ o ∈ os, (⟨78, 5, .slice o.a o.l o.c, o.l, o.rs.flatMap rxC⟩ : RowD) ∈ rest ∧ o.l = o.rs.length
  le : B ≤ w.heap.size
theorem RB.below {B : Nat} {w w' : World} {pv : Value} {os : List Rw} {rest : List RowD} (h : RB B w pv os rest) (hb : Below w.heap.size w w') : RB B w' pv os rest := ⟨h.rows.below hb, h.mem, by have := hb.size; have := h.le; omega⟩
theorem RB.add {B : Nat} {w w' : World} {pv : Value} {os : List Rw} {rest : List RowD} (h : RB B w pv os rest) (hb : Below w.heap.size w w') {q : RowD} (hr : w'.ownsRow w.heap.size q.e q.k q.v q.n q.xs) : RB B w' pv os (rest ++ [q]) := by
  have h' := h.below hb
  refine ⟨?_, fun o ho => ⟨List.mem_append_left _ (h.mem o ho).1, (h.mem o ho).2⟩, h'.le⟩
  exact h.rows.add hb hr h.le
theorem RB.own {B : Nat} {w : World} {pv : Value} {os : List Rw} {rest : List RowD} (h : RB B w pv os rest) : w.ownsRow B 22 1 pv os.length (os.flatMap slC) := h.rows.own _ (.head _)
theorem RB.rrow {B : Nat} {w : World} {A : Option Addr} {c : Nat} {os : List Rw} {rest : List RowD} (h : RB B w (.slice A os.length c) os rest) : RRow w A os.length os := by
  refine ⟨own_row slC_len h.own, fun o ho => ?_⟩
  obtain ⟨hm, hl⟩ := h.mem o ho
  have h5 : w.ownsRow B 78 5 (.slice o.a o.l o.c) o.l (o.rs.flatMap rxC) := h.rows.own _ (.tail _ hm)
  rw [hl] at h5 ⊢
  exact own_row rxC_len h5
theorem RB.put {B : Nat} {w wa w1 : World} {pv : Value} {os : List Rw} {rest : List RowD} (h : RB B w pv os rest) (hb : Below w.heap.size w wa) (hg : wa.grownBy w1 pv.ownBlock) {v : Value} {z : Rw}
    (ho : w1.ownsRow B 22 1 v (os.length + 1) ((os ++ [z]).flatMap slC)) (hv : v.ownBlock = pv.ownBlock ∨ ∃ b, v.ownBlock = some b ∧ w.heap.size ≤ b) (hz : (⟨78, 5, .slice z.a z.l z.c, z.l, z.rs.flatMap rxC⟩ : RowD) ∈ rest ∧ z.l = z.rs.length) : RB B w1 v (os ++ [z]) rest := by
  have h1 := h.rows.grow (i := 0) (r' := ⟨22, 1, v, os.length + 1, (os ++ [z]).flatMap slC⟩) hb rfl hg ho hv
  refine ⟨?_, fun o ho => ?_, by have := hb.size; have := hg.size; have := h.le; omega⟩
  · have e : ((⟨22, 1, pv, os.length, os.flatMap slC⟩ : RowD) :: rest).set 0 ⟨22, 1, v, os.length + 1, (os ++ [z]).flatMap slC⟩ = ⟨22, 1, v, (os ++ [z]).length, (os ++ [z]).flatMap slC⟩ :: rest := by simp
    rw [e] at h1; exact h1
  · rcases List.mem_append.1 ho with ho | ho
    · exact h.mem o ho
    · rw [List.mem_singleton] at ho; subst ho; exact hz
theorem RB.start {w : World} {B : Nat} {pv : Value} (h : w.ownsRow B 22 1 pv 0 []) (hB : B ≤ w.heap.size) : RB B w pv [] [] := by
  refine ⟨⟨fun r hr => ?_, fun i j r s hi hj hne k hk => ?_⟩, fun o ho => by simp at ho, hB⟩
  · rw [List.mem_singleton] at hr; subst hr; exact h
  · exfalso
    have h1 := (List.getElem?_eq_some_iff.1 hi).1
    have h2 := (List.getElem?_eq_some_iff.1 hj).1
    simp at h1 h2
    omega
end Go.Proofs.Ytbefndibkpjgaaa
/- The reader: a branch's walk. -/
namespace Go.Proofs.Ytbefndibkpjgaaa
open Go.RowKit Go.PlainAid
set_option linter.unusedVariables false
set_option linter.unusedSimpArgs false

theorem suf_of {b : Nat} (h : inB sufB b = true) : b = 42 ∨ b = 43 ∨ b = 63 := by
  unfold inB at h
  rw [List.any_eq_true] at h
  obtain ⟨x, hx, e⟩ := h
  rw [beq_iff_eq] at e
  have : x ∈ ([42, 43, 63] : List UInt8) := hx
  simp only [List.mem_cons, List.not_mem_nil, or_false] at this
  rcases this with rfl | rfl | rfl
  · exact .inl e.symm
  · exact .inr (.inl e.symm)
  · exact .inr (.inr e.symm)
theorem infoRxs : (Try.prog.info? 22).map (fun i => (i.zero, i.size, i.bytes)) = some (some (.slice none 0 0), 1, 24) := by kernel_rfl
/-- One slice of steps more behind a row of the call's own. -/
theorem app_rw {w : World} {base n : Nat} {v : Value} {os : List Rw} (hown : w.ownsRow base 22 1 v n (os.flatMap slC)) (z : Rw) (hn : n ≤ 1000000) (hbase : base ≤ w.heap.size) (H : Nat) (hH : w.heap.size = H)
    (ops : Array Oper) (rest : List Oper) (o : Oper) (a : Act) (Q : Exit → Act → World → Prop) (hg : o.guard = none) (s x : Operand) (ho : o.op = .call { callee := .builtin .append, args := #[s, x], argTypes := #[69, 69] })
    (hs : a.eval s = v) (hx : a.eval x = .slice (some ⟨H, 0, none⟩) 1 1)
    (h : ∀ g cap w', w'.ownsRow base 22 1 (.slice (some ⟨g, 0, none⟩) (n + 1) cap) (n + 1) ((os ++ [z]).flatMap slC) → (w.alloc (.cells #[.slice z.a z.l z.c] 22)).grownBy w' v.ownBlock → (v.ownBlock = some g ∨ g = H + 1) →
      wpList Try.prog ops Q rest (a.put o.dst (.slice (some ⟨g, 0, none⟩) (n + 1) cap)) w') : wpList Try.prog ops Q (o :: rest) a (w.alloc (.cells #[.slice z.a z.l z.c] 22)) :=
  app_el (P := Try.prog) (C := slC) (T := 69) (by decide) slC_len slC_one Try.underlying69 infoRxs rfl hown z (by unfold maxLen; omega) (by omega) hbase H hH #[.slice z.a z.l z.c] rfl ops rest o a Q hg s x ho hs hx h
theorem branchF_len (tx : Nat → Option (List Rx × Nat)) (s : ByteArray) : ∀ (m : Nat) (ps : List (List Rx)) (k : Nat) r, branchF tx s m ps k = some r → ps.length ≤ 2000 ∧ k ≤ r.2 ∧ (k ≤ s.size → r.2 ≤ s.size)
  | 0, _, _, _, h => by cases h
  | m + 1, ps, k, r, h => by
    simp only [branchF] at h
    split at h
    · cases ha : atomF tx s k with
      | none => rw [ha] at h; cases h
      | some p =>
        obtain ⟨l1, n1⟩ := p
        rw [ha] at h
        simp only at h
        split at h
        · rename_i h1 h2
          have h3 := branchF_len tx s m _ _ r h
          have h4 := starsF_le s (s.size - n1) l1 n1 h2.2.1
          rw [List.length_append] at h3
          exact ⟨by omega, by omega, fun _ => h3.2.2 h4.2⟩
        · cases h
    · split at h
      · rename_i h1
        simp only [Option.some.injEq] at h
        subst h
        exact ⟨by omega, Nat.le_refl _, fun h => h⟩
      · cases h
set_option maxHeartbeats 4000000 in
theorem branch_any (s : ByteArray) (tx : Nat → Option (List Rx × Nat)) (hs : s.size ≤ 1000)
    (htx : ∀ (k : Nat) (w : World) l nx, tx k = some (l, nx) → Calls Try.prog 49 #[.string s, .int .i64 (k : Int)] w (Rd w l nx))
    (m0 k0 : Nat) (w : World) (l : List Rx) (nx : Nat) (hk0 : k0 ≤ s.size) (h : branchF tx s m0 [] k0 = some (l, nx)) :
    Calls Try.prog 69 #[.string s, .int .i64 (k0 : Int)] w (Rd w l nx) := by
  have gb := get_bt s
  have HAT := Lib.hid fun (k : Nat) (w : World) l nx h => atom_any s k tx hs (fun w l nx h => htx (k + 1) w l nx h) w l nx h
  have HH := Lib.hid h
  have HB0 := Lib.hid (RB.start (own_zero w w.heap.size 22 1 (Nat.le_refl _)) (by simp))
  have HBL := Lib.hid ((Below.refl w.heap.size w).alloc (Nat.le_refl _) (.cells #[] 22))
  clear h htx
  go_enter Try.func69, Try.ntmps69
  go_wp2_with fail
  go_loopg [1, 7] (s.size - k0) (fun gk av pv wr => ∃ (k m : Nat) (os : List Rw) (rest : List RowD), k ≤ s.size ∧ gk = s.size - k ∧ av = .int .i64 (k : Int) ∧ RB w.heap.size wr pv os rest ∧ branchF tx s m (os.map Rw.rs) k = some (l, nx) ∧ Below w.heap.size w wr)
  case atStart => exact ⟨k0, m0, [], [], hk0, rfl, rfl, HB0.out, HH.out, HBL.out⟩
  case round =>
    obtain ⟨k, m, os, rest, hk, hgk, rfl, hrb, hbr, hbw⟩ := hrel
    have hosl := (branchF_len _ _ _ _ _ _ hbr).1
    rw [List.length_map] at hosl
    have HRB := Lib.hid hrb
    have HBW := Lib.hid hbw
    obtain ⟨pa, pc, rfl, hp1, hp2⟩ := own_form hrb.own
    have hgl : w.heap.size ≤ wr.heap.size := hrb.le
    clear hrb hbw
    cases m with
    | zero => cases hbr
    | succ m =>
      simp only [branchF] at hbr
      by_cases hgo : k < s.size ∧ byteAt s k ≠ 124 ∧ byteAt s k ≠ 41
      case neg =>
        rw [if_neg hgo] at hbr
        split at hbr
        case isFalse => cases hbr
        case isTrue htot =>
          simp only [Option.some.injEq, Prod.mk.injEq] at hbr
          obtain ⟨hl, rfl⟩ := hbr
          have HCA : Hid (Calls Try.prog 79 #[.slice pa os.length pc] wr (Gives wr l)) := Lib.hid (by
            have h1 := refcat_any wr pa os.length pc os HRB.out.rrow (by rw [List.length_map] at htot; exact htot)
            have h2 : catR os os.length = l := by rw [← hl]; unfold catR catP; rw [List.length_map]
            rw [h2] at h1; exact h1)
          clear htot hl
          have z0 : (0 : Int) ≤ (k : Int) := by omega
          by_cases hks : k < s.size
          case neg =>
            have z1 : ¬ (k : Int) < (s.size : Int) := by omega
            clear hgo hks
            go_wp2_with fail
            refine HCA.out.mono ?_
            rintro e w2 ⟨v, rfl, ho, hb⟩
            obtain ⟨A, c, rfl, _, _⟩ := own_form ho
            have HO := Lib.hid (own_mono ho HBW.out.size)
            have HB := Lib.hid (HBW.out.trans (hb.mono HBW.out.size))
            clear ho hb
            go_wp2
            go_ret3
            exact ⟨A, c, rfl, HO.out, HB.out⟩
          case pos =>
            have z1 : (k : Int) < (s.size : Int) := by omega
            have hba := bt_at s k hks
            by_cases h124 : byteAt s k = 124
            case pos =>
              have t1 : (bt s k != 124) = false := by rw [bne_eq_false_iff_eq, hba, h124]; rfl
              clear hgo h124 hba
              go_wp2_with fail
              refine HCA.out.mono ?_
              rintro e w2 ⟨v, rfl, ho, hb⟩
              obtain ⟨A, c, rfl, _, _⟩ := own_form ho
              have HO := Lib.hid (own_mono ho HBW.out.size)
              have HB := Lib.hid (HBW.out.trans (hb.mono HBW.out.size))
              clear ho hb
              go_wp2
              go_ret3
              exact ⟨A, c, rfl, HO.out, HB.out⟩
            case neg =>
              have h41 : byteAt s k = 41 := by
                by_cases h : byteAt s k = 41
                · exact h
                · exact absurd ⟨hks, h124, h⟩ hgo
              have t1 : (bt s k != 124) = true := by rw [bne_iff_ne, hba, h41]; decide
              have t2 : (bt s k != 41) = false := by rw [bne_eq_false_iff_eq, hba, h41]; rfl
              clear hgo h124 h41 hba
              go_wp2_with fail
              refine HCA.out.mono ?_
              rintro e w2 ⟨v, rfl, ho, hb⟩
              obtain ⟨A, c, rfl, _, _⟩ := own_form ho
              have HO := Lib.hid (own_mono ho HBW.out.size)
              have HB := Lib.hid (HBW.out.trans (hb.mono HBW.out.size))
              clear ho hb
              go_wp2
              go_ret3
              exact ⟨A, c, rfl, HO.out, HB.out⟩
      case pos =>
        rw [if_pos hgo] at hbr
        cases hat : atomF tx s k with
        | none => rw [hat] at hbr; cases hbr
        | some p =>
          obtain ⟨l1, n1⟩ := p
          rw [hat] at hbr
          simp only at hbr
          split at hbr
          case isFalse => cases hbr
          case isTrue hc1 =>
            obtain ⟨⟨l2, n2⟩, hst⟩ : ∃ p, starsF s (s.size - n1) l1 n1 = p := ⟨_, rfl⟩
            rw [hst] at hbr
            have hn2 := starsF_le s (s.size - n1) l1 n1 hc1.2.1
            rw [hst] at hn2
            simp only at hbr hn2
            have HBR := Lib.hid hbr
            have HA := Lib.hid (HAT.out k wr l1 n1 hat)
            have HST := Lib.hid hst
            have z0 : (0 : Int) ≤ (k : Int) := by omega
            have z1 : (k : Int) < (s.size : Int) := by omega
            have hba := bt_at s k hgo.1
            have t1 : (bt s k != 124) = true := by rw [bne_iff_ne, hba]; have := hgo.2.1; omega
            have t2 : (bt s k != 41) = true := by rw [bne_iff_ne, hba]; have := hgo.2.2; omega
            obtain ⟨hkn, hns, hl1⟩ := hc1
            obtain ⟨ol, hol⟩ : ∃ x, os.length = x := ⟨_, rfl⟩
            have HOL := Lib.hid hol
            rw [hol] at hosl ⊢
            clear hgo hba hbr hat hst hol
            go_wp2_with fail
            refine HA.out.mono ?_
            rintro e w2 ⟨A, c, rfl, ho, hb⟩
            have HO := Lib.hid ho
            have HB := Lib.hid hb
            have hw2 : wr.heap.size ≤ w2.heap.size := hb.size
            clear ho hb t1 t2
            go_wp2_with fail
            obtain ⟨wo, rfl⟩ : ∃ x, x = wr := ⟨_, rfl⟩
            go_loopg [8, 9] (s.size - n1) (fun gk lv nv wq => ∃ (A : Option Addr) (c : Nat) (ll : List Rx) (nq : Nat), nq ≤ s.size ∧ n1 ≤ nq ∧ gk = s.size - nq ∧ lv = .slice A ll.length c ∧ nv = .int .i64 (nq : Int) ∧ wq.ownsRow wo.heap.size 78 5 (.slice A ll.length c) ll.length (ll.flatMap rxC) ∧ starsF s (s.size - nq) ll nq = (l2, n2) ∧ ll.length + (s.size - nq) ≤ 2000 ∧ Below wo.heap.size wo wq)
            case atStart => exact ⟨A, c, l1, n1, hns, Nat.le_refl _, rfl, rfl, rfl, HO.out, HST.out, by omega, HB.out⟩
            case round =>
              obtain ⟨A, c, ll, nq, hnq, hn1, hgk2, rfl, rfl, hown, hsf, hll, hbq⟩ := hrel
              have HOW := Lib.hid hown
              have HBQ := Lib.hid hbq
              skip
              clear hown hbq
              have y0 : (0 : Int) ≤ (nq : Int) := by omega
              by_cases hns2 : nq < s.size
              case neg =>
                have y1 : ¬ (nq : Int) < (s.size : Int) := by omega
                rw [show s.size - nq = 0 by omega] at hsf
                simp only [starsF, Prod.mk.injEq] at hsf
                obtain ⟨rfl, rfl⟩ := hsf
                have HD := Lib.hid (HRB.out.add HBQ.out (q := ⟨78, 5, .slice A ll.length c, ll.length, ll.flatMap rxC⟩) HOW.out)
                have hle : w.heap.size ≤ wr.heap.size := HD.out.le
                have HBW2 := Lib.hid (HBW.out.trans (HBQ.out.mono hgl))
                have HOP : Hid (wr.ownsRow w.heap.size 22 1 (.slice pa ol pc) ol (os.flatMap slC)) := Lib.hid (by rw [← HOL.out]; exact HD.out.own)
                have HAP := Lib.hid (app_rw HOP.out ⟨A, ll.length, c, ll⟩ (by omega) hle wr.heap.size rfl)
                go_wp2_with (at_builtin; refine HAP.out _ _ _ _ _ rfl _ _ rfl rfl rfl ?_; intro gg cap w5 hownB hgrow hat; have HOB := Lib.hid hownB; have HGB := Lib.hid hgrow; have HATT := Lib.hid hat; clear hownB hgrow hat)
                have HDN := Lib.hid (HD.out.put ((Below.refl wr.heap.size wr).alloc (Nat.le_refl _) (.cells #[.slice A ll.length c] 22)) (by rw [HOL.out]; exact HGB.out) (v := .slice (some ⟨gg, 0, none⟩) (ol + 1) cap) (z := ⟨A, ll.length, c, ll⟩) (by rw [HOL.out]; exact HOB.out) (by rw [HOL.out]; exact row_new HATT.out (by omega) rfl) ⟨List.mem_append_right _ (.head _), rfl⟩)
                have HBN : Hid (Below w.heap.size w w5) := Lib.hid (below_grown (HBW2.out.alloc hle _) (by simp; omega) HGB.out (fun q hq => (own_ge HOP.out hq).1))
                go_roundg (s.size - nq)
                case measure => omega
                case rel => exact ⟨nq, m, os ++ [⟨A, ll.length, c, ll⟩], _, hnq, rfl, rfl, HDN.out, by rw [List.map_append]; exact HBR.out, HBN.out⟩
              case pos =>
                have y1 : (nq : Int) < (s.size : Int) := by omega
                have hbq2 := bt_at s nq hns2
                obtain ⟨b, hbb⟩ : ∃ b, byteAt s nq = b := ⟨_, rfl⟩
                rw [hbb] at hbq2
                have hin := in_any sufB b wr (by decide)
                rw [← hbq2] at hin
                have HIN := Lib.hid hin
                rw [show s.size - nq = (s.size - (nq + 1)) + 1 by omega] at hsf
                simp only [starsF] at hsf
                rw [hbb] at hsf
                obtain ⟨q, hq⟩ : ∃ q, inB sufB b = q := ⟨_, rfl⟩
                rw [hq] at HIN hsf
                have HBT := Lib.hid hbq2
                have HQ := Lib.hid hq
                clear hbb hbq2 hq hin
                cases q with
                | false =>
                  rw [if_neg (by simp)] at hsf
                  simp only [Prod.mk.injEq] at hsf
                  obtain ⟨rfl, rfl⟩ := hsf
                  skip
                  go_wp2_with fail
                  refine HIN.out.mono ?_
                  rintro e w3 ⟨rfl, rfl⟩
                  have HD := Lib.hid (HRB.out.add HBQ.out (q := ⟨78, 5, .slice A ll.length c, ll.length, ll.flatMap rxC⟩) HOW.out)
                  have hle : w.heap.size ≤ wr.heap.size := HD.out.le
                  have HBW2 := Lib.hid (HBW.out.trans (HBQ.out.mono hgl))
                  have HOP : Hid (wr.ownsRow w.heap.size 22 1 (.slice pa ol pc) ol (os.flatMap slC)) := Lib.hid (by rw [← HOL.out]; exact HD.out.own)
                  have HAP := Lib.hid (app_rw HOP.out ⟨A, ll.length, c, ll⟩ (by omega) hle wr.heap.size rfl)
                  go_wp2_with (at_builtin; refine HAP.out _ _ _ _ _ rfl _ _ rfl rfl rfl ?_; intro gg cap w5 hownB hgrow hat; have HOB := Lib.hid hownB; have HGB := Lib.hid hgrow; have HATT := Lib.hid hat; clear hownB hgrow hat)
                  have HDN := Lib.hid (HD.out.put ((Below.refl wr.heap.size wr).alloc (Nat.le_refl _) (.cells #[.slice A ll.length c] 22)) (by rw [HOL.out]; exact HGB.out) (v := .slice (some ⟨gg, 0, none⟩) (ol + 1) cap) (z := ⟨A, ll.length, c, ll⟩) (by rw [HOL.out]; exact HOB.out) (by rw [HOL.out]; exact row_new HATT.out (by omega) rfl) ⟨List.mem_append_right _ (.head _), rfl⟩)
                  have HBN : Hid (Below w.heap.size w w5) := Lib.hid (below_grown (HBW2.out.alloc hle _) (by simp; omega) HGB.out (fun q hq => (own_ge HOP.out hq).1))
                  go_roundg (s.size - nq)
                  case measure => omega
                  case rel => exact ⟨nq, m, os ++ [⟨A, ll.length, c, ll⟩], _, hnq, rfl, rfl, HDN.out, by rw [List.map_append]; exact HBR.out, HBN.out⟩
                | true =>
                  rw [if_pos ⟨hns2, rfl⟩] at hsf
                  have hb3 := suf_of HQ.out
                  have HON := Lib.hid (refone_any wr A ll.length c ll (kindOfB b) (own_row rxC_len HOW.out) (by omega))
                  obtain ⟨kd, hkd⟩ : ∃ x, kindOfB b = x := ⟨_, rfl⟩
                  rw [hkd] at HON hsf
                  have HSF := Lib.hid hsf
                  have HKD := Lib.hid hkd
                  clear hsf hkd
                  rcases hb3 with hbv | hbv | hbv
                  ·
                    obtain rfl : kd = 5 := by rw [← HKD.out, hbv]; rfl
                    have t1 : (bt s nq == 43) = false := by rw [HBT.out, hbv]; rfl
                    have t2 : (bt s nq == 63) = false := by rw [HBT.out, hbv]; rfl
                    clear hbv
                    go_wp2_with fail
                    refine HIN.out.mono ?_
                    rintro e w3 ⟨rfl, rfl⟩
                    go_wp2_with fail
                    refine HON.out.mono ?_
                    rintro e w4 ⟨v, rfl, ho4, hb4⟩
                    obtain ⟨A4, c4, rfl, _, _⟩ := own_form ho4
                    have HO4 := Lib.hid (own_mono ho4 HBQ.out.size)
                    have HB4 := Lib.hid (HBQ.out.trans (hb4.mono HBQ.out.size))
                    clear ho4 hb4
                    go_wp2_with fail
                    go_roundg (s.size - (nq + 1))
                    case measure => omega
                    case rel => exact ⟨A4, c4, oneF ll 5, nq + 1, by omega, by omega, rfl, rfl, rfl, HO4.out, HSF.out, by unfold oneF; rw [List.length_append]; simp; omega, HB4.out⟩
                  ·
                    obtain rfl : kd = 6 := by rw [← HKD.out, hbv]; rfl
                    have t1 : (bt s nq == 43) = true := by rw [HBT.out, hbv]; rfl
                    have t2 : (bt s nq == 63) = false := by rw [HBT.out, hbv]; rfl
                    clear hbv
                    go_wp2_with fail
                    refine HIN.out.mono ?_
                    rintro e w3 ⟨rfl, rfl⟩
                    go_wp2_with fail
                    refine HON.out.mono ?_
                    rintro e w4 ⟨v, rfl, ho4, hb4⟩
                    obtain ⟨A4, c4, rfl, _, _⟩ := own_form ho4
                    have HO4 := Lib.hid (own_mono ho4 HBQ.out.size)
                    have HB4 := Lib.hid (HBQ.out.trans (hb4.mono HBQ.out.size))
                    clear ho4 hb4
                    go_wp2_with fail
                    go_roundg (s.size - (nq + 1))
                    case measure => omega
                    case rel => exact ⟨A4, c4, oneF ll 6, nq + 1, by omega, by omega, rfl, rfl, rfl, HO4.out, HSF.out, by unfold oneF; rw [List.length_append]; simp; omega, HB4.out⟩
                  ·
                    obtain rfl : kd = 7 := by rw [← HKD.out, hbv]; rfl
                    have t1 : (bt s nq == 43) = false := by rw [HBT.out, hbv]; rfl
                    have t2 : (bt s nq == 63) = true := by rw [HBT.out, hbv]; rfl
                    clear hbv
                    go_wp2_with fail
                    refine HIN.out.mono ?_
                    rintro e w3 ⟨rfl, rfl⟩
                    go_wp2_with fail
                    refine HON.out.mono ?_
                    rintro e w4 ⟨v, rfl, ho4, hb4⟩
                    obtain ⟨A4, c4, rfl, _, _⟩ := own_form ho4
                    have HO4 := Lib.hid (own_mono ho4 HBQ.out.size)
                    have HB4 := Lib.hid (HBQ.out.trans (hb4.mono HBQ.out.size))
                    clear ho4 hb4
                    go_wp2_with fail
                    go_roundg (s.size - (nq + 1))
                    case measure => omega
                    case rel => exact ⟨A4, c4, oneF ll 7, nq + 1, by omega, by omega, rfl, rfl, rfl, HO4.out, HSF.out, by unfold oneF; rw [List.length_append]; simp; omega, HB4.out⟩
end Go.Proofs.Ytbefndibkpjgaaa
/- The reader: a text, and Read. -/
namespace Go.Proofs.Ytbefndibkpjgaaa
open Go.RowKit Go.PlainAid
set_option linter.unusedVariables false
set_option linter.unusedSimpArgs false

def altP (ps : List (List Rx)) : List Rx := if ps.length = 0 then [⟨1, emptyS⟩] else behUp 4 ps ps.length
/-- The branches behind the first one. -/
def altsF (tx : Nat → Option (List Rx × Nat)) (s : ByteArray) : Nat → List (List Rx) → Nat → Option (List Rx × Nat)
  | 0, _, _ => none
  | m + 1, ps, k =>
    if k < s.size ∧ byteAt s k = 124 then
      match branchF tx s (s.size + 2) [] (k + 1) with
      | none => none
      | some (l, nx) => if ps.length ≤ 1000 ∧ nx ≤ s.size ∧ k < nx then altsF tx s m (ps ++ [l]) nx else none
    else if tot ps + ps.length ≤ 2000 then some (altP ps, k) else none
def textF (s : ByteArray) : Nat → Nat → Option (List Rx × Nat)
  | 0, _ => none
  | f + 1, k =>
    if k ≤ s.size then
      match branchF (textF s f) s (s.size + 2) [] k with
      | none => none
      | some (l, nx) => if nx ≤ s.size then altsF (textF s f) s (s.size + 2) [l] nx else none
    else none
theorem RB.lit {w w2 : World} {z : Rw} (hb : Below w.heap.size w w2) (hz : w2.ownsRow w.heap.size 78 5 (.slice z.a z.l z.c) z.l (z.rs.flatMap rxC)) (hl : z.l = z.rs.length) (cs : Array Value) (hcs : cs = #[.slice z.a z.l z.c]) :
    RB w.heap.size (w2.alloc (.cells cs 22)) (.slice (some ⟨w2.heap.size, 0, none⟩) 1 1) [z] [⟨78, 5, .slice z.a z.l z.c, z.l, z.rs.flatMap rxC⟩] := by
  have h0 : RB w.heap.size w (.slice none 0 0) [] [] := RB.start (own_none _ _ _ _) (Nat.le_refl _)
  have h1 := h0.add hb (q := ⟨78, 5, .slice z.a z.l z.c, z.l, z.rs.flatMap rxC⟩) hz
  have hb2 : Below w2.heap.size w2 (w2.alloc (.cells cs 22)) := (Below.refl _ _).alloc (Nat.le_refl _) _
  have ho := own_lit slC_len w2 w2.heap.size 22 (Nat.le_refl _) z cs hcs
  have h2 := h1.rows.fresh (i := 0) (r := ⟨22, 1, .slice (some ⟨w2.heap.size, 0, none⟩) 1 1, 1, [z].flatMap slC⟩) hb2 rfl ho hb.size
  refine ⟨h2, fun o ho => ?_, by simp; have := hb.size; omega⟩
  rw [List.mem_singleton] at ho
  subst ho
  exact ⟨.head _, hl⟩
set_option maxHeartbeats 4000000 in
theorem text_step (s : ByteArray) (hs : s.size ≤ 1000) (f : Nat) (ih : ∀ (k0 : Nat) (w : World) (l : List Rx) (nx : Nat), textF s f k0 = some (l, nx) → Calls Try.prog 49 #[.string s, .int .i64 (k0 : Int)] w (Rd w l nx))
    (k0 : Nat) (w : World) (l : List Rx) (nx : Nat) (h : textF s (f + 1) k0 = some (l, nx)) :
    Calls Try.prog 49 #[.string s, .int .i64 (k0 : Int)] w (Rd w l nx) := by
    have gb := get_bt s
    have HBA := Lib.hid fun (k : Nat) (w : World) (l : List Rx) (nx : Nat) (hk : k ≤ s.size) h => branch_any s (textF s f) hs (fun k w l nx h => ih k w l nx h) (s.size + 2) k w l nx hk h
    simp only [textF] at h
    split at h
    case isFalse => cases h
    case isTrue hk0 =>
      cases hb0 : branchF (textF s f) s (s.size + 2) [] k0 with
      | none => rw [hb0] at h; cases h
      | some p =>
        obtain ⟨l1, n1⟩ := p
        rw [hb0] at h
        simp only at h
        split at h
        case isFalse => cases h
        case isTrue hn1 =>
          have HH := Lib.hid h
          have HB := Lib.hid (HBA.out k0 w l1 n1 hk0 hb0)
          clear h hb0
          obtain ⟨tx, htx⟩ : ∃ tx, textF s f = tx := ⟨_, rfl⟩
          rw [htx] at HH HBA
          clear htx
          go_enter Try.func49, Try.ntmps49
          go_wp2_with fail
          refine HB.out.mono ?_
          rintro e w2 ⟨A, c, rfl, ho, hb⟩
          have HRB0 := Lib.hid (RB.lit (z := ⟨A, l1.length, c, l1⟩) hb ho rfl #[.slice A l1.length c] rfl)
          have HBL := Lib.hid (hb.alloc hb.size (.cells #[.slice A l1.length c] 22))
          clear ho hb HB
          go_wp2_with fail
          go_loopg [7, 8, 9, 10] (s.size - n1) (fun gk lv av bv pv wr => ∃ (k m : Nat) (os : List Rw) (rest : List RowD), k ≤ s.size ∧ gk = s.size - k ∧ av = .int .i64 (k : Int) ∧ bv = .bool true ∧ RB w.heap.size wr pv os rest ∧ altsF tx s m (os.map Rw.rs) k = some (l, nx) ∧ Below w.heap.size w wr)
          case atStart => exact ⟨n1, s.size + 2, [⟨A, l1.length, c, l1⟩], _, hn1, rfl, rfl, rfl, HRB0.out, HH.out, HBL.out⟩
          case round =>
            obtain ⟨k, m, os, rest, hk, hgk, rfl, rfl, hrb, hbr, hbw⟩ := hrel
            have HRB := Lib.hid hrb
            have HBW := Lib.hid hbw
            obtain ⟨pa, pc, rfl, hp1, hp2⟩ := own_form hrb.own
            have hgl : w.heap.size ≤ wr.heap.size := hrb.le
            clear hrb hbw
            cases m with
            | zero => cases hbr
            | succ m =>
              simp only [altsF] at hbr
              by_cases hgo : k < s.size ∧ byteAt s k = 124
              case neg =>
                rw [if_neg hgo] at hbr
                split at hbr
                case isFalse => cases hbr
                case isTrue htot =>
                  simp only [Option.some.injEq, Prod.mk.injEq] at hbr
                  obtain ⟨hl, rfl⟩ := hbr
                  have HCA : Hid (Calls Try.prog 70 #[.slice pa os.length pc] wr (Gives wr l)) := Lib.hid (by
                    have h1 := refalt_any wr pa os.length pc os HRB.out.rrow (by rw [List.length_map] at htot; exact htot)
                    have h2 : altR os os.length = l := by rw [← hl]; unfold altR altP; rw [List.length_map]
                    rw [h2] at h1; exact h1)
                  clear htot hl
                  have z0 : (0 : Int) ≤ (k : Int) := by omega
                  by_cases hks : k < s.size
                  case neg =>
                    have z1 : ¬ (k : Int) < (s.size : Int) := by omega
                    clear hgo hks
                    go_wp2_with fail
                    refine HCA.out.mono ?_
                    rintro e w3 ⟨v, rfl, ho, hb⟩
                    obtain ⟨A3, c3, rfl, _, _⟩ := own_form ho
                    have HO := Lib.hid (own_mono ho HBW.out.size)
                    have HB3 := Lib.hid (HBW.out.trans (hb.mono HBW.out.size))
                    clear ho hb
                    go_wp2
                    go_ret3
                    exact ⟨A3, c3, rfl, HO.out, HB3.out⟩
                  case pos =>
                    have z1 : (k : Int) < (s.size : Int) := by omega
                    have hba := bt_at s k hks
                    have t1 : (bt s k == 124) = false := by
                      rw [beq_eq_false_iff_ne, hba]
                      intro e
                      exact hgo ⟨hks, by omega⟩
                    clear hgo hba
                    go_wp2_with fail
                    refine HCA.out.mono ?_
                    rintro e w3 ⟨v, rfl, ho, hb⟩
                    obtain ⟨A3, c3, rfl, _, _⟩ := own_form ho
                    have HO := Lib.hid (own_mono ho HBW.out.size)
                    have HB3 := Lib.hid (HBW.out.trans (hb.mono HBW.out.size))
                    clear ho hb
                    go_wp2
                    go_ret3
                    exact ⟨A3, c3, rfl, HO.out, HB3.out⟩
              case pos =>
                rw [if_pos hgo] at hbr
                cases hat : branchF tx s (s.size + 2) [] (k + 1) with
                | none => rw [hat] at hbr; cases hbr
                | some p =>
                  obtain ⟨l2, n2⟩ := p
                  rw [hat] at hbr
                  simp only at hbr
                  split at hbr
                  case isFalse => cases hbr
                  case isTrue hc =>
                    obtain ⟨hos, hn2, hkn⟩ := hc
                    rw [List.length_map] at hos
                    have HA := Lib.hid (HBA.out (k + 1) wr l2 n2 (by omega) hat)
                    have HBR := Lib.hid hbr
                    have z0 : (0 : Int) ≤ (k : Int) := by omega
                    have z1 : (k : Int) < (s.size : Int) := by omega
                    have hba := bt_at s k hgo.1
                    have t1 : (bt s k == 124) = true := by rw [beq_iff_eq, hba, hgo.2]; rfl
                    obtain ⟨ol, hol⟩ : ∃ x, os.length = x := ⟨_, rfl⟩
                    have HOL := Lib.hid hol
                    rw [hol] at hos ⊢
                    clear hgo hba hbr hat hol
                    go_wp2_with fail
                    refine HA.out.mono ?_
                    rintro e w3 ⟨A3, c3, rfl, ho, hb⟩
                    have HBQ := Lib.hid hb
                    have HD := Lib.hid (HRB.out.add hb (q := ⟨78, 5, .slice A3 l2.length c3, l2.length, l2.flatMap rxC⟩) ho)
                    have hw3 : wr.heap.size ≤ w3.heap.size := hb.size
                    have hle : w.heap.size ≤ w3.heap.size := by omega
                    have HBW2 := Lib.hid (HBW.out.trans (hb.mono hgl))
                    have HOP : Hid (w3.ownsRow w.heap.size 22 1 (.slice pa ol pc) ol (os.flatMap slC)) := Lib.hid (by rw [← HOL.out]; exact HD.out.own)
                    have HAP := Lib.hid (app_rw HOP.out ⟨A3, l2.length, c3, l2⟩ (by omega) hle w3.heap.size rfl)
                    clear ho hb
                    go_wp2_with (at_builtin; refine HAP.out _ _ _ _ _ rfl _ _ rfl rfl rfl ?_; intro gg cap w5 hownB hgrow hat; have HOB := Lib.hid hownB; have HGB := Lib.hid hgrow; have HATT := Lib.hid hat; clear hownB hgrow hat)
                    have HDN := Lib.hid (HD.out.put ((Below.refl w3.heap.size w3).alloc (Nat.le_refl _) (.cells #[.slice A3 l2.length c3] 22)) (by rw [HOL.out]; exact HGB.out) (v := .slice (some ⟨gg, 0, none⟩) (ol + 1) cap) (z := ⟨A3, l2.length, c3, l2⟩) (by rw [HOL.out]; exact HOB.out) (by rw [HOL.out]; exact row_new HATT.out (by omega) rfl) ⟨List.mem_append_right _ (.head _), rfl⟩)
                    have HBN : Hid (Below w.heap.size w w5) := Lib.hid (below_grown (HBW2.out.alloc hle _) (by simp; omega) HGB.out (fun q hq => (own_ge HOP.out hq).1))
                    go_roundg (s.size - n2)
                    case measure => omega
                    case rel => exact ⟨n2, m, os ++ [⟨A3, l2.length, c3, l2⟩], _, hn2, rfl, rfl, rfl, HDN.out, by rw [List.map_append]; exact HBR.out, HBN.out⟩
theorem text_all (s : ByteArray) (hs : s.size ≤ 1000) : ∀ (f k0 : Nat) (w : World) (l : List Rx) (nx : Nat), textF s f k0 = some (l, nx) →
    Calls Try.prog 49 #[.string s, .int .i64 (k0 : Int)] w (Rd w l nx) := by
  intro f
  induction f with
  | zero => intro k0 w l nx h; cases h
  | succ f ih => exact text_step s hs f ih
end Go.Proofs.Ytbefndibkpjgaaa
/- The reader: Read, of a text that is one expression. -/
namespace Go.Proofs.Ytbefndibkpjgaaa
open Go.RowKit Go.PlainAid
set_option linter.unusedVariables false
set_option linter.unusedSimpArgs false

set_option maxHeartbeats 4000000 in
theorem read_any (s : ByteArray) (f : Nat) (l : List Rx) (m : Nat) (hs : s.size = m) (hm : m ≤ 1000) (h : textF s f 0 = some (l, m)) (hl : l.length ≤ 512) (w : World) :
    Calls Try.prog 30 #[.string s] w fun e w' => ∃ A c, e = .returned (.tuple #[.slice A l.length c, .int .i64 (m : Int), .int .i64 0]) ∧ w'.ownsRow w.heap.size 78 5 (.slice A l.length c) l.length (l.flatMap rxC) ∧ Below w.heap.size w w' := by
  have HT := Lib.hid (text_all s (by omega) f 0 w l m h)
  have HS := Lib.hid hs
  have z1 : ¬ 4096 < (s.size : Int) := by omega
  have z2 : ¬ 4096 < s.size := by omega
  have z3 : (s.size : Int) = (m : Int) := by omega
  have z4 : ¬ (m : Int) < (m : Int) := by omega
  have z5 : ¬ 512 < (l.length : Int) := by omega
  clear h hs
  go_enter Try.func30, Try.ntmps30
  go_wp2_with fail
  refine HT.out.mono ?_
  rintro e w2 ⟨A, c, rfl, ho, hb⟩
  have HO := Lib.hid ho
  have HB := Lib.hid hb
  clear ho hb
  go_wp2
  go_ret3
  exact ⟨A, c, rfl, HO.out, HB.out⟩
end Go.Proofs.Ytbefndibkpjgaaa
/- bset: Span, the program's. -/
namespace Go.Proofs.Ytbefndibkpjgaaa
open Go.RowKit
set_option linter.unusedVariables false

theorem span_step {lo hi : Int} {k : Nat} (h1 : lo ≤ (k : Int)) (h2 : (k : Int) ≤ hi) : SameSet (addS (spanS lo hi k) k) (spanS lo hi (k + 1)) := fun x _ => by
  unfold addS spanS
  by_cases hx : x = k
  · subst hx; simp [h1, h2]
  · have : decide (x < k + 1) = decide (x < k) := by rw [decide_eq_decide]; omega
    simp [hx, this]
theorem span_start {lo hi : Int} {k : Nat} (h : (k : Int) ≤ max lo 0) : SameSet emptyS (spanS lo hi k) := fun x _ => by
  unfold emptyS spanS
  by_cases hx : x < k
  · have : ¬ lo ≤ (x : Int) := by omega
    simp [this]
  · simp [hx]
theorem span_end {lo hi : Int} {k : Nat} (h : 255 < k ∨ hi < (k : Int)) : SameSet (spanS lo hi k) (spanS lo hi 256) := fun x hx => by
  unfold spanS
  by_cases h2 : (x : Int) ≤ hi
  · have h3 : x < k := by omega
    simp [h3, hx]
  · simp [h2]
theorem or_one (S : Nat → Bool) (b : Nat) : wd (addS S b) (b / 64) = wd S (b / 64) ||| wd (fun x => x == b) (b / 64) := by
  rw [wd_or]; rfl
set_option maxHeartbeats 1000000 in
theorem bspan_any (lo hi : Int) (w : World) :
    Calls Try.prog 31 #[.int .i64 lo, .int .i64 hi] w fun e w' => e = .returned (setV (spanS lo hi 256)) ∧ Below w.heap.size w w' := by
  have hz : SetAt ((w.alloc (.cells #[.int .u64 0, .int .u64 0, .int .u64 0, .int .u64 0] 33)).alloc (.cells #[.int .u64 0, .int .u64 0, .int .u64 0, .int .u64 0] 33)) (w.heap.size + 1) emptyS := SetAt.of_empty (heap_alloc2_new w _ _)
  have hy : SetAt ((w.alloc (.cells #[.int .u64 0, .int .u64 0, .int .u64 0, .int .u64 0] 33)).alloc (.cells #[.int .u64 0, .int .u64 0, .int .u64 0, .int .u64 0] 33)) w.heap.size emptyS := SetAt.of_empty (heap_alloc2_old w _ _)
  have HZ := Lib.hid hz
  have HY := Lib.hid hy
  clear hz hy
  unfold setV
  go_enter Try.func31, Try.ntmps31
  go_wp2
  all_goals
    go_loopw [6] (fun i wr => ∃ k : Nat, i = .int .i64 k ∧ (max lo 0 ≤ (k : Int)) ∧ SetAt wr w.heap.size emptyS ∧ SetAt wr (w.heap.size + 1) (spanS lo hi k) ∧ Below w.heap.size w wr) (fun i _ => 256 - (intOf i).toNat)
    case atStart => exact ⟨(max lo 0).toNat, by congr 1; omega, by omega, HY.out, HZ.out.congr (span_start (by omega)), ((Below.refl _ _).alloc (Nat.le_refl _) _).alloc (by simp) _⟩
    case round =>
      obtain ⟨k, rfl, hk, hY, hZ, hb⟩ := hrel
      have HY2 := Lib.hid hY
      have HZ2 := Lib.hid hZ
      have HB := Lib.hid hb
      have HKK := Lib.hid hk
      have hz1 := hZ.lt
      clear hY hZ hb HZ HY hk
      by_cases hlt : (k : Int) ≤ hi ∧ k ≤ 255
      · have c := HZ2.out.cell (k / 64) (by omega)
        have fz := HZ2.out.fz (k / 64)
        have hpw := wrap_pow (k % 64) (by omega)
        have hone := wd_one k (k / 64)
        rw [if_pos rfl] at hone
        rw [← hone] at hpw
        have hor : bits .or .u64 (wd (spanS lo hi k) (k / 64) : Int) (wd (fun x => x == k) (k / 64) : Int) = (wd (addS (spanS lo hi k) k) (k / 64) : Int) := by
          rw [bits_or_u64 _ _ (wd_lt _ _) (wd_lt _ _), or_one]
        have HSS : Hid (SetAt (wr.setCell ⟨w.heap.size + 1, k / 64, none⟩ (.int .u64 (wd (addS (spanS lo hi k) k) (k / 64)))) (w.heap.size + 1) (spanS lo hi (k + 1))) := Lib.hid (by
          refine SetAt.congr (HZ2.out.put (k / 64) (by omega) (fun i hi _ => ?_)) (span_step (by have := HKK.out; omega) hlt.1)
          exact or_far _ _ _ hi)
        have hq : k / 64 < 4 := by omega
        have h1 := hlt.1
        have h2 := hlt.2
        have h3 : decide ((k : Int) ≤ hi) = true := decide_eq_true h1
        have h4 : decide ((k : Int) ≤ 255) = true := decide_eq_true (by omega)
        by_cases h255 : (255 : Int) < hi
        all_goals
          clear hone hlt
          go_wp2
          go_region
          go_wp2
          go_roundw
          case rel => exact ⟨k + 1, by go_num, by have := HKK.out; omega, HY2.out.far (by simp) _, HSS.out, (HB.out.setCell (p := ⟨w.heap.size + 1, k / 64, none⟩) (by simp) _).drew⟩
          case measure => simp [intOf]; omega
      · have HF := Lib.hid (HZ2.out.congr (span_end (lo := lo) (hi := hi) (k := k) (by omega)))
        have c0 := HF.out.cell 0 (by omega)
        have c1 := HF.out.cell 1 (by omega)
        have c2 := HF.out.cell 2 (by omega)
        have c3 := HF.out.cell 3 (by omega)
        by_cases h255 : (255 : Int) < hi
        · have h4 : decide ((k : Int) ≤ 255) = false := decide_eq_false (by omega)
          go_wp2_with (refine wpList_store_set rfl _ _ rfl w.heap.size emptyS (spanS lo hi 256) rfl rfl HY2.out ?_; intro w9 hR hB9 hO9 hS9)
          refine bodyPost_ret (results_cell_row rfl _ _ w.heap.size 33 _ (0, 0) _ rfl hR Try.underlying33 rfl sizeSet) rfl ⟨rfl, ?_⟩
          exact HB.out.trans (hB9 _ (Nat.le_refl _))
        · have h4 : decide ((k : Int) ≤ hi) = false := decide_eq_false (by omega)
          go_wp2_with (refine wpList_store_set rfl _ _ rfl w.heap.size emptyS (spanS lo hi 256) rfl rfl HY2.out ?_; intro w9 hR hB9 hO9 hS9)
          refine bodyPost_ret (results_cell_row rfl _ _ w.heap.size 33 _ (0, 0) _ rfl hR Try.underlying33 rfl sizeSet) rfl ⟨rfl, ?_⟩
          exact HB.out.trans (hB9 _ (Nat.le_refl _))
end Go.Proofs.Ytbefndibkpjgaaa
/- The chapter's example: (a|b)*c. -/
namespace Go.Proofs.Ytbefndibkpjgaaa
open Go.RowKit
set_option linter.unusedVariables false
set_option linter.unusedSimpArgs false

def kT : RxT := .cat (.star (.alt (.set fun x => x == 97) (.set fun x => x == 98))) (.set fun x => x == 99)
def kS : ByteArray := ⟨#[40, 97, 124, 98, 41, 42, 99]⟩
def kAbcc : ByteArray := ⟨#[97, 98, 99, 99]⟩
def kC : ByteArray := ⟨#[99]⟩
theorem k_txt : textF kS 3 0 = some (post kT, 7) := by kernel_rfl
theorem k_chk : chkR (post kT) = 0 := by kernel_rfl
theorem k_sh : shF (factT kT) = 1 := by decide +kernel
theorem k_lo : loF (factT kT) = -2 := by decide +kernel
theorem k_first (i : Nat) (hi : i < 4) : wd (factT kT).first i = wd (spanS 97 99 256) i := by
  match i, hi with
  | 0, _ => decide +kernel
  | 1, _ => decide +kernel
  | 2, _ => decide +kernel
  | 3, _ => decide +kernel
def kM (w : List UInt8) : Mx := behM w.length (bothM sameM (agM w.length (bothM (setM (fun x => x == 97) w) (setM (fun x => x == 98) w)) 3)) (setM (fun x => x == 99) w)
theorem kM_lm (w : List UInt8) (h : w.length ≤ 4) : LM (inT kT) w (kM w) :=
  lm_cat (lm_star (lm_alt (lm_set _ w) (lm_set _ w)) (r := 3) (by simp; omega)) (lm_set _ w)
theorem pw_unique : ∀ {xs ys : List Int}, xs.Pairwise (· < ·) → ys.Pairwise (· < ·) → (∀ z, z ∈ xs ↔ z ∈ ys) → xs = ys
  | [], [], _, _, _ => rfl
  | [], y :: ys, _, _, h => by have := (h y).2 (.head _); cases this
  | x :: xs, [], _, _, h => by have := (h x).1 (.head _); cases this
  | x :: xs, y :: ys, hx, hy, h => by
    obtain ⟨h1, h2⟩ := List.pairwise_cons.1 hx
    obtain ⟨h3, h4⟩ := List.pairwise_cons.1 hy
    have e : x = y := by
      have ha := (h x).1 (.head _)
      have hb := (h y).2 (.head _)
      rcases List.mem_cons.1 ha with ha | ha
      · exact ha
      · rcases List.mem_cons.1 hb with hb | hb
        · exact hb.symm
        · have := h1 y hb; have := h3 x ha; omega
    subst e
    rw [pw_unique h2 h4 fun z => ?_]
    constructor
    · intro hz
      rcases List.mem_cons.1 ((h z).1 (.tail _ hz)) with e | h5
      · subst e; have := h1 z hz; omega
      · exact h5
    · intro hz
      rcases List.mem_cons.1 ((h z).2 (.tail _ hz)) with e | h5
      · subst e; have := h3 z hz; omega
      · exact h5
theorem ends_unique {o : Option RxT} {s : ByteArray} {z : Int} {xs ys : List Int} (h : EndsOf o s z xs) (g : EndsOf o s z ys) : xs = ys :=
  pw_unique h.1 g.1 fun p => by rw [h.2, g.2]
theorem k_ends {xs : List Int} (h : EndsOf (some kT) kAbcc 0 xs) : xs = [3] := by
  have h1 := upE_ends (T := kT) (s := kAbcc) (p := 0) (m := 5) rfl (by decide) (kM_lm (LS kAbcc) (by decide))
  rw [ends_unique h h1]
  decide +kernel
theorem k_says : saysW (some kT) kC := ⟨kT, rfl, [], [99], rfl, .nil, 99, rfl, rfl⟩
theorem kread (w : World) : Calls Try.prog 30 #[.string ⟨#[40, 97, 124, 98, 41, 42, 99]⟩] w fun e w' => ∃ A c, e = .returned (.tuple #[.slice A 6 c, .int .i64 7, .int .i64 0]) ∧ CRow rxC 5 w' A 6 (post kT) ∧ Below w.heap.size w w' :=
  (read_any kS 3 (post kT) 7 rfl (by omega) k_txt (by decide) w).mono fun e w' ⟨A, c, he, ho, hb⟩ => ⟨A, c, he, own_row rxC_len ho, hb⟩
set_option maxRecDepth 100000 in
set_option maxHeartbeats 4000000 in
/-- Two lists of numbers held against each other. -/
theorem samei_any (w : World) (a b : Option Addr) (n m c d : Nat) (xs ys : List Int) (h1 : CRow intC 1 w a n xs) (h2 : CRow intC 1 w b m ys) :
    Calls Try.prog 11 #[.slice a n c, .slice b m d] w fun e w' => e = .returned (.bool (decide (xs = ys))) ∧ Below w.heap.size w w' := by
  have H1 := Lib.hid h1
  have H2 := Lib.hid h2
  have hnb := h1.2.1
  have L1 := Lib.hid h1.1
  have L2 := Lib.hid h2.1
  clear h1 h2
  go_enter Try.func11, Try.ntmps11
  by_cases hnm : n = m
  · subst hnm
    have e0 : ((n : Int) != (n : Int)) = false := by simp
    go_wp2
    go_loopw [5] (fun i wr => ∃ k : Nat, k ≤ n ∧ i = .int .i64 (k : Int) ∧ xs.take k = ys.take k ∧ Below w.heap.size w wr) (fun i _ => n - (intOf i).toNat)
    case atStart => exact ⟨0, by omega, rfl, by simp, Below.refl _ _⟩
    case round =>
      obtain ⟨k, hk, rfl, htk, hb⟩ := hrel
      have HTK := Lib.hid htk
      have HB := Lib.hid hb
      clear htk hb
      by_cases hlt : k < n
      · have k0 : (0 : Int) ≤ (k : Int) := by omega
        have k1 : (k : Int) < (n : Int) := by omega
        obtain ⟨b1, o1, y1, rfl, hl1, hy1, d1⟩ := (H1.out.below HB.out).int hlt
        obtain ⟨b2, o2, y2, rfl, hl2, hy2, d2⟩ := (H2.out.below HB.out).int hlt
        by_cases hyy : y1 = y2
        · subst hyy
          have e1 : (y1 != y1) = false := by simp
          have HN : Hid (xs.take (k + 1) = ys.take (k + 1)) := Lib.hid (by rw [List.take_add_one, List.take_add_one, hy1, hy2, HTK.out])
          clear hy1 hy2
          go_wp2
          go_region
          go_wp2
          go_roundw
          case rel => exact ⟨k + 1, by omega, by go_num, HN.out, HB.out.drew⟩
          case measure => simp [intOf]; omega
        · have e1 : (y1 != y2) = true := by rw [bne_iff_ne]; exact hyy
          have HN : Hid (decide (xs = ys) = false) := Lib.hid (decide_eq_false fun e => by
            subst e
            rw [hy1] at hy2
            exact hyy (Option.some.inj hy2))
          clear hy1 hy2 hyy
          go_wp2
          go_region
          go_wp2
          go_ret
          exact ⟨by rw [HN.out]; rfl, HB.out.drew⟩
      · have hkn : k = n := by omega
        subst hkn
        have HN : Hid (decide (xs = ys) = true) := Lib.hid (decide_eq_true (by
          have h9 := HTK.out
          rw [List.take_of_length_le (by rw [L1.out]; exact Nat.le_refl _), List.take_of_length_le (by rw [L2.out]; exact Nat.le_refl _)] at h9
          exact h9))
        go_wp2
        go_ret
        exact ⟨by rw [HN.out]; rfl, HB.out⟩
  · have e0 : ((n : Int) != (m : Int)) = true := by rw [bne_iff_ne]; omega
    have HN : Hid (decide (xs = ys) = false) := Lib.hid (decide_eq_false fun e => hnm (by rw [← L1.out, ← L2.out, e]))
    clear hnm
    go_wp2
    go_ret
    exact ⟨by rw [HN.out]; rfl, Below.refl _ _⟩
end Go.Proofs.Ytbefndibkpjgaaa
/- The layer's own knowledge: the chapter's examples. -/
namespace Go.Proofs.Ytbefndibkpjgaaa
open Go.RowKit
set_option linter.unusedVariables false
set_option linter.unusedSimpArgs false
attribute [local go_sem ↓] eqS_eq eqS_eq'

set_option maxRecDepth 100000 in
set_option maxHeartbeats 8000000 in
theorem knows9_any (w : World) : Calls Try.prog 8 #[] w fun e w' => e = .returned (.bool true) ∧ Below w.heap.size w w' := by
  go_enter Try.func8, Try.ntmps8
  go_wp2_with fail
  refine (kread w).mono ?_
  rintro e w1 ⟨A, c, rfl, hr1, hb1⟩
  have hrx : IsRx w1 A 6 (some kT) := ⟨hr1, k_chk⟩
  have HR1 := Lib.hid hrx
  have HB1 := Lib.hid hb1
  have HSH := Lib.hid (pshort_any w1 A 6 c (some kT) hrx (by omega))
  rw [show factO (some kT) = factT kT from rfl, k_sh] at HSH
  clear hrx hr1 hb1
  go_wp2_with fail
  refine HSH.out.mono ?_
  rintro e w2 ⟨rfl, hb2⟩
  have HR2 := Lib.hid (HR1.out.below hb2)
  have HB2 := Lib.hid (HB1.out.trans (hb2.mono HB1.out.size))
  have HLO := Lib.hid (plong_any w2 A 6 c (some kT) HR2.out (by omega))
  rw [show factO (some kT) = factT kT from rfl, k_lo] at HLO
  clear hb2
  go_wp2_with fail
  refine HLO.out.mono ?_
  rintro e w3 ⟨rfl, hb3⟩
  have HR3 := Lib.hid (HR2.out.below hb3)
  have HB3 := Lib.hid (HB2.out.trans (hb3.mono HB2.out.size))
  have HFI := Lib.hid (pfirst_any w3 A 6 c (some kT) HR3.out (by omega))
  rw [show factO (some kT) = factT kT from rfl, setV, k_first 0 (by omega), k_first 1 (by omega), k_first 2 (by omega), k_first 3 (by omega)] at HFI
  clear hb3
  go_wp2_with fail
  refine HFI.out.mono ?_
  rintro e w4 ⟨rfl, hb4⟩
  have HR4 := Lib.hid (HR3.out.below hb4)
  have HB4 := Lib.hid (HB3.out.trans (hb4.mono HB3.out.size))
  have HSPN := Lib.hid (bspan_any 97 99 w4)
  rw [setV] at HSPN
  clear hb4
  go_wp2_with fail
  refine HSPN.out.mono ?_
  rintro e w5 ⟨rfl, hb5⟩
  have HR5 := Lib.hid (HR4.out.below hb5)
  have HB5 := Lib.hid (HB4.out.trans (hb5.mono HB4.out.size))
  have hqe := fun w => run_eqS (wd (spanS 97 99 256) 0) (wd (spanS 97 99 256) 1) (wd (spanS 97 99 256) 2) (wd (spanS 97 99 256) 3) (wd (spanS 97 99 256) 0) (wd (spanS 97 99 256) 1) (wd (spanS 97 99 256) 2) (wd (spanS 97 99 256) 3) w
  simp only [beq_self_eq_true, Bool.and_self] at hqe
  generalize wd (spanS 97 99 256) 0 = q0 at hqe ⊢
  generalize wd (spanS 97 99 256) 1 = q1 at hqe ⊢
  generalize wd (spanS 97 99 256) 2 = q2 at hqe ⊢
  generalize wd (spanS 97 99 256) 3 = q3 at hqe ⊢
  have HEN := Lib.hid (ends9_any w5 A 6 c (some kT) kAbcc 0 HR5.out (by decide) (by omega))
  unfold kAbcc at HEN
  clear hb5
  go_wp2_with fail
  refine HEN.out.mono ?_
  rintro e w6 ⟨xs, hxs, A2, c2, rfl, ho6, hb6⟩
  have hx3 : xs = [3] := k_ends hxs
  subst hx3
  have HR6 := Lib.hid (HR5.out.below hb6)
  have HB6 := Lib.hid (HB5.out.trans (hb6.mono HB5.out.size))
  have hra : CRow intC 1 w6 A2 1 [3] := own_row (os := [3]) intC_len ho6
  obtain ⟨g, hg⟩ : ∃ g, w6.heap.size = g := ⟨_, rfl⟩
  have hba : Below w6.heap.size w6 (w6.alloc (.cells #[.int .i64 3] 3)) := (Below.refl _ _).alloc (Nat.le_refl _) _
  have hrb : CRow intC 1 (w6.alloc (.cells #[.int .i64 3] 3)) (some ⟨g, 0, none⟩) 1 [3] := by
    subst hg
    refine ⟨rfl, by decide, fun _ => ⟨_, 0, rfl, by simp, fun i o hi j v hv => ?_⟩⟩
    have h1 := flat_get intC_len [3] i o hi j v hv
    rw [World.cell?_alloc_new]
    simpa [intC] using h1
  have HSI := Lib.hid (samei_any _ A2 (some ⟨g, 0, none⟩) 1 1 c2 1 [3] [3] (hra.below hba) hrb)
  have HBA := Lib.hid hba
  have HR7 := Lib.hid (HR6.out.below hba)
  rw [show decide (([3] : List Int) = [3]) = true from rfl] at HSI
  clear hxs ho6 hb6 hra hrb hba
  go_wp2_with fail
  refine HSI.out.mono ?_
  rintro e w7 ⟨rfl, hb7⟩
  have HR8 := Lib.hid (HR7.out.below hb7)
  have HB7 : Hid (Below w.heap.size w w7) := Lib.hid (HB6.out.trans ((HBA.out.trans (hb7.mono HBA.out.size)).mono HB6.out.size))
  have HSA := Lib.hid (says9p_any w7 A 6 c (some kT) kC HR8.out (by decide) (by omega))
  unfold kC at HSA
  clear hb7
  go_wp2_with fail
  refine HSA.out.mono ?_
  rintro e w8 ⟨r, hr, rfl, hb8⟩
  obtain rfl : r = true := hr.2 k_says
  have HB8 := Lib.hid (HB7.out.trans (hb8.mono HB7.out.size))
  clear hr hb8
  go_wp2
  go_ret
  exact ⟨rfl, HB8.out⟩
end Go.Proofs.Ytbefndibkpjgaaa
/- A set that came in, opened. -/
namespace Go.Proofs.Ytbefndibkpjgaaa
open Go.RowKit Go.ChangeShapes Go.WideShapes Go.Deep

theorem cellsSet : Try.prog.cellsOf 33 = 4 := by kernel_rfl
theorem cellsU64 : Try.prog.cellsOf 31 = 1 := by kernel_rfl
theorem nat_of_wf {n : Int} (h : (Lit.int .u64 n).wf = true) : ∃ m : Nat, n = m ∧ m < 18446744073709551616 := by
  have := bounds_u64 h
  exact ⟨n.toNat, by omega, by omega⟩
set_option maxRecDepth 100000 in
theorem set_open {H : Type} {enc : TypeId × Value → H} {W : World} {fuel : Nat} {cs : List Value} {x : DataW H × List MemPlace}
    (h : DataW.trod enc Try.prog W 0 (fun _ => true) true fuel 33 cs = some x) : ∃ S : Nat → Bool, cs = [.int .u64 (wd S 0), .int .u64 (wd S 1), .int .u64 (wd S 2), .int .u64 (wd S 3)] := by
  obtain ⟨xs, m, rfl, rfl, hl, hx, hi⟩ := DataW.trod_array Try.underlying33 h
  rw [cellsSet] at hl
  rw [cellsU64] at hi
  match cs, hl with
  | [c0, c1, c2, c3], _ =>
    have g : ∀ i (h : i < 4), ∃ n : Int, [c0, c1, c2, c3][i]? = some (.int .u64 n) ∧ (Lit.int .u64 n).wf = true := by
      intro i h4
      have hh := hi i h4
      rw [List.getElem?_eq_getElem (show i < xs.length by omega)] at hh
      have hi4 : i = 0 ∨ i = 1 ∨ i = 2 ∨ i = 3 := by omega
      rcases hi4 with rfl | rfl | rfl | rfl
      all_goals
        obtain ⟨n, e, _, wn⟩ := DataW.trod_int Try.underlying31 hh
        simp at e
        exact ⟨n, by simp [e], wn⟩
    obtain ⟨n0, e0, w0⟩ := g 0 (by omega)
    obtain ⟨n1, e1, w1⟩ := g 1 (by omega)
    obtain ⟨n2, e2, w2⟩ := g 2 (by omega)
    obtain ⟨n3, e3, w3⟩ := g 3 (by omega)
    simp at e0 e1 e2 e3
    subst e0 e1 e2 e3
    obtain ⟨m0, rfl, l0⟩ := nat_of_wf w0
    obtain ⟨m1, rfl, l1⟩ := nat_of_wf w1
    obtain ⟨m2, rfl, l2⟩ := nat_of_wf w2
    obtain ⟨m3, rfl, l3⟩ := nat_of_wf w3
    refine ⟨ofWords fun i => if i = 0 then m0 else if i = 1 then m1 else if i = 2 then m2 else m3, ?_⟩
    rw [wd_ofWords _ 0 (by simpa using l0), wd_ofWords _ 1 (by simpa using l1), wd_ofWords _ 2 (by simpa using l2), wd_ofWords _ 3 (by simpa using l3)]
    rfl
theorem okWide_arr {P : Program} {w : World} {r : Reach} {base : Nat} {t : TypeId} {v : Value} {n : Nat} {e : TypeId} (ht : P.underlying t = some (.array n e)) (h : Value.okWide P w r base t v) : ∃ cs, v = .agg cs ∧ cs.size = P.cellsOf t := by
  unfold Value.okWide at h
  simp only [ht] at h
  obtain ⟨cs, rfl, h1, _⟩ := h
  exact ⟨cs, rfl, h1⟩
theorem set_open' {H : Type} {enc : TypeId × Value → H} {W : World} {fuel : Nat} {cs : Array Value} {x : DataW H × List MemPlace}
    (h : DataW.trod enc Try.prog W 0 (fun _ => true) true fuel 33 cs.toList = some x) : ∃ S : Nat → Bool, cs = #[.int .u64 (wd S 0), .int .u64 (wd S 1), .int .u64 (wd S 2), .int .u64 (wd S 3)] := by
  obtain ⟨S, hS⟩ := set_open h
  exact ⟨S, Array.toList_inj.1 hS⟩
end Go.Proofs.Ytbefndibkpjgaaa
/- Steps, and rows of steps, that came in, opened. -/
namespace Go.Proofs.Ytbefndibkpjgaaa
open Go.RowKit Go.ChangeShapes Go.WideShapes Go.Deep

theorem cells_kind : Try.prog.cellsOf 68 = 1 := by kernel_rfl
theorem cells_rx : Try.prog.cellsOf 78 = 5 := by kernel_rfl
theorem cells_row : Try.prog.cellsOf 22 = 1 := by kernel_rfl
section
variable {H : Type} {enc : TypeId × Value → H} {W : World} {fuel : Nat}
theorem rx_open {cs : List Value} {x : DataW H × List MemPlace} (h : DataW.trod enc Try.prog W 0 (fun _ => true) true fuel 78 cs = some x) (hl : cs.length = 5) : ∃ o : Rx, cs = rxC o := by
  match cs, hl with
  | [c0, c1, c2, c3, c4], _ =>
    obtain ⟨y0, y1, n, rfl, _, g0, g1⟩ := trod_struct2 Try.underlying78 h
    simp only [cells_kind, cellsSet, List.drop_zero, List.drop_succ_cons, List.take_succ_cons, List.take_zero] at g0 g1
    obtain ⟨k, e0, _, w0⟩ := DataW.trod_int Try.underlying68 g0
    obtain ⟨S, e1⟩ := set_open g1
    simp at e0 e1
    obtain ⟨rfl, rfl, rfl, rfl⟩ := e1
    subst e0
    exact ⟨⟨k, S⟩, rfl⟩
theorem rxs_open {a : Option Addr} {len cap : Nat} {x : DataW H × List MemPlace} (h : DataW.trod enc Try.prog W 0 (fun _ => true) true fuel 22 [.slice a len cap] = some x) : ∃ rs, CRow rxC 5 W a len rs := by
  obtain ⟨os, ho, _⟩ := crow_open (C := rxC) (G := fun _ => True) Try.underlying22 cells_rx (by decide) (fun n cs y hy hl => by
    obtain ⟨o, e⟩ := rx_open hy hl
    exact ⟨o, e, trivial⟩) h
  exact ⟨os, ho⟩
theorem rows_open {a : Option Addr} {len cap : Nat} {x : DataW H × List MemPlace} (h : DataW.trod enc Try.prog W 0 (fun _ => true) true fuel 69 [.slice a len cap] = some x) : ∃ os, RRow W a len os := by
  obtain ⟨os, ho, hg, _⟩ := crow_open (C := slC) (G := fun o => CRow rxC 5 W o.a o.l o.rs) Try.underlying69 cells_row (by decide) (fun n cs y hy hl => by
    match cs, hl with
    | [c0], _ =>
      obtain ⟨a, l, c, e0⟩ := Joins.slice_form Try.underlying22 hy
      simp at e0
      subst e0
      obtain ⟨rs, hrs⟩ := rxs_open hy
      exact ⟨⟨a, l, c, rs⟩, rfl, hrs⟩) h
  exact ⟨os, ho, hg⟩
end
end Go.Proofs.Ytbefndibkpjgaaa
