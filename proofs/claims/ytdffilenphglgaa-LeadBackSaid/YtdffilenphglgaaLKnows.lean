/- The chapter's example; and the law of words. -/
import Derived.Test.YtdffilenphglgaaWords
import Derived.Test.YtdffilenphglgaaNotes
import Derived.Test.YtdffilenphglgaaOpenLead
namespace Go.Proofs.Ytdffilenphglgaa
open Go.RowKit

theorem crow_new {α : Type} {C : α → List Value} {k : Nat} (hk : ∀ o, (C o).length = k) (w : World) (os : List α) (t : TypeId) (cs : Array Value) (hcs : cs = (os.flatMap C).toArray) (hl : os.length ≤ 9223372036854775807) (H : Nat) (hH : w.heap.size = H) :
    CRow C k (w.alloc (.cells cs t)) (some ⟨H, 0, none⟩) os.length os := by
  subst hcs hH
  refine ⟨rfl, hl, fun _ => ⟨_, 0, rfl, by simp, fun i o hi j v hj => ?_⟩⟩
  rw [Nat.zero_add, World.cell?_alloc_new]
  have := flat_get hk os i o hi j v hj
  simpa using this
def kTs : List Tk := [⟨.string ⟨#[120]⟩, .slice none 0 0, 0⟩, ⟨.string ⟨#[98]⟩, .slice none 0 0, 1⟩]
def kPs : List Pc := [⟨1, ⟨#[32]⟩⟩, ⟨0, ⟨#[121]⟩⟩, ⟨0, ⟨#[122]⟩⟩, ⟨1, ⟨#[32]⟩⟩]
theorem tkC_len (o : Tk) : (tkC o).length = 3 := rfl
theorem kWords : wordsF kTs kPs = [([⟨1, ⟨#[32]⟩⟩], 0, ⟨#[121]⟩), ([], 0, ⟨#[122]⟩), ([⟨1, ⟨#[32]⟩⟩], -2, ⟨#[]⟩)] := by
  simp [wordsF, stW, kTs, kPs, stp, trivB, cl, clc]
theorem three {α β : Type} {f : α → β} {l : List α} {a b c : β} (h : l.map f = [a, b, c]) : ∃ x y z, l = [x, y, z] ∧ f x = a ∧ f y = b ∧ f z = c := by
  match l, h with
  | [x, y, z], h => simp at h; exact ⟨x, y, z, rfl, h.1, h.2.1, h.2.2⟩
set_option maxHeartbeats 1000000 in
theorem knows_any (w : World) : Calls Try.prog 6 #[] w fun e w' => e = .returned (.bool true) ∧ Below w.heap.size w w' := by
  have hb0 : Below w.heap.size w ((w.alloc (.cells (kTs.flatMap tkC).toArray 43)).alloc (.cells (kPs.flatMap pcC).toArray 36)) := ((Below.refl _ _).alloc (Nat.le_refl _) _).alloc (by simp) _
  have hA := (crow_new tkC_len w kTs 43 _ rfl (by decide) w.heap.size rfl).below ((Below.refl _ _).alloc (Nat.le_refl _) (.cells (kPs.flatMap pcC).toArray 36))
  have hB := crow_new pcC_len (w.alloc (.cells (kTs.flatMap tkC).toArray 43)) kPs 36 _ rfl (by decide) (w.heap.size + 1) (by simp)
  have HW := Lib.hid (words_any _ _ _ kTs.length kTs.length kPs.length kPs.length kTs kPs hA hB (by decide))
  have HB := Lib.hid hb0
  clear hb0 hA hB
  go_enter Try.func6, Try.ntmps6
  go_wp2_with fail
  refine HW.out.mono ?_
  rintro e w1 ⟨V, m, c, ws, rfl, hrow, _, habs, _, hb⟩
  rw [kWords] at habs
  obtain ⟨x, y, z, rfl, hx, hy, hz⟩ := three habs
  obtain ⟨a0, l0, c0, p0, t0, s0⟩ := x
  obtain ⟨a1, l1, c1, p1, t1, s1⟩ := y
  obtain ⟨a2, l2, c2, p2, t2, s2⟩ := z
  simp only [wabs, Prod.mk.injEq] at hx hy hz
  obtain ⟨rfl, rfl, rfl⟩ := hx
  obtain ⟨rfl, rfl, rfl⟩ := hy
  obtain ⟨rfl, rfl, rfl⟩ := hz
  have k0 := (hrow.2 _ (by simp : (⟨a0, l0, c0, [⟨1, ⟨#[32]⟩⟩], 0, ⟨#[121]⟩⟩ : Wd) ∈ _)).1
  have k1 := (hrow.2 _ (by simp : (⟨a1, l1, c1, [], 0, ⟨#[122]⟩⟩ : Wd) ∈ _)).1
  have k2 := (hrow.2 _ (by simp : (⟨a2, l2, c2, [⟨1, ⟨#[32]⟩⟩], -2, ⟨#[]⟩⟩ : Wd) ∈ _)).1
  simp at k0 k1 k2
  subst k0 k1 k2
  have hm := hrow.1.1
  simp at hm
  subst hm
  obtain ⟨b, off, rfl, hlt, hc⟩ := hrow.1.2.2 (by decide)
  have r0 := hc 0 _ rfl 0 _ rfl
  have r1 := hc 1 _ rfl 0 _ rfl
  have r2 := hc 2 _ rfl 0 _ rfl
  have r3 := hc 2 _ rfl 1 _ rfl
  simp only [Nat.zero_mul, Nat.one_mul, Nat.add_zero, Nat.reduceMul] at r0 r1 r2 r3
  have HB1 := Lib.hid (HB.out.trans (hb.mono HB.out.size))
  clear hb hc hrow habs HB
  go_wp2
  go_ret
  exact ⟨rfl, HB1.out⟩

set_option maxHeartbeats 1000000 in
theorem leadWords_any (w : World) (A B : Option Addr) (len cap n d : Nat) (ts : List Tk) (ps : List Pc) (t : Int) (hA : CRow tkC 3 w A len ts) (hB : CRow pcC 2 w B n ps) (hd : n ≤ d) (hd2 : d ≤ 9223372036854775807) :
    Calls Try.prog 3 #[.slice A len cap, .slice B n d, .int .i64 t] w fun e w' => e = .returned (.bool true) ∧ Below w.heap.size w w' := by
  have HK := Lib.hid fun w' => knows_any w'
  by_cases hbig : 100 < len ∨ 200 < n
  · have hl := hA.2.1
    have hl2 := hB.2.1
    clear hA hB
    by_cases h1 : (100 : Int) < (len : Int)
    · have j1 : decide ((100 : Int) < (len : Int)) = true := decide_eq_true h1
      go_enter Try.func3, Try.ntmps3
      go_wp2_with (go_at_call 6; (with_reducible refine (HK.out _).mono ?_); rintro e w1 ⟨rfl, hb⟩)
      go_ret
      exact ⟨rfl, hb⟩
    · have j1 : decide ((100 : Int) < (len : Int)) = false := decide_eq_false h1
      have j2 : decide ((200 : Int) < (n : Int)) = true := decide_eq_true (by omega)
      go_enter Try.func3, Try.ntmps3
      go_wp2_with (go_at_call 6; (with_reducible refine (HK.out _).mono ?_); rintro e w1 ⟨rfl, hb⟩)
      go_ret
      exact ⟨rfl, hb⟩
  · have j1 : decide ((100 : Int) < (len : Int)) = false := decide_eq_false (by omega)
    have j2 : decide ((200 : Int) < (n : Int)) = false := decide_eq_false (by omega)
    have hn : n ≤ 1000 := by omega
    have HA := Lib.hid hA
    have HB := Lib.hid hB
    have HT1 := Lib.hid (trivia_any w A len cap ts t hA)
    have HT2 := Lib.hid (reftriv_any w A len cap ts t hA)
    have HW1 := Lib.hid (words_any w A B len cap n d ts ps hA hB hn)
    clear hA hB hbig
    obtain ⟨tv, htv⟩ : ∃ tv, trivB ts t = tv := ⟨_, rfl⟩
    rw [htv] at HT1 HT2
    clear htv
    go_enter Try.func3, Try.ntmps3
    go_wp2_with fail
    refine HT1.out.mono ?_
    rintro e w1 ⟨rfl, hw1⟩
    obtain rfl := hw1.symm
    go_wp2_with fail
    refine HT2.out.mono ?_
    rintro e w1 ⟨rfl, hw1⟩
    obtain rfl := hw1.symm
    go_wp2_with fail
    refine HW1.out.mono ?_
    rintro e w2 ⟨V, m, c, ws, rfl, hrow, _, habs, hm, hb2⟩
    have HW2 := Lib.hid (refwords_any w2 A B len cap n d ts ps (HA.out.below hb2) (HB.out.below hb2) hn hd hd2)
    have HB2 := Lib.hid hb2
    have HR1 := Lib.hid hrow
    have HE1 := Lib.hid habs
    clear hb2 hrow habs
    go_wp2_with fail
    refine HW2.out.mono ?_
    rintro e w3 ⟨V', m', c', ws', rfl, hrow', habs', hm', hb3⟩
    have he : ws.map wabs = ws'.map wabs := by rw [HE1.out, habs']
    have hmm : m' = m := by
      have h1 := HR1.out.1.1
      have h2 := hrow'.1.1
      have := congrArg List.length he
      simp at this; omega
    subst hmm
    have HS := Lib.hid (samewords_yes w3 V V' m' c c' ws ws' (HR1.out.below hb3) hrow' he)
    have HB3 := Lib.hid (HB2.out.trans (hb3.mono HB2.out.size))
    clear hb3 hrow' habs' he
    go_wp2_with fail
    refine HS.out.mono ?_
    rintro e w4 ⟨rfl, q, hw4⟩
    have HB4 : Hid (Below w.heap.size w w4) := Lib.hid (by rw [hw4]; exact HB3.out.trans ((below_drewN w3 q).mono HB3.out.size))
    clear hw4
    have HN1 := Lib.hid (notes_any w4 A B len cap n d ts ps (HA.out.below HB4.out) (HB.out.below HB4.out) hn)
    go_wp2_with fail
    refine HN1.out.mono ?_
    rintro e w5 ⟨V5, m5, c5, rfl, hr5, hb5⟩
    have HB5 := Lib.hid (HB4.out.trans (hb5.mono HB4.out.size))
    have HR5 := Lib.hid hr5
    clear hb5 hr5
    have HN2 := Lib.hid (refnotes_any w5 A B len cap n d ts ps (HA.out.below HB5.out) (HB.out.below HB5.out) hn)
    go_wp2_with fail
    refine HN2.out.mono ?_
    rintro e w6 ⟨V6, m6, c6, rfl, hr6, hb6⟩
    have hmm : m6 = m5 := by rw [← hr6.1, HR5.out.1]
    subst hmm
    have HB6 := Lib.hid (HB5.out.trans (hb6.mono HB5.out.size))
    have HSA := Lib.hid (same_yes w6 V5 V6 m6 c5 c6 (notesF ts ps) (HR5.out.below hb6) hr6)
    clear hb6 hr6
    go_wp2_with fail
    refine HSA.out.mono ?_
    rintro e w7 ⟨rfl, q7, hw7⟩
    have HB7 : Hid (Below w.heap.size w w7) := Lib.hid (by rw [hw7]; exact HB6.out.trans ((below_drewN w6 q7).mono HB6.out.size))
    clear hw7
    go_wp2_with fail
    refine (HK.out _).mono ?_
    rintro e w8 ⟨rfl, hb8⟩
    go_wp2
    go_ret
    exact ⟨rfl, HB7.out.trans (hb8.mono HB7.out.size)⟩
theorem leadWords_walk (A : Option Addr) (len cap : Nat) (ts : List Tk) (B : Option Addr) (n d : Nat) (ps : List Pc) (t : Int) (w : World) (hA : CRow tkC 3 w A len ts) (hB : CRow pcC 2 w B n ps) (_ : ∀ p ∈ ps, PcOk p) (hd : n ≤ d) (hd2 : d ≤ 9223372036854775807) (_ : (Lit.int .i64 t).wf = true) :
    Calls Try.prog 3 #[.slice A len cap, .slice B n d, .int .i64 t] w fun e w' => e = .returned (.bool true) ∧ Below w.heap.size w w' := leadWords_any w A B len cap n d ts ps t hA hB hd hd2
end Go.Proofs.Ytdffilenphglgaa
