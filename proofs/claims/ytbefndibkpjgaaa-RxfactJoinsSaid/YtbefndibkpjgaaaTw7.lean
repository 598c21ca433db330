/- Several texts in one: StackP, SpreadP, Step, FamS. -/
import Derived.Test.YtbefndibkpjgaaaTw6
import Derived.Test.YtbefndibkpjgaaaTw2
import Derived.StillTailTactics
/- The machine, plain: what a step makes of the parts that lie on the stack. -/
namespace Go.Proofs.Ytbefndibkpjgaaa
set_option linter.unusedVariables false

def ptT (T : RxT) (b : Nat) : Pt := ⟨inS T b, outS T b⟩
def ptsL : List RxT → Nat → List Pt
  | [], _ => []
  | T :: es, b => ptT T b :: ptsL es (b + szT T)
def szL : List RxT → Nat
  | [] => 0
  | T :: es => szT T + szL es
def fEL : List RxT → Nat → Nat → Nat → Prop
  | [], _, _, _ => False
  | T :: es, b, x, y => fE T b x y ∨ fEL es (b + szT T) x y
def bEL : List RxT → Nat → Nat → UInt8 → Prop
  | [], _, _, _ => False
  | T :: es, b, x, c => bE T b x c ∨ bEL es (b + szT T) x c
theorem szL_app : ∀ (es fs : List RxT), szL (es ++ fs) = szL es + szL fs
  | [], fs => by simp [szL]
  | T :: es, fs => by simp only [List.cons_append, szL, szL_app es fs]; omega
theorem ptsL_app : ∀ (es fs : List RxT) (b : Nat), ptsL (es ++ fs) b = ptsL es b ++ ptsL fs (b + szL es)
  | [], fs, b => by simp [ptsL, szL]
  | T :: es, fs, b => by simp only [List.cons_append, ptsL, szL, ptsL_app es fs]; rw [Nat.add_assoc]
theorem ptsL_len : ∀ (es : List RxT) (b : Nat), (ptsL es b).length = es.length
  | [], b => rfl
  | T :: es, b => by simp [ptsL, ptsL_len es]
theorem fEL_app : ∀ (es fs : List RxT) (b x y : Nat), fEL (es ++ fs) b x y ↔ fEL es b x y ∨ fEL fs (b + szL es) x y
  | [], fs, b, x, y => by simp [fEL, szL]
  | T :: es, fs, b, x, y => by simp only [List.cons_append, fEL, szL, fEL_app es fs, or_assoc]; rw [Nat.add_assoc]
theorem bEL_app : ∀ (es fs : List RxT) (b x : Nat) (c : UInt8), bEL (es ++ fs) b x c ↔ bEL es b x c ∨ bEL fs (b + szL es) x c
  | [], fs, b, x, c => by simp [bEL, szL]
  | T :: es, fs, b, x, c => by simp only [List.cons_append, bEL, szL, bEL_app es fs, or_assoc]; rw [Nat.add_assoc]
theorem bEL_lt : ∀ (es : List RxT) (b x : Nat) (c : UInt8), bEL es b x c → x < b + szL es
  | [], b, x, c, h => h.elim
  | T :: es, b, x, c, h => by
    simp only [szL]
    rcases h with h | h
    · have := (bE_range T b x c h).1.2; omega
    · have := bEL_lt es _ x c h; omega
theorem ptsL_lt : ∀ (es : List RxT) (b : Nat), ∀ p ∈ ptsL es b, p.i < b + szL es ∧ p.o < b + szL es
  | [], b, p, h => by cases h
  | T :: es, b, p, h => by
    have hs := szT_pos T
    simp only [ptsL, List.mem_cons] at h
    simp only [szL]
    rcases h with rfl | h
    · simp only [ptT, inS, outS]; omega
    · have := ptsL_lt es _ p h; omega
/-- A machine's ways. -/
def FE (M : Mc) (x y : Nat) : Prop := ∃ l, M.fr[x]? = some l ∧ (y : Int) ∈ l
def BE (M : Mc) (x : Nat) (c : UInt8) : Prop := M.by_[x]? = some true ∧ ∃ S, M.se[x]? = some S ∧ S c.toNat = true
def NatM (M : Mc) : Prop := ∀ l ∈ M.fr, ∀ z ∈ l, ∃ y : Nat, z = (y : Int) ∧ y < M.fr.length
structure MOK (M : Mc) (es : List RxT) : Prop where
  len : M.fr.length = szL es
  ls : M.se.length = M.fr.length
  lb : M.by_.length = M.fr.length
  fr : ∀ x y, FE M x y ↔ fEL es 0 x y
  nat : NatM M
  by_ : ∀ x c, BE M x c ↔ bEL es 0 x c
theorem MOK.zero : MOK mc0 [] := ⟨rfl, rfl, rfl, fun x y => ⟨fun ⟨l, h, _⟩ => by simp [mc0] at h, fun h => h.elim⟩, fun l hl => by simp [mc0] at hl, fun x c => ⟨fun ⟨h, _⟩ => by simp [mc0] at h, fun h => h.elim⟩⟩
theorem get_snoc {α : Type} (l : List α) (a : α) (i : Nat) (v : α) : (l ++ [a])[i]? = some v ↔ l[i]? = some v ∨ (i = l.length ∧ a = v) := by
  rcases Nat.lt_trichotomy i l.length with h | h | h
  · rw [List.getElem?_append_left h]; constructor
    · exact .inl
    · rintro (h' | ⟨h', _⟩)
      · exact h'
      · omega
  · subst h; simp
  · rw [List.getElem?_eq_none (by simp; omega), List.getElem?_eq_none (by omega)]; simp; omega
theorem FE_more (M : Mc) (x y : Nat) : FE M.more x y ↔ FE M x y := by
  simp only [FE, Mc.more, get_snoc]
  constructor
  · rintro ⟨l, h | ⟨_, rfl⟩, hy⟩
    · exact ⟨l, h, hy⟩
    · cases hy
  · rintro ⟨l, h, hy⟩; exact ⟨l, .inl h, hy⟩
theorem FE_link (M : Mc) {i : Nat} (hi : i < M.fr.length) (z : Nat) (x y : Nat) : FE (M.link i (z : Int)) x y ↔ FE M x y ∨ (x = i ∧ y = z) := by
  obtain ⟨l0, hl0⟩ : ∃ l, M.fr[i]? = some l := ⟨_, List.getElem?_eq_getElem hi⟩
  simp only [FE, Mc.link, hl0, Option.getD_some, List.getElem?_set]
  by_cases h : i = x
  · subst h
    simp only [if_true, hi]
    constructor
    · rintro ⟨l, hl, hy⟩
      simp only [Option.some.injEq] at hl
      subst hl
      rcases List.mem_append.1 hy with hy | hy
      · exact .inl ⟨l0, hl0, hy⟩
      · rw [List.mem_singleton] at hy
        exact .inr ⟨trivial, by omega⟩
    · rintro (⟨l, hl, hy⟩ | ⟨_, rfl⟩)
      · rw [hl0] at hl
        obtain rfl := Option.some.inj hl
        exact ⟨_, rfl, List.mem_append_left _ hy⟩
      · exact ⟨_, rfl, List.mem_append_right _ (by simp)⟩
  · simp only [h, if_false]
    constructor
    · exact .inl
    · rintro (h' | ⟨rfl, _⟩)
      · exact h'
      · exact absurd rfl h
theorem BE_more (M : Mc) (hl : M.se.length = M.by_.length) (x : Nat) (c : UInt8) : BE M.more x c ↔ BE M x c := by
  simp only [BE, Mc.more, get_snoc]
  constructor
  · rintro ⟨h | ⟨_, h⟩, S, h2 | ⟨rfl, rfl⟩, hS⟩
    · exact ⟨h, S, h2, hS⟩
    · have := (List.getElem?_eq_some_iff.1 h).1; omega
    · cases h
    · cases h
  · rintro ⟨h, S, h2, hS⟩; exact ⟨.inl h, S, .inl h2, hS⟩
theorem BE_link (M : Mc) (i : Nat) (z : Int) (x : Nat) (c : UInt8) : BE (M.link i z) x c ↔ BE M x c := Iff.rfl
theorem FE_setAt (M : Mc) (i : Nat) (S : Nat → Bool) (x y : Nat) : FE (M.setAt i S) x y ↔ FE M x y := Iff.rfl
theorem BE_setAt (M : Mc) {i : Nat} (hi : i < M.se.length) (hb : M.by_.length = M.se.length) (S : Nat → Bool) (hn : ∀ c, ¬ BE M i c) (x : Nat) (c : UInt8) : BE (M.setAt i S) x c ↔ BE M x c ∨ (x = i ∧ S c.toNat = true) := by
  by_cases h : i = x
  · subst h
    have hi2 : i < M.by_.length := by omega
    have h1 : (M.setAt i S).by_[i]? = some true := by simp [Mc.setAt, hi2]
    have h2 : (M.setAt i S).se[i]? = some S := by simp [Mc.setAt, hi]
    constructor
    · rintro ⟨_, S', h3, h4⟩
      rw [h2] at h3
      obtain rfl := Option.some.inj h3
      exact .inr ⟨rfl, h4⟩
    · rintro (h3 | ⟨_, h3⟩)
      · exact absurd h3 (hn c)
      · exact ⟨h1, S, h2, h3⟩
  · have h1 : (M.setAt i S).by_[x]? = M.by_[x]? := by simp [Mc.setAt, h]
    have h2 : (M.setAt i S).se[x]? = M.se[x]? := by simp [Mc.setAt, h]
    unfold BE
    rw [h1, h2]
    constructor
    · exact .inl
    · rintro (h3 | ⟨rfl, _⟩)
      · exact h3
      · exact absurd rfl h
theorem len_more (M : Mc) : M.more.fr.length = M.fr.length + 1 := by simp [Mc.more]
theorem len_link (M : Mc) (i : Nat) (z : Int) : (M.link i z).fr.length = M.fr.length := by simp [Mc.link]
theorem NatM.more {M : Mc} (h : NatM M) : NatM M.more := fun l hl z hz => by
  rw [len_more]
  rcases List.mem_append.1 hl with hl | hl
  · obtain ⟨y, e, hy⟩ := h l hl z hz; exact ⟨y, e, by omega⟩
  · rw [List.mem_singleton] at hl; subst hl; cases hz
theorem NatM.link {M : Mc} (h : NatM M) (i : Nat) {z : Nat} (hz : z < M.fr.length) : NatM (M.link i (z : Int)) := fun l hl y hy => by
  rw [len_link]
  rcases List.mem_or_eq_of_mem_set hl with hl | rfl
  · exact h l hl y hy
  · rcases List.mem_append.1 hy with hy | hy
    · cases he : M.fr[i]? with
      | none => rw [he] at hy; cases hy
      | some x => rw [he] at hy; exact h x (List.mem_of_getElem? he) y hy
    · rw [List.mem_singleton] at hy; exact ⟨z, hy, hz⟩
/-- A machine that is another one with ways more. -/
structure Ext (M M' : Mc) (n : Nat) (L : Nat → Nat → Prop) : Prop where
  len : M'.fr.length = M.fr.length + n
  ls : M'.se.length = M.se.length + n
  lb : M'.by_.length = M.by_.length + n
  fr : ∀ x y, FE M' x y ↔ FE M x y ∨ L x y
  by_ : ∀ x c, BE M' x c ↔ BE M x c
  nat : NatM M → NatM M'
theorem Ext.more2 (M : Mc) (hl : M.se.length = M.by_.length) : Ext M M.more.more 2 (fun _ _ => False) :=
  ⟨by simp [Mc.more], by simp [Mc.more], by simp [Mc.more], fun x y => by rw [FE_more, FE_more]; simp, fun x c => by rw [BE_more _ (by simp [Mc.more, hl]), BE_more _ hl], fun h => h.more.more⟩
theorem Ext.link {M M' : Mc} {n : Nat} {L : Nat → Nat → Prop} (h : Ext M M' n L) {i z : Nat} (hi : i < M.fr.length + n) (hz : z < M.fr.length + n) : Ext M (M'.link i (z : Int)) n (fun x y => L x y ∨ (x = i ∧ y = z)) :=
  ⟨by rw [len_link]; exact h.len, h.ls, h.lb, fun x y => by rw [FE_link _ (by rw [h.len]; exact hi), h.fr, or_assoc], h.by_, fun hn => (h.nat hn).link i (by rw [h.len]; exact hz)⟩
theorem Ext.wrap {M M' : Mc} {n : Nat} {L : Nat → Nat → Prop} (h : Ext M M' n L) {q p : Pt} (h1 : q.i < M.fr.length + n) (h2 : q.o < M.fr.length + n) (h3 : p.i < M.fr.length + n) (h4 : p.o < M.fr.length + n) :
    Ext M (M'.wrap q p) n (fun x y => (L x y ∨ (x = q.i ∧ y = p.i)) ∨ (x = p.o ∧ y = q.o)) := (h.link h1 h3).link h4 h2
theorem MOK.ext {M M' : Mc} {es es' : List RxT} {L : Nat → Nat → Prop} (h : MOK M es) (he : Ext M M' 2 L) (hs : szL es' = szL es + 2) (hf : ∀ x y, fEL es' 0 x y ↔ fEL es 0 x y ∨ L x y) (hb : ∀ x c, bEL es' 0 x c ↔ bEL es 0 x c) : MOK M' es' :=
  ⟨by rw [he.len, h.len, hs], by rw [he.ls, he.len, h.ls], by rw [he.lb, he.len, h.lb], fun x y => by rw [he.fr, h.fr, hf], he.nat h.nat, fun x c => by rw [he.by_, h.by_, hb]⟩
section
variable {M : Mc} {es : List RxT} {p q : RxT}
theorem szL_one (T : RxT) : szL [T] = szT T := by simp [szL]
theorem szL_two (p q : RxT) : szL [p, q] = szT p + szT q := by simp [szL]
theorem ptsL_one (T : RxT) (b : Nat) : ptsL [T] b = [ptT T b] := rfl
theorem ptsL_two (p q : RxT) (b : Nat) : ptsL [p, q] b = [ptT p b, ptT q (b + szT p)] := rfl
theorem fEL_one (T : RxT) (b x y : Nat) : fEL [T] b x y ↔ fE T b x y := by simp [fEL]
theorem fEL_two (b x y : Nat) : fEL [p, q] b x y ↔ fE p b x y ∨ fE q (b + szT p) x y := by simp [fEL]
theorem bEL_one (T : RxT) (b x : Nat) (c : UInt8) : bEL [T] b x c ↔ bE T b x c := by simp [bEL]
theorem bEL_two (b x : Nat) (c : UInt8) : bEL [p, q] b x c ↔ bE p b x c ∨ bE q (b + szT p) x c := by simp [bEL]
theorem MOK.set (h : MOK M (es ++ [])) (S : Nat → Bool) : MOK (stepM M 1 S []) (es ++ [.set S]) := by
  rw [List.append_nil] at h
  have e : stepM M 1 S [] = M.more.more.setAt M.fr.length S := by simp [stepM]
  have he := Ext.more2 M (by rw [h.ls, h.lb])
  rw [e]
  have hN := h.len
  refine ⟨?_, ?_, ?_, fun x y => ?_, he.nat h.nat, fun x c => ?_⟩
  · rw [szL_app, szL_one, sz_set, ← hN]; simp [Mc.setAt, Mc.more]
  · have := h.ls; simp [Mc.setAt, Mc.more]; omega
  · have := h.lb; simp [Mc.setAt, Mc.more]; omega
  · rw [FE_setAt, he.fr, h.fr, fEL_app, fEL_one]; simp [fE]
  · have hn : ∀ x c, BE M.more.more x c ↔ bEL es 0 x c := fun x c => by rw [he.by_, h.by_]
    have h1 := h.ls
    have h2 := h.lb
    rw [BE_setAt _ (by rw [he.ls]; omega) (by rw [he.ls, he.lb]; omega) S (fun c hc => by have := bEL_lt _ _ _ _ ((hn _ _).1 hc); omega), hn, bEL_app, bEL_one]
    simp only [bE, Nat.zero_add, hN]
theorem MOK.empty (h : MOK M (es ++ [])) (S : Nat → Bool) : MOK (stepM M 2 S []) (es ++ [.empty]) := by
  rw [List.append_nil] at h
  have e : stepM M 2 S [] = M.more.more.link M.fr.length ((M.fr.length + 1 : Nat) : Int) := by simp [stepM]
  have hN := h.len
  rw [e]
  refine h.ext ((Ext.more2 M (by rw [h.ls, h.lb])).link (by omega) (by omega)) (by rw [szL_app, szL_one, sz_empty]) (fun x y => ?_) (fun x c => ?_)
  · rw [fEL_app, fEL_one]; simp only [fE, Nat.zero_add, false_or, hN]
  · rw [bEL_app, bEL_one]; simp [bE]
theorem MOK.cat (h : MOK M (es ++ [p, q])) (S : Nat → Bool) : MOK (stepM M 3 S (ptsL [p, q] (szL es))) (es ++ [.cat p q]) := by
  have hN := h.len
  rw [szL_app, szL_two] at hN
  have hp := szT_pos p
  have hq := szT_pos q
  have e : stepM M 3 S (ptsL [p, q] (szL es)) = (((M.more.more.link M.fr.length ((inS p (szL es) : Nat) : Int)).link (outS p (szL es)) ((inS q (szL es + szT p) : Nat) : Int)).link (outS q (szL es + szT p)) ((M.fr.length + 1 : Nat) : Int)) := by simp [stepM, ptsL_two, ptT]
  rw [e]
  refine h.ext ((((Ext.more2 M (by rw [h.ls, h.lb])).link (by omega) (by simp only [inS]; omega)).link (by simp only [outS]; omega) (by simp only [inS]; omega)).link (by simp only [outS]; omega) (by omega)) (by rw [szL_app, szL_one, sz_cat, szL_app, szL_two]; omega) (fun x y => ?_) (fun x c => ?_)
  · rw [fEL_app, fEL_one, fEL_app, fEL_two]
    simp only [fE, Nat.zero_add, false_or, hN]
    have e1 : inS (.cat p q) (szL es) = szL es + (szT p + szT q) := by simp only [inS, sz_cat]; omega
    have e2 : outS (.cat p q) (szL es) = szL es + (szT p + szT q) + 1 := by simp only [outS, sz_cat]; omega
    rw [e1, e2]
    constructor
    · rintro (h | h | h | h | h | h) <;> simp [h]
    · rintro ((h | h | h) | (h | h) | h) <;> simp [h]
  · rw [bEL_app, bEL_one, bEL_app, bEL_two]; rfl
theorem MOK.alt (h : MOK M (es ++ [p, q])) (S : Nat → Bool) : MOK (stepM M 4 S (ptsL [p, q] (szL es))) (es ++ [.alt p q]) := by
  have hN := h.len
  rw [szL_app, szL_two] at hN
  have hp := szT_pos p
  have hq := szT_pos q
  have e : stepM M 4 S (ptsL [p, q] (szL es)) = (M.more.more.wrap ⟨M.fr.length, M.fr.length + 1⟩ (ptT p (szL es))).wrap ⟨M.fr.length, M.fr.length + 1⟩ (ptT q (szL es + szT p)) := by simp [stepM, ptsL_two]
  rw [e]
  refine h.ext (((Ext.more2 M (by rw [h.ls, h.lb])).wrap (by show M.fr.length < _; omega) (by show M.fr.length + 1 < _; omega) (by simp only [ptT, inS]; omega) (by simp only [ptT, outS]; omega)).wrap (by show M.fr.length < _; omega) (by show M.fr.length + 1 < _; omega) (by simp only [ptT, inS]; omega) (by simp only [ptT, outS]; omega)) (by rw [szL_app, szL_one, sz_alt, szL_app, szL_two]; omega) (fun x y => ?_) (fun x c => ?_)
  · rw [fEL_app, fEL_one, fEL_app, fEL_two]
    simp only [fE, Nat.zero_add, false_or, hN, ptT]
    have e1 : inS (.alt p q) (szL es) = szL es + (szT p + szT q) := by simp only [inS, sz_alt]; omega
    have e2 : outS (.alt p q) (szL es) = szL es + (szT p + szT q) + 1 := by simp only [outS, sz_alt]; omega
    rw [e1, e2]
    constructor
    · rintro (h | h | h | h | h | h | h) <;> simp [h]
    · rintro ((h | h | h) | ((h | h) | h) | h) <;> simp [h]
  · rw [bEL_app, bEL_one, bEL_app, bEL_two]; rfl
theorem MOK.star (h : MOK M (es ++ [p])) (S : Nat → Bool) : MOK (stepM M 5 S (ptsL [p] (szL es))) (es ++ [.star p]) := by
  have hN := h.len
  rw [szL_app, szL_one] at hN
  have hp := szT_pos p
  have e : stepM M 5 S (ptsL [p] (szL es)) = ((M.more.more.wrap ⟨M.fr.length, M.fr.length + 1⟩ (ptT p (szL es))).link (outS p (szL es)) ((inS p (szL es) : Nat) : Int)).link M.fr.length ((M.fr.length + 1 : Nat) : Int) := by simp [stepM, ptsL_one, ptT]
  rw [e]
  refine h.ext ((((Ext.more2 M (by rw [h.ls, h.lb])).wrap (by show M.fr.length < _; omega) (by show M.fr.length + 1 < _; omega) (by simp only [ptT, inS]; omega) (by simp only [ptT, outS]; omega)).link (by simp only [outS]; omega) (by simp only [inS]; omega)).link (by omega) (by omega)) (by rw [szL_app, szL_one, sz_star, szL_app, szL_one]; omega) (fun x y => ?_) (fun x c => ?_)
  · rw [fEL_app, fEL_one, fEL_app, fEL_one]
    simp only [fE, Nat.zero_add, false_or, hN, ptT]
    have e1 : inS (.star p) (szL es) = szL es + szT p := by simp only [inS, sz_star]; omega
    have e2 : outS (.star p) (szL es) = szL es + szT p + 1 := by simp only [outS, sz_star]; omega
    rw [e1, e2]
    constructor
    · rintro (h | h | h | h | h | h) <;> simp [h]
    · rintro ((h | h) | ((h | h) | h) | h) <;> simp [h]
  · rw [bEL_app, bEL_one, bEL_app, bEL_one]; rfl
theorem MOK.plus (h : MOK M (es ++ [p])) (S : Nat → Bool) : MOK (stepM M 6 S (ptsL [p] (szL es))) (es ++ [.plus p]) := by
  have hN := h.len
  rw [szL_app, szL_one] at hN
  have hp := szT_pos p
  have e : stepM M 6 S (ptsL [p] (szL es)) = (M.more.more.wrap ⟨M.fr.length, M.fr.length + 1⟩ (ptT p (szL es))).link (outS p (szL es)) ((inS p (szL es) : Nat) : Int) := by simp [stepM, ptsL_one, ptT]
  rw [e]
  refine h.ext (((Ext.more2 M (by rw [h.ls, h.lb])).wrap (by show M.fr.length < _; omega) (by show M.fr.length + 1 < _; omega) (by simp only [ptT, inS]; omega) (by simp only [ptT, outS]; omega)).link (by simp only [outS]; omega) (by simp only [inS]; omega)) (by rw [szL_app, szL_one, sz_plus, szL_app, szL_one]; omega) (fun x y => ?_) (fun x c => ?_)
  · rw [fEL_app, fEL_one, fEL_app, fEL_one]
    simp only [fE, Nat.zero_add, false_or, hN, ptT]
    have e1 : inS (.plus p) (szL es) = szL es + szT p := by simp only [inS, sz_plus]; omega
    have e2 : outS (.plus p) (szL es) = szL es + szT p + 1 := by simp only [outS, sz_plus]; omega
    rw [e1, e2]
    constructor
    · rintro (h | h | h | h | h) <;> simp [h]
    · rintro ((h | h) | (h | h) | h) <;> simp [h]
  · rw [bEL_app, bEL_one, bEL_app, bEL_one]; rfl
theorem MOK.opt (h : MOK M (es ++ [p])) (S : Nat → Bool) : MOK (stepM M 7 S (ptsL [p] (szL es))) (es ++ [.opt p]) := by
  have hN := h.len
  rw [szL_app, szL_one] at hN
  have hp := szT_pos p
  have e : stepM M 7 S (ptsL [p] (szL es)) = (M.more.more.wrap ⟨M.fr.length, M.fr.length + 1⟩ (ptT p (szL es))).link M.fr.length ((M.fr.length + 1 : Nat) : Int) := by simp [stepM, ptsL_one]
  rw [e]
  refine h.ext (((Ext.more2 M (by rw [h.ls, h.lb])).wrap (by show M.fr.length < _; omega) (by show M.fr.length + 1 < _; omega) (by simp only [ptT, inS]; omega) (by simp only [ptT, outS]; omega)).link (by omega) (by omega)) (by rw [szL_app, szL_one, sz_opt, szL_app, szL_one]; omega) (fun x y => ?_) (fun x c => ?_)
  · rw [fEL_app, fEL_one, fEL_app, fEL_one]
    simp only [fE, Nat.zero_add, false_or, hN, ptT]
    have e1 : inS (.opt p) (szL es) = szL es + szT p := by simp only [inS, sz_opt]; omega
    have e2 : outS (.opt p) (szL es) = szL es + szT p + 1 := by simp only [outS, sz_opt]; omega
    rw [e1, e2]
    constructor
    · rintro (h | h | h | h | h) <;> simp [h]
    · rintro ((h | h) | (h | h) | h) <;> simp [h]
  · rw [bEL_app, bEL_one, bEL_app, bEL_one]; rfl
end
/-- How long the rows may be behind a step. -/
theorem Small.step {M : Mc} {N L : Nat} (h : Small M N L) (k : Int) (S : Nat → Bool) (ps : List Pt) (hp : ps.length ≤ 2) : Small (stepM M k S ps) (N + 2) (L + 8) := by
  have h2 : Small M.more.more (N + 2) L := h.more.more
  have hw : ∀ (M : Mc) (L : Nat) (n p : Pt), Small M (N + 2) L → Small (M.wrap n p) (N + 2) (L + 2) := fun M L n p h => (h.link _ _).link _ _
  have hf : ∀ (ps : List Pt) (n : Pt) (M : Mc) (L : Nat), Small M (N + 2) L → Small (ps.foldl (fun m p => m.wrap n p) M) (N + 2) (L + 2 * ps.length) := fun ps n => by
    induction ps with
    | nil => intro M L h; exact h
    | cons p ps ih => intro M L h; exact (ih _ _ (hw M L n p h)).le (by simp; omega)
  unfold stepM
  dsimp only
  split
  · exact ⟨h2.1, fun l hl => Nat.le_trans (h2.2 l hl) (by omega)⟩
  · have h3 : Small (if k = 3 then M.more.more else ps.foldl (fun m p => m.wrap ⟨M.fr.length, M.fr.length + 1⟩ p) M.more.more) (N + 2) (L + 4) := by
      split
      · exact h2.le (by omega)
      · exact (hf ps _ _ _ h2).le (by omega)
    have h4 : ∀ W, Small W (N + 2) (L + 7) → Small (if k = 2 ∨ k = 5 ∨ k = 7 then W.link M.fr.length ((M.fr.length + 1 : Nat) : Int) else W) (N + 2) (L + 8) := fun W h => by
      split
      · exact h.link _ _
      · exact h.le (by omega)
    refine h4 _ ?_
    split
    · exact ((h3.link _ _).link _ _).link _ _
    · exact (h3.link _ _).le (by omega)
    · exact (h3.link _ _).le (by omega)
    · exact h3.le (by omega)
end Go.Proofs.Ytbefndibkpjgaaa
/- All states to which some lead without a byte: plain. -/
namespace Go.Proofs.Ytbefndibkpjgaaa
set_option linter.unusedVariables false

theorem pa_nil {F : Nat → Nat → Prop} {B : Nat → UInt8 → Prop} {x y : Nat} : Pa F B x [] y ↔ x = y ∨ ∃ z, F x z ∧ Pa F B z [] y := by
  constructor
  · rintro ⟨n, h⟩
    cases h with
    | nil => exact .inl rfl
    | eps h hp => exact .inr ⟨_, h, _, hp⟩
  · rintro (rfl | ⟨z, h, n, hp⟩)
    · exact Pa.refl x
    · exact ⟨_, .eps h hp⟩
theorem pa_step {F : Nat → Nat → Prop} {B : Nat → UInt8 → Prop} {x y z : Nat} (h : Pa F B x [] y) (hf : F y z) : Pa F B x [] z := by
  have := h.trans (Pa.one hf)
  simpa using this
/-- What stands while states are marked: bs the marks, l those that wait. -/
structure SI (F : Nat → Nat → Prop) (B : Nat → UInt8 → Prop) (N : Nat) (xs : List Nat) (bs : List Bool) (l : List Nat) : Prop where
  len : bs.length = N
  mark : ∀ i, bs[i]? = some true → ∃ x ∈ xs, Pa F B x [] i
  wait : ∀ i ∈ l, i < N ∧ ∃ x ∈ xs, Pa F B x [] i
  all : ∀ x ∈ xs, bs[x]? = some true ∨ x ∈ l
  shut : ∀ s t, bs[s]? = some true → F s t → bs[t]? = some true ∨ t ∈ l
section
variable {F : Nat → Nat → Prop} {B : Nat → UInt8 → Prop} {N : Nat} {xs : List Nat} {bs : List Bool} {l : List Nat} {s : Nat}
theorem SI.start (h : ∀ x ∈ xs, x < N) : SI F B N xs (List.replicate N false) xs :=
  ⟨by simp, fun i hi => by
    rw [List.getElem?_replicate] at hi
    split at hi <;> simp at hi, fun i hi => ⟨h i hi, i, hi, Pa.refl i⟩, fun x hx => .inr hx, fun s t hs _ => by
    rw [List.getElem?_replicate] at hs
    split at hs <;> simp at hs⟩
theorem SI.old (h : SI F B N xs bs (l ++ [s])) (hs : bs[s]? = some true) : SI F B N xs bs l :=
  ⟨h.len, h.mark, fun i hi => h.wait i (List.mem_append_left _ hi), fun x hx => by
    rcases h.all x hx with h1 | h1
    · exact .inl h1
    · rcases List.mem_append.1 h1 with h1 | h1
      · exact .inr h1
      · rw [List.mem_singleton] at h1; subst h1; exact .inl hs, fun a b ha hab => by
    rcases h.shut a b ha hab with h1 | h1
    · exact .inl h1
    · rcases List.mem_append.1 h1 with h1 | h1
      · exact .inr h1
      · rw [List.mem_singleton] at h1; subst h1; exact .inl hs⟩
theorem set_true {i : Nat} (hs : s < bs.length) : (bs.set s true)[i]? = some true ↔ i = s ∨ bs[i]? = some true := by
  rw [List.getElem?_set]
  by_cases h : s = i
  · subst h; simp [hs]
  · simp only [h, if_false]
    constructor
    · exact .inr
    · rintro (rfl | h1)
      · exact absurd rfl h
      · exact h1
theorem SI.new (h : SI F B N xs bs (l ++ [s])) {ts : List Nat} (hts : ∀ t, F s t ↔ t ∈ ts) (hl : ∀ t ∈ ts, t < N) : SI F B N xs (bs.set s true) (l ++ ts) := by
  obtain ⟨hsN, x0, hx0, hp0⟩ := h.wait s (by simp)
  have hsl : s < bs.length := by rw [h.len]; exact hsN
  refine ⟨by rw [List.length_set]; exact h.len, fun i hi => ?_, fun i hi => ?_, fun x hx => ?_, fun a b ha hab => ?_⟩
  · rcases (set_true hsl).1 hi with rfl | hi
    · exact ⟨x0, hx0, hp0⟩
    · exact h.mark i hi
  · rcases List.mem_append.1 hi with hi | hi
    · exact h.wait i (List.mem_append_left _ hi)
    · exact ⟨hl i hi, x0, hx0, pa_step hp0 ((hts i).2 hi)⟩
  · rcases h.all x hx with h1 | h1
    · exact .inl ((set_true hsl).2 (.inr h1))
    · rcases List.mem_append.1 h1 with h1 | h1
      · exact .inr (List.mem_append_left _ h1)
      · rw [List.mem_singleton] at h1; subst h1; exact .inl ((set_true hsl).2 (.inl rfl))
  · rcases (set_true hsl).1 ha with rfl | ha
    · exact .inr (List.mem_append_right _ ((hts b).1 hab))
    · rcases h.shut a b ha hab with h1 | h1
      · exact .inl ((set_true hsl).2 (.inr h1))
      · rcases List.mem_append.1 h1 with h1 | h1
        · exact .inr (List.mem_append_left _ h1)
        · rw [List.mem_singleton] at h1; subst h1; exact .inl ((set_true hsl).2 (.inl rfl))
theorem SI.done (h : SI F B N xs bs []) (i : Nat) : bs[i]? = some true ↔ ∃ x ∈ xs, Pa F B x [] i := by
  refine ⟨h.mark i, ?_⟩
  have key : ∀ n s, bs[s]? = some true → ∀ w j, PN F B n s w j → w = [] → bs[j]? = some true := by
    intro n
    induction n with
    | zero => intro s hs w j hp hw; cases hp; exact hs
    | succ n ih =>
      intro s hs w j hp hw
      cases hp with
      | eps h1 hp =>
        rcases h.shut _ _ hs h1 with h2 | h2
        · exact ih _ h2 _ _ hp hw
        · cases h2
      | byte h1 hp => cases hw
  rintro ⟨x, hx, n, hp⟩
  rcases h.all x hx with h1 | h1
  · exact key n x h1 _ _ hp rfl
  · cases h1
end
/-- What is still to be laid on: the rows of the states that are not marked. -/
def unS : List Bool → List (List Int) → Nat
  | b :: bs, l :: ls => (if b = true then 0 else l.length) + unS bs ls
  | _, _ => 0
theorem unS_set : ∀ (bs : List Bool) (ls : List (List Int)) (s : Nat) (l : List Int), bs[s]? = some false → ls[s]? = some l → unS (bs.set s true) ls + l.length = unS bs ls
  | b :: bs, l' :: ls, 0, l, h1, h2 => by
    simp only [List.getElem?_cons_zero, Option.some.injEq] at h1 h2
    subst h1 h2
    simp [unS]; omega
  | b :: bs, l' :: ls, s + 1, l, h1, h2 => by
    simp only [List.getElem?_cons_succ] at h1 h2
    have := unS_set bs ls s l h1 h2
    simp only [List.set_cons_succ, unS]; omega
  | [], _, s, l, h1, _ => by simp at h1
  | b :: bs, [], s, l, _, h2 => by simp at h2
theorem unS_le : ∀ (bs : List Bool) (ls : List (List Int)) (L : Nat), (∀ l ∈ ls, l.length ≤ L) → unS bs ls ≤ ls.length * L
  | b :: bs, l :: ls, L, h => by
    have h1 := unS_le bs ls L fun x hx => h x (.tail _ hx)
    have h2 := h l (.head _)
    simp only [unS, List.length_cons, Nat.succ_mul]
    split <;> omega
  | [], ls, L, _ => by simp [unS]
  | b :: bs, [], L, _ => by simp [unS]
def castL (l : List Nat) : List Int := l.map fun (n : Nat) => (n : Int)
theorem castL_app (l m : List Nat) : castL (l ++ m) = castL l ++ castL m := by simp [castL]
theorem castL_len (l : List Nat) : (castL l).length = l.length := by simp [castL]
/-- A state's row: numbers of states. -/
theorem NatM.row {M : Mc} (h : NatM M) {s : Nat} {l : List Int} (hl : M.fr[s]? = some l) : ∃ ts : List Nat, l = castL ts ∧ (∀ t ∈ ts, t < M.fr.length) ∧ ∀ t, FE M s t ↔ t ∈ ts := by
  have h1 := h l (List.mem_of_getElem? hl)
  have key : ∀ l : List Int, (∀ z ∈ l, ∃ y : Nat, z = (y : Int) ∧ y < M.fr.length) → ∃ ts : List Nat, l = castL ts ∧ ∀ t ∈ ts, t < M.fr.length := by
    intro l
    induction l with
    | nil => intro _; exact ⟨[], rfl, fun t ht => by cases ht⟩
    | cons z l ih =>
      intro h
      obtain ⟨ts, e, h2⟩ := ih fun z hz => h z (.tail _ hz)
      obtain ⟨y, e2, hy⟩ := h z (.head _)
      refine ⟨y :: ts, by rw [e, e2]; rfl, fun t ht => ?_⟩
      rcases List.mem_cons.1 ht with rfl | ht
      · exact hy
      · exact h2 t ht
  obtain ⟨ts, e, h2⟩ := key l h1
  refine ⟨ts, e, h2, fun t => ?_⟩
  constructor
  · rintro ⟨l', hl', ht⟩
    rw [hl] at hl'
    obtain rfl := Option.some.inj hl'
    rw [e] at ht
    obtain ⟨t', ht', e'⟩ := List.mem_map.1 ht
    have : t' = t := by have e9 : (t' : Int) = (t : Int) := e'; omega
    subst this; exact ht'
  · intro ht
    exact ⟨l, hl, by rw [e]; exact List.mem_map.2 ⟨t, ht, rfl⟩⟩
end Go.Proofs.Ytbefndibkpjgaaa
/- rxfact: the part that a step is of its parts. -/
namespace Go.Proofs.Ytbefndibkpjgaaa
open Go.RowKit
set_option linter.unusedVariables false
set_option linter.unusedSimpArgs false
attribute [local go_sem ↓] loadP_eq
set_option maxRecDepth 100000 in
set_option maxHeartbeats 8000000 in
theorem step_any (X : Nat) (w : World) (M : Mc) (h : MX X w M []) (k : Int) (S : Nat → Bool) (ps : List Pt) (a : Option Addr) (n c : Nat) (hr : CRow ptC 2 w a n ps) (hf : ∀ b off e, a = some ⟨b, off, e⟩ → FreeB X w b) (hk : StepK k n)
    (hp : ∀ p ∈ ps, p.i < M.fr.length ∧ p.o < M.fr.length) (hn : M.fr.length ≤ 3000) (hl : ∀ l ∈ M.fr, l.length ≤ 3000) :
    Calls Try.prog 34 #[.pointer (some ⟨X, 0, none⟩), .agg #[.int .i64 k, .int .u64 (wd S 0), .int .u64 (wd S 1), .int .u64 (wd S 2), .int .u64 (wd S 3)], .slice a n c] w
      fun e w' => GivM9 X (stepM M k S ps) [] (.agg #[.int .i64 (M.fr.length : Int), .int .i64 ((M.fr.length + 1 : Nat) : Int)]) w e w' := by
  obtain ⟨g, hg⟩ : ∃ g, w.heap.size = g := ⟨_, rfl⟩
  have HG := Lib.hid hg
  obtain ⟨N, hN⟩ : ∃ N, M.fr.length = N := ⟨_, rfl⟩
  have hsm : Small M N 3000 := ⟨hN, hl⟩
  obtain ⟨W0, hW0⟩ : ∃ W, W = (w.alloc (boxR ⟨k, S⟩)).alloc ZP := ⟨_, rfl⟩
  have hs0 : SF X w ⟨k, S⟩ a n ps W0 M := by rw [hW0]; exact SF.start h hr hf
  have hc1 := state_any X W0 M [] hs0.mx (by omega)
  rw [hN] at hc1 hn hp ⊢
  rw [hW0] at hc1
  unfold boxR ZP at hc1 hW0
  have HLE : Hid (X < g) := Lib.hid (by have := h.le; omega)
  have HC1 := Lib.hid hc1
  have HN : Hid (M.fr.length = N) := Lib.hid hN
  have HS0 := Lib.hid hs0
  have HSM := Lib.hid hsm
  have HP := Lib.hid hp
  have HK := Lib.hid hk
  have HRL := Lib.hid hr.1
  clear hc1 hs0 hsm hp hk h hr hf hl hN
  go_enter Try.func34, Try.ntmps34
  go_wp2_with fail
  refine HC1.out.mono ?_
  rintro e w1 ⟨rfl, hm1, hb1, hk1⟩
  rw [← hW0] at hb1 hk1
  have HS1 := Lib.hid (HS0.out.keeps hm1 hb1 hk1)
  have HC2 := Lib.hid (state_any X w1 M.more [] hm1 (by have := HSM.out.more.1; omega))
  rw [HSM.out.more.1] at HC2
  clear hm1 hb1 hk1 hW0 HC1
  go_wp2_with fail
  refine HC2.out.mono ?_
  rintro e w2 ⟨rfl, hm2, hb2, hk2⟩
  have hs2 := HS1.out.keeps hm2 hb2 hk2
  have HS2 := Lib.hid hs2
  obtain ⟨bn, hbn⟩ : ∃ b, w2.heap.size = b := ⟨_, rfl⟩
  have hgb : g + 2 ≤ bn := by have := hs2.br.1.1; omega
  obtain ⟨M2, hM2⟩ : ∃ M2, M.more.more = M2 := ⟨_, rfl⟩
  have HM2 := Lib.hid hM2
  obtain ⟨W3, hW3⟩ : ∃ W, W = w2.alloc (ptO N (N + 1)) := ⟨_, rfl⟩
  have HBB : Hid (Below w2.heap.size w2 W3) := Lib.hid (by rw [hW3]; exact (Below.refl _ _).alloc (Nat.le_refl _) _)
  have hsg : SG X w ⟨k, S⟩ a n ps bn N 3000 W3 M2 := by
    rw [← hM2]
    refine ⟨hs2.onto HBB.out, hs2.held HBB.out (Nat.le_of_eq hbn) ?_, HSM.out.more.more⟩
    rw [hW3, ← hbn]; exact heap_alloc_new w2 _
  have HSG := Lib.hid hsg
  have x0 := hsg.k0 hg
  have b0 := hsg.b0
  have b1 := hsg.b1
  have hsz : W3.heap.size = bn + 1 := by rw [hW3, ← hbn]; simp
  rw [hW3] at x0 b0 b1
  unfold ptO at x0 b0 b1 hW3
  rw [Int.natCast_succ] at x0 b0 b1 hW3
  clear hm2 hb2 hk2 hs2 HC2 HS1 HS0 hM2 HSM hsg HBB
  have hn2 : n ≤ 2 := by rcases HK.out with h | h | h | h | h | h | h <;> omega
  by_cases hk1 : k = 1

  · subst hk1
    go_wp2
    rw [← hW3] at x0 ⊢
    clear b0 b1
    obtain ⟨os, fv, sv, bv, hm, q1, q2, q3⟩ := HSG.out.sf.mx
    obtain ⟨_, ⟨sa, sc, rfl, hs1, hs2⟩, ⟨ba, bc, rfl, hb1, hb2⟩⟩ := hm.forms
    have hl2 := HSG.out.sm.1
    have g2 : M2.se.length = N + 2 := by omega
    have g3 : M2.by_.length = N + 2 := by omega
    obtain ⟨bS, rfl, s1, s2, _⟩ := own_at hm.own.2.1 (by omega)
    obtain ⟨bB, rfl, t1, t2, _⟩ := own_at hm.own.2.2 (by omega)
    rw [g2, g3] at hm
    rw [g2] at hs1
    rw [g3] at hb1
    have c1 : W3.cell? ⟨X, 1, none⟩ = some (.slice (some ⟨bS, 0, none⟩) (N + 2) sc) := hm.cell.2.1
    have c2 : W3.cell? ⟨X, 2, none⟩ = some (.slice (some ⟨bB, 0, none⟩) (N + 2) bc) := hm.cell.2.2
    have b0 := HSG.out.b0
    have x1 : W3.cell? ⟨g, 1, none⟩ = some (.int .u64 (wd S 0)) := HSG.out.kc HG.out 0 (by decide)
    have x2 : W3.cell? ⟨g, 2, none⟩ = some (.int .u64 (wd S 1)) := HSG.out.kc HG.out 1 (by decide)
    have x3 : W3.cell? ⟨g, 3, none⟩ = some (.int .u64 (wd S 2)) := HSG.out.kc HG.out 2 (by decide)
    have x4 : W3.cell? ⟨g, 4, none⟩ = some (.int .u64 (wd S 3)) := HSG.out.kc HG.out 3 (by decide)
    obtain ⟨S0, hS0⟩ : ∃ S0, M2.se[N]? = some S0 := ⟨_, List.getElem?_eq_getElem (by omega)⟩
    obtain ⟨z0, hz0⟩ : ∃ z0, M2.by_[N]? = some z0 := ⟨_, List.getElem?_eq_getElem (by omega)⟩
    have d0 := hm.cellS rfl hS0 0 _ rfl
    have d1 := hm.cellS rfl hS0 1 _ rfl
    have d2 := hm.cellS rfl hS0 2 _ rfl
    have d3 := hm.cellS rfl hS0 3 _ rfl
    have d4 := hm.cellB rfl hz0
    have f0 := fz_own hm.own.2.1 (N * 4 + 0)
    have f1 := fz_own hm.own.2.1 (N * 4 + 1)
    have f2 := fz_own hm.own.2.1 (N * 4 + 2)
    have f3 := fz_own hm.own.2.1 (N * 4 + 3)
    have f4 := fz_own hm.own.2.2 N
    have hSX : bS ≠ X := fun e => hm.ne.2.1 (by rw [e]; rfl)
    have hBX : bB ≠ X := fun e => hm.ne.2.2 (by rw [e]; rfl)
    have hSB : bS ≠ bB := fun e => hm.rows.apart 1 2 _ _ b3.2.1 b3.2.2 (by decide) bS rfl (by rw [e]; rfl)
    have hBS : bB ≠ bS := fun e => hSB e.symm
    obtain ⟨_, n1, n2⟩ := hm.free_ne HSG.out.hn.1
    obtain ⟨_, n3, n4⟩ := hm.free_ne HSG.out.sf.bx.1
    rw [HG.out] at n3 n4
    have hnS : bn ≠ bS := fun e => n1 (by rw [e]; rfl)
    have hnB : bn ≠ bB := fun e => n2 (by rw [e]; rfl)
    have hgS : g ≠ bS := fun e => n3 (by rw [e]; rfl)
    have hgB : g ≠ bB := fun e => n4 (by rw [e]; rfl)
    clear n1 n2 n3 n4
    have HM := Lib.hid hm
    have HQ := Lib.hid (show M2.fr = os.map Sl.xs ∧ M2.se.length = N + 2 ∧ M2.by_.length = N + 2 ∧ M2.fr.length = N + 2 from ⟨q1, by omega, by omega, hl2⟩)
    have z0 : (0 : Int) ≤ (N : Int) := by omega
    have z1 : (N : Int) < (N : Int) + 2 := by omega
    clear hW3
    simp only [Nat.add_zero, Nat.zero_add] at d0 d1 d2 d3 f0
    clear hm q1 q2 q3 g2 g3 hs1 hs2 hb1 hb2 s1 s2 t1 t2 hS0 hz0 hl2
    go_region
    have HSH := Lib.hid (HSG.out.setSB HM.out HQ.out.2.1 HQ.out.2.2.1 HQ.out.1 HQ.out.2.2.2 N S).drew
    have hsh := HSH.out
    have eW := show laidSB W3 bS bB N S = _ from rfl
    unfold laidSB at eW hsh
    obtain ⟨W4, hW4⟩ : ∃ W, W = (laidSB W3 bS bB N S).drew := ⟨_, rfl⟩
    have HW4 : Hid (W4 = (laidSB W3 bS bB N S).drew) := Lib.hid hW4
    unfold laidSB at hW4
    rw [← hW4]
    clear hW4 hsh eW
    have HSE : Hid (SG X w ⟨1, S⟩ a n ps bn N 3000 W4 (M2.setAt N S)) := Lib.hid (by rw [HW4.out]; exact HSH.out)
    clear HSH HW4
    have E9 : Hid (stepM M 1 S ps = M2.setAt N S) := Lib.hid (by simp [stepM, HM2.out, HN.out])
    have hl9 := run_loadP0 W4 bn N (N + 1) HSE.out.pt
    rw [Int.natCast_succ] at hl9
    have HR9 := Lib.hid (HSE.out.res HG.out)
    go_wp2_with (refine wpList_store_pt rfl _ _ rfl (g + 1) 0 0 N (N + 1) rfl rfl HR9.out ?_; intro wZ hF9 hB9 hO9 hS9; have HF9 := Lib.hid hF9; have HD9 : Hid (∀ v, GivM9 X (M2.setAt N S) [] v w (.returned v) wZ) := Lib.hid fun v => HSE.out.done HG.out HLE.out (v := v) hO9 hS9 hB9; clear hF9 hB9 hO9 hS9)
    refine bodyPost_ret (results_pt rfl _ _ (g + 1) N (N + 1) rfl HF9.out) rfl ?_
    rw [E9.out]
    exact HD9.out _

  · have e1 : (k == 1) = false := by rw [beq_eq_false_iff_ne]; exact hk1
    go_wp2
    rw [← hW3] at x0 b0 b1 ⊢
    clear b0 b1 x0 hW3 hsz hbn
    go_loopw [37] (fun i wr => ∃ (j : Nat) (Mj : Mc), j ≤ n ∧ i = .int .i64 (j : Int) ∧ Mj = wrapN M2 k ⟨N, N + 1⟩ ps j ∧ SG X w ⟨k, S⟩ a n ps bn N (3000 + 2 * j) wr Mj) (fun i _ => n - (intOf i).toNat)
    case atStart => exact ⟨0, M2, by omega, rfl, (wrapN_zero ..).symm, HSG.out⟩
    case round =>
      obtain ⟨j, Mj, hj, rfl, hMj, hsg⟩ := hrel
      have HMJ := Lib.hid hMj
      have HSJ := Lib.hid hsg
      clear hMj
      by_cases hlt : j < n
      · obtain ⟨p, hp⟩ : ∃ p, ps[j]? = some p := ⟨_, List.getElem?_eq_getElem (by rw [HRL.out]; exact hlt)⟩
        obtain ⟨b, off, rfl, _, y0, y1⟩ := hsg.part hp
        have HPJ := Lib.hid hp
        have hlp := run_loadP wr b (off + j * 2) _ _ y0 y1
        obtain ⟨gy, hgy⟩ : ∃ x, wr.heap.size = x := ⟨_, rfl⟩
        obtain ⟨WY, hWY⟩ : ∃ W, W = wr.alloc (ptO p.i p.o) := ⟨_, rfl⟩
        have hbY : Below wr.heap.size wr WY := by rw [hWY]; exact (Below.refl _ _).alloc (Nat.le_refl _) _
        have hsY := hsg.onto hbY
        have hhY : Held X WY gy (ptO p.i p.o) := hsg.sf.held hbY (Nat.le_of_eq hgy) (by rw [hWY, ← hgy]; exact heap_alloc_new wr _)
        have HSY := Lib.hid hsY
        have hsYA : SG X w ⟨k, S⟩ (some ⟨b, off, none⟩) n ps bn N (3000 + 2 * (j + 1)) WY Mj := ⟨hsY.sf, hsY.hn, hsY.sm.le (by omega)⟩
        have HHY := Lib.hid hhY
        have HSYA := Lib.hid hsYA
        obtain ⟨hPi, hPo⟩ := HP.out p (List.mem_of_getElem? hp)
        have HPB := Lib.hid (HP.out p (List.mem_of_getElem? hp))
        have x0 := hsY.k0 HG.out
        have b0 := hsY.b0
        have v0 := PtAt.c0 (i := p.i) (o := p.o) hhY.2
        have z0 : (0 : Int) ≤ (j : Int) := by omega
        have z1 : (j : Int) < (n : Int) := by omega
        have HL1 := Lib.hid (hsY.link N (p.i : Int) (by omega) (by omega) (by omega))
        dsimp only at x0
        rw [hWY] at x0 b0 v0 HL1 HSYA HHY
        unfold ptO at x0 b0 v0 HL1 HSYA HHY hWY
        clear hsY hhY hbY hsg y0 y1 hp hWY hsYA
        by_cases hk3 : k = 3
        · subst hk3
          go_wp2
          go_roundw
          case rel => exact ⟨j + 1, Mj, by omega, by go_num, by rw [HMJ.out, wrapN_cat, wrapN_cat], HSYA.out⟩
          case measure => simp [intOf]; omega
        · have e3 : (k != 3) = true := by rw [bne_iff_ne]; exact hk3
          go_wp2_with fail
          refine HL1.out.mono ?_
          rintro e w1 ⟨rfl, hsg1, hkp1⟩
          have HS1 := Lib.hid hsg1
          have HH1 := Lib.hid (HHY.out.keeps hkp1)
          have b1 := hsg1.b1
          have v1 := PtAt.c1 (i := p.i) (o := p.o) HH1.out.2
          have HL2 := Lib.hid (hsg1.link p.o ((N : Int) + 1) (by omega) (by omega) (by omega))
          clear hsg1 hkp1 x0 b0 v0 HL1
          go_wp2_with fail
          refine HL2.out.mono ?_
          rintro e w2 ⟨rfl, hsg2, hkp2⟩
          have HS2 := Lib.hid hsg2
          clear hsg2 hkp2 b1 v1 HL2
          go_wp2
          go_roundw
          case rel => exact ⟨j + 1, _, by omega, by go_num, by rw [wrapN_succ _ hk3 _ _ _ HPJ.out, ← HMJ.out]; rfl, HS2.out⟩
          case measure => simp [intOf]; omega
      · have hjn : j = n := by omega
        subst hjn
        have x0 := hsg.k0 HG.out
        dsimp only at x0
        clear hsg
        have z1 : ¬ (j : Int) < (j : Int) := by omega
        rcases HK.out with h | h | h | h | h | h | h
        · exact absurd h.1 hk1
        · obtain ⟨rfl, hj9⟩ := h
          obtain rfl : ps = [] := List.length_eq_zero_iff.1 (by rw [HRL.out]; exact hj9)
          have HMW : Hid (Mj = M2) := Lib.hid (by rw [HMJ.out, hj9]; exact wrapN_zero ..)
          have HJ9 := Lib.hid hj9
          clear hj9
          have b0 := HSJ.out.b0
          have b1 := HSJ.out.b1
          have HL9 := Lib.hid (HSJ.out.link N ((N : Int) + 1) (by omega) (by omega) (by omega))
          go_wp2_with fail
          refine HL9.out.mono ?_
          rintro e w1 ⟨rfl, hsg9, hkp9⟩
          have HS1 := Lib.hid hsg9
          clear hsg9 hkp9 HL9
          clear x0 b0 b1
          have E9 : Hid (stepM M 2 S [] = Mj.link N ((N : Int) + 1)) := Lib.hid (by rw [HMW.out]; simp [stepM, HM2.out, HN.out, Int.natCast_succ])
          have hl9 := run_loadP0 w1 bn N (N + 1) HS1.out.pt
          rw [Int.natCast_succ] at hl9
          have HR9 := Lib.hid (HS1.out.res HG.out)
          go_wp2_with (refine wpList_store_pt rfl _ _ rfl (g + 1) 0 0 N (N + 1) rfl rfl HR9.out ?_; intro wZ hF9 hB9 hO9 hS9; have HF9 := Lib.hid hF9; have HD9 : Hid (∀ v, GivM9 X (Mj.link N ((N : Int) + 1)) [] v w (.returned v) wZ) := Lib.hid fun v => HS1.out.done HG.out HLE.out (v := v) hO9 hS9 hB9; clear hF9 hB9 hO9 hS9)
          refine bodyPost_ret (results_pt rfl _ _ (g + 1) N (N + 1) rfl HF9.out) rfl ?_
          rw [E9.out]
          exact HD9.out _
        · obtain ⟨rfl, hj9⟩ := h
          obtain ⟨p, q, rfl⟩ : ∃ p q, ps = [p, q] := len2 (by rw [HRL.out]; exact hj9)
          obtain ⟨hp1, hp2⟩ := HP.out p (by simp)
          obtain ⟨hq1, hq2⟩ := HP.out q (by simp)
          have HMW : Hid (Mj = M2) := Lib.hid (by rw [HMJ.out, hj9]; simp [wrapN])
          obtain ⟨b, off, rfl, _, y0, y1⟩ := HSJ.out.part (i := 0) (p := p) rfl
          simp only [Nat.zero_mul, Nat.one_mul, Nat.add_zero] at y0 y1
          clear y1
          have b0 := HSJ.out.b0
          have i0 : (0 : Int) < (j : Int) := by omega
          have i1 : (1 : Int) < (j : Int) := by omega
          have HJ9 := Lib.hid hj9
          clear hj9
          have HL9 := Lib.hid (HSJ.out.drew.link N (p.i : Int) (by omega) (by omega) (by omega))
          go_wp2
          go_still_tail 7, (by kernel_rfl)
          go_wp2_with fail
          refine HL9.out.mono ?_
          rintro e w1 ⟨rfl, hsg9, hkp9⟩
          have HS1 := Lib.hid hsg9
          clear hsg9 hkp9 HL9
          clear x0 y0 b0
          obtain ⟨b1', off1', e9, _, y0, y1⟩ := HS1.out.part (i := 0) (p := p) rfl
          simp only [Option.some.injEq, Addr.mk.injEq, and_true] at e9
          obtain ⟨rfl, rfl⟩ := e9
          simp only [Nat.zero_mul, Nat.one_mul, Nat.add_zero] at y0 y1
          obtain ⟨b1', off1', e9, _, y2, y3⟩ := HS1.out.part (i := 1) (p := q) rfl
          simp only [Option.some.injEq, Addr.mk.injEq, and_true] at e9
          obtain ⟨rfl, rfl⟩ := e9
          simp only [Nat.zero_mul, Nat.one_mul, Nat.add_zero] at y2 y3
          clear y0 y3
          have HL9 := Lib.hid (HS1.out.drew.link p.o (q.i : Int) (by omega) (by omega) (by omega))
          go_wp2
          go_still_tail 9, (by kernel_rfl)
          go_wp2_with fail
          refine HL9.out.mono ?_
          rintro e w2 ⟨rfl, hsg9, hkp9⟩
          have HS2 := Lib.hid hsg9
          clear hsg9 hkp9 HL9
          clear y1 y2
          obtain ⟨b1', off1', e9, _, y0, y1⟩ := HS2.out.part (i := 0) (p := p) rfl
          simp only [Option.some.injEq, Addr.mk.injEq, and_true] at e9
          obtain ⟨rfl, rfl⟩ := e9
          simp only [Nat.zero_mul, Nat.one_mul, Nat.add_zero] at y0 y1
          obtain ⟨b1', off1', e9, _, y2, y3⟩ := HS2.out.part (i := 1) (p := q) rfl
          simp only [Option.some.injEq, Addr.mk.injEq, and_true] at e9
          obtain ⟨rfl, rfl⟩ := e9
          simp only [Nat.zero_mul, Nat.one_mul, Nat.add_zero] at y2 y3
          clear y0 y1 y2
          have b1 := HS2.out.b1
          have HL9 := Lib.hid (HS2.out.drew.link q.o ((N : Int) + 1) (by omega) (by omega) (by omega))
          go_wp2
          go_still_tail 7, (by kernel_rfl)
          go_wp2_with fail
          refine HL9.out.mono ?_
          rintro e w3 ⟨rfl, hsg9, hkp9⟩
          have HS3 := Lib.hid hsg9
          clear hsg9 hkp9 HL9
          clear y3 b1
          have x0 := HS3.out.k0 HG.out
          dsimp only at x0
          have E9 : Hid (stepM M 3 S [p, q] = ((Mj.link N (p.i : Int)).link p.o (q.i : Int)).link q.o ((N : Int) + 1)) := Lib.hid (by rw [HMW.out]; simp [stepM, HM2.out, HN.out, Int.natCast_succ])
          have hl9 := run_loadP0 w3 bn N (N + 1) HS3.out.pt
          rw [Int.natCast_succ] at hl9
          have HR9 := Lib.hid (HS3.out.res HG.out)
          go_wp2_with (refine wpList_store_pt rfl _ _ rfl (g + 1) 0 0 N (N + 1) rfl rfl HR9.out ?_; intro wZ hF9 hB9 hO9 hS9; have HF9 := Lib.hid hF9; have HD9 : Hid (∀ v, GivM9 X (((Mj.link N (p.i : Int)).link p.o (q.i : Int)).link q.o ((N : Int) + 1)) [] v w (.returned v) wZ) := Lib.hid fun v => HS3.out.done HG.out HLE.out (v := v) hO9 hS9 hB9; clear hF9 hB9 hO9 hS9)
          refine bodyPost_ret (results_pt rfl _ _ (g + 1) N (N + 1) rfl HF9.out) rfl ?_
          rw [E9.out]
          exact HD9.out _
        · obtain ⟨rfl, hj9⟩ := h
          obtain ⟨p, q, rfl⟩ : ∃ p q, ps = [p, q] := len2 (by rw [HRL.out]; exact hj9)
          obtain ⟨hp1, hp2⟩ := HP.out p (by simp)
          obtain ⟨hq1, hq2⟩ := HP.out q (by simp)
          have HMW : Hid (Mj = (M2.wrap ⟨N, N + 1⟩ p).wrap ⟨N, N + 1⟩ q) := Lib.hid (by rw [HMJ.out, hj9]; simp [wrapN])
          have HJ9 := Lib.hid hj9
          clear hj9
          have E9 : Hid (stepM M 4 S [p, q] = Mj) := Lib.hid (by rw [HMW.out]; simp [stepM, HM2.out, HN.out, Int.natCast_succ])
          have hl9 := run_loadP0 wr bn N (N + 1) HSJ.out.pt
          rw [Int.natCast_succ] at hl9
          have HR9 := Lib.hid (HSJ.out.res HG.out)
          go_wp2_with (refine wpList_store_pt rfl _ _ rfl (g + 1) 0 0 N (N + 1) rfl rfl HR9.out ?_; intro wZ hF9 hB9 hO9 hS9; have HF9 := Lib.hid hF9; have HD9 : Hid (∀ v, GivM9 X (Mj) [] v w (.returned v) wZ) := Lib.hid fun v => HSJ.out.done HG.out HLE.out (v := v) hO9 hS9 hB9; clear hF9 hB9 hO9 hS9)
          refine bodyPost_ret (results_pt rfl _ _ (g + 1) N (N + 1) rfl HF9.out) rfl ?_
          rw [E9.out]
          exact HD9.out _
        · obtain ⟨rfl, hj9⟩ := h
          obtain ⟨p, rfl⟩ : ∃ p, ps = [p] := len1 (by rw [HRL.out]; exact hj9)
          obtain ⟨hp1, hp2⟩ := HP.out p (by simp)
          have HMW : Hid (Mj = M2.wrap ⟨N, N + 1⟩ p) := Lib.hid (by rw [HMJ.out, hj9]; simp [wrapN])
          obtain ⟨b, off, rfl, _, y0, y1⟩ := HSJ.out.part (i := 0) (p := p) rfl
          simp only [Nat.zero_mul, Nat.one_mul, Nat.add_zero] at y0 y1
          have i0 : (0 : Int) < (j : Int) := by omega
          have HJ9 := Lib.hid hj9
          clear hj9
          have HL9 := Lib.hid (HSJ.out.drew.link p.o (p.i : Int) (by omega) (by omega) (by omega))
          go_wp2
          go_still_tail 9, (by kernel_rfl)
          go_wp2_with fail
          refine HL9.out.mono ?_
          rintro e w1 ⟨rfl, hsg9, hkp9⟩
          have HS1 := Lib.hid hsg9
          clear hsg9 hkp9 HL9
          clear x0 y0 y1
          have x0 := HS1.out.k0 HG.out
          dsimp only at x0
          have b0 := HS1.out.b0
          have b1 := HS1.out.b1
          have HL9 := Lib.hid (HS1.out.link N ((N : Int) + 1) (by omega) (by omega) (by omega))
          go_wp2_with fail
          refine HL9.out.mono ?_
          rintro e w2 ⟨rfl, hsg9, hkp9⟩
          have HS2 := Lib.hid hsg9
          clear hsg9 hkp9 HL9
          clear x0 b0 b1
          have E9 : Hid (stepM M 5 S [p] = (Mj.link p.o (p.i : Int)).link N ((N : Int) + 1)) := Lib.hid (by rw [HMW.out]; simp [stepM, HM2.out, HN.out, Int.natCast_succ])
          have hl9 := run_loadP0 w2 bn N (N + 1) HS2.out.pt
          rw [Int.natCast_succ] at hl9
          have HR9 := Lib.hid (HS2.out.res HG.out)
          go_wp2_with (refine wpList_store_pt rfl _ _ rfl (g + 1) 0 0 N (N + 1) rfl rfl HR9.out ?_; intro wZ hF9 hB9 hO9 hS9; have HF9 := Lib.hid hF9; have HD9 : Hid (∀ v, GivM9 X ((Mj.link p.o (p.i : Int)).link N ((N : Int) + 1)) [] v w (.returned v) wZ) := Lib.hid fun v => HS2.out.done HG.out HLE.out (v := v) hO9 hS9 hB9; clear hF9 hB9 hO9 hS9)
          refine bodyPost_ret (results_pt rfl _ _ (g + 1) N (N + 1) rfl HF9.out) rfl ?_
          rw [E9.out]
          exact HD9.out _
        · obtain ⟨rfl, hj9⟩ := h
          obtain ⟨p, rfl⟩ : ∃ p, ps = [p] := len1 (by rw [HRL.out]; exact hj9)
          obtain ⟨hp1, hp2⟩ := HP.out p (by simp)
          have HMW : Hid (Mj = M2.wrap ⟨N, N + 1⟩ p) := Lib.hid (by rw [HMJ.out, hj9]; simp [wrapN])
          obtain ⟨b, off, rfl, _, y0, y1⟩ := HSJ.out.part (i := 0) (p := p) rfl
          simp only [Nat.zero_mul, Nat.one_mul, Nat.add_zero] at y0 y1
          have i0 : (0 : Int) < (j : Int) := by omega
          have HJ9 := Lib.hid hj9
          clear hj9
          have HL9 := Lib.hid (HSJ.out.drew.link p.o (p.i : Int) (by omega) (by omega) (by omega))
          go_wp2
          go_still_tail 9, (by kernel_rfl)
          go_wp2_with fail
          refine HL9.out.mono ?_
          rintro e w1 ⟨rfl, hsg9, hkp9⟩
          have HS1 := Lib.hid hsg9
          clear hsg9 hkp9 HL9
          clear x0 y0 y1
          have x0 := HS1.out.k0 HG.out
          dsimp only at x0
          have E9 : Hid (stepM M 6 S [p] = Mj.link p.o (p.i : Int)) := Lib.hid (by rw [HMW.out]; simp [stepM, HM2.out, HN.out, Int.natCast_succ])
          have hl9 := run_loadP0 w1 bn N (N + 1) HS1.out.pt
          rw [Int.natCast_succ] at hl9
          have HR9 := Lib.hid (HS1.out.res HG.out)
          go_wp2_with (refine wpList_store_pt rfl _ _ rfl (g + 1) 0 0 N (N + 1) rfl rfl HR9.out ?_; intro wZ hF9 hB9 hO9 hS9; have HF9 := Lib.hid hF9; have HD9 : Hid (∀ v, GivM9 X (Mj.link p.o (p.i : Int)) [] v w (.returned v) wZ) := Lib.hid fun v => HS1.out.done HG.out HLE.out (v := v) hO9 hS9 hB9; clear hF9 hB9 hO9 hS9)
          refine bodyPost_ret (results_pt rfl _ _ (g + 1) N (N + 1) rfl HF9.out) rfl ?_
          rw [E9.out]
          exact HD9.out _
        · obtain ⟨rfl, hj9⟩ := h
          obtain ⟨p, rfl⟩ : ∃ p, ps = [p] := len1 (by rw [HRL.out]; exact hj9)
          obtain ⟨hp1, hp2⟩ := HP.out p (by simp)
          have HMW : Hid (Mj = M2.wrap ⟨N, N + 1⟩ p) := Lib.hid (by rw [HMJ.out, hj9]; simp [wrapN])
          obtain ⟨b, off, rfl, _, y0, y1⟩ := HSJ.out.part (i := 0) (p := p) rfl
          simp only [Nat.zero_mul, Nat.one_mul, Nat.add_zero] at y0 y1
          have i0 : (0 : Int) < (j : Int) := by omega
          have HJ9 := Lib.hid hj9
          clear hj9
          clear y0 y1
          have b0 := HSJ.out.b0
          have b1 := HSJ.out.b1
          have HL9 := Lib.hid (HSJ.out.link N ((N : Int) + 1) (by omega) (by omega) (by omega))
          go_wp2_with fail
          refine HL9.out.mono ?_
          rintro e w1 ⟨rfl, hsg9, hkp9⟩
          have HS1 := Lib.hid hsg9
          clear hsg9 hkp9 HL9
          clear x0 b0 b1
          have E9 : Hid (stepM M 7 S [p] = Mj.link N ((N : Int) + 1)) := Lib.hid (by rw [HMW.out]; simp [stepM, HM2.out, HN.out, Int.natCast_succ])
          have hl9 := run_loadP0 w1 bn N (N + 1) HS1.out.pt
          rw [Int.natCast_succ] at hl9
          have HR9 := Lib.hid (HS1.out.res HG.out)
          go_wp2_with (refine wpList_store_pt rfl _ _ rfl (g + 1) 0 0 N (N + 1) rfl rfl HR9.out ?_; intro wZ hF9 hB9 hO9 hS9; have HF9 := Lib.hid hF9; have HD9 : Hid (∀ v, GivM9 X (Mj.link N ((N : Int) + 1)) [] v w (.returned v) wZ) := Lib.hid fun v => HS1.out.done HG.out HLE.out (v := v) hO9 hS9 hB9; clear hF9 hB9 hO9 hS9)
          refine bodyPost_ret (results_pt rfl _ _ (g + 1) N (N + 1) rfl HF9.out) rfl ?_
          rw [E9.out]
          exact HD9.out _

end Go.Proofs.Ytbefndibkpjgaaa
/- A region that draws its order, in which one operation turns what stands: the family's rule with that one operation apart. -/
namespace Go.Proofs.Ytbefndibkpjgaaa
open Go.RowKit
set_option linter.unusedVariables false
section
variable {P : Program} {ops : Array Oper} {E : World → World → Prop} {V : Nat → Value → World → Prop} {a0 : Act} {w0 : World}
def ObS (P : Program) (ops : Array Oper) (E1 : World → Prop) (E2 : World → World → Prop) (V : Nat → Value → World → Prop) (a0 : Act) (i : Nat) (o : Oper) : Prop :=
  ∀ a w, E1 w → Seen V a0 a w (sees ops i) → if Region.wanted o (yielded ops a.tmps) = true then relAt P o a E2 w (V i) else V i undef w
/-- What is to be shown of each: operation s turns I from false to true; the others keep it. -/
def ObsS (P : Program) (ops : Array Oper) (E O : World → World → Prop) (I : Bool → World → Prop) (s : Nat) (V : Nat → Value → World → Prop) (a0 : Act) (w0 : World) : Nat → List Oper → Prop
  | _, [] => True
  | i, o :: l => ((i = s → o.guard = none ∧ ObS P ops (fun w => E w0 w ∧ I false w) (fun x y => E x y ∧ I true y) V a0 i o) ∧ (i ≠ s → ObS P ops (fun w => E w0 w ∧ ∃ b, I b w) O V a0 i o)) ∧ ObsS P ops E O I s V a0 w0 (i + 1) l
theorem ObsS.at_ {O : World → World → Prop} {I : Bool → World → Prop} {s : Nat} (l : List Oper) : ∀ (k : Nat), ObsS P ops E O I s V a0 w0 k l → ∀ i o, l[i]? = some o → ((k + i = s → o.guard = none ∧ ObS P ops (fun w => E w0 w ∧ I false w) (fun x y => E x y ∧ I true y) V a0 (k + i) o) ∧ (k + i ≠ s → ObS P ops (fun w => E w0 w ∧ ∃ b, I b w) O V a0 (k + i) o)) := by
  induction l with
  | nil => intro k _ i o hi; simp at hi
  | cons o' l ih =>
    intro k h i o hi
    cases i with
    | zero =>
      simp only [List.getElem?_cons_zero, Option.some.injEq] at hi
      subst hi; exact h.1
    | succ i =>
      have := ih (k + 1) h.2 i o (by simpa using hi)
      rwa [show k + 1 + i = k + (i + 1) by omega] at this
theorem wpAny_fam_tailS {O : World → World → Prop} {I : Bool → World → Prop} {s : Nat} {Q : Exit → Act → World → Prop} {l1 : List Oper} (hB : famB ops a0.tmps.size = true) (hTB : tailB ops l1.length = true) (hle : l1.length ≤ ops.size) (hl : ∀ i, i < l1.length → l1[i]? = ops[i]?) (hT : ∀ x y z : World, E x y → E y z → E x z)
    (hM : ∀ i v x y, V i v x → E x y → V i v y) (hE0 : ∀ x, E x x) (hO : ∀ b x y, I b x → O x y → E x y ∧ I b y) (hOb : ObsS P ops E O I s V a0 w0 0 l1)
    (hQ : ∀ listed a w, (∀ i, listed.getD i false = decide (i < l1.length)) → FamInv ops E V a0 w0 listed a w → I (listed.getD s false) w → wpAny P .any ops Q (ops.size - l1.length) listed a w) :
    ∀ (fuel : Nat) (listed : Array Bool) (a : Act) (w : World), unl listed l1.length = fuel → (∀ i, l1.length ≤ i → listed.getD i false = false) → FamInv ops E V a0 w0 listed a w → I (listed.getD s false) w → wpAny P .any ops Q (fuel + (ops.size - l1.length)) listed a w := by
  intro fuel
  induction fuel with
  | zero =>
    intro listed a w hu hno h hI
    rw [Nat.zero_add]
    refine hQ listed a w (fun i => ?_) h hI
    by_cases hi : i < l1.length
    · rw [unl_zero hu i hi]; simp [hi]
    · rw [hno i (by omega)]; simp [hi]
  | succ fuel ih =>
    intro listed a w hu hno h hI
    rw [show fuel + 1 + (ops.size - l1.length) = (fuel + (ops.size - l1.length)) + 1 by omega]
    have hpos : 0 < unl listed l1.length := by omega
    unfold unl at hpos
    rw [List.countP_pos_iff] at hpos
    obtain ⟨k, hk, hkl⟩ := hpos
    have hk := List.mem_range.1 hk
    have hkl : listed.getD k false = false := by simpa using hkl
    refine ⟨fun hnil => absurd hnil (some_ready hB h.lsz k (by omega) hkl), fun i hi => ?_⟩
    obtain ⟨h0, o, ho, hall⟩ := mem_ready.1 hi
    have hlt := (Array.getElem?_eq_some_iff.1 ho).1
    have hi1 : i < l1.length := by
      rcases Nat.lt_or_ge i l1.length with h1 | h1
      · exact h1
      · have := reach_listed h.cls 6 i k (fun m hm => by
          obtain ⟨o', ho', e, he, hb, rfl⟩ := waits_spec hm
          rw [ho] at ho'
          obtain rfl := Option.some.inj ho'
          exact hall e he hb) (tailB_spec hTB hlt h1 hk)
        rw [hkl] at this; cases this
    have hl0 : listed.getD i false = false := by
      have : i < listed.size := by rw [h.lsz]; exact hlt
      simp [this] at h0 ⊢; exact h0
    have hils : i < listed.size := by rw [h.lsz]; exact hlt
    have next : ∀ u w', E w w' → V i u w' → I ((listed.setIfInBounds i true).getD s false) w' → wpAny P .any ops Q (fuel + (ops.size - l1.length)) (listed.setIfInBounds i true) (a.put o.dst u) w' := fun u w' hE hV hI' =>
      ih _ _ _ (by
        have := countP_set (fun j => !listed.getD j false) (fun j => !(listed.setIfInBounds i true).getD j false) i (by simp [hl0]) (by simp only [getD_setB hils]; simp) (fun j hj => by simp only [getD_setB hils, if_neg hj]) l1.length hi1
        unfold unl at hu ⊢; omega)
        (fun j hj => by rw [getD_setB hils, if_neg (by omega)]; exact hno j hj) (h.put hB hT hM ho hi hE hV) hI'
    by_cases his : i = s
    · subst his
      have hob := (ObsS.at_ l1 0 hOb i o (by rw [hl i hi1]; exact ho)).1 (Nat.zero_add i)
      rw [Nat.zero_add] at hob
      rw [hl0] at hI
      have hob2 := hob.2 a w ⟨h.ext, hI⟩ (h.seen hB hi)
      have hw : Region.wanted o (yielded ops a.tmps) = true := by simp [Region.wanted, hob.1]
      rw [if_pos hw] at hob2
      unfold wpOp
      simp only [ho, hw, if_true]
      exact .inl (relAt.wp hob2 fun u w' hE hV => next u w' hE.1 hV (by rw [getD_setB hils, if_pos rfl]; exact hE.2))
    · have hob := (ObsS.at_ l1 0 hOb i o (by rw [hl i hi1]; exact ho)).2 (by rw [Nat.zero_add]; exact his)
      rw [Nat.zero_add] at hob
      have hob := hob a w ⟨h.ext, _, hI⟩ (h.seen hB hi)
      have hls : (listed.setIfInBounds i true).getD s false = listed.getD s false := by rw [getD_setB hils, if_neg (fun e => his e.symm)]
      unfold wpOp
      simp only [ho]
      split
      · rename_i hw
        rw [if_pos hw] at hob
        exact .inl (relAt.wp hob fun u w' hE hV => next u w' (hO _ _ _ hI hE).1 hV (by rw [hls]; exact (hO _ _ _ hI hE).2))
      · rename_i hw
        rw [if_neg hw] at hob
        exact next _ _ (hE0 w) hob (by rw [hls]; exact hI)
end
section
variable {P : Program} {ops : Array Oper} {E : World → World → Prop} {a0 : Act} {w0 : World}
theorem wp_region_fam_tailS {O : World → World → Prop} {I : Bool → World → Prop} {s : Nat} {id : Nat} {Q : Exit → Act → World → Prop} {w : World} {l1 l2 : List Oper} {n : Nat} (Vs : List (Value → World → Prop)) (ds : List (Option Tmp)) (listed : Array Bool) (hm : P.follows .mixedOrders = true) (hn : a0.tmps.size = n)
    (hB : famB (l1 ++ l2).toArray n = true) (hTB : tailB (l1 ++ l2).toArray l1.length = true) (hds : l1.map (·.dst) = ds) (hli : List.replicate l1.length true ++ List.replicate l2.length false = listed.toList)
    (hT : ∀ x y z : World, E x y → E y z → E x z) (hE0 : ∀ x, E x x) (hM : MonoL E Vs) (hO : ∀ b x y, I b x → O x y → E x y ∧ I b y) (hs : s < l1.length) (hI0 : I false w.drew)
    (hOb : ObsS P (l1 ++ l2).toArray E O I s (famV Vs) a0 w.drew 0 l1) (hQ : ∀ x w', E w.drew w' → I true w' → AllV (famV Vs) x w' 0 ds → wpAny P .any (l1 ++ l2).toArray Q l2.length listed (puts x ds a0) w') : (Code.region id (l1 ++ l2).toArray true).wp P Q a0 w := by
  subst hn
  have hle : l1.length ≤ (l1 ++ l2).toArray.size := by simp
  have hl : ∀ i, i < l1.length → l1[i]? = (l1 ++ l2).toArray[i]? := fun i hi => by simp [List.getElem?_append_left hi]
  refine wp_region_any hm ?_
  have key := wpAny_fam_tailS (E := E) (O := O) (I := I) (s := s) (V := famV Vs) (a0 := a0) (w0 := w.drew) (Q := Q) hB hTB hle hl hT hM.at_ hE0 hO hOb ?_ l1.length (Array.replicate (l1 ++ l2).toArray.size false) a0 { w with drawn := w.drawn + 1 } ?_ ?_ ?_ ?_
  · have e : l1.length + ((l1 ++ l2).toArray.size - l1.length) = (l1 ++ l2).toArray.size := by simp
    rw [e] at key
    exact key
  · intro li a w' hli' h hI
    have e1 : (l1 ++ l2).toArray.size - l1.length = l2.length := by simp
    have e2 : li = listed := by
      apply Array.ext'
      rw [← hli]
      apply List.ext_getElem?
      intro i
      have h1 := hli' i
      have hs : li.toList.length = l1.length + l2.length := by have := h.lsz; simpa using this
      by_cases hi : i < l1.length + l2.length
      · have h2 : li.toList[i]? = some (decide (i < l1.length)) := by
          have hi' : i < li.size := by rw [show li.size = l1.length + l2.length by simpa using hs]; exact hi
          simp [hi'] at h1 ⊢
          exact h1
        rw [h2]
        by_cases hi1 : i < l1.length
        · rw [List.getElem?_append_left (by simpa using hi1)]; simp [hi1]
        · rw [List.getElem?_append_right (by simpa using hi1)]
          rw [List.getElem?_replicate, if_pos (by rw [List.length_replicate]; omega)]
          simp [hi1]
      · rw [List.getElem?_eq_none (by omega), List.getElem?_eq_none (by rw [List.length_append, List.length_replicate, List.length_replicate]; omega)]
    have hw : ∀ t, (∀ j, who (l1 ++ l2).toArray t = some j → li.getD j false = false) ↔ some t ∉ ds := by
      intro t
      rw [← hds]
      constructor
      · intro hj hm
        obtain ⟨o, ho, hdo⟩ := List.mem_map.1 hm
        obtain ⟨j, hj'⟩ := List.getElem?_of_mem ho
        have hlt : j < l1.length := (List.getElem?_eq_some_iff.1 hj').1
        have := hj j (famB_dst hB (by rw [← hl j hlt]; exact hj') hdo).1
        rw [hli' j] at this
        simp [hlt] at this
      · intro hnm j hj
        rw [hli' j]
        by_cases hlt : j < l1.length
        · exfalso
          apply hnm
          have hd := who_spec hj
          unfold dstAt at hd
          rw [← hl j hlt, List.getElem?_eq_getElem hlt] at hd
          exact List.mem_map.2 ⟨l1[j], List.getElem_mem _, by simpa using hd⟩
        · simp [hlt]
    have e : a = puts (fun t => a.tmps.getD t undef) ds a0 := by
      refine act_ext (by rw [puts_defers, h.dfs]) (by rw [puts_size, h.siz]) fun s hlt => ?_
      by_cases hsd : some s ∈ ds
      · rw [puts_in _ _ _ _ hsd (by have := h.siz; omega)]
      · rw [puts_out _ _ _ _ hsd]
        exact h.no s ((hw s).2 hsd)
    rw [e1, e2, e]
    refine hQ _ _ h.ext (by rw [hli' s] at hI; simpa [hs] using hI) (AllV_of _ _ fun i t hi => ?_)
    rw [Nat.zero_add]
    rw [← hds, List.getElem?_map] at hi
    obtain ⟨o, ho, hdo⟩ := Option.map_eq_some_iff.1 hi
    have hlt : i < l1.length := (List.getElem?_eq_some_iff.1 ho).1
    refine h.yes t i (famB_dst hB (by rw [← hl i hlt]; exact ho) hdo).1 ?_
    rw [hli' i]; simp [hlt]
  · unfold unl
    rw [List.countP_eq_length.2 (fun j hj => by rw [no_list]; rfl)]
    simp
  · intro i _; rw [no_list]
  · refine ⟨hE0 _, rfl, rfl, by simp, ?_, ?_, fun _ _ => rfl⟩
    · intro i o _ hl; rw [no_list] at hl; cases hl
    · intro t j _ hl; rw [no_list] at hl; cases hl
  · rw [no_list]; exact hI0
theorem wp_region_fam_tailS_lit {O : World → World → Prop} {I : Bool → World → Prop} {id : Nat} {Q : Exit → Act → World → Prop} {w : World} {l : List Oper} {n : Nat} (s n1 m : Nat) (Vs : List (Value → World → Prop)) (ds : List (Option Tmp)) (listed : Array Bool) (hm : P.follows .mixedOrders = true) (hn : a0.tmps.size = n)
    (hB : famB l.toArray n = true) (hTB : tailB l.toArray n1 = true) (hlen : l.length = n1 + m) (hds : (l.take n1).map (·.dst) = ds) (hli : List.replicate n1 true ++ List.replicate m false = listed.toList)
    (hT : ∀ x y z : World, E x y → E y z → E x z) (hE0 : ∀ x, E x x) (hO : ∀ b x y, I b x → O x y → E x y ∧ I b y) (hs : s < n1) (hI0 : I false w.drew) (hM : MonoL E Vs)
    (hOb : ObsS P l.toArray E O I s (famV Vs) a0 w.drew 0 (l.take n1)) (hQ : ∀ x w', E w.drew w' → I true w' → AllV (famV Vs) x w' 0 ds → wpAny P .any l.toArray Q m listed (puts x ds a0) w') : (Code.region id l.toArray true).wp P Q a0 w := by
  have e : l.take n1 ++ l.drop n1 = l := List.take_append_drop n1 l
  have h1 : (l.take n1).length = n1 := by simp; omega
  have h2 : (l.drop n1).length = m := by simp; omega
  have := wp_region_fam_tailS (P := P) (E := E) (O := O) (I := I) (s := s) (a0 := a0) (id := id) (Q := Q) (w := w) (l1 := l.take n1) (l2 := l.drop n1) (n := n) Vs ds listed hm hn (by rw [e]; exact hB) (by rw [e, h1]; exact hTB) hds (by rw [h1, h2]; exact hli) hT hE0 hM hO (by rw [h1]; exact hs) hI0 (by rw [e]; exact hOb)
    (by rw [e, h2]; exact hQ)
  rwa [e] at this
end
section
end
section
variable {P : Program} {ops : Array Oper} {E O : World → World → Prop} {I : Bool → World → Prop} {s : Nat} {V : Nat → Value → World → Prop} {a0 : Act} {w0 : World}
theorem ObsS.cons {i : Nat} {j : Nat} {o : Oper} {l : List Oper} (hj : i + 1 = j) (hs : i ≠ s) (h : ObS P ops (fun w => E w0 w ∧ ∃ b, I b w) O V a0 i o) (hl : ObsS P ops E O I s V a0 w0 j l) : ObsS P ops E O I s V a0 w0 i (o :: l) := by
  subst hj; exact ⟨⟨fun e => absurd e hs, fun _ => h⟩, hl⟩
theorem ObsS.here {i : Nat} {j : Nat} {o : Oper} {l : List Oper} (hj : i + 1 = j) (hs : i = s) (hg : o.guard = none) (h : ObS P ops (fun w => E w0 w ∧ I false w) (fun x y => E x y ∧ I true y) V a0 i o) (hl : ObsS P ops E O I s V a0 w0 j l) : ObsS P ops E O I s V a0 w0 i (o :: l) := by
  subst hj; exact ⟨⟨fun _ => ⟨hg, h⟩, fun e => absurd hs e⟩, hl⟩
theorem ObS.free {E1 : World → Prop} {E2 : World → World → Prop} {i : Nat} {o : Oper} (l : List (Tmp × Option Nat)) (hs : sees ops i = l) (R : Value → World → Prop) (hR : V i = R) (hg : o.guard = none)
    (h : ∀ a w, E1 w → Seen V a0 a w l → relAt P o a E2 w R) : ObS P ops E1 E2 V a0 i o := by
  subst hs; subst hR
  intro a w hE hL
  have hw : Region.wanted o (yielded ops a.tmps) = true := by simp [Region.wanted, hg]
  rw [if_pos hw]
  exact h a w hE hL
end
end Go.Proofs.Ytbefndibkpjgaaa
