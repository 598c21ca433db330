/- Several texts in one: Lead9, Mat, MatS. -/
import Derived.Test.YtmkgipoljbiocaaTw11
import Derived.Test.YtmkgipoljbiocaaTw3
import Derived.Deep.OwnRows
import Derived.Test.YtmkgipoljbiocaaTw1
/- From place to place of a word: matrices of an expression's words. -/
namespace Go.Proofs.Ytmkgipoljbiocaa
set_option linter.unusedVariables false
/-- The part of a word from a place to a place. -/
def seg (w : List UInt8) (p q : Nat) : List UInt8 := (w.drop p).take (q - p)
theorem seg_len {w : List UInt8} {p q : Nat} (hq : q ≤ w.length) : (seg w p q).length = q - p := by
  unfold seg; rw [List.length_take, List.length_drop]; omega
theorem seg_self (w : List UInt8) (p : Nat) : seg w p p = [] := by unfold seg; rw [Nat.sub_self]; rfl
theorem seg_one {w : List UInt8} {p : Nat} {c : UInt8} (h : w[p]? = some c) : seg w p (p + 1) = [c] := by
  obtain ⟨hp, rfl⟩ := List.getElem?_eq_some_iff.1 h
  unfold seg
  rw [List.drop_eq_getElem_cons hp, Nat.add_sub_cancel_left]; rfl
theorem seg_cat {w : List UInt8} {p k q : Nat} (h1 : p ≤ k) (h2 : k ≤ q) : seg w p k ++ seg w k q = seg w p q := by
  unfold seg
  have e1 : q - p = (k - p) + (q - k) := by omega
  rw [e1, List.take_add, List.drop_drop, show p + (k - p) = k by omega]
theorem seg_split {w : List UInt8} {p q : Nat} (hpq : p ≤ q) (hq : q ≤ w.length) {u v : List UInt8} (h : seg w p q = u ++ v) : p + u.length ≤ q ∧ seg w p (p + u.length) = u ∧ seg w (p + u.length) q = v := by
  have hl := seg_len (w := w) (p := p) hq
  rw [h, List.length_append] at hl
  have h1 : p + u.length ≤ q := by omega
  have h2 := seg_cat (w := w) (p := p) (k := p + u.length) (q := q) (by omega) h1
  rw [h] at h2
  have hl2 : (seg w p (p + u.length)).length = u.length := by rw [seg_len (by omega)]; omega
  obtain ⟨a, b⟩ := List.append_inj h2 hl2
  exact ⟨h1, a, b⟩
theorem seg_all (w : List UInt8) : seg w 0 w.length = w := by unfold seg; simp
/-! ## Matrices. -/
abbrev Mx := Nat → Nat → Bool
def setM (S : Nat → Bool) (w : List UInt8) : Mx := fun p q => decide (q = p + 1) && (match w[p]? with | some c => S c.toNat | none => false)
def sameM : Mx := fun p q => decide (p = q)
def bothM (a b : Mx) : Mx := fun p q => a p q || b p q
def behM (n : Nat) (a b : Mx) : Mx := fun p q => (List.range (n + 1)).any fun k => (decide (p ≤ k) && decide (k ≤ q)) && (a p k && b k q)
def agM (n : Nat) (a : Mx) : Nat → Mx
  | 0 => a
  | r + 1 => bothM (agM n a r) (behM n (agM n a r) (agM n a r))
/-- A matrix tells which parts of a word are words of a language. -/
def LM (L : List UInt8 → Prop) (w : List UInt8) (f : Mx) : Prop := ∀ p q, p ≤ w.length → q ≤ w.length → (f p q = true ↔ p ≤ q ∧ L (seg w p q))
theorem LM.congr {L L' : List UInt8 → Prop} {w : List UInt8} {f : Mx} (h : LM L w f) (e : ∀ u, u.length ≤ w.length → (L u ↔ L' u)) : LM L' w f := fun p q hp hq => by
  rw [h p q hp hq, e _ (by rw [seg_len hq]; omega)]
theorem lm_set (S : Nat → Bool) (w : List UInt8) : LM (inT (.set S)) w (setM S w) := fun p q hp hq => by
  unfold setM
  simp only [Bool.and_eq_true, decide_eq_true_eq, inT]
  constructor
  · rintro ⟨rfl, h⟩
    have hp : p < w.length := by omega
    rw [List.getElem?_eq_getElem hp] at h
    exact ⟨by omega, w[p], seg_one (List.getElem?_eq_getElem hp), h⟩
  · rintro ⟨h, c, e, hc⟩
    have hl := seg_len (w := w) (p := p) hq
    rw [e] at hl
    simp at hl
    have hq2 : q = p + 1 := by omega
    subst hq2
    have hp : p < w.length := by omega
    rw [seg_one (List.getElem?_eq_getElem hp)] at e
    simp only [List.cons.injEq, and_true] at e
    rw [List.getElem?_eq_getElem hp]
    exact ⟨rfl, by rw [e]; exact hc⟩
theorem lm_same (w : List UInt8) : LM (fun u => u = []) w sameM := fun p q hp hq => by
  unfold sameM
  rw [decide_eq_true_eq]
  constructor
  · rintro rfl; exact ⟨Nat.le_refl _, seg_self w p⟩
  · rintro ⟨h, e⟩
    have hl := seg_len (w := w) (p := p) hq
    rw [e] at hl; simp at hl; omega
theorem lm_both {A B : List UInt8 → Prop} {w : List UInt8} {a b : Mx} (ha : LM A w a) (hb : LM B w b) : LM (fun u => A u ∨ B u) w (bothM a b) := fun p q hp hq => by
  unfold bothM
  rw [Bool.or_eq_true, ha p q hp hq, hb p q hp hq]
  constructor
  · rintro (⟨h, e⟩ | ⟨h, e⟩)
    · exact ⟨h, .inl e⟩
    · exact ⟨h, .inr e⟩
  · rintro ⟨h, e | e⟩
    · exact .inl ⟨h, e⟩
    · exact .inr ⟨h, e⟩
theorem lm_beh {A B : List UInt8 → Prop} {w : List UInt8} {a b : Mx} (ha : LM A w a) (hb : LM B w b) : LM (fun x => ∃ u v, x = u ++ v ∧ A u ∧ B v) w (behM w.length a b) := fun p q hp hq => by
  unfold behM
  simp only [List.any_eq_true, List.mem_range, Bool.and_eq_true, decide_eq_true_eq]
  constructor
  · rintro ⟨k, hk, ⟨h1, h2⟩, h3, h4⟩
    refine ⟨by omega, _, _, (seg_cat h1 h2).symm, ((ha p k hp (by omega)).1 h3).2, ((hb k q (by omega) hq).1 h4).2⟩
  · rintro ⟨h, u, v, e, h3, h4⟩
    obtain ⟨e1, e2, e3⟩ := seg_split h hq e
    exact ⟨p + u.length, by omega, ⟨by omega, e1⟩, (ha _ _ hp (by omega)).2 ⟨by omega, by rw [e2]; exact h3⟩, (hb _ _ (by omega) hq).2 ⟨e1, by rw [e3]; exact h4⟩⟩
/-! ## Once and more. -/
/-- Between one and so many words, one behind the other. -/
def Up (L : List UInt8 → Prop) (m : Nat) (x : List UInt8) : Prop := ∃ l : List (List UInt8), l ≠ [] ∧ l.length ≤ m ∧ x = l.flatten ∧ ∀ y ∈ l, L y
theorem up_one (L : List UInt8 → Prop) (x : List UInt8) : Up L 1 x ↔ L x := by
  constructor
  · rintro ⟨l, h1, h2, rfl, h3⟩
    match l, h1, h2 with
    | [y], _, _ => simpa using h3 y (by simp)
    | _ :: _ :: _, _, h2 => simp at h2
  · intro h; exact ⟨[x], by simp, by simp, by simp, by simpa using h⟩
theorem up_two {L : List UInt8 → Prop} {m : Nat} (hm : 1 ≤ m) (x : List UInt8) : Up L (2 * m) x ↔ Up L m x ∨ ∃ u v, x = u ++ v ∧ Up L m u ∧ Up L m v := by
  constructor
  · rintro ⟨l, h1, h2, rfl, h3⟩
    by_cases h : l.length ≤ m
    · exact .inl ⟨l, h1, h, rfl, h3⟩
    · refine .inr ⟨(l.take m).flatten, (l.drop m).flatten, ?_, ⟨l.take m, ?_, ?_, rfl, fun y hy => h3 y (List.mem_of_mem_take hy)⟩, ⟨l.drop m, ?_, ?_, rfl, fun y hy => h3 y (List.mem_of_mem_drop hy)⟩⟩
      · rw [← List.flatten_append, List.take_append_drop]
      · intro e; have h9 : (l.take m).length = 0 := by rw [e]; rfl
        rw [List.length_take] at h9; omega
      · rw [List.length_take]; omega
      · intro e; have h9 : (l.drop m).length = 0 := by rw [e]; rfl
        rw [List.length_drop] at h9; omega
      · rw [List.length_drop]; omega
  · rintro (⟨l, h1, h2, e, h3⟩ | ⟨u, v, rfl, ⟨l, h1, h2, rfl, h3⟩, ⟨l', h1', h2', rfl, h3'⟩⟩)
    · exact ⟨l, h1, by omega, e, h3⟩
    · refine ⟨l ++ l', by simp [h1], by simp; omega, by simp, fun y hy => ?_⟩
      rcases List.mem_append.1 hy with hy | hy
      · exact h3 y hy
      · exact h3' y hy
theorem rep_list {L : List UInt8 → Prop} {x : List UInt8} : Rep L x ↔ ∃ l : List (List UInt8), x = l.flatten ∧ ∀ y ∈ l, L y := by
  constructor
  · intro h
    induction h with
    | nil => exact ⟨[], rfl, fun y hy => by cases hy⟩
    | cons u v hu _ ih =>
      obtain ⟨l, rfl, h⟩ := ih
      exact ⟨u :: l, rfl, fun y hy => by rcases List.mem_cons.1 hy with rfl | hy; exact hu; exact h y hy⟩
  · rintro ⟨l, rfl, h⟩
    induction l with
    | nil => exact .nil
    | cons u l ih => exact .cons u l.flatten (h u (.head _)) (ih fun y hy => h y (.tail _ hy))
theorem flat_ne_len : ∀ (l : List (List UInt8)), (∀ y ∈ l, y ≠ []) → l.length ≤ l.flatten.length
  | [], _ => by simp
  | y :: l, h => by
    have h1 := flat_ne_len l fun z hz => h z (.tail _ hz)
    have h2 : 0 < y.length := List.length_pos_iff.2 (h y (.head _))
    simp only [List.flatten_cons, List.length_append, List.length_cons]; omega
theorem flat_filter : ∀ (l : List (List UInt8)), (l.filter fun y => !y.isEmpty).flatten = l.flatten
  | [] => rfl
  | y :: l => by
    cases y with
    | nil => simp [flat_filter l]
    | cons c y => simp [flat_filter l]
/-- As often as there are bytes, or once, is often enough. -/
theorem up_enough {L : List UInt8 → Prop} {m : Nat} {x : List UInt8} (hm : x.length < m) : Up L m x ↔ ∃ u v, x = u ++ v ∧ L u ∧ Rep L v := by
  constructor
  · rintro ⟨l, h1, h2, rfl, h3⟩
    cases l with
    | nil => exact absurd rfl h1
    | cons u l => exact ⟨u, l.flatten, rfl, h3 u (.head _), rep_list.2 ⟨l, rfl, fun y hy => h3 y (.tail _ hy)⟩⟩
  · rintro ⟨u, v, rfl, hu, hv⟩
    obtain ⟨l, rfl, hl⟩ := rep_list.1 hv
    by_cases he : u ++ l.flatten = []
    · obtain ⟨rfl, e⟩ := List.append_eq_nil_iff.1 he
      exact ⟨[[]], by simp, by simp at hm ⊢; omega, by simp [e], by simpa using hu⟩
    · have hall : ∀ y ∈ (u :: l), L y := fun y hy => by rcases List.mem_cons.1 hy with rfl | hy; exact hu; exact hl y hy
      have e : ((u :: l).filter fun y => !y.isEmpty).flatten = u ++ l.flatten := flat_filter (u :: l)
      refine ⟨(u :: l).filter fun y => !y.isEmpty, fun h => he (by rw [← e, h]; rfl), ?_, e.symm, fun y hy => hall y (List.mem_filter.1 hy).1⟩
      have := flat_ne_len ((u :: l).filter fun y => !y.isEmpty) fun y hy h => by
        have := (List.mem_filter.1 hy).2
        rw [h] at this; simp at this
      rw [e] at this; omega
theorem lm_ag {L : List UInt8 → Prop} {w : List UInt8} {a : Mx} (ha : LM L w a) : ∀ r, LM (Up L (2 ^ r)) w (agM w.length a r) := by
  intro r
  induction r with
  | zero => exact ha.congr fun u _ => (up_one L u).symm
  | succ r ih =>
    refine (lm_both ih (lm_beh ih ih)).congr fun u _ => ?_
    rw [show 2 ^ (r + 1) = 2 * 2 ^ r by rw [Nat.pow_succ]; omega, up_two (Nat.one_le_two_pow)]
theorem lm_plus {T : RxT} {w : List UInt8} {a : Mx} (ha : LM (inT T) w a) {r : Nat} (hr : w.length + 1 < 2 ^ r) : LM (inT (.plus T)) w (agM w.length a r) :=
  (lm_ag ha r).congr fun u hu => up_enough (by omega)
theorem lm_star {T : RxT} {w : List UInt8} {a : Mx} (ha : LM (inT T) w a) {r : Nat} (hr : w.length + 1 < 2 ^ r) : LM (inT (.star T)) w (bothM sameM (agM w.length a r)) :=
  (lm_both (lm_same w) (lm_plus ha hr)).congr fun u _ => by
    simp only [inT]
    constructor
    · rintro (rfl | ⟨x, y, rfl, h1, h2⟩)
      · exact .nil
      · exact .cons x y h1 h2
    · intro h
      cases h with
      | nil => exact .inl rfl
      | cons x y h1 h2 => exact .inr ⟨x, y, rfl, h1, h2⟩
theorem lm_opt {T : RxT} {w : List UInt8} {a : Mx} (ha : LM (inT T) w a) : LM (inT (.opt T)) w (bothM sameM a) := (lm_both (lm_same w) ha).congr fun u _ => Iff.rfl
theorem lm_alt {A B : RxT} {w : List UInt8} {a b : Mx} (ha : LM (inT A) w a) (hb : LM (inT B) w b) : LM (inT (.alt A B)) w (bothM a b) := (lm_both ha hb).congr fun u _ => Iff.rfl
theorem lm_cat {A B : RxT} {w : List UInt8} {a b : Mx} (ha : LM (inT A) w a) (hb : LM (inT B) w b) : LM (inT (.cat A B)) w (behM w.length a b) := (lm_beh ha hb).congr fun u _ => Iff.rfl
theorem lm_empty (w : List UInt8) : LM (inT .empty) w sameM := (lm_same w).congr fun u _ => Iff.rfl
/-! ## Steps, one behind the other, over a stack of parts. -/
def stepT (r : Rx) (st : List RxT) : Option (List RxT) :=
  if r.k = 1 then some (.set r.s :: st) else if r.k = 2 then some (.empty :: st)
  else if r.k = 3 then (match st with | b :: a :: t => some (.cat a b :: t) | _ => none)
  else if r.k = 4 then (match st with | b :: a :: t => some (.alt a b :: t) | _ => none)
  else if r.k = 5 then (match st with | a :: t => some (.star a :: t) | _ => none)
  else if r.k = 6 then (match st with | a :: t => some (.plus a :: t) | _ => none)
  else if r.k = 7 then (match st with | a :: t => some (.opt a :: t) | _ => none) else none
def evT : List Rx → List RxT → Option (List RxT)
  | [], st => some st
  | r :: l, st => match stepT r st with | some st' => evT l st' | none => none
theorem ev_post (T : RxT) : ∀ (rest : List Rx) (st : List RxT), evT (post T ++ rest) st = evT rest (T :: st) := by
  induction T with
  | set S => intro rest st; rfl
  | empty => intro rest st; rfl
  | cat a b iha ihb => intro rest st; simp only [post, List.append_assoc]; rw [iha, ihb]; rfl
  | alt a b iha ihb => intro rest st; simp only [post, List.append_assoc]; rw [iha, ihb]; rfl
  | star a iha => intro rest st; simp only [post, List.append_assoc]; rw [iha]; rfl
  | plus a iha => intro rest st; simp only [post, List.append_assoc]; rw [iha]; rfl
  | opt a iha => intro rest st; simp only [post, List.append_assoc]; rw [iha]; rfl
theorem ev_all (T : RxT) : evT (post T) [] = some [T] := by have := ev_post T [] []; rwa [List.append_nil] at this
/-- The seven ways of a step. -/
inductive StepW : Rx → List RxT → List RxT → Prop where
  | set (S : Nat → Bool) (st) : StepW ⟨1, S⟩ st (.set S :: st)
  | empty (S) (st) : StepW ⟨2, S⟩ st (.empty :: st)
  | cat (S) (a b : RxT) (st) : StepW ⟨3, S⟩ (b :: a :: st) (.cat a b :: st)
  | alt (S) (a b : RxT) (st) : StepW ⟨4, S⟩ (b :: a :: st) (.alt a b :: st)
  | star (S) (a : RxT) (st) : StepW ⟨5, S⟩ (a :: st) (.star a :: st)
  | plus (S) (a : RxT) (st) : StepW ⟨6, S⟩ (a :: st) (.plus a :: st)
  | opt (S) (a : RxT) (st) : StepW ⟨7, S⟩ (a :: st) (.opt a :: st)
theorem stepW {r : Rx} {st st' : List RxT} (h : stepT r st = some st') : StepW r st st' := by
  obtain ⟨k, S⟩ := r
  unfold stepT at h
  simp only at h
  split at h
  · rename_i e; cases e; cases h; exact .set _ _
  split at h
  · rename_i e; cases e; cases h; exact .empty _ _
  split at h
  · rename_i e; cases e
    split at h
    · cases h; exact .cat _ _ _ _
    · cases h
  split at h
  · rename_i e; cases e
    split at h
    · cases h; exact .alt _ _ _ _
    · cases h
  split at h
  · rename_i e; cases e
    split at h
    · cases h; exact .star _ _ _
    · cases h
  split at h
  · rename_i e; cases e
    split at h
    · cases h; exact .plus _ _ _
    · cases h
  split at h
  · rename_i e; cases e
    split at h
    · cases h; exact .opt _ _ _
    · cases h
  · cases h
theorem ev_cons {r : Rx} {l : List Rx} {st : List RxT} {T : RxT} (h : evT (r :: l) st = some [T]) : ∃ st', StepW r st st' ∧ evT l st' = some [T] := by
  simp only [evT] at h
  split at h
  · rename_i st' e; exact ⟨st', stepW e, h⟩
  · cases h
end Go.Proofs.Ytmkgipoljbiocaa
/- Matrices of truths, in rows of their own: how they lie; the document's none, same. -/
namespace Go.Proofs.Ytmkgipoljbiocaa
open Go.RowKit
set_option linter.unusedVariables false
set_option linter.unusedSimpArgs false

theorem infoBools : (Try.prog.info? 24).map (fun i => (i.zero, i.size, i.bytes)) = some (some (.slice none 0 0), 1, 24) := by kernel_rfl
theorem infoBool9 : (Try.prog.info? 4).map (fun i => (i.zero, i.size, i.bytes)) = some (some (.bool false), 1, 1) := by kernel_rfl
/-- The cells of a row of a matrix. -/
def rowA (m : Nat) (f : Mx) (p : Nat) : Array Value := ((List.range m).map fun q => Value.bool (f p q)).toArray
theorem rowA_at (m : Nat) (f : Mx) (p q : Nat) (h : q < m) : (rowA m f p)[q]? = some (.bool (f p q)) := by
  unfold rowA; simp [h]
theorem rowA_size (m : Nat) (f : Mx) (p : Nat) : (rowA m f p).size = m := by simp [rowA]
theorem rowA_ext {m : Nat} {f f' : Mx} {p : Nat} (h : ∀ q, q < m → f p q = f' p q) : rowA m f p = rowA m f' p := by
  unfold rowA
  congr 1
  refine List.map_congr_left fun q hq => ?_
  rw [h q (List.mem_range.1 hq)]
def updM (f : Mx) (p q : Nat) (v : Bool) : Mx := fun p' q' => if p' = p ∧ q' = q then v else f p' q'
theorem rowA_set {m : Nat} {f : Mx} {p q : Nat} (v : Bool) (hq : q < m) : (rowA m f p).setIfInBounds q (.bool v) = rowA m (updM f p q v) p := by
  apply Array.ext
  · rw [Array.size_setIfInBounds, rowA_size, rowA_size]
  · intro i h1 h2
    have hi : i < m := by rwa [rowA_size] at h2
    have e := rowA_at m (updM f p q v) p i hi
    have e2 : ((rowA m f p).setIfInBounds q (.bool v))[i]? = (rowA m (updM f p q v) p)[i]? := by
      rw [e]
      by_cases hiq : q = i
      · subst hiq
        rw [Array.getElem?_setIfInBounds_self_of_lt (by rw [rowA_size]; exact hq)]
        simp [updM]
      · rw [Array.getElem?_setIfInBounds_ne hiq, rowA_at m f p i hi]
        unfold updM
        rw [if_neg (fun h => hiq h.2.symm)]
    rw [Array.getElem?_eq_getElem h1, Array.getElem?_eq_getElem h2] at e2
    exact Option.some.inj e2
theorem rowA_other {m : Nat} {f : Mx} {p p' q : Nat} {v : Bool} (h : p' ≠ p) : rowA m (updM f p q v) p' = rowA m f p' := rowA_ext fun q' _ => by unfold updM; rw [if_neg (fun e => h e.1)]
theorem rowA_made (m p : Nat) : madeCells #[Value.bool false] m = rowA m (fun _ _ => false) p := by
  apply Array.ext'
  rw [toList_madeCells_one]
  unfold rowA
  show List.replicate m _ = (List.range m).map (fun _ => Value.bool false)
  rw [List.map_const', List.length_range]
/-- A matrix to be read. -/
def MatR (w : World) (A : Option Addr) (m : Nat) (f : Mx) : Prop :=
  ∀ p, p < m → ∃ b off rb ro c, A = some ⟨b, off, none⟩ ∧ b < w.heap.size ∧ w.cell? ⟨b, off + p, none⟩ = some (.slice (some ⟨rb, ro, none⟩) m c) ∧ rb < w.heap.size ∧ ∀ q, q < m → w.cell? ⟨rb, ro + q, none⟩ = some (.bool (f p q))
theorem MatR.below {w w' : World} {A : Option Addr} {m : Nat} {f : Mx} (h : MatR w A m f) (hb : Below w.heap.size w w') : MatR w' A m f := fun p hp => by
  obtain ⟨b, off, rb, ro, c, h1, h2, h3, h4, h5⟩ := h p hp
  exact ⟨b, off, rb, ro, c, h1, by have := hb.size; omega, (hb.cell (p := ⟨b, off + p, none⟩) h2).trans h3, by have := hb.size; omega, fun q hq => (hb.cell (p := ⟨rb, ro + q, none⟩) h4).trans (h5 q hq)⟩
theorem MatR.congr {w : World} {A : Option Addr} {m : Nat} {f f' : Mx} (h : MatR w A m f) (e : ∀ p q, p < m → q < m → f p q = f' p q) : MatR w A m f' := fun p hp => by
  obtain ⟨b, off, rb, ro, c, h1, h2, h3, h4, h5⟩ := h p hp
  exact ⟨b, off, rb, ro, c, h1, h2, h3, h4, fun q hq => by rw [← e p q hp hq]; exact h5 q hq⟩
/-- A row's slice. -/
def slB (m b : Nat) : Sl Bool := ⟨some ⟨b, 0, none⟩, m, m, []⟩
/-- Rows of a matrix, in blocks of their own. -/
structure RowsB (w : World) (B m : Nat) (bs : List Nat) (f : Mx) : Prop where
  at_ : ∀ (p b : Nat), bs[p]? = some b → B ≤ b ∧ b < w.heap.size ∧ w.heap[b]? = some (.cells (rowA m f p) 4 (0, 0))
  nd : bs.Nodup
theorem RowsB.keep {w w' : World} {B m : Nat} {bs : List Nat} {f : Mx} (h : RowsB w B m bs f) (hk : ∀ b ∈ bs, w'.heap[b]? = w.heap[b]?) (hs : w.heap.size ≤ w'.heap.size) : RowsB w' B m bs f :=
  ⟨fun p b hp => by obtain ⟨h1, h2, h3⟩ := h.at_ p b hp; exact ⟨h1, by omega, (hk b (List.mem_of_getElem? hp)).trans h3⟩, h.nd⟩
theorem RowsB.below {w w' : World} {B m : Nat} {bs : List Nat} {f : Mx} (h : RowsB w B m bs f) (hb : Below w.heap.size w w') : RowsB w' B m bs f :=
  h.keep (fun b hm => by obtain ⟨p, hp⟩ := List.getElem?_of_mem hm; exact hb.block b (h.at_ p b hp).2.1) hb.size
/-- A matrix of the call's own. -/
structure MatO (w : World) (B m : Nat) (A : Option Addr) (c : Nat) (bs : List Nat) (f : Mx) : Prop where
  len : bs.length = m
  own : w.ownsRow B 24 1 (.slice A m c) m ((bs.map (slB m)).flatMap seC)
  rows : RowsB w B m bs f
theorem MatO.below {w w' : World} {B m : Nat} {A : Option Addr} {c : Nat} {bs : List Nat} {f : Mx} (h : MatO w B m A c bs f) (hb : Below w.heap.size w w') : MatO w' B m A c bs f := ⟨h.len, ownB h.own hb, h.rows.below hb⟩
theorem MatO.congr {w : World} {B m : Nat} {A : Option Addr} {c : Nat} {bs : List Nat} {f f' : Mx} (h : MatO w B m A c bs f) (e : ∀ p q, p < m → q < m → f p q = f' p q) : MatO w B m A c bs f' :=
  ⟨h.len, h.own, ⟨fun p b hp => by
    obtain ⟨h1, h2, h3⟩ := h.rows.at_ p b hp
    have hpm : p < m := by have := (List.getElem?_eq_some_iff.1 hp).1; rw [h.len] at this; exact this
    exact ⟨h1, h2, by rw [h3, rowA_ext fun q hq => e p q hpm hq]⟩, h.rows.nd⟩⟩
theorem MatO.mono {w : World} {B B' m : Nat} {A : Option Addr} {c : Nat} {bs : List Nat} {f : Mx} (h : MatO w B m A c bs f) (hB : B' ≤ B) : MatO w B' m A c bs f :=
  ⟨h.len, own_mono h.own hB, ⟨fun p b hp => by obtain ⟨h1, h2⟩ := h.rows.at_ p b hp; exact ⟨by omega, h2⟩, h.rows.nd⟩⟩
/-- A row's cells. -/
theorem MatO.cells {w : World} {B m : Nat} {A : Option Addr} {c : Nat} {bs : List Nat} {f : Mx} (h : MatO w B m A c bs f) {p : Nat} (hp : p < m) :
    ∃ g b, A = some ⟨g, 0, none⟩ ∧ bs[p]? = some b ∧ B ≤ g ∧ g < w.heap.size ∧ B ≤ b ∧ b < w.heap.size ∧ w.cell? ⟨g, p, none⟩ = some (.slice (some ⟨b, 0, none⟩) m m) ∧ (∀ q, q < m → w.cell? ⟨b, q, none⟩ = some (.bool (f p q))) ∧ ∀ q, w.frozen? ⟨b, q, none⟩ = false := by
  obtain ⟨g, hA, hBg, hgs, hc⟩ := own_at h.own (by omega)
  have hpl : p < bs.length := by rw [h.len]; exact hp
  have hb : bs[p]? = some bs[p] := List.getElem?_eq_getElem hpl
  obtain ⟨h1, h2, h3⟩ := h.rows.at_ p _ hb
  refine ⟨g, bs[p], hA, hb, hBg, hgs, h1, h2, ?_, fun q hq => ?_, fun q => frozen_of_row w _ q _ _ h3⟩
  · have hm : (bs.map (slB m))[p]? = some (slB m bs[p]) := by rw [List.getElem?_map, hb]; rfl
    have := flat_get (C := seC (α := Bool)) seC_len _ p _ hm 0 _ rfl
    have := hc (p * 1 + 0) _ this
    rw [Nat.mul_one, Nat.add_zero] at this
    exact this
  · rw [cell_of_row w _ q _ _ _ h3, rowA_at m f p q hq]
theorem MatO.read {w : World} {B m : Nat} {A : Option Addr} {c : Nat} {bs : List Nat} {f : Mx} (h : MatO w B m A c bs f) : MatR w A m f := fun p hp => by
  obtain ⟨g, b, h1, _, _, h2, _, h3, h4, h5, _⟩ := h.cells hp
  exact ⟨g, 0, b, 0, m, h1, h2, by rw [Nat.zero_add]; exact h4, h3, fun q hq => by rw [Nat.zero_add]; exact h5 q hq⟩
/-- One truth written. -/
theorem MatO.set {w : World} {B m : Nat} {A : Option Addr} {c : Nat} {bs : List Nat} {f : Mx} (h : MatO w B m A c bs f) {p q b : Nat} (hb : bs[p]? = some b) (hq : q < m) (v : Bool) : MatO (w.setCell ⟨b, q, none⟩ (.bool v)) B m A c bs (updM f p q v) := by
  obtain ⟨h1, h2, h3⟩ := h.rows.at_ p b hb
  refine ⟨h.len, own_keep h.own fun k cur hk hc => ?_, ⟨fun p' b' hp' => ?_, h.rows.nd⟩⟩
  · refine heap_setCell_other w ⟨b, q, none⟩ k _ fun e => ?_
    have e : k = b := e
    subst e
    have := h3.symm.trans hc
    have := Option.some.inj this
    injection this with _ h5 _
    exact absurd h5 (by decide)
  · obtain ⟨k1, k2, k3⟩ := h.rows.at_ p' b' hp'
    refine ⟨k1, by simpa using k2, ?_⟩
    by_cases e : p' = p
    · subst e
      have e2 : b' = b := by rw [hb] at hp'; exact (Option.some.inj hp').symm
      subst e2
      rw [heap_setCell_same w b' q _ _ _ h3, rowA_set v hq]
    · have hne : b' ≠ b := fun e2 => by
        subst e2
        have l1 := (List.getElem?_eq_some_iff.1 hb).1
        have l2 := (List.getElem?_eq_some_iff.1 hp').1
        exact e ((List.getElem_inj (h₀ := l2) (h₁ := l1) h.rows.nd).1 (by
          have a1 := (List.getElem?_eq_some_iff.1 hb).2
          have a2 := (List.getElem?_eq_some_iff.1 hp').2
          rw [a1, a2]))
      rw [heap_setCell_other w ⟨b, q, none⟩ b' _ hne, k3, rowA_other e]
theorem MatO.set_below {w : World} {B m : Nat} {A : Option Addr} {c : Nat} {bs : List Nat} {f : Mx} (h : MatO w B m A c bs f) {p b : Nat} (hb : bs[p]? = some b) (q : Nat) (v : Value) : Below B w (w.setCell ⟨b, q, none⟩ v) :=
  (Below.refl B w).setCell (p := ⟨b, q, none⟩) (h.rows.at_ p b hb).1 v
/-- A matrix is handed out. -/
def GivM (w : World) (m : Nat) (f : Mx) (e : Ending) (w' : World) : Prop := ∃ A c, e = .returned (.slice A m c) ∧ MatR w' A m f ∧ Below w.heap.size w w'
theorem GivM.mk {w w' : World} {m : Nat} {f : Mx} {A : Option Addr} {c : Nat} (h : MatR w' A m f) (hb : Below w.heap.size w w') : GivM w m f (.returned (.slice A m c)) w' := ⟨A, c, rfl, h, hb⟩
/-- A matrix of the call's own is handed out. -/
def GivO (w : World) (m : Nat) (f : Mx) (e : Ending) (w' : World) : Prop := ∃ A c bs, e = .returned (.slice A m c) ∧ MatO w' w.heap.size m A c bs f ∧ Below w.heap.size w w'
theorem GivO.mk {w w' : World} {m : Nat} {f : Mx} {A : Option Addr} {c : Nat} {bs : List Nat} (h : MatO w' w.heap.size m A c bs f) (hb : Below w.heap.size w w') : GivO w m f (.returned (.slice A m c)) w' := ⟨A, c, bs, rfl, h, hb⟩
set_option maxHeartbeats 1000000 in
theorem none9_any (w : World) (s : ByteArray) (m : Nat) (hm : (s.size : Int) + 1 = (m : Int)) (hn : s.size ≤ 1000) :
    Calls Try.prog 89 #[.string s] w fun e w' => GivO w m (fun _ _ => false) e w' := by
  obtain ⟨g, hg⟩ : ∃ g, w.heap.size = g := ⟨_, rfl⟩
  have HG := Lib.hid hg
  have HB0 := Lib.hid (show Below g w (w.alloc (.cells #[] 24)) by rw [← hg]; exact (Below.refl _ _).alloc (Nat.le_refl _) _)
  have HO0 := Lib.hid (own_zero w g 24 1 (by omega))
  obtain ⟨i0, hi, hz0, hz1, hz2⟩ := info_parts infoBool9
  clear hg
  go_enter Try.func89, Try.ntmps89
  go_wp2
  go_loopw [3, 4] (fun u i wr => ∃ (bs : List Nat) (k : Nat), k ≤ m ∧ bs.length = k ∧ i = .int .i64 (k : Int) ∧ wr.ownsRow g 24 1 u k ((bs.map (slB m)).flatMap seC) ∧ RowsB wr g m bs (fun _ _ => false) ∧ Below g w wr) (fun _ i _ => m - (intOf i).toNat)
  case atStart => exact ⟨[], 0, by omega, rfl, rfl, by simpa using HO0.out, ⟨fun p b h => by simp at h, by simp⟩, HB0.out⟩
  case round =>
    obtain ⟨bs, k, hk, hlen, rfl, hown, hrows, hb⟩ := hrel
    clear HO0 HB0
    have HF := Lib.hid (own_form hown)
    have HOW := Lib.hid hown
    have HRW := Lib.hid hrows
    have HB := Lib.hid hb
    have HLEN := Lib.hid hlen
    have hgl : g ≤ wr.heap.size := by have := HG.out; have := hb.size; omega
    clear hown hb hrows hlen
    obtain ⟨A, cc, rfl, hle, hcc⟩ := HF.out
    clear HF
    by_cases hlt : k < m
    · have h1 : (k : Int) ≤ (s.size : Int) := by omega
      have HW1 := Lib.hid (HOW.out.alloc (.cells (madeCells #[Value.bool false] m) 4))
      have HAP := Lib.hid (app_el (P := Try.prog) (C := seC (α := Bool)) (T := 91) (by decide) seC_len seC_one Try.underlying91 infoBools rfl HW1.out (slB m wr.heap.size) (by unfold maxLen; omega) (by omega) (by simp; omega) (wr.heap.size + 1) (by simp) #[.slice (some ⟨wr.heap.size, 0, none⟩) m m] rfl)
      have HBA := Lib.hid (HB.out.alloc hgl (.cells (madeCells #[Value.bool false] m) 4))
      go_wp2_with (first
        | (at_make; refine wpList_make_row wr rfl _ _ 24 rfl 4 i0 (.bool false) Try.underlying24 hi hz0 hz1 rfl .i64 .i64 m rfl rfl (by rw [hz2]; omega) (by omega) ?_)
        | (at_builtin; refine HAP.out _ _ _ _ _ rfl _ _ rfl rfl rfl ?_; intro gg cap w3 hown1 hgrow hat; have HW := Lib.hid hown1; have HGR := Lib.hid hgrow; have HB3 := Lib.hid (below_grown (HBA.out.alloc (by simp; omega) _) (by simp; omega) hgrow (fun j hj => (own_ge HW1.out hj).1)); clear hown1 hgrow hat))
      go_roundw
      case rel =>
        refine ⟨bs ++ [wr.heap.size], k + 1, by omega, by simp [HLEN.out], by go_num, by rw [List.map_append]; exact HW.out, ?_, HB3.out⟩
        have hold : ∀ b, b < wr.heap.size + 2 → (∀ cur, wr.heap[b]? ≠ some (.cells cur 24 (0, 0))) → w3.heap[b]? = ((wr.alloc (.cells (madeCells #[Value.bool false] m) 4)).alloc (.cells #[.slice (some ⟨wr.heap.size, 0, none⟩) m m] 24)).heap[b]? := fun b hb hne => by
          refine HGR.out.block b (by simp; omega) fun e => ?_
          obtain ⟨cur, hc⟩ := own_obj HOW.out e.symm
          exact hne cur hc
        have hnew : w3.heap[wr.heap.size]? = some (.cells (rowA m (fun _ _ => false) k) 4 (0, 0)) := by
          rw [hold _ (by omega) (fun cur h => by rw [Array.getElem?_eq_none (by omega)] at h; cases h), Below.heap_alloc _ _ _ (by simp), heap_alloc_new, rowA_made m k]
        have hsz : wr.heap.size + 2 ≤ w3.heap.size := by have := HGR.out.size; simpa using this
        refine ⟨fun p b hp => ?_, ?_⟩
        · by_cases hpl : p < bs.length
          · rw [List.getElem?_append_left hpl] at hp
            obtain ⟨h1, h2, h3⟩ := HRW.out.at_ p b hp
            refine ⟨h1, by omega, ?_⟩
            rw [hold b (by omega) (fun cur h => by rw [h3] at h; have := Option.some.inj h; injection this with _ h5 _; exact absurd h5 (by decide)), Below.heap_alloc _ _ _ (by simp; omega), Below.heap_alloc _ _ _ h2, h3]
          · rw [List.getElem?_append_right (by omega)] at hp
            have h0 := (List.getElem?_eq_some_iff.1 hp).1
            simp at h0
            have e : p = k := by have := HLEN.out; omega
            rw [show p - bs.length = 0 by omega] at hp
            simp only [List.getElem?_cons_zero, Option.some.injEq] at hp
            subst hp e
            exact ⟨hgl, by omega, hnew⟩
        · rw [List.nodup_append]
          refine ⟨HRW.out.nd, by simp, fun a ha b hb => ?_⟩
          rw [List.mem_singleton] at hb
          subst hb
          obtain ⟨p, hp⟩ := List.getElem?_of_mem ha
          have := (HRW.out.at_ p a hp).2.1
          omega
      case measure => simp [intOf]; omega
    · have hk2 : k = m := by omega
      have h1 : ¬ (k : Int) ≤ (s.size : Int) := by omega
      subst hk2
      go_wp2
      go_ret
      exact GivO.mk (bs := bs) (by rw [HG.out]; exact ⟨HLEN.out, HOW.out, HRW.out⟩) (by rw [HG.out]; exact HB.out)
end Go.Proofs.Ytmkgipoljbiocaa
/- Matrices of truths: the document's same, set, both, behind, again. -/
namespace Go.Proofs.Ytmkgipoljbiocaa
open Go.RowKit
set_option linter.unusedVariables false
set_option linter.unusedSimpArgs false

theorem wp_store1 {o : Oper} {a : Act} {w : World} {K : Act → World → Prop} {Q : Exit → Act → World → Prop} (x y : Operand) (ho : o.op = .store 4 x y) (p : Addr) (v : Bool) (u : Value)
    (hx : a.eval x = .pointer (some p)) (hy : a.eval y = .bool v) (hc : w.cell? p = some u) (hf : w.frozen? p = false) (h : K (a.put o.dst undef) (w.setCell p (.bool v))) : o.wp Try.prog a w K Q := by
  have cS := hc
  have fS := hf
  unfold Oper.wp execOp
  simp only [ho, hx, hy]
  go_simp
  exact h
set_option maxRecDepth 100000 in
set_option maxHeartbeats 1000000 in
theorem same9_any (w : World) (s : ByteArray) (m : Nat) (hm : (s.size : Int) + 1 = (m : Int)) (hn : s.size ≤ 1000) :
    Calls Try.prog 76 #[.string s] w fun e w' => GivM w m sameM e w' := by
  have HN := Lib.hid (none9_any w s m hm hn)
  obtain ⟨g, hg⟩ : ∃ g, w.heap.size = g := ⟨_, rfl⟩
  have HG := Lib.hid hg
  clear hg
  go_enter Try.func76, Try.ntmps76
  go_wp2_with fail
  refine HN.out.mono ?_
  rintro e w1 ⟨A, c, bs, rfl, hM, hb1⟩
  rw [HG.out] at hM hb1
  have HM := Lib.hid hM
  have HB1 := Lib.hid hb1
  clear hM hb1 HN
  go_wp2
  go_loopw [4] (fun i wr => ∃ k : Nat, k ≤ m ∧ i = .int .i64 (k : Int) ∧ MatO wr g m A c bs (fun p q => decide (p = q) && decide (p < k)) ∧ Below g w wr) (fun i _ => m - (intOf i).toNat)
  case atStart => exact ⟨0, by omega, rfl, HM.out.congr (fun p q _ _ => by simp), HB1.out⟩
  case round =>
    obtain ⟨k, hk, rfl, hM, hb⟩ := hrel
    have HM2 := Lib.hid hM
    have HB := Lib.hid hb
    clear hM hb
    by_cases hlt : k < m
    · obtain ⟨g0, b, rfl, hbk, hg0, _, hb0, hbs, c0, c1, hfz⟩ := HM2.out.cells hlt
      have c1 := c1 k hlt
      have hfz := hfz k
      have HBK := Lib.hid hbk
      have z0 : (0 : Int) ≤ (k : Int) := by omega
      have z1 : (k : Int) < (m : Int) := by omega
      have z2 : (k : Int) ≤ (s.size : Int) := by omega
      clear hbk
      go_wp2
      go_roundw
      case rel => exact ⟨k + 1, by omega, by go_num, (HM2.out.set HBK.out hlt true).congr (fun p q hp hq => by
        unfold updM
        by_cases h1 : p = k ∧ q = k
        · rw [if_pos h1, h1.1, h1.2]; simp
        · rw [if_neg h1]
          by_cases h2 : p = q
          · subst h2
            have : p ≠ k := fun e => h1 ⟨e, e⟩
            have e : (p < k) = (p < k + 1) := by rw [eq_iff_iff]; omega
            simp only [e]
          · simp [h2]), HB.out.trans (HM2.out.set_below HBK.out k _)⟩
      case measure => simp [intOf]; omega
    · have hk2 : k = m := by omega
      have z2 : ¬ (k : Int) ≤ (s.size : Int) := by omega
      subst hk2
      go_wp2
      go_ret
      exact GivM.mk (HM2.out.read.congr (fun p q hp hq => by unfold sameM; simp [hp])) (by rw [HG.out]; exact HB.out)
set_option maxRecDepth 100000 in
set_option maxHeartbeats 1000000 in
theorem set9_any (w : World) (S : Nat → Bool) (s : ByteArray) (m : Nat) (hm : (s.size : Int) + 1 = (m : Int)) (hn : s.size ≤ 1000) :
    Calls Try.prog 77 #[setV S, .string s] w fun e w' => GivM w m (setM S (LS s)) e w' := by
  obtain ⟨g, hg⟩ : ∃ g, w.heap.size = g := ⟨_, rfl⟩
  have HG := Lib.hid hg
  have hhs := fun (x : UInt8) w' => refhas_any S x.toNat w' x.toNat_lt
  obtain ⟨W1, hW1⟩ : ∃ W, W = w.alloc (.cells #[.int .u64 (wd S 0), .int .u64 (wd S 1), .int .u64 (wd S 2), .int .u64 (wd S 3)] 74) := ⟨_, rfl⟩
  have hb1 : Below g w W1 := by rw [hW1, ← hg]; exact (Below.refl _ _).alloc (Nat.le_refl _) _
  have hs1 : W1.heap.size = g + 1 := by rw [hW1]; simp [hg]
  have hx1 : W1.heap[g]? = some (.cells #[.int .u64 (wd S 0), .int .u64 (wd S 1), .int .u64 (wd S 2), .int .u64 (wd S 3)] 74 (0, 0)) := by rw [hW1, ← hg]; exact heap_alloc_new w _
  have HN := Lib.hid (none9_any W1 s m hm hn)
  rw [hW1] at HN
  have HB1 := Lib.hid hb1
  have HS1 := Lib.hid hs1
  have HX1 := Lib.hid hx1
  unfold setV at hhs ⊢
  have HHAS := Lib.hid hhs
  clear hb1 hs1 hx1 hhs
  go_enter Try.func77, Try.ntmps77
  go_wp2_with fail
  refine HN.out.mono ?_
  rintro e w1 ⟨A, c, bs, rfl, hM, hb2⟩
  rw [← hW1, HS1.out] at hb2 hM
  have HM := Lib.hid hM
  have HB2 := Lib.hid hb2
  clear hM hb2 HN hW1 hg
  go_wp2
  go_loopw [6] (fun i wr => ∃ (k : Nat) (f : Mx), k < m ∧ i = .int .i64 (k : Int) ∧ MatO wr (g + 1) m A c bs f ∧ (∀ p q, p < m → q < m → f p q = (setM S (LS s) p q && decide (p < k))) ∧ Below (g + 1) W1 wr) (fun i _ => m - (intOf i).toNat)
  case atStart => exact ⟨0, _, by omega, rfl, HM.out, fun p q _ _ => by simp, HB2.out⟩
  case round =>
    obtain ⟨k, f, hk, rfl, hM, hf, hb⟩ := hrel
    have HM2 := Lib.hid hM
    have HF := Lib.hid hf
    have HB := Lib.hid hb
    clear hM hb hf
    by_cases hlt : k < s.size
    · obtain ⟨g0, b, rfl, hbk, hg0, hg0l, hb0, hbl, c0, c1, hfz⟩ := HM2.out.cells hk
      have z0 : (0 : Int) ≤ (k : Int) := by omega
      have z1 : (k : Int) < (m : Int) := by omega
      have z2 : (k : Int) < (s.size : Int) := by omega
      have z3 : (k : Int) + 1 < (m : Int) := by omega
      have c1 := c1 (k + 1) (by omega)
      have hfz := hfz (k + 1)
      have HBK := Lib.hid hbk
      have hxb := (HB.out.block g (by omega)).trans HX1.out
      have s0 : wr.cell? ⟨g, 0, none⟩ = some (.int .u64 (wd S 0)) := by rw [cell_of_row wr g _ _ _ _ hxb]; rfl
      have s1 : wr.cell? ⟨g, 1, none⟩ = some (.int .u64 (wd S 1)) := by rw [cell_of_row wr g _ _ _ _ hxb]; rfl
      have s2 : wr.cell? ⟨g, 2, none⟩ = some (.int .u64 (wd S 2)) := by rw [cell_of_row wr g _ _ _ _ hxb]; rfl
      have s3 : wr.cell? ⟨g, 3, none⟩ = some (.int .u64 (wd S 3)) := by rw [cell_of_row wr g _ _ _ _ hxb]; rfl
      have HHS := Lib.hid (HHAS.out (s[k]'hlt))
      have HSV : Hid (setM S (LS s) k (k + 1) = S (s[k]'hlt).toNat) := Lib.hid (by unfold setM; rw [LS_at s k hlt]; simp)
      obtain ⟨x8, hx8⟩ : ∃ b : Nat, (s[k]'hlt).toNat = b := ⟨_, rfl⟩
      have hbI : ((s[k]'hlt).toNat : Int) = (x8 : Int) := by rw [hx8]
      rw [hx8] at HHS HSV
      obtain ⟨v, hv⟩ : ∃ v, S x8 = v := ⟨_, rfl⟩
      rw [hv] at HHS HSV
      have z4 : decide (k < s.size) = true := decide_eq_true hlt
      have HWK : Hid (IntKind.i64.wrap ((k : Int) + 1) = (k : Int) + 1) := Lib.hid (IntWalk.i64_in _ ⟨by omega, by omega⟩)
      clear hbk hv hxb
      go_wp2_with fail
      refine wp_region_fam_tail_lit (E := Onto) 12 1
        [isV (.slice (some ⟨g0, 0, none⟩) m c),
         isV (.int .i64 (k : Int)),
         isV (.pointer (some ⟨g0, k, none⟩)),
         isV (.slice (some ⟨b, 0, none⟩) m m),
         isV (.int .i64 (k : Int)),
         isV (.int .i64 ((k : Int) + 1)),
         isV (.agg #[.int .u64 (wd S 0), .int .u64 (wd S 1), .int .u64 (wd S 2), .int .u64 (wd S 3)]),
         isV (.string s),
         isV (.int .i64 (k : Int)),
         isV (.int .u8 (x8 : Int)),
         isV (.bool v),
         isV (.pointer (some ⟨b, k + 1, none⟩))]
        [some 15, some 16, some 17, some 18, some 19, some 20, some 21, some 22, some 23, some 24, some 25, some 26] #[true, true, true, true, true, true, true, true, true, true, true, true, false] (by kernel_rfl) rfl (by kernel_rfl) (by kernel_rfl) rfl rfl rfl Onto.trans Onto.refl ?monoA ?obA ?qA
      case monoA => exact ⟨isV_mono _ _, isV_mono _ _, isV_mono _ _, isV_mono _ _, isV_mono _ _, isV_mono _ _, isV_mono _ _, isV_mono _ _, isV_mono _ _, isV_mono _ _, isV_mono _ _, isV_mono _ _, trivial⟩
      case obA =>
        refine Obs.cons (j := 1) rfl ?_ ?_
        · refine Ob.free [(5, none)] (by kernel_rfl) (isV (.slice (some ⟨g0, 0, none⟩) m c)) rfl rfl (fun a X hE hL => ?_)
          simp [Seen, slotAt] at hL
          have h5 := hL
          rw [relAt_eq]
          go_simp
          exact ⟨Onto.refl _, rfl⟩
        refine Obs.cons (j := 2) rfl ?_ ?_
        · refine Ob.free [(6, none)] (by kernel_rfl) (isV (.int .i64 (k : Int))) rfl rfl (fun a X hE hL => ?_)
          simp [Seen, slotAt] at hL
          have h6 := hL
          rw [relAt_eq]
          go_simp
          exact ⟨Onto.refl _, rfl⟩
        refine Obs.cons (j := 3) rfl ?_ ?_
        · refine Ob.free [(15, some 0), (16, some 1)] (by kernel_rfl) (isV (.pointer (some ⟨g0, k, none⟩))) rfl rfl (fun a X hE hL => ?_)
          simp [Seen, slotAt, famV, isV] at hL
          obtain ⟨h15, h16⟩ := hL
          rw [relAt_eq]
          go_simp
          exact ⟨Onto.refl _, rfl⟩
        refine Obs.cons (j := 4) rfl ?_ ?_
        · refine Ob.free [(17, some 2)] (by kernel_rfl) (isV (.slice (some ⟨b, 0, none⟩) m m)) rfl rfl (fun a X hE hL => ?_)
          simp [Seen, slotAt, famV, isV] at hL
          have h17 := hL
          rw [relAt_eq]
          have f0 := keeps hE _ _ c0
          go_simp
          exact ⟨Onto.refl _, rfl⟩
        refine Obs.cons (j := 5) rfl ?_ ?_
        · refine Ob.free [(6, none)] (by kernel_rfl) (isV (.int .i64 (k : Int))) rfl rfl (fun a X hE hL => ?_)
          simp [Seen, slotAt] at hL
          have h6 := hL
          rw [relAt_eq]
          go_simp
          exact ⟨Onto.refl _, rfl⟩
        refine Obs.cons (j := 6) rfl ?_ ?_
        · refine Ob.free [(19, some 4)] (by kernel_rfl) (isV (.int .i64 ((k : Int) + 1))) rfl rfl (fun a X hE hL => ?_)
          simp [Seen, slotAt, famV, isV] at hL
          have h19 := hL
          rw [relAt_eq]
          go_simp
          exact ⟨Onto.refl _, congrArg (Value.int .i64) HWK.out⟩
        refine Obs.cons (j := 7) rfl ?_ ?_
        · refine Ob.free [(2, none)] (by kernel_rfl) (isV (.agg #[.int .u64 (wd S 0), .int .u64 (wd S 1), .int .u64 (wd S 2), .int .u64 (wd S 3)])) rfl rfl (fun a X hE hL => ?_)
          simp [Seen, slotAt] at hL
          have h2 := hL
          rw [relAt_eq]
          have f0 := keeps hE _ _ s0; have f1 := keeps hE _ _ s1; have f2 := keeps hE _ _ s2; have f3 := keeps hE _ _ s3
          go_simp
          exact ⟨Onto.refl _, rfl⟩
        refine Obs.cons (j := 8) rfl ?_ ?_
        · refine Ob.free [(1, none)] (by kernel_rfl) (isV (.string s)) rfl rfl (fun a X hE hL => ?_)
          simp [Seen, slotAt] at hL
          have h1 := hL
          rw [relAt_eq]
          go_simp
          exact ⟨Onto.refl _, rfl⟩
        refine Obs.cons (j := 9) rfl ?_ ?_
        · refine Ob.free [(6, none)] (by kernel_rfl) (isV (.int .i64 (k : Int))) rfl rfl (fun a X hE hL => ?_)
          simp [Seen, slotAt] at hL
          have h6 := hL
          rw [relAt_eq]
          go_simp
          exact ⟨Onto.refl _, rfl⟩
        refine Obs.cons (j := 10) rfl ?_ ?_
        · refine Ob.free [(22, some 7), (23, some 8)] (by kernel_rfl) (isV (.int .u8 (x8 : Int))) rfl rfl (fun a X hE hL => ?_)
          simp [Seen, slotAt, famV, isV] at hL
          obtain ⟨h22, h23⟩ := hL
          rw [relAt_eq]
          go_simp
          exact ⟨Onto.refl _, rfl⟩
        refine Obs.cons (j := 11) rfl ?_ ?_
        · refine Ob.free [(21, some 6), (24, some 9)] (by kernel_rfl) (isV (.bool v)) rfl rfl (fun a X hE hL => ?_)
          simp [Seen, slotAt, famV, isV] at hL
          obtain ⟨h21, h24⟩ := hL
          rw [relAt_eq]
          go_simp
          rw [relUpon_enter]
          go_at_call 70
          refine (HHS.out X).mono ?_
          rintro e Y ⟨rfl, hY⟩
          exact ⟨_, rfl, hY, rfl⟩
        refine Obs.cons (j := 12) rfl ?_ ?_
        · refine Ob.free [(18, some 3), (20, some 5)] (by kernel_rfl) (isV (.pointer (some ⟨b, k + 1, none⟩))) rfl rfl (fun a X hE hL => ?_)
          simp [Seen, slotAt, famV, isV] at hL
          obtain ⟨h18, h20⟩ := hL
          rw [relAt_eq]
          go_simp
          exact ⟨Onto.refl _, rfl⟩
        exact trivial
      case qA =>
        intro x wA hE hV
        simp [AllV, famV, isV] at hV
        obtain ⟨-, -, -, -, -, -, -, -, -, -, h25, h26⟩ := hV
        simp only [puts, Act.put, List.setIfInBounds_toArray, List.set_cons_zero, List.set_cons_succ, h25, h26]
        generalize x 15 = y15
        generalize x 16 = y16
        generalize x 17 = y17
        generalize x 18 = y18
        generalize x 19 = y19
        generalize x 20 = y20
        generalize x 21 = y21
        generalize x 22 = y22
        generalize x 23 = y23
        generalize x 24 = y24
        clear h25 h26
        have hbA := onto_drew hE
        have HBA := Lib.hid hbA
        have HMA := Lib.hid (HM2.out.below hbA)
        have cA := (hbA.cell (p := ⟨b, k + 1, none⟩) hbl).trans c1
        have fA := (HMA.out.rows.at_ k b HBK.out).2.2
        clear hE hbA
        refine wpAny_ready (rs := [12]) (by kernel_rfl) (by simp) ?_
        refine AllReady.cons rfl (fun K hK => ?_) AllReady.nil
        rw [if_pos (by rfl)]
        refine wp_store1 _ _ rfl ⟨b, k + 1, none⟩ v _ rfl rfl cA (frozen_of_row wA b (k + 1) _ _ fA) ?_
        refine hK _ _ ?_
        clear hK K
        try simp only [Act.put, List.getElem_toArray, List.getElem_cons_succ, List.getElem_cons_zero, List.setIfInBounds_toArray, List.set_cons_zero, List.set_cons_succ]
        refine wpAny_done (by kernel_rfl) ?_ _
        go_wp2
        go_roundw
        case rel => exact ⟨k + 1, _, by omega, by go_num, HMA.out.set HBK.out (by omega) v, fun p q hp hq => by
          unfold updM
          by_cases h1 : p = k ∧ q = k + 1
          · rw [if_pos h1, h1.1, h1.2, HSV.out]; simp
          · rw [if_neg h1, HF.out p q hp hq]
            by_cases h2 : p = k
            · subst h2
              have : setM S (LS s) p q = false := by
                unfold setM
                have : ¬ q = p + 1 := fun e => h1 ⟨rfl, e⟩
                simp [this]
              rw [this]; rfl
            · have e : (p < k) = (p < k + 1) := by rw [eq_iff_iff]; omega
              simp only [e], (HB.out.trans (HBA.out.mono (by omega))).trans (HMA.out.set_below HBK.out _ _)⟩
        case measure => simp [intOf]; omega
    · have z2 : ¬ (k : Int) < (s.size : Int) := by omega
      have z4 : decide (k < s.size) = false := decide_eq_false hlt
      go_wp2
      go_ret
      exact GivM.mk (HM2.out.read.congr (fun p q hp hq => by
        rw [HF.out p q hp hq]
        by_cases h : p < k
        · simp [h]
        · have h2 : setM S (LS s) p q = false := by
            unfold setM
            have : ¬ q = p + 1 := by omega
            simp [this]
          rw [h2]; rfl)) (by rw [HG.out]; exact HB1.out.trans (HB.out.mono (by omega)))
end Go.Proofs.Ytmkgipoljbiocaa
