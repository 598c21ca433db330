/- Words as pieces, right words: plain laws. -/
import Derived.Test.YtdffilenphglgaaWordsR
namespace Go.Proofs.Ytdffilenphglgaa
open Go.RowKit
set_option linter.unusedVariables false

def pcsA (o : WA) : List Pc := o.1 ++ if o.2.1 = -2 then [] else [⟨o.2.1, o.2.2⟩]
def piecesA (l : List WA) : List Pc := l.flatMap pcsA
theorem piecesA_take {l : List WA} {k : Nat} {o : WA} (h : l[k]? = some o) : piecesA (l.take (k + 1)) = piecesA (l.take k) ++ pcsA o := by
  unfold piecesA; rw [List.take_add_one, h]; simp
/-- Is word i of n right? -/
def okA (ts : List Tk) (n i : Nat) (o : WA) : Bool := (o.1.all fun p => trivB ts p.t) && !trivB ts o.2.1 && ((o.2.1 == -2) == decide (i + 1 = n)) && !((o.2.1 == -2) && !(o.2.2.size == 0))
def okUp (ts : List Tk) (l : List WA) (k : Nat) : Bool := (List.range k).all fun i => match l[i]? with | some o => okA ts l.length i o | none => true
def rightA (ts : List Tk) (l : List WA) : Bool := decide (0 < l.length) && okUp ts l l.length
theorem okUp_zero (ts : List Tk) (l : List WA) : okUp ts l 0 = true := rfl
theorem okUp_next {ts : List Tk} {l : List WA} {k : Nat} {o : WA} (h : l[k]? = some o) : okUp ts l (k + 1) = (okUp ts l k && okA ts l.length k o) := by
  unfold okUp; rw [List.range_succ, List.all_append]; simp [h]
theorem right_no {ts : List Tk} {l : List WA} {k : Nat} {o : WA} (h : l[k]? = some o) (hb : okA ts l.length k o = false) : rightA ts l = false := by
  unfold rightA
  rw [Bool.and_eq_false_iff]
  right
  unfold okUp
  rw [List.all_eq_false]
  exact ⟨k, List.mem_range.2 (List.getElem?_eq_some_iff.1 h).1, by simp [h, hb]⟩
theorem right_yes {ts : List Tk} {l : List WA} (h0 : 0 < l.length) (h : okUp ts l l.length = true) : rightA ts l = true := by
  unfold rightA; simp [h0, h]
theorem right_at {ts : List Tk} {l : List WA} (h : rightA ts l = true) {i : Nat} {o : WA} (hi : l[i]? = some o) : okA ts l.length i o = true := by
  unfold rightA okUp at h
  simp only [Bool.and_eq_true, decide_eq_true_eq, List.all_eq_true, List.mem_range] at h
  have := h.2 i (List.getElem?_eq_some_iff.1 hi).1
  simpa [hi] using this
theorem triv_neg (ts : List Tk) {t : Int} (h : t < 0) : trivB ts t = false := by unfold trivB; rw [cl_neg h]; rfl

theorem stp_inv (ts : List Tk) (ps : List Pc) (h : ∀ p ∈ ps, p.t ≠ -2) : ∀ (st : List WA × List Pc), (∀ o ∈ st.1, (o.1.all fun p => trivB ts p.t) = true ∧ trivB ts o.2.1 = false ∧ o.2.1 ≠ -2) → (st.2.all fun p => trivB ts p.t) = true →
    (∀ o ∈ (ps.foldl (stp ts) st).1, (o.1.all fun p => trivB ts p.t) = true ∧ trivB ts o.2.1 = false ∧ o.2.1 ≠ -2) ∧ ((ps.foldl (stp ts) st).2.all fun p => trivB ts p.t) = true ∧ piecesA (ps.foldl (stp ts) st).1 ++ (ps.foldl (stp ts) st).2 = piecesA st.1 ++ st.2 ++ ps := by
  induction ps with
  | nil => intro st h1 h2; exact ⟨h1, h2, by simp⟩
  | cons p l ih =>
    intro st h1 h2
    rw [List.foldl_cons]
    have hl : ∀ q ∈ l, q.t ≠ -2 := fun q hq => h q (by simp [hq])
    have hp := h p (by simp)
    by_cases ht : trivB ts p.t = true
    · rw [show stp ts st p = (st.1, st.2 ++ [p]) by unfold stp; rw [if_pos ht]]
      obtain ⟨a, b, c⟩ := ih hl (st.1, st.2 ++ [p]) h1 (by simp only [List.all_append, h2, List.all_cons, ht, List.all_nil, Bool.and_true])
      exact ⟨a, b, by simpa using c⟩
    · rw [show stp ts st p = (st.1 ++ [(st.2, p.t, p.s)], []) by unfold stp; rw [if_neg ht]]
      obtain ⟨a, b, c⟩ := ih hl (st.1 ++ [(st.2, p.t, p.s)], []) (fun o ho => by
        rcases List.mem_append.1 ho with ho | ho
        · exact h1 o ho
        · obtain rfl := List.mem_singleton.1 ho
          exact ⟨h2, by simpa using ht, hp⟩) rfl
      refine ⟨a, b, ?_⟩
      refine c.trans ?_
      simp [piecesA, pcsA, hp]
/-- Pieces are got again of their words, which are right. -/
theorem words_pieces (ts : List Tk) (ps : List Pc) (h : ∀ p ∈ ps, p.t ≠ -2) : piecesA (wordsF ts ps) = ps ∧ rightA ts (wordsF ts ps) = true := by
  obtain ⟨a, b, c⟩ := stp_inv ts ps h ([], []) (by simp) rfl
  constructor
  · unfold wordsF piecesA at *
    rw [List.flatMap_append]
    simpa [pcsA, stW] using c
  · unfold wordsF rightA
    simp only [List.length_append, List.length_cons, List.length_nil, Nat.zero_add, Bool.and_eq_true, decide_eq_true_eq]
    refine ⟨by omega, ?_⟩
    unfold okUp
    rw [List.all_eq_true]
    intro i hi
    have hi := List.mem_range.1 hi
    by_cases hl : i < (stW ts ps).1.length
    · rw [List.getElem?_append_left hl, List.getElem?_eq_getElem hl]
      obtain ⟨h1, h2, h3⟩ := a _ (List.getElem_mem hl)
      have h3' : ((stW ts ps).1[i].2.1 == -2) = false := by simpa using h3
      show okA ts _ i (stW ts ps).1[i] = true
      unfold okA
      rw [show (stW ts ps).1[i].1.all (fun p => trivB ts p.t) = true from h1, show trivB ts (stW ts ps).1[i].2.1 = false from h2, h3']
      simp only [List.length_append, List.length_cons, List.length_nil]
      have : decide (i + 1 = (stW ts ps).1.length + (0 + 1)) = false := decide_eq_false (by omega)
      rw [this]; rfl
    · have hie : i = (stW ts ps).1.length := by omega
      subst hie
      rw [List.getElem?_append_right (Nat.le_refl _), Nat.sub_self]
      show okA ts _ _ ((stW ts ps).2, -2, ⟨#[]⟩) = true
      unfold okA
      rw [show (stW ts ps).2.all (fun p => trivB ts p.t) = true from b, show trivB ts ((stW ts ps).2, (-2 : Int), (⟨#[]⟩ : ByteArray)).2.1 = false from triv_neg ts (t := -2) (by decide)]
      simp
      rfl
theorem foldl_triv (ts : List Tk) (qs : List Pc) (h : (qs.all fun p => trivB ts p.t) = true) : ∀ st : List WA × List Pc, qs.foldl (stp ts) st = (st.1, st.2 ++ qs) := by
  induction qs with
  | nil => intro st; simp
  | cons p l ih =>
    intro st
    simp only [List.all_cons, Bool.and_eq_true] at h
    rw [List.foldl_cons, ih h.2]
    unfold stp
    rw [if_pos h.1]
    simp
theorem foldl_words (ts : List Tk) : ∀ (l : List WA) (st : List WA), (∀ o ∈ l, (o.1.all fun p => trivB ts p.t) = true ∧ trivB ts o.2.1 = false ∧ o.2.1 ≠ -2) → (piecesA l).foldl (stp ts) (st, []) = (st ++ l, [])
  | [], st, _ => by simp [piecesA]
  | o :: l, st, h => by
    obtain ⟨h1, h2, h3⟩ := h o (by simp)
    have e : piecesA (o :: l) = o.1 ++ (⟨o.2.1, o.2.2⟩ :: piecesA l) := by simp [piecesA, pcsA, h3]
    rw [e, List.foldl_append, foldl_triv ts _ h1, List.foldl_cons]
    have e2 : stp ts (st, [] ++ o.1) ⟨o.2.1, o.2.2⟩ = (st ++ [o], []) := by
      unfold stp
      rw [if_neg (by rw [h2]; decide)]
      simp
    rw [e2, foldl_words ts l (st ++ [o]) (fun q hq => h q (by simp [hq]))]
    simp
/-- Words that are right are got again of their pieces. -/
theorem pieces_words (ts : List Tk) (l : List WA) (h : rightA ts l = true) : wordsF ts (piecesA l) = l := by
  have h0 : 0 < l.length := by unfold rightA at h; simp at h; omega
  obtain ⟨init, x, rfl⟩ : ∃ init x, l = init ++ [x] := ⟨l.dropLast, l.getLast (by intro e; subst e; simp at h0), (List.dropLast_concat_getLast _).symm⟩
  have hin : ∀ o ∈ init, (o.1.all fun p => trivB ts p.t) = true ∧ trivB ts o.2.1 = false ∧ o.2.1 ≠ -2 := by
    intro o ho
    obtain ⟨i, hi⟩ := List.getElem?_of_mem ho
    have hil := (List.getElem?_eq_some_iff.1 hi).1
    have := right_at h (i := i) (o := o) (by rw [List.getElem?_append_left hil, hi])
    unfold okA at this
    simp only [Bool.and_eq_true, List.length_append, List.length_cons, List.length_nil] at this
    obtain ⟨⟨⟨a, b⟩, c⟩, d⟩ := this
    have hne : decide (i + 1 = init.length + (0 + 1)) = false := by simp; omega
    rw [hne] at c
    exact ⟨a, by simpa using b, by simpa using c⟩
  have hx := right_at h (i := init.length) (o := x) (by rw [List.getElem?_append_right (Nat.le_refl _)]; simp)
  unfold okA at hx
  simp only [Bool.and_eq_true, List.length_append, List.length_cons, List.length_nil] at hx
  obtain ⟨⟨⟨a, b⟩, c⟩, d⟩ := hx
  have he : x.2.1 = -2 := by simpa using c
  have hs : x.2.2 = ⟨#[]⟩ := by
    rw [he] at d
    have : x.2.2.size = 0 := by simpa using d
    rcases x with ⟨q, t, ⟨ar⟩⟩
    have : ar = #[] := Array.eq_empty_of_size_eq_zero this
    subst this; rfl
  have e : piecesA (init ++ [x]) = piecesA init ++ x.1 := by simp [piecesA, pcsA, he]
  have key : stW ts (piecesA (init ++ [x])) = (init, x.1) := by
    unfold stW
    rw [e, List.foldl_append, foldl_words ts init [] hin, foldl_triv ts _ a]
    simp
  unfold wordsF
  rw [key]
  rcases x with ⟨q, t, s⟩
  simp at he hs ⊢
  exact ⟨he.symm, hs.symm⟩
theorem stp_wlen (ts : List Tk) (ps : List Pc) : (wordsF ts ps).length ≤ ps.length + 1 := by
  unfold wordsF
  have := stW_len ts ps
  simp; omega
end Go.Proofs.Ytdffilenphglgaa
