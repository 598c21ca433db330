/- Expressions that are made of others: their words; how they lie. -/
import Derived.Test.YtbefndibkpjgaaaSemP
import Derived.Test.YtbefndibkpjgaaaTw15
namespace Go.Proofs.Ytbefndibkpjgaaa
open Go.RowKit
set_option linter.unusedVariables false
set_option linter.unusedSimpArgs false

theorem badR_stp (k : Int) (h : okK k = true) : badR (stp0 k) = false := by simp [badR, stp0, h, zS_empty]
theorem wk_step {r : Rx} (rest : List Rx) (p m : Nat) (hb : badR r = false) (hp : nP r.k ≤ p) : wk (r :: rest) p m = wk rest (p + 1 - nP r.k) (max m (p + 1 - nP r.k)) := by
  rw [wk, if_neg (by rw [hb]; decide), if_neg (by omega)]
theorem wk_post (T : RxT) : ∀ (rest : List Rx) (p m : Nat), ∃ m', wk (post T ++ rest) p m = wk rest (p + 1) m' := by
  induction T with
  | set S => intro rest p m; exact ⟨_, wk_step (r := ⟨1, S⟩) rest p m (by simp [badR, okK]) (by show nP 1 ≤ p; rw [show nP 1 = 0 from rfl]; omega)⟩
  | empty => intro rest p m; exact ⟨_, wk_step (r := stp0 2) rest p m (badR_stp 2 (by decide)) (by show nP 2 ≤ p; rw [show nP 2 = 0 from rfl]; omega)⟩
  | cat a b iha ihb =>
    intro rest p m
    obtain ⟨m1, e1⟩ := iha (post b ++ ([stp0 3] ++ rest)) p m
    obtain ⟨m2, e2⟩ := ihb ([stp0 3] ++ rest) (p + 1) m1
    refine ⟨max m2 (p + 1), ?_⟩
    simp only [post, List.append_assoc]
    rw [e1, e2]
    exact wk_step (r := stp0 3) rest (p + 2) m2 (badR_stp 3 (by decide)) (by show nP 3 ≤ p + 2; unfold nP; simp)
  | alt a b iha ihb =>
    intro rest p m
    obtain ⟨m1, e1⟩ := iha (post b ++ ([stp0 4] ++ rest)) p m
    obtain ⟨m2, e2⟩ := ihb ([stp0 4] ++ rest) (p + 1) m1
    refine ⟨max m2 (p + 1), ?_⟩
    simp only [post, List.append_assoc]
    rw [e1, e2]
    exact wk_step (r := stp0 4) rest (p + 2) m2 (badR_stp 4 (by decide)) (by show nP 4 ≤ p + 2; unfold nP; simp)
  | star a iha =>
    intro rest p m
    obtain ⟨m1, e1⟩ := iha ([stp0 5] ++ rest) p m
    refine ⟨max m1 (p + 1), ?_⟩
    simp only [post, List.append_assoc]
    rw [e1]
    exact wk_step (r := stp0 5) rest (p + 1) m1 (badR_stp 5 (by decide)) (by show nP 5 ≤ p + 1; unfold nP; simp)
  | plus a iha =>
    intro rest p m
    obtain ⟨m1, e1⟩ := iha ([stp0 6] ++ rest) p m
    refine ⟨max m1 (p + 1), ?_⟩
    simp only [post, List.append_assoc]
    rw [e1]
    exact wk_step (r := stp0 6) rest (p + 1) m1 (badR_stp 6 (by decide)) (by show nP 6 ≤ p + 1; unfold nP; simp)
  | opt a iha =>
    intro rest p m
    obtain ⟨m1, e1⟩ := iha ([stp0 7] ++ rest) p m
    refine ⟨max m1 (p + 1), ?_⟩
    simp only [post, List.append_assoc]
    rw [e1]
    exact wk_step (r := stp0 7) rest (p + 1) m1 (badR_stp 7 (by decide)) (by show nP 7 ≤ p + 1; unfold nP; simp)
theorem chk_post (T : RxT) (h : (post T).length ≤ 512) : chkR (post T) = 0 := by
  obtain ⟨m, e⟩ := wk_post T [] 0 0
  rw [List.append_nil] at e
  have e2 : walkR (post T) = (1, m, 0) := by
    unfold walkR
    rw [if_neg (show ¬ 512 < (post T).length by omega), e]
    rfl
  unfold chkR
  rw [e2]
  simp
theorem saysW_some {T : RxT} {s : ByteArray} : saysW (some T) s ↔ inT T (LS s) :=
  ⟨fun ⟨T', e, h⟩ => by obtain rfl := Option.some.inj e; exact h, fun h => ⟨T, rfl, h⟩⟩
theorem LS_app (s t : ByteArray) : LS (s ++ t) = LS s ++ LS t := by
  unfold LS
  simp [ByteArray.data_append]
/-- A row that is made: an expression. -/
theorem gives_is {w : World} {rs : List Rx} {e : Ending} {w' : World} (h : Gives w rs e w') {T : RxT} (hT : rs = post T) {n : Nat} (hl : (post T).length = n) (hn : n ≤ 512) : ∃ A c, e = .returned (.slice A n c) ∧ IsRx w' A n (some T) ∧ Below w.heap.size w w' := by
  subst hT hl
  obtain ⟨v, he, ho, hb⟩ := h
  obtain ⟨A, c, rfl, _, _⟩ := own_form ho
  exact ⟨A, c, he, ⟨own_row rxC_len ho, chk_post T hn⟩, hb⟩
/-- Two rows, as a list of two. -/
theorem rrow_two (w : World) (g : Nat) (hg : w.heap.size = g) (a1 a2 : Option Addr) (n1 n2 c1 c2 : Nat) (l1 l2 : List Rx) (h1 : CRow rxC 5 w a1 n1 l1) (h2 : CRow rxC 5 w a2 n2 l2) :
    RRow (w.alloc (.cells #[.slice a1 n1 c1, .slice a2 n2 c2] 22)) (some ⟨g, 0, none⟩) 2 [⟨a1, n1, c1, l1⟩, ⟨a2, n2, c2, l2⟩] := by
  subst hg
  have hb : Below w.heap.size w (w.alloc (.cells #[.slice a1 n1 c1, .slice a2 n2 c2] 22)) := (Below.refl _ _).alloc (Nat.le_refl _) _
  refine ⟨⟨rfl, by decide, fun _ => ⟨_, 0, rfl, by simp, fun i o hi j v hv => ?_⟩⟩, fun o ho => ?_⟩
  · have h1 := flat_get slC_len [⟨a1, n1, c1, l1⟩, ⟨a2, n2, c2, l2⟩] i o hi j v hv
    rw [World.cell?_alloc_new]
    simpa [slC] using h1
  · simp only [List.mem_cons, List.not_mem_nil, or_false] at ho
    rcases ho with rfl | rfl
    · exact h1.below hb
    · exact h2.below hb
theorem alt_two (o1 o2 : Rw) (p q : RxT) (h1 : o1.rs = post p) (h2 : o2.rs = post q) : altR [o1, o2] 2 = post (.alt p q) := by
  simp [altR, behUp, h1, h2, post]
theorem cat_two (o1 o2 : Rw) (p q : RxT) (h1 : o1.rs = post p) (h2 : o2.rs = post q) : catR [o1, o2] 2 = post (.cat p q) := by
  simp [catR, behUp, h1, h2, post]
/-- What Check says of steps. -/
theorem pcheck_any {w : World} {a : Option Addr} {n : Nat} {o : Option RxT} (h : IsRx w a n o) (c : Nat) : ∃ q : Nat, (q = 0 ↔ o.isSome = true) ∧ Calls Try.prog 24 #[.slice a n c] w fun e w' => e = .returned (.int .i64 (q : Nat)) ∧ Below w.heap.size w w' := by
  cases o with
  | some T => exact ⟨chkR (post T), by rw [h.2]; simp, check_any w a n c _ h.1⟩
  | none =>
    obtain ⟨rs, h1, h2⟩ := h
    exact ⟨chkR rs, by simp [h2], check_any w a n c _ h1⟩
end Go.Proofs.Ytbefndibkpjgaaa
