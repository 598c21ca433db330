/- Numbering by first occurrence: plain lemmas. -/
namespace Go.Proofs.Ytglagipkpdbhcaa

section
variable {α : Type} [DecidableEq α]

/-- The first place from a on, at most f further, where p is as at b. -/
def scan (p : Nat → α) (b : Nat) : Nat → Nat → Nat
  | 0, a => a
  | f + 1, a => if p a = p b then a else scan p b f (a + 1)
theorem scan_spec (p : Nat → α) (b : Nat) : ∀ (f a : Nat), a + f = b → (a ≤ scan p b f a ∧ scan p b f a ≤ b ∧ p (scan p b f a) = p b ∧ ∀ x, a ≤ x → x < scan p b f a → p x ≠ p b)
  | 0, a, h => by
    have : a = b := by omega
    subst this
    simp only [scan]
    refine ⟨Nat.le_refl _, Nat.le_refl _, trivial, fun x h1 h2 => absurd h2 (by omega)⟩
  | f + 1, a, h => by
    simp only [scan]
    split
    · rename_i he
      exact ⟨Nat.le_refl _, by omega, he, fun x h1 h2 => absurd h2 (by omega)⟩
    · rename_i he
      obtain ⟨h1, h2, h3, h4⟩ := scan_spec p b f (a + 1) (by omega)
      refine ⟨by omega, h2, h3, fun x hx hlt => ?_⟩
      rcases Nat.lt_or_ge a x with hc | hc
      · exact h4 x (by omega) hlt
      · have : x = a := by omega
        subst this; exact he
/-- The first place where p is as at b. -/
def fi (p : Nat → α) (b : Nat) : Nat := scan p b b 0
theorem fi_le (p : Nat → α) (b : Nat) : fi p b ≤ b := (scan_spec p b b 0 (by omega)).2.1
theorem fi_eq (p : Nat → α) (b : Nat) : p (fi p b) = p b := (scan_spec p b b 0 (by omega)).2.2.1
theorem fi_first (p : Nat → α) (b x : Nat) (h : x < fi p b) : p x ≠ p b := (scan_spec p b b 0 (by omega)).2.2.2 x (by omega) h
theorem fi_unique (p : Nat → α) {a b : Nat} (h1 : p a = p b) (h2 : ∀ x, x < a → p x ≠ p b) : fi p b = a := by
  rcases Nat.lt_trichotomy (fi p b) a with h | h | h
  · exact absurd (fi_eq p b) (h2 _ h)
  · exact h
  · exact absurd h1 (fi_first p b a h)
theorem fi_same (p : Nat → α) {a b : Nat} (h : p a = p b) : fi p a = fi p b :=
  (fi_unique p ((fi_eq p b).trans h.symm) fun x hx e => fi_first p b x hx (e.trans h))

/-- Is b the first of its kind? -/
def isNew (p : Nat → α) (b : Nat) : Bool := fi p b == b
theorem isNew_iff (p : Nat → α) (b : Nat) : isNew p b = true ↔ ∀ x, x < b → p x ≠ p b := by
  unfold isNew
  rw [beq_iff_eq]
  exact ⟨fun h x hx => fi_first p b x (by omega), fun h => fi_unique p rfl h⟩
theorem isNew_fi (p : Nat → α) (b : Nat) : isNew p (fi p b) = true := by
  rw [isNew_iff]
  intro x hx e
  exact fi_first p b x hx (e.trans (fi_eq p b))
/-- How many are the first of their kind, below n. -/
def cnt (p : Nat → α) : Nat → Nat
  | 0 => 0
  | n + 1 => cnt p n + (if isNew p n then 1 else 0)
theorem cnt_le (p : Nat → α) : ∀ n, cnt p n ≤ n
  | 0 => Nat.le_refl _
  | n + 1 => by have := cnt_le p n; simp only [cnt]; split <;> omega
theorem cnt_mono (p : Nat → α) (n : Nat) : ∀ d, cnt p n ≤ cnt p (n + d)
  | 0 => Nat.le_refl _
  | d + 1 => by have := cnt_mono p n d; rw [← Nat.add_assoc]; simp only [cnt]; omega
theorem cnt_mono' (p : Nat → α) {m n : Nat} (h : m ≤ n) : cnt p m ≤ cnt p n := by
  have := cnt_mono p m (n - m); rwa [show m + (n - m) = n by omega] at this
theorem cnt_lt (p : Nat → α) {a n : Nat} (h : a < n) (hn : isNew p a = true) : cnt p a < cnt p n := by
  have h1 : cnt p (a + 1) = cnt p a + 1 := by simp [cnt, hn]
  have := cnt_mono' p (show a + 1 ≤ n by omega)
  omega
theorem cnt_surj (p : Nat → α) : ∀ n c, c < cnt p n → ∃ a, a < n ∧ isNew p a = true ∧ cnt p a = c
  | 0, c, h => by simp [cnt] at h
  | n + 1, c, h => by
    rcases Nat.lt_or_ge c (cnt p n) with hc | hc
    · obtain ⟨a, h1, h2, h3⟩ := cnt_surj p n c hc
      exact ⟨a, by omega, h2, h3⟩
    · simp only [cnt] at h
      by_cases hn : isNew p n = true
      · simp [hn] at h
        exact ⟨n, by omega, hn, by omega⟩
      · simp [hn] at h; omega
theorem cnt_inj (p : Nat → α) {a b : Nat} (ha : isNew p a = true) (hb : isNew p b = true) (h : cnt p a = cnt p b) : a = b := by
  rcases Nat.lt_trichotomy a b with hl | hl | hl
  · have := cnt_lt p hl ha; omega
  · exact hl
  · have := cnt_lt p hl hb; omega
/-- The number of b's kind. -/
def cls (p : Nat → α) (b : Nat) : Nat := cnt p (fi p b)
theorem cls_le (p : Nat → α) (b : Nat) : cls p b ≤ cnt p b := cnt_mono' p (fi_le p b)
theorem cls_lt (p : Nat → α) {b n : Nat} (h : b < n) : cls p b < cnt p n := cnt_lt p (by have := fi_le p b; omega) (isNew_fi p b)
theorem cls_le_self (p : Nat → α) (b : Nat) : cls p b ≤ b := by have := cls_le p b; have := cnt_le p b; omega
theorem cls_new (p : Nat → α) {b : Nat} (h : isNew p b = true) : cls p b = cnt p b := by unfold cls; rw [beq_iff_eq.1 h]
theorem cls_eq_iff (p : Nat → α) (a b : Nat) : cls p a = cls p b ↔ p a = p b := by
  constructor
  · intro h
    have := cnt_inj p (isNew_fi p a) (isNew_fi p b) h
    rw [← fi_eq p a, ← fi_eq p b, this]
  · intro h; unfold cls; rw [fi_same p h]
theorem cls_surj (p : Nat → α) (n c : Nat) (h : c < cnt p n) : ∃ a, a < n ∧ isNew p a = true ∧ cls p a = c := by
  obtain ⟨a, h1, h2, h3⟩ := cnt_surj p n c h
  exact ⟨a, h1, h2, by rw [cls_new p h2, h3]⟩
end

section
variable {α β : Type} [DecidableEq α] [DecidableEq β]
theorem fi_congr {p : Nat → α} {q : Nat → β} {N : Nat} (h : ∀ a b, a < N → b < N → (p a = p b ↔ q a = q b)) {b : Nat} (hb : b < N) : fi p b = fi q b := by
  have h1 := fi_le q b
  refine fi_unique p ((h _ _ (by omega) hb).2 (fi_eq q b)) fun x hx e => ?_
  exact fi_first q b x hx ((h _ _ (by omega) hb).1 e)
theorem cnt_congr {p : Nat → α} {q : Nat → β} {N : Nat} (h : ∀ a b, a < N → b < N → (p a = p b ↔ q a = q b)) : ∀ n, n ≤ N → cnt p n = cnt q n
  | 0, _ => rfl
  | n + 1, hn => by
    have e : isNew p n = isNew q n := by unfold isNew; rw [fi_congr h (show n < N by omega)]
    simp only [cnt, e]
    rw [cnt_congr h n (by omega)]
theorem cls_congr {p : Nat → α} {q : Nat → β} {N : Nat} (h : ∀ a b, a < N → b < N → (p a = p b ↔ q a = q b)) {b : Nat} (hb : b < N) : cls p b = cls q b := by
  unfold cls
  rw [fi_congr h hb, cnt_congr h _ (by have := fi_le q b; omega)]
end

/-- What is different and below N is at most N. -/
theorem nodup_le : ∀ (N : Nat) (l : List Nat), l.Nodup → (∀ x ∈ l, x < N) → l.length ≤ N
  | 0, l, _, h => by
    cases l with
    | nil => simp
    | cons x t => exact absurd (h x (by simp)) (by omega)
  | N + 1, l, hn, h => by
    have h1 := nodup_le N (l.filter (· ≠ N)) (hn.filter _) (by
      intro x hx
      have hx' := List.mem_filter.1 hx
      have := h x hx'.1
      have hne : x ≠ N := by simpa using hx'.2
      omega)
    have h2 : (l.filter (· = N)).length ≤ 1 := by
      have hd := hn.filter (· = N)
      have hall : ∀ x ∈ l.filter (fun x => decide (x = N)), x = N := fun x hx => by simpa using (List.mem_filter.1 hx).2
      generalize l.filter (fun x => decide (x = N)) = m at hd hall
      match m, hd, hall with
      | [], _, _ => simp
      | [_], _, _ => simp
      | x :: y :: t, hd, hall =>
        have ex := hall x (by simp)
        have ey := hall y (by simp)
        rw [ex, ey] at hd
        simp at hd
    have h3 : ∀ l : List Nat, l.length = (l.filter (· ≠ N)).length + (l.filter (· = N)).length := by
      intro l
      induction l with
      | nil => rfl
      | cons x t ih =>
        by_cases hx : x = N
        · simp [hx, ih]; omega
        · simp [hx, ih]; omega
    have := h3 l
    omega
/-- If there is a one-to-one map of the first m numbers into those below n, then m ≤ n. -/
theorem inj_le {m n : Nat} (f : Nat → Nat) (hlt : ∀ i, i < m → f i < n) (hinj : ∀ i j, i < m → j < m → f i = f j → i = j) : m ≤ n := by
  have h := nodup_le n ((List.range m).map f) ?_ ?_
  · simpa using h
  · rw [List.nodup_iff_pairwise_ne, List.pairwise_map]
    refine List.Pairwise.imp_of_mem ?_ List.nodup_range
    intro a b ha hb hab e
    exact hab (hinj a b (List.mem_range.1 ha) (List.mem_range.1 hb) e)
  · intro x hx
    obtain ⟨i, hi, rfl⟩ := List.mem_map.1 hx
    exact hlt i (List.mem_range.1 hi)
end Go.Proofs.Ytglagipkpdbhcaa
