/- A line: words, and what waits. -/
import Derived.Test.YtdffilenphglgaaWordsR
import Derived.Laws.ResultCell
import Derived.Deep.RegionLaw
namespace Go.Proofs.Ytdffilenphglgaa
open Go.RowKit
set_option linter.unusedVariables false

def leadV (o : Wd) : Value := .slice o.a o.l o.c
/-- Block X is a line: its words, each with trivia of its own; and the trivia that wait. -/
structure LineAt (B : Nat) (w : World) (X : Nat) (vw vt : Value) (ws : List Wd) (ps : List Pc) : Prop where
  blk : w.heap[X]? = some (.cells #[vw, vt] 47 (0, 0))
  ow : w.ownsRow B 38 3 vw ws.length (ws.flatMap wdC)
  ot : w.ownsRow B 36 2 vt ps.length (ps.flatMap pcC)
  ld : ∀ o ∈ ws, w.ownsRow B 36 2 (leadV o) o.ps.length (o.ps.flatMap pcC) ∧ o.l = o.ps.length ∧ ((leadV o).ownBlock = none ∨ (leadV o).ownBlock ≠ vt.ownBlock)
  pw : ws.Pairwise fun o o' => (leadV o).ownBlock = none ∨ (leadV o).ownBlock ≠ (leadV o').ownBlock
theorem blk_lt {w : World} {g : Nat} {o : Obj} (h : w.heap[g]? = some o) : g < w.heap.size := by
  rcases Nat.lt_or_ge g w.heap.size with hl | hl
  · exact hl
  · rw [Array.getElem?_eq_none hl] at h; cases h
theorem own_keep {w w' : World} {base : Nat} {e : TypeId} {size : Nat} {v : Value} {n : Nat} {xs : List Value} (h : w.ownsRow base e size v n xs) (hk : ∀ k cur, v.ownBlock = some k → w.heap[k]? = some (.cells cur e (0, 0)) → w'.heap[k]? = w.heap[k]?) : w'.ownsRow base e size v n xs := by
  refine ⟨h.1, ?_⟩
  rcases h.2 with h2 | ⟨g, cap, cur, rfl, hbg, hg, r⟩
  · exact Or.inl h2
  · exact Or.inr ⟨g, cap, cur, rfl, hbg, (hk g cur rfl hg).trans hg, r⟩
theorem own_obj {w : World} {base : Nat} {e : TypeId} {size : Nat} {v : Value} {n : Nat} {xs : List Value} (h : w.ownsRow base e size v n xs) {k : Nat} (hk : v.ownBlock = some k) : ∃ cur, w.heap[k]? = some (.cells cur e (0, 0)) := by
  rcases h.2 with ⟨rfl, _⟩ | ⟨g, cap, cur, rfl, hbg, hg, r⟩
  · simp [Value.ownBlock] at hk
  · have : g = k := by simpa [Value.ownBlock] using hk
    subst this; exact ⟨cur, hg⟩
theorem obj_ne {w : World} {i j : Nat} {a b : Array Value} {s t : TypeId} (h : w.heap[i]? = some (.cells a s (0, 0))) (k : w.heap[j]? = some (.cells b t (0, 0))) (hst : s ≠ t) : i ≠ j := by
  intro e; subst e
  rw [h] at k
  have := Option.some.inj k
  injection this with _ h2 _
  exact hst h2
theorem LineAt.lt {B : Nat} {w : World} {X : Nat} {vw vt : Value} {ws : List Wd} {ps : List Pc} (h : LineAt B w X vw vt ws ps) : X < w.heap.size := blk_lt h.blk
theorem LineAt.c0 {B : Nat} {w : World} {X : Nat} {vw vt : Value} {ws : List Wd} {ps : List Pc} (h : LineAt B w X vw vt ws ps) : w.cell? ⟨X, 0, none⟩ = some vw := by rw [cell_of_row w X 0 _ _ _ h.blk]; rfl
theorem LineAt.c1 {B : Nat} {w : World} {X : Nat} {vw vt : Value} {ws : List Wd} {ps : List Pc} (h : LineAt B w X vw vt ws ps) : w.cell? ⟨X, 1, none⟩ = some vt := by rw [cell_of_row w X 1 _ _ _ h.blk]; rfl
theorem LineAt.fz {B : Nat} {w : World} {X : Nat} {vw vt : Value} {ws : List Wd} {ps : List Pc} (h : LineAt B w X vw vt ws ps) (k : Nat) : w.frozen? ⟨X, k, none⟩ = false := frozen_of_row w X k _ _ h.blk
theorem LineAt.tX {B : Nat} {w : World} {X : Nat} {vw vt : Value} {ws : List Wd} {ps : List Pc} (h : LineAt B w X vw vt ws ps) : some X ≠ vt.ownBlock := fun e => by
  obtain ⟨cur, hc⟩ := own_obj h.ot e.symm
  exact obj_ne h.blk hc (by decide) rfl
theorem LineAt.wX {B : Nat} {w : World} {X : Nat} {vw vt : Value} {ws : List Wd} {ps : List Pc} (h : LineAt B w X vw vt ws ps) : some X ≠ vw.ownBlock := fun e => by
  obtain ⟨cur, hc⟩ := own_obj h.ow e.symm
  exact obj_ne h.blk hc (by decide) rfl
theorem LineAt.below {B : Nat} {w w' : World} {X : Nat} {vw vt : Value} {ws : List Wd} {ps : List Pc} (h : LineAt B w X vw vt ws ps) (hb : Below w.heap.size w w') : LineAt B w' X vw vt ws ps :=
  ⟨(hb.block X h.lt).trans h.blk, ownB h.ow hb, ownB h.ot hb, fun o ho => ⟨ownB (h.ld o ho).1 hb, (h.ld o ho).2⟩, h.pw⟩
/-- One more that waits. -/
theorem line_put {B : Nat} {w wa w1 : World} {X : Nat} {vw vt : Value} {ws : List Wd} {ps : List Pc} {p : Pc} {g H n cap : Nat} (h : LineAt B w X vw vt ws ps) (ha : Below w.heap.size w wa) (hg : wa.grownBy w1 vt.ownBlock)
    (hn : n = (ps ++ [p]).length) (ho : w1.ownsRow B 36 2 (.slice (some ⟨g, 0, none⟩) n cap) n (ps.flatMap pcC ++ pcC p)) (hat : vt.ownBlock = some g ∨ g = H) (hH : w.heap.size ≤ H) :
    LineAt B (w1.setCell ⟨X, 1, none⟩ (.slice (some ⟨g, 0, none⟩) n cap)) X vw (.slice (some ⟨g, 0, none⟩) n cap) ws (ps ++ [p]) := by
  subst hn
  have far : ∀ k, k < w.heap.size → some k ≠ vt.ownBlock → w1.heap[k]? = w.heap[k]? := fun k hk hne => (hg.block k (Nat.lt_of_lt_of_le hk ha.size) hne).trans (ha.block k hk)
  have hX : w1.heap[X]? = some (.cells #[vw, vt] 47 (0, 0)) := (far X h.lt h.tX).trans h.blk
  have keep : ∀ {e : TypeId} {size : Nat} {v : Value} {m : Nat} {xs : List Value}, w.ownsRow B e size v m xs → e ≠ 47 → (v.ownBlock = none ∨ v.ownBlock ≠ vt.ownBlock) → (w1.setCell ⟨X, 1, none⟩ (.slice (some ⟨g, 0, none⟩) (ps ++ [p]).length cap)).ownsRow B e size v m xs := by
    intro e size v m xs hv he hne
    refine own_keep hv fun k cur hk hc => ?_
    have hkX : k ≠ X := obj_ne hc h.blk he
    rw [heap_setCell_other _ _ _ _ hkX]
    refine far k (blk_lt hc) ?_
    rcases hne with hne | hne
    · rw [hne] at hk; cases hk
    · rw [← hk]; exact hne
  refine ⟨heap_setCell_same w1 X 1 _ _ _ hX, keep h.ow (by decide) ?_, ?_, fun o ho' => ⟨keep (h.ld o ho').1 (by decide) (h.ld o ho').2.2, (h.ld o ho').2.1, ?_⟩, h.pw⟩
  · cases hv : vw.ownBlock with
    | none => exact .inl rfl
    | some k =>
      right
      intro e
      obtain ⟨c1, h1⟩ := own_obj h.ow hv
      obtain ⟨c2, h2⟩ := own_obj h.ot e.symm
      exact obj_ne h1 h2 (by decide) rfl
  · refine own_keep (by simpa using ho) fun k cur hk hc => ?_
    have : g = k := by simpa [Value.ownBlock] using hk
    subst this
    exact heap_setCell_other _ _ _ _ (obj_ne hc hX (by decide))
  · rcases (h.ld o ho').2.2 with hne | hne
    · exact .inl hne
    · cases hk : (leadV o).ownBlock with
      | none => exact .inl rfl
      | some k =>
        right
        intro e
        have hgk : k = g := by simpa [Value.ownBlock] using e
        rcases hat with hat | hat
        · rw [hk, hat, hgk] at hne; exact hne rfl
        · have := (own_ge (h.ld o ho').1 hk).2
          omega
/-- A word more. -/
theorem line_word {B : Nat} {w wa w1 : World} {X : Nat} {vw : Value} {a : Option Addr} {l c : Nat} {ws : List Wd} {ps : List Pc} {p : Pc} {g H n cap : Nat} (h : LineAt B w X vw (.slice a l c) ws ps) (ha : Below w.heap.size w wa) (hg : wa.grownBy w1 vw.ownBlock)
    (hl : l = ps.length) (hn : n = ws.length + 1) (ho : w1.ownsRow B 38 3 (.slice (some ⟨g, 0, none⟩) n cap) n (ws.flatMap wdC ++ [.slice a l c, .int .i64 p.t, .string p.s])) (hat : vw.ownBlock = some g ∨ g = H) (hH : w.heap.size ≤ H) :
    LineAt B ((w1.setCell ⟨X, 0, none⟩ (.slice (some ⟨g, 0, none⟩) n cap)).setCell ⟨X, 1, none⟩ (.slice none 0 0)) X (.slice (some ⟨g, 0, none⟩) n cap) (.slice none 0 0) (ws ++ [⟨a, l, c, ps, p.t, p.s⟩]) [] := by
  subst hn
  have far : ∀ k, k < w.heap.size → some k ≠ vw.ownBlock → w1.heap[k]? = w.heap[k]? := fun k hk hne => (hg.block k (Nat.lt_of_lt_of_le hk ha.size) hne).trans (ha.block k hk)
  have hX : w1.heap[X]? = some (.cells #[vw, .slice a l c] 47 (0, 0)) := (far X h.lt h.wX).trans h.blk
  have hX1 := heap_setCell_same w1 X 0 _ _ (.slice (some ⟨g, 0, none⟩) (ws.length + 1) cap) hX
  have keep : ∀ {v : Value} {m : Nat} {xs : List Value}, w.ownsRow B 36 2 v m xs → ((w1.setCell ⟨X, 0, none⟩ (.slice (some ⟨g, 0, none⟩) (ws.length + 1) cap)).setCell ⟨X, 1, none⟩ (.slice none 0 0)).ownsRow B 36 2 v m xs := by
    intro v m xs hv
    refine own_keep hv fun k cur hk hc => ?_
    have hkX : k ≠ X := obj_ne hc h.blk (by decide)
    rw [heap_setCell_other _ _ _ _ hkX, heap_setCell_other _ _ _ _ hkX]
    refine far k (blk_lt hc) fun e => ?_
    obtain ⟨c2, h2⟩ := own_obj h.ow e.symm
    exact obj_ne hc h2 (by decide) rfl
  refine ⟨heap_setCell_same _ X 1 _ _ _ hX1, ?_, own_new _ _ _ _, fun o ho' => ?_, ?_⟩
  · have := own_snoc (o := (⟨a, l, c, ps, p.t, p.s⟩ : Wd)) ho
    rw [List.length_append]
    refine own_keep this fun k cur hk hc => ?_
    have : g = k := by simpa [Value.ownBlock] using hk
    subst this
    have hgX : g ≠ X := obj_ne hc hX (by decide)
    rw [heap_setCell_other _ _ _ _ hgX, heap_setCell_other _ _ _ _ hgX]
  · rcases List.mem_append.1 ho' with h1 | h1
    · refine ⟨keep (h.ld o h1).1, (h.ld o h1).2.1, ?_⟩
      cases hk : (leadV o).ownBlock with
      | none => exact .inl rfl
      | some k => right; simp [Value.ownBlock]
    · obtain rfl := List.mem_singleton.1 h1
      refine ⟨keep (by have := h.ot; rw [hl] at this ⊢; exact this), hl, ?_⟩
      cases hk : (leadV ⟨a, l, c, ps, p.t, p.s⟩).ownBlock with
      | none => exact .inl rfl
      | some k => right; simp [Value.ownBlock]
  · rw [List.pairwise_append]
    refine ⟨h.pw, by simp, fun o h1 o' h2 => ?_⟩
    obtain rfl := List.mem_singleton.1 h2
    exact (h.ld o h1).2.2
theorem bytes_ok {n : Nat} (h : n ≤ 2000) : (n + 1) * 24 ≤ 140737488355328 ∧ (n + 1) * 48 ≤ 140737488355328 ∧ n + 1 ≤ maxLen := by unfold maxLen; omega

theorem news2 (w : World) (o1 o2 : Obj) : (((w.alloc o1).alloc o2).drew).heap[w.heap.size + 1]? = some o2 := by
  show ((w.alloc o1).alloc o2).heap[w.heap.size + 1]? = _
  have h := heap_alloc_new (w.alloc o1) o2
  rwa [show (w.alloc o1).heap.size = w.heap.size + 1 by simp] at h
set_option maxHeartbeats 1000000 in
theorem ltrivia_any (w w0 : World) (B X : Nat) (vw vt : Value) (ws : List Wd) (ps : List Pc) (p : Pc) (h : LineAt B w X vw vt ws ps) (hB : Below B w0 w) (hB2 : B ≤ X) (hn : ps.length ≤ 2000) :
    Calls Try.prog 23 #[.pointer (some ⟨X, 0, none⟩), .agg #[.int .i64 p.t, .string p.s]] w fun e w' => e = .returned (.tuple #[]) ∧ ∃ vt', LineAt B w' X vw vt' ws (ps ++ [p]) ∧ Below B w0 w' := by
  obtain ⟨i0, hii, hz0, hz1, hz2⟩ := info_parts infoPc
  obtain ⟨q1, q2, q3⟩ := bytes_ok hn
  have hx := h.lt
  have c1 := h.c1
  have hne := h.tX
  have HL := Lib.hid h
  have HBB := Lib.hid hB
  have HOT := Lib.hid h.ot
  have hbx : B ≤ w.heap.size := by omega
  clear h hB
  go_enter Try.func23, Try.ntmps23
  go_wp2
  have c1' : (w.alloc (.cells #[.int .i64 p.t, .string p.s] 36)).cell? ⟨X, 1, none⟩ = some vt := (HL.out.below ((Below.refl _ _).alloc (Nat.le_refl _) _)).c1
  go_region_law (first
    | (refine step_append_lies _ (by rfl) _ _ _ (by rfl) B 36 i0 _ 2 24 Try.underlying23 hii hz0 hz1 hz2 rfl (by omega) _ ps.length (ps.flatMap pcC) (by rfl) (((HOT.out.alloc _).alloc _).drew)
        ⟨w.heap.size + 1, 0, none⟩ 1 1 [.int .i64 p.t, .string p.s] (by rfl) (by rfl) (World.news_of_block (cs := #[.int .i64 p.t, .string p.s]) (t := 36) (fr := (0, 0)) (news2 w _ _)) (by simp [Value.oneCell'])
        (by omega) q3 q1 (by simp; omega) (w.heap.size + 2) (by simp) ?_; intro gg cap2 w2 hown1 hgrow hat hlt2; have fz2 : w2.frozen? ⟨X, 1, none⟩ = false := (hgrow.frozen_far ⟨X, 1, none⟩ (by simp; omega) hne).trans ((HL.out.below ((((Below.refl _ _).alloc (Nat.le_refl _) _).alloc (by simp) _).drew)).fz 1); have c2 : w2.cell? ⟨X, 1, none⟩ = some vt := (hgrow.cell_far ⟨X, 1, none⟩ (by simp; omega) hne).trans ((HL.out.below ((((Below.refl _ _).alloc (Nat.le_refl _) _).alloc (by simp) _).drew)).c1)))
  all_goals
    go_end0
    refine ⟨rfl, _, line_put HL.out ((((Below.refl _ _).alloc (Nat.le_refl _) _).alloc (by simp) _).drew) hgrow (by simp) hown1 hat (by omega), ?_⟩
    exact (below_grown ((((HBB.out.alloc hbx _).alloc (by simp; omega) _).drew)) (by simp; omega) hgrow (fun j hj => (own_ge HOT.out hj).1)).setCell (p := ⟨X, 1, none⟩) hB2 _
set_option maxHeartbeats 4000000 in
theorem lword_any (w w0 : World) (B X : Nat) (vw : Value) (a : Option Addr) (l c : Nat) (ws : List Wd) (ps : List Pc) (p : Pc) (h : LineAt B w X vw (.slice a l c) ws ps) (hl : l = ps.length) (hB : Below B w0 w) (hB2 : B ≤ X) (hn : ws.length ≤ 2000) :
    Calls Try.prog 22 #[.pointer (some ⟨X, 0, none⟩), .agg #[.int .i64 p.t, .string p.s]] w fun e w' => e = .returned (.tuple #[]) ∧ ∃ vw', LineAt B w' X vw' (.slice none 0 0) (ws ++ [⟨a, l, c, ps, p.t, p.s⟩]) [] ∧ Below B w0 w' := by
  obtain ⟨i0, hii, hz0, hz1, hz2⟩ := info_parts infoWd
  obtain ⟨q1, q2, q3⟩ := bytes_ok hn
  have hx := h.lt
  have c0 := h.c0
  have c1 := h.c1
  have hne := h.wX
  have HL := Lib.hid h
  have HBB := Lib.hid hB
  have HOT := Lib.hid h.ow
  have HLL := Lib.hid hl
  have hbx : B ≤ w.heap.size := by omega
  clear h hB hl
  have bel : ∀ o1 o2 : Obj, Below w.heap.size w ((w.alloc o1).alloc o2).drew := fun o1 o2 => ((((Below.refl _ _).alloc (Nat.le_refl _) _).alloc (by simp) _).drew)
  have BEL := Lib.hid bel
  clear bel
  have c1' : (w.alloc (.cells #[.int .i64 p.t, .string p.s] 36)).cell? ⟨X, 1, none⟩ = some (.slice a l c) := (HL.out.below ((Below.refl _ _).alloc (Nat.le_refl _) _)).c1
  have c0' : (w.alloc (.cells #[.int .i64 p.t, .string p.s] 36)).cell? ⟨X, 0, none⟩ = some vw := (HL.out.below ((Below.refl _ _).alloc (Nat.le_refl _) _)).c0
  go_enter Try.func22, Try.ntmps22
  go_wp2
  go_region_law (first
    | (refine step_append_lies _ (by rfl) _ _ _ (by rfl) B 38 i0 _ 3 48 Try.underlying27 hii hz0 hz1 hz2 rfl (by omega) _ ws.length (ws.flatMap wdC) (by rfl) (((HOT.out.alloc _).alloc _).drew)
        ⟨w.heap.size + 1, 0, none⟩ 1 1 [.slice a l c, .int .i64 p.t, .string p.s] (by rfl) (by rfl) (World.news_of_block (cs := #[.slice a l c, .int .i64 p.t, .string p.s]) (t := 38) (fr := (0, 0)) (news2 w _ _)) (by simp [Value.oneCell'])
        (by omega) q3 q2 (by simp; omega) (w.heap.size + 2) (by simp) ?_; intro gg cap2 w2 hown1 hgrow hat hlt2; have fz2 : w2.frozen? ⟨X, 0, none⟩ = false := (hgrow.frozen_far ⟨X, 0, none⟩ (by simp; omega) hne).trans ((HL.out.below (BEL.out _ _)).fz 0); have c2 : w2.cell? ⟨X, 0, none⟩ = some vw := (hgrow.cell_far ⟨X, 0, none⟩ (by simp; omega) hne).trans ((HL.out.below (BEL.out _ _)).c0); have fz3 : w2.frozen? ⟨X, 1, none⟩ = false := (hgrow.frozen_far ⟨X, 1, none⟩ (by simp; omega) hne).trans ((HL.out.below (BEL.out _ _)).fz 1); have c3 : w2.cell? ⟨X, 1, none⟩ = some (.slice a l c) := (hgrow.cell_far ⟨X, 1, none⟩ (by simp; omega) hne).trans ((HL.out.below (BEL.out _ _)).c1)))
  all_goals
    go_wp2
    go_end0
    refine ⟨rfl, _, line_word HL.out (BEL.out _ _) hgrow HLL.out rfl hown1 hat (by omega), ?_⟩
    exact ((below_grown ((((HBB.out.alloc hbx _).alloc (by simp; omega) _).drew)) (by simp; omega) hgrow (fun j hj => (own_ge HOT.out hj).1)).setCell (p := ⟨X, 0, none⟩) hB2 _).setCell (p := ⟨X, 1, none⟩) hB2 _
end Go.Proofs.Ytdffilenphglgaa
