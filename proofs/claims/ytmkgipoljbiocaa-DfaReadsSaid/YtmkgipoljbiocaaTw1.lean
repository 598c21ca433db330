/- Several texts in one: CRow, OwnRow, AppEl, OwnAt, Ints, Sets, Has, SRow, Fam, Net. -/
import Derived.WalkKit
import Derived.ProofKit
import Derived.OpenShut
import Derived.Deep.Slices
import Derived.Deep.Strs
import Derived.Lib.SmallJoins
import Derived.Below
import Derived.Maps.AppendAt
import Derived.Deep.AppendLies
import Derived.Lib.Hide
import Derived.Test.YtmkgipoljbiocaaRows
import Derived.Deep.QuietTactic
import Derived.BigQuiet
import Derived.WalkLawsBesides
import Derived.WalkSpells
import Derived.Lib.QuietBelow
import Derived.Deep.Quiet
/- A slice whose elements are of any shape, as a list of them; and such an argument, opened. -/
namespace Go.Proofs.Ytmkgipoljbiocaa
open Go.RowKit Go.ChangeShapes Go.WideShapes Go.Deep

/-- A row of elements of k cells; C: an element's cells. -/
def CRow {α : Type} (C : α → List Value) (k : Nat) (w : World) (a : Option Addr) (len : Nat) (os : List α) : Prop :=
  os.length = len ∧ len ≤ 9223372036854775807 ∧
  (0 < len → ∃ b off, a = some ⟨b, off, none⟩ ∧ b < w.heap.size ∧ ∀ i o, os[i]? = some o → ∀ j v, (C o)[j]? = some v → w.cell? ⟨b, off + i * k + j, none⟩ = some v)
theorem CRow.below {α : Type} {C : α → List Value} {k : Nat} {w w' : World} {a : Option Addr} {len : Nat} {os : List α} (h : CRow C k w a len os) (hb : Below w.heap.size w w') : CRow C k w' a len os := by
  obtain ⟨h1, h2, h3⟩ := h
  refine ⟨h1, h2, fun hp => ?_⟩
  obtain ⟨b, off, ha, hlt, hc⟩ := h3 hp
  exact ⟨b, off, ha, by have := hb.size; omega, fun i o hi j v hv => (hb.cell (p := ⟨b, off + i * k + j, none⟩) hlt).trans (hc i o hi j v hv)⟩
theorem CRow.at_ {α : Type} {C : α → List Value} {k : Nat} {w : World} {a : Option Addr} {len : Nat} {os : List α} (h : CRow C k w a len os) {i : Nat} (hi : i < len) :
    ∃ b off o, a = some ⟨b, off, none⟩ ∧ b < w.heap.size ∧ os[i]? = some o ∧ ∀ j v, (C o)[j]? = some v → w.cell? ⟨b, off + i * k + j, none⟩ = some v := by
  obtain ⟨h1, h2, h3⟩ := h
  obtain ⟨b, off, ha, hlt, hc⟩ := h3 (by omega)
  have ho : os[i]? = some os[i] := List.getElem?_eq_getElem (by omega)
  exact ⟨b, off, _, ha, hlt, ho, hc i _ ho⟩
theorem CRow.nil {α : Type} {C : α → List Value} {k : Nat} (w : World) (a : Option Addr) : CRow C k w a 0 ([] : List α) := ⟨rfl, by decide, fun h => absurd h (by decide)⟩

section
variable {H : Type} {enc : TypeId × Value → H} {P : Program} {W : World} {fuel : Nat}
/-- A slice's elements, each by its own opening: what is known of each is kept ('G'). -/
theorem crow_open {α : Type} [Inhabited α] {C : α → List Value} {G : α → Prop} {t e : TypeId} {k : Nat} {a : Option Addr} {len cap : Nat} {x : DataW H × List MemPlace} (ht : P.underlying t = some (.slice e)) (hk : P.cellsOf e = k) (hk0 : 0 < k)
    (hel : ∀ n cs y, DataW.trod enc P W 0 (fun _ => true) true n e cs = some y → cs.length = k → ∃ o, cs = C o ∧ G o)
    (h : DataW.trod enc P W 0 (fun _ => true) true fuel t [.slice a len cap] = some x) : ∃ os : List α, CRow C k W a len os ∧ (∀ o ∈ os, G o) ∧ len ≤ cap ∧ cap ≤ 9223372036854775807 := by
  rcases open_slice ht h with ⟨hcs, _⟩ | ⟨b, l, c, m, n, D, Pl, hcs, hb, hl, hm, hmm, _, hi⟩
  · simp at hcs
    obtain ⟨rfl, rfl, rfl⟩ := hcs
    exact ⟨[], CRow.nil _ _, by simp, Nat.le_refl _, by decide⟩
  · simp at hcs
    obtain ⟨rfl, rfl, rfl⟩ := hcs
    rw [hk] at hi
    have hm' : m = cap := by simpa using hmm
    have key : ∀ i, i < len → ∃ o : α, G o ∧ (C o).length = k ∧ ∀ j v, (C o)[j]? = some v → W.cell? (b.add (i * k + j)) = some v := by
      intro i hil
      obtain ⟨cs', h1, h2⟩ := hi i (by omega)
      have hsz := (World.cells?_some h1).2.1
      obtain ⟨o, rfl, hg⟩ := hel _ _ _ h2 hsz
      refine ⟨o, hg, hsz, fun j v hj => ?_⟩
      have hjl : j < (C o).length := (List.getElem?_eq_some_iff.1 hj).1
      have := (World.cells?_some h1).2.2 j (by rw [← hsz]; exact hjl)
      rw [add_add] at this
      rw [this, hj]
    obtain ⟨F, hF⟩ := choose_lt (α := α) (p := fun i o => G o ∧ (C o).length = k ∧ ∀ j v, (C o)[j]? = some v → W.cell? (b.add (i * k + j)) = some v) key
    have hml : maxLen ≤ 9223372036854775807 := by decide
    refine ⟨(List.range len).map F, ⟨by simp, by omega, fun hp => ?_⟩, fun o ho => ?_, by omega, by omega⟩
    · obtain ⟨b0, off, spot⟩ := b
      obtain ⟨_, hl0, hF0⟩ := hF 0 hp
      obtain ⟨v0, hv0⟩ : ∃ v, (C (F 0))[0]? = some v := ⟨_, List.getElem?_eq_getElem (by omega)⟩
      have c0 := hF0 0 v0 hv0
      have hspot : spot = none := by simpa [Addr.add] using World.cell?_spot c0
      subst hspot
      refine ⟨b0, off, rfl, by have := World.block_lt_of_cell? W _ c0; rwa [Go.WideShapes.add_plain] at this, fun i o hi' j v hv => ?_⟩
      have hil : i < len := by
        have := (List.getElem?_eq_some_iff.1 hi').1
        simpa using this
      have hS : o = F i := by
        rw [List.getElem?_map, List.getElem?_range hil] at hi'
        simpa using hi'.symm
      subst hS
      rw [show off + i * k + j = off + (i * k + j) by omega, ← Go.WideShapes.add_plain]
      exact (hF i hil).2.2 j v hv
    · obtain ⟨i, hi', rfl⟩ := List.mem_map.1 ho
      exact (hF i (List.mem_range.1 hi')).1
end
end Go.Proofs.Ytmkgipoljbiocaa
/- Rows of the call's own: in later worlds; as rows of elements. -/
namespace Go.Proofs.Ytmkgipoljbiocaa
open Go.RowKit

theorem ownB {W W' : World} {base : Nat} {e : TypeId} {size : Nat} {v : Value} {n : Nat} {xs : List Value} (h : W.ownsRow base e size v n xs) (hb : Below W.heap.size W W') : W'.ownsRow base e size v n xs := by
  refine ⟨h.1, ?_⟩
  rcases h.2 with h2 | ⟨g, cap, cur, hv, hbg, hg, r⟩
  · exact Or.inl h2
  · refine Or.inr ⟨g, cap, cur, hv, hbg, ?_, r⟩
    have hlt : g < W.heap.size := by
      rcases Nat.lt_or_ge g W.heap.size with hl | hl
      · exact hl
      · rw [Array.getElem?_eq_none hl] at hg; cases hg
    exact (hb.block g hlt).trans hg
theorem own_form {w : World} {base : Nat} {e : TypeId} {size : Nat} {v : Value} {n : Nat} {xs : List Value} (h : w.ownsRow base e size v n xs) : ∃ A c, v = .slice A n c ∧ n ≤ c ∧ c ≤ 9223372036854775807 := by
  have hm : maxLen ≤ 9223372036854775807 := by decide
  rcases h.2 with ⟨rfl, rfl⟩ | ⟨g, cap, cur, rfl, _, _, h1, h2, _⟩
  · exact ⟨_, _, rfl, Nat.le_refl _, by decide⟩
  · exact ⟨_, _, rfl, h1, by omega⟩
theorem own_ge {w : World} {base : Nat} {e : TypeId} {size : Nat} {v : Value} {n : Nat} {xs : List Value} (h : w.ownsRow base e size v n xs) {k : Nat} (hk : v.ownBlock = some k) : base ≤ k ∧ k < w.heap.size := h.lt k hk
theorem own_mono {w : World} {base base' : Nat} {e : TypeId} {size : Nat} {v : Value} {n : Nat} {xs : List Value} (h : w.ownsRow base e size v n xs) (hb : base' ≤ base) : w.ownsRow base' e size v n xs := by
  obtain ⟨h1, h2⟩ := h
  refine ⟨h1, ?_⟩
  rcases h2 with h2 | ⟨g, cap, cur, hv, hg, r⟩
  · exact .inl h2
  · exact .inr ⟨g, cap, cur, hv, by omega, r⟩
theorem own_new (w : World) (base : Nat) (e : TypeId) (size : Nat) : w.ownsRow base e size (.slice none 0 0) 0 [] := World.ownsRow_nil _ _ _ _
/-- An owned row is a row of elements. -/
theorem flat_get {α : Type} {C : α → List Value} {k : Nat} (hk : ∀ o, (C o).length = k) : ∀ (os : List α) (i : Nat) (o : α), os[i]? = some o → ∀ (j : Nat) (v : Value), (C o)[j]? = some v → (os.flatMap C)[i * k + j]? = some v
  | [], i, o, h, _, _, _ => by simp at h
  | x :: l, 0, o, h, j, v, hj => by
    simp at h; subst h
    have hjl : j < (C x).length := (List.getElem?_eq_some_iff.1 hj).1
    rw [List.flatMap_cons, Nat.zero_mul, Nat.zero_add, List.getElem?_append_left hjl, hj]
  | x :: l, i + 1, o, h, j, v, hj => by
    have := flat_get hk l i o (by simpa using h) j v hj
    rw [List.flatMap_cons, List.getElem?_append_right (by rw [hk]; rw [Nat.succ_mul]; omega), hk, ← this]
    congr 1
    rw [Nat.succ_mul]; omega
theorem own_crow {α : Type} {C : α → List Value} {k : Nat} (hk : ∀ o, (C o).length = k) {w : World} {base : Nat} {e : TypeId} {A : Option Addr} {c : Nat} {os : List α} (h : w.ownsRow base e k (.slice A os.length c) os.length (os.flatMap C)) (hl : os.length ≤ 9223372036854775807) : CRow C k w A os.length os := by
  refine ⟨rfl, hl, fun hp => ?_⟩
  rcases h.2 with ⟨_, h0⟩ | ⟨g, cap, cur, hv, hb, hg, _⟩
  · omega
  · injection hv with hA
    subst hA
    refine ⟨g, 0, rfl, (h.lt g rfl).2, fun i o hi j v hj => ?_⟩
    have := h.cells (g := g) rfl (i * k + j) v (flat_get hk os i o hi j v hj)
    have e : (⟨g, 0, none⟩ : Addr).add (i * k + j) = ⟨g, i * k + j, none⟩ := by unfold Addr.add; split <;> simp_all
    rw [e] at this
    rw [Nat.zero_add]; exact this
theorem below_grown {B : Nat} {w wa w1 : World} {v : Value} (hb : Below B w wa) (hB : B ≤ wa.heap.size) (hg : wa.grownBy w1 v.ownBlock) (hge : ∀ k, v.ownBlock = some k → B ≤ k) : Below B w w1 := hb.grown hg hB hge
end Go.Proofs.Ytmkgipoljbiocaa
/- append(v, x): one element of any shape behind a row of the call's own. -/
namespace Go.Proofs.Ytmkgipoljbiocaa
open Go.RowKit
set_option linter.unusedVariables false

theorem own_snoc' {α : Type} {C : α → List Value} {w : World} {base : Nat} {e : TypeId} {k n : Nat} {v : Value} {os : List α} {o : α} (h : w.ownsRow base e k v n (os.flatMap C ++ C o)) : w.ownsRow base e k v n ((os ++ [o]).flatMap C) := by
  simpa using h
theorem app_el {P : Program} {α : Type} {C : α → List Value} {k bytes : Nat} {z : Value} {T e : TypeId} (hk0 : 0 < k) (hC : ∀ o, (C o).length = k) (hC1 : ∀ o, ∀ u ∈ C o, u.oneCell' = true) (ht : P.underlying T = some (.slice e))
    (hinfo : (P.info? e).map (fun i => (i.zero, i.size, i.bytes)) = some (some z, k, bytes)) (hzs : z.cells.size = k)
    {w : World} {base n : Nat} {v : Value} {os : List α} (hown : w.ownsRow base e k v n (os.flatMap C)) (p : α) (hn : n + 1 ≤ maxLen) (hb : (n + 1) * bytes ≤ 140737488355328) (hbase : base ≤ w.heap.size) (H : Nat) (hH : w.heap.size = H) (cs : Array Value) (hcs : cs = (C p).toArray)
    (ops : Array Oper) (rest : List Oper) (o : Oper) (a : Act) (Q : Exit → Act → World → Prop) (hg : o.guard = none) (s x : Operand) (ho : o.op = .call { callee := .builtin .append, args := #[s, x], argTypes := #[T, T] })
    (hs : a.eval s = v) (hx : a.eval x = .slice (some ⟨H, 0, none⟩) 1 1)
    (h : ∀ g cap w', w'.ownsRow base e k (.slice (some ⟨g, 0, none⟩) (n + 1) cap) (n + 1) ((os ++ [p]).flatMap C) → (w.alloc (.cells cs e)).grownBy w' v.ownBlock → (v.ownBlock = some g ∨ g = H + 1) →
      wpList P ops Q rest (a.put o.dst (.slice (some ⟨g, 0, none⟩) (n + 1) cap)) w') : wpList P ops Q (o :: rest) a (w.alloc (.cells cs e)) := by
  subst hH hcs
  obtain ⟨i0, hii, hz0, hz1, hz2⟩ := info_parts hinfo
  exact wpList_append_lies _ hg s x T ho base e i0 _ k bytes ht hii hz0 hz1 hz2 hzs hk0 v n (os.flatMap C) hs (hown.alloc _) ⟨w.heap.size, 0, none⟩ 1 1 (C p) hx (by rw [hC]; omega)
    (World.news_of_block (cs := (C p).toArray) (t := e) (fr := (0, 0)) (heap_alloc_new w _)) (hC1 p) (by omega) (by unfold maxLen at *; omega) hb (by simp; omega) (w.heap.size + 1) (by simp)
    fun g cap w' h1 h2 h3 _ => h g cap w' (own_snoc' (o := p) h1) h2 h3
end Go.Proofs.Ytmkgipoljbiocaa
/- Rows of the call's own: their cells; one cell written anew. -/
namespace Go.Proofs.Ytmkgipoljbiocaa
open Go.RowKit
set_option linter.unusedVariables false

theorem own_at {w : World} {base : Nat} {e : TypeId} {k n c : Nat} {A : Option Addr} {xs : List Value} (h : w.ownsRow base e k (.slice A n c) n xs) (hp : 0 < n) : ∃ g, A = some ⟨g, 0, none⟩ ∧ base ≤ g ∧ g < w.heap.size ∧ ∀ i u, xs[i]? = some u → w.cell? ⟨g, i, none⟩ = some u := by
  rcases h.2 with ⟨_, h0⟩ | ⟨g, cap, cur, hv, hb, _⟩
  · omega
  · injection hv with hA
    subst hA
    refine ⟨g, rfl, hb, (h.lt g rfl).2, fun i u hu => ?_⟩
    have := h.cells (g := g) rfl i u hu
    have e : (⟨g, 0, none⟩ : Addr).add i = ⟨g, i, none⟩ := by unfold Addr.add; split <;> simp_all
    rwa [e] at this
/-- One cell of an owned row written anew. -/
theorem own_set {w : World} {base : Nat} {e : TypeId} {k g n c : Nat} {xs : List Value} (h : w.ownsRow base e k (.slice (some ⟨g, 0, none⟩) n c) n xs) (j : Nat) (u : Value) :
    (w.setCell ⟨g, j, none⟩ u).ownsRow base e k (.slice (some ⟨g, 0, none⟩) n c) n (xs.set j u) ∧ w.frozen? ⟨g, j, none⟩ = false := by
  rcases h.2 with ⟨h1, _⟩ | ⟨g', cap, cur, hv, hb, hg, r1, r2, r3, r4⟩
  · cases h1
  · injection hv with h1 h2 h3
    have h1 := Option.some.inj h1
    injection h1 with h1
    subst h1 h3
    refine ⟨⟨by rw [List.length_set]; exact h.1, .inr ⟨g, c, _, rfl, hb, heap_setCell_same w g j _ _ u hg, r1, r2, by simpa using r3, ?_⟩⟩, frozen_of_row w g j _ _ hg⟩
    rw [← r4, Array.toList_setIfInBounds, List.take_set]
end Go.Proofs.Ytmkgipoljbiocaa
/- Rows of numbers; has, rises, the same. -/
namespace Go.Proofs.Ytmkgipoljbiocaa
open Go.RowKit
set_option linter.unusedVariables false

def intC (z : Int) : List Value := [.int .i64 z]
theorem intC_len (z : Int) : (intC z).length = 1 := rfl
theorem intC_one (z : Int) : ∀ u ∈ intC z, u.oneCell' = true := fun u hu => by simp [intC] at hu; subst hu; rfl
theorem infoInt : (Try.prog.info? 3).map (fun i => (i.zero, i.size, i.bytes)) = some (some (.int .i64 0), 1, 8) := by kernel_rfl
def bolC (b : Bool) : List Value := [.bool b]
theorem bolC_len (z : Bool) : (bolC z).length = 1 := rfl
theorem bolC_one (z : Bool) : ∀ u ∈ bolC z, u.oneCell' = true := fun u hu => by simp [bolC] at hu; subst hu; rfl
/-- A number of a row. -/
theorem CRow.int {w : World} {a : Option Addr} {n : Nat} {xs : List Int} (h : CRow intC 1 w a n xs) {k : Nat} (hk : k < n) : ∃ b off z, a = some ⟨b, off, none⟩ ∧ b < w.heap.size ∧ xs[k]? = some z ∧ w.cell? ⟨b, off + k, none⟩ = some (.int .i64 z) := by
  obtain ⟨b, off, z, ha, hb, hz, hc⟩ := h.at_ hk
  exact ⟨b, off, z, ha, hb, hz, by have := hc 0 _ rfl; simpa using this⟩
theorem CRow.bool {w : World} {a : Option Addr} {n : Nat} {xs : List Bool} (h : CRow bolC 1 w a n xs) {k : Nat} (hk : k < n) : ∃ b off z, a = some ⟨b, off, none⟩ ∧ b < w.heap.size ∧ xs[k]? = some z ∧ w.cell? ⟨b, off + k, none⟩ = some (.bool z) := by
  obtain ⟨b, off, z, ha, hb, hz, hc⟩ := h.at_ hk
  exact ⟨b, off, z, ha, hb, hz, by have := hc 0 _ rfl; simpa using this⟩
/-- A row of the call's own is handed out. -/
def Giv {α : Type} (t : TypeId) (k : Nat) (C : α → List Value) (w : World) (xs : List α) (e : Ending) (w' : World) : Prop :=
  ∃ A c, e = .returned (.slice A xs.length c) ∧ w'.ownsRow w.heap.size t k (.slice A xs.length c) xs.length (xs.flatMap C) ∧ Below w.heap.size w w'
theorem Giv.mk {α : Type} {t : TypeId} {k : Nat} {C : α → List Value} {w w' : World} {xs : List α} {A : Option Addr} {n c : Nat} (hn : xs.length = n) (h : w'.ownsRow w.heap.size t k (.slice A n c) n (xs.flatMap C)) (hb : Below w.heap.size w w') : Giv t k C w xs (.returned (.slice A n c)) w' := by
  subst hn; exact ⟨A, c, rfl, h, hb⟩
theorem own_row {α : Type} {C : α → List Value} {k : Nat} (hk : ∀ o, (C o).length = k) {w : World} {base : Nat} {e : TypeId} {A : Option Addr} {c : Nat} {os : List α} (h : w.ownsRow base e k (.slice A os.length c) os.length (os.flatMap C)) : CRow C k w A os.length os := by
  obtain ⟨A', c', e1, h1, h2⟩ := own_form h
  exact own_crow hk h (by omega)
theorem own_zero (w : World) (base : Nat) (e : TypeId) (k : Nat) (h : base ≤ w.heap.size) : (w.alloc (.cells #[] e)).ownsRow base e k (.slice (some ⟨w.heap.size, 0, none⟩) 0 0) 0 [] := by
  refine ⟨by simp, .inr ⟨w.heap.size, 0, #[], rfl, h, heap_alloc_new w _, Nat.le_refl _, by decide, by simp, by simp⟩⟩
theorem take_snoc {α : Type} {l : List α} {k : Nat} {x : α} (h : l[k]? = some x) : l.take (k + 1) = l.take k ++ [x] := by rw [List.take_add_one, h]; rfl
theorem below_drewN (w : World) (n : Nat) : Below w.heap.size w (w.drewN n) := ⟨rfl, rfl, rfl, Nat.le_refl _, fun _ _ => rfl⟩
theorem ret_int {k : IntKind} {a b : Int} (h : a = b) : Ending.returned (.int k a) = .returned (.int k b) := by rw [h]
theorem ret_bool {a b : Bool} (h : a = b) : Ending.returned (.bool a) = .returned (.bool b) := by rw [h]
/-- One number more behind a row of the call's own. -/
theorem app_int {w : World} {base n : Nat} {v : Value} {os : List Int} (hown : w.ownsRow base 3 1 v n (os.flatMap intC)) (z : Int) (hn : n ≤ 1000000) (hbase : base ≤ w.heap.size) (H : Nat) (hH : w.heap.size = H)
    (ops : Array Oper) (rest : List Oper) (o : Oper) (a : Act) (Q : Exit → Act → World → Prop) (hg : o.guard = none) (s x : Operand) (ho : o.op = .call { callee := .builtin .append, args := #[s, x], argTypes := #[23, 23] })
    (hs : a.eval s = v) (hx : a.eval x = .slice (some ⟨H, 0, none⟩) 1 1)
    (h : ∀ g cap w', w'.ownsRow base 3 1 (.slice (some ⟨g, 0, none⟩) (n + 1) cap) (n + 1) ((os ++ [z]).flatMap intC) → (w.alloc (.cells #[.int .i64 z] 3)).grownBy w' v.ownBlock → (v.ownBlock = some g ∨ g = H + 1) →
      wpList Try.prog ops Q rest (a.put o.dst (.slice (some ⟨g, 0, none⟩) (n + 1) cap)) w') : wpList Try.prog ops Q (o :: rest) a (w.alloc (.cells #[.int .i64 z] 3)) :=
  app_el (P := Try.prog) (C := intC) (T := 23) (by decide) intC_len intC_one Try.underlying23 infoInt rfl hown z (by unfold maxLen; omega) (by omega) hbase H hH #[.int .i64 z] rfl ops rest o a Q hg s x ho hs hx h
theorem rhas_any (w : World) (a : Option Addr) (n c : Nat) (xs : List Int) (z : Int) (h : CRow intC 1 w a n xs) :
    Calls Try.prog 45 #[.slice a n c, .int .i64 z] w fun e w' => e = .returned (.bool (xs.contains z)) ∧ w = w' := by
  have hl1 := Lib.hid h.1
  have hl2 := h.2.1
  have HH := Lib.hid h
  obtain ⟨r, hr⟩ : ∃ r, xs.contains z = r := ⟨_, rfl⟩
  have HR := Lib.hid hr
  rw [hr]
  clear h hr
  go_enter Try.func45, Try.ntmps45
  go_wp2
  go_loop [5] (fun i => ∃ k : Nat, k ≤ n ∧ i = .int .i64 (k : Int) ∧ z ∉ xs.take k) (fun i => n - (intOf i).toNat)
  case atStart => exact ⟨0, by omega, rfl, by simp⟩
  case round =>
    obtain ⟨k, hk, rfl, hno⟩ := hrel
    have HN := Lib.hid hno
    clear hno
    by_cases hlt : k < n
    · obtain ⟨b, off, y, rfl, hb, hy, hc⟩ := HH.out.int hlt
      have h0 : (0 : Int) ≤ (k : Int) := by omega
      have h1 : (k : Int) < (n : Int) := by omega
      have HY := Lib.hid hy
      clear hy
      by_cases he : y = z
      · subst he
        have HE : Hid (r = true) := Lib.hid (by rw [← HR.out]; simpa using List.mem_of_getElem? HY.out)
        go_wp2
        go_ret
        exact ⟨ret_bool HE.out.symm, rfl⟩
      · have e1 : (y == z) = false := by simpa using he
        have HE : Hid (z ∉ xs.take (k + 1)) := Lib.hid (by rw [take_snoc HY.out, List.mem_append, List.mem_singleton]; intro h; rcases h with h | h; exact HN.out h; exact he h.symm)
        clear he
        go_wp2
        go_round
        case rel => exact ⟨k + 1, by omega, by go_num, HE.out⟩
        case measure => simp [intOf]; omega
    · have hk2 : k = n := by omega
      have HE : Hid (r = false) := Lib.hid (by
        rw [← HR.out, Bool.eq_false_iff]
        intro h
        have := HN.out
        rw [hk2, List.take_of_length_le (by rw [hl1.out]; exact Nat.le_refl _)] at this
        exact this (by simpa using h))
      subst hk2
      go_wp2
      go_ret
      exact ⟨ret_bool HE.out.symm, rfl⟩
/-- Does a list rise? -/
def risB : List Int → Bool
  | [] => true
  | [_] => true
  | a :: b :: l => decide (a < b) && risB (b :: l)
def risUp (xs : List Int) (k : Nat) : Prop := ∀ i a b, i + 1 < k → xs[i]? = some a → xs[i + 1]? = some b → a < b
theorem risB_iff : ∀ xs : List Int, risB xs = true ↔ risUp xs xs.length
  | [] => by simp [risB, risUp]
  | [x] => by
    simp only [risB, true_iff]
    intro i a b hi
    simp at hi
  | x :: y :: l => by
    have ih := risB_iff (y :: l)
    unfold risB
    rw [Bool.and_eq_true, decide_eq_true_eq, ih]
    constructor
    · rintro ⟨h1, h2⟩ i a b hi ha hb
      cases i with
      | zero => simp at ha hb; subst ha; subst hb; exact h1
      | succ i => exact h2 i a b (by simp at hi ⊢; omega) (by simpa using ha) (by simpa using hb)
    · intro h
      exact ⟨h 0 x y (by simp) rfl rfl, fun i a b hi ha hb => h (i + 1) a b (by simp at hi ⊢; omega) (by simpa using ha) (by simpa using hb)⟩
theorem rright_any (w : World) (a : Option Addr) (n c : Nat) (xs : List Int) (h : CRow intC 1 w a n xs) :
    Calls Try.prog 69 #[.slice a n c] w fun e w' => e = .returned (.bool (risB xs)) ∧ Below w.heap.size w w' := by
  have hl1 := Lib.hid h.1
  have hl2 := h.2.1
  have HH := Lib.hid h
  obtain ⟨r, hr⟩ : ∃ r, risB xs = r := ⟨_, rfl⟩
  have HR := Lib.hid hr
  rw [hr]
  clear h hr
  go_enter Try.func69, Try.ntmps69
  go_wp2
  go_loopw [3] (fun i wr => ∃ k m : Nat, 1 ≤ k ∧ (k ≤ n ∨ n = 0 ∧ k = 1) ∧ i = .int .i64 (k : Int) ∧ risUp xs k ∧ wr = w.drewN m) (fun i _ => n - (intOf i).toNat)
  case atStart => exact ⟨1, 0, by omega, by omega, rfl, fun i _ _ hi => by omega, rfl⟩
  case round =>
    obtain ⟨k, m, hk1, hk, rfl, hno, hwr⟩ := hrel
    have HN := Lib.hid hno
    have HW := Lib.hid hwr
    clear hno hwr
    by_cases hlt : k < n
    · have HC := Lib.hid (HH.out.below (below_drewN w m))
      rw [← HW.out] at HC
      obtain ⟨b, off, y, rfl, hb, hy, hc⟩ := HC.out.int hlt
      obtain ⟨b', off', y', hbb, hb', hy', hc'⟩ := HC.out.int (k := k - 1) (by omega)
      simp only [Option.some.injEq, Addr.mk.injEq, and_true] at hbb
      obtain ⟨rfl, rfl⟩ := hbb
      have h0 : (0 : Int) ≤ (k : Int) := by omega
      have h1 : (k : Int) < (n : Int) := by omega
      have h2 : (1 : Int) ≤ (k : Int) := by omega
      obtain ⟨j, rfl⟩ : ∃ j, k = j + 1 := ⟨k - 1, by omega⟩
      have HY := Lib.hid hy
      have HY' := Lib.hid hy'
      rw [Nat.add_sub_cancel] at hc' HY'
      have z1 : ((j + 1 : Nat) : Int) - 1 = (j : Int) := by omega
      have z2 : (((j : Int) + 1) - 1) = (j : Int) := by omega
      have z3 : (0 : Int) ≤ (j : Int) := by omega
      have z4 : (j : Int) < (n : Int) := by omega
      clear hy hy'
      by_cases he : y' < y
      · have HE : Hid (risUp xs (j + 1 + 1)) := Lib.hid fun i a b hi ha hb2 => by
          by_cases hi2 : i + 1 < j + 1
          · exact HN.out i a b hi2 ha hb2
          · obtain rfl : i = j := by omega
            rw [HY'.out] at ha; rw [HY.out] at hb2
            obtain rfl := Option.some.inj ha
            obtain rfl := Option.some.inj hb2
            exact he
        have e1 : ¬ y ≤ y' := by omega
        clear he
        go_wp2
        go_quiet (fail)
        go_wp2
        go_roundw
        case rel => exact ⟨j + 1 + 1, m + nq, by omega, by omega, by go_num, HE.out, by rw [HW.out]; simp [World.drewN, Nat.add_assoc]⟩
        case measure => simp [intOf]; omega
      · have e1 : y ≤ y' := by omega
        have HE : Hid (r = false) := Lib.hid (by
          rw [← HR.out, Bool.eq_false_iff]
          intro h
          exact he ((risB_iff xs).1 h j y' y (by rw [hl1.out]; omega) HY'.out HY.out))
        clear he
        go_wp2
        go_quiet (fail)
        go_wp2
        go_ret
        exact ⟨ret_bool HE.out.symm, by rw [HW.out]; exact (below_drewN w m).trans (below_drewN (w.drewN m) nq)⟩
    · have HE : Hid (r = true) := Lib.hid (by
        rw [← HR.out, risB_iff, hl1.out]
        rcases hk with hk | ⟨hk, hk'⟩
        · obtain rfl : k = n := by omega
          exact HN.out
        · subst hk; exact fun i _ _ hi => by omega)
      have h1 : ¬ (k : Int) < (n : Int) := by omega
      clear hk
      go_wp2
      go_ret
      exact ⟨ret_bool HE.out.symm, by rw [HW.out]; exact below_drewN w m⟩
theorem rsame_any (w : World) (a b : Option Addr) (n m c d : Nat) (xs ys : List Int) (h : CRow intC 1 w a n xs) (h' : CRow intC 1 w b m ys) :
    Calls Try.prog 40 #[.slice a n c, .slice b m d] w fun e w' => e = .returned (.bool (xs == ys)) ∧ Below w.heap.size w w' := by
  have hl1 := Lib.hid h.1
  have hl1' := Lib.hid h'.1
  have hl2 := h.2.1
  have hl2' := h'.2.1
  have HH := Lib.hid h
  have HH' := Lib.hid h'
  obtain ⟨r, hr⟩ : ∃ r, (xs == ys) = r := ⟨_, rfl⟩
  have HR := Lib.hid hr
  rw [hr]
  clear h hr h'
  by_cases hnm : n = m
  case neg =>
    have HE : Hid (r = false) := Lib.hid (by
      rw [← HR.out, beq_eq_false_iff_ne]
      intro e
      exact hnm (by rw [← hl1.out, ← hl1'.out, e]))
    have e1 : ((n : Int) != (m : Int)) = true := by rw [bne_iff_ne]; omega
    clear hnm
    go_enter Try.func40, Try.ntmps40
    go_wp2
    go_ret
    exact ⟨ret_bool HE.out.symm, Below.refl _ _⟩
  subst hnm
  go_enter Try.func40, Try.ntmps40
  go_wp2
  go_loopw [5] (fun i wr => ∃ k q : Nat, k ≤ n ∧ i = .int .i64 (k : Int) ∧ xs.take k = ys.take k ∧ wr = w.drewN q) (fun i _ => n - (intOf i).toNat)
  case atStart => exact ⟨0, 0, by omega, rfl, rfl, rfl⟩
  case round =>
    obtain ⟨k, q, hk, rfl, hno, hwr⟩ := hrel
    have HN := Lib.hid hno
    have HW := Lib.hid hwr
    clear hno hwr
    by_cases hlt : k < n
    · have HC := Lib.hid (HH.out.below (below_drewN w q))
      have HC' := Lib.hid (HH'.out.below (below_drewN w q))
      rw [← HW.out] at HC HC'
      obtain ⟨b1, off, y, rfl, hb, hy, hc⟩ := HC.out.int hlt
      obtain ⟨b2, off', y', rfl, hb', hy', hc'⟩ := HC'.out.int hlt
      have h0 : (0 : Int) ≤ (k : Int) := by omega
      have h1 : (k : Int) < (n : Int) := by omega
      have HY := Lib.hid hy
      have HY' := Lib.hid hy'
      clear hy hy'
      by_cases he : y = y'
      · subst he
        have HE : Hid (xs.take (k + 1) = ys.take (k + 1)) := Lib.hid (by rw [take_snoc HY.out, take_snoc HY'.out, HN.out])
        go_wp2
        go_quiet (fail)
        go_wp2
        go_roundw
        case rel => exact ⟨k + 1, q + nq, by omega, by go_num, HE.out, by rw [HW.out]; simp [World.drewN, Nat.add_assoc]⟩
        case measure => simp [intOf]; omega
      · have e1 : (y != y') = true := by rw [bne_iff_ne]; exact he
        have HE : Hid (r = false) := Lib.hid (by
          rw [← HR.out, beq_eq_false_iff_ne]
          rintro rfl
          rw [HY.out] at HY'
          exact he (Option.some.inj HY'.out))
        clear he
        go_wp2
        go_quiet (fail)
        go_wp2
        go_ret
        exact ⟨ret_bool HE.out.symm, by rw [HW.out]; exact (below_drewN w q).trans (below_drewN (w.drewN q) nq)⟩
    · have hk2 : k = n := by omega
      have HE : Hid (r = true) := Lib.hid (by
        rw [← HR.out, beq_iff_eq]
        have := HN.out
        rwa [hk2, List.take_of_length_le (by rw [hl1.out]; exact Nat.le_refl _), List.take_of_length_le (by rw [hl1'.out]; exact Nat.le_refl _)] at this)
      subst hk2
      go_wp2
      go_ret
      exact ⟨ret_bool HE.out.symm, by rw [HW.out]; exact below_drewN w q⟩
set_option maxHeartbeats 1000000 in
theorem moved_any (w : World) (a : Option Addr) (n c : Nat) (xs : List Int) (by_ : Int) (h : CRow intC 1 w a n xs) (hn : n ≤ 100000) (hxs : ∀ x ∈ xs, 0 ≤ x ∧ x ≤ 100000) (hby : 0 ≤ by_ ∧ by_ ≤ 1000000) :
    Calls Try.prog 46 #[.slice a n c, .int .i64 by_] w (Giv 3 1 intC w (xs.map (· + by_))) := by
  have hl1 := Lib.hid h.1
  have hl2 := h.2.1
  have HH := Lib.hid h
  have HX := Lib.hid hxs
  obtain ⟨b1, b2⟩ := hby
  obtain ⟨g, hg⟩ : ∃ g, w.heap.size = g := ⟨_, rfl⟩
  have HG := Lib.hid hg
  have HB0 := Lib.hid (show Below g w (w.alloc (.cells #[] 3)) by rw [← hg]; exact (Below.refl _ _).alloc (Nat.le_refl _) _)
  have HO0 := Lib.hid (own_zero w g 3 1 (by omega))
  unfold Giv
  clear h hxs hg
  go_enter Try.func46, Try.ntmps46
  go_wp2
  go_loopw [5, 6] (fun v i wr => ∃ k : Nat, k ≤ n ∧ i = .int .i64 (k : Int) ∧ wr.ownsRow g 3 1 v k (((xs.take k).map (· + by_)).flatMap intC) ∧ Below g w wr) (fun _ i _ => n - (intOf i).toNat)
  case atStart => exact ⟨0, by omega, rfl, by simpa using HO0.out, HB0.out⟩
  case round =>
    obtain ⟨k, hk, rfl, hown, hb⟩ := hrel
    clear HO0 HB0
    have HF := Lib.hid (own_form hown)
    have HOW := Lib.hid hown
    have HB := Lib.hid hb
    have hgl : g ≤ wr.heap.size := by have := HG.out; have := hb.size; omega
    clear hown hb
    obtain ⟨A, cc, rfl, hle, hcc⟩ := HF.out
    clear HF
    by_cases hlt : k < n
    · obtain ⟨b, off, y, rfl, hbl, hy, hc⟩ := (HH.out.below (by rw [HG.out]; exact HB.out)).int hlt
      have h0 : (0 : Int) ≤ (k : Int) := by omega
      have h1 : (k : Int) < (n : Int) := by omega
      obtain ⟨y1, y2⟩ := HX.out y (List.mem_of_getElem? hy)
      have HY : Hid ((xs.take (k + 1)).map (· + by_) = (xs.take k).map (· + by_) ++ [y + by_]) := Lib.hid (by rw [take_snoc hy]; simp)
      have HAP := Lib.hid (app_int HOW.out (y + by_) (by omega) hgl wr.heap.size rfl)
      clear hy
      go_wp2_with (at_builtin; refine HAP.out _ _ _ _ _ rfl _ _ rfl rfl rfl ?_; intro gg cap w3 hown1 hgrow hat; have HW := Lib.hid hown1; have HB3 := Lib.hid (below_grown (HB.out.alloc (by omega) _) (by simp; omega) hgrow (fun j hj => (own_ge HOW.out hj).1)); clear hown1 hgrow hat)
      go_roundw
      case rel => exact ⟨k + 1, by omega, by go_num, by rw [HY.out]; exact HW.out, HB3.out⟩
      case measure => simp [intOf]; omega
    · have hk2 : k = n := by omega
      have HK : Hid (xs.take k = xs) := Lib.hid (List.take_of_length_le (by rw [hl1.out]; omega))
      subst hk2
      rw [HK.out] at HOW
      go_wp2
      go_ret
      exact Giv.mk (by simp [hl1.out]) (by rw [HG.out]; exact HOW.out) (by rw [HG.out]; exact HB.out)
end Go.Proofs.Ytmkgipoljbiocaa
/- Sets of bytes as functions, and the four words that hold one: plain lemmas. -/
namespace Go.Proofs.Ytmkgipoljbiocaa
open Go.RowKit

/-- The number whose bits below n are f's. -/
def wdf (f : Nat → Bool) : Nat → Nat
  | 0 => 0
  | n + 1 => wdf f n + (if f n then 2 ^ n else 0)
theorem wdf_lt (f : Nat → Bool) : ∀ n, wdf f n < 2 ^ n
  | 0 => by simp [wdf]
  | n + 1 => by
    have := wdf_lt f n
    simp only [wdf]
    split <;> (rw [Nat.pow_succ]; omega)
theorem wdf_bit (f : Nat → Bool) : ∀ n k, (wdf f n).testBit k = (decide (k < n) && f k)
  | 0, k => by simp [wdf]
  | n + 1, k => by
    have hl := wdf_lt f n
    have ih := wdf_bit f n k
    simp only [wdf]
    by_cases hf : f n
    · rw [if_pos hf, Nat.add_comm]
      rcases Nat.lt_trichotomy k n with h | h | h
      · rw [Nat.testBit_two_pow_add_gt h, ih]
        simp [h, Nat.lt_succ_of_lt h]
      · subst h
        rw [Nat.testBit_two_pow_add_eq, ih]
        simp [hf]
      · have : 2 ^ n + wdf f n < 2 ^ k := by
          have h2 : 2 ^ (n + 1) ≤ 2 ^ k := Nat.pow_le_pow_right (by omega) h
          rw [Nat.pow_succ] at h2; omega
        rw [Nat.testBit_lt_two_pow this]
        have h1 : ¬ k < n + 1 := by omega
        simp [h1]
    · rw [if_neg hf, Nat.add_zero, ih]
      rcases Nat.lt_trichotomy k n with h | h | h
      · simp [h, Nat.lt_succ_of_lt h]
      · subst h; simp [hf]
      · have h1 : ¬ k < n + 1 := by omega
        have h2 : ¬ k < n := by omega
        simp [h1, h2]
/-- Word i of a set. -/
def wd (S : Nat → Bool) (i : Nat) : Nat := wdf (fun k => S (64 * i + k)) 64
theorem wd_lt (S : Nat → Bool) (i : Nat) : wd S i < 18446744073709551616 := wdf_lt _ 64
theorem wd_bit (S : Nat → Bool) (i k : Nat) : (wd S i).testBit k = (decide (k < 64) && S (64 * i + k)) := wdf_bit _ 64 k
theorem wd_ext {S : Nat → Bool} {i a : Nat} (ha : a < 18446744073709551616) (h : ∀ k, k < 64 → a.testBit k = S (64 * i + k)) : a = wd S i := by
  apply Nat.eq_of_testBit_eq
  intro k
  rw [wd_bit]
  by_cases hk : k < 64
  · simp [hk, h k hk]
  · have : a < 2 ^ k := Nat.lt_of_lt_of_le (show a < 2 ^ 64 from ha) (Nat.pow_le_pow_right (by omega) (by omega : 64 ≤ k))
    rw [Nat.testBit_lt_two_pow this]; simp [hk]
theorem wd_congr {S T : Nat → Bool} {i : Nat} (h : ∀ k, k < 64 → S (64 * i + k) = T (64 * i + k)) : wd S i = wd T i :=
  wd_ext (wd_lt S i) fun k hk => by rw [wd_bit]; simp [hk, h k hk]
theorem wd_inj {S T : Nat → Bool} {i : Nat} (h : wd S i = wd T i) : ∀ k, k < 64 → S (64 * i + k) = T (64 * i + k) := by
  intro k hk
  have := congrArg (fun a => a.testBit k) h
  simp only [wd_bit, hk, decide_true, Bool.true_and] at this
  exact this
/-- The value of a set. -/
def setV (S : Nat → Bool) : Value := .agg #[.int .u64 (wd S 0), .int .u64 (wd S 1), .int .u64 (wd S 2), .int .u64 (wd S 3)]
/-- The same bytes below 256. -/
def SameSet (S T : Nat → Bool) : Prop := ∀ x, x < 256 → S x = T x
theorem SameSet.wd_eq {S T : Nat → Bool} (h : SameSet S T) (i : Nat) (hi : i < 4) : wd S i = wd T i := wd_congr fun k hk => h _ (by omega)
theorem SameSet.val {S T : Nat → Bool} (h : SameSet S T) : setV S = setV T := by
  unfold setV; rw [h.wd_eq 0 (by omega), h.wd_eq 1 (by omega), h.wd_eq 2 (by omega), h.wd_eq 3 (by omega)]
theorem SameSet.of_words {S T : Nat → Bool} (h : ∀ i, i < 4 → wd S i = wd T i) : SameSet S T := by
  intro x hx
  have := wd_inj (h (x / 64) (by omega)) (x % 64) (by omega)
  rwa [show 64 * (x / 64) + x % 64 = x by omega] at this
/-- The set of four words. -/
def ofWords (a : Nat → Nat) : Nat → Bool := fun x => (a (x / 64)).testBit (x % 64)
theorem wd_ofWords (a : Nat → Nat) (i : Nat) (h : a i < 18446744073709551616) : wd (ofWords a) i = a i :=
  (wd_ext h fun k hk => by unfold ofWords; rw [show (64 * i + k) / 64 = i by omega, show (64 * i + k) % 64 = k by omega]).symm
/-- A word's bit, as Go asks for it: by a mask, by a shift. -/
theorem shr_odd (x k : Nat) : (x / 2 ^ k % 2 == 1) = x.testBit k := by
  rw [Nat.testBit_eq_decide_div_mod_eq]
  by_cases h : x / 2 ^ k % 2 = 1 <;> simp [h]
theorem and_pow_ne (x k : Nat) : ((x &&& 2 ^ k) != 0) = x.testBit k := by
  rw [nat_bit, ← shr_odd]
  have hp : 0 < 2 ^ k := Nat.two_pow_pos k
  have : x / 2 ^ k % 2 = 0 ∨ x / 2 ^ k % 2 = 1 := by omega
  rcases this with h | h
  · simp [h]
  · rw [h]; simp
theorem bits_and_u64 (a b : Nat) (ha : a < 18446744073709551616) (hb : b < 18446744073709551616) : bits .and .u64 (a : Int) (b : Int) = ((a &&& b : Nat) : Int) := u64_and_nat a b ha hb
theorem bits_or_u64 (a b : Nat) (ha : a < 18446744073709551616) (hb : b < 18446744073709551616) : bits .or .u64 (a : Int) (b : Int) = ((a ||| b : Nat) : Int) := u64_or_nat a b ha hb
/-- What And, All, Not come to, word by word. -/
theorem wd_and (S T : Nat → Bool) (i : Nat) : wd S i &&& wd T i = wd (fun x => S x && T x) i :=
  wd_ext (Nat.lt_of_le_of_lt Nat.and_le_left (wd_lt S i)) fun k hk => by simp [Nat.testBit_and, wd_bit, hk]
theorem wd_or (S T : Nat → Bool) (i : Nat) : wd S i ||| wd T i = wd (fun x => S x || T x) i :=
  wd_ext (Nat.or_lt_two_pow (n := 64) (wd_lt S i) (wd_lt T i)) fun k hk => by simp [Nat.testBit_or, wd_bit, hk]
theorem wd_not (S : Nat → Bool) (i : Nat) : 18446744073709551615 - wd S i = wd (fun x => !S x) i :=
  wd_ext (by have := wd_lt S i; omega) fun k hk => by
    have h := Nat.testBit_two_pow_sub_succ (wd_lt S i) k (n := 64)
    have e : (2 : Nat) ^ 64 - (wd S i + 1) = 18446744073709551615 - wd S i := by have := wd_lt S i; omega
    rw [e] at h
    rw [h, wd_bit]; simp [hk]
theorem wd_one (b : Nat) (i : Nat) : wd (fun x => x == b) i = if b / 64 = i then 2 ^ (b % 64) else 0 := by
  split
  · rename_i h
    refine (wd_ext ?_ fun k hk => ?_).symm
    · exact Nat.lt_of_lt_of_le (Nat.pow_lt_pow_right (by omega) (by omega : b % 64 < 64)) (Nat.le_refl (2 ^ 64))
    · rw [Nat.testBit_two_pow]
      have : (b % 64 = k) ↔ (64 * i + k = b) := by omega
      by_cases hb : b % 64 = k
      · have h2 := this.1 hb; simp [hb, h2]
      · have h2 : ¬ 64 * i + k = b := fun e => hb (this.2 e)
        simp [hb, h2]
  · rename_i h
    refine (wd_ext (by decide) fun k hk => ?_).symm
    have h2 : ¬ 64 * i + k = b := by omega
    simp [h2]
end Go.Proofs.Ytmkgipoljbiocaa
/- Is a byte in a set: the two programs' Has, by their contracts. -/
namespace Go.Proofs.Ytmkgipoljbiocaa
open Go.RowKit

theorem quiet_id {P : Program} {f : FuncId} {args : Array Value} {w : World} {n : Nat} {v : Value}
    (h : Calls P f args (w.drewN n) fun e w' => e = .returned v ∧ w.drewN n = w') : Calls P f args (w.drewN n) fun e w'' => e = .returned v ∧ ∃ m, w'' = w.drewN m :=
  h.mono fun _ _ ⟨he, hm⟩ => ⟨he, n, hm.symm⟩
theorem words_at (S : Nat → Bool) (i : Nat) (h : i < 4) : (#[Value.int .u64 (wd S 0), .int .u64 (wd S 1), .int .u64 (wd S 2), .int .u64 (wd S 3)] : Array Value)[i]? = some (.int .u64 (wd S i)) := by
  have : i = 0 ∨ i = 1 ∨ i = 2 ∨ i = 3 := by omega
  rcases this with rfl | rfl | rfl | rfl <;> rfl

theorem wrap_pow (k : Nat) (h : k < 64) : IntKind.u64.wrap ((2 : Int) ^ k) = ((2 ^ k : Nat) : Int) := by
  have hlt : 2 ^ k < 2 ^ 64 := Nat.pow_lt_pow_right (by omega) h
  have e : ((2 : Int) ^ k) = ((2 ^ k : Nat) : Int) := by simp
  rw [e]
  generalize 2 ^ k = m at hlt
  exact IntWalk.u64_in _ ⟨by omega, by omega⟩
theorem mask_bit (S : Nat → Bool) (n : Nat) : (bits .and .u64 (wd S (n / 64) : Int) (IntKind.u64.wrap ((2 : Int) ^ (n % 64))) != 0) = S n := by
  have hk : n % 64 < 64 := by omega
  have hlt : 2 ^ (n % 64) < 2 ^ 64 := Nat.pow_lt_pow_right (by omega) hk
  rw [wrap_pow _ hk, bits_and_u64 _ _ (wd_lt _ _) hlt]
  have : (((wd S (n / 64) &&& 2 ^ (n % 64) : Nat) : Int) != 0) = ((wd S (n / 64) &&& 2 ^ (n % 64)) != 0) := by
    rw [Bool.eq_iff_iff]; simp
  rw [this, and_pow_ne, wd_bit]
  simp [hk, show 64 * (n / 64) + n % 64 = n by omega]
theorem shift_bit (S : Nat → Bool) (n : Nat) : (((wd S (n / 64) : Int) / 2 ^ (n % 64)).tmod 2 == 1) = S n := by
  have hk : n % 64 < 64 := by omega
  have e : ((wd S (n / 64) : Int) / 2 ^ (n % 64)) = ((wd S (n / 64) / 2 ^ (n % 64) : Nat) : Int) := by simp
  rw [e]
  have e2 : ((wd S (n / 64) / 2 ^ (n % 64) : Nat) : Int).tmod 2 = ((wd S (n / 64) / 2 ^ (n % 64) % 2 : Nat) : Int) := rfl
  rw [e2]
  have : (((wd S (n / 64) / 2 ^ (n % 64) % 2 : Nat) : Int) == 1) = (wd S (n / 64) / 2 ^ (n % 64) % 2 == 1) := by
    rw [Bool.eq_iff_iff, beq_iff_eq, beq_iff_eq]; omega
  rw [this, shr_odd, wd_bit]
  simp [hk, show 64 * (n / 64) + n % 64 = n by omega]

theorem has_any (S : Nat → Bool) (n : Nat) (w : World) (h : n < 256) :
    Calls Try.prog 67 #[setV S, .int .u8 n] w fun e w' => e = .returned (.bool (S n)) ∧ Below w.heap.size w w' := by
  have hw := words_at S (n / 64) (by omega)
  have hl := wd_lt S (n / 64)
  unfold setV
  go_enter Try.func67, Try.ntmps67
  go_wp2
  go_ret
  exact ⟨ret_bool (mask_bit S n), (Below.refl _ _).alloc (Nat.le_refl _) _⟩

theorem refhas_any (S : Nat → Bool) (n : Nat) (w : World) (h : n < 256) :
    Calls Try.prog 70 #[setV S, .int .u8 n] w fun e w' => e = .returned (.bool (S n)) ∧ Below w.heap.size w w' := by
  have hw := words_at S (n / 64) (by omega)
  have hl := wd_lt S (n / 64)
  unfold setV
  go_enter Try.func70, Try.ntmps70
  go_wp2
  go_ret
  exact ⟨ret_bool (shift_bit S n), (Below.refl _ _).alloc (Nat.le_refl _) _⟩
theorem bcell {W w1 : World} (hb : Below W.heap.size W w1) : (∀ b o, b < W.heap.size → w1.cell? ⟨b, o, none⟩ = W.cell? ⟨b, o, none⟩) ∧ (∀ b o, b < W.heap.size → w1.frozen? ⟨b, o, none⟩ = W.frozen? ⟨b, o, none⟩) :=
  ⟨fun b o h => hb.cell (p := ⟨b, o, none⟩) h, fun b o h => hb.frozen (p := ⟨b, o, none⟩) h⟩
theorem keeps {W w1 : World} (hb : Below W.heap.size W w1) : ∀ p u, W.cell? p = some u → w1.cell? p = some u :=
  fun p _ h => (hb.cell (World.block_lt_of_cell? W p h)).trans h
end Go.Proofs.Ytmkgipoljbiocaa
/- A slice of sets, as a list of them. A region that draws its order and calls what makes memory. -/
namespace Go.Proofs.Ytmkgipoljbiocaa
open Go.RowKit Go.Sort

/-- The slice value reads as the list of sets. -/
def SRow (w : World) (a : Option Addr) (len : Nat) (ls : List (Nat → Bool)) : Prop :=
  ls.length = len ∧ len ≤ 9223372036854775807 ∧
  (0 < len → ∃ b off, a = some ⟨b, off, none⟩ ∧ b < w.heap.size ∧ ∀ i S, ls[i]? = some S → ∀ j, j < 4 → w.cell? ⟨b, off + i * 4 + j, none⟩ = some (.int .u64 (wd S j)))
theorem SRow.below {w w' : World} {a : Option Addr} {len : Nat} {ls : List (Nat → Bool)} (h : SRow w a len ls) (hb : Below w.heap.size w w') : SRow w' a len ls := by
  obtain ⟨h1, h2, h4⟩ := h
  refine ⟨h1, h2, fun hp => ?_⟩
  obtain ⟨b, off, ha, hlt, hc⟩ := h4 hp
  exact ⟨b, off, ha, by have := hb.size; omega, fun i S hi j hj => (hb.cell (p := ⟨b, off + i * 4 + j, none⟩) hlt).trans (hc i S hi j hj)⟩
/-- What is there of place k. -/
theorem SRow.at_ {w : World} {a : Option Addr} {len : Nat} {ls : List (Nat → Bool)} (h : SRow w a len ls) {k : Nat} (hk : k < len) : ∃ b off S, a = some ⟨b, off, none⟩ ∧ b < w.heap.size ∧ ls[k]? = some S ∧
    w.cell? ⟨b, off + k * 4, none⟩ = some (.int .u64 (wd S 0)) ∧ w.cell? ⟨b, off + k * 4 + 1, none⟩ = some (.int .u64 (wd S 1)) ∧
    w.cell? ⟨b, off + k * 4 + 2, none⟩ = some (.int .u64 (wd S 2)) ∧ w.cell? ⟨b, off + k * 4 + 3, none⟩ = some (.int .u64 (wd S 3)) := by
  obtain ⟨h1, h2, h4⟩ := h
  obtain ⟨b, off, ha, hlt, hc⟩ := h4 (by omega)
  have hs : ls[k]? = some ls[k] := List.getElem?_eq_getElem (by omega)
  exact ⟨b, off, _, ha, hlt, hs, hc k _ hs 0 (by omega), hc k _ hs 1 (by omega), hc k _ hs 2 (by omega), hc k _ hs 3 (by omega)⟩

/-- A contract that ends in 'Below', in a world of the class. -/
theorem regrown_call {P : Program} {f : FuncId} {args : Array Value} {w : World} {v : Value} (h : ∀ w', Calls P f args w' fun e w'' => e = .returned v ∧ Below w'.heap.size w' w'') (d : Nat) (os : Array Obj) :
    Calls P f args (grow (redrawn w d) os) fun e w'' => e = .returned v ∧ ∃ p : Regrown, w'' = grow (redrawn w p.d) p.os := Calls.regrown_of (h _)
end Go.Proofs.Ytmkgipoljbiocaa
/- A region that draws its order: one obligation an operation, whatever the order. -/
namespace Go.Proofs.Ytmkgipoljbiocaa
open Go.RowKit

def relUpon (P : Program) (E : World → World → Prop) (w : World) (R : Value → World → Prop) : Result Next → Prop
  | .ok (.value u) w' => E w w' ∧ R u w'
  | .ok .skip w' => E w w' ∧ R undef w'
  | .ok (.enter f args) w' => Calls P f args w' (fun e w'' => ∃ u, e = .returned u ∧ E w w'' ∧ R u w'')
  | _ => False
theorem relUpon_value (P : Program) (E : World → World → Prop) (w : World) (R : Value → World → Prop) (u : Value) (w' : World) : relUpon P E w R (.ok (.value u) w') = (E w w' ∧ R u w') := rfl
theorem relUpon_skip (P : Program) (E : World → World → Prop) (w : World) (R : Value → World → Prop) (w' : World) : relUpon P E w R (.ok .skip w') = (E w w' ∧ R undef w') := rfl
theorem relUpon_enter (P : Program) (E : World → World → Prop) (w : World) (R : Value → World → Prop) (f : FuncId) (args : Array Value) (w' : World) : relUpon P E w R (.ok (.enter f args) w') = Calls P f args w' (fun e w'' => ∃ u, e = .returned u ∧ E w w'' ∧ R u w'') := rfl
/-- What an operation leaves in its slot, and behind what world. -/
def relAt (P : Program) (o : Oper) (a : Act) (E : World → World → Prop) (w : World) (R : Value → World → Prop) : Prop := relUpon P E w R ((execOp a.eval o).run P w)
theorem relAt_eq (P : Program) (o : Oper) (a : Act) (E : World → World → Prop) (w : World) (R : Value → World → Prop) : relAt P o a E w R = relUpon P E w R ((execOp a.eval o).run P w) := rfl
def isV (v : Value) : Value → World → Prop := fun u _ => u = v

section
variable {P : Program} {ops : Array Oper} {E : World → World → Prop} {V : Nat → Value → World → Prop} {a0 : Act} {w0 : World}

def dstAt (ops : Array Oper) (j : Nat) : Option Tmp := (ops[j]?).bind (·.dst)
def who (ops : Array Oper) (t : Tmp) : Option Nat := (List.range ops.size).find? fun j => dstAt ops j == some t
def waits (ops : Array Oper) (i j : Nat) : Bool := ((ops[i]?).map fun o => o.after.any fun e => Region.binds .any e && e.on == j).getD false
/-- Whose value a slot holds when operation i comes up: an operation's for which i waits; else what was there. -/
def whose (ops : Array Oper) (i : Nat) (t : Tmp) : Option Nat := (who ops t).bind fun j => if waits ops i j then some j else none
def sees (ops : Array Oper) (i : Nat) : List (Tmp × Option Nat) := ((ops[i]?).map fun o => (o.looksAt ops).map fun t => (t, whose ops i t)).getD []
def famB (ops : Array Oper) (n : Nat) : Bool :=
  (List.range ops.size).all (fun i => match ops[i]? with
    | none => true
    | some o =>
      (match o.dst with | some t => who ops t == some i && decide (t < n) | none => true) &&
      (o.looksAt ops).all (fun t => match who ops t with | none => true | some j => waits ops i j || waits ops j i || j == i) &&
      o.after.all (fun e => !Region.binds .any e || decide (e.on < i)))

def slotAt (V : Nat → Value → World → Prop) (a0 a : Act) (w : World) (p : Tmp × Option Nat) : Prop :=
  match p.2 with
  | some j => V j (a.tmps.getD p.1 undef) w
  | none => a.tmps.getD p.1 undef = a0.tmps.getD p.1 undef
def Seen (V : Nat → Value → World → Prop) (a0 a : Act) (w : World) : List (Tmp × Option Nat) → Prop
  | [] => True
  | p :: l => slotAt V a0 a w p ∧ Seen V a0 a w l
theorem Seen_of {l : List (Tmp × Option Nat)} {a : Act} {w : World} (h : ∀ p ∈ l, slotAt V a0 a w p) : Seen V a0 a w l := by
  induction l with
  | nil => trivial
  | cons p l ih => exact ⟨h p (by simp), ih fun q hq => h q (by simp [hq])⟩
/-- What is to be shown of operation i. -/
def Ob (P : Program) (ops : Array Oper) (E : World → World → Prop) (V : Nat → Value → World → Prop) (a0 : Act) (w0 : World) (i : Nat) (o : Oper) : Prop :=
  ∀ a w, E w0 w → Seen V a0 a w (sees ops i) → if Region.wanted o (yielded ops a.tmps) = true then relAt P o a E w (V i) else V i undef w
def Obs (P : Program) (ops : Array Oper) (E : World → World → Prop) (V : Nat → Value → World → Prop) (a0 : Act) (w0 : World) : Nat → List Oper → Prop
  | _, [] => True
  | i, o :: l => Ob P ops E V a0 w0 i o ∧ Obs P ops E V a0 w0 (i + 1) l
theorem Obs.at_ (l : List Oper) : ∀ (k : Nat), Obs P ops E V a0 w0 k l → ∀ i o, l[i]? = some o → Ob P ops E V a0 w0 (k + i) o := by
  induction l with
  | nil => intro k _ i o hi; simp at hi
  | cons o' l ih =>
    intro k h i o hi
    cases i with
    | zero =>
      simp only [List.getElem?_cons_zero, Option.some.injEq] at hi
      subst hi; exact h.1
    | succ i =>
      have := ih (k + 1) h.2 i o (by simpa using hi)
      rwa [show k + 1 + i = k + (i + 1) by omega] at this

theorem famB_dst {n i : Nat} {o : Oper} {t : Tmp} (h : famB ops n = true) (ho : ops[i]? = some o) (ht : o.dst = some t) : who ops t = some i ∧ t < n := by
  have hi := (Array.getElem?_eq_some_iff.1 ho).1
  simp only [famB, List.all_eq_true, List.mem_range] at h
  have := h i hi
  simp only [ho, ht, Bool.and_eq_true, beq_iff_eq, decide_eq_true_eq] at this
  exact this.1.1
theorem famB_look {n i : Nat} {o : Oper} {t : Tmp} {j : Nat} (h : famB ops n = true) (ho : ops[i]? = some o) (ht : t ∈ o.looksAt ops) (hw : who ops t = some j) :
    waits ops i j = true ∨ waits ops j i = true ∨ j = i := by
  have hi := (Array.getElem?_eq_some_iff.1 ho).1
  simp only [famB, List.all_eq_true, List.mem_range] at h
  have := h i hi
  simp only [ho, Bool.and_eq_true, List.all_eq_true] at this
  have := this.1.2 t ht
  simp only [hw, Bool.or_eq_true, beq_iff_eq] at this
  rcases this with (h | h) | h
  · exact .inl h
  · exact .inr (.inl h)
  · exact .inr (.inr h)
theorem famB_after {n i : Nat} {o : Oper} {e : Edge} (h : famB ops n = true) (ho : ops[i]? = some o) (he : e ∈ o.after) (hb : Region.binds .any e = true) : e.on < i := by
  have hi := (Array.getElem?_eq_some_iff.1 ho).1
  simp only [famB, List.all_eq_true, List.mem_range] at h
  have := h i hi
  simp only [ho, Bool.and_eq_true, Array.all_eq_true_iff_forall_mem] at this
  have := this.2 e he
  simpa [hb] using this
theorem waits_spec {i j : Nat} (h : waits ops i j = true) : ∃ o, ops[i]? = some o ∧ ∃ e ∈ o.after, Region.binds .any e = true ∧ e.on = j := by
  unfold waits at h
  cases ho : ops[i]? with
  | none => simp [ho] at h
  | some o =>
    simp only [ho, Option.map_some, Option.getD_some] at h
    rw [Array.any_eq_true] at h
    obtain ⟨k, hk, hh⟩ := h
    simp only [Bool.and_eq_true, beq_iff_eq] at hh
    exact ⟨o, rfl, o.after[k], Array.getElem_mem hk, hh.1, hh.2⟩
theorem who_spec {t : Tmp} {j : Nat} (h : who ops t = some j) : dstAt ops j = some t := by
  have := List.find?_some h
  simpa using this

/-- What holds while some operations have come up. -/
structure FamInv (ops : Array Oper) (E : World → World → Prop) (V : Nat → Value → World → Prop) (a0 : Act) (w0 : World) (listed : Array Bool) (a : Act) (w : World) : Prop where
  ext : E w0 w
  dfs : a.defers = a0.defers
  siz : a.tmps.size = a0.tmps.size
  lsz : listed.size = ops.size
  cls : ∀ i o, ops[i]? = some o → listed.getD i false = true → ∀ e ∈ o.after, Region.binds .any e = true → listed.getD e.on false = true
  yes : ∀ t j, who ops t = some j → listed.getD j false = true → V j (a.tmps.getD t undef) w
  no : ∀ t, (∀ j, who ops t = some j → listed.getD j false = false) → a.tmps.getD t undef = a0.tmps.getD t undef

theorem FamInv.seen {n : Nat} {listed : Array Bool} {a : Act} {w : World} (hB : famB ops n = true) (h : FamInv ops E V a0 w0 listed a w) {i : Nat} (hr : i ∈ Region.ready .any ops listed) : Seen V a0 a w (sees ops i) := by
  obtain ⟨h0, o, ho, hall⟩ := mem_ready.1 hr
  refine Seen_of fun p hp => ?_
  simp only [sees, ho, Option.map_some, Option.getD_some, List.mem_map] at hp
  obtain ⟨t, ht, rfl⟩ := hp
  unfold whose
  cases hw : who ops t with
  | none => exact h.no t (fun j hj => by rw [hw] at hj; cases hj)
  | some j =>
    simp only [Option.bind_some]
    by_cases hwt : waits ops i j = true
    · obtain ⟨o', ho', e, he, hb, rfl⟩ := waits_spec hwt
      rw [ho] at ho'
      obtain rfl := Option.some.inj ho'
      rw [if_pos hwt]
      exact h.yes t _ hw (hall e he hb)
    · have hn : listed.getD j false = false := by
        have hi0 : listed.getD i false = false := by
          have hlt := (Array.getElem?_eq_some_iff.1 ho).1
          have : i < listed.size := by rw [h.lsz]; exact hlt
          simp [this] at h0 ⊢; exact h0
        rcases famB_look hB ho ht hw with h1 | h1 | h1
        · exact absurd h1 hwt
        · cases hl : listed.getD j false with
          | false => rfl
          | true =>
            obtain ⟨o', ho', e, he, hb, rfl⟩ := waits_spec h1
            have := h.cls j o' ho' hl e he hb
            rw [hi0] at this; cases this
        · subst h1; exact hi0
      rw [if_neg hwt]
      exact h.no t (fun k hk => by rw [hw] at hk; obtain rfl := Option.some.inj hk; exact hn)

theorem getD_set {t : Array Value} {d s : Nat} {v : Value} (h : d < t.size) : (t.setIfInBounds d v).getD s undef = if s = d then v else t.getD s undef := by
  by_cases hsd : s = d
  · subst hsd; simp [h]
  · simp [Array.getElem?_setIfInBounds_ne (Ne.symm hsd), hsd]
theorem getD_setB {l : Array Bool} {i j : Nat} (h : i < l.size) : (l.setIfInBounds i true).getD j false = if j = i then true else l.getD j false := by
  by_cases hj : j = i
  · subst hj; simp [h]
  · simp [Array.getElem?_setIfInBounds_ne (Ne.symm hj), hj]

theorem put_other {a : Act} {n : Nat} {i j : Nat} {o : Oper} {t : Tmp} {v : Value} (hB : famB ops n = true) (hs : a.tmps.size = n) (ho : ops[i]? = some o) (hw : who ops t = some j) (hji : j ≠ i) :
    (a.put o.dst v).tmps.getD t undef = a.tmps.getD t undef := by
  cases hd : o.dst with
  | none => rfl
  | some d =>
    obtain ⟨h1, h2⟩ := famB_dst hB ho hd
    have hne : t ≠ d := fun e => by subst e; rw [h1] at hw; exact hji (Option.some.inj hw).symm
    simp only [Act.put]
    rw [getD_set (by rw [hs]; exact h2), if_neg hne]
theorem FamInv.put {listed : Array Bool} {a : Act} {w w' : World} (hB : famB ops a0.tmps.size = true) (hT : ∀ x y z : World, E x y → E y z → E x z)
    (hM : ∀ i v x y, V i v x → E x y → V i v y) (h : FamInv ops E V a0 w0 listed a w) {i : Nat} {o : Oper} (ho : ops[i]? = some o) (hr : i ∈ Region.ready .any ops listed) {v : Value}
    (hE : E w w') (hV : V i v w') : FamInv ops E V a0 w0 (listed.setIfInBounds i true) (a.put o.dst v) w' := by
  have hi : i < listed.size := by rw [h.lsz]; exact (Array.getElem?_eq_some_iff.1 ho).1
  obtain ⟨h0, o', ho', hall⟩ := mem_ready.1 hr
  rw [ho] at ho'
  obtain rfl := Option.some.inj ho'
  refine ⟨hT _ _ _ h.ext hE, ?_, ?_, by simpa using h.lsz, ?_, ?_, ?_⟩
  · cases o.dst <;> exact h.dfs
  · cases hd : o.dst <;> simp [Act.put, h.siz]
  · intro k ok hk hl e he hb
    rw [getD_setB hi] at hl ⊢
    split
    · rfl
    · split at hl
      · rename_i hki; subst hki
        rw [ho] at hk
        obtain rfl := Option.some.inj hk
        exact hall e he hb
      · exact h.cls k ok hk hl e he hb
  · intro t j hw hl
    rw [getD_setB hi] at hl
    have hdj := who_spec hw
    by_cases hji : j = i
    · subst hji
      unfold dstAt at hdj
      simp only [ho, Option.bind_some] at hdj
      have h2 := (famB_dst hB ho hdj).2
      simp only [hdj, Act.put]
      rw [getD_set (by rw [h.siz]; exact h2), if_pos rfl]
      exact hV
    · rw [if_neg hji] at hl
      rw [put_other hB h.siz ho hw hji]
      exact hM _ _ _ _ (h.yes t j hw hl) hE
  · intro t hn
    rw [← h.no t (fun j hj => by have := hn j hj; rw [getD_setB hi] at this; split at this; · cases this
                                 · exact this)]
    cases hd : o.dst with
    | none => rfl
    | some d =>
      obtain ⟨h1, h2⟩ := famB_dst hB ho hd
      have hne : t ≠ d := fun e => by
        subst e
        have := hn i h1
        rw [getD_setB hi, if_pos rfl] at this
        cases this
      simp only [Act.put]
      rw [getD_set (by rw [h.siz]; exact h2), if_neg hne]

theorem relAt.wp {o : Oper} {a : Act} {w : World} {R : Value → World → Prop} {K : Act → World → Prop} {Q : Exit → Act → World → Prop} (h : relAt P o a E w R)
    (hK : ∀ u w', E w w' → R u w' → K (a.put o.dst u) w') : o.wp P a w K Q := by
  unfold relAt at h
  unfold Oper.wp
  generalize (execOp a.eval o).run P w = r at *
  cases r with
  | ok n w' =>
    cases n <;> simp only [relUpon] at h <;> simp only [Oper.upon]
    case value u => exact hK _ _ h.1 h.2
    case skip => exact hK _ _ h.1 h.2
    case enter f args => exact h.mono fun e w'' ⟨u, he, h1, h2⟩ => by subst he; exact hK _ _ h1 h2
  | halt x w' => simp only [relUpon] at h

def unl (listed : Array Bool) (n : Nat) : Nat := (List.range n).countP fun i => !listed.getD i false
theorem unl_zero {listed : Array Bool} {n : Nat} (h : unl listed n = 0) (i : Nat) (hi : i < n) : listed.getD i false = true := by
  unfold unl at h
  rw [List.countP_eq_zero] at h
  have := h i (List.mem_range.2 hi)
  simpa using this
theorem countP_set (p q : Nat → Bool) (i : Nat) (h1 : p i = true) (h2 : q i = false) (hj : ∀ j, j ≠ i → q j = p j) : ∀ n, i < n → (List.range n).countP p = (List.range n).countP q + 1
  | 0, h => by omega
  | n + 1, h => by
    rw [List.range_succ, List.countP_append, List.countP_append]
    by_cases hin : i = n
    · subst hin
      have : (List.range i).countP p = (List.range i).countP q := List.countP_congr fun j hj' => by
        rw [hj j (by have := List.mem_range.1 hj'; omega)]
      simp [this, h1, h2]
    · have := countP_set p q i h1 h2 hj n (by omega)
      rw [this]
      have := hj n (fun e => hin e.symm)
      simp [this]; omega
theorem unl_set {listed : Array Bool} {n i : Nat} (hs : listed.size = n) (hi : i < n) (h : listed.getD i false = false) : unl listed n = unl (listed.setIfInBounds i true) n + 1 := by
  unfold unl
  refine countP_set _ _ i (by simp [h]) ?_ (fun j hj => ?_) n hi
  · simp only [getD_setB (show i < listed.size by omega)]; simp
  · simp only [getD_setB (show i < listed.size by omega), if_neg hj]
/-- As long as one has not come up, one may. -/
theorem some_ready {n : Nat} {listed : Array Bool} (hB : famB ops n = true) (hs : listed.size = ops.size) : ∀ k, (k < ops.size → listed.getD k false = false → Region.ready .any ops listed ≠ []) := by
  intro k
  induction k using Nat.strongRecOn with
  | ind k ih =>
    intro hk hl
    have ho : ops[k]? = some ops[k] := Array.getElem?_eq_getElem hk
    by_cases hall : ∀ e ∈ (ops[k]).after, Region.binds .any e = true → listed.getD e.on false = true
    · have : k ∈ Region.ready .any ops listed := mem_ready.2 ⟨by
        have : k < listed.size := by omega
        simp [this] at hl ⊢; exact hl, ops[k], ho, hall⟩
      intro e; rw [e] at this; cases this
    · simp only [Classical.not_forall] at hall
      obtain ⟨e, he, hb, hne⟩ := hall
      have hlt := famB_after hB ho he hb
      exact ih e.on hlt (by omega) (by simpa using hne)
theorem wpAny_fam {Q : Exit → Act → World → Prop} (hB : famB ops a0.tmps.size = true) (hT : ∀ x y z : World, E x y → E y z → E x z)
    (hM : ∀ i v x y, V i v x → E x y → V i v y) (hE0 : ∀ x, E x x) (hOb : Obs P ops E V a0 w0 0 ops.toList)
    (hQ : ∀ a w, E w0 w → a.defers = a0.defers → a.tmps.size = a0.tmps.size → (∀ t j, who ops t = some j → V j (a.tmps.getD t undef) w) → (∀ t, who ops t = none → a.tmps.getD t undef = a0.tmps.getD t undef) → Q .normal a w) :
    ∀ (fuel : Nat) (listed : Array Bool) (a : Act) (w : World), unl listed ops.size = fuel → FamInv ops E V a0 w0 listed a w → wpAny P .any ops Q fuel listed a w := by
  intro fuel
  induction fuel with
  | zero =>
    intro listed a w hu h
    have hall := fun i hi => unl_zero hu i hi
    refine ⟨?_, hQ a w h.ext h.dfs h.siz (fun t j hj => h.yes t j hj ?_) (fun t ht => h.no t (fun j hj => by rw [ht] at hj; cases hj))⟩
    · cases hr : Region.ready .any ops listed with
      | nil => rfl
      | cons i l =>
        have hi : i ∈ Region.ready .any ops listed := by rw [hr]; simp
        obtain ⟨h0, o, ho, _⟩ := mem_ready.1 hi
        have hlt := (Array.getElem?_eq_some_iff.1 ho).1
        have := hall i hlt
        have hls : i < listed.size := by rw [h.lsz]; exact hlt
        simp [hls] at h0 this
        rw [h0] at this; cases this
    · have hd := who_spec hj
      refine hall j ?_
      unfold dstAt at hd
      rcases Nat.lt_or_ge j ops.size with hl | hl
      · exact hl
      · rw [Array.getElem?_eq_none hl] at hd; cases hd
  | succ fuel ih =>
    intro listed a w hu h
    refine ⟨fun hnil => ?_, fun i hi => ?_⟩
    · exfalso
      have hpos : 0 < unl listed ops.size := by omega
      unfold unl at hpos
      rw [List.countP_pos_iff] at hpos
      obtain ⟨k, hk, hl⟩ := hpos
      exact some_ready hB h.lsz k (List.mem_range.1 hk) (by simpa using hl) hnil
    · obtain ⟨h0, o, ho, _⟩ := mem_ready.1 hi
      have hlt := (Array.getElem?_eq_some_iff.1 ho).1
      have hl0 : listed.getD i false = false := by
        have : i < listed.size := by rw [h.lsz]; exact hlt
        simp [this] at h0 ⊢; exact h0
      have hob := Obs.at_ ops.toList 0 hOb i o (by simpa using ho)
      rw [Nat.zero_add] at hob
      have hob := hob a w h.ext (h.seen hB hi)
      have next : ∀ u w', E w w' → V i u w' → wpAny P .any ops Q fuel (listed.setIfInBounds i true) (a.put o.dst u) w' := fun u w' hE hV =>
        ih _ _ _ (by have := unl_set h.lsz hlt hl0; omega) (h.put hB hT hM ho hi hE hV)
      unfold wpOp
      simp only [ho]
      split
      · rename_i hw
        rw [if_pos hw] at hob
        exact .inl (relAt.wp hob next)
      · rename_i hw
        rw [if_neg hw] at hob
        exact next _ _ (hE0 w) hob
/-- All that the slots hold at the end. -/
def AllV (V : Nat → Value → World → Prop) (x : Nat → Value) (w : World) : Nat → List (Option Tmp) → Prop
  | _, [] => True
  | i, some t :: l => V i (x t) w ∧ AllV V x w (i + 1) l
  | i, none :: l => AllV V x w (i + 1) l
theorem AllV_of {x : Nat → Value} {w : World} : ∀ (l : List (Option Tmp)) (k : Nat), (∀ i t, l[i]? = some (some t) → V (k + i) (x t) w) → AllV V x w k l
  | [], _, _ => trivial
  | some t :: l, k, h => ⟨h 0 t rfl, AllV_of l (k + 1) fun i t hi => by have := h (i + 1) t (by simpa using hi); rwa [show k + (i + 1) = k + 1 + i by omega] at this⟩
  | none :: l, k, h => by
    unfold AllV
    exact AllV_of l (k + 1) fun i t hi => by have := h (i + 1) t (by simpa using hi); rwa [show k + (i + 1) = k + 1 + i by omega] at this
def puts (x : Nat → Value) : List (Option Tmp) → Act → Act
  | [], a => a
  | some t :: l, a => puts x l (a.put (some t) (x t))
  | none :: l, a => puts x l a
theorem puts_defers (x : Nat → Value) : ∀ (l : List (Option Tmp)) (a : Act), (puts x l a).defers = a.defers
  | [], _ => rfl
  | some t :: l, a => by rw [puts, puts_defers x l]; rfl
  | none :: l, a => by rw [puts, puts_defers x l]
theorem puts_size (x : Nat → Value) : ∀ (l : List (Option Tmp)) (a : Act), (puts x l a).tmps.size = a.tmps.size
  | [], _ => rfl
  | some t :: l, a => by rw [puts, puts_size x l]; simp [Act.put]
  | none :: l, a => by rw [puts, puts_size x l]
theorem puts_out (x : Nat → Value) : ∀ (l : List (Option Tmp)) (a : Act) (s : Nat), some s ∉ l → (puts x l a).tmps.getD s undef = a.tmps.getD s undef
  | [], _, _, _ => rfl
  | some t :: l, a, s, h => by
    rw [puts, puts_out x l _ s (fun hh => h (by simp [hh]))]
    have hne : t ≠ s := fun e => h (by simp [e])
    simp [Act.put, Array.getElem?_setIfInBounds_ne hne]
  | none :: l, a, s, h => by rw [puts, puts_out x l _ s (fun hh => h (by simp [hh]))]
theorem puts_in (x : Nat → Value) : ∀ (l : List (Option Tmp)) (a : Act) (s : Nat), some s ∈ l → s < a.tmps.size → (puts x l a).tmps.getD s undef = x s
  | some t :: l, a, s, h, hs => by
    rw [puts]
    by_cases hm : some s ∈ l
    · exact puts_in x l _ s hm (by simpa [Act.put] using hs)
    · rw [puts_out x l _ s hm]
      have : s = t := by simpa [hm] using h
      subst this
      simp [Act.put, hs]
  | none :: l, a, s, h, hs => by
    rw [puts]
    exact puts_in x l _ s (by simpa using h) hs
theorem act_ext {a b : Act} (h1 : a.defers = b.defers) (h2 : a.tmps.size = b.tmps.size) (h3 : ∀ s, s < a.tmps.size → a.tmps.getD s undef = b.tmps.getD s undef) : a = b := by
  obtain ⟨ta, da⟩ := a
  obtain ⟨tb, db⟩ := b
  simp only at h1 h2 h3
  subst h1
  congr 1
  refine Array.ext h2 fun i hi hi' => ?_
  have := h3 i hi
  simpa [hi, hi'] using this

theorem no_list (n j : Nat) : (Array.replicate n false).getD j false = false := by
  by_cases h : j < n
  · simp [h]
  · simp [h]
/-- THE RULE: a region that draws its order. -/
theorem wp_region_fam {id : Nat} {Q : Exit → Act → World → Prop} {w : World} {n : Nat} (ds : List (Option Tmp)) (hm : P.follows .mixedOrders = true) (hn : a0.tmps.size = n) (hB : famB ops n = true)
    (hds : ops.toList.map (·.dst) = ds) (hT : ∀ x y z : World, E x y → E y z → E x z)
    (hM : ∀ i v x y, V i v x → E x y → V i v y) (hE0 : ∀ x, E x x) (hOb : Obs P ops E V a0 w.drew 0 ops.toList)
    (hQ : ∀ x w', E w.drew w' → AllV V x w' 0 ds → Q .normal (puts x ds a0) w') : (Code.region id ops true).wp P Q a0 w := by
  subst hn
  refine wp_region_any hm (wpAny_fam (E := E) (V := V) (w0 := w.drew) hB hT hM hE0 hOb ?_ _ _ _ _ ?_ ?_)
  · intro a w' hE hd hs hy hno
    have hmem : ∀ t, (who ops t = none ↔ some t ∉ ds) := by
      intro t
      rw [← hds]
      unfold who
      rw [List.find?_eq_none]
      constructor
      · intro h hm
        obtain ⟨o, ho, hdo⟩ := List.mem_map.1 hm
        obtain ⟨j, hj⟩ := List.getElem?_of_mem ho
        have hj' : ops[j]? = some o := by simpa using hj
        have hlt := (Array.getElem?_eq_some_iff.1 hj').1
        exact h j (List.mem_range.2 hlt) (by unfold dstAt; simp [hj', hdo])
      · intro h j hj hdj
        apply h
        unfold dstAt at hdj
        have hlt := List.mem_range.1 hj
        have ho : ops[j]? = some ops[j] := Array.getElem?_eq_getElem hlt
        simp only [ho, Option.bind_some, beq_iff_eq] at hdj
        exact List.mem_map.2 ⟨ops[j], Array.getElem_mem_toList hlt, hdj⟩
    have e : a = puts (fun t => a.tmps.getD t undef) ds a0 := by
      refine act_ext (by rw [puts_defers, hd]) (by rw [puts_size, hs]) fun s hlt => ?_
      by_cases hsd : some s ∈ ds
      · rw [puts_in _ _ _ _ hsd (by omega)]
      · rw [puts_out _ _ _ _ hsd]
        exact hno s ((hmem s).2 hsd)
    rw [e]
    refine hQ _ _ hE (AllV_of _ _ fun i t hi => ?_)
    rw [Nat.zero_add]
    refine hy t i ?_
    rw [← hds, List.getElem?_map] at hi
    obtain ⟨o, ho, hdo⟩ := Option.map_eq_some_iff.1 hi
    exact (famB_dst hB (by simpa using ho) hdo).1
  · unfold unl
    rw [List.countP_eq_length.2 (fun j hj => by rw [no_list]; rfl)]
    simp
  · refine ⟨hE0 _, rfl, rfl, by simp, ?_, ?_, fun _ _ => rfl⟩
    · intro i o _ hl; rw [no_list] at hl; cases hl
    · intro t j _ hl; rw [no_list] at hl; cases hl
end
def famV (Vs : List (Value → World → Prop)) (i : Nat) : Value → World → Prop := Vs.getD i fun _ _ => False
def MonoL (E : World → World → Prop) : List (Value → World → Prop) → Prop
  | [] => True
  | R :: l => (∀ v x y, R v x → E x y → R v y) ∧ MonoL E l
theorem MonoL.at_ {E : World → World → Prop} : ∀ {l : List (Value → World → Prop)}, MonoL E l → ∀ i v x y, famV l i v x → E x y → famV l i v y
  | [], _, i, v, x, y, h, _ => absurd h (by simp [famV])
  | R :: l, hm, 0, v, x, y, h, e => hm.1 v x y h e
  | R :: l, hm, i + 1, v, x, y, h, e => by
    have := MonoL.at_ hm.2 i v x y (by simpa [famV] using h) e
    simpa [famV] using this
theorem isV_mono (E : World → World → Prop) (u : Value) : ∀ v x y, isV u v x → E x y → isV u v y := fun _ _ _ h _ => h
section
variable {P : Program} {ops : Array Oper} {E : World → World → Prop} {Vs : List (Value → World → Prop)} {a0 : Act} {w0 : World}
theorem wp_region_fam_lit {id : Nat} {Q : Exit → Act → World → Prop} {w : World} {l : List Oper} {n : Nat} (Vs : List (Value → World → Prop)) (ds : List (Option Tmp)) (hm : P.follows .mixedOrders = true) (hn : a0.tmps.size = n)
    (hB : famB l.toArray n = true) (hds : l.map (·.dst) = ds) (hT : ∀ x y z : World, E x y → E y z → E x z) (hE0 : ∀ x, E x x) (hM : MonoL E Vs)
    (hOb : Obs P l.toArray E (famV Vs) a0 w.drew 0 l) (hQ : ∀ x w', E w.drew w' → AllV (famV Vs) x w' 0 ds → Q .normal (puts x ds a0) w') : (Code.region id l.toArray true).wp P Q a0 w :=
  wp_region_fam (E := E) (V := famV Vs) ds hm hn hB (by simpa using hds) hT hM.at_ hE0 (by simpa using hOb) hQ
theorem Obs.cons {V : Nat → Value → World → Prop} {i : Nat} {j : Nat} {o : Oper} {l : List Oper} (hj : i + 1 = j) (h : Ob P ops E V a0 w0 i o) (hl : Obs P ops E V a0 w0 j l) : Obs P ops E V a0 w0 i (o :: l) := by
  subst hj; exact ⟨h, hl⟩
theorem Ob.free {V : Nat → Value → World → Prop} {i : Nat} {o : Oper} (l : List (Tmp × Option Nat)) (hs : sees ops i = l) (R : Value → World → Prop) (hR : V i = R) (hg : o.guard = none)
    (h : ∀ a w, E w0 w → Seen V a0 a w l → relAt P o a E w R) : Ob P ops E V a0 w0 i o := by
  subst hs; subst hR
  intro a w hE hL
  rw [if_pos (by unfold Region.wanted; rw [hg])]
  exact h a w hE hL
theorem wanted_yes {a : Act} {o : Oper} {g : Nat} {b : Bool} {t : Tmp} (hg : o.guard = some (g, b)) (hd : dstAt ops g = some t) (hv : a.tmps.getD t undef = .bool b) : Region.wanted o (yielded ops a.tmps) = true := by
  unfold dstAt at hd
  unfold Region.wanted yielded
  rw [hg]
  simp only [hd]
  have : a.tmps[t]? = some (.bool b) := by
    rcases Nat.lt_or_ge t a.tmps.size with h | h
    · rw [Array.getElem?_eq_getElem h]
      simp [h] at hv
      rw [hv]
    · simp [Array.getElem?_eq_none h, undef] at hv
  simp [this]
theorem Ob.guarded {V : Nat → Value → World → Prop} {i : Nat} {o : Oper} (l : List (Tmp × Option Nat)) (hs : sees ops i = l) (R : Value → World → Prop) (hR : V i = R) (g : Nat) (b : Bool) (t : Tmp) (hg : o.guard = some (g, b)) (hd : dstAt ops g = some t)
    (h : ∀ a w, E w0 w → Seen V a0 a w l → a.tmps.getD t undef = .bool b ∧ relAt P o a E w R) : Ob P ops E V a0 w0 i o := by
  subst hs; subst hR
  intro a w hE hL
  obtain ⟨hv, h⟩ := h a w hE hL
  rw [if_pos (wanted_yes hg hd hv)]
  exact h
end
section
variable {P : Program} {ops : Array Oper} {E : World → World → Prop} {a0 : Act} {w0 : World}
theorem wanted_no {a : Act} {o : Oper} {g : Nat} {b : Bool} {t : Tmp} (hg : o.guard = some (g, b)) (hd : dstAt ops g = some t) (hv : a.tmps.getD t undef = .bool (!b)) : ¬ Region.wanted o (yielded ops a.tmps) = true := by
  unfold dstAt at hd
  unfold Region.wanted yielded
  rw [hg]
  simp only [hd]
  have : a.tmps[t]? = some (.bool (!b)) := by
    rcases Nat.lt_or_ge t a.tmps.size with h | h
    · rw [Array.getElem?_eq_getElem h]
      simp [h] at hv
      rw [hv]
    · simp [Array.getElem?_eq_none h, undef] at hv
  simp [this]
theorem Ob.skip {V : Nat → Value → World → Prop} {i : Nat} {o : Oper} (l : List (Tmp × Option Nat)) (hs : sees ops i = l) (hR : V i = isV undef) (g : Nat) (b : Bool) (t : Tmp) (hg : o.guard = some (g, b)) (hd : dstAt ops g = some t)
    (h : ∀ a w, E w0 w → Seen V a0 a w l → a.tmps.getD t undef = .bool (!b)) : Ob P ops E V a0 w0 i o := by
  subst hs
  intro a w hE hL
  rw [if_neg (wanted_no hg hd (h a w hE hL)), hR]
  rfl
end
section
variable {P : Program} {ops : Array Oper} {E : World → World → Prop} {V : Nat → Value → World → Prop} {a0 : Act} {w0 : World}
/-- An operation waits for another one, directly or through others. -/
def reach (ops : Array Oper) : Nat → Nat → Nat → Bool
  | 0, i, j => waits ops i j
  | n + 1, i, j => waits ops i j || (List.range ops.size).any fun k => waits ops i k && reach ops n k j
def tailB (ops : Array Oper) (n1 : Nat) : Bool := (List.range ops.size).all fun i => decide (i < n1) || (List.range n1).all fun j => reach ops 6 i j
theorem tailB_spec {n1 i j : Nat} (h : tailB ops n1 = true) (hi : i < ops.size) (h1 : n1 ≤ i) (hj : j < n1) : reach ops 6 i j = true := by
  simp only [tailB, List.all_eq_true, List.mem_range, Bool.or_eq_true, decide_eq_true_eq] at h
  rcases h i hi with h2 | h2
  · omega
  · exact h2 j hj
theorem reach_listed {listed : Array Bool} (hc : ∀ i o, ops[i]? = some o → listed.getD i false = true → ∀ e ∈ o.after, Region.binds .any e = true → listed.getD e.on false = true) :
    ∀ (n i j : Nat), (∀ k, waits ops i k = true → listed.getD k false = true) → reach ops n i j = true → listed.getD j false = true
  | 0, i, j, h, hr => h j hr
  | n + 1, i, j, h, hr => by
    simp only [reach, Bool.or_eq_true, List.any_eq_true, Bool.and_eq_true] at hr
    rcases hr with hr | ⟨k, _, h1, h2⟩
    · exact h j hr
    · refine reach_listed hc n k j (fun m hm => ?_) h2
      obtain ⟨o', ho', e, he, hb, rfl⟩ := waits_spec hm
      exact hc k o' ho' (h k h1) e he hb
theorem wpAny_fam_tail {Q : Exit → Act → World → Prop} {l1 : List Oper} (hB : famB ops a0.tmps.size = true) (hTB : tailB ops l1.length = true) (hle : l1.length ≤ ops.size) (hl : ∀ i, i < l1.length → l1[i]? = ops[i]?) (hT : ∀ x y z : World, E x y → E y z → E x z)
    (hM : ∀ i v x y, V i v x → E x y → V i v y) (hE0 : ∀ x, E x x) (hOb : Obs P ops E V a0 w0 0 l1)
    (hQ : ∀ listed a w, (∀ i, listed.getD i false = decide (i < l1.length)) → FamInv ops E V a0 w0 listed a w → wpAny P .any ops Q (ops.size - l1.length) listed a w) :
    ∀ (fuel : Nat) (listed : Array Bool) (a : Act) (w : World), unl listed l1.length = fuel → (∀ i, l1.length ≤ i → listed.getD i false = false) → FamInv ops E V a0 w0 listed a w → wpAny P .any ops Q (fuel + (ops.size - l1.length)) listed a w := by
  intro fuel
  induction fuel with
  | zero =>
    intro listed a w hu hno h
    rw [Nat.zero_add]
    refine hQ listed a w (fun i => ?_) h
    by_cases hi : i < l1.length
    · rw [unl_zero hu i hi]; simp [hi]
    · rw [hno i (by omega)]; simp [hi]
  | succ fuel ih =>
    intro listed a w hu hno h
    rw [show fuel + 1 + (ops.size - l1.length) = (fuel + (ops.size - l1.length)) + 1 by omega]
    have hpos : 0 < unl listed l1.length := by omega
    unfold unl at hpos
    rw [List.countP_pos_iff] at hpos
    obtain ⟨k, hk, hkl⟩ := hpos
    have hk := List.mem_range.1 hk
    have hkl : listed.getD k false = false := by simpa using hkl
    refine ⟨fun hnil => absurd hnil (some_ready hB h.lsz k (by omega) hkl), fun i hi => ?_⟩
    obtain ⟨h0, o, ho, hall⟩ := mem_ready.1 hi
    have hlt := (Array.getElem?_eq_some_iff.1 ho).1
    have hi1 : i < l1.length := by
      rcases Nat.lt_or_ge i l1.length with h1 | h1
      · exact h1
      · have := reach_listed h.cls 6 i k (fun m hm => by
          obtain ⟨o', ho', e, he, hb, rfl⟩ := waits_spec hm
          rw [ho] at ho'
          obtain rfl := Option.some.inj ho'
          exact hall e he hb) (tailB_spec hTB hlt h1 hk)
        rw [hkl] at this; cases this
    have hl0 : listed.getD i false = false := by
      have : i < listed.size := by rw [h.lsz]; exact hlt
      simp [this] at h0 ⊢; exact h0
    have hob := Obs.at_ l1 0 hOb i o (by rw [hl i hi1]; exact ho)
    rw [Nat.zero_add] at hob
    have hob := hob a w h.ext (h.seen hB hi)
    have hils : i < listed.size := by rw [h.lsz]; exact hlt
    have next : ∀ u w', E w w' → V i u w' → wpAny P .any ops Q (fuel + (ops.size - l1.length)) (listed.setIfInBounds i true) (a.put o.dst u) w' := fun u w' hE hV =>
      ih _ _ _ (by
        have := countP_set (fun j => !listed.getD j false) (fun j => !(listed.setIfInBounds i true).getD j false) i (by simp [hl0]) (by simp only [getD_setB hils]; simp) (fun j hj => by simp only [getD_setB hils, if_neg hj]) l1.length hi1
        unfold unl at hu ⊢; omega)
        (fun j hj => by rw [getD_setB hils, if_neg (by omega)]; exact hno j hj) (h.put hB hT hM ho hi hE hV)
    unfold wpOp
    simp only [ho]
    split
    · rename_i hw
      rw [if_pos hw] at hob
      exact .inl (relAt.wp hob next)
    · rename_i hw
      rw [if_neg hw] at hob
      exact next _ _ (hE0 w) hob
/-- THE RULE with a tail that waits for all that stands ahead of it. -/
theorem wp_region_fam_tail {id : Nat} {Q : Exit → Act → World → Prop} {w : World} {l1 l2 : List Oper} {n : Nat} (Vs : List (Value → World → Prop)) (ds : List (Option Tmp)) (listed : Array Bool) (hm : P.follows .mixedOrders = true) (hn : a0.tmps.size = n)
    (hB : famB (l1 ++ l2).toArray n = true) (hTB : tailB (l1 ++ l2).toArray l1.length = true) (hds : l1.map (·.dst) = ds) (hli : List.replicate l1.length true ++ List.replicate l2.length false = listed.toList)
    (hT : ∀ x y z : World, E x y → E y z → E x z) (hE0 : ∀ x, E x x) (hM : MonoL E Vs)
    (hOb : Obs P (l1 ++ l2).toArray E (famV Vs) a0 w.drew 0 l1) (hQ : ∀ x w', E w.drew w' → AllV (famV Vs) x w' 0 ds → wpAny P .any (l1 ++ l2).toArray Q l2.length listed (puts x ds a0) w') : (Code.region id (l1 ++ l2).toArray true).wp P Q a0 w := by
  subst hn
  have hle : l1.length ≤ (l1 ++ l2).toArray.size := by simp
  have hl : ∀ i, i < l1.length → l1[i]? = (l1 ++ l2).toArray[i]? := fun i hi => by simp [List.getElem?_append_left hi]
  refine wp_region_any hm ?_
  have key := wpAny_fam_tail (E := E) (V := famV Vs) (a0 := a0) (w0 := w.drew) (Q := Q) hB hTB hle hl hT hM.at_ hE0 hOb ?_ l1.length (Array.replicate (l1 ++ l2).toArray.size false) a0 { w with drawn := w.drawn + 1 } ?_ ?_ ?_
  · have e : l1.length + ((l1 ++ l2).toArray.size - l1.length) = (l1 ++ l2).toArray.size := by simp
    rw [e] at key
    exact key
  · intro li a w' hli' h
    have e1 : (l1 ++ l2).toArray.size - l1.length = l2.length := by simp
    have e2 : li = listed := by
      apply Array.ext'
      rw [← hli]
      apply List.ext_getElem?
      intro i
      have h1 := hli' i
      have hs : li.toList.length = l1.length + l2.length := by have := h.lsz; simpa using this
      by_cases hi : i < l1.length + l2.length
      · have h2 : li.toList[i]? = some (decide (i < l1.length)) := by
          have hi' : i < li.size := by rw [show li.size = l1.length + l2.length by simpa using hs]; exact hi
          simp [hi'] at h1 ⊢
          exact h1
        rw [h2]
        by_cases hi1 : i < l1.length
        · rw [List.getElem?_append_left (by simpa using hi1)]; simp [hi1]
        · rw [List.getElem?_append_right (by simpa using hi1)]
          rw [List.getElem?_replicate, if_pos (by rw [List.length_replicate]; omega)]
          simp [hi1]
      · rw [List.getElem?_eq_none (by omega), List.getElem?_eq_none (by rw [List.length_append, List.length_replicate, List.length_replicate]; omega)]
    have hw : ∀ t, (∀ j, who (l1 ++ l2).toArray t = some j → li.getD j false = false) ↔ some t ∉ ds := by
      intro t
      rw [← hds]
      constructor
      · intro hj hm
        obtain ⟨o, ho, hdo⟩ := List.mem_map.1 hm
        obtain ⟨j, hj'⟩ := List.getElem?_of_mem ho
        have hlt : j < l1.length := (List.getElem?_eq_some_iff.1 hj').1
        have := hj j (famB_dst hB (by rw [← hl j hlt]; exact hj') hdo).1
        rw [hli' j] at this
        simp [hlt] at this
      · intro hnm j hj
        rw [hli' j]
        by_cases hlt : j < l1.length
        · exfalso
          apply hnm
          have hd := who_spec hj
          unfold dstAt at hd
          rw [← hl j hlt, List.getElem?_eq_getElem hlt] at hd
          exact List.mem_map.2 ⟨l1[j], List.getElem_mem _, by simpa using hd⟩
        · simp [hlt]
    have e : a = puts (fun t => a.tmps.getD t undef) ds a0 := by
      refine act_ext (by rw [puts_defers, h.dfs]) (by rw [puts_size, h.siz]) fun s hlt => ?_
      by_cases hsd : some s ∈ ds
      · rw [puts_in _ _ _ _ hsd (by have := h.siz; omega)]
      · rw [puts_out _ _ _ _ hsd]
        exact h.no s ((hw s).2 hsd)
    rw [e1, e2, e]
    refine hQ _ _ h.ext (AllV_of _ _ fun i t hi => ?_)
    rw [Nat.zero_add]
    rw [← hds, List.getElem?_map] at hi
    obtain ⟨o, ho, hdo⟩ := Option.map_eq_some_iff.1 hi
    have hlt : i < l1.length := (List.getElem?_eq_some_iff.1 ho).1
    refine h.yes t i (famB_dst hB (by rw [← hl i hlt]; exact ho) hdo).1 ?_
    rw [hli' i]; simp [hlt]
  · unfold unl
    rw [List.countP_eq_length.2 (fun j hj => by rw [no_list]; rfl)]
    simp
  · intro i _; rw [no_list]
  · refine ⟨hE0 _, rfl, rfl, by simp, ?_, ?_, fun _ _ => rfl⟩
    · intro i o _ hl; rw [no_list] at hl; cases hl
    · intro t j _ hl; rw [no_list] at hl; cases hl
theorem wp_region_fam_tail_lit {id : Nat} {Q : Exit → Act → World → Prop} {w : World} {l : List Oper} {n : Nat} (n1 m : Nat) (Vs : List (Value → World → Prop)) (ds : List (Option Tmp)) (listed : Array Bool) (hm : P.follows .mixedOrders = true) (hn : a0.tmps.size = n)
    (hB : famB l.toArray n = true) (hTB : tailB l.toArray n1 = true) (hlen : l.length = n1 + m) (hds : (l.take n1).map (·.dst) = ds) (hli : List.replicate n1 true ++ List.replicate m false = listed.toList)
    (hT : ∀ x y z : World, E x y → E y z → E x z) (hE0 : ∀ x, E x x) (hM : MonoL E Vs)
    (hOb : Obs P l.toArray E (famV Vs) a0 w.drew 0 (l.take n1)) (hQ : ∀ x w', E w.drew w' → AllV (famV Vs) x w' 0 ds → wpAny P .any l.toArray Q m listed (puts x ds a0) w') : (Code.region id l.toArray true).wp P Q a0 w := by
  have e : l.take n1 ++ l.drop n1 = l := List.take_append_drop n1 l
  have h1 : (l.take n1).length = n1 := by simp; omega
  have h2 : (l.drop n1).length = m := by simp; omega
  have := wp_region_fam_tail (P := P) (E := E) (a0 := a0) (id := id) (Q := Q) (w := w) (l1 := l.take n1) (l2 := l.drop n1) (n := n) Vs ds listed hm hn (by rw [e]; exact hB) (by rw [e, h1]; exact hTB) hds (by rw [h1, h2]; exact hli) hT hE0 hM (by rw [e]; exact hOb)
    (by rw [e, h2]; exact hQ)
  rwa [e] at this
end
section
variable {P : Program} {ops : Array Oper} {E : World → World → Prop} {V : Nat → Value → World → Prop} {a0 : Act} {w0 : World}
/-- Every operation from n1 on waits for all ahead of n1 but those of the list. -/
def tailBP (ops : Array Oper) (n1 : Nat) (ps : List Nat) : Bool := (List.range ops.size).all fun i => decide (i < n1) || (List.range n1).all fun j => waits ops i j || ps.contains j
def apartB (ops : Array Oper) (j k : Nat) : Bool := match ops[j]?, ops[k]? with | some oj, some ok => oj.apart ops ok | _, _ => true
def freeB (ops : Array Oper) (ps : List Nat) : Bool := Region.noSelect ops && ps.all fun j => (List.range ops.size).all fun k => k == j || waits ops j k || waits ops k j || apartB ops j k
theorem tailBP_spec {n1 i j : Nat} {ps : List Nat} (h : tailBP ops n1 ps = true) (hi : i < ops.size) (h1 : n1 ≤ i) (hj : j < n1) : waits ops i j = true ∨ j ∈ ps := by
  simp only [tailBP, List.all_eq_true, List.mem_range, Bool.or_eq_true, decide_eq_true_eq] at h
  rcases h i hi with h2 | h2
  · omega
  · rcases h2 j hj with h3 | h3
    · exact .inl h3
    · exact .inr (by simpa using h3)
/-- What is to be shown of an operation that looks at no memory. -/
def ObPure (P : Program) (ops : Array Oper) (V : Nat → Value → World → Prop) (a0 : Act) (i : Nat) (o : Oper) : Prop :=
  o.guard = none ∧ ∀ a w, Seen V a0 a w (sees ops i) → ∃ v, V i v w ∧ ∀ w', (execOp a.eval o).run P w' = .ok (.value v) w'
theorem put_form (a : Act) (d : Option Tmp) (v : Value) : a.put d v = ⟨(a.put d v).tmps, a.defers⟩ := by cases d <;> rfl
theorem wpAny_fam_tailP {Q : Exit → Act → World → Prop} {l1 : List Oper} (ps : List Nat) (hB : famB ops a0.tmps.size = true) (hTB : tailBP ops l1.length ps = true) (hFB : freeB ops ps = true) (hle : l1.length ≤ ops.size) (hl : ∀ i, i < l1.length → l1[i]? = ops[i]?)
    (hT : ∀ x y z : World, E x y → E y z → E x z) (hQp : ∀ c (a : Act) t w, Q (.panic c) ⟨t, a.defers⟩ w → Q (.panic c) a w)
    (hM : ∀ i v x y, V i v x → E x y → V i v y) (hE0 : ∀ x, E x x) (hOb : Obs P ops E V a0 w0 0 l1) (hP : ∀ j ∈ ps, j < l1.length ∧ ∀ o, ops[j]? = some o → ObPure P ops V a0 j o)
    (hQ : ∀ listed a w, (∀ i, listed.getD i false = decide (i < l1.length)) → FamInv ops E V a0 w0 listed a w → wpAny P .any ops Q (ops.size - l1.length) listed a w) :
    ∀ (fuel : Nat) (listed : Array Bool) (a : Act) (w : World), unl listed l1.length = fuel → (∀ i, l1.length ≤ i → listed.getD i false = false) → FamInv ops E V a0 w0 listed a w → wpAny P .any ops Q (fuel + (ops.size - l1.length)) listed a w := by
  intro fuel
  induction fuel with
  | zero =>
    intro listed a w hu hno h
    rw [Nat.zero_add]
    refine hQ listed a w (fun i => ?_) h
    by_cases hi : i < l1.length
    · rw [unl_zero hu i hi]; simp [hi]
    · rw [hno i (by omega)]; simp [hi]
  | succ fuel ih =>
    intro listed a w hu hno h
    rw [show fuel + 1 + (ops.size - l1.length) = (fuel + (ops.size - l1.length)) + 1 by omega]
    have dec : ∀ i, i < l1.length → listed.getD i false = false → unl (listed.setIfInBounds i true) l1.length = fuel := fun i hi1 hl0 => by
      have hils : i < listed.size := by rw [h.lsz]; omega
      have := countP_set (fun j => !listed.getD j false) (fun j => !(listed.setIfInBounds i true).getD j false) i (by simp [hl0]) (by simp only [getD_setB hils]; simp) (fun j hj => by simp only [getD_setB hils, if_neg hj]) l1.length hi1
      unfold unl at hu ⊢; omega
    have tno : ∀ i, i < l1.length → ∀ j, l1.length ≤ j → (listed.setIfInBounds i true).getD j false = false := fun i hi1 j hj => by
      have hils : i < listed.size := by rw [h.lsz]; omega
      rw [getD_setB hils, if_neg (by omega)]; exact hno j hj
    have unlisted : ∀ i, i ∈ Region.ready .any ops listed → listed.getD i false = false := fun i hi => by
      obtain ⟨h0, o, ho, _⟩ := mem_ready.1 hi
      have hlt := (Array.getElem?_eq_some_iff.1 ho).1
      have : i < listed.size := by rw [h.lsz]; exact hlt
      simp [this] at h0 ⊢; exact h0
    by_cases hex : ∃ j ∈ ps, j ∈ Region.ready .any ops listed
    · obtain ⟨j, hj, hr⟩ := hex
      obtain ⟨h0, o, ho, hall⟩ := mem_ready.1 hr
      obtain ⟨hj1, hpure⟩ := hP j hj
      obtain ⟨hg, hv⟩ := hpure o ho
      obtain ⟨v, hV, hrun⟩ := hv a w (h.seen hB hr)
      simp only [freeB, Bool.and_eq_true, List.all_eq_true] at hFB
      refine wpAny_first (v := v) ho (Region.noSelect_spec hFB.1) (fun c a' w' hq => hQp c a' (a'.put o.dst v).tmps w' (put_form a' o.dst v ▸ hq)) _ _ _ _ (fun k ok hk hki hun hnw => ?_) hr (.inl ⟨by unfold Region.wanted; rw [hg], hrun⟩) ?_
      · have hklt := (Array.getElem?_eq_some_iff.1 hk).1
        have hf := hFB.2 j hj k (List.mem_range.2 hklt)
        simp only [Bool.or_eq_true, beq_iff_eq] at hf
        rcases hf with ((hf | hf) | hf) | hf
        · exact absurd hf hki
        · exfalso
          obtain ⟨o', ho', e, he, hb, rfl⟩ := waits_spec hf
          rw [ho] at ho'
          obtain rfl := Option.some.inj ho'
          have h1 := hall e he hb
          have hls : e.on < listed.size := by rw [h.lsz]; exact hklt
          simp [hls] at h1 hun
          rw [h1] at hun; cases hun
        · exfalso
          obtain ⟨o', ho', e, he, hb, hej⟩ := waits_spec hf
          rw [hk] at ho'
          obtain rfl := Option.some.inj ho'
          exact hnw e he hb hej
        · unfold apartB at hf
          simpa only [ho, hk] using hf
      · exact ih _ _ _ (dec j hj1 (unlisted j hr)) (tno j hj1) (h.put hB hT hM ho hr (hE0 w) hV)
    · have hpos : 0 < unl listed l1.length := by omega
      unfold unl at hpos
      rw [List.countP_pos_iff] at hpos
      obtain ⟨k0, hk0, hkl0⟩ := hpos
      have hk0 := List.mem_range.1 hk0
      have hkl0 : listed.getD k0 false = false := by simpa using hkl0
      refine ⟨fun hnil => absurd hnil (some_ready hB h.lsz k0 (by omega) hkl0), fun i hi => ?_⟩
      obtain ⟨h0, o, ho, hall⟩ := mem_ready.1 hi
      have hlt := (Array.getElem?_eq_some_iff.1 ho).1
      have hi1 : i < l1.length := by
        rcases Nat.lt_or_ge i l1.length with h1 | h1
        · exact h1
        · exfalso
          -- all that is not of the list has come up; the least of the list that has not may come up
          have key : ∀ k, k < l1.length → listed.getD k false = true := by
            intro k
            induction k using Nat.strongRecOn with
            | ind k ihk =>
              intro hk
              cases hlk : listed.getD k false with
              | true => rfl
              | false =>
                exfalso
                rcases tailBP_spec hTB hlt h1 hk with hw | hp
                · obtain ⟨o', ho', e, he, hb, rfl⟩ := waits_spec hw
                  rw [ho] at ho'
                  obtain rfl := Option.some.inj ho'
                  have := hall e he hb
                  rw [hlk] at this; cases this
                · have hks : k < ops.size := by omega
                  have hok : ops[k]? = some ops[k] := Array.getElem?_eq_getElem hks
                  refine hex ⟨k, hp, mem_ready.2 ⟨?_, ops[k], hok, fun e he hb => ihk e.on (famB_after hB hok he hb) (by have := famB_after hB hok he hb; omega)⟩⟩
                  have : k < listed.size := by rw [h.lsz]; exact hks
                  simp [this] at hlk ⊢; exact hlk
          rw [key k0 hk0] at hkl0; cases hkl0
      have hob := Obs.at_ l1 0 hOb i o (by rw [hl i hi1]; exact ho)
      rw [Nat.zero_add] at hob
      have hob := hob a w h.ext (h.seen hB hi)
      have next : ∀ u w', E w w' → V i u w' → wpAny P .any ops Q (fuel + (ops.size - l1.length)) (listed.setIfInBounds i true) (a.put o.dst u) w' := fun u w' hE hV =>
        ih _ _ _ (dec i hi1 (unlisted i hi)) (tno i hi1) (h.put hB hT hM ho hi hE hV)
      unfold wpOp
      simp only [ho]
      split
      · rename_i hw
        rw [if_pos hw] at hob
        exact .inl (relAt.wp hob next)
      · rename_i hw
        rw [if_neg hw] at hob
        exact next _ _ (hE0 w) hob
/-- THE RULE with a tail that waits for all that stands ahead of it but what looks at no memory. -/
theorem wp_region_fam_tailP {id : Nat} {Q : Exit → Act → World → Prop} {w : World} {l1 l2 : List Oper} {n : Nat} (Vs : List (Value → World → Prop)) (ds : List (Option Tmp)) (listed : Array Bool) (hm : P.follows .mixedOrders = true) (hn : a0.tmps.size = n)
    (hB : famB (l1 ++ l2).toArray n = true) (ps : List Nat) (hTB : tailBP (l1 ++ l2).toArray l1.length ps = true) (hFB : freeB (l1 ++ l2).toArray ps = true) (hQp : ∀ c (a : Act) t w, Q (.panic c) ⟨t, a.defers⟩ w → Q (.panic c) a w) (hP : ∀ j ∈ ps, j < l1.length ∧ ∀ o, (l1 ++ l2).toArray[j]? = some o → ObPure P (l1 ++ l2).toArray (famV Vs) a0 j o) (hds : l1.map (·.dst) = ds) (hli : List.replicate l1.length true ++ List.replicate l2.length false = listed.toList)
    (hT : ∀ x y z : World, E x y → E y z → E x z) (hE0 : ∀ x, E x x) (hM : MonoL E Vs)
    (hOb : Obs P (l1 ++ l2).toArray E (famV Vs) a0 w.drew 0 l1) (hQ : ∀ x w', E w.drew w' → AllV (famV Vs) x w' 0 ds → wpAny P .any (l1 ++ l2).toArray Q l2.length listed (puts x ds a0) w') : (Code.region id (l1 ++ l2).toArray true).wp P Q a0 w := by
  subst hn
  have hle : l1.length ≤ (l1 ++ l2).toArray.size := by simp
  have hl : ∀ i, i < l1.length → l1[i]? = (l1 ++ l2).toArray[i]? := fun i hi => by simp [List.getElem?_append_left hi]
  refine wp_region_any hm ?_
  have key := wpAny_fam_tailP (E := E) (V := famV Vs) (a0 := a0) (w0 := w.drew) (Q := Q) ps hB hTB hFB hle hl hT hQp hM.at_ hE0 hOb hP ?_ l1.length (Array.replicate (l1 ++ l2).toArray.size false) a0 { w with drawn := w.drawn + 1 } ?_ ?_ ?_
  · have e : l1.length + ((l1 ++ l2).toArray.size - l1.length) = (l1 ++ l2).toArray.size := by simp
    rw [e] at key
    exact key
  · intro li a w' hli' h
    have e1 : (l1 ++ l2).toArray.size - l1.length = l2.length := by simp
    have e2 : li = listed := by
      apply Array.ext'
      rw [← hli]
      apply List.ext_getElem?
      intro i
      have h1 := hli' i
      have hs : li.toList.length = l1.length + l2.length := by have := h.lsz; simpa using this
      by_cases hi : i < l1.length + l2.length
      · have h2 : li.toList[i]? = some (decide (i < l1.length)) := by
          have hi' : i < li.size := by rw [show li.size = l1.length + l2.length by simpa using hs]; exact hi
          simp [hi'] at h1 ⊢
          exact h1
        rw [h2]
        by_cases hi1 : i < l1.length
        · rw [List.getElem?_append_left (by simpa using hi1)]; simp [hi1]
        · rw [List.getElem?_append_right (by simpa using hi1)]
          rw [List.getElem?_replicate, if_pos (by rw [List.length_replicate]; omega)]
          simp [hi1]
      · rw [List.getElem?_eq_none (by omega), List.getElem?_eq_none (by rw [List.length_append, List.length_replicate, List.length_replicate]; omega)]
    have hw : ∀ t, (∀ j, who (l1 ++ l2).toArray t = some j → li.getD j false = false) ↔ some t ∉ ds := by
      intro t
      rw [← hds]
      constructor
      · intro hj hm
        obtain ⟨o, ho, hdo⟩ := List.mem_map.1 hm
        obtain ⟨j, hj'⟩ := List.getElem?_of_mem ho
        have hlt : j < l1.length := (List.getElem?_eq_some_iff.1 hj').1
        have := hj j (famB_dst hB (by rw [← hl j hlt]; exact hj') hdo).1
        rw [hli' j] at this
        simp [hlt] at this
      · intro hnm j hj
        rw [hli' j]
        by_cases hlt : j < l1.length
        · exfalso
          apply hnm
          have hd := who_spec hj
          unfold dstAt at hd
          rw [← hl j hlt, List.getElem?_eq_getElem hlt] at hd
          exact List.mem_map.2 ⟨l1[j], List.getElem_mem _, by simpa using hd⟩
        · simp [hlt]
    have e : a = puts (fun t => a.tmps.getD t undef) ds a0 := by
      refine act_ext (by rw [puts_defers, h.dfs]) (by rw [puts_size, h.siz]) fun s hlt => ?_
      by_cases hsd : some s ∈ ds
      · rw [puts_in _ _ _ _ hsd (by have := h.siz; omega)]
      · rw [puts_out _ _ _ _ hsd]
        exact h.no s ((hw s).2 hsd)
    rw [e1, e2, e]
    refine hQ _ _ h.ext (AllV_of _ _ fun i t hi => ?_)
    rw [Nat.zero_add]
    rw [← hds, List.getElem?_map] at hi
    obtain ⟨o, ho, hdo⟩ := Option.map_eq_some_iff.1 hi
    have hlt : i < l1.length := (List.getElem?_eq_some_iff.1 ho).1
    refine h.yes t i (famB_dst hB (by rw [← hl i hlt]; exact ho) hdo).1 ?_
    rw [hli' i]; simp [hlt]
  · unfold unl
    rw [List.countP_eq_length.2 (fun j hj => by rw [no_list]; rfl)]
    simp
  · intro i _; rw [no_list]
  · refine ⟨hE0 _, rfl, rfl, by simp, ?_, ?_, fun _ _ => rfl⟩
    · intro i o _ hl; rw [no_list] at hl; cases hl
    · intro t j _ hl; rw [no_list] at hl; cases hl
theorem wp_region_fam_tailP_lit {id : Nat} {Q : Exit → Act → World → Prop} {w : World} {l : List Oper} {n : Nat} (n1 m : Nat) (Vs : List (Value → World → Prop)) (ds : List (Option Tmp)) (listed : Array Bool) (ps : List Nat) (hm : P.follows .mixedOrders = true) (hn : a0.tmps.size = n)
    (hB : famB l.toArray n = true) (hTB : tailBP l.toArray n1 ps = true) (hFB : freeB l.toArray ps = true) (hQp : ∀ c (a : Act) t w, Q (.panic c) ⟨t, a.defers⟩ w → Q (.panic c) a w) (hlen : l.length = n1 + m) (hds : (l.take n1).map (·.dst) = ds) (hli : List.replicate n1 true ++ List.replicate m false = listed.toList)
    (hT : ∀ x y z : World, E x y → E y z → E x z) (hE0 : ∀ x, E x x) (hM : MonoL E Vs) (hP : ∀ j ∈ ps, j < n1 ∧ ∀ o, l[j]? = some o → ObPure P l.toArray (famV Vs) a0 j o)
    (hOb : Obs P l.toArray E (famV Vs) a0 w.drew 0 (l.take n1)) (hQ : ∀ x w', E w.drew w' → AllV (famV Vs) x w' 0 ds → wpAny P .any l.toArray Q m listed (puts x ds a0) w') : (Code.region id l.toArray true).wp P Q a0 w := by
  have e : l.take n1 ++ l.drop n1 = l := List.take_append_drop n1 l
  have h1 : (l.take n1).length = n1 := by simp; omega
  have h2 : (l.drop n1).length = m := by simp; omega
  have := wp_region_fam_tailP (P := P) (E := E) (a0 := a0) (id := id) (Q := Q) (w := w) (l1 := l.take n1) (l2 := l.drop n1) (n := n) Vs ds listed hm hn (by rw [e]; exact hB) ps (by rw [e, h1]; exact hTB) (by rw [e]; exact hFB) hQp
    (by rw [e, h1]; intro j hj; exact ⟨(hP j hj).1, fun o ho => (hP j hj).2 o (by simpa using ho)⟩) hds (by rw [h1, h2]; exact hli) hT hE0 hM (by rw [e]; exact hOb) (by rw [e, h2]; exact hQ)
  rwa [e] at this
end
theorem at_of {l : List Oper} {j : Nat} {o' : Oper} {Pr : Oper → Prop} (h : l[j]? = some o') (hp : Pr o') : ∀ o, l[j]? = some o → Pr o := fun o ho => by
  rw [h] at ho; obtain rfl := Option.some.inj ho; exact hp
theorem ObPure.mk' {P : Program} {ops : Array Oper} {V : Nat → Value → World → Prop} {a0 : Act} {i : Nat} {o : Oper} (l : List (Tmp × Option Nat)) (hs : sees ops i = l) (R : Value → World → Prop) (hR : V i = R) (hg : o.guard = none)
    (h : ∀ a w, Seen V a0 a w l → ∃ v, R v w ∧ ∀ w', (execOp a.eval o).run P w' = .ok (.value v) w') : ObPure P ops V a0 i o := by
  subst hs; subst hR; exact ⟨hg, h⟩
/-- What the region's worlds are to one another: what there was is as it was. -/
def Onto (x y : World) : Prop := Below x.heap.size x y
theorem Onto.refl (x : World) : Onto x x := Below.refl _ _
theorem onto_drew {w x : World} (h : Onto w.drew x) : Below w.heap.size w x := (Below.refl _ _).drew.trans (show Below w.heap.size w.drew x from h)
theorem Onto.trans (x y z : World) (h : Onto x y) (k : Onto y z) : Onto x z := Below.trans h (Below.mono k h.size)
end Go.Proofs.Ytmkgipoljbiocaa
/- A net, as the document's functions take it: with, spots. -/
namespace Go.Proofs.Ytmkgipoljbiocaa
open Go.RowKit
set_option linter.unusedVariables false

/-- A slice among a row's elements, and what it holds. -/
structure Sl (α : Type) where
  a : Option Addr
  l : Nat
  c : Nat
  xs : List α
instance {α : Type} : Inhabited (Sl α) := ⟨⟨none, 0, 0, []⟩⟩
def seC {α : Type} (o : Sl α) : List Value := [.slice o.a o.l o.c]
theorem seC_len {α : Type} (o : Sl α) : (seC o).length = 1 := rfl
theorem seC_one {α : Type} (o : Sl α) : ∀ u ∈ seC o, u.oneCell' = true := fun u hu => by simp [seC] at hu; subst hu; rfl
/-- A row of rows. -/
def NRow {α : Type} (C : α → List Value) (k : Nat) (w : World) (a : Option Addr) (n : Nat) (ls : List (List α)) : Prop :=
  ∃ os : List (Sl α), CRow seC 1 w a n os ∧ (∀ o ∈ os, CRow C k w o.a o.l o.xs) ∧ ls = os.map Sl.xs
theorem NRow.below {α : Type} {C : α → List Value} {k : Nat} {w w' : World} {a : Option Addr} {n : Nat} {ls : List (List α)} (h : NRow C k w a n ls) (hb : Below w.heap.size w w') : NRow C k w' a n ls := by
  obtain ⟨os, h1, h2, h3⟩ := h
  exact ⟨os, h1.below hb, fun o ho => (h2 o ho).below hb, h3⟩
theorem NRow.len {α : Type} {C : α → List Value} {k : Nat} {w : World} {a : Option Addr} {n : Nat} {ls : List (List α)} (h : NRow C k w a n ls) : ls.length = n ∧ n ≤ 9223372036854775807 := by
  obtain ⟨os, h1, h2, h3⟩ := h
  exact ⟨by rw [h3, List.length_map]; exact h1.1, h1.2.1⟩
theorem NRow.at_ {α : Type} {C : α → List Value} {k : Nat} {w : World} {a : Option Addr} {n : Nat} {ls : List (List α)} (h : NRow C k w a n ls) {i : Nat} (hi : i < n) :
    ∃ b off l, a = some ⟨b, off, none⟩ ∧ b < w.heap.size ∧ ls[i]? = some l ∧ ∃ A c, w.cell? ⟨b, off + i, none⟩ = some (.slice A l.length c) ∧ CRow C k w A l.length l := by
  obtain ⟨os, h1, h2, h3⟩ := h
  obtain ⟨b, off, o, ha, hb, ho, hc⟩ := h1.at_ hi
  have hr := h2 o (List.mem_of_getElem? ho)
  refine ⟨b, off, o.xs, ha, hb, by rw [h3, List.getElem?_map, ho]; rfl, o.a, o.c, ?_, ?_⟩
  · have := hc 0 _ rfl
    rw [hr.1]
    simpa using this
  · rw [hr.1]; exact hr
/-- A net. -/
structure NetS where
  sets : List (Nat → Bool)
  of : List Int
  last : List Bool
  fol : List (List Int)
  first : List Int
/-- Where a net's lists lie. -/
structure Nv where
  sa : Option Addr
  sn : Nat
  sc : Nat
  oa : Option Addr
  on : Nat
  oc : Nat
  la : Option Addr
  ln : Nat
  lc : Nat
  fa : Option Addr
  fn : Nat
  fc : Nat
  ra : Option Addr
  rn : Nat
  rc : Nat
def netA (v : Nv) : Array Value := #[.slice v.sa v.sn v.sc, .slice v.oa v.on v.oc, .slice v.la v.ln v.lc, .slice v.fa v.fn v.fc, .slice v.ra v.rn v.rc]
structure NetAt (w : World) (v : Nv) (N : NetS) : Prop where
  s : SRow w v.sa v.sn N.sets
  o : CRow intC 1 w v.oa v.on N.of
  l : CRow bolC 1 w v.la v.ln N.last
  f : NRow intC 1 w v.fa v.fn N.fol
  r : CRow intC 1 w v.ra v.rn N.first
theorem NetAt.below {w w' : World} {v : Nv} {N : NetS} (h : NetAt w v N) (hb : Below w.heap.size w w') : NetAt w' v N := ⟨h.s.below hb, h.o.below hb, h.l.below hb, h.f.below hb, h.r.below hb⟩
/-- Those of some spots whose set has a byte. -/
def hasS (N : NetS) (i : Nat) (b : Nat) : Bool := match N.sets[i]? with | some S => S b | none => false
def withUp (N : NetS) (l : List Int) (b : Nat) (k : Nat) : List Int := ((List.range k).filter fun (i : Nat) => l.contains (i : Int) && hasS N i b).map fun (i : Nat) => (i : Int)
def withL (N : NetS) (l : List Int) (b : Nat) : List Int := withUp N l b N.sets.length
theorem withUp_succ (N : NetS) (l : List Int) (b k : Nat) : withUp N l b (k + 1) = withUp N l b k ++ if (l.contains (k : Int) && hasS N k b) = true then [(k : Int)] else [] := by
  unfold withUp
  rw [List.range_succ, List.filter_append, List.map_append]
  by_cases h : (l.contains (k : Int) && hasS N k b) = true
  · rw [if_pos h, List.filter_cons, if_pos h]; rfl
  · rw [if_neg h, List.filter_cons, if_neg h]; rfl
theorem withUp_len (N : NetS) (l : List Int) (b k : Nat) : (withUp N l b k).length ≤ k := by
  unfold withUp
  rw [List.length_map]
  exact Nat.le_trans (List.length_filter_le _ _) (by simp)
/-- What a boxed argument and a new row leave. -/
theorem box_row {w : World} {g : Nat} (hg : w.heap.size = g) (cs : Array Value) (t e : TypeId) (k : Nat) :
    ∃ W, W = (w.alloc (.cells cs t)).alloc (.cells #[] e) ∧ W.heap.size = g + 2 ∧ Below g w W ∧ W.heap[g]? = some (.cells cs t (0, 0)) ∧ W.ownsRow (g + 1) e k (.slice (some ⟨g + 1, 0, none⟩) 0 0) 0 [] := by
  subst hg
  refine ⟨_, rfl, by simp, ((Below.refl _ _).alloc (Nat.le_refl _) _).alloc (by simp) _, ?_, ?_⟩
  · exact (Below.heap_alloc _ _ _ (by simp)).trans (heap_alloc_new w _)
  · have := own_zero (w.alloc (.cells cs t)) (w.heap.size + 1) e k (by simp)
    simpa using this
theorem netC {W : World} {g : Nat} {v : Nv} {t : TypeId} (h : W.heap[g]? = some (.cells (netA v) t (0, 0))) : W.cell? ⟨g, 0, none⟩ = some (.slice v.sa v.sn v.sc) ∧ W.cell? ⟨g, 1, none⟩ = some (.slice v.oa v.on v.oc) ∧
    W.cell? ⟨g, 2, none⟩ = some (.slice v.la v.ln v.lc) ∧ W.cell? ⟨g, 3, none⟩ = some (.slice v.fa v.fn v.fc) ∧ W.cell? ⟨g, 4, none⟩ = some (.slice v.ra v.rn v.rc) := by
  refine ⟨?_, ?_, ?_, ?_, ?_⟩ <;> (rw [cell_of_row W g _ _ _ _ h]; rfl)
set_option maxHeartbeats 1000000 in
theorem rwith_any (w : World) (v : Nv) (N : NetS) (a : Option Addr) (n c : Nat) (xs : List Int) (b : Nat) (hb : b < 256) (hv : NetAt w v N) (h : CRow intC 1 w a n xs) (hs : v.sn ≤ 100000) :
    Calls Try.prog 59 #[.agg (netA v), .slice a n c, .int .u8 (b : Int)] w (Giv 3 1 intC w (withL N xs b)) := by
  have hl1 := Lib.hid hv.s.1
  have hl2 := hv.s.2.1
  have HV := Lib.hid hv
  have HH := Lib.hid h
  obtain ⟨g, hg⟩ : ∃ g, w.heap.size = g := ⟨_, rfl⟩
  have HG := Lib.hid hg
  obtain ⟨W1, hW1, hs1, hb1, hbx, ho1⟩ := box_row hg (netA v) 27 3 1
  have HW1 := Lib.hid hW1
  have HBX := Lib.hid hbx
  have HO1 := Lib.hid ho1
  have HB1 := Lib.hid hb1
  have HS1 := Lib.hid hs1
  unfold Giv
  clear h hv hW1 hbx ho1 hb1 hs1
  go_enter Try.func59, Try.ntmps59
  go_wp2
  rw [← HW1.out]
  clear hg
  go_loopw [7, 8] (fun u i wr => ∃ k : Nat, k ≤ v.sn ∧ i = .int .i64 (k : Int) ∧ wr.ownsRow (g + 1) 3 1 u (withUp N xs b k).length ((withUp N xs b k).flatMap intC) ∧ Below (g + 1) W1 wr) (fun _ i _ => v.sn - (intOf i).toNat)
  case atStart => exact ⟨0, by omega, rfl, HO1.out, Below.refl _ _⟩
  case round =>
    obtain ⟨k, hk, rfl, hown, hbw⟩ := hrel
    have HF := Lib.hid (own_form hown)
    have HOW := Lib.hid hown
    have HBW := Lib.hid hbw
    have hgl : g + 2 ≤ wr.heap.size := by have := HS1.out; have := hbw.size; omega
    have c0 := (netC ((hbw.block g (by omega)).trans HBX.out)).1
    have HBT := Lib.hid (HB1.out.trans (hbw.mono (by omega)))
    have hlen := withUp_len N xs b k
    clear hown hbw
    obtain ⟨A, cc, rfl, hle, hcc⟩ := HF.out
    clear HF
    by_cases hlt : k < v.sn
    · have h0 : (0 : Int) ≤ (k : Int) := by omega
      have h1 : (k : Int) < (v.sn : Int) := by omega
      obtain ⟨b1, off, S, ha, hbl, hS, d0, d1, d2, d3⟩ := (HV.out.s.below (w' := wr) (by rw [HG.out]; exact HBT.out)).at_ hlt
      have HS := Lib.hid hS
      have HNX := Lib.hid (withUp_succ N xs b k)
      have HHS : Hid (hasS N k b = S b) := Lib.hid (by unfold hasS; rw [hS])
      have HHA := Lib.hid fun w => rhas_any w a n c xs (k : Int)
      have HRH := Lib.hid fun w' => refhas_any S b w' hb
      obtain ⟨l, hl⟩ : ∃ l, withUp N xs b k = l := ⟨_, rfl⟩
      rw [hl] at HNX HOW hlen hle ⊢
      rw [ha] at c0
      obtain ⟨p, hp⟩ : ∃ p, xs.contains (k : Int) = p := ⟨_, rfl⟩
      obtain ⟨q, hq⟩ : ∃ q, S b = q := ⟨_, rfl⟩
      rw [hp, HHS.out, hq] at HNX
      rw [hp] at HHA
      rw [hq] at HRH
      unfold setV at HRH
      clear hl hp hq hS HHS
      cases p with
      | false =>
        have HNE : Hid (withUp N xs b (k + 1) = l) := Lib.hid (by rw [HNX.out]; simp)
        go_wp2_with fail
        refine (HHA.out _ (HH.out.below (by rw [HG.out]; exact HBT.out))).mono ?_
        rintro e w2 ⟨rfl, rfl⟩
        go_wp2
        go_roundw
        case rel => exact ⟨k + 1, by omega, by go_num, by rw [HNE.out]; exact HOW.out, HBW.out⟩
        case measure => simp [intOf]; omega
      | true =>
        go_wp2_with fail
        refine (HHA.out _ (HH.out.below (by rw [HG.out]; exact HBT.out))).mono ?_
        rintro e w2 ⟨rfl, rfl⟩
        go_wp2_with fail
        refine (HRH.out _).mono ?_
        rintro e w2 ⟨rfl, hb2⟩
        have HB2 := Lib.hid (HBW.out.trans (hb2.mono (by omega)))
        have HOW2 := Lib.hid (ownB HOW.out hb2)
        have hg2 : g + 1 ≤ w2.heap.size := by have := hb2.size; omega
        clear hb2
        cases q with
        | false =>
          have HNE : Hid (withUp N xs b (k + 1) = l) := Lib.hid (by rw [HNX.out]; simp)
          go_wp2
          go_roundw
          case rel => exact ⟨k + 1, by omega, by go_num, by rw [HNE.out]; exact HOW2.out, HB2.out⟩
          case measure => simp [intOf]; omega
        | true =>
          have HNE : Hid (withUp N xs b (k + 1) = l ++ [(k : Int)]) := Lib.hid (by rw [HNX.out]; simp)
          have HLN : Hid ((l ++ [(k : Int)]).length = l.length + 1) := Lib.hid (by simp)
          have HAP := Lib.hid (app_int HOW2.out (k : Int) (by omega) hg2 w2.heap.size rfl)
          go_wp2_with (at_builtin; refine HAP.out _ _ _ _ _ rfl _ _ rfl rfl rfl ?_; intro gg cap w3 hown1 hgrow hat; have HW := Lib.hid hown1; have HB3 := Lib.hid (below_grown (HB2.out.alloc (by omega) _) (by simp; omega) hgrow (fun j hj => (own_ge HOW2.out hj).1)); clear hown1 hgrow hat)
          go_roundw
          case rel => exact ⟨k + 1, by omega, by go_num, by rw [HNE.out, HLN.out]; exact HW.out, HB3.out⟩
          case measure => simp [intOf]; omega
    · have hk2 : k = v.sn := by omega
      have HK : Hid (withUp N xs b k = withL N xs b) := Lib.hid (by unfold withL; rw [hl1.out, hk2])
      rw [HK.out] at HOW ⊢
      go_wp2
      go_ret
      exact Giv.mk rfl (own_mono HOW.out (by rw [HG.out]; omega)) (by rw [HG.out]; exact HBT.out)
end Go.Proofs.Ytmkgipoljbiocaa
