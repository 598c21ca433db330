/- Several texts in one: CRow, OwnRow, AppEl, AppRow, AppWp, RowsD, RowNew, Sets, Has, With, RxE, RxOps, RxWalk, RxT, OwnAt, Ints, SRow. -/
import Derived.WalkKit
import Derived.ProofKit
import Derived.OpenShut
import Derived.Deep.Slices
import Derived.Deep.Strs
import Derived.Lib.SmallJoins
import Derived.Below
import Derived.Maps.AppendAt
import Derived.Deep.AppendLies
import Derived.Lib.Hide
import Derived.Deep.AppendSrc
import Derived.Test.YtbefndibkpjgaaaRows
import Derived.WalkLawsBesides
import Derived.WalkSpells
import Derived.Deep.QuietTactic
import Derived.BigQuiet
import Derived.Laws.ResultCell
import Derived.Stop.BytesEq
import Derived.Lib.SliceRun
import Derived.Lib.QuietBelow
/- A slice whose elements are of any shape, as a list of them; and such an argument, opened. -/
namespace Go.Proofs.Ytbefndibkpjgaaa
open Go.RowKit Go.ChangeShapes Go.WideShapes Go.Deep

/-- A row of elements of k cells; C: an element's cells. -/
def CRow {α : Type} (C : α → List Value) (k : Nat) (w : World) (a : Option Addr) (len : Nat) (os : List α) : Prop :=
  os.length = len ∧ len ≤ 9223372036854775807 ∧
  (0 < len → ∃ b off, a = some ⟨b, off, none⟩ ∧ b < w.heap.size ∧ ∀ i o, os[i]? = some o → ∀ j v, (C o)[j]? = some v → w.cell? ⟨b, off + i * k + j, none⟩ = some v)
theorem CRow.below {α : Type} {C : α → List Value} {k : Nat} {w w' : World} {a : Option Addr} {len : Nat} {os : List α} (h : CRow C k w a len os) (hb : Below w.heap.size w w') : CRow C k w' a len os := by
  obtain ⟨h1, h2, h3⟩ := h
  refine ⟨h1, h2, fun hp => ?_⟩
  obtain ⟨b, off, ha, hlt, hc⟩ := h3 hp
  exact ⟨b, off, ha, by have := hb.size; omega, fun i o hi j v hv => (hb.cell (p := ⟨b, off + i * k + j, none⟩) hlt).trans (hc i o hi j v hv)⟩
theorem CRow.at_ {α : Type} {C : α → List Value} {k : Nat} {w : World} {a : Option Addr} {len : Nat} {os : List α} (h : CRow C k w a len os) {i : Nat} (hi : i < len) :
    ∃ b off o, a = some ⟨b, off, none⟩ ∧ b < w.heap.size ∧ os[i]? = some o ∧ ∀ j v, (C o)[j]? = some v → w.cell? ⟨b, off + i * k + j, none⟩ = some v := by
  obtain ⟨h1, h2, h3⟩ := h
  obtain ⟨b, off, ha, hlt, hc⟩ := h3 (by omega)
  have ho : os[i]? = some os[i] := List.getElem?_eq_getElem (by omega)
  exact ⟨b, off, _, ha, hlt, ho, hc i _ ho⟩
theorem CRow.nil {α : Type} {C : α → List Value} {k : Nat} (w : World) (a : Option Addr) : CRow C k w a 0 ([] : List α) := ⟨rfl, by decide, fun h => absurd h (by decide)⟩

section
variable {H : Type} {enc : TypeId × Value → H} {P : Program} {W : World} {fuel : Nat}
/-- A slice's elements, each by its own opening: what is known of each is kept ('G'). -/
theorem crow_open {α : Type} [Inhabited α] {C : α → List Value} {G : α → Prop} {t e : TypeId} {k : Nat} {a : Option Addr} {len cap : Nat} {x : DataW H × List MemPlace} (ht : P.underlying t = some (.slice e)) (hk : P.cellsOf e = k) (hk0 : 0 < k)
    (hel : ∀ n cs y, DataW.trod enc P W 0 (fun _ => true) true n e cs = some y → cs.length = k → ∃ o, cs = C o ∧ G o)
    (h : DataW.trod enc P W 0 (fun _ => true) true fuel t [.slice a len cap] = some x) : ∃ os : List α, CRow C k W a len os ∧ (∀ o ∈ os, G o) ∧ len ≤ cap ∧ cap ≤ 9223372036854775807 := by
  rcases open_slice ht h with ⟨hcs, _⟩ | ⟨b, l, c, m, n, D, Pl, hcs, hb, hl, hm, hmm, _, hi⟩
  · simp at hcs
    obtain ⟨rfl, rfl, rfl⟩ := hcs
    exact ⟨[], CRow.nil _ _, by simp, Nat.le_refl _, by decide⟩
  · simp at hcs
    obtain ⟨rfl, rfl, rfl⟩ := hcs
    rw [hk] at hi
    have hm' : m = cap := by simpa using hmm
    have key : ∀ i, i < len → ∃ o : α, G o ∧ (C o).length = k ∧ ∀ j v, (C o)[j]? = some v → W.cell? (b.add (i * k + j)) = some v := by
      intro i hil
      obtain ⟨cs', h1, h2⟩ := hi i (by omega)
      have hsz := (World.cells?_some h1).2.1
      obtain ⟨o, rfl, hg⟩ := hel _ _ _ h2 hsz
      refine ⟨o, hg, hsz, fun j v hj => ?_⟩
      have hjl : j < (C o).length := (List.getElem?_eq_some_iff.1 hj).1
      have := (World.cells?_some h1).2.2 j (by rw [← hsz]; exact hjl)
      rw [add_add] at this
      rw [this, hj]
    obtain ⟨F, hF⟩ := choose_lt (α := α) (p := fun i o => G o ∧ (C o).length = k ∧ ∀ j v, (C o)[j]? = some v → W.cell? (b.add (i * k + j)) = some v) key
    have hml : maxLen ≤ 9223372036854775807 := by decide
    refine ⟨(List.range len).map F, ⟨by simp, by omega, fun hp => ?_⟩, fun o ho => ?_, by omega, by omega⟩
    · obtain ⟨b0, off, spot⟩ := b
      obtain ⟨_, hl0, hF0⟩ := hF 0 hp
      obtain ⟨v0, hv0⟩ : ∃ v, (C (F 0))[0]? = some v := ⟨_, List.getElem?_eq_getElem (by omega)⟩
      have c0 := hF0 0 v0 hv0
      have hspot : spot = none := by simpa [Addr.add] using World.cell?_spot c0
      subst hspot
      refine ⟨b0, off, rfl, by have := World.block_lt_of_cell? W _ c0; rwa [Go.WideShapes.add_plain] at this, fun i o hi' j v hv => ?_⟩
      have hil : i < len := by
        have := (List.getElem?_eq_some_iff.1 hi').1
        simpa using this
      have hS : o = F i := by
        rw [List.getElem?_map, List.getElem?_range hil] at hi'
        simpa using hi'.symm
      subst hS
      rw [show off + i * k + j = off + (i * k + j) by omega, ← Go.WideShapes.add_plain]
      exact (hF i hil).2.2 j v hv
    · obtain ⟨i, hi', rfl⟩ := List.mem_map.1 ho
      exact (hF i (List.mem_range.1 hi')).1
end
end Go.Proofs.Ytbefndibkpjgaaa
/- Rows of the call's own: in later worlds; as rows of elements. -/
namespace Go.Proofs.Ytbefndibkpjgaaa
open Go.RowKit

theorem ownB {W W' : World} {base : Nat} {e : TypeId} {size : Nat} {v : Value} {n : Nat} {xs : List Value} (h : W.ownsRow base e size v n xs) (hb : Below W.heap.size W W') : W'.ownsRow base e size v n xs := by
  refine ⟨h.1, ?_⟩
  rcases h.2 with h2 | ⟨g, cap, cur, hv, hbg, hg, r⟩
  · exact Or.inl h2
  · refine Or.inr ⟨g, cap, cur, hv, hbg, ?_, r⟩
    have hlt : g < W.heap.size := by
      rcases Nat.lt_or_ge g W.heap.size with hl | hl
      · exact hl
      · rw [Array.getElem?_eq_none hl] at hg; cases hg
    exact (hb.block g hlt).trans hg
theorem own_form {w : World} {base : Nat} {e : TypeId} {size : Nat} {v : Value} {n : Nat} {xs : List Value} (h : w.ownsRow base e size v n xs) : ∃ A c, v = .slice A n c ∧ n ≤ c ∧ c ≤ 9223372036854775807 := by
  have hm : maxLen ≤ 9223372036854775807 := by decide
  rcases h.2 with ⟨rfl, rfl⟩ | ⟨g, cap, cur, rfl, _, _, h1, h2, _⟩
  · exact ⟨_, _, rfl, Nat.le_refl _, by decide⟩
  · exact ⟨_, _, rfl, h1, by omega⟩
theorem own_ge {w : World} {base : Nat} {e : TypeId} {size : Nat} {v : Value} {n : Nat} {xs : List Value} (h : w.ownsRow base e size v n xs) {k : Nat} (hk : v.ownBlock = some k) : base ≤ k ∧ k < w.heap.size := h.lt k hk
theorem own_mono {w : World} {base base' : Nat} {e : TypeId} {size : Nat} {v : Value} {n : Nat} {xs : List Value} (h : w.ownsRow base e size v n xs) (hb : base' ≤ base) : w.ownsRow base' e size v n xs := by
  obtain ⟨h1, h2⟩ := h
  refine ⟨h1, ?_⟩
  rcases h2 with h2 | ⟨g, cap, cur, hv, hg, r⟩
  · exact .inl h2
  · exact .inr ⟨g, cap, cur, hv, by omega, r⟩
theorem own_new (w : World) (base : Nat) (e : TypeId) (size : Nat) : w.ownsRow base e size (.slice none 0 0) 0 [] := World.ownsRow_nil _ _ _ _
/-- An owned row is a row of elements. -/
theorem flat_get {α : Type} {C : α → List Value} {k : Nat} (hk : ∀ o, (C o).length = k) : ∀ (os : List α) (i : Nat) (o : α), os[i]? = some o → ∀ (j : Nat) (v : Value), (C o)[j]? = some v → (os.flatMap C)[i * k + j]? = some v
  | [], i, o, h, _, _, _ => by simp at h
  | x :: l, 0, o, h, j, v, hj => by
    simp at h; subst h
    have hjl : j < (C x).length := (List.getElem?_eq_some_iff.1 hj).1
    rw [List.flatMap_cons, Nat.zero_mul, Nat.zero_add, List.getElem?_append_left hjl, hj]
  | x :: l, i + 1, o, h, j, v, hj => by
    have := flat_get hk l i o (by simpa using h) j v hj
    rw [List.flatMap_cons, List.getElem?_append_right (by rw [hk]; rw [Nat.succ_mul]; omega), hk, ← this]
    congr 1
    rw [Nat.succ_mul]; omega
theorem own_crow {α : Type} {C : α → List Value} {k : Nat} (hk : ∀ o, (C o).length = k) {w : World} {base : Nat} {e : TypeId} {A : Option Addr} {c : Nat} {os : List α} (h : w.ownsRow base e k (.slice A os.length c) os.length (os.flatMap C)) (hl : os.length ≤ 9223372036854775807) : CRow C k w A os.length os := by
  refine ⟨rfl, hl, fun hp => ?_⟩
  rcases h.2 with ⟨_, h0⟩ | ⟨g, cap, cur, hv, hb, hg, _⟩
  · omega
  · injection hv with hA
    subst hA
    refine ⟨g, 0, rfl, (h.lt g rfl).2, fun i o hi j v hj => ?_⟩
    have := h.cells (g := g) rfl (i * k + j) v (flat_get hk os i o hi j v hj)
    have e : (⟨g, 0, none⟩ : Addr).add (i * k + j) = ⟨g, i * k + j, none⟩ := by unfold Addr.add; split <;> simp_all
    rw [e] at this
    rw [Nat.zero_add]; exact this
theorem below_grown {B : Nat} {w wa w1 : World} {v : Value} (hb : Below B w wa) (hB : B ≤ wa.heap.size) (hg : wa.grownBy w1 v.ownBlock) (hge : ∀ k, v.ownBlock = some k → B ≤ k) : Below B w w1 := hb.grown hg hB hge
end Go.Proofs.Ytbefndibkpjgaaa
/- append(v, x): one element of any shape behind a row of the call's own. -/
namespace Go.Proofs.Ytbefndibkpjgaaa
open Go.RowKit
set_option linter.unusedVariables false

theorem own_snoc' {α : Type} {C : α → List Value} {w : World} {base : Nat} {e : TypeId} {k n : Nat} {v : Value} {os : List α} {o : α} (h : w.ownsRow base e k v n (os.flatMap C ++ C o)) : w.ownsRow base e k v n ((os ++ [o]).flatMap C) := by
  simpa using h
theorem app_el {P : Program} {α : Type} {C : α → List Value} {k bytes : Nat} {z : Value} {T e : TypeId} (hk0 : 0 < k) (hC : ∀ o, (C o).length = k) (hC1 : ∀ o, ∀ u ∈ C o, u.oneCell' = true) (ht : P.underlying T = some (.slice e))
    (hinfo : (P.info? e).map (fun i => (i.zero, i.size, i.bytes)) = some (some z, k, bytes)) (hzs : z.cells.size = k)
    {w : World} {base n : Nat} {v : Value} {os : List α} (hown : w.ownsRow base e k v n (os.flatMap C)) (p : α) (hn : n + 1 ≤ maxLen) (hb : (n + 1) * bytes ≤ 140737488355328) (hbase : base ≤ w.heap.size) (H : Nat) (hH : w.heap.size = H) (cs : Array Value) (hcs : cs = (C p).toArray)
    (ops : Array Oper) (rest : List Oper) (o : Oper) (a : Act) (Q : Exit → Act → World → Prop) (hg : o.guard = none) (s x : Operand) (ho : o.op = .call { callee := .builtin .append, args := #[s, x], argTypes := #[T, T] })
    (hs : a.eval s = v) (hx : a.eval x = .slice (some ⟨H, 0, none⟩) 1 1)
    (h : ∀ g cap w', w'.ownsRow base e k (.slice (some ⟨g, 0, none⟩) (n + 1) cap) (n + 1) ((os ++ [p]).flatMap C) → (w.alloc (.cells cs e)).grownBy w' v.ownBlock → (v.ownBlock = some g ∨ g = H + 1) →
      wpList P ops Q rest (a.put o.dst (.slice (some ⟨g, 0, none⟩) (n + 1) cap)) w') : wpList P ops Q (o :: rest) a (w.alloc (.cells cs e)) := by
  subst hH hcs
  obtain ⟨i0, hii, hz0, hz1, hz2⟩ := info_parts hinfo
  exact wpList_append_lies _ hg s x T ho base e i0 _ k bytes ht hii hz0 hz1 hz2 hzs hk0 v n (os.flatMap C) hs (hown.alloc _) ⟨w.heap.size, 0, none⟩ 1 1 (C p) hx (by rw [hC]; omega)
    (World.news_of_block (cs := (C p).toArray) (t := e) (fr := (0, 0)) (heap_alloc_new w _)) (hC1 p) (by omega) (by unfold maxLen at *; omega) hb (by simp; omega) (w.heap.size + 1) (by simp)
    fun g cap w' h1 h2 h3 _ => h g cap w' (own_snoc' (o := p) h1) h2 h3
end Go.Proofs.Ytbefndibkpjgaaa
/- append(v, s...): a row of elements behind a row of the call's own; s may be empty, or none. -/
namespace Go.Proofs.Ytbefndibkpjgaaa
open Go.RowKit
set_option linter.unusedVariables false

theorem setCells_nil (w : World) (b i : Nat) : w.setCells b i [] = w := rfl
theorem run_append_row {P : Program} {α : Type} {C : α → List Value} {k : Nat} (w : World) (t ty : TypeId) (base : Nat) (e : TypeId) (i : TypeInfo) (z : Value) (bytes : Nat) (ht : P.underlying t = some (.slice e)) (hi : P.info? e = some i) (hz : i.zero = some z)
    (hsize : i.size = k) (hby : i.bytes = bytes) (hzs : z.cells.size = k) (hk0 : 0 < k) (hC : ∀ o, (C o).length = k) (hC1 : ∀ o, ∀ u ∈ C o, u.oneCell' = true)
    (v : Value) (n : Nat) (xs : List Value) (hown : w.ownsRow base e k v n xs)
    (a : Option Addr) (m c : Nat) (os : List α) (hr : CRow C k w a m os)
    (h63 : n + m ≤ maxLen) (hbytes : (n + m) * bytes ≤ 140737488355328) (hbase : base ≤ w.heap.size) :
    ∃ v' w', (Builtin.append_ #[t, t] ty #[v, .slice a m c]).run P w = .ok v' w' ∧ w'.ownsRow base e k v' (n + m) (xs ++ os.flatMap C) ∧ w.grownBy w' v.ownBlock ∧ (v'.ownBlock = v.ownBlock ∨ v'.ownBlock = some w.heap.size) := by
  have h1 : ∀ u ∈ os.flatMap C, u.oneCell' = true := fun u hu => by
    obtain ⟨o, _, ho⟩ := List.mem_flatMap.1 hu
    exact hC1 o u ho
  have hlen : ∀ l : List α, (l.flatMap C).length = l.length * k := fun l => by
    induction l with
    | nil => simp
    | cons x l ih => rw [List.flatMap_cons, List.length_append, ih, hC, List.length_cons, Nat.succ_mul, Nat.add_comm]
  have hl : (os.flatMap C).length = m * k := by rw [hlen, hr.1]
  cases a with
  | some ad =>
    have hnews : ∀ j u, (os.flatMap C)[j]? = some u → w.cell? (ad.add j) = some u := by
      intro j u hu
      have hj : j < m * k := by rw [← hl]; exact (List.getElem?_eq_some_iff.1 hu).1
      have hm : 0 < m := by
        rcases Nat.eq_zero_or_pos m with h0 | h0
        · subst h0; simp at hj
        · exact h0
      obtain ⟨b, off, ha, hlt, hc⟩ := hr.2.2 hm
      obtain rfl := Option.some.inj ha
      have hdm : j / k < m := by
        rw [Nat.div_lt_iff_lt_mul hk0]; exact hj
      have hjm : j % k < k := Nat.mod_lt _ hk0
      have ho : os[j / k]? = some (os[j / k]'(by rw [hr.1]; exact hdm)) := List.getElem?_eq_getElem (by rw [hr.1]; exact hdm)
      have hv : (C (os[j / k]'(by rw [hr.1]; exact hdm)))[j % k]? = some ((C (os[j / k]'(by rw [hr.1]; exact hdm)))[j % k]'(by rw [hC]; exact hjm)) := List.getElem?_eq_getElem (by rw [hC]; exact hjm)
      have e1 := flat_get hC os (j / k) _ ho (j % k) _ hv
      have e2 : j / k * k + j % k = j := by rw [Nat.mul_comm]; exact Nat.div_add_mod j k
      rw [e2, hu] at e1
      obtain rfl := Option.some.inj e1
      have := hc (j / k) _ ho (j % k) _ hv
      rw [show off + j / k * k + j % k = off + j by omega] at this
      have e : (⟨b, off, none⟩ : Addr).add j = ⟨b, off + j, none⟩ := by unfold Addr.add; split <;> simp_all
      rw [e]; exact this
    obtain ⟨v', w', hrun, h2, h3, _, h5⟩ := run_append_own_at (P := P) w base t ty e i z k bytes ht hi hz hsize hby hzs hk0 v n xs hown ad m c (os.flatMap C) hl hnews h1 h63 hbytes hbase
    exact ⟨v', w', hrun, h2, h3, h5⟩
  | none =>
    have hm : m = 0 := by
      rcases Nat.eq_zero_or_pos m with h0 | h0
      · exact h0
      · obtain ⟨b, off, ha, _⟩ := hr.2.2 h0; cases ha
    subst hm
    have hos : os = [] := List.length_eq_zero_iff.1 hr.1
    subst hos
    have grow0 : w.grownBy w v.ownBlock := World.grownBy.refl _ _
    refine ⟨v, w, ?_, by simpa using hown, grow0, .inl rfl⟩
    rcases hown.2 with ⟨rfl, rfl⟩ | ⟨g, cap, cur, rfl, hbg, hg, hnc, hcm, hcs, htake⟩
    · simp [Builtin.append_, run_underlying ht, sizeOf, typeInfo, hi, Builtin.lenOf, Builtin.firstCells]
    · have := run_append_room_src (P := P) w t t ty e i ht hi g 0 n cap (.slice none 0 c) 0 [] (Src.ofNil w ht c) (by omega) (by simp) (by simp)
      rw [this, setCells_nil]; rfl
/-- At a plain region's list. -/
theorem wpList_append_row {P : Program} {α : Type} {C : α → List Value} {k : Nat} (w : World) {ops : Array Oper} {rest : List Oper} {o : Oper} {act : Act} {Q : Exit → Act → World → Prop} (hgd : o.guard = none) (s x : Operand) (t : TypeId)
    (ho : o.op = .call { callee := .builtin .append, args := #[s, x], argTypes := #[t, t] })
    (base : Nat) (e : TypeId) (i : TypeInfo) (z : Value) (bytes : Nat) (ht : P.underlying t = some (.slice e)) (hi : P.info? e = some i) (hz : i.zero = some z)
    (hsize : i.size = k) (hby : i.bytes = bytes) (hzs : z.cells.size = k) (hk0 : 0 < k) (hC : ∀ o, (C o).length = k) (hC1 : ∀ o, ∀ u ∈ C o, u.oneCell' = true)
    (v : Value) (n : Nat) (xs : List Value) (hs : act.eval s = v) (hown : w.ownsRow base e k v n xs)
    (a : Option Addr) (m c : Nat) (os : List α) (hx : act.eval x = .slice a m c) (hr : CRow C k w a m os)
    (h63 : n + m ≤ maxLen) (hbytes : (n + m) * bytes ≤ 140737488355328) (hbase : base ≤ w.heap.size)
    (h : ∀ v' w', w'.ownsRow base e k v' (n + m) (xs ++ os.flatMap C) → w.grownBy w' v.ownBlock → (v'.ownBlock = v.ownBlock ∨ v'.ownBlock = some w.heap.size) → wpList P ops Q rest (act.put o.dst v') w') : wpList P ops Q (o :: rest) act w := by
  refine wpList_plain hgd fun K hK => ?_
  obtain ⟨v', w', hrun, h2, h3, h4⟩ := run_append_row (P := P) w t o.type base e i z bytes ht hi hz hsize hby hzs hk0 hC hC1 v n xs hown a m c os hr h63 hbytes hbase
  unfold Oper.wp execOp
  simp only [ho, resolve, invoke, builtin, Sem.run_bind, Sem.run_pure, Result.andThen_ok, List.map_toArray, List.map_cons, List.map_nil, hs, hx, hrun]
  exact hK _ _ (h v' w' h2 h3 h4)
end Go.Proofs.Ytbefndibkpjgaaa
/- append at one operation of a region that draws its order. -/
namespace Go.Proofs.Ytbefndibkpjgaaa
open Go.RowKit
set_option linter.unusedVariables false

/-- A row of elements behind a row of the call's own. -/
theorem wp_app_row {P : Program} {α : Type} {C : α → List Value} {k bytes : Nat} {z : Value} {t e : TypeId} (hk0 : 0 < k) (hC : ∀ o, (C o).length = k) (hC1 : ∀ o, ∀ u ∈ C o, u.oneCell' = true) (ht : P.underlying t = some (.slice e))
    (hinfo : (P.info? e).map (fun i => (i.zero, i.size, i.bytes)) = some (some z, k, bytes)) (hzs : z.cells.size = k) (w : World) {o : Oper} {act : Act} {K : Act → World → Prop} {Q : Exit → Act → World → Prop} (s x : Operand)
    (ho : o.op = .call { callee := .builtin .append, args := #[s, x], argTypes := #[t, t] }) {base n : Nat} {v : Value} {xs : List α} (hs : act.eval s = v) (hown : w.ownsRow base e k v n (xs.flatMap C))
    {a : Option Addr} {m c : Nat} {os : List α} (hx : act.eval x = .slice a m c) (hr : CRow C k w a m os) (h63 : n + m ≤ maxLen) (hbytes : (n + m) * bytes ≤ 140737488355328) (hbase : base ≤ w.heap.size)
    (h : ∀ v' w', w'.ownsRow base e k v' (n + m) ((xs ++ os).flatMap C) → w.grownBy w' v.ownBlock → (v'.ownBlock = v.ownBlock ∨ v'.ownBlock = some w.heap.size) → K (act.put o.dst v') w') : o.wp P act w K Q := by
  obtain ⟨i, hi, hz, hsize, hby⟩ := info_parts hinfo
  obtain ⟨v', w', hrun, h2, h3, h4⟩ := run_append_row (P := P) w t o.type base e i z bytes ht hi hz hsize hby hzs hk0 hC hC1 v n (xs.flatMap C) hown a m c os hr h63 hbytes hbase
  unfold Oper.wp execOp
  simp only [ho, resolve, invoke, builtin, Sem.run_bind, Sem.run_pure, Result.andThen_ok, List.map_toArray, List.map_cons, List.map_nil, hs, hx, hrun]
  exact h v' w' (by rw [List.flatMap_append]; exact h2) h3 h4
/-- One element behind a row of the call's own: it lies in a block of its own. -/
theorem wp_app_el {P : Program} {α : Type} {C : α → List Value} {k bytes : Nat} {z : Value} {t e : TypeId} (hk0 : 0 < k) (hC : ∀ o, (C o).length = k) (hC1 : ∀ o, ∀ u ∈ C o, u.oneCell' = true) (ht : P.underlying t = some (.slice e))
    (hinfo : (P.info? e).map (fun i => (i.zero, i.size, i.bytes)) = some (some z, k, bytes)) (hzs : z.cells.size = k) (w : World) {o : Oper} {act : Act} {K : Act → World → Prop} {Q : Exit → Act → World → Prop} (s x : Operand)
    (ho : o.op = .call { callee := .builtin .append, args := #[s, x], argTypes := #[t, t] }) {base n : Nat} {v : Value} {xs : List α} (hs : act.eval s = v) (hown : w.ownsRow base e k v n (xs.flatMap C))
    {g : Nat} (y : α) (hx : act.eval x = .slice (some ⟨g, 0, none⟩) 1 1) (hg : w.heap[g]? = some (.cells (C y).toArray e (0, 0))) (h63 : n + 1 ≤ maxLen) (hbytes : (n + 1) * bytes ≤ 140737488355328) (hbase : base ≤ w.heap.size)
    (h : ∀ g' c' w', w'.ownsRow base e k (.slice (some ⟨g', 0, none⟩) (n + 1) c') (n + 1) ((xs ++ [y]).flatMap C) → w.grownBy w' v.ownBlock → (v.ownBlock = some g' ∨ g' = w.heap.size) → K (act.put o.dst (.slice (some ⟨g', 0, none⟩) (n + 1) c')) w') : o.wp P act w K Q := by
  obtain ⟨i, hi, hz, hsize, hby⟩ := info_parts hinfo
  exact wp_append_lies w s x t ho base e i z k bytes ht hi hz hsize hby hzs hk0 v n (xs.flatMap C) hs hown ⟨g, 0, none⟩ 1 1 (C y) hx (by rw [hC]; omega) (fun j u hu => World.news_of_block hg j u hu) (hC1 y) (by omega) h63 hbytes hbase w.heap.size rfl
    fun g' c' w' h1 h2 h3 _ => h g' c' w' (own_snoc' (o := y) h1) h2 h3
/-- The two at a step of a region that draws its order. -/
theorem step_app_el {P : Program} {α : Type} {C : α → List Value} {k bytes : Nat} {z : Value} {t e : TypeId} (hk0 : 0 < k) (hC : ∀ o, (C o).length = k) (hC1 : ∀ o, ∀ u ∈ C o, u.oneCell' = true) (ht : P.underlying t = some (.slice e))
    (hinfo : (P.info? e).map (fun i => (i.zero, i.size, i.bytes)) = some (some z, k, bytes)) (hzs : z.cells.size = k) (w : World) {ops : Array Oper} {o : Oper} {act : Act} {K : Act → World → Prop} {Q : Exit → Act → World → Prop} {E : Prop} (hgd : o.guard = none) (s x : Operand)
    (ho : o.op = .call { callee := .builtin .append, args := #[s, x], argTypes := #[t, t] }) {base n : Nat} {v : Value} {xs : List α} (hs : act.eval s = v) (hown : w.ownsRow base e k v n (xs.flatMap C))
    {g : Nat} (y : α) (hx : act.eval x = .slice (some ⟨g, 0, none⟩) 1 1) (hg : w.heap[g]? = some (.cells (C y).toArray e (0, 0))) (h63 : n + 1 ≤ maxLen) (hbytes : (n + 1) * bytes ≤ 140737488355328) (hbase : base ≤ w.heap.size)
    (h : ∀ g' c' w', w'.ownsRow base e k (.slice (some ⟨g', 0, none⟩) (n + 1) c') (n + 1) ((xs ++ [y]).flatMap C) → w.grownBy w' v.ownBlock → (v.ownBlock = some g' ∨ g' = w.heap.size) → K (act.put o.dst (.slice (some ⟨g', 0, none⟩) (n + 1) c')) w') :
    if Region.wanted o (yielded ops act.tmps) = true then o.wp P act w K Q else E := by
  have hw : Region.wanted o (yielded ops act.tmps) = true := by simp [Region.wanted, hgd]
  rw [if_pos hw]
  exact wp_app_el hk0 hC hC1 ht hinfo hzs w s x ho hs hown y hx hg h63 hbytes hbase h
theorem step_app_row {P : Program} {α : Type} {C : α → List Value} {k bytes : Nat} {z : Value} {t e : TypeId} (hk0 : 0 < k) (hC : ∀ o, (C o).length = k) (hC1 : ∀ o, ∀ u ∈ C o, u.oneCell' = true) (ht : P.underlying t = some (.slice e))
    (hinfo : (P.info? e).map (fun i => (i.zero, i.size, i.bytes)) = some (some z, k, bytes)) (hzs : z.cells.size = k) (w : World) {ops : Array Oper} {o : Oper} {act : Act} {K : Act → World → Prop} {Q : Exit → Act → World → Prop} {E : Prop} (hgd : o.guard = none) (s x : Operand)
    (ho : o.op = .call { callee := .builtin .append, args := #[s, x], argTypes := #[t, t] }) {base n : Nat} {v : Value} {xs : List α} (hs : act.eval s = v) (hown : w.ownsRow base e k v n (xs.flatMap C))
    {a : Option Addr} {m c : Nat} {os : List α} (hx : act.eval x = .slice a m c) (hr : CRow C k w a m os) (h63 : n + m ≤ maxLen) (hbytes : (n + m) * bytes ≤ 140737488355328) (hbase : base ≤ w.heap.size)
    (h : ∀ v' w', w'.ownsRow base e k v' (n + m) ((xs ++ os).flatMap C) → w.grownBy w' v.ownBlock → (v'.ownBlock = v.ownBlock ∨ v'.ownBlock = some w.heap.size) → K (act.put o.dst v') w') :
    if Region.wanted o (yielded ops act.tmps) = true then o.wp P act w K Q else E := by
  have hw : Region.wanted o (yielded ops act.tmps) = true := by simp [Region.wanted, hgd]
  rw [if_pos hw]
  exact wp_app_row hk0 hC hC1 ht hinfo hzs w s x ho hs hown hx hr h63 hbytes hbase h
end Go.Proofs.Ytbefndibkpjgaaa
/- Several rows of the call's own, apart from one another; a box beside them. -/
namespace Go.Proofs.Ytbefndibkpjgaaa
open Go.RowKit
set_option linter.unusedVariables false

/-- A row: its element's type, how many cells that has, the slice, how many elements, the cells. -/
structure RowD where
  e : TypeId
  k : Nat
  v : Value
  n : Nat
  xs : List Value
def RowD.at_ (r : RowD) (B : Nat) (w : World) : Prop := w.ownsRow B r.e r.k r.v r.n r.xs
/-- Rows that are apart. -/
structure RowsD (B : Nat) (w : World) (rs : List RowD) : Prop where
  own : ∀ r ∈ rs, r.at_ B w
  apart : ∀ (i j : Nat) (r s : RowD), rs[i]? = some r → rs[j]? = some s → i ≠ j → ∀ k, r.v.ownBlock = some k → s.v.ownBlock ≠ some k
theorem RowsD.below {B : Nat} {w w' : World} {rs : List RowD} (h : RowsD B w rs) (hb : Below w.heap.size w w') : RowsD B w' rs := ⟨fun r hr => ownB (h.own r hr) hb, h.apart⟩
theorem own_kept {w w' : World} {base : Nat} {e : TypeId} {size : Nat} {v : Value} {n : Nat} {xs : List Value} (h : w.ownsRow base e size v n xs) (hk : ∀ k, v.ownBlock = some k → w'.heap[k]? = w.heap[k]?) : w'.ownsRow base e size v n xs := by
  refine ⟨h.1, ?_⟩
  rcases h.2 with h2 | ⟨g, cap, cur, rfl, hbg, hg, r⟩
  · exact Or.inl h2
  · exact Or.inr ⟨g, cap, cur, rfl, hbg, (hk g rfl).trans hg, r⟩
/-- A store elsewhere. -/
theorem RowsD.kept {B : Nat} {w w' : World} {rs : List RowD} (h : RowsD B w rs) (hk : ∀ r ∈ rs, ∀ k, r.v.ownBlock = some k → w'.heap[k]? = w.heap[k]?) : RowsD B w' rs := ⟨fun r hr => own_kept (h.own r hr) (hk r hr), h.apart⟩
/-- A row grows. -/
theorem RowsD.grow {B : Nat} {w wa w' : World} {rs : List RowD} (h : RowsD B w rs) (hb : Below w.heap.size w wa) {i : Nat} {r r' : RowD} (hi : rs[i]? = some r) (hg : wa.grownBy w' r.v.ownBlock) (hr' : r'.at_ B w') (hv : r'.v.ownBlock = r.v.ownBlock ∨ ∃ b, r'.v.ownBlock = some b ∧ w.heap.size ≤ b) : RowsD B w' (rs.set i r') := by
  have hil : i < rs.length := (List.getElem?_eq_some_iff.1 hi).1
  have keep : ∀ (j : Nat) s, rs[j]? = some s → j ≠ i → s.at_ B w' := fun j s hj hne => by
    refine own_kept (h.own s (List.mem_of_getElem? hj)) fun k hk => ?_
    have hlt := ((h.own s (List.mem_of_getElem? hj)).lt k hk).2
    have h1 : wa.heap[k]? = w.heap[k]? := hb.block k hlt
    have h2 : w'.heap[k]? = wa.heap[k]? := hg.block k (by have := hb.size; omega) (fun e => h.apart j i s r hj hi hne k hk e.symm)
    exact h2.trans h1
  refine ⟨fun s hs => ?_, fun a b s t ha hb2 hne k hk => ?_⟩
  · obtain ⟨j, hj⟩ := List.getElem?_of_mem hs
    rw [List.getElem?_set] at hj
    by_cases hij : i = j
    · subst hij
      rw [if_pos rfl, if_pos hil] at hj
      obtain rfl := Option.some.inj hj
      exact hr'
    · rw [if_neg hij] at hj
      exact keep j s hj (fun e => hij e.symm)
  · rw [List.getElem?_set] at ha hb2
    by_cases h1 : i = a
    · subst h1
      rw [if_pos rfl, if_pos hil] at ha
      obtain rfl := Option.some.inj ha
      rw [if_neg hne] at hb2
      rcases hv with hv | ⟨z, hz, hz2⟩
      · rw [hv] at hk
        exact h.apart i b r t hi hb2 hne k hk
      · rw [hz] at hk
        obtain rfl := Option.some.inj hk
        intro e
        have := ((h.own t (List.mem_of_getElem? hb2)).lt z e).2
        omega
    · rw [if_neg h1] at ha
      by_cases h2 : i = b
      · subst h2
        rw [if_pos rfl, if_pos hil] at hb2
        obtain rfl := Option.some.inj hb2
        rcases hv with hv | ⟨z, hz, hz2⟩
        · rw [hv]; exact h.apart a i s r ha hi hne k hk
        · rw [hz]
          intro e
          obtain rfl := Option.some.inj e
          have := ((h.own s (List.mem_of_getElem? ha)).lt z hk).2
          omega
      · rw [if_neg h2] at hb2
        exact h.apart a b s t ha hb2 hne k hk
/-- A row more, made since. -/
theorem RowsD.add {B : Nat} {w w' : World} {rs : List RowD} (h : RowsD B w rs) (hb : Below w.heap.size w w') {r : RowD} (hr : w'.ownsRow w.heap.size r.e r.k r.v r.n r.xs) (hB : B ≤ w.heap.size) : RowsD B w' (rs ++ [r]) := by
  have h' := h.below hb
  have hlt : ∀ s ∈ rs, ∀ k, s.v.ownBlock = some k → k < w.heap.size := fun s hs k hk => ((h.own s hs).lt k hk).2
  have hge : ∀ k, r.v.ownBlock = some k → w.heap.size ≤ k := fun k hk => (hr.lt k hk).1
  refine ⟨fun s hs => ?_, fun a b s t ha hb2 hne k hk => ?_⟩
  · rcases List.mem_append.1 hs with hs | hs
    · exact h'.own s hs
    · rw [List.mem_singleton] at hs; subst hs; exact own_mono hr hB
  · have cas : ∀ (i : Nat) u, (rs ++ [r])[i]? = some u → (rs[i]? = some u ∧ i < rs.length) ∨ (i = rs.length ∧ u = r) := fun i u hu => by
      by_cases hi : i < rs.length
      · rw [List.getElem?_append_left hi] at hu; exact .inl ⟨hu, hi⟩
      · rw [List.getElem?_append_right (by omega)] at hu
        have h0 := (List.getElem?_eq_some_iff.1 hu).1
        simp at h0
        have : i - rs.length = 0 := by omega
        rw [this] at hu
        exact .inr ⟨by omega, by simpa using hu.symm⟩
    rcases cas a s ha with ⟨ha1, _⟩ | ⟨ha1, hs⟩
    · rcases cas b t hb2 with ⟨hb3, _⟩ | ⟨hb3, ht⟩
      · exact h.apart a b s t ha1 hb3 hne k hk
      · intro e
        have h1 := hlt s (List.mem_of_getElem? ha1) k hk
        have h2 := hge k (by rw [← ht]; exact e)
        omega
    · rcases cas b t hb2 with ⟨hb3, _⟩ | ⟨hb3, ht⟩
      · intro e
        have h1 := hlt t (List.mem_of_getElem? hb3) k e
        have h2 := hge k (by rw [← hs]; exact hk)
        omega
      · omega
theorem own_type {w : World} {base : Nat} {e : TypeId} {size : Nat} {v : Value} {n : Nat} {xs : List Value} (h : w.ownsRow base e size v n xs) {k : Nat} (hk : v.ownBlock = some k) : ∃ cur, w.heap[k]? = some (.cells cur e (0, 0)) := by
  rcases h.2 with ⟨rfl, _⟩ | ⟨g, cap, cur, rfl, hbg, hg, r⟩
  · simp [Value.ownBlock] at hk
  · have : g = k := by simpa [Value.ownBlock] using hk
    subst this; exact ⟨cur, hg⟩
/-- A box of another type is none of them. -/
theorem RowsD.box {B : Nat} {w : World} {rs : List RowD} (h : RowsD B w rs) {X : Nat} {cs : Array Value} {t : TypeId} (hx : w.heap[X]? = some (.cells cs t (0, 0))) (ht : ∀ r ∈ rs, r.e ≠ t) : ∀ r ∈ rs, r.v.ownBlock ≠ some X := fun r hr e => by
  obtain ⟨cur, hc⟩ := own_type (h.own r hr) e
  rw [hx] at hc
  have := Option.some.inj hc
  injection this with _ h2 _
  exact ht r hr h2.symm
end Go.Proofs.Ytbefndibkpjgaaa
/- Where a row lies when it has grown; a row in the place of one that is nil. -/
namespace Go.Proofs.Ytbefndibkpjgaaa
open Go.RowKit
theorem row_new {v : Value} {w : World} {gg H : Nat} {a : Option Nat} (h : a = some gg ∨ gg = H) (hH : w.heap.size ≤ H) (hv : v.ownBlock = some gg) : v.ownBlock = a ∨ ∃ b, v.ownBlock = some b ∧ w.heap.size ≤ b := by
  rcases h with h | h
  · exact .inl (by rw [hv, h])
  · exact .inr ⟨gg, hv, by omega⟩
theorem own_none (w : World) (B : Nat) (e : TypeId) (k : Nat) : w.ownsRow B e k (.slice none 0 0) 0 [] := World.ownsRow_nil _ _ _ _
theorem RowsD.fresh {B : Nat} {w w' : World} {rs : List RowD} (h : RowsD B w rs) (hb : Below w.heap.size w w') {i : Nat} {z r : RowD} (hi : rs[i]? = some z) (hr : w'.ownsRow w.heap.size r.e r.k r.v r.n r.xs) (hB : B ≤ w.heap.size) : RowsD B w' (rs.set i r) := by
  have hil : i < rs.length := (List.getElem?_eq_some_iff.1 hi).1
  have hlt : ∀ s ∈ rs, ∀ k, s.v.ownBlock = some k → k < w.heap.size := fun s hs k hk => ((h.own s hs).lt k hk).2
  have hge : ∀ k, r.v.ownBlock = some k → w.heap.size ≤ k := fun k hk => (hr.lt k hk).1
  have h' := h.below hb
  have cas : ∀ (j : Nat) u, (rs.set i r)[j]? = some u → (rs[j]? = some u ∧ i ≠ j) ∨ (i = j ∧ u = r) := fun j u hu => by
    rw [List.getElem?_set] at hu
    by_cases hij : i = j
    · subst hij
      rw [if_pos rfl, if_pos hil] at hu
      exact .inr ⟨rfl, (Option.some.inj hu).symm⟩
    · rw [if_neg hij] at hu; exact .inl ⟨hu, hij⟩
  refine ⟨fun s hs => ?_, fun a b s t ha hb2 hne k hk => ?_⟩
  · obtain ⟨j, hj⟩ := List.getElem?_of_mem hs
    rcases cas j s hj with ⟨h1, _⟩ | ⟨_, rfl⟩
    · exact h'.own s (List.mem_of_getElem? h1)
    · exact own_mono hr hB
  · rcases cas a s ha with ⟨ha1, ha2⟩ | ⟨ha1, hs⟩
    · rcases cas b t hb2 with ⟨hb3, _⟩ | ⟨hb3, ht⟩
      · exact h.apart a b s t ha1 hb3 hne k hk
      · intro e
        have h1 := hlt s (List.mem_of_getElem? ha1) k hk
        have h2 := hge k (by rw [← ht]; exact e)
        omega
    · rcases cas b t hb2 with ⟨hb3, _⟩ | ⟨hb3, ht⟩
      · intro e
        have h1 := hlt t (List.mem_of_getElem? hb3) k e
        have h2 := hge k (by rw [← hs]; exact hk)
        omega
      · omega
theorem own_lit {α : Type} {C : α → List Value} {k : Nat} (hk : ∀ o, (C o).length = k) (w : World) (base : Nat) (e : TypeId) (hb : base ≤ w.heap.size) (o : α) (cs : Array Value) (hcs : cs = (C o).toArray) : (w.alloc (.cells cs e)).ownsRow base e k (.slice (some ⟨w.heap.size, 0, none⟩) 1 1) 1 ([o].flatMap C) := by
  subst hcs
  refine ⟨by simp [hk], .inr ⟨w.heap.size, 1, (C o).toArray, rfl, hb, heap_alloc_new w _, Nat.le_refl _, by decide, by simp [hk], ?_⟩⟩
  simp [List.take_of_length_le, hk]
end Go.Proofs.Ytbefndibkpjgaaa
/- Sets of bytes as functions, and the four words that hold one: plain lemmas. -/
namespace Go.Proofs.Ytbefndibkpjgaaa
open Go.RowKit

/-- The number whose bits below n are f's. -/
def wdf (f : Nat → Bool) : Nat → Nat
  | 0 => 0
  | n + 1 => wdf f n + (if f n then 2 ^ n else 0)
theorem wdf_lt (f : Nat → Bool) : ∀ n, wdf f n < 2 ^ n
  | 0 => by simp [wdf]
  | n + 1 => by
    have := wdf_lt f n
    simp only [wdf]
    split <;> (rw [Nat.pow_succ]; omega)
theorem wdf_bit (f : Nat → Bool) : ∀ n k, (wdf f n).testBit k = (decide (k < n) && f k)
  | 0, k => by simp [wdf]
  | n + 1, k => by
    have hl := wdf_lt f n
    have ih := wdf_bit f n k
    simp only [wdf]
    by_cases hf : f n
    · rw [if_pos hf, Nat.add_comm]
      rcases Nat.lt_trichotomy k n with h | h | h
      · rw [Nat.testBit_two_pow_add_gt h, ih]
        simp [h, Nat.lt_succ_of_lt h]
      · subst h
        rw [Nat.testBit_two_pow_add_eq, ih]
        simp [hf]
      · have : 2 ^ n + wdf f n < 2 ^ k := by
          have h2 : 2 ^ (n + 1) ≤ 2 ^ k := Nat.pow_le_pow_right (by omega) h
          rw [Nat.pow_succ] at h2; omega
        rw [Nat.testBit_lt_two_pow this]
        have h1 : ¬ k < n + 1 := by omega
        simp [h1]
    · rw [if_neg hf, Nat.add_zero, ih]
      rcases Nat.lt_trichotomy k n with h | h | h
      · simp [h, Nat.lt_succ_of_lt h]
      · subst h; simp [hf]
      · have h1 : ¬ k < n + 1 := by omega
        have h2 : ¬ k < n := by omega
        simp [h1, h2]
/-- Word i of a set. -/
def wd (S : Nat → Bool) (i : Nat) : Nat := wdf (fun k => S (64 * i + k)) 64
theorem wd_lt (S : Nat → Bool) (i : Nat) : wd S i < 18446744073709551616 := wdf_lt _ 64
theorem wd_bit (S : Nat → Bool) (i k : Nat) : (wd S i).testBit k = (decide (k < 64) && S (64 * i + k)) := wdf_bit _ 64 k
theorem wd_ext {S : Nat → Bool} {i a : Nat} (ha : a < 18446744073709551616) (h : ∀ k, k < 64 → a.testBit k = S (64 * i + k)) : a = wd S i := by
  apply Nat.eq_of_testBit_eq
  intro k
  rw [wd_bit]
  by_cases hk : k < 64
  · simp [hk, h k hk]
  · have : a < 2 ^ k := Nat.lt_of_lt_of_le (show a < 2 ^ 64 from ha) (Nat.pow_le_pow_right (by omega) (by omega : 64 ≤ k))
    rw [Nat.testBit_lt_two_pow this]; simp [hk]
theorem wd_congr {S T : Nat → Bool} {i : Nat} (h : ∀ k, k < 64 → S (64 * i + k) = T (64 * i + k)) : wd S i = wd T i :=
  wd_ext (wd_lt S i) fun k hk => by rw [wd_bit]; simp [hk, h k hk]
theorem wd_inj {S T : Nat → Bool} {i : Nat} (h : wd S i = wd T i) : ∀ k, k < 64 → S (64 * i + k) = T (64 * i + k) := by
  intro k hk
  have := congrArg (fun a => a.testBit k) h
  simp only [wd_bit, hk, decide_true, Bool.true_and] at this
  exact this
/-- The value of a set. -/
def setV (S : Nat → Bool) : Value := .agg #[.int .u64 (wd S 0), .int .u64 (wd S 1), .int .u64 (wd S 2), .int .u64 (wd S 3)]
/-- The same bytes below 256. -/
def SameSet (S T : Nat → Bool) : Prop := ∀ x, x < 256 → S x = T x
theorem SameSet.wd_eq {S T : Nat → Bool} (h : SameSet S T) (i : Nat) (hi : i < 4) : wd S i = wd T i := wd_congr fun k hk => h _ (by omega)
theorem SameSet.val {S T : Nat → Bool} (h : SameSet S T) : setV S = setV T := by
  unfold setV; rw [h.wd_eq 0 (by omega), h.wd_eq 1 (by omega), h.wd_eq 2 (by omega), h.wd_eq 3 (by omega)]
theorem SameSet.of_words {S T : Nat → Bool} (h : ∀ i, i < 4 → wd S i = wd T i) : SameSet S T := by
  intro x hx
  have := wd_inj (h (x / 64) (by omega)) (x % 64) (by omega)
  rwa [show 64 * (x / 64) + x % 64 = x by omega] at this
/-- The set of four words. -/
def ofWords (a : Nat → Nat) : Nat → Bool := fun x => (a (x / 64)).testBit (x % 64)
theorem wd_ofWords (a : Nat → Nat) (i : Nat) (h : a i < 18446744073709551616) : wd (ofWords a) i = a i :=
  (wd_ext h fun k hk => by unfold ofWords; rw [show (64 * i + k) / 64 = i by omega, show (64 * i + k) % 64 = k by omega]).symm
/-- A word's bit, as Go asks for it: by a mask, by a shift. -/
theorem shr_odd (x k : Nat) : (x / 2 ^ k % 2 == 1) = x.testBit k := by
  rw [Nat.testBit_eq_decide_div_mod_eq]
  by_cases h : x / 2 ^ k % 2 = 1 <;> simp [h]
theorem and_pow_ne (x k : Nat) : ((x &&& 2 ^ k) != 0) = x.testBit k := by
  rw [nat_bit, ← shr_odd]
  have hp : 0 < 2 ^ k := Nat.two_pow_pos k
  have : x / 2 ^ k % 2 = 0 ∨ x / 2 ^ k % 2 = 1 := by omega
  rcases this with h | h
  · simp [h]
  · rw [h]; simp
theorem bits_and_u64 (a b : Nat) (ha : a < 18446744073709551616) (hb : b < 18446744073709551616) : bits .and .u64 (a : Int) (b : Int) = ((a &&& b : Nat) : Int) := u64_and_nat a b ha hb
theorem bits_or_u64 (a b : Nat) (ha : a < 18446744073709551616) (hb : b < 18446744073709551616) : bits .or .u64 (a : Int) (b : Int) = ((a ||| b : Nat) : Int) := u64_or_nat a b ha hb
/-- What And, All, Not come to, word by word. -/
theorem wd_and (S T : Nat → Bool) (i : Nat) : wd S i &&& wd T i = wd (fun x => S x && T x) i :=
  wd_ext (Nat.lt_of_le_of_lt Nat.and_le_left (wd_lt S i)) fun k hk => by simp [Nat.testBit_and, wd_bit, hk]
theorem wd_or (S T : Nat → Bool) (i : Nat) : wd S i ||| wd T i = wd (fun x => S x || T x) i :=
  wd_ext (Nat.or_lt_two_pow (n := 64) (wd_lt S i) (wd_lt T i)) fun k hk => by simp [Nat.testBit_or, wd_bit, hk]
theorem wd_not (S : Nat → Bool) (i : Nat) : 18446744073709551615 - wd S i = wd (fun x => !S x) i :=
  wd_ext (by have := wd_lt S i; omega) fun k hk => by
    have h := Nat.testBit_two_pow_sub_succ (wd_lt S i) k (n := 64)
    have e : (2 : Nat) ^ 64 - (wd S i + 1) = 18446744073709551615 - wd S i := by have := wd_lt S i; omega
    rw [e] at h
    rw [h, wd_bit]; simp [hk]
theorem wd_one (b : Nat) (i : Nat) : wd (fun x => x == b) i = if b / 64 = i then 2 ^ (b % 64) else 0 := by
  split
  · rename_i h
    refine (wd_ext ?_ fun k hk => ?_).symm
    · exact Nat.lt_of_lt_of_le (Nat.pow_lt_pow_right (by omega) (by omega : b % 64 < 64)) (Nat.le_refl (2 ^ 64))
    · rw [Nat.testBit_two_pow]
      have : (b % 64 = k) ↔ (64 * i + k = b) := by omega
      by_cases hb : b % 64 = k
      · have h2 := this.1 hb; simp [hb, h2]
      · have h2 : ¬ 64 * i + k = b := fun e => hb (this.2 e)
        simp [hb, h2]
  · rename_i h
    refine (wd_ext (by decide) fun k hk => ?_).symm
    have h2 : ¬ 64 * i + k = b := by omega
    simp [h2]
end Go.Proofs.Ytbefndibkpjgaaa
/- Is a byte in a set: the two programs' Has, by their contracts. -/
namespace Go.Proofs.Ytbefndibkpjgaaa
open Go.RowKit

theorem quiet_id {P : Program} {f : FuncId} {args : Array Value} {w : World} {n : Nat} {v : Value}
    (h : Calls P f args (w.drewN n) fun e w' => e = .returned v ∧ w.drewN n = w') : Calls P f args (w.drewN n) fun e w'' => e = .returned v ∧ ∃ m, w'' = w.drewN m :=
  h.mono fun _ _ ⟨he, hm⟩ => ⟨he, n, hm.symm⟩
theorem ret_int {k : IntKind} {a b : Int} (h : a = b) : Ending.returned (.int k a) = .returned (.int k b) := by rw [h]
theorem ret_bool {a b : Bool} (h : a = b) : Ending.returned (.bool a) = .returned (.bool b) := by rw [h]
theorem words_at (S : Nat → Bool) (i : Nat) (h : i < 4) : (#[Value.int .u64 (wd S 0), .int .u64 (wd S 1), .int .u64 (wd S 2), .int .u64 (wd S 3)] : Array Value)[i]? = some (.int .u64 (wd S i)) := by
  have : i = 0 ∨ i = 1 ∨ i = 2 ∨ i = 3 := by omega
  rcases this with rfl | rfl | rfl | rfl <;> rfl

theorem wrap_pow (k : Nat) (h : k < 64) : IntKind.u64.wrap ((2 : Int) ^ k) = ((2 ^ k : Nat) : Int) := by
  have hlt : 2 ^ k < 2 ^ 64 := Nat.pow_lt_pow_right (by omega) h
  have e : ((2 : Int) ^ k) = ((2 ^ k : Nat) : Int) := by simp
  rw [e]
  generalize 2 ^ k = m at hlt
  exact IntWalk.u64_in _ ⟨by omega, by omega⟩
theorem mask_bit (S : Nat → Bool) (n : Nat) : (bits .and .u64 (wd S (n / 64) : Int) (IntKind.u64.wrap ((2 : Int) ^ (n % 64))) != 0) = S n := by
  have hk : n % 64 < 64 := by omega
  have hlt : 2 ^ (n % 64) < 2 ^ 64 := Nat.pow_lt_pow_right (by omega) hk
  rw [wrap_pow _ hk, bits_and_u64 _ _ (wd_lt _ _) hlt]
  have : (((wd S (n / 64) &&& 2 ^ (n % 64) : Nat) : Int) != 0) = ((wd S (n / 64) &&& 2 ^ (n % 64)) != 0) := by
    rw [Bool.eq_iff_iff]; simp
  rw [this, and_pow_ne, wd_bit]
  simp [hk, show 64 * (n / 64) + n % 64 = n by omega]
theorem shift_bit (S : Nat → Bool) (n : Nat) : (((wd S (n / 64) : Int) / 2 ^ (n % 64)).tmod 2 == 1) = S n := by
  have hk : n % 64 < 64 := by omega
  have e : ((wd S (n / 64) : Int) / 2 ^ (n % 64)) = ((wd S (n / 64) / 2 ^ (n % 64) : Nat) : Int) := by simp
  rw [e]
  have e2 : ((wd S (n / 64) / 2 ^ (n % 64) : Nat) : Int).tmod 2 = ((wd S (n / 64) / 2 ^ (n % 64) % 2 : Nat) : Int) := rfl
  rw [e2]
  have : (((wd S (n / 64) / 2 ^ (n % 64) % 2 : Nat) : Int) == 1) = (wd S (n / 64) / 2 ^ (n % 64) % 2 == 1) := by
    rw [Bool.eq_iff_iff, beq_iff_eq, beq_iff_eq]; omega
  rw [this, shr_odd, wd_bit]
  simp [hk, show 64 * (n / 64) + n % 64 = n by omega]

theorem has_any (S : Nat → Bool) (n : Nat) (w : World) (h : n < 256) :
    Calls Try.prog 23 #[setV S, .int .u8 n] w fun e w' => e = .returned (.bool (S n)) ∧ Below w.heap.size w w' := by
  have hw := words_at S (n / 64) (by omega)
  have hl := wd_lt S (n / 64)
  unfold setV
  go_enter Try.func23, Try.ntmps23
  go_wp2
  go_ret
  exact ⟨ret_bool (mask_bit S n), (Below.refl _ _).alloc (Nat.le_refl _) _⟩

theorem refhas_any (S : Nat → Bool) (n : Nat) (w : World) (h : n < 256) :
    Calls Try.prog 72 #[setV S, .int .u8 n] w fun e w' => e = .returned (.bool (S n)) ∧ Below w.heap.size w w' := by
  have hw := words_at S (n / 64) (by omega)
  have hl := wd_lt S (n / 64)
  unfold setV
  go_enter Try.func72, Try.ntmps72
  go_wp2
  go_ret
  exact ⟨ret_bool (shift_bit S n), (Below.refl _ _).alloc (Nat.le_refl _) _⟩
theorem bcell {W w1 : World} (hb : Below W.heap.size W w1) : (∀ b o, b < W.heap.size → w1.cell? ⟨b, o, none⟩ = W.cell? ⟨b, o, none⟩) ∧ (∀ b o, b < W.heap.size → w1.frozen? ⟨b, o, none⟩ = W.frozen? ⟨b, o, none⟩) :=
  ⟨fun b o h => hb.cell (p := ⟨b, o, none⟩) h, fun b o h => hb.frozen (p := ⟨b, o, none⟩) h⟩
theorem keeps {W w1 : World} (hb : Below W.heap.size W w1) : ∀ p u, W.cell? p = some u → w1.cell? p = some u :=
  fun p _ h => (hb.cell (World.block_lt_of_cell? W p h)).trans h
end Go.Proofs.Ytbefndibkpjgaaa
namespace Go.Proofs.Ytbefndibkpjgaaa
open Go.RowKit

def addS (S : Nat → Bool) (b : Nat) : Nat → Bool := fun x => S x || x == b
theorem or_bit (S : Nat → Bool) (b : Nat) : bits .or .u64 (wd S (b / 64) : Int) (IntKind.u64.wrap ((2 : Int) ^ (b % 64))) = (wd (addS S b) (b / 64) : Int) := by
  have hk : b % 64 < 64 := by omega
  have hlt : 2 ^ (b % 64) < 2 ^ 64 := Nat.pow_lt_pow_right (by omega) hk
  have h1 := wd_one b (b / 64)
  rw [if_pos rfl] at h1
  rw [wrap_pow _ hk, bits_or_u64 _ _ (wd_lt _ _) hlt, ← h1, wd_or]
  rfl
theorem or_far (S : Nat → Bool) (b i : Nat) (h : i ≠ b / 64) : wd (addS S b) i = wd S i := by
  refine wd_congr fun k hk => ?_
  have : ¬ 64 * i + k = b := by omega
  simp [addS, this]
theorem words_set (S T : Nat → Bool) (i : Nat) (h : i < 4) (hT : ∀ j, j ≠ i → wd T j = wd S j) :
    (#[Value.int .u64 (wd S 0), .int .u64 (wd S 1), .int .u64 (wd S 2), .int .u64 (wd S 3)] : Array Value).setIfInBounds i (.int .u64 (wd T i)) = #[.int .u64 (wd T 0), .int .u64 (wd T 1), .int .u64 (wd T 2), .int .u64 (wd T 3)] := by
  have : i = 0 ∨ i = 1 ∨ i = 2 ∨ i = 3 := by omega
  rcases this with rfl | rfl | rfl | rfl
  · rw [hT 1 (by omega), hT 2 (by omega), hT 3 (by omega)]; rfl
  · rw [hT 0 (by omega), hT 2 (by omega), hT 3 (by omega)]; rfl
  · rw [hT 0 (by omega), hT 1 (by omega), hT 3 (by omega)]; rfl
  · rw [hT 0 (by omega), hT 1 (by omega), hT 2 (by omega)]; rfl

theorem with_any (S : Nat → Bool) (b : Nat) (w : World) (h : b < 256) :
    Calls Try.prog 75 #[setV S, .int .i64 b] w fun e w' => e = .returned (setV (addS S b)) ∧ Below w.heap.size w w' := by
  have hw := words_at S (b / 64) (by omega)
  have hl := wd_lt S (b / 64)
  have hor := or_bit S b
  have hset := words_set S (addS S b) (b / 64) (by omega) (fun j hj => or_far S b j hj)
  unfold setV
  go_enter Try.func75, Try.ntmps75
  go_wp2
  refine bodyPost_ret (results_cell_row rfl _ _ (w.heap.size + 1) 33 _ (0, 0) _ rfl (heap_alloc2_new w _ _) Try.underlying33 rfl (by kernel_rfl)) rfl ⟨rfl, ?_⟩
  exact ((Below.refl _ _).alloc (Nat.le_refl _) _).alloc (by simp) _

def emptyS : Nat → Bool := fun _ => false
theorem wd_emptyS (i : Nat) : wd emptyS i = 0 := (wd_ext (by decide) fun k _ => by simp [emptyS]).symm
theorem setV_empty : setV emptyS = .agg #[.int .u64 0, .int .u64 0, .int .u64 0, .int .u64 0] := by unfold setV; simp only [wd_emptyS]; rfl
/-- Block g is a set. -/
def SetAt (w : World) (g : Nat) (S : Nat → Bool) : Prop := w.heap[g]? = some (.cells #[.int .u64 (wd S 0), .int .u64 (wd S 1), .int .u64 (wd S 2), .int .u64 (wd S 3)] 33 (0, 0))
theorem SetAt.lt {w : World} {g : Nat} {S : Nat → Bool} (h : SetAt w g S) : g < w.heap.size := by
  rcases Nat.lt_or_ge g w.heap.size with hl | hl
  · exact hl
  · unfold SetAt at h; rw [Array.getElem?_eq_none hl] at h; cases h
theorem SetAt.below {B g : Nat} {w w' : World} {S : Nat → Bool} (h : SetAt w g S) (hb : Below B w w') (hg : g < B) : SetAt w' g S := (hb.block g hg).trans h
theorem SetAt.cell {w : World} {g : Nat} {S : Nat → Bool} (h : SetAt w g S) (i : Nat) (hi : i < 4) : w.cell? ⟨g, i, none⟩ = some (.int .u64 (wd S i)) := by
  rw [cell_of_row w g i _ _ _ h]; exact words_at S i hi
theorem SetAt.of_empty {w : World} {g : Nat} (h : w.heap[g]? = some (.cells #[.int .u64 0, .int .u64 0, .int .u64 0, .int .u64 0] 33 (0, 0))) : SetAt w g emptyS := by
  unfold SetAt; simp only [wd_emptyS]; exact h
theorem sizeSet : (Try.prog.info? 33).map (·.size) = some 4 := by kernel_rfl
theorem wpList_store_set {ops : Array Oper} {rest : List Oper} {o : Oper} {a : Act} {w : World} {Q : Exit → Act → World → Prop} (hgd : o.guard = none) (x y : Operand) (ho : o.op = .store 33 x y)
    (g : Nat) (S T : Nat → Bool) (hx : a.eval x = .pointer (some ⟨g, 0, none⟩)) (hy : a.eval y = setV T) (hg : SetAt w g S)
    (h : ∀ w', SetAt w' g T → (∀ B, B ≤ g → Below B w w') → (∀ k, k ≠ g → w'.heap[k]? = w.heap[k]?) → w'.heap.size = w.heap.size → wpList Try.prog ops Q rest (a.put o.dst undef) w') : wpList Try.prog ops Q (o :: rest) a w := by
  refine wpList_store_row hgd 33 x y ho g _ hx hy 33 _ hg sizeSet rfl (by simp [Value.oneCell']) ?_
  exact h _ (setRow_heap w g _ _ _ _ hg) (fun B hB => (Below.refl _ _).trans ⟨rfl, rfl, rfl, by simp, fun k hk => setRow_other w g k _ (by omega)⟩) (fun k hk => setRow_other w g k _ hk) (by simp)
theorem one_any (b : Nat) (w : World) (h : b < 256) :
    Calls Try.prog 83 #[.int .u8 b] w fun e w' => e = .returned (setV (fun x => x == b)) ∧ Below w.heap.size w w' := by
  have hw := fun w' => with_any emptyS b w' h
  rw [setV_empty] at hw
  have he : setV (addS emptyS b) = setV (fun x => x == b) := SameSet.val fun x _ => by simp [addS, emptyS]
  rw [he] at hw
  have hz := SetAt.of_empty (heap_alloc_new w (.cells #[.int .u64 0, .int .u64 0, .int .u64 0, .int .u64 0] 33))
  unfold setV at hw ⊢
  have HW := Lib.hid hw
  have HZ := Lib.hid hz
  clear hw he hz
  go_enter Try.func83, Try.ntmps83
  go_wp2_with (first
    | (go_at_call 75; (with_reducible refine (HW.out _).mono ?_); rintro e w1 ⟨rfl, hb1⟩; have HZ1 := Lib.hid (HZ.out.below hb1 (by simp)))
    | (refine wpList_store_set rfl _ _ rfl w.heap.size emptyS (fun x => x == b) rfl rfl HZ1.out ?_; intro w9 hR hB9 hO9 hS9))
  refine bodyPost_ret (results_cell_row rfl _ _ w.heap.size 33 _ (0, 0) _ rfl hR Try.underlying33 rfl sizeSet) rfl ⟨rfl, ?_⟩
  exact (((Below.refl _ _).alloc (Nat.le_refl _) _).trans (hb1.mono (by simp))).trans (hB9 _ (Nat.le_refl _))

/-- The bytes from lo to hi, below n. -/
def spanS (lo hi : Int) (n : Nat) : Nat → Bool := fun x => decide (lo ≤ (x : Int)) && decide ((x : Int) ≤ hi) && decide (x < n)
set_option maxHeartbeats 1000000 in
set_option maxRecDepth 100000 in
theorem span_any (lo hi : Int) (w : World) :
    Calls Try.prog 87 #[.int .i64 lo, .int .i64 hi] w fun e w' => e = .returned (setV (spanS lo hi 256)) ∧ Below w.heap.size w w' := by
  have hz := SetAt.of_empty (heap_alloc2_new w (.cells #[.int .u64 0, .int .u64 0, .int .u64 0, .int .u64 0] 33) (.cells #[.int .u64 0, .int .u64 0, .int .u64 0, .int .u64 0] 33))
  have hy := SetAt.of_empty (heap_alloc2_old w (.cells #[.int .u64 0, .int .u64 0, .int .u64 0, .int .u64 0] 33) (.cells #[.int .u64 0, .int .u64 0, .int .u64 0, .int .u64 0] 33))
  have HZ := Lib.hid hz
  have HY := Lib.hid hy
  clear hz hy
  unfold setV
  go_enter Try.func87, Try.ntmps87
  go_wp2
  go_loopw [6] (fun i wr => ∃ k : Nat, k ≤ 256 ∧ i = .int .i64 k ∧ SetAt wr w.heap.size emptyS ∧ SetAt wr (w.heap.size + 1) (spanS lo hi k) ∧ Below w.heap.size w wr) (fun i _ => 256 - (intOf i).toNat)
  case atStart =>
    refine ⟨0, by omega, rfl, HY.out, ?_, ((Below.refl _ _).alloc (Nat.le_refl _) _).alloc (by simp) _⟩
    have : setV (spanS lo hi 0) = setV emptyS := SameSet.val fun x _ => by simp [spanS, emptyS]
    have hz := HZ.out
    unfold SetAt at hz ⊢
    unfold setV at this
    have this := Value.agg.inj this
    rw [this]; exact hz
  case round =>
    obtain ⟨k, hk, rfl, hY, hZ, hb⟩ := hrel
    by_cases hlt : k < 256
    · have hnext : SameSet (if lo ≤ (k : Int) ∧ (k : Int) ≤ hi then addS (spanS lo hi k) k else spanS lo hi k) (spanS lo hi (k + 1)) := by
        intro x _
        by_cases hx : x = k
        · subst hx
          split
          · rename_i hc; simp [addS, spanS, hc.1, hc.2]
          · rename_i hc
            have : (decide (lo ≤ (x : Int)) && decide ((x : Int) ≤ hi)) = false := by
              rw [Bool.and_eq_false_iff]
              by_cases hl : lo ≤ (x : Int)
              · right; simp; have : ¬ (x : Int) ≤ hi := fun hh => hc ⟨hl, hh⟩; omega
              · left; simpa using hl
            simp [spanS, this]
        · have e : decide (x < k + 1) = decide (x < k) := by
            rw [decide_eq_decide]; omega
          split
          · simp [addS, spanS, e, hx]
          · simp [spanS, e]
      have c0 := hZ.cell 0 (by omega)
      have c1 := hZ.cell 1 (by omega)
      have c2 := hZ.cell 2 (by omega)
      have c3 := hZ.cell 3 (by omega)
      by_cases hlo : lo ≤ (k : Int)
      · by_cases hhi : (k : Int) ≤ hi
        · rw [if_pos ⟨hlo, hhi⟩] at hnext
          have HN := Lib.hid hnext
          have hw := fun w' => with_any (spanS lo hi k) k w' hlt
          unfold setV at hw
          have HW := Lib.hid hw
          clear hnext hw
          have hz0 := hZ.lt
          have HZ2 := Lib.hid hZ
          have HY2 := Lib.hid hY
          clear hZ hY
          go_wp2_with (first
            | (go_at_call 75; (with_reducible refine (HW.out _).mono ?_); rintro e w1 ⟨rfl, hb1⟩; have HZ1 := Lib.hid (HZ2.out.below hb1 hz0))
            | ((with_reducible refine wpList_store_set rfl _ _ rfl (w.heap.size + 1) (spanS lo hi k) (addS (spanS lo hi k) k) ?_ ?_ HZ1.out ?_); rfl; rfl; intro w9 hR hB9 hO9 hS9; have HR := Lib.hid hR; have HO := Lib.hid hO9; have HB := Lib.hid hB9; clear hR hO9 hB9))
          go_roundw
          case rel =>
            refine ⟨k + 1, by omega, by go_num, (HO.out _ (by omega)).trans (HY2.out.below hb1 (by omega)), ?_, (hb.trans (hb1.mono hb.size)).trans (HB.out _ (by omega))⟩
            have e := HN.out.val
            unfold setV at e
            have e := Value.agg.inj e
            have hr := HR.out
            unfold SetAt at hr ⊢
            rw [← e]; exact hr
          case measure => simp [intOf]; omega
        · rw [if_neg (fun hc => hhi hc.2)] at hnext
          have HN := Lib.hid hnext
          clear hnext
          go_wp2
          go_roundw
          case rel =>
            refine ⟨k + 1, by omega, by go_num, hY, ?_, hb⟩
            have e := HN.out.val
            unfold setV at e
            have e := Value.agg.inj e
            unfold SetAt at hZ ⊢
            rw [← e]; exact hZ
          case measure => simp [intOf]; omega
      · rw [if_neg (fun hc => hlo hc.1)] at hnext
        have HN := Lib.hid hnext
        clear hnext
        go_wp2
        go_roundw
        case rel =>
          refine ⟨k + 1, by omega, by go_num, hY, ?_, hb⟩
          have e := HN.out.val
          unfold setV at e
          have e := Value.agg.inj e
          unfold SetAt at hZ ⊢
          rw [← e]; exact hZ
        case measure => simp [intOf]; omega
    · have hk2 : k = 256 := by omega
      have Hk := Lib.hid hk2
      have c0 := hZ.cell 0 (by omega)
      have c1 := hZ.cell 1 (by omega)
      have c2 := hZ.cell 2 (by omega)
      have c3 := hZ.cell 3 (by omega)
      clear hk2
      go_wp2_with (refine wpList_store_set rfl _ _ rfl w.heap.size emptyS (spanS lo hi k) rfl rfl hY ?_; intro w9 hR hB9 hO9 hS9)
      have hR2 := hR
      rw [Hk.out] at hR2
      refine bodyPost_ret (results_cell_row rfl _ _ w.heap.size 33 _ (0, 0) _ rfl hR2 Try.underlying33 rfl sizeSet) rfl ⟨rfl, ?_⟩
      exact hb.trans (hB9 _ (Nat.le_refl _))
end Go.Proofs.Ytbefndibkpjgaaa
/- Steps of expressions as rows; which are the same. -/
namespace Go.Proofs.Ytbefndibkpjgaaa
open Go.RowKit Go.Extern.Stop
set_option linter.unusedVariables false

/-- A step. -/
structure Rx where
  k : Int
  s : Nat → Bool
instance : Inhabited Rx := ⟨⟨0, emptyS⟩⟩
def rxC (r : Rx) : List Value := [.int .i64 r.k, .int .u64 (wd r.s 0), .int .u64 (wd r.s 1), .int .u64 (wd r.s 2), .int .u64 (wd r.s 3)]
theorem rxC_len (r : Rx) : (rxC r).length = 5 := rfl
theorem rxC_one (r : Rx) : ∀ u ∈ rxC r, u.oneCell' = true := fun u hu => by
  simp [rxC] at hu
  rcases hu with rfl | rfl | rfl | rfl | rfl <;> rfl
/-- A step without a set. -/
def stp0 (k : Int) : Rx := ⟨k, emptyS⟩
theorem stp0_C (k : Int) : rxC (stp0 k) = [.int .i64 k, .int .u64 0, .int .u64 0, .int .u64 0, .int .u64 0] := by
  simp [rxC, stp0, wd_emptyS]
theorem infoRx : (Try.prog.info? 78).map (fun i => (i.zero, i.size, i.bytes)) = some (some (.agg #[.int .i64 0, .int .u64 0, .int .u64 0, .int .u64 0, .int .u64 0]), 5, 40) := by kernel_rfl
theorem infoSet : (Try.prog.info? 33).map (fun i => (i.zero, i.size, i.bytes)) = some (some (.agg #[.int .u64 0, .int .u64 0, .int .u64 0, .int .u64 0]), 4, 32) := by kernel_rfl
theorem infoKind : (Try.prog.info? 68).map (fun i => (i.zero, i.size, i.bytes)) = some (some (.int .i64 0), 1, 8) := by kernel_rfl
theorem infoU64 : (Try.prog.info? 31).map (fun i => (i.zero, i.size, i.bytes)) = some (some (.int .u64 0), 1, 8) := by kernel_rfl
theorem run_equalIn_ints {P : Program} (w : World) (d : Nat) (t e : TypeId) (n : Nat) (k : IntKind) (ht : P.underlying t = some (.array n e)) (he : P.underlying e = some (.int k)) (hsz : ∀ w, (sizeOf e).run P w = .ok 1 w)
    (xs ys : List Int) (hx : xs.length = n) (hy : ys.length = n) :
    (Op.equalIn (d + 2) t (.agg (xs.map fun x => Value.int k x).toArray) (.agg (ys.map fun x => Value.int k x).toArray)).run P w = .ok ((List.range' 0 n 1).all fun i => xs.getD i 0 == ys.getD i 0) w := by
  rw [Op.equalIn]
  simp only [Sem.run_bind, run_underlying ht, Result.andThen_ok, hsz, Std.Legacy.Range.forIn_eq_forIn_range', Std.Legacy.Range.size, Nat.sub_zero, Nat.add_sub_cancel, Nat.div_one]
  have hl : ∀ i ∈ List.range' 0 n 1, i < n := fun i hi => by simpa using (List.mem_range'_1.1 hi).2
  generalize List.range' 0 n 1 = l at hl ⊢
  induction l with
  | nil => simp
  | cons i l ih =>
    have hi : i < n := hl i (by simp)
    have px : (part e (xs.map fun x => Value.int k x).toArray (i * 1)).run P w = .ok (.int k (xs.getD i 0)) w := by
      simp [part, isAgg, run_underlying he, List.getD, List.getElem?_eq_getElem (show i < xs.length by omega)]
    have py : (part e (ys.map fun x => Value.int k x).toArray (i * 1)).run P w = .ok (.int k (ys.getD i 0)) w := by
      simp [part, isAgg, run_underlying he, List.getD, List.getElem?_eq_getElem (show i < ys.length by omega)]
    have pe : (Op.equalIn (d + 1) e (.int k (xs.getD i 0)) (.int k (ys.getD i 0))).run P w = .ok (xs.getD i 0 == ys.getD i 0) w := by
      rw [run_equalIn_int w d e k k _ _ he]
    simp only [List.forIn_cons, Sem.run_bind, px, py, pe, Result.andThen_ok, List.all_cons]
    cases hb : (xs.getD i 0 == ys.getD i 0)
    · simp
    · simp only [Bool.not_true, Bool.false_eq_true, if_false, Sem.run_pure, Result.andThen_ok, Bool.true_and]
      exact ih fun j hj => hl j (by simp [hj])
theorem run_eq_set (d : Nat) (a b c e a' b' c' e' : Int) (w : World) : (Op.equalIn (d + 2) 33 (.agg #[.int .u64 a, .int .u64 b, .int .u64 c, .int .u64 e]) (.agg #[.int .u64 a', .int .u64 b', .int .u64 c', .int .u64 e'])).run Try.prog w = .ok (a == a' && (b == b' && (c == c' && e == e'))) w := by
  obtain ⟨i0, hi, _, hz1, _⟩ := info_parts infoU64
  have := run_equalIn_ints (P := Try.prog) w d 33 31 4 .u64 Try.underlying33 Try.underlying31 (fun w => by simp [sizeOf, typeInfo, hi, hz1]) [a, b, c, e] [a', b', c', e'] rfl rfl
  refine Eq.trans this ?_
  simp [List.range']
def eqS (x y : Value) : Sem Bool := Op.equalIn 10000 33 x y
theorem eqS_eq (x y : Value) : Op.equalIn 10000 33 x y = eqS x y := rfl
theorem eqS_eq' (x y : Value) : Op.equal 33 x y = eqS x y := rfl
theorem run_eqS (a b c d a' b' c' d' : Int) (w : World) : (eqS (.agg #[.int .u64 a, .int .u64 b, .int .u64 c, .int .u64 d]) (.agg #[.int .u64 a', .int .u64 b', .int .u64 c', .int .u64 d'])).run Try.prog w = .ok (a == a' && (b == b' && (c == c' && d == d'))) w := run_eq_set 9998 _ _ _ _ _ _ _ _ w
/-- Equality of steps, behind a name of its own. -/
def eqX (x y : Value) : Sem Bool := Op.equalIn 10000 78 x y
theorem eqX_eq (x y : Value) : Op.equalIn 10000 78 x y = eqX x y := rfl
theorem eqX_eq' (x y : Value) : Op.equal 78 x y = eqX x y := rfl
theorem run_eqX (k a b c d : Int) (w : World) : (eqX (.agg #[.int .i64 k, .int .u64 a, .int .u64 b, .int .u64 c, .int .u64 d]) (.agg #[.int .i64 k, .int .u64 a, .int .u64 b, .int .u64 c, .int .u64 d])).run Try.prog w = .ok true w := by
  have hs := run_eq_set 9997 a b c d a b c d w
  simp only [beq_self_eq_true, Bool.and_self] at hs
  have hk := run_equalIn_int (P := Try.prog) w 9998 68 .i64 .i64 k k Try.underlying68
  simp only [beq_self_eq_true] at hk
  unfold eqX
  rw [show (10000 : Nat) = 9999 + 1 from rfl, Op.equalIn]
  simp only [Sem.run_bind, run_underlying Try.underlying78, Result.andThen_ok]
  have hst : Try.prog.stoodInHeld 78 = false := by kernel_rfl
  obtain ⟨iS, hiS, _, hzS, _⟩ := info_parts infoSet
  obtain ⟨iK, hiK, _, hzK, _⟩ := info_parts infoKind
  have h1 : (part 68 #[Value.int .i64 k, .int .u64 a, .int .u64 b, .int .u64 c, .int .u64 d] 0).run Try.prog w = .ok (.int .i64 k) w := by
    simp [part, isAgg, run_underlying Try.underlying68, sizeOf, typeInfo, hiK, hzK]
  have h2 : (part 33 #[Value.int .i64 k, .int .u64 a, .int .u64 b, .int .u64 c, .int .u64 d] 1).run Try.prog w = .ok (.agg #[.int .u64 a, .int .u64 b, .int .u64 c, .int .u64 d]) w := by
    simp [part, isAgg, run_underlying Try.underlying33, sizeOf, typeInfo, hiS, hzS]
  have hpr : (program).run Try.prog w = .ok Try.prog w := rfl
  simp [hpr, hst, h1, h2, hs, hk]
end Go.Proofs.Ytbefndibkpjgaaa
/- rx: Same, Set, Empty, one step behind, parts one behind the other. -/
namespace Go.Proofs.Ytbefndibkpjgaaa
open Go.RowKit
set_option linter.unusedVariables false

attribute [local go_sem ↓] eqS_eq eqS_eq' eqX_eq eqX_eq'
theorem below_drewN (w : World) (n : Nat) : Below w.heap.size w (w.drewN n) := ⟨rfl, rfl, rfl, Nat.le_refl _, fun _ _ => rfl⟩
theorem drewN_drewN (w : World) (a b : Nat) : (w.drewN a).drewN b = w.drewN (a + b) := by simp [World.drewN, Nat.add_assoc]
/-- What is handed out: a row of the call's own of these steps. -/
def Gives (w : World) (rs : List Rx) (e : Ending) (w' : World) : Prop := ∃ v, e = .returned v ∧ w'.ownsRow w.heap.size 78 5 v rs.length (rs.flatMap rxC) ∧ Below w.heap.size w w'
theorem own_lit1 (w : World) (base : Nat) (hb : base ≤ w.heap.size) (r : Rx) (cs : Array Value) (hcs : cs = (rxC r).toArray) : (w.alloc (.cells cs 78)).ownsRow base 78 5 (.slice (some ⟨w.heap.size, 0, none⟩) 1 1) 1 ([r].flatMap rxC) := by
  subst hcs
  refine ⟨rfl, .inr ⟨w.heap.size, 1, _, rfl, hb, heap_alloc_new w _, Nat.le_refl _, by decide, rfl, by simp; exact List.take_of_length_le (Nat.le_of_eq (rxC_len r))⟩⟩
theorem rset_any (S : Nat → Bool) (w : World) : Calls Try.prog 46 #[setV S] w (Gives w [⟨1, S⟩]) := by
  have ho := own_lit1 (w.alloc (.cells #[.int .u64 (wd S 0), .int .u64 (wd S 1), .int .u64 (wd S 2), .int .u64 (wd S 3)] 33)) w.heap.size (by simp) ⟨1, S⟩ #[.int .i64 1, .int .u64 (wd S 0), .int .u64 (wd S 1), .int .u64 (wd S 2), .int .u64 (wd S 3)] rfl
  have HO := Lib.hid ho
  clear ho
  unfold setV Gives
  go_enter Try.func46, Try.ntmps46
  go_wp2
  go_ret
  exact ⟨_, rfl, by simpa using HO.out, ((Below.refl _ _).alloc (Nat.le_refl _) _).alloc (by simp) _⟩
theorem refset_any (S : Nat → Bool) (w : World) : Calls Try.prog 80 #[setV S] w (Gives w [⟨1, S⟩]) := by
  have ho := own_lit1 (w.alloc (.cells #[.int .u64 (wd S 0), .int .u64 (wd S 1), .int .u64 (wd S 2), .int .u64 (wd S 3)] 33)) w.heap.size (by simp) ⟨1, S⟩ #[.int .i64 1, .int .u64 (wd S 0), .int .u64 (wd S 1), .int .u64 (wd S 2), .int .u64 (wd S 3)] rfl
  have HO := Lib.hid ho
  clear ho
  unfold setV Gives
  go_enter Try.func80, Try.ntmps80
  go_wp2
  go_ret
  exact ⟨_, rfl, by simpa using HO.out, ((Below.refl _ _).alloc (Nat.le_refl _) _).alloc (by simp) _⟩
theorem empty_any (w : World) : Calls Try.prog 48 #[] w (Gives w [stp0 2]) := by
  have HO := Lib.hid (own_lit1 w w.heap.size (Nat.le_refl _) (stp0 2) #[.int .i64 2, .int .u64 0, .int .u64 0, .int .u64 0, .int .u64 0] (by rw [stp0_C]))
  unfold Gives
  go_enter Try.func48, Try.ntmps48
  go_wp2
  go_ret
  exact ⟨_, rfl, HO.out, (Below.refl _ _).alloc (Nat.le_refl _) _⟩
theorem refempty_any (w : World) : Calls Try.prog 86 #[] w (Gives w [stp0 2]) := by
  have HO := Lib.hid (own_lit1 w w.heap.size (Nat.le_refl _) (stp0 2) #[.int .i64 2, .int .u64 0, .int .u64 0, .int .u64 0, .int .u64 0] (by rw [stp0_C]))
  unfold Gives
  go_enter Try.func86, Try.ntmps86
  go_wp2
  go_ret
  exact ⟨_, rfl, HO.out, (Below.refl _ _).alloc (Nat.le_refl _) _⟩
/-- Steps behind a row of the call's own. -/
theorem app_rxs {w : World} {base n : Nat} {v : Value} {xs : List Rx} (hown : w.ownsRow base 78 5 v n (xs.flatMap rxC)) {a : Option Addr} {m c : Nat} {os : List Rx} (hr : CRow rxC 5 w a m os) (hn : n + m ≤ 200000) (hbase : base ≤ w.heap.size)
    (ops : Array Oper) (rest : List Oper) (o : Oper) (act : Act) (Q : Exit → Act → World → Prop) (hg : o.guard = none) (s x : Operand) (ho : o.op = .call { callee := .builtin .append, args := #[s, x], argTypes := #[22, 22] })
    (hs : act.eval s = v) (hx : act.eval x = .slice a m c)
    (h : ∀ v' w', w'.ownsRow base 78 5 v' (n + m) ((xs ++ os).flatMap rxC) → w.grownBy w' v.ownBlock → (v'.ownBlock = v.ownBlock ∨ v'.ownBlock = some w.heap.size) →
      wpList Try.prog ops Q rest (act.put o.dst v') w') : wpList Try.prog ops Q (o :: rest) act w := by
  obtain ⟨i0, hii, hz0, hz1, hz2⟩ := info_parts infoRx
  exact wpList_append_row w hg s x 22 ho base 78 i0 _ 40 Try.underlying22 hii hz0 hz1 hz2 rfl (by omega) rxC_len rxC_one v n (xs.flatMap rxC) hs hown a m c os hx hr (by unfold maxLen; omega) (by omega) hbase
    fun v' w' h1 h2 h3 => h v' w' (by rw [List.flatMap_append]; exact h1) h2 h3
set_option maxHeartbeats 1000000 in
theorem clone_any (w : World) (a : Option Addr) (n c : Nat) (rs : List Rx) (h : CRow rxC 5 w a n rs) (hn : n ≤ 100000) :
    Calls Try.prog 67 #[.slice a n c] w (Gives w rs) := by
  unfold Gives
  cases a with
  | none =>
    have h0 : n = 0 := by
      rcases Nat.eq_zero_or_pos n with h0 | h0
      · exact h0
      · obtain ⟨_, _, ha, _⟩ := h.2.2 h0; cases ha
    subst h0
    have hr : rs = [] := List.length_eq_zero_iff.1 h.1
    subst hr
    clear h
    have heq : (binOp .eql 22 (.slice none 0 c) (.slice none 0 0)).run Try.prog w = .ok (.bool true) w := Lib.run_eql_slice_nil w 22 78 none 0 c 0 0 Try.underlying22
    go_enter Try.func67, Try.ntmps67
    go_wp2
    go_ret
    exact ⟨_, rfl, own_new _ _ _ _, Below.refl _ _⟩
  | some ad =>
    have HO0 := Lib.hid (World.ownsRow_made (base := w.heap.size) (e := 78) (size := 5) w #[] 0 (Nat.le_refl _) (by decide) (by simp))
    have HB0 := Lib.hid ((Below.refl w.heap.size w).alloc (Nat.le_refl _) (.cells #[] 78))
    have HAP := Lib.hid (app_rxs (xs := []) HO0.out (h.below HB0.out) (c := c) (by omega) (by simp))
    have HL := Lib.hid h.1
    clear h
    have heq : (binOp .eql 22 (.slice (some ad) n c) (.slice none 0 0)).run Try.prog w = .ok (.bool false) w := Lib.run_eql_slice_nil w 22 78 (some ad) n c 0 0 Try.underlying22
    go_enter Try.func67, Try.ntmps67
    go_wp2_with (at_builtin; refine HAP.out _ _ _ _ _ rfl _ _ rfl rfl rfl ?_; intro v2 w2 hown1 hgrow hat; have HW := Lib.hid hown1; have HBW := Lib.hid (below_grown HB0.out (by simp) hgrow (fun j hj => (own_ge HO0.out hj).1)); clear hown1 hgrow hat)
    go_ret
    exact ⟨_, rfl, by have h := HW.out; rw [HL.out]; simpa using h, HBW.out⟩
end Go.Proofs.Ytbefndibkpjgaaa
/- rx: of how many parts a step is; the walk over steps; Check, High, Begin. -/
namespace Go.Proofs.Ytbefndibkpjgaaa
open Go.RowKit
set_option linter.unusedVariables false

attribute [local go_sem ↓] eqS_eq eqS_eq'
/-- Is a kind one? -/
def okK (k : Int) : Bool := k == 3 || k == 4 || k == 5 || k == 6 || k == 7 || k == 1 || k == 2
/-- Of how many parts. -/
def nP (k : Int) : Nat := if k = 3 ∨ k = 4 then 2 else if k = 5 ∨ k = 6 ∨ k = 7 then 1 else 0
theorem nP_le (k : Int) : nP k ≤ 2 := by
  unfold nP
  by_cases h : k = 3 ∨ k = 4
  · rw [if_pos h]; omega
  · rw [if_neg h]
    by_cases h2 : k = 5 ∨ k = 6 ∨ k = 7
    · rw [if_pos h2]; omega
    · rw [if_neg h2]; omega
theorem of_any (x : Rx) (w : World) :
    Calls Try.prog 66 #[.agg #[.int .i64 x.k, .int .u64 (wd x.s 0), .int .u64 (wd x.s 1), .int .u64 (wd x.s 2), .int .u64 (wd x.s 3)]] w
      fun e w' => e = .returned (.tuple #[.int .i64 (nP x.k : Nat), .bool (okK x.k)]) ∧ Below w.heap.size w w' := by
  obtain ⟨k, s⟩ := x
  dsimp only
  have HB := Lib.hid ((Below.refl w.heap.size w).alloc (Nat.le_refl _) (.cells #[.int .i64 k, .int .u64 (wd s 0), .int .u64 (wd s 1), .int .u64 (wd s 2), .int .u64 (wd s 3)] 78))
  by_cases h3 : k = 3
  · have HN : Hid (nP k = 2 ∧ okK k = true) := Lib.hid (by subst h3; decide)
    rw [HN.out.1, HN.out.2]
    subst h3
    go_enter Try.func66, Try.ntmps66
    go_wp2
    go_ret2
    exact ⟨rfl, HB.out⟩
  by_cases h4 : k = 4
  · have HN : Hid (nP k = 2 ∧ okK k = true) := Lib.hid (by subst h4; decide)
    rw [HN.out.1, HN.out.2]
    subst h4
    go_enter Try.func66, Try.ntmps66
    go_wp2
    go_ret2
    exact ⟨rfl, HB.out⟩
  by_cases h5 : k = 5
  · have HN : Hid (nP k = 1 ∧ okK k = true) := Lib.hid (by subst h5; decide)
    rw [HN.out.1, HN.out.2]
    subst h5
    go_enter Try.func66, Try.ntmps66
    go_wp2
    go_ret2
    exact ⟨rfl, HB.out⟩
  by_cases h6 : k = 6
  · have HN : Hid (nP k = 1 ∧ okK k = true) := Lib.hid (by subst h6; decide)
    rw [HN.out.1, HN.out.2]
    subst h6
    go_enter Try.func66, Try.ntmps66
    go_wp2
    go_ret2
    exact ⟨rfl, HB.out⟩
  by_cases h7 : k = 7
  · have HN : Hid (nP k = 1 ∧ okK k = true) := Lib.hid (by subst h7; decide)
    rw [HN.out.1, HN.out.2]
    subst h7
    go_enter Try.func66, Try.ntmps66
    go_wp2
    go_ret2
    exact ⟨rfl, HB.out⟩
  by_cases h1 : k = 1
  · have HN : Hid (nP k = 0 ∧ okK k = true) := Lib.hid (by subst h1; decide)
    rw [HN.out.1, HN.out.2]
    subst h1
    go_enter Try.func66, Try.ntmps66
    go_wp2
    go_ret2
    exact ⟨rfl, HB.out⟩
  by_cases h2 : k = 2
  · have HN : Hid (nP k = 0 ∧ okK k = true) := Lib.hid (by subst h2; decide)
    rw [HN.out.1, HN.out.2]
    subst h2
    go_enter Try.func66, Try.ntmps66
    go_wp2
    go_ret2
    exact ⟨rfl, HB.out⟩
  have HN : Hid (nP k = 0 ∧ okK k = false) := Lib.hid (by unfold nP okK; simp [h1, h2, h3, h4, h5, h6, h7])
  rw [HN.out.1, HN.out.2]
  have e1 : (k == 1) = false := by simp [h1]
  have e2 : (k == 2) = false := by simp [h2]
  have e3 : (k == 3) = false := by simp [h3]
  have e4 : (k == 4) = false := by simp [h4]
  have e5 : (k == 5) = false := by simp [h5]
  have e6 : (k == 6) = false := by simp [h6]
  have e7 : (k == 7) = false := by simp [h7]
  clear h1 h2 h3 h4 h5 h6 h7
  go_enter Try.func66, Try.ntmps66
  go_wp2
  go_ret2
  exact ⟨rfl, HB.out⟩
/-- Is a set the empty one? -/
def zS (S : Nat → Bool) : Bool := ((wd S 0 : Int) == 0 && ((wd S 1 : Int) == 0 && ((wd S 2 : Int) == 0 && (wd S 3 : Int) == 0)))
theorem zS_empty : zS emptyS = true := by unfold zS; simp only [wd_emptyS]; rfl
def badR (r : Rx) : Bool := !okK r.k || (r.k != 1 && !zS r.s)
/-- The walk: parts, the most at once, what is wrong. -/
def wk : List Rx → Nat → Nat → Nat × Nat × Nat
  | [], p, m => (p, m, 0)
  | r :: l, p, m => if badR r = true then (0, 0, 1) else if p < nP r.k then (0, 0, 3) else wk l (p + 1 - nP r.k) (max m (p + 1 - nP r.k))
def walkR (l : List Rx) : Nat × Nat × Nat := if 512 < l.length then (0, 0, 4) else wk l 0 0
theorem drop_at {α : Type} {l : List α} {k : Nat} {x : α} (h : l[k]? = some x) : l.drop k = x :: l.drop (k + 1) := by
  obtain ⟨hk, rfl⟩ := List.getElem?_eq_some_iff.1 h
  exact List.drop_eq_getElem_cons hk
def wv (x : Nat × Nat × Nat) : Value := .tuple #[.int .i64 (x.1 : Nat), .int .i64 (x.2.1 : Nat), .int .i64 (x.2.2 : Nat)]
theorem ret_wv {x : Nat × Nat × Nat} {a b c : Nat} (h : x = (a, b, c)) : Ending.returned (.tuple #[.int .i64 (a : Int), .int .i64 (b : Int), .int .i64 (c : Int)]) = .returned (wv x) := by subst h; rfl
set_option maxHeartbeats 4000000 in
theorem walk_any (w : World) (a : Option Addr) (n c : Nat) (rs : List Rx) (h : CRow rxC 5 w a n rs) :
    Calls Try.prog 44 #[.slice a n c] w fun e w' => e = .returned (wv (walkR rs)) ∧ Below w.heap.size w w' := by
  have hl := h.1
  have hl2 := h.2.1
  by_cases h512 : 512 < n
  · have j1 : (512 : Int) < (n : Int) := by omega
    have HW : Hid (walkR rs = (0, 0, 4)) := Lib.hid (by unfold walkR; rw [if_pos (by omega)])
    clear h hl h512
    go_enter Try.func44, Try.ntmps44
    go_wp2
    go_ret3
    exact ⟨ret_wv HW.out, Below.refl _ _⟩
  have j1 : ¬ (512 : Int) < (n : Int) := by omega
  have HW : Hid (walkR rs = wk rs 0 0) := Lib.hid (by unfold walkR; rw [if_neg (by omega)])
  have HR := Lib.hid h
  have HL := Lib.hid hl
  have hn : n ≤ 512 := by omega
  clear h hl h512
  go_enter Try.func44, Try.ntmps44
  go_wp2
  go_loopw [5, 6, 16] (fun v5 v6 i wr => ∃ (j p m : Nat), j ≤ n ∧ i = .int .i64 (j : Int) ∧ v5 = .int .i64 (p : Int) ∧ v6 = .int .i64 (m : Int) ∧ p ≤ j ∧ m ≤ j ∧ wk rs 0 0 = wk (rs.drop j) p m ∧ Below w.heap.size w wr) (fun _ _ i _ => n - (intOf i).toNat)
  case atStart => exact ⟨0, 0, 0, by omega, rfl, rfl, rfl, by omega, by omega, rfl, Below.refl _ _⟩
  case round =>
    obtain ⟨j, p, m, hj, rfl, rfl, rfl, hp, hm, hwk, hb⟩ := hrel
    have HB := Lib.hid hb
    have HWK := Lib.hid hwk
    have hgl := hb.size
    clear hb hwk
    by_cases hlt : j < n
    · obtain ⟨b1, o1, r, rfl, hbl, hr, hc⟩ := HR.out.at_ hlt
      have kp : ∀ i u, w.cell? ⟨b1, i, none⟩ = some u → wr.cell? ⟨b1, i, none⟩ = some u := fun i u h => (HB.out.cell (p := ⟨b1, i, none⟩) hbl).trans h
      have c0 : wr.cell? ⟨b1, o1 + j * 5, none⟩ = some (.int .i64 r.k) := kp _ _ (hc 0 _ rfl)
      have c1 : wr.cell? ⟨b1, o1 + j * 5 + 1, none⟩ = some (.int .u64 (wd r.s 0)) := kp _ _ (hc 1 _ rfl)
      have c2 : wr.cell? ⟨b1, o1 + j * 5 + 2, none⟩ = some (.int .u64 (wd r.s 1)) := kp _ _ (hc 2 _ rfl)
      have c3 : wr.cell? ⟨b1, o1 + j * 5 + 3, none⟩ = some (.int .u64 (wd r.s 2)) := kp _ _ (hc 3 _ rfl)
      have c4 : wr.cell? ⟨b1, o1 + j * 5 + 4, none⟩ = some (.int .u64 (wd r.s 3)) := kp _ _ (hc 4 _ rfl)
      have HD : Hid (wk rs 0 0 = wk (r :: rs.drop (j + 1)) p m) := Lib.hid (by rw [HWK.out, drop_at hr])
      have HOF := Lib.hid fun w => of_any r w
      have hnp := nP_le r.k
      have hqe := fun w => run_eqS (wd r.s 0) (wd r.s 1) (wd r.s 2) (wd r.s 3) 0 0 0 0 w
      obtain ⟨z, hz⟩ : ∃ z, zS r.s = z := ⟨_, rfl⟩
      have HZ := Lib.hid hz
      unfold zS at hz
      have HB1 : Hid (Below w.heap.size w (wr.alloc (.cells #[.int .i64 r.k, .int .u64 (wd r.s 0), .int .u64 (wd r.s 1), .int .u64 (wd r.s 2), .int .u64 (wd r.s 3)] 78))) := Lib.hid (HB.out.alloc hgl _)
      have h0 : (0 : Int) ≤ (j : Int) := by omega
      have h1 : (j : Int) < (n : Int) := by omega
      rw [hz] at hqe
      clear kp hc hr hz HWK
      obtain ⟨k, s⟩ := r
      dsimp only at *
      obtain ⟨W0, hW0⟩ : ∃ x, wd s 0 = x := ⟨_, rfl⟩
      obtain ⟨W1, hW1⟩ : ∃ x, wd s 1 = x := ⟨_, rfl⟩
      obtain ⟨W2, hW2⟩ : ∃ x, wd s 2 = x := ⟨_, rfl⟩
      obtain ⟨W3, hW3⟩ : ∃ x, wd s 3 = x := ⟨_, rfl⟩
      rw [hW0] at c1 HOF hqe HB1
      rw [hW1] at c2 HOF hqe HB1
      rw [hW2] at c3 HOF hqe HB1
      rw [hW3] at c4 HOF hqe HB1
      clear hW0 hW1 hW2 hW3
      cases hok : okK k with
      | false =>
        have HE : Hid (walkR rs = (0, 0, 1)) := Lib.hid (by rw [HW.out, HD.out, wk, if_pos (by simp [badR, hok])])
        rw [hok] at HOF
        clear hok
        go_wp2_with fail
        refine (HOF.out _).mono ?_
        rintro e w2 ⟨rfl, hb2⟩
        have HB2 := Lib.hid (HB1.out.trans (hb2.mono HB1.out.size))
        clear hb2
        go_wp2
        go_ret3
        exact ⟨ret_wv HE.out, HB2.out⟩
      | true =>
        rw [hok] at HOF
        obtain ⟨q, hq⟩ : ∃ q, nP k = q := ⟨_, rfl⟩
        rw [hq] at HOF hnp
        have HOK := Lib.hid hok
        have HQ := Lib.hid hq
        clear hok hq
        by_cases hbad : k ≠ 1 ∧ z = false
        · have HE : Hid (walkR rs = (0, 0, 1)) := Lib.hid (by
            have : badR ⟨k, s⟩ = true := by simp [badR, HOK.out, HZ.out, hbad]
            rw [HW.out, HD.out, wk, if_pos this])
          have e1 : (k != 1) = true := by simp [hbad.1]
          have e2 : z = false := hbad.2
          subst e2
          clear hbad
          go_wp2_with fail
          refine (HOF.out _).mono ?_
          rintro e w2 ⟨rfl, hb2⟩
          have HB2 := Lib.hid (HB1.out.trans (hb2.mono HB1.out.size))
          have d0 : w2.cell? ⟨wr.heap.size, 0, none⟩ = some (.int .i64 k) := (hb2.cell (p := ⟨wr.heap.size, 0, none⟩) (by simp)).trans (by simp)
          have d1 : w2.cell? ⟨wr.heap.size, 1, none⟩ = some (.int .u64 W0) := (hb2.cell (p := ⟨wr.heap.size, 1, none⟩) (by simp)).trans (by simp)
          have d2 : w2.cell? ⟨wr.heap.size, 2, none⟩ = some (.int .u64 W1) := (hb2.cell (p := ⟨wr.heap.size, 2, none⟩) (by simp)).trans (by simp)
          have d3 : w2.cell? ⟨wr.heap.size, 3, none⟩ = some (.int .u64 W2) := (hb2.cell (p := ⟨wr.heap.size, 3, none⟩) (by simp)).trans (by simp)
          have d4 : w2.cell? ⟨wr.heap.size, 4, none⟩ = some (.int .u64 W3) := (hb2.cell (p := ⟨wr.heap.size, 4, none⟩) (by simp)).trans (by simp)
          clear hb2
          go_wp2
          go_ret3
          exact ⟨ret_wv HE.out, HB2.out⟩
        · have HG : Hid (badR ⟨k, s⟩ = false) := Lib.hid (by
            by_cases hk : k = 1
            · simp [badR, hk]
              have := HOK.out; rwa [hk] at this
            · have : z = true := by cases z <;> simp_all
              simp [badR, HOK.out, HZ.out, this])
          have e12 : (k = 1 ∧ (k == 1) = true) ∨ ((k != 1) = true ∧ z = true) := by
            by_cases hk : k = 1
            · exact .inl ⟨hk, by simp [hk]⟩
            · exact .inr ⟨by simp [hk], by cases z <;> simp_all⟩
          clear hbad
          by_cases hqp : p < q
          · have HE : Hid (walkR rs = (0, 0, 3)) := Lib.hid (by
              rw [HW.out, HD.out, wk, if_neg (by rw [HG.out]; decide), if_pos (by rw [HQ.out]; exact hqp)])
            have q1 : (p : Int) < (q : Int) := by omega
            clear hqp
            rcases e12 with ⟨rfl, e1⟩ | ⟨e1, rfl⟩
            all_goals
              go_wp2_with fail
              refine (HOF.out _).mono ?_
              rintro e w2 ⟨rfl, hb2⟩
              have HB2 := Lib.hid (HB1.out.trans (hb2.mono HB1.out.size))
              have d0 : w2.cell? ⟨wr.heap.size, 0, none⟩ = some (.int .i64 _) := (hb2.cell (p := ⟨wr.heap.size, 0, none⟩) (by simp)).trans (by simp; rfl)
              have d1 : w2.cell? ⟨wr.heap.size, 1, none⟩ = some (.int .u64 W0) := (hb2.cell (p := ⟨wr.heap.size, 1, none⟩) (by simp)).trans (by simp)
              have d2 : w2.cell? ⟨wr.heap.size, 2, none⟩ = some (.int .u64 W1) := (hb2.cell (p := ⟨wr.heap.size, 2, none⟩) (by simp)).trans (by simp)
              have d3 : w2.cell? ⟨wr.heap.size, 3, none⟩ = some (.int .u64 W2) := (hb2.cell (p := ⟨wr.heap.size, 3, none⟩) (by simp)).trans (by simp)
              have d4 : w2.cell? ⟨wr.heap.size, 4, none⟩ = some (.int .u64 W3) := (hb2.cell (p := ⟨wr.heap.size, 4, none⟩) (by simp)).trans (by simp)
              clear hb2
              go_wp2
              go_ret3
              exact ⟨ret_wv HE.out, HB2.out⟩
          · have HE : Hid (wk rs 0 0 = wk (rs.drop (j + 1)) (p + 1 - q) (max m (p + 1 - q))) := Lib.hid (by
              rw [HD.out, wk, if_neg (by rw [HG.out]; decide), if_neg (by rw [HQ.out]; exact hqp), HQ.out])
            have q1 : ¬ (p : Int) < (q : Int) := by omega
            obtain ⟨t, ht⟩ : ∃ t, p + 1 - q = t := ⟨_, rfl⟩
            rw [ht] at HE
            have q2 : (p : Int) + (1 - (q : Int)) = (t : Int) := by omega
            have q3 : Hid ((if m < t then (t : Int) else (m : Int)) = ((max m t : Nat) : Int)) := Lib.hid (by by_cases h : m < t <;> simp only [h, if_true, if_false] <;> omega)
            have ht2 : t ≤ j + 1 := by omega
            clear hqp ht
            rcases e12 with ⟨rfl, e1⟩ | ⟨e1, rfl⟩
            all_goals
              go_wp2_with fail
              refine (HOF.out _).mono ?_
              rintro e w2 ⟨rfl, hb2⟩
              have HB2 := Lib.hid (HB1.out.trans (hb2.mono HB1.out.size))
              have d0 : w2.cell? ⟨wr.heap.size, 0, none⟩ = some (.int .i64 _) := (hb2.cell (p := ⟨wr.heap.size, 0, none⟩) (by simp)).trans (by simp; rfl)
              have d1 : w2.cell? ⟨wr.heap.size, 1, none⟩ = some (.int .u64 W0) := (hb2.cell (p := ⟨wr.heap.size, 1, none⟩) (by simp)).trans (by simp)
              have d2 : w2.cell? ⟨wr.heap.size, 2, none⟩ = some (.int .u64 W1) := (hb2.cell (p := ⟨wr.heap.size, 2, none⟩) (by simp)).trans (by simp)
              have d3 : w2.cell? ⟨wr.heap.size, 3, none⟩ = some (.int .u64 W2) := (hb2.cell (p := ⟨wr.heap.size, 3, none⟩) (by simp)).trans (by simp)
              have d4 : w2.cell? ⟨wr.heap.size, 4, none⟩ = some (.int .u64 W3) := (hb2.cell (p := ⟨wr.heap.size, 4, none⟩) (by simp)).trans (by simp)
              clear hb2
              go_wp2
              go_roundw
              case rel =>
                exact ⟨j + 1, t, max m t, by omega, by go_num, rfl, by rw [q3.out], ht2, by omega, HE.out, HB2.out⟩
              case measure => simp [intOf]; omega
    · have HE : Hid (walkR rs = (p, m, 0)) := Lib.hid (by rw [HW.out, HWK.out, List.drop_of_length_le (by rw [HL.out]; omega)]; rfl)
      go_wp2
      go_ret3
      exact ⟨ret_wv HE.out, HB.out⟩
def chkR (l : List Rx) : Nat := if (walkR l).2.2 = 0 ∧ (walkR l).1 ≠ 1 then 3 else (walkR l).2.2
theorem wk_le : ∀ (l : List Rx) (p m : Nat), (wk l p m).1 ≤ p + l.length ∧ (wk l p m).2.1 ≤ max m (p + l.length) ∧ (wk l p m).2.2 ≤ 3
  | [], p, m => by simp [wk]; omega
  | r :: l, p, m => by
    rw [wk]
    by_cases h1 : badR r = true
    · rw [if_pos h1]; simp
    · rw [if_neg h1]
      by_cases h2 : p < nP r.k
      · rw [if_pos h2]; simp
      · rw [if_neg h2]
        have := wk_le l (p + 1 - nP r.k) (max m (p + 1 - nP r.k))
        simp only [List.length_cons]; omega
theorem walkR_le (l : List Rx) : (walkR l).1 ≤ 512 ∧ (walkR l).2.1 ≤ 512 ∧ (walkR l).2.2 ≤ 4 := by
  unfold walkR
  by_cases h : 512 < l.length
  · rw [if_pos h]; simp
  · rw [if_neg h]
    have := wk_le l 0 0
    omega
theorem ret_i64 {a b : Int} (h : a = b) : Ending.returned (.int .i64 a) = .returned (.int .i64 b) := by rw [h]
theorem check_any (w : World) (a : Option Addr) (n c : Nat) (rs : List Rx) (h : CRow rxC 5 w a n rs) :
    Calls Try.prog 24 #[.slice a n c] w fun e w' => e = .returned (.int .i64 (chkR rs : Nat)) ∧ Below w.heap.size w w' := by
  have HC := Lib.hid (walk_any w a n c rs h)
  have HLE := Lib.hid (walkR_le rs)
  have hl2 := h.2.1
  unfold chkR wv at *
  clear h
  generalize walkR rs = x at HC HLE ⊢
  obtain ⟨p, m, q⟩ := x
  dsimp only at *
  obtain ⟨hp, hm, hq⟩ := HLE.out
  clear HLE
  by_cases h0 : q = 0
  · subst h0
    by_cases h1 : p = 1
    · have HE : Hid ((if 0 = 0 ∧ p ≠ 1 then 3 else 0) = 0) := Lib.hid (by simp [h1])
      have e1 : ((p : Int) != 1) = false := by simp [h1]
      rw [HE.out]
      clear h1 HE
      go_enter Try.func24, Try.ntmps24
      go_wp2_with fail
      refine HC.out.mono ?_
      rintro e w1 ⟨rfl, hb⟩
      have HB := Lib.hid hb
      clear hb HC
      go_wp2
      go_ret
      exact ⟨rfl, HB.out⟩
    · have HE : Hid ((if 0 = 0 ∧ p ≠ 1 then 3 else 0) = 3) := Lib.hid (by simp [h1])
      have e1 : ((p : Int) != 1) = true := by simp; omega
      rw [HE.out]
      clear h1 HE
      go_enter Try.func24, Try.ntmps24
      go_wp2_with fail
      refine HC.out.mono ?_
      rintro e w1 ⟨rfl, hb⟩
      have HB := Lib.hid hb
      clear hb HC
      go_wp2
      go_ret
      exact ⟨rfl, HB.out⟩
  · have HE : Hid ((if q = 0 ∧ p ≠ 1 then 3 else q) = q) := Lib.hid (by simp [h0])
    have e1 : ((q : Int) == 0) = false := by simp; omega
    have e2 : (q : Int) ≠ 0 := by omega
    rw [HE.out]
    clear h0 HE
    go_enter Try.func24, Try.ntmps24
    go_wp2_with fail
    refine HC.out.mono ?_
    rintro e w1 ⟨rfl, hb⟩
    have HB := Lib.hid hb
    clear hb HC
    go_wp2
    go_ret
    exact ⟨rfl, HB.out⟩
def highR (l : List Rx) : Nat := if chkR l = 0 then (walkR l).2.1 else 0
end Go.Proofs.Ytbefndibkpjgaaa
/- Expressions as trees; which steps are one. -/
namespace Go.Proofs.Ytbefndibkpjgaaa
open Go.RowKit
set_option linter.unusedVariables false

inductive RxT where
  | set (S : Nat → Bool)
  | empty
  | cat (a b : RxT)
  | alt (a b : RxT)
  | star (a : RxT)
  | plus (a : RxT)
  | opt (a : RxT)
/-- The steps of an expression. -/
def post : RxT → List Rx
  | .set S => [⟨1, S⟩]
  | .empty => [stp0 2]
  | .cat a b => post a ++ (post b ++ [stp0 3])
  | .alt a b => post a ++ (post b ++ [stp0 4])
  | .star a => post a ++ [stp0 5]
  | .plus a => post a ++ [stp0 6]
  | .opt a => post a ++ [stp0 7]
theorem post_pos (T : RxT) : 1 ≤ (post T).length := by cases T <;> simp [post] <;> omega
/-- How many sets. -/
def nSet : RxT → Nat
  | .set _ => 1
  | .empty => 0
  | .cat a b => nSet a + nSet b
  | .alt a b => nSet a + nSet b
  | .star a => nSet a
  | .plus a => nSet a
  | .opt a => nSet a
def setsT : RxT → List (Nat → Bool)
  | .set S => [S]
  | .empty => []
  | .cat a b => setsT a ++ setsT b
  | .alt a b => setsT a ++ setsT b
  | .star a => setsT a
  | .plus a => setsT a
  | .opt a => setsT a
theorem setsT_len (T : RxT) : (setsT T).length = nSet T := by
  induction T <;> simp_all [setsT, nSet]
def cntS1 (l : List Rx) : Nat := (l.filter fun r => r.k == 1).length
theorem cntS1_app (l m : List Rx) : cntS1 (l ++ m) = cntS1 l + cntS1 m := by simp [cntS1]
theorem cntS1_post (T : RxT) : cntS1 (post T) = nSet T := by
  induction T with
  | set S => rfl
  | empty => rfl
  | cat a b iha ihb => simp only [post, cntS1_app, iha, ihb, nSet]; rfl
  | alt a b iha ihb => simp only [post, cntS1_app, iha, ihb, nSet]; rfl
  | star a iha => simp only [post, cntS1_app, iha, nSet]; rfl
  | plus a iha => simp only [post, cntS1_app, iha, nSet]; rfl
  | opt a iha => simp only [post, cntS1_app, iha, nSet]; rfl
theorem nSet_le (T : RxT) : nSet T ≤ (post T).length := by
  rw [← cntS1_post]; exact List.length_filter_le _ _
theorem filt_sets (T : RxT) : ((post T).filter fun r => r.k == 1).map Rx.s = setsT T := by
  induction T with
  | set S => rfl
  | empty => rfl
  | cat a b iha ihb => simp only [post, List.filter_append, List.map_append, iha, ihb, setsT]; simp [stp0]
  | alt a b iha ihb => simp only [post, List.filter_append, List.map_append, iha, ihb, setsT]; simp [stp0]
  | star a iha => simp only [post, List.filter_append, List.map_append, iha, setsT]; simp [stp0]
  | plus a iha => simp only [post, List.filter_append, List.map_append, iha, setsT]; simp [stp0]
  | opt a iha => simp only [post, List.filter_append, List.map_append, iha, setsT]; simp [stp0]
/-! From steps to the tree. -/
def stP (st : List RxT) : List Rx := st.reverse.flatMap post
theorem stP_cons (T : RxT) (st : List RxT) : stP (T :: st) = stP st ++ post T := by simp [stP]
theorem zS_cells {r : Rx} (h : zS r.s = true) : rxC r = rxC (stp0 r.k) := by
  unfold zS at h
  simp only [Bool.and_eq_true, beq_iff_eq] at h
  rw [stp0_C]
  unfold rxC
  rw [h.1, h.2.1, h.2.2.1, h.2.2.2]
theorem wk_err {l : List Rx} {p m : Nat} (h : (wk l p m).2.2 = 0) : ∀ r t, l = r :: t → badR r = false ∧ nP r.k ≤ p ∧ (wk t (p + 1 - nP r.k) (max m (p + 1 - nP r.k))).2.2 = 0 ∧ wk l p m = wk t (p + 1 - nP r.k) (max m (p + 1 - nP r.k)) := by
  rintro r t rfl
  rw [wk] at h ⊢
  by_cases h1 : badR r = true
  · rw [if_pos h1] at h; simp at h
  · rw [if_neg h1] at h ⊢
    by_cases h2 : p < nP r.k
    · rw [if_pos h2] at h; simp at h
    · rw [if_neg h2] at h ⊢
      exact ⟨by simpa using h1, by omega, h, rfl⟩
theorem dec_st : ∀ (l : List Rx) (st : List RxT) (m : Nat), (wk l st.length m).2.2 = 0 → ∃ st' : List RxT, st'.length = (wk l st.length m).1 ∧ (stP st').map rxC = (stP st ++ l).map rxC
  | [], st, m, _ => ⟨st, rfl, by simp⟩
  | r :: l, st, m, h => by
    obtain ⟨hb, hp, h2, he⟩ := wk_err h r l rfl
    have hk : okK r.k = true := by unfold badR at hb; simp at hb; exact hb.1
    have hz : r.k ≠ 1 → zS r.s = true := by unfold badR at hb; simp at hb; exact hb.2
    have go : ∀ (T : RxT) (st2 : List RxT), st2.length + 1 = st.length + 1 - nP r.k → (stP (T :: st2)).map rxC = (stP st ++ [r]).map rxC → ∃ st' : List RxT, st'.length = (wk (r :: l) st.length m).1 ∧ (stP st').map rxC = (stP st ++ r :: l).map rxC := by
      intro T st2 hl hc
      have h3 : (wk l (T :: st2).length (max m (st.length + 1 - nP r.k))).2.2 = 0 := by rw [List.length_cons, hl]; exact h2
      obtain ⟨st', e1, e2⟩ := dec_st l (T :: st2) _ h3
      refine ⟨st', by rw [e1, he, List.length_cons, hl], ?_⟩
      rw [e2, List.map_append, hc]; simp
    have h7 : r.k = 1 ∨ r.k = 2 ∨ r.k = 3 ∨ r.k = 4 ∨ r.k = 5 ∨ r.k = 6 ∨ r.k = 7 := by
      unfold okK at hk; simp at hk; omega
    obtain ⟨k, s⟩ := r
    dsimp only at *
    rcases h7 with rfl | rfl | rfl | rfl | rfl | rfl | rfl
    · exact go (.set s) st (by simp [nP]) (by rw [stP_cons]; rfl)
    · have hc := zS_cells (r := ⟨2, s⟩) (hz (by decide))
      exact go .empty st (by simp [nP]) (by rw [stP_cons]; simp only [post, List.map_append, List.map_cons, List.map_nil, hc])
    · have hc := zS_cells (r := ⟨3, s⟩) (hz (by decide))
      match st, hp with
      | b :: a :: st2, _ => exact go (.cat a b) st2 (by simp [nP]) (by simp only [stP_cons, post, List.map_append, List.map_cons, List.map_nil, hc, List.append_assoc])
      | [_], hp => simp [nP] at hp
      | [], hp => simp [nP] at hp
    · have hc := zS_cells (r := ⟨4, s⟩) (hz (by decide))
      match st, hp with
      | b :: a :: st2, _ => exact go (.alt a b) st2 (by simp [nP]) (by simp only [stP_cons, post, List.map_append, List.map_cons, List.map_nil, hc, List.append_assoc])
      | [_], hp => simp [nP] at hp
      | [], hp => simp [nP] at hp
    · have hc := zS_cells (r := ⟨5, s⟩) (hz (by decide))
      match st, hp with
      | a :: st2, _ => exact go (.star a) st2 (by simp [nP]) (by simp only [stP_cons, post, List.map_append, List.map_cons, List.map_nil, hc, List.append_assoc])
      | [], hp => simp [nP] at hp
    · have hc := zS_cells (r := ⟨6, s⟩) (hz (by decide))
      match st, hp with
      | a :: st2, _ => exact go (.plus a) st2 (by simp [nP]) (by simp only [stP_cons, post, List.map_append, List.map_cons, List.map_nil, hc, List.append_assoc])
      | [], hp => simp [nP] at hp
    · have hc := zS_cells (r := ⟨7, s⟩) (hz (by decide))
      match st, hp with
      | a :: st2, _ => exact go (.opt a) st2 (by simp [nP]) (by simp only [stP_cons, post, List.map_append, List.map_cons, List.map_nil, hc, List.append_assoc])
      | [], hp => simp [nP] at hp
theorem tree_of {l : List Rx} (h : chkR l = 0) : l.length ≤ 512 ∧ ∃ T, (post T).map rxC = l.map rxC := by
  unfold chkR at h
  by_cases h1 : (walkR l).2.2 = 0 ∧ (walkR l).1 ≠ 1
  · rw [if_pos h1] at h; cases h
  rw [if_neg h1] at h
  have hp : (walkR l).1 = 1 := by
    by_cases h2 : (walkR l).1 = 1
    · exact h2
    · exact absurd ⟨h, h2⟩ h1
  unfold walkR at h hp
  by_cases h3 : 512 < l.length
  · rw [if_pos h3] at h; simp at h
  rw [if_neg h3] at h hp
  obtain ⟨st, e1, e2⟩ := dec_st l [] 0 h
  have e3 : st.length = 1 := by rw [e1]; exact hp
  match st, e3 with
  | [T], _ => exact ⟨by omega, T, by simpa [stP] using e2⟩
theorem crow_cells {w : World} {a : Option Addr} {n : Nat} {l m : List Rx} (h : CRow rxC 5 w a n l) (e : m.map rxC = l.map rxC) : CRow rxC 5 w a n m := by
  obtain ⟨h1, h2, h3⟩ := h
  have hl : m.length = l.length := by have := congrArg List.length e; simpa using this
  refine ⟨by rw [hl, h1], h2, fun hp => ?_⟩
  obtain ⟨b, off, ha, hb, hc⟩ := h3 hp
  refine ⟨b, off, ha, hb, fun i o hi j v hv => ?_⟩
  have hil : i < l.length := by rw [← hl]; exact (List.getElem?_eq_some_iff.1 hi).1
  have e2 : (m.map rxC)[i]? = (l.map rxC)[i]? := by rw [e]
  rw [List.getElem?_map, List.getElem?_map, hi, List.getElem?_eq_getElem hil] at e2
  simp only [Option.map_some, Option.some.injEq] at e2
  exact hc i _ (List.getElem?_eq_getElem hil) j v (by rw [← e2]; exact hv)
/-- The parts of an expression, in the order of their last steps: how many sets stand ahead, and which part. -/
def partsT (base : Nat) : RxT → List (Nat × RxT)
  | .set S => [(base, .set S)]
  | .empty => [(base, .empty)]
  | .cat a b => partsT base a ++ (partsT (base + nSet a) b ++ [(base, .cat a b)])
  | .alt a b => partsT base a ++ (partsT (base + nSet a) b ++ [(base, .alt a b)])
  | .star a => partsT base a ++ [(base, .star a)]
  | .plus a => partsT base a ++ [(base, .plus a)]
  | .opt a => partsT base a ++ [(base, .opt a)]
theorem partsT_len (T : RxT) : ∀ base, (partsT base T).length = (post T).length := by
  induction T with
  | set S => intro b; rfl
  | empty => intro b; rfl
  | cat a b iha ihb => intro base; simp [partsT, post, iha, ihb]
  | alt a b iha ihb => intro base; simp [partsT, post, iha, ihb]
  | star a iha => intro base; simp [partsT, post, iha]
  | plus a iha => intro base; simp [partsT, post, iha]
  | opt a iha => intro base; simp [partsT, post, iha]
/-- A part's steps among those of the whole. -/
def PartAt (l : List Rx) (i base : Nat) (T : RxT) : Prop := ∃ p q, l = p ++ post T ++ q ∧ i + 1 = p.length + (post T).length ∧ cntS1 p = base
theorem PartAt.whole (T : RxT) : PartAt (post T) ((post T).length - 1) 0 T := ⟨[], [], by simp, by have := post_pos T; simp; omega, rfl⟩
theorem PartAt.lt {l : List Rx} {i base : Nat} {T : RxT} (h : PartAt l i base T) : i < l.length := by
  obtain ⟨p, q, rfl, hi, _⟩ := h
  simp only [List.length_append]; have := post_pos T; omega
theorem PartAt.ctx {l : List Rx} {i base : Nat} {T : RxT} (h : PartAt l i base T) (p q : List Rx) : PartAt (p ++ l ++ q) (p.length + i) (cntS1 p + base) T := by
  obtain ⟨p', q', rfl, hi, hc⟩ := h
  exact ⟨p ++ p', q' ++ q, by simp, by simp; omega, by rw [cntS1_app, hc]⟩
/-- The last part of a part of one or of two parts, and the first one of two. -/
theorem PartAt.last2 {l : List Rx} {i base : Nat} {a b : RxT} {k : Int} {T : RxT} (hT : post T = post a ++ (post b ++ [stp0 k])) (h : PartAt l i base T) : 1 ≤ i ∧ PartAt l (i - 1) (base + nSet a) b ∧ (post b).length + 1 ≤ i ∧ PartAt l (i - (post b).length - 1) base a := by
  obtain ⟨p, q, rfl, hi, hc⟩ := h
  have ha := post_pos a
  have hb := post_pos b
  rw [hT] at hi ⊢
  simp only [List.length_append, List.length_singleton] at hi
  refine ⟨by omega, ⟨p ++ post a, [stp0 k] ++ q, by simp, by simp; omega, by rw [cntS1_app, hc, cntS1_post]⟩, by omega, ⟨p, post b ++ [stp0 k] ++ q, by simp, by omega, hc⟩⟩
theorem PartAt.last1 {l : List Rx} {i base : Nat} {a : RxT} {k : Int} {T : RxT} (hT : post T = post a ++ [stp0 k]) (h : PartAt l i base T) : 1 ≤ i ∧ PartAt l (i - 1) base a := by
  obtain ⟨p, q, rfl, hi, hc⟩ := h
  have ha := post_pos a
  rw [hT] at hi ⊢
  simp only [List.length_append, List.length_singleton] at hi
  exact ⟨by omega, ⟨p, [stp0 k] ++ q, by simp, by omega, hc⟩⟩
/-- The kind of a part's last step. -/
def topK : RxT → Int
  | .set _ => 1
  | .empty => 2
  | .cat _ _ => 3
  | .alt _ _ => 4
  | .star _ => 5
  | .plus _ => 6
  | .opt _ => 7
theorem post_last (T : RxT) : ∃ p r, post T = p ++ [r] ∧ r.k = topK T := by
  cases T with
  | set S => exact ⟨[], _, rfl, rfl⟩
  | empty => exact ⟨[], _, rfl, rfl⟩
  | cat a b => exact ⟨post a ++ post b, stp0 3, by simp [post], rfl⟩
  | alt a b => exact ⟨post a ++ post b, stp0 4, by simp [post], rfl⟩
  | star a => exact ⟨post a, stp0 5, rfl, rfl⟩
  | plus a => exact ⟨post a, stp0 6, rfl, rfl⟩
  | opt a => exact ⟨post a, stp0 7, rfl, rfl⟩
theorem PartAt.kind {l : List Rx} {i base : Nat} {T : RxT} (h : PartAt l i base T) : ∃ r, l[i]? = some r ∧ r.k = topK T := by
  obtain ⟨p, q, rfl, hi, _⟩ := h
  obtain ⟨p', r, e, hk⟩ := post_last T
  refine ⟨r, ?_, hk⟩
  rw [e] at hi ⊢
  simp only [List.length_append, List.length_singleton] at hi
  have : i = (p ++ p').length := by simp; omega
  subst this
  simp
theorem parts_at (T : RxT) : ∀ (base i : Nat) (x : Nat × RxT), (partsT base T)[i]? = some x → ∃ b, x.1 = base + b ∧ PartAt (post T) i b x.2 := by
  have one : ∀ (T : RxT) (base i : Nat) (x : Nat × RxT) (k : Int) (a : RxT), post T = post a ++ [stp0 k] → partsT base T = partsT base a ++ [(base, T)] → (∀ (base i : Nat) (x : Nat × RxT), (partsT base a)[i]? = some x → ∃ b, x.1 = base + b ∧ PartAt (post a) i b x.2) → (partsT base T)[i]? = some x → ∃ b, x.1 = base + b ∧ PartAt (post T) i b x.2 := by
    intro T base i x k a e1 e2 iha h
    rw [e2] at h
    by_cases hi : i < (partsT base a).length
    · rw [List.getElem?_append_left hi] at h
      obtain ⟨b, hb, hp⟩ := iha _ _ _ h
      exact ⟨b, hb, by have := hp.ctx [] [stp0 k]; simpa [e1, cntS1] using this⟩
    · rw [List.getElem?_append_right (by omega)] at h
      have h0 : i - (partsT base a).length = 0 := by
        have := (List.getElem?_eq_some_iff.1 h).1; simp at this; omega
      rw [h0] at h
      simp only [List.getElem?_cons_zero, Option.some.injEq] at h
      subst h
      refine ⟨0, rfl, [], [], by simp, ?_, rfl⟩
      rw [partsT_len] at hi h0
      rw [e1]; simp; omega
  have two : ∀ (T : RxT) (base i : Nat) (x : Nat × RxT) (k : Int) (a c : RxT), post T = post a ++ (post c ++ [stp0 k]) → partsT base T = partsT base a ++ (partsT (base + nSet a) c ++ [(base, T)]) → (∀ (base i : Nat) (x : Nat × RxT), (partsT base a)[i]? = some x → ∃ b, x.1 = base + b ∧ PartAt (post a) i b x.2) → (∀ (base i : Nat) (x : Nat × RxT), (partsT base c)[i]? = some x → ∃ b, x.1 = base + b ∧ PartAt (post c) i b x.2) → (partsT base T)[i]? = some x → ∃ b, x.1 = base + b ∧ PartAt (post T) i b x.2 := by
    intro T base i x k a c e1 e2 iha ihc h
    rw [e2] at h
    by_cases hi : i < (partsT base a).length
    · rw [List.getElem?_append_left hi] at h
      obtain ⟨b, hb, hp⟩ := iha _ _ _ h
      exact ⟨b, hb, by have := hp.ctx [] (post c ++ [stp0 k]); simpa [e1, cntS1] using this⟩
    · rw [List.getElem?_append_right (by omega)] at h
      by_cases hi2 : i - (partsT base a).length < (partsT (base + nSet a) c).length
      · rw [List.getElem?_append_left hi2] at h
        obtain ⟨b, hb, hp⟩ := ihc _ _ _ h
        refine ⟨nSet a + b, by rw [hb]; omega, ?_⟩
        have := hp.ctx (post a) [stp0 k]
        rw [cntS1_post, partsT_len] at this
        rw [partsT_len] at hi
        rw [e1]
        rw [List.append_assoc] at this
        rwa [show (post a).length + (i - (post a).length) = i by omega] at this
      · rw [List.getElem?_append_right (by omega)] at h
        have h0 : i - (partsT base a).length - (partsT (base + nSet a) c).length = 0 := by
          have := (List.getElem?_eq_some_iff.1 h).1; simp at this; omega
        rw [h0] at h
        simp only [List.getElem?_cons_zero, Option.some.injEq] at h
        subst h
        refine ⟨0, rfl, [], [], by simp, ?_, rfl⟩
        rw [partsT_len] at hi hi2 h0
        rw [partsT_len] at hi2 h0
        rw [e1]; simp; omega
  induction T with
  | set S =>
    intro base i x h
    cases i with
    | zero => simp [partsT] at h; subst h; exact ⟨0, rfl, [], [], by simp, by simp [post], rfl⟩
    | succ i => simp [partsT] at h
  | empty =>
    intro base i x h
    cases i with
    | zero => simp [partsT] at h; subst h; exact ⟨0, rfl, [], [], by simp, by simp [post], rfl⟩
    | succ i => simp [partsT] at h
  | cat a b iha ihb => exact fun base i x h => two _ base i x 3 a b rfl rfl iha ihb h
  | alt a b iha ihb => exact fun base i x h => two _ base i x 4 a b rfl rfl iha ihb h
  | star a iha => exact fun base i x h => one _ base i x 5 a rfl rfl iha h
  | plus a iha => exact fun base i x h => one _ base i x 6 a rfl rfl iha h
  | opt a iha => exact fun base i x h => one _ base i x 7 a rfl rfl iha h
end Go.Proofs.Ytbefndibkpjgaaa
/- Rows of the call's own: their cells; one cell written anew. -/
namespace Go.Proofs.Ytbefndibkpjgaaa
open Go.RowKit
set_option linter.unusedVariables false

theorem own_at {w : World} {base : Nat} {e : TypeId} {k n c : Nat} {A : Option Addr} {xs : List Value} (h : w.ownsRow base e k (.slice A n c) n xs) (hp : 0 < n) : ∃ g, A = some ⟨g, 0, none⟩ ∧ base ≤ g ∧ g < w.heap.size ∧ ∀ i u, xs[i]? = some u → w.cell? ⟨g, i, none⟩ = some u := by
  rcases h.2 with ⟨_, h0⟩ | ⟨g, cap, cur, hv, hb, _⟩
  · omega
  · injection hv with hA
    subst hA
    refine ⟨g, rfl, hb, (h.lt g rfl).2, fun i u hu => ?_⟩
    have := h.cells (g := g) rfl i u hu
    have e : (⟨g, 0, none⟩ : Addr).add i = ⟨g, i, none⟩ := by unfold Addr.add; split <;> simp_all
    rwa [e] at this
/-- One cell of an owned row written anew. -/
theorem own_set {w : World} {base : Nat} {e : TypeId} {k g n c : Nat} {xs : List Value} (h : w.ownsRow base e k (.slice (some ⟨g, 0, none⟩) n c) n xs) (j : Nat) (u : Value) :
    (w.setCell ⟨g, j, none⟩ u).ownsRow base e k (.slice (some ⟨g, 0, none⟩) n c) n (xs.set j u) ∧ w.frozen? ⟨g, j, none⟩ = false := by
  rcases h.2 with ⟨h1, _⟩ | ⟨g', cap, cur, hv, hb, hg, r1, r2, r3, r4⟩
  · cases h1
  · injection hv with h1 h2 h3
    have h1 := Option.some.inj h1
    injection h1 with h1
    subst h1 h3
    refine ⟨⟨by rw [List.length_set]; exact h.1, .inr ⟨g, c, _, rfl, hb, heap_setCell_same w g j _ _ u hg, r1, r2, by simpa using r3, ?_⟩⟩, frozen_of_row w g j _ _ hg⟩
    rw [← r4, Array.toList_setIfInBounds, List.take_set]
end Go.Proofs.Ytbefndibkpjgaaa
/- Rows of numbers; has, rises, the same. -/
namespace Go.Proofs.Ytbefndibkpjgaaa
open Go.RowKit
set_option linter.unusedVariables false

def intC (z : Int) : List Value := [.int .i64 z]
theorem intC_len (z : Int) : (intC z).length = 1 := rfl
theorem intC_one (z : Int) : ∀ u ∈ intC z, u.oneCell' = true := fun u hu => by simp [intC] at hu; subst hu; rfl
theorem infoInt : (Try.prog.info? 3).map (fun i => (i.zero, i.size, i.bytes)) = some (some (.int .i64 0), 1, 8) := by kernel_rfl
def bolC (b : Bool) : List Value := [.bool b]
theorem bolC_len (z : Bool) : (bolC z).length = 1 := rfl
theorem bolC_one (z : Bool) : ∀ u ∈ bolC z, u.oneCell' = true := fun u hu => by simp [bolC] at hu; subst hu; rfl
/-- A number of a row. -/
theorem CRow.int {w : World} {a : Option Addr} {n : Nat} {xs : List Int} (h : CRow intC 1 w a n xs) {k : Nat} (hk : k < n) : ∃ b off z, a = some ⟨b, off, none⟩ ∧ b < w.heap.size ∧ xs[k]? = some z ∧ w.cell? ⟨b, off + k, none⟩ = some (.int .i64 z) := by
  obtain ⟨b, off, z, ha, hb, hz, hc⟩ := h.at_ hk
  exact ⟨b, off, z, ha, hb, hz, by have := hc 0 _ rfl; simpa using this⟩
theorem CRow.bool {w : World} {a : Option Addr} {n : Nat} {xs : List Bool} (h : CRow bolC 1 w a n xs) {k : Nat} (hk : k < n) : ∃ b off z, a = some ⟨b, off, none⟩ ∧ b < w.heap.size ∧ xs[k]? = some z ∧ w.cell? ⟨b, off + k, none⟩ = some (.bool z) := by
  obtain ⟨b, off, z, ha, hb, hz, hc⟩ := h.at_ hk
  exact ⟨b, off, z, ha, hb, hz, by have := hc 0 _ rfl; simpa using this⟩
/-- A row of the call's own is handed out. -/
def Giv {α : Type} (t : TypeId) (k : Nat) (C : α → List Value) (w : World) (xs : List α) (e : Ending) (w' : World) : Prop :=
  ∃ A c, e = .returned (.slice A xs.length c) ∧ w'.ownsRow w.heap.size t k (.slice A xs.length c) xs.length (xs.flatMap C) ∧ Below w.heap.size w w'
theorem Giv.mk {α : Type} {t : TypeId} {k : Nat} {C : α → List Value} {w w' : World} {xs : List α} {A : Option Addr} {n c : Nat} (hn : xs.length = n) (h : w'.ownsRow w.heap.size t k (.slice A n c) n (xs.flatMap C)) (hb : Below w.heap.size w w') : Giv t k C w xs (.returned (.slice A n c)) w' := by
  subst hn; exact ⟨A, c, rfl, h, hb⟩
theorem own_row {α : Type} {C : α → List Value} {k : Nat} (hk : ∀ o, (C o).length = k) {w : World} {base : Nat} {e : TypeId} {A : Option Addr} {c : Nat} {os : List α} (h : w.ownsRow base e k (.slice A os.length c) os.length (os.flatMap C)) : CRow C k w A os.length os := by
  obtain ⟨A', c', e1, h1, h2⟩ := own_form h
  exact own_crow hk h (by omega)
theorem own_zero (w : World) (base : Nat) (e : TypeId) (k : Nat) (h : base ≤ w.heap.size) : (w.alloc (.cells #[] e)).ownsRow base e k (.slice (some ⟨w.heap.size, 0, none⟩) 0 0) 0 [] := by
  refine ⟨by simp, .inr ⟨w.heap.size, 0, #[], rfl, h, heap_alloc_new w _, Nat.le_refl _, by decide, by simp, by simp⟩⟩
theorem take_snoc {α : Type} {l : List α} {k : Nat} {x : α} (h : l[k]? = some x) : l.take (k + 1) = l.take k ++ [x] := by rw [List.take_add_one, h]; rfl
/-- One number more behind a row of the call's own. -/
theorem app_int {w : World} {base n : Nat} {v : Value} {os : List Int} (hown : w.ownsRow base 3 1 v n (os.flatMap intC)) (z : Int) (hn : n ≤ 1000000) (hbase : base ≤ w.heap.size) (H : Nat) (hH : w.heap.size = H)
    (ops : Array Oper) (rest : List Oper) (o : Oper) (a : Act) (Q : Exit → Act → World → Prop) (hg : o.guard = none) (s x : Operand) (ho : o.op = .call { callee := .builtin .append, args := #[s, x], argTypes := #[27, 27] })
    (hs : a.eval s = v) (hx : a.eval x = .slice (some ⟨H, 0, none⟩) 1 1)
    (h : ∀ g cap w', w'.ownsRow base 3 1 (.slice (some ⟨g, 0, none⟩) (n + 1) cap) (n + 1) ((os ++ [z]).flatMap intC) → (w.alloc (.cells #[.int .i64 z] 3)).grownBy w' v.ownBlock → (v.ownBlock = some g ∨ g = H + 1) →
      wpList Try.prog ops Q rest (a.put o.dst (.slice (some ⟨g, 0, none⟩) (n + 1) cap)) w') : wpList Try.prog ops Q (o :: rest) a (w.alloc (.cells #[.int .i64 z] 3)) :=
  app_el (P := Try.prog) (C := intC) (T := 27) (by decide) intC_len intC_one Try.underlying27 infoInt rfl hown z (by unfold maxLen; omega) (by omega) hbase H hH #[.int .i64 z] rfl ops rest o a Q hg s x ho hs hx h
/-- Does a list rise? -/
def risB : List Int → Bool
  | [] => true
  | [_] => true
  | a :: b :: l => decide (a < b) && risB (b :: l)
def risUp (xs : List Int) (k : Nat) : Prop := ∀ i a b, i + 1 < k → xs[i]? = some a → xs[i + 1]? = some b → a < b
theorem risB_iff : ∀ xs : List Int, risB xs = true ↔ risUp xs xs.length
  | [] => by simp [risB, risUp]
  | [x] => by
    simp only [risB, true_iff]
    intro i a b hi
    simp at hi
  | x :: y :: l => by
    have ih := risB_iff (y :: l)
    unfold risB
    rw [Bool.and_eq_true, decide_eq_true_eq, ih]
    constructor
    · rintro ⟨h1, h2⟩ i a b hi ha hb
      cases i with
      | zero => simp at ha hb; subst ha; subst hb; exact h1
      | succ i => exact h2 i a b (by simp at hi ⊢; omega) (by simpa using ha) (by simpa using hb)
    · intro h
      exact ⟨h 0 x y (by simp) rfl rfl, fun i a b hi ha hb => h (i + 1) a b (by simp at hi ⊢; omega) (by simpa using ha) (by simpa using hb)⟩
end Go.Proofs.Ytbefndibkpjgaaa
/- A slice of sets, as a list of them. A region that draws its order and calls what makes memory. -/
namespace Go.Proofs.Ytbefndibkpjgaaa
open Go.RowKit Go.Sort

/-- The slice value reads as the list of sets. -/
def SRow (w : World) (a : Option Addr) (len : Nat) (ls : List (Nat → Bool)) : Prop :=
  ls.length = len ∧ len ≤ 9223372036854775807 ∧
  (0 < len → ∃ b off, a = some ⟨b, off, none⟩ ∧ b < w.heap.size ∧ ∀ i S, ls[i]? = some S → ∀ j, j < 4 → w.cell? ⟨b, off + i * 4 + j, none⟩ = some (.int .u64 (wd S j)))
theorem SRow.below {w w' : World} {a : Option Addr} {len : Nat} {ls : List (Nat → Bool)} (h : SRow w a len ls) (hb : Below w.heap.size w w') : SRow w' a len ls := by
  obtain ⟨h1, h2, h4⟩ := h
  refine ⟨h1, h2, fun hp => ?_⟩
  obtain ⟨b, off, ha, hlt, hc⟩ := h4 hp
  exact ⟨b, off, ha, by have := hb.size; omega, fun i S hi j hj => (hb.cell (p := ⟨b, off + i * 4 + j, none⟩) hlt).trans (hc i S hi j hj)⟩
/-- What is there of place k. -/
theorem SRow.at_ {w : World} {a : Option Addr} {len : Nat} {ls : List (Nat → Bool)} (h : SRow w a len ls) {k : Nat} (hk : k < len) : ∃ b off S, a = some ⟨b, off, none⟩ ∧ b < w.heap.size ∧ ls[k]? = some S ∧
    w.cell? ⟨b, off + k * 4, none⟩ = some (.int .u64 (wd S 0)) ∧ w.cell? ⟨b, off + k * 4 + 1, none⟩ = some (.int .u64 (wd S 1)) ∧
    w.cell? ⟨b, off + k * 4 + 2, none⟩ = some (.int .u64 (wd S 2)) ∧ w.cell? ⟨b, off + k * 4 + 3, none⟩ = some (.int .u64 (wd S 3)) := by
  obtain ⟨h1, h2, h4⟩ := h
  obtain ⟨b, off, ha, hlt, hc⟩ := h4 (by omega)
  have hs : ls[k]? = some ls[k] := List.getElem?_eq_getElem (by omega)
  exact ⟨b, off, _, ha, hlt, hs, hc k _ hs 0 (by omega), hc k _ hs 1 (by omega), hc k _ hs 2 (by omega), hc k _ hs 3 (by omega)⟩

/-- A contract that ends in 'Below', in a world of the class. -/
theorem regrown_call {P : Program} {f : FuncId} {args : Array Value} {w : World} {v : Value} (h : ∀ w', Calls P f args w' fun e w'' => e = .returned v ∧ Below w'.heap.size w' w'') (d : Nat) (os : Array Obj) :
    Calls P f args (grow (redrawn w d) os) fun e w'' => e = .returned v ∧ ∃ p : Regrown, w'' = grow (redrawn w p.d) p.os := Calls.regrown_of (h _)
end Go.Proofs.Ytbefndibkpjgaaa
