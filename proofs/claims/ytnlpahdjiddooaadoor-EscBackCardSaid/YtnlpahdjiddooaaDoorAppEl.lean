/- append(v, x): one element of any shape behind a row of the call's own. -/
import Derived.Test.YtnlpahdjiddooaaDoorOwnRow
namespace Go.Proofs.YtnlpahdjiddooaaDoor
open Go.RowKit
set_option linter.unusedVariables false

theorem own_snoc' {α : Type} {C : α → List Value} {w : World} {base : Nat} {e : TypeId} {k n : Nat} {v : Value} {os : List α} {o : α} (h : w.ownsRow base e k v n (os.flatMap C ++ C o)) : w.ownsRow base e k v n ((os ++ [o]).flatMap C) := by
  simpa using h
theorem app_el {P : Program} {α : Type} {C : α → List Value} {k bytes : Nat} {z : Value} {T e : TypeId} (hk0 : 0 < k) (hC : ∀ o, (C o).length = k) (hC1 : ∀ o, ∀ u ∈ C o, u.oneCell' = true) (ht : P.underlying T = some (.slice e))
    (hinfo : (P.info? e).map (fun i => (i.zero, i.size, i.bytes)) = some (some z, k, bytes)) (hzs : z.cells.size = k)
    {w : World} {base n : Nat} {v : Value} {os : List α} (hown : w.ownsRow base e k v n (os.flatMap C)) (p : α) (hn : n + 1 ≤ maxLen) (hb : (n + 1) * bytes ≤ 140737488355328) (hbase : base ≤ w.heap.size) (H : Nat) (hH : w.heap.size = H) (cs : Array Value) (hcs : cs = (C p).toArray)
    (ops : Array Oper) (rest : List Oper) (o : Oper) (a : Act) (Q : Exit → Act → World → Prop) (hg : o.guard = none) (s x : Operand) (ho : o.op = .call { callee := .builtin .append, args := #[s, x], argTypes := #[T, T] })
    (hs : a.eval s = v) (hx : a.eval x = .slice (some ⟨H, 0, none⟩) 1 1)
    (h : ∀ g cap w', w'.ownsRow base e k (.slice (some ⟨g, 0, none⟩) (n + 1) cap) (n + 1) ((os ++ [p]).flatMap C) → (w.alloc (.cells cs e)).grownBy w' v.ownBlock → (v.ownBlock = some g ∨ g = H + 1) →
      wpList P ops Q rest (a.put o.dst (.slice (some ⟨g, 0, none⟩) (n + 1) cap)) w') : wpList P ops Q (o :: rest) a (w.alloc (.cells cs e)) := by
  subst hH hcs
  obtain ⟨i0, hii, hz0, hz1, hz2⟩ := info_parts hinfo
  exact wpList_append_lies _ hg s x T ho base e i0 _ k bytes ht hii hz0 hz1 hz2 hzs hk0 v n (os.flatMap C) hs (hown.alloc _) ⟨w.heap.size, 0, none⟩ 1 1 (C p) hx (by rw [hC]; omega)
    (World.news_of_block (cs := (C p).toArray) (t := e) (fr := (0, 0)) (heap_alloc_new w _)) (hC1 p) (by omega) (by unfold maxLen at *; omega) hb (by simp; omega) (w.heap.size + 1) (by simp)
    fun g cap w' h1 h2 h3 _ => h g cap w' (own_snoc' (o := p) h1) h2 h3
end Go.Proofs.YtnlpahdjiddooaaDoor
