/- append(v, s...): a row of elements behind a row of the call's own; s may be empty, or none. -/
import Derived.Test.YtjlmmpbichfaoaaOwnRow
import Derived.Deep.AppendSrc
namespace Go.Proofs.Ytjlmmpbichfaoaa
open Go.RowKit
set_option linter.unusedVariables false

theorem setCells_nil (w : World) (b i : Nat) : w.setCells b i [] = w := rfl
theorem run_append_row {P : Program} {α : Type} {C : α → List Value} {k : Nat} (w : World) (t ty : TypeId) (base : Nat) (e : TypeId) (i : TypeInfo) (z : Value) (bytes : Nat) (ht : P.underlying t = some (.slice e)) (hi : P.info? e = some i) (hz : i.zero = some z)
    (hsize : i.size = k) (hby : i.bytes = bytes) (hzs : z.cells.size = k) (hk0 : 0 < k) (hC : ∀ o, (C o).length = k) (hC1 : ∀ o, ∀ u ∈ C o, u.oneCell' = true)
    (v : Value) (n : Nat) (xs : List Value) (hown : w.ownsRow base e k v n xs)
    (a : Option Addr) (m c : Nat) (os : List α) (hr : CRow C k w a m os)
    (h63 : n + m ≤ maxLen) (hbytes : (n + m) * bytes ≤ 140737488355328) (hbase : base ≤ w.heap.size) :
    ∃ v' w', (Builtin.append_ #[t, t] ty #[v, .slice a m c]).run P w = .ok v' w' ∧ w'.ownsRow base e k v' (n + m) (xs ++ os.flatMap C) ∧ w.grownBy w' v.ownBlock ∧ (v'.ownBlock = v.ownBlock ∨ v'.ownBlock = some w.heap.size) := by
  have h1 : ∀ u ∈ os.flatMap C, u.oneCell' = true := fun u hu => by
    obtain ⟨o, _, ho⟩ := List.mem_flatMap.1 hu
    exact hC1 o u ho
  have hlen : ∀ l : List α, (l.flatMap C).length = l.length * k := fun l => by
    induction l with
    | nil => simp
    | cons x l ih => rw [List.flatMap_cons, List.length_append, ih, hC, List.length_cons, Nat.succ_mul, Nat.add_comm]
  have hl : (os.flatMap C).length = m * k := by rw [hlen, hr.1]
  cases a with
  | some ad =>
    have hnews : ∀ j u, (os.flatMap C)[j]? = some u → w.cell? (ad.add j) = some u := by
      intro j u hu
      have hj : j < m * k := by rw [← hl]; exact (List.getElem?_eq_some_iff.1 hu).1
      have hm : 0 < m := by
        rcases Nat.eq_zero_or_pos m with h0 | h0
        · subst h0; simp at hj
        · exact h0
      obtain ⟨b, off, ha, hlt, hc⟩ := hr.2.2 hm
      obtain rfl := Option.some.inj ha
      have hdm : j / k < m := by
        rw [Nat.div_lt_iff_lt_mul hk0]; exact hj
      have hjm : j % k < k := Nat.mod_lt _ hk0
      have ho : os[j / k]? = some (os[j / k]'(by rw [hr.1]; exact hdm)) := List.getElem?_eq_getElem (by rw [hr.1]; exact hdm)
      have hv : (C (os[j / k]'(by rw [hr.1]; exact hdm)))[j % k]? = some ((C (os[j / k]'(by rw [hr.1]; exact hdm)))[j % k]'(by rw [hC]; exact hjm)) := List.getElem?_eq_getElem (by rw [hC]; exact hjm)
      have e1 := flat_get hC os (j / k) _ ho (j % k) _ hv
      have e2 : j / k * k + j % k = j := by rw [Nat.mul_comm]; exact Nat.div_add_mod j k
      rw [e2, hu] at e1
      obtain rfl := Option.some.inj e1
      have := hc (j / k) _ ho (j % k) _ hv
      rw [show off + j / k * k + j % k = off + j by omega] at this
      have e : (⟨b, off, none⟩ : Addr).add j = ⟨b, off + j, none⟩ := by unfold Addr.add; split <;> simp_all
      rw [e]; exact this
    obtain ⟨v', w', hrun, h2, h3, _, h5⟩ := run_append_own_at (P := P) w base t ty e i z k bytes ht hi hz hsize hby hzs hk0 v n xs hown ad m c (os.flatMap C) hl hnews h1 h63 hbytes hbase
    exact ⟨v', w', hrun, h2, h3, h5⟩
  | none =>
    have hm : m = 0 := by
      rcases Nat.eq_zero_or_pos m with h0 | h0
      · exact h0
      · obtain ⟨b, off, ha, _⟩ := hr.2.2 h0; cases ha
    subst hm
    have hos : os = [] := List.length_eq_zero_iff.1 hr.1
    subst hos
    have grow0 : w.grownBy w v.ownBlock := World.grownBy.refl _ _
    refine ⟨v, w, ?_, by simpa using hown, grow0, .inl rfl⟩
    rcases hown.2 with ⟨rfl, rfl⟩ | ⟨g, cap, cur, rfl, hbg, hg, hnc, hcm, hcs, htake⟩
    · simp [Builtin.append_, run_underlying ht, sizeOf, typeInfo, hi, Builtin.lenOf, Builtin.firstCells]
    · have := run_append_room_src (P := P) w t t ty e i ht hi g 0 n cap (.slice none 0 c) 0 [] (Src.ofNil w ht c) (by omega) (by simp) (by simp)
      rw [this, setCells_nil]; rfl
/-- At a plain region's list. -/
theorem wpList_append_row {P : Program} {α : Type} {C : α → List Value} {k : Nat} (w : World) {ops : Array Oper} {rest : List Oper} {o : Oper} {act : Act} {Q : Exit → Act → World → Prop} (hgd : o.guard = none) (s x : Operand) (t : TypeId)
    (ho : o.op = .call { callee := .builtin .append, args := #[s, x], argTypes := #[t, t] })
    (base : Nat) (e : TypeId) (i : TypeInfo) (z : Value) (bytes : Nat) (ht : P.underlying t = some (.slice e)) (hi : P.info? e = some i) (hz : i.zero = some z)
    (hsize : i.size = k) (hby : i.bytes = bytes) (hzs : z.cells.size = k) (hk0 : 0 < k) (hC : ∀ o, (C o).length = k) (hC1 : ∀ o, ∀ u ∈ C o, u.oneCell' = true)
    (v : Value) (n : Nat) (xs : List Value) (hs : act.eval s = v) (hown : w.ownsRow base e k v n xs)
    (a : Option Addr) (m c : Nat) (os : List α) (hx : act.eval x = .slice a m c) (hr : CRow C k w a m os)
    (h63 : n + m ≤ maxLen) (hbytes : (n + m) * bytes ≤ 140737488355328) (hbase : base ≤ w.heap.size)
    (h : ∀ v' w', w'.ownsRow base e k v' (n + m) (xs ++ os.flatMap C) → w.grownBy w' v.ownBlock → (v'.ownBlock = v.ownBlock ∨ v'.ownBlock = some w.heap.size) → wpList P ops Q rest (act.put o.dst v') w') : wpList P ops Q (o :: rest) act w := by
  refine wpList_plain hgd fun K hK => ?_
  obtain ⟨v', w', hrun, h2, h3, h4⟩ := run_append_row (P := P) w t o.type base e i z bytes ht hi hz hsize hby hzs hk0 hC hC1 v n xs hown a m c os hr h63 hbytes hbase
  unfold Oper.wp execOp
  simp only [ho, resolve, invoke, builtin, Sem.run_bind, Sem.run_pure, Result.andThen_ok, List.map_toArray, List.map_cons, List.map_nil, hs, hx, hrun]
  exact hK _ _ (h v' w' h2 h3 h4)
end Go.Proofs.Ytjlmmpbichfaoaa
