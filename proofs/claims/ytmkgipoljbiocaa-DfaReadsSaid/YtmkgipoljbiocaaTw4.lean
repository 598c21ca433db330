/- Several texts in one: AppWp, RowsD, Read3, RxWalk, RxT, NetR, NetS, Spot. -/
import Derived.Test.YtmkgipoljbiocaaTw1
import Derived.Test.YtmkgipoljbiocaaTw3
import Derived.StillTailTactics
/- append at one operation of a region that draws its order. -/
namespace Go.Proofs.Ytmkgipoljbiocaa
open Go.RowKit
set_option linter.unusedVariables false

/-- A row of elements behind a row of the call's own. -/
theorem wp_app_row {P : Program} {α : Type} {C : α → List Value} {k bytes : Nat} {z : Value} {t e : TypeId} (hk0 : 0 < k) (hC : ∀ o, (C o).length = k) (hC1 : ∀ o, ∀ u ∈ C o, u.oneCell' = true) (ht : P.underlying t = some (.slice e))
    (hinfo : (P.info? e).map (fun i => (i.zero, i.size, i.bytes)) = some (some z, k, bytes)) (hzs : z.cells.size = k) (w : World) {o : Oper} {act : Act} {K : Act → World → Prop} {Q : Exit → Act → World → Prop} (s x : Operand)
    (ho : o.op = .call { callee := .builtin .append, args := #[s, x], argTypes := #[t, t] }) {base n : Nat} {v : Value} {xs : List α} (hs : act.eval s = v) (hown : w.ownsRow base e k v n (xs.flatMap C))
    {a : Option Addr} {m c : Nat} {os : List α} (hx : act.eval x = .slice a m c) (hr : CRow C k w a m os) (h63 : n + m ≤ maxLen) (hbytes : (n + m) * bytes ≤ 140737488355328) (hbase : base ≤ w.heap.size)
    (h : ∀ v' w', w'.ownsRow base e k v' (n + m) ((xs ++ os).flatMap C) → w.grownBy w' v.ownBlock → (v'.ownBlock = v.ownBlock ∨ v'.ownBlock = some w.heap.size) → K (act.put o.dst v') w') : o.wp P act w K Q := by
  obtain ⟨i, hi, hz, hsize, hby⟩ := info_parts hinfo
  obtain ⟨v', w', hrun, h2, h3, h4⟩ := run_append_row (P := P) w t o.type base e i z bytes ht hi hz hsize hby hzs hk0 hC hC1 v n (xs.flatMap C) hown a m c os hr h63 hbytes hbase
  unfold Oper.wp execOp
  simp only [ho, resolve, invoke, builtin, Sem.run_bind, Sem.run_pure, Result.andThen_ok, List.map_toArray, List.map_cons, List.map_nil, hs, hx, hrun]
  exact h v' w' (by rw [List.flatMap_append]; exact h2) h3 h4
/-- One element behind a row of the call's own: it lies in a block of its own. -/
theorem wp_app_el {P : Program} {α : Type} {C : α → List Value} {k bytes : Nat} {z : Value} {t e : TypeId} (hk0 : 0 < k) (hC : ∀ o, (C o).length = k) (hC1 : ∀ o, ∀ u ∈ C o, u.oneCell' = true) (ht : P.underlying t = some (.slice e))
    (hinfo : (P.info? e).map (fun i => (i.zero, i.size, i.bytes)) = some (some z, k, bytes)) (hzs : z.cells.size = k) (w : World) {o : Oper} {act : Act} {K : Act → World → Prop} {Q : Exit → Act → World → Prop} (s x : Operand)
    (ho : o.op = .call { callee := .builtin .append, args := #[s, x], argTypes := #[t, t] }) {base n : Nat} {v : Value} {xs : List α} (hs : act.eval s = v) (hown : w.ownsRow base e k v n (xs.flatMap C))
    {g : Nat} (y : α) (hx : act.eval x = .slice (some ⟨g, 0, none⟩) 1 1) (hg : w.heap[g]? = some (.cells (C y).toArray e (0, 0))) (h63 : n + 1 ≤ maxLen) (hbytes : (n + 1) * bytes ≤ 140737488355328) (hbase : base ≤ w.heap.size)
    (h : ∀ g' c' w', w'.ownsRow base e k (.slice (some ⟨g', 0, none⟩) (n + 1) c') (n + 1) ((xs ++ [y]).flatMap C) → w.grownBy w' v.ownBlock → (v.ownBlock = some g' ∨ g' = w.heap.size) → K (act.put o.dst (.slice (some ⟨g', 0, none⟩) (n + 1) c')) w') : o.wp P act w K Q := by
  obtain ⟨i, hi, hz, hsize, hby⟩ := info_parts hinfo
  exact wp_append_lies w s x t ho base e i z k bytes ht hi hz hsize hby hzs hk0 v n (xs.flatMap C) hs hown ⟨g, 0, none⟩ 1 1 (C y) hx (by rw [hC]; omega) (fun j u hu => World.news_of_block hg j u hu) (hC1 y) (by omega) h63 hbytes hbase w.heap.size rfl
    fun g' c' w' h1 h2 h3 _ => h g' c' w' (own_snoc' (o := y) h1) h2 h3
/-- The two at a step of a region that draws its order. -/
theorem step_app_el {P : Program} {α : Type} {C : α → List Value} {k bytes : Nat} {z : Value} {t e : TypeId} (hk0 : 0 < k) (hC : ∀ o, (C o).length = k) (hC1 : ∀ o, ∀ u ∈ C o, u.oneCell' = true) (ht : P.underlying t = some (.slice e))
    (hinfo : (P.info? e).map (fun i => (i.zero, i.size, i.bytes)) = some (some z, k, bytes)) (hzs : z.cells.size = k) (w : World) {ops : Array Oper} {o : Oper} {act : Act} {K : Act → World → Prop} {Q : Exit → Act → World → Prop} {E : Prop} (hgd : o.guard = none) (s x : Operand)
    (ho : o.op = .call { callee := .builtin .append, args := #[s, x], argTypes := #[t, t] }) {base n : Nat} {v : Value} {xs : List α} (hs : act.eval s = v) (hown : w.ownsRow base e k v n (xs.flatMap C))
    {g : Nat} (y : α) (hx : act.eval x = .slice (some ⟨g, 0, none⟩) 1 1) (hg : w.heap[g]? = some (.cells (C y).toArray e (0, 0))) (h63 : n + 1 ≤ maxLen) (hbytes : (n + 1) * bytes ≤ 140737488355328) (hbase : base ≤ w.heap.size)
    (h : ∀ g' c' w', w'.ownsRow base e k (.slice (some ⟨g', 0, none⟩) (n + 1) c') (n + 1) ((xs ++ [y]).flatMap C) → w.grownBy w' v.ownBlock → (v.ownBlock = some g' ∨ g' = w.heap.size) → K (act.put o.dst (.slice (some ⟨g', 0, none⟩) (n + 1) c')) w') :
    if Region.wanted o (yielded ops act.tmps) = true then o.wp P act w K Q else E := by
  have hw : Region.wanted o (yielded ops act.tmps) = true := by simp [Region.wanted, hgd]
  rw [if_pos hw]
  exact wp_app_el hk0 hC hC1 ht hinfo hzs w s x ho hs hown y hx hg h63 hbytes hbase h
theorem step_app_row {P : Program} {α : Type} {C : α → List Value} {k bytes : Nat} {z : Value} {t e : TypeId} (hk0 : 0 < k) (hC : ∀ o, (C o).length = k) (hC1 : ∀ o, ∀ u ∈ C o, u.oneCell' = true) (ht : P.underlying t = some (.slice e))
    (hinfo : (P.info? e).map (fun i => (i.zero, i.size, i.bytes)) = some (some z, k, bytes)) (hzs : z.cells.size = k) (w : World) {ops : Array Oper} {o : Oper} {act : Act} {K : Act → World → Prop} {Q : Exit → Act → World → Prop} {E : Prop} (hgd : o.guard = none) (s x : Operand)
    (ho : o.op = .call { callee := .builtin .append, args := #[s, x], argTypes := #[t, t] }) {base n : Nat} {v : Value} {xs : List α} (hs : act.eval s = v) (hown : w.ownsRow base e k v n (xs.flatMap C))
    {a : Option Addr} {m c : Nat} {os : List α} (hx : act.eval x = .slice a m c) (hr : CRow C k w a m os) (h63 : n + m ≤ maxLen) (hbytes : (n + m) * bytes ≤ 140737488355328) (hbase : base ≤ w.heap.size)
    (h : ∀ v' w', w'.ownsRow base e k v' (n + m) ((xs ++ os).flatMap C) → w.grownBy w' v.ownBlock → (v'.ownBlock = v.ownBlock ∨ v'.ownBlock = some w.heap.size) → K (act.put o.dst v') w') :
    if Region.wanted o (yielded ops act.tmps) = true then o.wp P act w K Q else E := by
  have hw : Region.wanted o (yielded ops act.tmps) = true := by simp [Region.wanted, hgd]
  rw [if_pos hw]
  exact wp_app_row hk0 hC hC1 ht hinfo hzs w s x ho hs hown hx hr h63 hbytes hbase h
end Go.Proofs.Ytmkgipoljbiocaa
/- Several rows of the call's own, apart from one another; a box beside them. -/
namespace Go.Proofs.Ytmkgipoljbiocaa
open Go.RowKit
set_option linter.unusedVariables false

/-- A row: its element's type, how many cells that has, the slice, how many elements, the cells. -/
structure RowD where
  e : TypeId
  k : Nat
  v : Value
  n : Nat
  xs : List Value
def RowD.at_ (r : RowD) (B : Nat) (w : World) : Prop := w.ownsRow B r.e r.k r.v r.n r.xs
/-- Rows that are apart. -/
structure RowsD (B : Nat) (w : World) (rs : List RowD) : Prop where
  own : ∀ r ∈ rs, r.at_ B w
  apart : ∀ (i j : Nat) (r s : RowD), rs[i]? = some r → rs[j]? = some s → i ≠ j → ∀ k, r.v.ownBlock = some k → s.v.ownBlock ≠ some k
theorem RowsD.below {B : Nat} {w w' : World} {rs : List RowD} (h : RowsD B w rs) (hb : Below w.heap.size w w') : RowsD B w' rs := ⟨fun r hr => ownB (h.own r hr) hb, h.apart⟩
theorem own_kept {w w' : World} {base : Nat} {e : TypeId} {size : Nat} {v : Value} {n : Nat} {xs : List Value} (h : w.ownsRow base e size v n xs) (hk : ∀ k, v.ownBlock = some k → w'.heap[k]? = w.heap[k]?) : w'.ownsRow base e size v n xs := by
  refine ⟨h.1, ?_⟩
  rcases h.2 with h2 | ⟨g, cap, cur, rfl, hbg, hg, r⟩
  · exact Or.inl h2
  · exact Or.inr ⟨g, cap, cur, rfl, hbg, (hk g rfl).trans hg, r⟩
/-- A store elsewhere. -/
theorem RowsD.kept {B : Nat} {w w' : World} {rs : List RowD} (h : RowsD B w rs) (hk : ∀ r ∈ rs, ∀ k, r.v.ownBlock = some k → w'.heap[k]? = w.heap[k]?) : RowsD B w' rs := ⟨fun r hr => own_kept (h.own r hr) (hk r hr), h.apart⟩
/-- A row grows. -/
theorem RowsD.grow {B : Nat} {w wa w' : World} {rs : List RowD} (h : RowsD B w rs) (hb : Below w.heap.size w wa) {i : Nat} {r r' : RowD} (hi : rs[i]? = some r) (hg : wa.grownBy w' r.v.ownBlock) (hr' : r'.at_ B w') (hv : r'.v.ownBlock = r.v.ownBlock ∨ ∃ b, r'.v.ownBlock = some b ∧ w.heap.size ≤ b) : RowsD B w' (rs.set i r') := by
  have hil : i < rs.length := (List.getElem?_eq_some_iff.1 hi).1
  have keep : ∀ (j : Nat) s, rs[j]? = some s → j ≠ i → s.at_ B w' := fun j s hj hne => by
    refine own_kept (h.own s (List.mem_of_getElem? hj)) fun k hk => ?_
    have hlt := ((h.own s (List.mem_of_getElem? hj)).lt k hk).2
    have h1 : wa.heap[k]? = w.heap[k]? := hb.block k hlt
    have h2 : w'.heap[k]? = wa.heap[k]? := hg.block k (by have := hb.size; omega) (fun e => h.apart j i s r hj hi hne k hk e.symm)
    exact h2.trans h1
  refine ⟨fun s hs => ?_, fun a b s t ha hb2 hne k hk => ?_⟩
  · obtain ⟨j, hj⟩ := List.getElem?_of_mem hs
    rw [List.getElem?_set] at hj
    by_cases hij : i = j
    · subst hij
      rw [if_pos rfl, if_pos hil] at hj
      obtain rfl := Option.some.inj hj
      exact hr'
    · rw [if_neg hij] at hj
      exact keep j s hj (fun e => hij e.symm)
  · rw [List.getElem?_set] at ha hb2
    by_cases h1 : i = a
    · subst h1
      rw [if_pos rfl, if_pos hil] at ha
      obtain rfl := Option.some.inj ha
      rw [if_neg hne] at hb2
      rcases hv with hv | ⟨z, hz, hz2⟩
      · rw [hv] at hk
        exact h.apart i b r t hi hb2 hne k hk
      · rw [hz] at hk
        obtain rfl := Option.some.inj hk
        intro e
        have := ((h.own t (List.mem_of_getElem? hb2)).lt z e).2
        omega
    · rw [if_neg h1] at ha
      by_cases h2 : i = b
      · subst h2
        rw [if_pos rfl, if_pos hil] at hb2
        obtain rfl := Option.some.inj hb2
        rcases hv with hv | ⟨z, hz, hz2⟩
        · rw [hv]; exact h.apart a i s r ha hi hne k hk
        · rw [hz]
          intro e
          obtain rfl := Option.some.inj e
          have := ((h.own s (List.mem_of_getElem? ha)).lt z hk).2
          omega
      · rw [if_neg h2] at hb2
        exact h.apart a b s t ha hb2 hne k hk
/-- A row more, made since. -/
theorem RowsD.add {B : Nat} {w w' : World} {rs : List RowD} (h : RowsD B w rs) (hb : Below w.heap.size w w') {r : RowD} (hr : w'.ownsRow w.heap.size r.e r.k r.v r.n r.xs) (hB : B ≤ w.heap.size) : RowsD B w' (rs ++ [r]) := by
  have h' := h.below hb
  have hlt : ∀ s ∈ rs, ∀ k, s.v.ownBlock = some k → k < w.heap.size := fun s hs k hk => ((h.own s hs).lt k hk).2
  have hge : ∀ k, r.v.ownBlock = some k → w.heap.size ≤ k := fun k hk => (hr.lt k hk).1
  refine ⟨fun s hs => ?_, fun a b s t ha hb2 hne k hk => ?_⟩
  · rcases List.mem_append.1 hs with hs | hs
    · exact h'.own s hs
    · rw [List.mem_singleton] at hs; subst hs; exact own_mono hr hB
  · have cas : ∀ (i : Nat) u, (rs ++ [r])[i]? = some u → (rs[i]? = some u ∧ i < rs.length) ∨ (i = rs.length ∧ u = r) := fun i u hu => by
      by_cases hi : i < rs.length
      · rw [List.getElem?_append_left hi] at hu; exact .inl ⟨hu, hi⟩
      · rw [List.getElem?_append_right (by omega)] at hu
        have h0 := (List.getElem?_eq_some_iff.1 hu).1
        simp at h0
        have : i - rs.length = 0 := by omega
        rw [this] at hu
        exact .inr ⟨by omega, by simpa using hu.symm⟩
    rcases cas a s ha with ⟨ha1, _⟩ | ⟨ha1, hs⟩
    · rcases cas b t hb2 with ⟨hb3, _⟩ | ⟨hb3, ht⟩
      · exact h.apart a b s t ha1 hb3 hne k hk
      · intro e
        have h1 := hlt s (List.mem_of_getElem? ha1) k hk
        have h2 := hge k (by rw [← ht]; exact e)
        omega
    · rcases cas b t hb2 with ⟨hb3, _⟩ | ⟨hb3, ht⟩
      · intro e
        have h1 := hlt t (List.mem_of_getElem? hb3) k e
        have h2 := hge k (by rw [← hs]; exact hk)
        omega
      · omega
theorem own_type {w : World} {base : Nat} {e : TypeId} {size : Nat} {v : Value} {n : Nat} {xs : List Value} (h : w.ownsRow base e size v n xs) {k : Nat} (hk : v.ownBlock = some k) : ∃ cur, w.heap[k]? = some (.cells cur e (0, 0)) := by
  rcases h.2 with ⟨rfl, _⟩ | ⟨g, cap, cur, rfl, hbg, hg, r⟩
  · simp [Value.ownBlock] at hk
  · have : g = k := by simpa [Value.ownBlock] using hk
    subst this; exact ⟨cur, hg⟩
/-- A box of another type is none of them. -/
theorem RowsD.box {B : Nat} {w : World} {rs : List RowD} (h : RowsD B w rs) {X : Nat} {cs : Array Value} {t : TypeId} (hx : w.heap[X]? = some (.cells cs t (0, 0))) (ht : ∀ r ∈ rs, r.e ≠ t) : ∀ r ∈ rs, r.v.ownBlock ≠ some X := fun r hr e => by
  obtain ⟨cur, hc⟩ := own_type (h.own r hr) e
  rw [hx] at hc
  have := Option.some.inj hc
  injection this with _ h2 _
  exact ht r hr h2.symm
end Go.Proofs.Ytmkgipoljbiocaa
/- The reader: a branch. -/
namespace Go.Proofs.Ytmkgipoljbiocaa
open Go.RowKit Go.PlainAid
set_option linter.unusedVariables false
set_option linter.unusedSimpArgs false

def sufB : ByteArray := ⟨#[42, 43, 63]⟩
def kindOfB (b : Nat) : Int := if b = 43 then 6 else if b = 63 then 7 else 5
/-- The signs behind an atom. -/
def starsF (s : ByteArray) : Nat → List Rx → Nat → List Rx × Nat
  | 0, l, nx => (l, nx)
  | m + 1, l, nx => if nx < s.size ∧ inB sufB (byteAt s nx) = true then starsF s m (oneF l (kindOfB (byteAt s nx))) (nx + 1) else (l, nx)
def catP (ps : List (List Rx)) : List Rx := if ps.length = 0 then [stp0 2] else behUp 3 ps ps.length
def branchF (tx : Nat → Option (List Rx × Nat)) (s : ByteArray) : Nat → List (List Rx) → Nat → Option (List Rx × Nat)
  | 0, _, _ => none
  | m + 1, ps, k =>
    if k < s.size ∧ byteAt s k ≠ 124 ∧ byteAt s k ≠ 41 then
      match atomF tx s k with
      | none => none
      | some (l, nx) => if k < nx ∧ nx ≤ s.size ∧ l.length ≤ 1000 then branchF tx s m (ps ++ [(starsF s (s.size - nx) l nx).1]) (starsF s (s.size - nx) l nx).2 else none
    else if tot ps + ps.length ≤ 2000 then some (catP ps, k) else none
theorem starsF_le (s : ByteArray) : ∀ (m : Nat) (l : List Rx) (nx : Nat), nx ≤ s.size → nx ≤ (starsF s m l nx).2 ∧ (starsF s m l nx).2 ≤ s.size
  | 0, l, nx, h => ⟨Nat.le_refl _, h⟩
  | m + 1, l, nx, h => by
    simp only [starsF]
    split
    · rename_i h1
      have := starsF_le s m (oneF l (kindOfB (byteAt s nx))) (nx + 1) (by omega)
      omega
    · exact ⟨Nat.le_refl _, h⟩
/-- The parts of a branch while it is read: apart from their own row. -/
structure RB (B : Nat) (w : World) (pv : Value) (os : List Rw) (rest : List RowD) : Prop where
  rows : RowsD B w (⟨43, 1, pv, os.length, os.flatMap slC⟩ :: rest)
  mem : ∀ o ∈ os, (⟨88, 5, .slice o.a o.l o.c, o.l, o.rs.flatMap rxC⟩ : RowD) ∈ rest ∧ o.l = o.rs.length
  le : B ≤ w.heap.size
theorem RB.below {B : Nat} {w w' : World} {pv : Value} {os : List Rw} {rest : List RowD} (h : RB B w pv os rest) (hb : Below w.heap.size w w') : RB B w' pv os rest := ⟨h.rows.below hb, h.mem, by have := hb.size; have := h.le; omega⟩
theorem RB.add {B : Nat} {w w' : World} {pv : Value} {os : List Rw} {rest : List RowD} (h : RB B w pv os rest) (hb : Below w.heap.size w w') {q : RowD} (hr : w'.ownsRow w.heap.size q.e q.k q.v q.n q.xs) : RB B w' pv os (rest ++ [q]) := by
  have h' := h.below hb
  refine ⟨?_, fun o ho => ⟨List.mem_append_left _ (h.mem o ho).1, (h.mem o ho).2⟩, h'.le⟩
  exact h.rows.add hb hr h.le
theorem RB.own {B : Nat} {w : World} {pv : Value} {os : List Rw} {rest : List RowD} (h : RB B w pv os rest) : w.ownsRow B 43 1 pv os.length (os.flatMap slC) := h.rows.own _ (.head _)
theorem RB.rrow {B : Nat} {w : World} {A : Option Addr} {c : Nat} {os : List Rw} {rest : List RowD} (h : RB B w (.slice A os.length c) os rest) : RRow w A os.length os := by
  refine ⟨own_row slC_len h.own, fun o ho => ?_⟩
  obtain ⟨hm, hl⟩ := h.mem o ho
  have h5 : w.ownsRow B 88 5 (.slice o.a o.l o.c) o.l (o.rs.flatMap rxC) := h.rows.own _ (.tail _ hm)
  rw [hl] at h5 ⊢
  exact own_row rxC_len h5
theorem RB.put {B : Nat} {w wa w1 : World} {pv : Value} {os : List Rw} {rest : List RowD} (h : RB B w pv os rest) (hb : Below w.heap.size w wa) (hg : wa.grownBy w1 pv.ownBlock) {v : Value} {z : Rw}
    (ho : w1.ownsRow B 43 1 v (os.length + 1) ((os ++ [z]).flatMap slC)) (hv : v.ownBlock = pv.ownBlock ∨ ∃ b, v.ownBlock = some b ∧ w.heap.size ≤ b) (hz : (⟨88, 5, .slice z.a z.l z.c, z.l, z.rs.flatMap rxC⟩ : RowD) ∈ rest ∧ z.l = z.rs.length) : RB B w1 v (os ++ [z]) rest := by
  have h1 := h.rows.grow (i := 0) (r' := ⟨43, 1, v, os.length + 1, (os ++ [z]).flatMap slC⟩) hb rfl hg ho hv
  refine ⟨?_, fun o ho => ?_, by have := hb.size; have := hg.size; have := h.le; omega⟩
  · have e : ((⟨43, 1, pv, os.length, os.flatMap slC⟩ : RowD) :: rest).set 0 ⟨43, 1, v, os.length + 1, (os ++ [z]).flatMap slC⟩ = ⟨43, 1, v, (os ++ [z]).length, (os ++ [z]).flatMap slC⟩ :: rest := by simp
    rw [e] at h1; exact h1
  · rcases List.mem_append.1 ho with ho | ho
    · exact h.mem o ho
    · rw [List.mem_singleton] at ho; subst ho; exact hz
theorem RB.start {w : World} {B : Nat} {pv : Value} (h : w.ownsRow B 43 1 pv 0 []) (hB : B ≤ w.heap.size) : RB B w pv [] [] := by
  refine ⟨⟨fun r hr => ?_, fun i j r s hi hj hne k hk => ?_⟩, fun o ho => by simp at ho, hB⟩
  · rw [List.mem_singleton] at hr; subst hr; exact h
  · exfalso
    have h1 := (List.getElem?_eq_some_iff.1 hi).1
    have h2 := (List.getElem?_eq_some_iff.1 hj).1
    simp at h1 h2
    omega
end Go.Proofs.Ytmkgipoljbiocaa
/- rx: of how many parts a step is; the walk over steps; Check, High, Begin. -/
namespace Go.Proofs.Ytmkgipoljbiocaa
open Go.RowKit
set_option linter.unusedVariables false

attribute [local go_sem ↓] eqS_eq eqS_eq'
/-- Is a kind one? -/
def okK (k : Int) : Bool := k == 3 || k == 4 || k == 5 || k == 6 || k == 7 || k == 1 || k == 2
/-- Of how many parts. -/
def nP (k : Int) : Nat := if k = 3 ∨ k = 4 then 2 else if k = 5 ∨ k = 6 ∨ k = 7 then 1 else 0
theorem nP_le (k : Int) : nP k ≤ 2 := by
  unfold nP
  by_cases h : k = 3 ∨ k = 4
  · rw [if_pos h]; omega
  · rw [if_neg h]
    by_cases h2 : k = 5 ∨ k = 6 ∨ k = 7
    · rw [if_pos h2]; omega
    · rw [if_neg h2]; omega
/-- Is a set the empty one? -/
def zS (S : Nat → Bool) : Bool := ((wd S 0 : Int) == 0 && ((wd S 1 : Int) == 0 && ((wd S 2 : Int) == 0 && (wd S 3 : Int) == 0)))
theorem zS_empty : zS emptyS = true := by unfold zS; simp only [wd_emptyS]; rfl
def badR (r : Rx) : Bool := !okK r.k || (r.k != 1 && !zS r.s)
/-- The walk: parts, the most at once, what is wrong. -/
def wk : List Rx → Nat → Nat → Nat × Nat × Nat
  | [], p, m => (p, m, 0)
  | r :: l, p, m => if badR r = true then (0, 0, 1) else if p < nP r.k then (0, 0, 3) else wk l (p + 1 - nP r.k) (max m (p + 1 - nP r.k))
def walkR (l : List Rx) : Nat × Nat × Nat := if 512 < l.length then (0, 0, 4) else wk l 0 0
theorem drop_at {α : Type} {l : List α} {k : Nat} {x : α} (h : l[k]? = some x) : l.drop k = x :: l.drop (k + 1) := by
  obtain ⟨hk, rfl⟩ := List.getElem?_eq_some_iff.1 h
  exact List.drop_eq_getElem_cons hk
def wv (x : Nat × Nat × Nat) : Value := .tuple #[.int .i64 (x.1 : Nat), .int .i64 (x.2.1 : Nat), .int .i64 (x.2.2 : Nat)]
theorem ret_wv {x : Nat × Nat × Nat} {a b c : Nat} (h : x = (a, b, c)) : Ending.returned (.tuple #[.int .i64 (a : Int), .int .i64 (b : Int), .int .i64 (c : Int)]) = .returned (wv x) := by subst h; rfl
def chkR (l : List Rx) : Nat := if (walkR l).2.2 = 0 ∧ (walkR l).1 ≠ 1 then 3 else (walkR l).2.2
theorem wk_le : ∀ (l : List Rx) (p m : Nat), (wk l p m).1 ≤ p + l.length ∧ (wk l p m).2.1 ≤ max m (p + l.length) ∧ (wk l p m).2.2 ≤ 3
  | [], p, m => by simp [wk]; omega
  | r :: l, p, m => by
    rw [wk]
    by_cases h1 : badR r = true
    · rw [if_pos h1]; simp
    · rw [if_neg h1]
      by_cases h2 : p < nP r.k
      · rw [if_pos h2]; simp
      · rw [if_neg h2]
        have := wk_le l (p + 1 - nP r.k) (max m (p + 1 - nP r.k))
        simp only [List.length_cons]; omega
theorem walkR_le (l : List Rx) : (walkR l).1 ≤ 512 ∧ (walkR l).2.1 ≤ 512 ∧ (walkR l).2.2 ≤ 4 := by
  unfold walkR
  by_cases h : 512 < l.length
  · rw [if_pos h]; simp
  · rw [if_neg h]
    have := wk_le l 0 0
    omega
theorem ret_i64 {a b : Int} (h : a = b) : Ending.returned (.int .i64 a) = .returned (.int .i64 b) := by rw [h]
def highR (l : List Rx) : Nat := if chkR l = 0 then (walkR l).2.1 else 0
end Go.Proofs.Ytmkgipoljbiocaa
/- Expressions as trees; which steps are one. -/
namespace Go.Proofs.Ytmkgipoljbiocaa
open Go.RowKit
set_option linter.unusedVariables false

inductive RxT where
  | set (S : Nat → Bool)
  | empty
  | cat (a b : RxT)
  | alt (a b : RxT)
  | star (a : RxT)
  | plus (a : RxT)
  | opt (a : RxT)
/-- The steps of an expression. -/
def post : RxT → List Rx
  | .set S => [⟨1, S⟩]
  | .empty => [stp0 2]
  | .cat a b => post a ++ (post b ++ [stp0 3])
  | .alt a b => post a ++ (post b ++ [stp0 4])
  | .star a => post a ++ [stp0 5]
  | .plus a => post a ++ [stp0 6]
  | .opt a => post a ++ [stp0 7]
theorem post_pos (T : RxT) : 1 ≤ (post T).length := by cases T <;> simp [post] <;> omega
/-- How many sets. -/
def nSet : RxT → Nat
  | .set _ => 1
  | .empty => 0
  | .cat a b => nSet a + nSet b
  | .alt a b => nSet a + nSet b
  | .star a => nSet a
  | .plus a => nSet a
  | .opt a => nSet a
def setsT : RxT → List (Nat → Bool)
  | .set S => [S]
  | .empty => []
  | .cat a b => setsT a ++ setsT b
  | .alt a b => setsT a ++ setsT b
  | .star a => setsT a
  | .plus a => setsT a
  | .opt a => setsT a
theorem setsT_len (T : RxT) : (setsT T).length = nSet T := by
  induction T <;> simp_all [setsT, nSet]
def cntS1 (l : List Rx) : Nat := (l.filter fun r => r.k == 1).length
theorem cntS1_app (l m : List Rx) : cntS1 (l ++ m) = cntS1 l + cntS1 m := by simp [cntS1]
theorem cntS1_post (T : RxT) : cntS1 (post T) = nSet T := by
  induction T with
  | set S => rfl
  | empty => rfl
  | cat a b iha ihb => simp only [post, cntS1_app, iha, ihb, nSet]; rfl
  | alt a b iha ihb => simp only [post, cntS1_app, iha, ihb, nSet]; rfl
  | star a iha => simp only [post, cntS1_app, iha, nSet]; rfl
  | plus a iha => simp only [post, cntS1_app, iha, nSet]; rfl
  | opt a iha => simp only [post, cntS1_app, iha, nSet]; rfl
theorem nSet_le (T : RxT) : nSet T ≤ (post T).length := by
  rw [← cntS1_post]; exact List.length_filter_le _ _
theorem filt_sets (T : RxT) : ((post T).filter fun r => r.k == 1).map Rx.s = setsT T := by
  induction T with
  | set S => rfl
  | empty => rfl
  | cat a b iha ihb => simp only [post, List.filter_append, List.map_append, iha, ihb, setsT]; simp [stp0]
  | alt a b iha ihb => simp only [post, List.filter_append, List.map_append, iha, ihb, setsT]; simp [stp0]
  | star a iha => simp only [post, List.filter_append, List.map_append, iha, setsT]; simp [stp0]
  | plus a iha => simp only [post, List.filter_append, List.map_append, iha, setsT]; simp [stp0]
  | opt a iha => simp only [post, List.filter_append, List.map_append, iha, setsT]; simp [stp0]
/-! From steps to the tree. -/
def stP (st : List RxT) : List Rx := st.reverse.flatMap post
theorem stP_cons (T : RxT) (st : List RxT) : stP (T :: st) = stP st ++ post T := by simp [stP]
theorem zS_cells {r : Rx} (h : zS r.s = true) : rxC r = rxC (stp0 r.k) := by
  unfold zS at h
  simp only [Bool.and_eq_true, beq_iff_eq] at h
  rw [stp0_C]
  unfold rxC
  rw [h.1, h.2.1, h.2.2.1, h.2.2.2]
theorem wk_err {l : List Rx} {p m : Nat} (h : (wk l p m).2.2 = 0) : ∀ r t, l = r :: t → badR r = false ∧ nP r.k ≤ p ∧ (wk t (p + 1 - nP r.k) (max m (p + 1 - nP r.k))).2.2 = 0 ∧ wk l p m = wk t (p + 1 - nP r.k) (max m (p + 1 - nP r.k)) := by
  rintro r t rfl
  rw [wk] at h ⊢
  by_cases h1 : badR r = true
  · rw [if_pos h1] at h; simp at h
  · rw [if_neg h1] at h ⊢
    by_cases h2 : p < nP r.k
    · rw [if_pos h2] at h; simp at h
    · rw [if_neg h2] at h ⊢
      exact ⟨by simpa using h1, by omega, h, rfl⟩
theorem dec_st : ∀ (l : List Rx) (st : List RxT) (m : Nat), (wk l st.length m).2.2 = 0 → ∃ st' : List RxT, st'.length = (wk l st.length m).1 ∧ (stP st').map rxC = (stP st ++ l).map rxC
  | [], st, m, _ => ⟨st, rfl, by simp⟩
  | r :: l, st, m, h => by
    obtain ⟨hb, hp, h2, he⟩ := wk_err h r l rfl
    have hk : okK r.k = true := by unfold badR at hb; simp at hb; exact hb.1
    have hz : r.k ≠ 1 → zS r.s = true := by unfold badR at hb; simp at hb; exact hb.2
    have go : ∀ (T : RxT) (st2 : List RxT), st2.length + 1 = st.length + 1 - nP r.k → (stP (T :: st2)).map rxC = (stP st ++ [r]).map rxC → ∃ st' : List RxT, st'.length = (wk (r :: l) st.length m).1 ∧ (stP st').map rxC = (stP st ++ r :: l).map rxC := by
      intro T st2 hl hc
      have h3 : (wk l (T :: st2).length (max m (st.length + 1 - nP r.k))).2.2 = 0 := by rw [List.length_cons, hl]; exact h2
      obtain ⟨st', e1, e2⟩ := dec_st l (T :: st2) _ h3
      refine ⟨st', by rw [e1, he, List.length_cons, hl], ?_⟩
      rw [e2, List.map_append, hc]; simp
    have h7 : r.k = 1 ∨ r.k = 2 ∨ r.k = 3 ∨ r.k = 4 ∨ r.k = 5 ∨ r.k = 6 ∨ r.k = 7 := by
      unfold okK at hk; simp at hk; omega
    obtain ⟨k, s⟩ := r
    dsimp only at *
    rcases h7 with rfl | rfl | rfl | rfl | rfl | rfl | rfl
    · exact go (.set s) st (by simp [nP]) (by rw [stP_cons]; rfl)
    · have hc := zS_cells (r := ⟨2, s⟩) (hz (by decide))
      exact go .empty st (by simp [nP]) (by rw [stP_cons]; simp only [post, List.map_append, List.map_cons, List.map_nil, hc])
    · have hc := zS_cells (r := ⟨3, s⟩) (hz (by decide))
      match st, hp with
      | b :: a :: st2, _ => exact go (.cat a b) st2 (by simp [nP]) (by simp only [stP_cons, post, List.map_append, List.map_cons, List.map_nil, hc, List.append_assoc])
      | [_], hp => simp [nP] at hp
      | [], hp => simp [nP] at hp
    · have hc := zS_cells (r := ⟨4, s⟩) (hz (by decide))
      match st, hp with
      | b :: a :: st2, _ => exact go (.alt a b) st2 (by simp [nP]) (by simp only [stP_cons, post, List.map_append, List.map_cons, List.map_nil, hc, List.append_assoc])
      | [_], hp => simp [nP] at hp
      | [], hp => simp [nP] at hp
    · have hc := zS_cells (r := ⟨5, s⟩) (hz (by decide))
      match st, hp with
      | a :: st2, _ => exact go (.star a) st2 (by simp [nP]) (by simp only [stP_cons, post, List.map_append, List.map_cons, List.map_nil, hc, List.append_assoc])
      | [], hp => simp [nP] at hp
    · have hc := zS_cells (r := ⟨6, s⟩) (hz (by decide))
      match st, hp with
      | a :: st2, _ => exact go (.plus a) st2 (by simp [nP]) (by simp only [stP_cons, post, List.map_append, List.map_cons, List.map_nil, hc, List.append_assoc])
      | [], hp => simp [nP] at hp
    · have hc := zS_cells (r := ⟨7, s⟩) (hz (by decide))
      match st, hp with
      | a :: st2, _ => exact go (.opt a) st2 (by simp [nP]) (by simp only [stP_cons, post, List.map_append, List.map_cons, List.map_nil, hc, List.append_assoc])
      | [], hp => simp [nP] at hp
theorem tree_of {l : List Rx} (h : chkR l = 0) : l.length ≤ 512 ∧ ∃ T, (post T).map rxC = l.map rxC := by
  unfold chkR at h
  by_cases h1 : (walkR l).2.2 = 0 ∧ (walkR l).1 ≠ 1
  · rw [if_pos h1] at h; cases h
  rw [if_neg h1] at h
  have hp : (walkR l).1 = 1 := by
    by_cases h2 : (walkR l).1 = 1
    · exact h2
    · exact absurd ⟨h, h2⟩ h1
  unfold walkR at h hp
  by_cases h3 : 512 < l.length
  · rw [if_pos h3] at h; simp at h
  rw [if_neg h3] at h hp
  obtain ⟨st, e1, e2⟩ := dec_st l [] 0 h
  have e3 : st.length = 1 := by rw [e1]; exact hp
  match st, e3 with
  | [T], _ => exact ⟨by omega, T, by simpa [stP] using e2⟩
theorem crow_cells {w : World} {a : Option Addr} {n : Nat} {l m : List Rx} (h : CRow rxC 5 w a n l) (e : m.map rxC = l.map rxC) : CRow rxC 5 w a n m := by
  obtain ⟨h1, h2, h3⟩ := h
  have hl : m.length = l.length := by have := congrArg List.length e; simpa using this
  refine ⟨by rw [hl, h1], h2, fun hp => ?_⟩
  obtain ⟨b, off, ha, hb, hc⟩ := h3 hp
  refine ⟨b, off, ha, hb, fun i o hi j v hv => ?_⟩
  have hil : i < l.length := by rw [← hl]; exact (List.getElem?_eq_some_iff.1 hi).1
  have e2 : (m.map rxC)[i]? = (l.map rxC)[i]? := by rw [e]
  rw [List.getElem?_map, List.getElem?_map, hi, List.getElem?_eq_getElem hil] at e2
  simp only [Option.map_some, Option.some.injEq] at e2
  exact hc i _ (List.getElem?_eq_getElem hil) j v (by rw [← e2]; exact hv)
/-- The parts of an expression, in the order of their last steps: how many sets stand ahead, and which part. -/
def partsT (base : Nat) : RxT → List (Nat × RxT)
  | .set S => [(base, .set S)]
  | .empty => [(base, .empty)]
  | .cat a b => partsT base a ++ (partsT (base + nSet a) b ++ [(base, .cat a b)])
  | .alt a b => partsT base a ++ (partsT (base + nSet a) b ++ [(base, .alt a b)])
  | .star a => partsT base a ++ [(base, .star a)]
  | .plus a => partsT base a ++ [(base, .plus a)]
  | .opt a => partsT base a ++ [(base, .opt a)]
theorem partsT_len (T : RxT) : ∀ base, (partsT base T).length = (post T).length := by
  induction T with
  | set S => intro b; rfl
  | empty => intro b; rfl
  | cat a b iha ihb => intro base; simp [partsT, post, iha, ihb]
  | alt a b iha ihb => intro base; simp [partsT, post, iha, ihb]
  | star a iha => intro base; simp [partsT, post, iha]
  | plus a iha => intro base; simp [partsT, post, iha]
  | opt a iha => intro base; simp [partsT, post, iha]
/-- A part's steps among those of the whole. -/
def PartAt (l : List Rx) (i base : Nat) (T : RxT) : Prop := ∃ p q, l = p ++ post T ++ q ∧ i + 1 = p.length + (post T).length ∧ cntS1 p = base
theorem PartAt.whole (T : RxT) : PartAt (post T) ((post T).length - 1) 0 T := ⟨[], [], by simp, by have := post_pos T; simp; omega, rfl⟩
theorem PartAt.lt {l : List Rx} {i base : Nat} {T : RxT} (h : PartAt l i base T) : i < l.length := by
  obtain ⟨p, q, rfl, hi, _⟩ := h
  simp only [List.length_append]; have := post_pos T; omega
theorem PartAt.ctx {l : List Rx} {i base : Nat} {T : RxT} (h : PartAt l i base T) (p q : List Rx) : PartAt (p ++ l ++ q) (p.length + i) (cntS1 p + base) T := by
  obtain ⟨p', q', rfl, hi, hc⟩ := h
  exact ⟨p ++ p', q' ++ q, by simp, by simp; omega, by rw [cntS1_app, hc]⟩
/-- The last part of a part of one or of two parts, and the first one of two. -/
theorem PartAt.last2 {l : List Rx} {i base : Nat} {a b : RxT} {k : Int} {T : RxT} (hT : post T = post a ++ (post b ++ [stp0 k])) (h : PartAt l i base T) : 1 ≤ i ∧ PartAt l (i - 1) (base + nSet a) b ∧ (post b).length + 1 ≤ i ∧ PartAt l (i - (post b).length - 1) base a := by
  obtain ⟨p, q, rfl, hi, hc⟩ := h
  have ha := post_pos a
  have hb := post_pos b
  rw [hT] at hi ⊢
  simp only [List.length_append, List.length_singleton] at hi
  refine ⟨by omega, ⟨p ++ post a, [stp0 k] ++ q, by simp, by simp; omega, by rw [cntS1_app, hc, cntS1_post]⟩, by omega, ⟨p, post b ++ [stp0 k] ++ q, by simp, by omega, hc⟩⟩
theorem PartAt.last1 {l : List Rx} {i base : Nat} {a : RxT} {k : Int} {T : RxT} (hT : post T = post a ++ [stp0 k]) (h : PartAt l i base T) : 1 ≤ i ∧ PartAt l (i - 1) base a := by
  obtain ⟨p, q, rfl, hi, hc⟩ := h
  have ha := post_pos a
  rw [hT] at hi ⊢
  simp only [List.length_append, List.length_singleton] at hi
  exact ⟨by omega, ⟨p, [stp0 k] ++ q, by simp, by omega, hc⟩⟩
/-- The kind of a part's last step. -/
def topK : RxT → Int
  | .set _ => 1
  | .empty => 2
  | .cat _ _ => 3
  | .alt _ _ => 4
  | .star _ => 5
  | .plus _ => 6
  | .opt _ => 7
theorem post_last (T : RxT) : ∃ p r, post T = p ++ [r] ∧ r.k = topK T := by
  cases T with
  | set S => exact ⟨[], _, rfl, rfl⟩
  | empty => exact ⟨[], _, rfl, rfl⟩
  | cat a b => exact ⟨post a ++ post b, stp0 3, by simp [post], rfl⟩
  | alt a b => exact ⟨post a ++ post b, stp0 4, by simp [post], rfl⟩
  | star a => exact ⟨post a, stp0 5, rfl, rfl⟩
  | plus a => exact ⟨post a, stp0 6, rfl, rfl⟩
  | opt a => exact ⟨post a, stp0 7, rfl, rfl⟩
theorem PartAt.kind {l : List Rx} {i base : Nat} {T : RxT} (h : PartAt l i base T) : ∃ r, l[i]? = some r ∧ r.k = topK T := by
  obtain ⟨p, q, rfl, hi, _⟩ := h
  obtain ⟨p', r, e, hk⟩ := post_last T
  refine ⟨r, ?_, hk⟩
  rw [e] at hi ⊢
  simp only [List.length_append, List.length_singleton] at hi
  have : i = (p ++ p').length := by simp; omega
  subst this
  simp
theorem parts_at (T : RxT) : ∀ (base i : Nat) (x : Nat × RxT), (partsT base T)[i]? = some x → ∃ b, x.1 = base + b ∧ PartAt (post T) i b x.2 := by
  have one : ∀ (T : RxT) (base i : Nat) (x : Nat × RxT) (k : Int) (a : RxT), post T = post a ++ [stp0 k] → partsT base T = partsT base a ++ [(base, T)] → (∀ (base i : Nat) (x : Nat × RxT), (partsT base a)[i]? = some x → ∃ b, x.1 = base + b ∧ PartAt (post a) i b x.2) → (partsT base T)[i]? = some x → ∃ b, x.1 = base + b ∧ PartAt (post T) i b x.2 := by
    intro T base i x k a e1 e2 iha h
    rw [e2] at h
    by_cases hi : i < (partsT base a).length
    · rw [List.getElem?_append_left hi] at h
      obtain ⟨b, hb, hp⟩ := iha _ _ _ h
      exact ⟨b, hb, by have := hp.ctx [] [stp0 k]; simpa [e1, cntS1] using this⟩
    · rw [List.getElem?_append_right (by omega)] at h
      have h0 : i - (partsT base a).length = 0 := by
        have := (List.getElem?_eq_some_iff.1 h).1; simp at this; omega
      rw [h0] at h
      simp only [List.getElem?_cons_zero, Option.some.injEq] at h
      subst h
      refine ⟨0, rfl, [], [], by simp, ?_, rfl⟩
      rw [partsT_len] at hi h0
      rw [e1]; simp; omega
  have two : ∀ (T : RxT) (base i : Nat) (x : Nat × RxT) (k : Int) (a c : RxT), post T = post a ++ (post c ++ [stp0 k]) → partsT base T = partsT base a ++ (partsT (base + nSet a) c ++ [(base, T)]) → (∀ (base i : Nat) (x : Nat × RxT), (partsT base a)[i]? = some x → ∃ b, x.1 = base + b ∧ PartAt (post a) i b x.2) → (∀ (base i : Nat) (x : Nat × RxT), (partsT base c)[i]? = some x → ∃ b, x.1 = base + b ∧ PartAt (post c) i b x.2) → (partsT base T)[i]? = some x → ∃ b, x.1 = base + b ∧ PartAt (post T) i b x.2 := by
    intro T base i x k a c e1 e2 iha ihc h
    rw [e2] at h
    by_cases hi : i < (partsT base a).length
    · rw [List.getElem?_append_left hi] at h
      obtain ⟨b, hb, hp⟩ := iha _ _ _ h
      exact ⟨b, hb, by have := hp.ctx [] (post c ++ [stp0 k]); simpa [e1, cntS1] using this⟩
    · rw [List.getElem?_append_right (by omega)] at h
      by_cases hi2 : i - (partsT base a).length < (partsT (base + nSet a) c).length
      · rw [List.getElem?_append_left hi2] at h
        obtain ⟨b, hb, hp⟩ := ihc _ _ _ h
        refine ⟨nSet a + b, by rw [hb]; omega, ?_⟩
        have := hp.ctx (post a) [stp0 k]
        rw [cntS1_post, partsT_len] at this
        rw [partsT_len] at hi
        rw [e1]
        rw [List.append_assoc] at this
        rwa [show (post a).length + (i - (post a).length) = i by omega] at this
      · rw [List.getElem?_append_right (by omega)] at h
        have h0 : i - (partsT base a).length - (partsT (base + nSet a) c).length = 0 := by
          have := (List.getElem?_eq_some_iff.1 h).1; simp at this; omega
        rw [h0] at h
        simp only [List.getElem?_cons_zero, Option.some.injEq] at h
        subst h
        refine ⟨0, rfl, [], [], by simp, ?_, rfl⟩
        rw [partsT_len] at hi hi2 h0
        rw [partsT_len] at hi2 h0
        rw [e1]; simp; omega
  induction T with
  | set S =>
    intro base i x h
    cases i with
    | zero => simp [partsT] at h; subst h; exact ⟨0, rfl, [], [], by simp, by simp [post], rfl⟩
    | succ i => simp [partsT] at h
  | empty =>
    intro base i x h
    cases i with
    | zero => simp [partsT] at h; subst h; exact ⟨0, rfl, [], [], by simp, by simp [post], rfl⟩
    | succ i => simp [partsT] at h
  | cat a b iha ihb => exact fun base i x h => two _ base i x 3 a b rfl rfl iha ihb h
  | alt a b iha ihb => exact fun base i x h => two _ base i x 4 a b rfl rfl iha ihb h
  | star a iha => exact fun base i x h => one _ base i x 5 a rfl rfl iha h
  | plus a iha => exact fun base i x h => one _ base i x 6 a rfl rfl iha h
  | opt a iha => exact fun base i x h => one _ base i x 7 a rfl rfl iha h
end Go.Proofs.Ytmkgipoljbiocaa
/- A net: is it right; where a byte leads; whose token it is: the document's. -/
namespace Go.Proofs.Ytmkgipoljbiocaa
open Go.RowKit
set_option linter.unusedVariables false

def spotsB (N : NetS) (l : List Int) : Bool := (l.all fun z => decide (0 ≤ z) && decide (z < (N.sets.length : Int))) && risB l
def nonneg (o : Option Int) : Bool := match o with | some z => decide (0 ≤ z) | none => false
def spotsO (N : NetS) (o : Option (List Int)) : Bool := match o with | some l => spotsB N l | none => false
def rowOk (N : NetS) (i : Nat) : Bool := nonneg N.of[i]? && spotsO N N.fol[i]?
def netR (N : NetS) : Bool := (decide (N.of.length = N.sets.length) && decide (N.last.length = N.sets.length) && decide (N.fol.length = N.sets.length)) && (spotsB N N.first && (List.range N.sets.length).all (rowOk N))
theorem all_take {l : List Int} {p : Int → Bool} {k : Nat} {z : Int} (h : l[k]? = some z) : (l.take (k + 1)).all p = ((l.take k).all p && p z) := by
  rw [take_snoc h, List.all_append]; simp
theorem all_out {l : List Int} {p : Int → Bool} {k : Nat} {z : Int} (h : l[k]? = some z) (hp : p z = false) : l.all p = false := by
  rw [Bool.eq_false_iff]
  intro h2
  have := List.all_eq_true.1 h2 z (List.mem_of_getElem? h)
  rw [hp] at this; cases this
theorem quiet_w {W w : World} {n m : Nat} (h : w = W.drewN n) : w.drewN m = W.drewN (n + m) := by rw [h]; simp [World.drewN, Nat.add_assoc]
set_option maxHeartbeats 1000000 in
theorem rspots_any (w : World) (v : Nv) (N : NetS) (a : Option Addr) (n c : Nat) (xs : List Int) (hn : v.sn = N.sets.length) (hs : v.sn ≤ 9223372036854775807) (h : CRow intC 1 w a n xs) :
    Calls Try.prog 57 #[.agg (netA v), .slice a n c] w fun e w' => e = .returned (.bool (spotsB N xs)) ∧ Below w.heap.size w w' := by
  have hl1 := Lib.hid h.1
  have hl2 := h.2.1
  have HN := Lib.hid hn
  obtain ⟨g, hg⟩ : ∃ g, w.heap.size = g := ⟨_, rfl⟩
  have HG := Lib.hid hg
  obtain ⟨W1, hW1⟩ : ∃ W, W = w.alloc (.cells (netA v) 27) := ⟨_, rfl⟩
  have hb1 : Below g w W1 := by rw [hW1, ← hg]; exact (Below.refl _ _).alloc (Nat.le_refl _) _
  have hbx : W1.heap[g]? = some (.cells (netA v) 27 (0, 0)) := by rw [hW1, ← hg]; exact heap_alloc_new w _
  have HW1 := Lib.hid hW1
  have HBX := Lib.hid hbx
  have HB1 := Lib.hid hb1
  have HH := Lib.hid (h.below (by rw [hg]; exact hb1))
  obtain ⟨r, hr⟩ : ∃ r, spotsB N xs = r := ⟨_, rfl⟩
  have HR := Lib.hid hr
  rw [hr]
  clear h hW1 hbx hb1 hn hr
  go_enter Try.func57, Try.ntmps57
  go_wp2
  rw [← HW1.out]
  clear hg
  go_loopw [5] (fun i wr => ∃ k m : Nat, k ≤ n ∧ i = .int .i64 (k : Int) ∧ (xs.take k).all (fun z => decide (0 ≤ z) && decide (z < (N.sets.length : Int))) = true ∧ wr = W1.drewN m) (fun i _ => n - (intOf i).toNat)
  case atStart => exact ⟨0, 0, by omega, rfl, rfl, rfl⟩
  case round =>
    obtain ⟨k, m, hk, rfl, hall, hwr⟩ := hrel
    have HA := Lib.hid hall
    have HWR := Lib.hid hwr
    have c0 : wr.cell? ⟨g, 0, none⟩ = some (.slice v.sa v.sn v.sc) := by rw [hwr]; exact (netC HBX.out).1
    have HHR := Lib.hid (HH.out.below (below_drewN W1 m))
    rw [← hwr] at HHR
    have HBW : Hid (Below g w wr) := Lib.hid (by rw [hwr]; exact HB1.out.trans ((below_drewN W1 m).mono (by have := HB1.out.size; have := HG.out; omega)))
    clear hall hwr
    by_cases hlt : k < n
    · have h0 : (0 : Int) ≤ (k : Int) := by omega
      have h1 : (k : Int) < (n : Int) := by omega
      obtain ⟨b, off, z, rfl, hb, hz, hc⟩ := HHR.out.int hlt
      have HZ := Lib.hid hz
      clear hz
      by_cases hz0 : z < 0
      · have HE : Hid (r = false) := Lib.hid (by
          rw [← HR.out]; unfold spotsB
          rw [all_out HZ.out (by have : decide (0 ≤ z) = false := decide_eq_false (by omega)
                                 rw [this]; rfl)]; rfl)
        go_wp2
        go_quiet (fail)
        go_wp2
        go_ret
        exact ⟨ret_bool HE.out.symm, by rw [HG.out]; exact HBW.out.trans ((below_drewN wr nq).mono (by have := HBW.out.size; have := HG.out; omega))⟩
      · by_cases hz1 : z < (v.sn : Int)
        · have HE : Hid ((xs.take (k + 1)).all (fun z => decide (0 ≤ z) && decide (z < (N.sets.length : Int))) = true) := Lib.hid (by
            rw [all_take HZ.out, HA.out, decide_eq_true (by omega : 0 ≤ z), decide_eq_true (by rw [← HN.out]; exact hz1)]; rfl)
          have z1 : ¬ (v.sn : Int) ≤ z := by omega
          have z2 : decide (z < 0) = false := decide_eq_false hz0
          go_wp2
          go_quiet (fail)
          go_wp2
          go_roundw
          case rel => exact ⟨k + 1, m + nq, by omega, by go_num, HE.out, by rw [HWR.out]; simp [World.drewN, Nat.add_assoc]⟩
          case measure => simp [intOf]; omega
        · have HE : Hid (r = false) := Lib.hid (by
            rw [← HR.out]; unfold spotsB
            rw [all_out HZ.out (by have : decide (z < (N.sets.length : Int)) = false := decide_eq_false (by rw [← HN.out]; exact hz1)
                                   rw [this]; simp)]; rfl)
          have z1 : (v.sn : Int) ≤ z := by omega
          have z2 : decide (z < 0) = false := decide_eq_false hz0
          clear hz1
          go_wp2
          go_quiet (fail)
          go_wp2
          go_ret
          exact ⟨ret_bool HE.out.symm, by rw [HG.out]; exact HBW.out.trans ((below_drewN wr nq).mono (by have := HBW.out.size; have := HG.out; omega))⟩
    · have hk2 : k = n := by omega
      have HRR := Lib.hid (rright_any wr a n c xs HHR.out)
      have HE : Hid (risB xs = r) := Lib.hid (by
        rw [← HR.out]; unfold spotsB
        have := HA.out
        rw [hk2, List.take_of_length_le (by rw [hl1.out]; exact Nat.le_refl _)] at this
        rw [this]; rfl)
      rw [HE.out] at HRR
      subst hk2
      go_wp2_with fail
      refine HRR.out.mono ?_
      rintro e w2 ⟨rfl, hb2⟩
      have HB2 := Lib.hid (HBW.out.trans (hb2.mono (by have := HBW.out.size; have := HG.out; omega)))
      clear hb2
      go_wp2
      go_ret
      exact ⟨rfl, by rw [HG.out]; exact HB2.out⟩
set_option maxHeartbeats 4000000 in
set_option maxRecDepth 100000 in
theorem rnet_any (w : World) (v : Nv) (N : NetS) (hv : NetAt w v N) :
    Calls Try.prog 33 #[.agg (netA v)] w fun e w' => e = .returned (.bool (netR N)) ∧ Below w.heap.size w w' := by
  have hls := hv.s.2.1
  have hlo := hv.o.2.1
  have hll := hv.l.2.1
  have hlf := hv.f.len.2
  have HLS := Lib.hid hv.s.1
  have HLO := Lib.hid hv.o.1
  have HLL := Lib.hid hv.l.1
  have HLF := Lib.hid hv.f.len.1
  have HV := Lib.hid hv
  obtain ⟨g, hg⟩ : ∃ g, w.heap.size = g := ⟨_, rfl⟩
  have HG := Lib.hid hg
  obtain ⟨W1, hW1⟩ : ∃ W, W = w.alloc (.cells (netA v) 27) := ⟨_, rfl⟩
  have hb1 : Below g w W1 := by rw [hW1, ← hg]; exact (Below.refl _ _).alloc (Nat.le_refl _) _
  have hs1 : W1.heap.size = g + 1 := by rw [hW1, ← hg]; simp
  have hbx : W1.heap[g]? = some (.cells (netA v) 27 (0, 0)) := by rw [hW1, ← hg]; exact heap_alloc_new w _
  have HW1 := Lib.hid hW1
  have HBX := Lib.hid hbx
  have HB1 := Lib.hid hb1
  have HS1 := Lib.hid hs1
  obtain ⟨r, hr⟩ : ∃ r, netR N = r := ⟨_, rfl⟩
  have HR := Lib.hid hr
  rw [hr]
  clear hv hbx hb1 hr hs1 hW1
  have no : N.of.length ≠ N.sets.length ∨ N.last.length ≠ N.sets.length ∨ N.fol.length ≠ N.sets.length ∨ spotsB N N.first = false → netR N = false := fun h => by
    unfold netR
    rcases h with h | h | h | h
    · rw [decide_eq_false h]; rfl
    · rw [decide_eq_false h]; simp
    · rw [decide_eq_false h]; simp
    · rw [h]; simp
  have NO := Lib.hid no
  clear no
  have hcc := netC (W := w.alloc (.cells (netA v) 27)) (g := g) (v := v) (by rw [← hg]; exact heap_alloc_new w _)
  obtain ⟨cc0, cc1, cc2, cc3, cc4⟩ := hcc
  by_cases ho : v.on = v.sn
  case neg =>
    have HE : Hid (r = false) := Lib.hid (by rw [← HR.out]; exact NO.out (.inl (by rw [HLO.out, HLS.out]; exact ho)))
    have e1 : ((v.on : Int) != (v.sn : Int)) = true := by rw [bne_iff_ne]; omega
    clear ho
    go_enter Try.func33, Try.ntmps33
    go_wp2
    rw [← HW1.out]
    go_ret
    exact ⟨ret_bool HE.out.symm, by rw [HG.out]; exact HB1.out⟩
  by_cases hl : v.ln = v.sn
  case neg =>
    have HE : Hid (r = false) := Lib.hid (by rw [← HR.out]; exact NO.out (.inr (.inl (by rw [HLL.out, HLS.out]; exact hl))))
    have e1 : ((v.on : Int) != (v.sn : Int)) = false := by rw [ho]; simp
    have e2 : ((v.ln : Int) != (v.sn : Int)) = true := by rw [bne_iff_ne]; omega
    clear ho hl
    go_enter Try.func33, Try.ntmps33
    go_wp2
    rw [← HW1.out]
    go_ret
    exact ⟨ret_bool HE.out.symm, by rw [HG.out]; exact HB1.out⟩
  by_cases hf : v.fn = v.sn
  case neg =>
    have HE : Hid (r = false) := Lib.hid (by rw [← HR.out]; exact NO.out (.inr (.inr (.inl (by rw [HLF.out, HLS.out]; exact hf)))))
    have e1 : ((v.on : Int) != (v.sn : Int)) = false := by rw [ho]; simp
    have e2 : ((v.ln : Int) != (v.sn : Int)) = false := by rw [hl]; simp
    have e3 : ((v.fn : Int) != (v.sn : Int)) = true := by rw [bne_iff_ne]; omega
    clear ho hl hf
    go_enter Try.func33, Try.ntmps33
    go_wp2
    rw [← HW1.out]
    go_ret
    exact ⟨ret_bool HE.out.symm, by rw [HG.out]; exact HB1.out⟩
  have HLN : Hid (N.of.length = N.sets.length ∧ N.last.length = N.sets.length ∧ N.fol.length = N.sets.length) := Lib.hid ⟨by rw [HLO.out, HLS.out, ho], by rw [HLL.out, HLS.out, hl], by rw [HLF.out, HLS.out, hf]⟩
  have e1 : ((v.on : Int) != (v.sn : Int)) = false := by rw [ho]; simp
  have e2 : ((v.ln : Int) != (v.sn : Int)) = false := by rw [hl]; simp
  have e3 : ((v.fn : Int) != (v.sn : Int)) = false := by rw [hf]; simp
  have HO := Lib.hid ho
  have HF := Lib.hid hf
  have HSP1 := Lib.hid (rspots_any W1 v N v.ra v.rn v.rc N.first HLS.out.symm hls (HV.out.r.below (by rw [HG.out]; exact HB1.out)))
  obtain ⟨q1, hq1⟩ : ∃ q, spotsB N N.first = q := ⟨_, rfl⟩
  rw [hq1, HW1.out] at HSP1
  have HQ1 := Lib.hid hq1
  clear ho hl hf hq1
  go_enter Try.func33, Try.ntmps33
  go_wp2_with fail
  refine HSP1.out.mono ?_
  rintro e w2 ⟨rfl, hb2⟩
  rw [← HW1.out] at hb2
  rw [HS1.out] at hb2
  have HB2 := Lib.hid hb2
  have hs2 : g + 1 ≤ w2.heap.size := by have := hb2.size; have := HS1.out; omega
  clear hb2 HSP1 hg
  cases q1 with
  | false =>
    have HE : Hid (r = false) := Lib.hid (by rw [← HR.out]; exact NO.out (.inr (.inr (.inr HQ1.out))))
    go_wp2
    go_ret
    exact ⟨ret_bool HE.out.symm, by rw [HG.out]; exact HB1.out.trans (HB2.out.mono (by omega))⟩
  | true =>
    clear cc0 cc1 cc2 cc3 cc4
    have cc := netC ((HB2.out.block g (by omega)).trans HBX.out)
    obtain ⟨cc0, cc1, cc2, cc3, cc4⟩ := cc
    go_wp2
    clear cc0 cc1 cc2 cc3 cc4
    go_loopw [3] (fun i wr => ∃ k : Nat, k ≤ v.sn ∧ i = .int .i64 (k : Int) ∧ (∀ j, j < k → rowOk N j = true) ∧ Below (g + 1) W1 wr) (fun i _ => v.sn - (intOf i).toNat)
    case atStart => exact ⟨0, by omega, rfl, by omega, HB2.out⟩
    case round =>
      obtain ⟨k, hk, rfl, hall, hbw⟩ := hrel
      have HA := Lib.hid hall
      have HBW := Lib.hid hbw
      have hgl : g + 1 ≤ wr.heap.size := by have := HS1.out; have := hbw.size; omega
      obtain ⟨c0, c1, c2, c3, c4⟩ := netC ((hbw.block g (by omega)).trans HBX.out)
      have HBT := Lib.hid (HB1.out.trans (hbw.mono (by omega)))
      have HVW := Lib.hid (HV.out.below (w' := wr) (by rw [HG.out]; exact HBT.out))
      clear hall hbw
      by_cases hlt : k < v.sn
      · have h0 : (0 : Int) ≤ (k : Int) := by omega
        have h1 : (k : Int) < (v.sn : Int) := by omega
        have h2 : (k : Int) < (v.on : Int) := by have := HO.out; omega
        have h3 : (k : Int) < (v.fn : Int) := by have := HF.out; omega
        obtain ⟨b1, off1, z, ha1, hbl1, hz, d1⟩ := HVW.out.o.int (k := k) (by omega)
        obtain ⟨b3, off3, l3, ha3, hbl3, hl3, A3, cc3, d3, hr3⟩ := HVW.out.f.at_ (i := k) (by omega)
        have HZ := Lib.hid hz
        have HL3 := Lib.hid hl3
        have HR3 := Lib.hid hr3
        have C1 := Lib.hid c1
        have C3 := Lib.hid c3
        rw [ha1] at c1
        rw [ha3] at c3
        obtain ⟨q, hq⟩ : ∃ q, spotsB N l3 = q := ⟨_, rfl⟩
        have HQ := Lib.hid hq
        have HSP : Hid (∀ X, Onto wr.drew X → Calls Try.prog 57 #[.agg (netA v), .slice A3 l3.length cc3] X fun e w' => e = .returned (.bool q) ∧ Below X.heap.size X w') := Lib.hid fun X hX => by
          rw [← hq]
          exact rspots_any X v N A3 l3.length cc3 l3 HLS.out.symm hls (hr3.below (onto_drew hX))
        clear hz hl3 hr3 hq ha1 ha3
        by_cases hz0 : z < 0
        · have HE : Hid (r = false) := Lib.hid (by
            rw [← HR.out, Bool.eq_false_iff]
            intro h
            unfold netR at h
            simp only [Bool.and_eq_true, List.all_eq_true, List.mem_range] at h
            have h5 := h.2.2 k (by rw [HLS.out]; exact hlt)
            unfold rowOk at h5
            rw [HZ.out] at h5
            simp only [nonneg, Bool.and_eq_true, decide_eq_true_eq] at h5
            omega)
          go_wp2
          refine wp_region_fam_lit (E := Onto)
            [isV (.pointer (some ⟨g, 1, none⟩)),
             isV (.slice (some ⟨b1, off1, none⟩) v.on v.oc),
             isV (.int .i64 (k : Int)),
             isV (.pointer (some ⟨b1, off1 + k, none⟩)),
             isV (.int .i64 z),
             isV (.bool true),
             isV (.bool true),
             isV undef,
             isV undef,
             isV undef,
             isV undef,
             isV undef,
             isV undef,
             isV undef,
             isV undef,
             isV (.bool true)]
            [some 43, some 44, some 45, some 46, some 47, some 48, some 49, some 50, some 51, some 52, some 53, some 54, some 55, some 56, some 57, some 58] (by kernel_rfl) rfl (by kernel_rfl) rfl Onto.trans Onto.refl ?monoN ?obN ?qN
          case monoN => exact ⟨isV_mono _ _, isV_mono _ _, isV_mono _ _, isV_mono _ _, isV_mono _ _, isV_mono _ _, isV_mono _ _, isV_mono _ _, isV_mono _ _, isV_mono _ _, isV_mono _ _, isV_mono _ _, isV_mono _ _, isV_mono _ _, isV_mono _ _, isV_mono _ _, trivial⟩
          case obN =>
            refine Obs.cons (j := 1) rfl ?_ ?_
            · refine Ob.free [(1, none)] (by kernel_rfl) (isV (.pointer (some ⟨g, 1, none⟩))) rfl rfl (fun a X hE hL => ?_)
              simp [Seen, slotAt] at hL
              have h1 := hL
              rw [relAt_eq]
              go_simp
              exact ⟨Onto.refl _, rfl⟩
            refine Obs.cons (j := 2) rfl ?_ ?_
            · refine Ob.free [(43, some 0)] (by kernel_rfl) (isV (.slice (some ⟨b1, off1, none⟩) v.on v.oc)) rfl rfl (fun a X hE hL => ?_)
              simp [Seen, slotAt, famV, isV] at hL
              have h43 := hL
              rw [relAt_eq]
              have f0 := keeps hE _ _ c1
              go_simp
              exact ⟨Onto.refl _, rfl⟩
            refine Obs.cons (j := 3) rfl ?_ ?_
            · refine Ob.free [(3, none)] (by kernel_rfl) (isV (.int .i64 (k : Int))) rfl rfl (fun a X hE hL => ?_)
              simp [Seen, slotAt] at hL
              have h3 := hL
              rw [relAt_eq]
              go_simp
              exact ⟨Onto.refl _, rfl⟩
            refine Obs.cons (j := 4) rfl ?_ ?_
            · refine Ob.free [(44, some 1), (45, some 2)] (by kernel_rfl) (isV (.pointer (some ⟨b1, off1 + k, none⟩))) rfl rfl (fun a X hE hL => ?_)
              simp [Seen, slotAt, famV, isV] at hL
              obtain ⟨h44, h45⟩ := hL
              rw [relAt_eq]
              go_simp
              exact ⟨Onto.refl _, rfl⟩
            refine Obs.cons (j := 5) rfl ?_ ?_
            · refine Ob.free [(46, some 3)] (by kernel_rfl) (isV (.int .i64 z)) rfl rfl (fun a X hE hL => ?_)
              simp [Seen, slotAt, famV, isV] at hL
              have h46 := hL
              rw [relAt_eq]
              have f0 := keeps hE _ _ d1
              go_simp
              exact ⟨Onto.refl _, rfl⟩
            refine Obs.cons (j := 6) rfl ?_ ?_
            · refine Ob.free [(47, some 4)] (by kernel_rfl) (isV (.bool true)) rfl rfl (fun a X hE hL => ?_)
              simp [Seen, slotAt, famV, isV] at hL
              have h47 := hL
              rw [relAt_eq]
              go_simp
              exact ⟨Onto.refl _, rfl⟩
            refine Obs.cons (j := 7) rfl ?_ ?_
            · refine Ob.free [(48, some 5)] (by kernel_rfl) (isV (.bool true)) rfl rfl (fun a X hE hL => ?_)
              simp [Seen, slotAt, famV, isV] at hL
              have h48 := hL
              rw [relAt_eq]
              go_simp
              exact ⟨Onto.refl _, rfl⟩
            refine Obs.cons (j := 8) rfl ?_ ?_
            · refine Ob.skip [(1, none), (49, some 6)] (by kernel_rfl) rfl 6 false 49 rfl rfl (fun a X hE hL => ?_)
              simp [Seen, slotAt, famV, isV] at hL
              obtain ⟨h1, h49⟩ := hL
              simpa using h49
            refine Obs.cons (j := 9) rfl ?_ ?_
            · refine Ob.skip [(1, none), (49, some 6)] (by kernel_rfl) rfl 6 false 49 rfl rfl (fun a X hE hL => ?_)
              simp [Seen, slotAt, famV, isV] at hL
              obtain ⟨h1, h49⟩ := hL
              simpa using h49
            refine Obs.cons (j := 10) rfl ?_ ?_
            · refine Ob.skip [(51, some 8), (49, some 6)] (by kernel_rfl) rfl 6 false 49 rfl rfl (fun a X hE hL => ?_)
              simp [Seen, slotAt, famV, isV] at hL
              obtain ⟨h51, h49⟩ := hL
              simpa using h49
            refine Obs.cons (j := 11) rfl ?_ ?_
            · refine Ob.skip [(3, none), (49, some 6)] (by kernel_rfl) rfl 6 false 49 rfl rfl (fun a X hE hL => ?_)
              simp [Seen, slotAt, famV, isV] at hL
              obtain ⟨h3, h49⟩ := hL
              simpa using h49
            refine Obs.cons (j := 12) rfl ?_ ?_
            · refine Ob.skip [(52, some 9), (53, some 10), (49, some 6)] (by kernel_rfl) rfl 6 false 49 rfl rfl (fun a X hE hL => ?_)
              simp [Seen, slotAt, famV, isV] at hL
              obtain ⟨h52, h53, h49⟩ := hL
              simpa using h49
            refine Obs.cons (j := 13) rfl ?_ ?_
            · refine Ob.skip [(54, some 11), (49, some 6)] (by kernel_rfl) rfl 6 false 49 rfl rfl (fun a X hE hL => ?_)
              simp [Seen, slotAt, famV, isV] at hL
              obtain ⟨h54, h49⟩ := hL
              simpa using h49
            refine Obs.cons (j := 14) rfl ?_ ?_
            · refine Ob.skip [(50, some 7), (55, some 12), (49, some 6)] (by kernel_rfl) rfl 6 false 49 rfl rfl (fun a X hE hL => ?_)
              simp [Seen, slotAt, famV, isV] at hL
              obtain ⟨h50, h55, h49⟩ := hL
              simpa using h49
            refine Obs.cons (j := 15) rfl ?_ ?_
            · refine Ob.skip [(56, some 13), (49, some 6)] (by kernel_rfl) rfl 6 false 49 rfl rfl (fun a X hE hL => ?_)
              simp [Seen, slotAt, famV, isV] at hL
              obtain ⟨h56, h49⟩ := hL
              simpa using h49
            refine Obs.cons (j := 16) rfl ?_ ?_
            · refine Ob.free [(49, some 6), (57, some 14)] (by kernel_rfl) (isV (.bool true)) rfl rfl (fun a X hE hL => ?_)
              simp [Seen, slotAt, famV, isV] at hL
              obtain ⟨h49, h57⟩ := hL
              rw [relAt_eq]
              go_simp
              exact ⟨Onto.refl _, rfl⟩
            exact trivial
          case qN =>
            intro x wq hE hV
            simp [AllV, famV, isV] at hV
            obtain ⟨-, -, -, -, -, -, -, -, -, -, -, -, -, -, -, h58⟩ := hV
            simp only [puts, Act.put, List.setIfInBounds_toArray, List.set_cons_zero, List.set_cons_succ, h58]
            generalize x 43 = y43
            generalize x 44 = y44
            generalize x 45 = y45
            generalize x 46 = y46
            generalize x 47 = y47
            generalize x 48 = y48
            generalize x 49 = y49
            generalize x 50 = y50
            generalize x 51 = y51
            generalize x 52 = y52
            generalize x 53 = y53
            generalize x 54 = y54
            generalize x 55 = y55
            generalize x 56 = y56
            generalize x 57 = y57
            clear h58
            have HB3 := Lib.hid (HBT.out.trans ((onto_drew hE).mono (by omega)))
            clear hE
            go_wp2
            go_ret
            exact ⟨ret_bool HE.out.symm, by rw [HG.out]; exact HB3.out⟩
        · have z2 : decide (z < 0) = false := decide_eq_false hz0
          go_wp2
          refine wp_region_fam_lit (E := Onto)
            [isV (.pointer (some ⟨g, 1, none⟩)),
             isV (.slice (some ⟨b1, off1, none⟩) v.on v.oc),
             isV (.int .i64 (k : Int)),
             isV (.pointer (some ⟨b1, off1 + k, none⟩)),
             isV (.int .i64 z),
             isV (.bool false),
             isV (.bool false),
             isV (.agg (netA v)),
             isV (.pointer (some ⟨g, 3, none⟩)),
             isV (.slice (some ⟨b3, off3, none⟩) v.fn v.fc),
             isV (.int .i64 (k : Int)),
             isV (.pointer (some ⟨b3, off3 + k, none⟩)),
             isV (.slice A3 l3.length cc3),
             isV (.bool q),
             isV (.bool (!q)),
             isV (.bool (!q))]
            [some 43, some 44, some 45, some 46, some 47, some 48, some 49, some 50, some 51, some 52, some 53, some 54, some 55, some 56, some 57, some 58] (by kernel_rfl) rfl (by kernel_rfl) rfl Onto.trans Onto.refl ?monoP ?obP ?qP
          case monoP => exact ⟨isV_mono _ _, isV_mono _ _, isV_mono _ _, isV_mono _ _, isV_mono _ _, isV_mono _ _, isV_mono _ _, isV_mono _ _, isV_mono _ _, isV_mono _ _, isV_mono _ _, isV_mono _ _, isV_mono _ _, isV_mono _ _, isV_mono _ _, isV_mono _ _, trivial⟩
          case obP =>
            refine Obs.cons (j := 1) rfl ?_ ?_
            · refine Ob.free [(1, none)] (by kernel_rfl) (isV (.pointer (some ⟨g, 1, none⟩))) rfl rfl (fun a X hE hL => ?_)
              simp [Seen, slotAt] at hL
              have h1 := hL
              rw [relAt_eq]
              go_simp
              exact ⟨Onto.refl _, rfl⟩
            refine Obs.cons (j := 2) rfl ?_ ?_
            · refine Ob.free [(43, some 0)] (by kernel_rfl) (isV (.slice (some ⟨b1, off1, none⟩) v.on v.oc)) rfl rfl (fun a X hE hL => ?_)
              simp [Seen, slotAt, famV, isV] at hL
              have h43 := hL
              rw [relAt_eq]
              have f0 := keeps hE _ _ c1
              go_simp
              exact ⟨Onto.refl _, rfl⟩
            refine Obs.cons (j := 3) rfl ?_ ?_
            · refine Ob.free [(3, none)] (by kernel_rfl) (isV (.int .i64 (k : Int))) rfl rfl (fun a X hE hL => ?_)
              simp [Seen, slotAt] at hL
              have h3 := hL
              rw [relAt_eq]
              go_simp
              exact ⟨Onto.refl _, rfl⟩
            refine Obs.cons (j := 4) rfl ?_ ?_
            · refine Ob.free [(44, some 1), (45, some 2)] (by kernel_rfl) (isV (.pointer (some ⟨b1, off1 + k, none⟩))) rfl rfl (fun a X hE hL => ?_)
              simp [Seen, slotAt, famV, isV] at hL
              obtain ⟨h44, h45⟩ := hL
              rw [relAt_eq]
              go_simp
              exact ⟨Onto.refl _, rfl⟩
            refine Obs.cons (j := 5) rfl ?_ ?_
            · refine Ob.free [(46, some 3)] (by kernel_rfl) (isV (.int .i64 z)) rfl rfl (fun a X hE hL => ?_)
              simp [Seen, slotAt, famV, isV] at hL
              have h46 := hL
              rw [relAt_eq]
              have f0 := keeps hE _ _ d1
              go_simp
              exact ⟨Onto.refl _, rfl⟩
            refine Obs.cons (j := 6) rfl ?_ ?_
            · refine Ob.free [(47, some 4)] (by kernel_rfl) (isV (.bool false)) rfl rfl (fun a X hE hL => ?_)
              simp [Seen, slotAt, famV, isV] at hL
              have h47 := hL
              rw [relAt_eq]
              go_simp
              exact ⟨Onto.refl _, rfl⟩
            refine Obs.cons (j := 7) rfl ?_ ?_
            · refine Ob.free [(48, some 5)] (by kernel_rfl) (isV (.bool false)) rfl rfl (fun a X hE hL => ?_)
              simp [Seen, slotAt, famV, isV] at hL
              have h48 := hL
              rw [relAt_eq]
              go_simp
              exact ⟨Onto.refl _, rfl⟩
            refine Obs.cons (j := 8) rfl ?_ ?_
            · refine Ob.guarded [(1, none), (49, some 6)] (by kernel_rfl) (isV (.agg (netA v))) rfl 6 false 49 rfl rfl (fun a X hE hL => ?_)
              simp [Seen, slotAt, famV, isV] at hL
              obtain ⟨h1, h49⟩ := hL
              refine ⟨by simpa using h49, ?_⟩
              clear h49
              rw [relAt_eq]
              have f0 := keeps hE _ _ c0; have f1 := keeps hE _ _ C1.out; have f2 := keeps hE _ _ c2; have f3 := keeps hE _ _ C3.out; have f4 := keeps hE _ _ c4
              go_simp
              exact ⟨Onto.refl _, rfl⟩
            refine Obs.cons (j := 9) rfl ?_ ?_
            · refine Ob.guarded [(1, none), (49, some 6)] (by kernel_rfl) (isV (.pointer (some ⟨g, 3, none⟩))) rfl 6 false 49 rfl rfl (fun a X hE hL => ?_)
              simp [Seen, slotAt, famV, isV] at hL
              obtain ⟨h1, h49⟩ := hL
              refine ⟨by simpa using h49, ?_⟩
              clear h49
              rw [relAt_eq]
              go_simp
              exact ⟨Onto.refl _, rfl⟩
            refine Obs.cons (j := 10) rfl ?_ ?_
            · refine Ob.guarded [(51, some 8), (49, some 6)] (by kernel_rfl) (isV (.slice (some ⟨b3, off3, none⟩) v.fn v.fc)) rfl 6 false 49 rfl rfl (fun a X hE hL => ?_)
              simp [Seen, slotAt, famV, isV] at hL
              obtain ⟨h51, h49⟩ := hL
              refine ⟨by simpa using h49, ?_⟩
              clear h49
              rw [relAt_eq]
              have f0 := keeps hE _ _ c3
              go_simp
              exact ⟨Onto.refl _, rfl⟩
            refine Obs.cons (j := 11) rfl ?_ ?_
            · refine Ob.guarded [(3, none), (49, some 6)] (by kernel_rfl) (isV (.int .i64 (k : Int))) rfl 6 false 49 rfl rfl (fun a X hE hL => ?_)
              simp [Seen, slotAt, famV, isV] at hL
              obtain ⟨h3, h49⟩ := hL
              refine ⟨by simpa using h49, ?_⟩
              clear h49
              rw [relAt_eq]
              go_simp
              exact ⟨Onto.refl _, rfl⟩
            refine Obs.cons (j := 12) rfl ?_ ?_
            · refine Ob.guarded [(52, some 9), (53, some 10), (49, some 6)] (by kernel_rfl) (isV (.pointer (some ⟨b3, off3 + k, none⟩))) rfl 6 false 49 rfl rfl (fun a X hE hL => ?_)
              simp [Seen, slotAt, famV, isV] at hL
              obtain ⟨h52, h53, h49⟩ := hL
              refine ⟨by simpa using h49, ?_⟩
              clear h49
              rw [relAt_eq]
              go_simp
              exact ⟨Onto.refl _, rfl⟩
            refine Obs.cons (j := 13) rfl ?_ ?_
            · refine Ob.guarded [(54, some 11), (49, some 6)] (by kernel_rfl) (isV (.slice A3 l3.length cc3)) rfl 6 false 49 rfl rfl (fun a X hE hL => ?_)
              simp [Seen, slotAt, famV, isV] at hL
              obtain ⟨h54, h49⟩ := hL
              refine ⟨by simpa using h49, ?_⟩
              clear h49
              rw [relAt_eq]
              have f0 := keeps hE _ _ d3
              go_simp
              exact ⟨Onto.refl _, rfl⟩
            refine Obs.cons (j := 14) rfl ?_ ?_
            · refine Ob.guarded [(50, some 7), (55, some 12), (49, some 6)] (by kernel_rfl) (isV (.bool q)) rfl 6 false 49 rfl rfl (fun a X hE hL => ?_)
              simp [Seen, slotAt, famV, isV] at hL
              obtain ⟨h50, h55, h49⟩ := hL
              refine ⟨by simpa using h49, ?_⟩
              clear h49
              rw [relAt_eq]
              go_simp
              rw [relUpon_enter]
              go_at_call 57
              refine (HSP.out X hE).mono ?_
              rintro e Y ⟨rfl, hY⟩
              exact ⟨_, rfl, hY, rfl⟩
            refine Obs.cons (j := 15) rfl ?_ ?_
            · refine Ob.guarded [(56, some 13), (49, some 6)] (by kernel_rfl) (isV (.bool (!q))) rfl 6 false 49 rfl rfl (fun a X hE hL => ?_)
              simp [Seen, slotAt, famV, isV] at hL
              obtain ⟨h56, h49⟩ := hL
              refine ⟨by simpa using h49, ?_⟩
              clear h49
              rw [relAt_eq]
              go_simp
              exact ⟨Onto.refl _, rfl⟩
            refine Obs.cons (j := 16) rfl ?_ ?_
            · refine Ob.free [(49, some 6), (57, some 14)] (by kernel_rfl) (isV (.bool (!q))) rfl rfl (fun a X hE hL => ?_)
              simp [Seen, slotAt, famV, isV] at hL
              obtain ⟨h49, h57⟩ := hL
              rw [relAt_eq]
              go_simp
              exact ⟨Onto.refl _, rfl⟩
            exact trivial
          case qP =>
            intro x wq hE hV
            simp [AllV, famV, isV] at hV
            obtain ⟨-, -, -, -, -, -, -, -, -, -, -, -, -, -, -, h58⟩ := hV
            simp only [puts, Act.put, List.setIfInBounds_toArray, List.set_cons_zero, List.set_cons_succ, h58]
            generalize x 43 = y43
            generalize x 44 = y44
            generalize x 45 = y45
            generalize x 46 = y46
            generalize x 47 = y47
            generalize x 48 = y48
            generalize x 49 = y49
            generalize x 50 = y50
            generalize x 51 = y51
            generalize x 52 = y52
            generalize x 53 = y53
            generalize x 54 = y54
            generalize x 55 = y55
            generalize x 56 = y56
            generalize x 57 = y57
            clear h58
            have HB3 := Lib.hid (HBW.out.trans ((onto_drew hE).mono (by omega)))
            clear hE
            cases q with
            | true =>
              have HNX : Hid (∀ j, j < k + 1 → rowOk N j = true) := Lib.hid fun j hj => by
                rcases Nat.lt_or_ge j k with h7 | h7
                · exact HA.out j h7
                · have : j = k := by omega
                  subst this
                  unfold rowOk
                  rw [HZ.out, HL3.out]
                  simp only [nonneg, spotsO, HQ.out, Bool.and_true, decide_eq_true_eq]
                  omega
              go_wp2
              go_roundw
              case rel => exact ⟨k + 1, by omega, by go_num, HNX.out, HB3.out⟩
              case measure => simp [intOf]; omega
            | false =>
              have HE : Hid (r = false) := Lib.hid (by
                rw [← HR.out, Bool.eq_false_iff]
                intro h
                unfold netR at h
                simp only [Bool.and_eq_true, List.all_eq_true, List.mem_range] at h
                have h5 := h.2.2 k (by rw [HLS.out]; exact hlt)
                unfold rowOk at h5
                rw [HL3.out] at h5
                simp only [spotsO, HQ.out, Bool.and_false] at h5
                cases h5)
              go_wp2
              go_ret
              exact ⟨ret_bool HE.out.symm, by rw [HG.out]; exact HB1.out.trans (HB3.out.mono (by omega))⟩
      · have hk2 : k = v.sn := by omega
        have HE : Hid (r = true) := Lib.hid (by
          rw [← HR.out]
          unfold netR
          obtain ⟨l1, l2, l3⟩ := HLN.out
          rw [decide_eq_true l1, decide_eq_true l2, decide_eq_true l3, HQ1.out]
          simp only [Bool.true_and, List.all_eq_true, List.mem_range]
          intro j hj
          exact HA.out j (by rw [HLS.out] at hj; omega))
        have z1 : ¬ (k : Int) < (v.sn : Int) := by omega
        clear hk2
        go_wp2
        go_ret
        exact ⟨ret_bool HE.out.symm, by rw [HG.out]; exact HBT.out⟩
end Go.Proofs.Ytmkgipoljbiocaa
/- A net: where a byte leads; whose token it is: the document's. -/
namespace Go.Proofs.Ytmkgipoljbiocaa
open Go.RowKit
set_option linter.unusedVariables false

/-- Numbers behind a row of the call's own. -/
theorem app_ints {w : World} {base n : Nat} {v : Value} {xs : List Int} (hown : w.ownsRow base 3 1 v n (xs.flatMap intC)) {a : Option Addr} {m c : Nat} {os : List Int} (hr : CRow intC 1 w a m os) (hn : n + m ≤ 10000000) (hbase : base ≤ w.heap.size)
    (ops : Array Oper) (rest : List Oper) (o : Oper) (act : Act) (Q : Exit → Act → World → Prop) (hg : o.guard = none) (s x : Operand) (ho : o.op = .call { callee := .builtin .append, args := #[s, x], argTypes := #[23, 23] })
    (hs : act.eval s = v) (hx : act.eval x = .slice a m c)
    (h : ∀ v' w', w'.ownsRow base 3 1 v' (n + m) ((xs ++ os).flatMap intC) → w.grownBy w' v.ownBlock → (v'.ownBlock = v.ownBlock ∨ v'.ownBlock = some w.heap.size) →
      wpList Try.prog ops Q rest (act.put o.dst v') w') : wpList Try.prog ops Q (o :: rest) act w := by
  obtain ⟨i0, hii, hz0, hz1, hz2⟩ := info_parts infoInt
  exact wpList_append_row w hg s x 23 ho base 3 i0 _ 8 Try.underlying23 hii hz0 hz1 hz2 rfl (by omega) intC_len intC_one v n (xs.flatMap intC) hs hown a m c os hx hr (by unfold maxLen; omega) (by omega) hbase
    fun v' w' h1 h2 h3 => h v' w' (by rw [List.flatMap_append]; exact h1) h2 h3
def startL (N : NetS) (b : Nat) : List Int := if netR N = true then withL N N.first b else []
theorem rstart_any (w : World) (v : Nv) (N : NetS) (b : Nat) (hb : b < 256) (hv : NetAt w v N) (hs : v.sn ≤ 100000) :
    Calls Try.prog 37 #[.agg (netA v), .int .u8 (b : Int)] w (Giv 3 1 intC w (startL N b)) := by
  have HV := Lib.hid hv
  obtain ⟨g, hg⟩ : ∃ g, w.heap.size = g := ⟨_, rfl⟩
  have HG := Lib.hid hg
  obtain ⟨W1, hW1⟩ : ∃ W, W = w.alloc (.cells (netA v) 27) := ⟨_, rfl⟩
  have hb1 : Below g w W1 := by rw [hW1, ← hg]; exact (Below.refl _ _).alloc (Nat.le_refl _) _
  have hs1 : W1.heap.size = g + 1 := by rw [hW1, ← hg]; simp
  have hbx : W1.heap[g]? = some (.cells (netA v) 27 (0, 0)) := by rw [hW1, ← hg]; exact heap_alloc_new w _
  have HR := Lib.hid (rnet_any W1 v N (hv.below (by rw [hg]; exact hb1)))
  rw [hW1] at HR
  have HBX := Lib.hid hbx
  have HB1 := Lib.hid hb1
  have HS1 := Lib.hid hs1
  have HW1 := Lib.hid hW1
  obtain ⟨cc0, cc1, cc2, cc3, cc4⟩ := netC (W := w.alloc (.cells (netA v) 27)) (g := g) (v := v) (by rw [← hg]; exact heap_alloc_new w _)
  obtain ⟨r, hr⟩ : ∃ r, netR N = r := ⟨_, rfl⟩
  have HRR := Lib.hid hr
  rw [hr] at HR
  unfold Giv
  clear hv hbx hb1 hs1 hW1 hr
  go_enter Try.func37, Try.ntmps37
  go_wp2_with fail
  refine HR.out.mono ?_
  rintro e w2 ⟨rfl, hb2⟩
  rw [← HW1.out, HS1.out] at hb2
  have HB2 := Lib.hid hb2
  have HBT := Lib.hid (HB1.out.trans (hb2.mono (by omega)))
  have hs2 : g + 1 ≤ w2.heap.size := by have := hb2.size; have := HS1.out; omega
  clear hb2 HR hg cc0 cc1 cc2 cc3 cc4
  cases r with
  | false =>
    have HE : Hid (startL N b = []) := Lib.hid (by unfold startL; rw [HRR.out]; rfl)
    have HO0 := Lib.hid (own_zero w2 g 3 1 (by omega))
    have HB3 := Lib.hid (HBT.out.alloc (by omega) (.cells #[] 3))
    go_wp2
    go_ret
    rw [HE.out]
    exact Giv.mk rfl (by rw [HG.out]; exact HO0.out) (by rw [HG.out]; exact HB3.out)
  | true =>
    have HE : Hid (startL N b = withL N N.first b) := Lib.hid (by unfold startL; rw [HRR.out]; rfl)
    have HVW := Lib.hid (HV.out.below (w' := w2) (by rw [HG.out]; exact HBT.out))
    obtain ⟨c0, c1, c2, c3, c4⟩ := netC ((HB2.out.block g (by omega)).trans HBX.out)
    have HWT := Lib.hid (rwith_any w2 v N v.ra v.rn v.rc N.first b hb HVW.out HVW.out.r hs)
    go_wp2_with fail
    refine HWT.out.mono ?_
    rintro e w3 ⟨A, cc, rfl, ho3, hb3⟩
    have HO3 := Lib.hid ho3
    have HB3 := Lib.hid (HBT.out.trans (hb3.mono (by omega)))
    clear ho3 hb3 c0 c1 c2 c3 c4
    go_wp2
    go_ret
    rw [HE.out]
    exact Giv.mk rfl (own_mono HO3.out (by rw [HG.out]; omega)) (by rw [HG.out]; exact HB3.out)
def folO (N : NetS) (z : Int) : List Int := if 0 ≤ z ∧ z < (N.sets.length : Int) then (N.fol[z.toNat]?).getD [] else []
def stepL (N : NetS) (xs : List Int) (b : Nat) : List Int := if netR N = true then withL N (xs.flatMap (folO N)) b else []
theorem flat_take {α β : Type} {f : α → List β} {l : List α} {k : Nat} {z : α} (h : l[k]? = some z) : (l.take (k + 1)).flatMap f = (l.take k).flatMap f ++ f z := by
  rw [take_snoc h]; simp
theorem flat_len {α β : Type} (f : α → List β) (B : Nat) : ∀ (l : List α), (∀ x ∈ l, (f x).length ≤ B) → (l.flatMap f).length ≤ l.length * B
  | [], _ => by simp
  | x :: l, h => by
    have h1 := h x (by simp)
    have h2 := flat_len f B l (fun y hy => h y (by simp [hy]))
    rw [List.flatMap_cons, List.length_append, List.length_cons, Nat.add_mul]
    omega
theorem netR_len {N : NetS} (h : netR N = true) : N.of.length = N.sets.length ∧ N.last.length = N.sets.length ∧ N.fol.length = N.sets.length := by
  unfold netR at h
  simp only [Bool.and_eq_true, decide_eq_true_eq] at h
  exact ⟨h.1.1.1, h.1.1.2, h.1.2⟩
set_option maxHeartbeats 2000000 in
set_option maxRecDepth 100000 in
theorem rstep_any (w : World) (v : Nv) (N : NetS) (a : Option Addr) (n c : Nat) (xs : List Int) (b : Nat) (hb : b < 256) (hv : NetAt w v N) (h : CRow intC 1 w a n xs) (hs : v.sn ≤ 100000) (hn : n ≤ 1000) (hf : ∀ l ∈ N.fol, l.length ≤ 1000) :
    Calls Try.prog 36 #[.agg (netA v), .slice a n c, .int .u8 (b : Int)] w (Giv 3 1 intC w (stepL N xs b)) := by
  have HV := Lib.hid hv
  have HH := Lib.hid h
  have hl1 := Lib.hid h.1
  have HF := Lib.hid hf
  have HLS := Lib.hid hv.s.1
  have HLF := Lib.hid hv.f.len.1
  obtain ⟨g, hg⟩ : ∃ g, w.heap.size = g := ⟨_, rfl⟩
  have HG := Lib.hid hg
  obtain ⟨W1, hW1, hs1, hb1, hbx, ho1⟩ := box_row hg (netA v) 27 3 1
  have HR := Lib.hid (rnet_any W1 v N (hv.below (by rw [hg]; exact hb1)))
  rw [hW1] at HR
  have HBX := Lib.hid hbx
  have HB1 := Lib.hid hb1
  have HS1 := Lib.hid hs1
  have HW1 := Lib.hid hW1
  have HO1 := Lib.hid ho1
  obtain ⟨cc0, cc1, cc2, cc3, cc4⟩ := netC (W := (w.alloc (.cells (netA v) 27)).alloc (.cells #[] 3)) (g := g) (v := v) (by rw [← hW1]; exact hbx)
  obtain ⟨r, hr⟩ : ∃ r, netR N = r := ⟨_, rfl⟩
  have HRR := Lib.hid hr
  rw [hr] at HR
  unfold Giv
  clear hv hbx hb1 hs1 hW1 hr h hf ho1
  go_enter Try.func36, Try.ntmps36
  go_wp2_with fail
  refine HR.out.mono ?_
  rintro e w2 ⟨rfl, hb2⟩
  rw [← HW1.out, HS1.out] at hb2
  have HB2 := Lib.hid hb2
  have HBT := Lib.hid (HB1.out.trans (hb2.mono (by omega)))
  have hs2 : g + 2 ≤ w2.heap.size := by have := hb2.size; have := HS1.out; omega
  have HO2 := Lib.hid (ownB HO1.out (by rw [HS1.out]; exact hb2))
  clear hb2 HR hg cc0 cc1 cc2 cc3 cc4
  cases r with
  | false =>
    have HE : Hid (stepL N xs b = []) := Lib.hid (by unfold stepL; rw [HRR.out]; rfl)
    go_wp2
    go_ret
    rw [HE.out]
    exact Giv.mk rfl (own_mono HO2.out (by rw [HG.out]; omega)) (by rw [HG.out]; exact HBT.out)
  | true =>
    have hfn : v.fn = v.sn := by rw [← HLF.out, ← HLS.out]; exact (netR_len HRR.out).2.2
    have HE : Hid (stepL N xs b = withL N (xs.flatMap (folO N)) b) := Lib.hid (by unfold stepL; rw [HRR.out]; rfl)
    have HFN := Lib.hid hfn
    clear hfn
    go_wp2
    go_loopw [7, 8] (fun u i wr => ∃ k : Nat, k ≤ n ∧ i = .int .i64 (k : Int) ∧ wr.ownsRow (g + 1) 3 1 u ((xs.take k).flatMap (folO N)).length (((xs.take k).flatMap (folO N)).flatMap intC) ∧ Below (g + 1) W1 wr) (fun _ i _ => n - (intOf i).toNat)
    case atStart => exact ⟨0, by omega, rfl, HO2.out, HB2.out.mono (by omega)⟩
    case round =>
      obtain ⟨k, hk, rfl, hown, hbw⟩ := hrel
      have HOF := Lib.hid (own_form hown)
      have HOW := Lib.hid hown
      have HBW := Lib.hid hbw
      have hgl : g + 2 ≤ wr.heap.size := by have := HS1.out; have := hbw.size; omega
      obtain ⟨c0, c1, c2, c3, c4⟩ := netC ((hbw.block g (by omega)).trans HBX.out)
      have HBX2 := Lib.hid ((hbw.block g (by omega)).trans HBX.out)
      have HBTW := Lib.hid (HB1.out.trans (hbw.mono (by omega)))
      have HVW := Lib.hid (HV.out.below (w' := wr) (by rw [HG.out]; exact HBTW.out))
      have HLE : Hid (((xs.take k).flatMap (folO N)).length ≤ 1000000) := Lib.hid (by
        have h1 := flat_len (folO N) 1000 (xs.take k) (fun z hz => by
          unfold folO
          split
          · cases hz2 : N.fol[z.toNat]? with
            | none => simp
            | some l => exact HF.out l (List.mem_of_getElem? hz2)
          · simp)
        have h2 : (xs.take k).length ≤ k := List.length_take_le _ _
        have h3 : (xs.take k).length * 1000 ≤ 1000 * 1000 := Nat.mul_le_mul_right _ (by omega)
        omega)
      clear hown hbw
      obtain ⟨A, cc, rfl, hle, hcc⟩ := HOF.out
      clear HOF
      by_cases hlt : k < n
      · have h0 : (0 : Int) ≤ (k : Int) := by omega
        have h1 : (k : Int) < (n : Int) := by omega
        obtain ⟨b1, off1, z, rfl, hbl1, hz, d1⟩ := (HH.out.below (w' := wr) (by rw [HG.out]; exact HBTW.out)).int (k := k) (by omega)
        have HZ := Lib.hid hz
        have HNX := Lib.hid (flat_take (f := folO N) HZ.out)
        obtain ⟨l, hl⟩ : ∃ l, (xs.take k).flatMap (folO N) = l := ⟨_, rfl⟩
        rw [hl] at HNX HOW HLE hle ⊢
        clear hl hz
        by_cases hz0 : z < 0
        · have HNE : Hid ((xs.take (k + 1)).flatMap (folO N) = l) := Lib.hid (by rw [HNX.out]; unfold folO; rw [if_neg (by omega)]; simp)
          have z1 : ¬ 0 ≤ z := by omega
          have z2 : decide (0 ≤ z) = false := decide_eq_false z1
          go_wp2
          go_quiet (fail)
          go_wp2
          go_roundw
          case rel => exact ⟨k + 1, by omega, by go_num, by rw [HNE.out]; exact ownB HOW.out (below_drewN wr nq), HBW.out.trans ((below_drewN wr nq).mono (by omega))⟩
          case measure => simp [intOf]; omega
        · have z1 : 0 ≤ z := by omega
          have z2 : decide (0 ≤ z) = true := decide_eq_true z1
          by_cases hz1 : z < (v.sn : Int)
          case neg =>
            have HNE : Hid ((xs.take (k + 1)).flatMap (folO N) = l) := Lib.hid (by rw [HNX.out]; unfold folO; rw [if_neg (by rw [HLS.out]; omega)]; simp)
            go_wp2
            go_quiet (fail)
            go_wp2
            go_roundw
            case rel => exact ⟨k + 1, by omega, by go_num, by rw [HNE.out]; exact ownB HOW.out (below_drewN wr nq), HBW.out.trans ((below_drewN wr nq).mono (by omega))⟩
            case measure => simp [intOf]; omega
          case pos =>
            obtain ⟨y, rfl⟩ : ∃ y : Nat, z = (y : Int) := ⟨z.toNat, by omega⟩
            have hyf : y < v.fn := by have := HFN.out; omega
            have hyf2 : (y : Int) < (v.fn : Int) := by omega
            obtain ⟨b3, off3, l3, ha3, hbl3, hl3, A3, cc3, d3, hr3⟩ := HVW.out.f.at_ (i := y) hyf
            have HNE : Hid ((xs.take (k + 1)).flatMap (folO N) = l ++ l3) := Lib.hid (by rw [HNX.out]; unfold folO; rw [if_pos (by rw [HLS.out]; omega), Int.toNat_natCast, hl3]; rfl)
            have HR3 := Lib.hid hr3
            have hl3b := HF.out l3 (List.mem_of_getElem? hl3)
            rw [ha3] at c3
            clear hr3 hl3 ha3
            go_wp2
            go_quiet (fail)
            go_wp2
            refine wp_region_fam_tail_lit (E := Onto) 9 2
              [isV (.slice A l.length cc),
               isV (.pointer (some ⟨g, 3, none⟩)),
               isV (.slice (some ⟨b3, off3, none⟩) v.fn v.fc),
               isV (.slice (some ⟨b1, off1, none⟩) n c),
               isV (.int .i64 (k : Int)),
               isV (.pointer (some ⟨b1, off1 + k, none⟩)),
               isV (.int .i64 (y : Int)),
               isV (.pointer (some ⟨b3, off3 + y, none⟩)),
               isV (.slice A3 l3.length cc3)]
              [some 35, some 36, some 37, some 38, some 39, some 40, some 41, some 42, some 43] #[true, true, true, true, true, true, true, true, true, false, false] (by kernel_rfl) rfl (by kernel_rfl) (by kernel_rfl) rfl rfl rfl Onto.trans Onto.refl ?monoN ?obN ?qN
            case monoN => exact ⟨isV_mono _ _, isV_mono _ _, isV_mono _ _, isV_mono _ _, isV_mono _ _, isV_mono _ _, isV_mono _ _, isV_mono _ _, isV_mono _ _, trivial⟩
            case obN =>
              refine Obs.cons (j := 1) rfl ?_ ?_
              · refine Ob.free [(7, none)] (by kernel_rfl) (isV (.slice A l.length cc)) rfl rfl (fun a X hE hL => ?_)
                simp [Seen, slotAt] at hL
                have h7 := hL
                rw [relAt_eq]
                go_simp
                exact ⟨Onto.refl _, rfl⟩
              refine Obs.cons (j := 2) rfl ?_ ?_
              · refine Ob.free [(3, none)] (by kernel_rfl) (isV (.pointer (some ⟨g, 3, none⟩))) rfl rfl (fun a X hE hL => ?_)
                simp [Seen, slotAt] at hL
                have h3 := hL
                rw [relAt_eq]
                go_simp
                exact ⟨Onto.refl _, rfl⟩
              refine Obs.cons (j := 3) rfl ?_ ?_
              · refine Ob.free [(36, some 1)] (by kernel_rfl) (isV (.slice (some ⟨b3, off3, none⟩) v.fn v.fc)) rfl rfl (fun a X hE hL => ?_)
                simp [Seen, slotAt, famV, isV] at hL
                have h36 := hL
                rw [relAt_eq]
                have f0 := keeps hE _ _ c3
                go_simp
                exact ⟨Onto.refl _, rfl⟩
              refine Obs.cons (j := 4) rfl ?_ ?_
              · refine Ob.free [(1, none)] (by kernel_rfl) (isV (.slice (some ⟨b1, off1, none⟩) n c)) rfl rfl (fun a X hE hL => ?_)
                simp [Seen, slotAt] at hL
                have h1 := hL
                rw [relAt_eq]
                go_simp
                exact ⟨Onto.refl _, rfl⟩
              refine Obs.cons (j := 5) rfl ?_ ?_
              · refine Ob.free [(8, none)] (by kernel_rfl) (isV (.int .i64 (k : Int))) rfl rfl (fun a X hE hL => ?_)
                simp [Seen, slotAt] at hL
                have h8 := hL
                rw [relAt_eq]
                go_simp
                exact ⟨Onto.refl _, rfl⟩
              refine Obs.cons (j := 6) rfl ?_ ?_
              · refine Ob.free [(38, some 3), (39, some 4)] (by kernel_rfl) (isV (.pointer (some ⟨b1, off1 + k, none⟩))) rfl rfl (fun a X hE hL => ?_)
                simp [Seen, slotAt, famV, isV] at hL
                obtain ⟨h38, h39⟩ := hL
                rw [relAt_eq]
                go_simp
                exact ⟨Onto.refl _, rfl⟩
              refine Obs.cons (j := 7) rfl ?_ ?_
              · refine Ob.free [(40, some 5)] (by kernel_rfl) (isV (.int .i64 (y : Int))) rfl rfl (fun a X hE hL => ?_)
                simp [Seen, slotAt, famV, isV] at hL
                have h40 := hL
                rw [relAt_eq]
                have f0 := keeps hE _ _ d1
                go_simp
                exact ⟨Onto.refl _, rfl⟩
              refine Obs.cons (j := 8) rfl ?_ ?_
              · refine Ob.free [(37, some 2), (41, some 6)] (by kernel_rfl) (isV (.pointer (some ⟨b3, off3 + y, none⟩))) rfl rfl (fun a X hE hL => ?_)
                simp [Seen, slotAt, famV, isV] at hL
                obtain ⟨h37, h41⟩ := hL
                rw [relAt_eq]
                go_simp
                exact ⟨Onto.refl _, rfl⟩
              refine Obs.cons (j := 9) rfl ?_ ?_
              · refine Ob.free [(42, some 7)] (by kernel_rfl) (isV (.slice A3 l3.length cc3)) rfl rfl (fun a X hE hL => ?_)
                simp [Seen, slotAt, famV, isV] at hL
                have h42 := hL
                rw [relAt_eq]
                have f0 := keeps hE _ _ d3
                go_simp
                exact ⟨Onto.refl _, rfl⟩
              exact trivial
            case qN =>
              intro x wN hE hV
              simp [AllV, famV, isV] at hV
              obtain ⟨h35, -, -, -, -, -, -, -, h43⟩ := hV
              simp only [puts, Act.put, List.setIfInBounds_toArray, List.set_cons_zero, List.set_cons_succ, h35, h43]
              generalize x 36 = y36
              generalize x 37 = y37
              generalize x 38 = y38
              generalize x 39 = y39
              generalize x 40 = y40
              generalize x 41 = y41
              generalize x 42 = y42
              clear h35 h43
              have HON := Lib.hid (ownB HOW.out ((below_drewN wr nq).trans (onto_drew hE)))
              have HRN := Lib.hid (HR3.out.below ((below_drewN wr nq).trans (onto_drew hE)))
              have HBN := Lib.hid (HBW.out.trans (((below_drewN wr nq).trans (onto_drew hE)).mono (by omega)))
              have hgn : g + 1 ≤ wN.heap.size := by have := ((below_drewN wr nq).trans (onto_drew hE)).size; omega
              clear hE
              refine wpAny_ready (rs := [9]) (by kernel_rfl) (by simp) ?_
              refine AllReady.cons rfl (fun K hK => ?_) AllReady.nil
              rw [if_pos (by rfl)]
              refine wp_app_row (C := intC) (t := 23) (by decide) intC_len intC_one Try.underlying23 infoInt rfl _ _ _ rfl rfl HON.out rfl HRN.out (by unfold maxLen; have := HLE.out; omega) (by have := HLE.out; omega) hgn ?_
              intro v2 wA hownA hgrowA hatA
              refine hK _ _ ?_
              clear hK K
              try simp only [Act.put, List.getElem_toArray, List.getElem_cons_succ, List.getElem_cons_zero, List.setIfInBounds_toArray, List.set_cons_zero, List.set_cons_succ]
              refine wpAny_take (i := 10) (v := v2) rfl (by kernel_rfl) (by kernel_rfl) (by kernel_rfl) (fun _ _ _ h => h) (Or.inl ⟨by rfl, fun X => ?_⟩) ?_
              · go_simp
              try simp only [Act.put, List.getElem_toArray, List.getElem_cons_succ, List.getElem_cons_zero, List.setIfInBounds_toArray, List.set_cons_zero, List.set_cons_succ]
              refine wpAny_done (by kernel_rfl) ?_ _
              have HBA := Lib.hid (below_grown (HBN.out) (by omega) hgrowA (fun j hj => (own_ge HON.out hj).1))
              have HOA := Lib.hid hownA
              have HOF := Lib.hid (own_form hownA)
              clear hownA hgrowA hatA
              obtain ⟨A2, cc2, rfl, hle2, hcc2⟩ := HOF.out
              clear HOF
              go_wp2
              have HLN : Hid ((l ++ l3).length = l.length + l3.length) := Lib.hid (by simp)
              go_roundw
              case rel => exact ⟨k + 1, by omega, by go_num, by rw [HNE.out, HLN.out]; exact HOA.out, HBA.out⟩
              case measure => simp [intOf]; omega
      · have hk2 : k = n := by omega
        have HK : Hid ((xs.take k).flatMap (folO N) = xs.flatMap (folO N)) := Lib.hid (by rw [List.take_of_length_le (by rw [hl1.out]; omega)])
        rw [HK.out] at HOW HLE hle ⊢
        have HWT := Lib.hid (rwith_any wr v N A _ cc _ b hb HVW.out (own_row intC_len HOW.out) hs)
        obtain ⟨l, hl⟩ : ∃ l, xs.flatMap (folO N) = l := ⟨_, rfl⟩
        rw [hl] at HOW HWT HE hle ⊢
        clear hl
        have z1 : ¬ (k : Int) < (n : Int) := by omega
        clear hk2
        go_wp2_with fail
        refine HWT.out.mono ?_
        rintro e w3 ⟨A3, cc3, rfl, ho3, hb3⟩
        have HO3 := Lib.hid ho3
        have HB3 := Lib.hid (HBTW.out.trans (hb3.mono (by omega)))
        clear ho3 hb3
        go_wp2
        go_ret
        rw [HE.out]
        exact Giv.mk rfl (own_mono HO3.out (by rw [HG.out]; omega)) (by rw [HG.out]; exact HB3.out)
end Go.Proofs.Ytmkgipoljbiocaa
/- Expressions: is it one, where parts begin, the empty word; the document's. -/
namespace Go.Proofs.Ytmkgipoljbiocaa
open Go.RowKit
set_option linter.unusedVariables false

attribute [local go_sem ↓] eqS_eq eqS_eq'
def ofZ (k : Int) : Int := if okK k = true then (nP k : Int) else -1
theorem CRow.kind {w : World} {a : Option Addr} {n : Nat} {xs : List Rx} (h : CRow rxC 5 w a n xs) {k : Nat} (hk : k < n) : ∃ b off r, a = some ⟨b, off, none⟩ ∧ b < w.heap.size ∧ xs[k]? = some r ∧ w.cell? ⟨b, off + k * 5, none⟩ = some (.int .i64 r.k) ∧
    w.cell? ⟨b, off + k * 5 + 1, none⟩ = some (.int .u64 (wd r.s 0)) ∧ w.cell? ⟨b, off + k * 5 + 2, none⟩ = some (.int .u64 (wd r.s 1)) ∧ w.cell? ⟨b, off + k * 5 + 3, none⟩ = some (.int .u64 (wd r.s 2)) ∧ w.cell? ⟨b, off + k * 5 + 4, none⟩ = some (.int .u64 (wd r.s 3)) := by
  obtain ⟨b, off, z, ha, hb, hz, hc⟩ := h.at_ hk
  exact ⟨b, off, z, ha, hb, hz, hc 0 _ rfl, hc 1 _ rfl, hc 2 _ rfl, hc 3 _ rfl, hc 4 _ rfl⟩
theorem rof_any (k : Int) (w : World) : Calls Try.prog 71 #[.int .i64 k] w fun e w' => e = .returned (.int .i64 (ofZ k)) ∧ w = w' := by
  by_cases h1 : k = 1
  · subst h1
    go_enter Try.func71, Try.ntmps71
    go_wp2
    go_ret
    exact ⟨rfl, rfl⟩
  by_cases h2 : k = 2
  · subst h2
    go_enter Try.func71, Try.ntmps71
    go_wp2
    go_ret
    exact ⟨rfl, rfl⟩
  by_cases h3 : k = 3
  · subst h3
    go_enter Try.func71, Try.ntmps71
    go_wp2
    go_ret
    exact ⟨rfl, rfl⟩
  by_cases h4 : k = 4
  · subst h4
    go_enter Try.func71, Try.ntmps71
    go_wp2
    go_ret
    exact ⟨rfl, rfl⟩
  by_cases h5 : k = 5
  · subst h5
    go_enter Try.func71, Try.ntmps71
    go_wp2
    go_ret
    exact ⟨rfl, rfl⟩
  by_cases h6 : k = 6
  · subst h6
    go_enter Try.func71, Try.ntmps71
    go_wp2
    go_ret
    exact ⟨rfl, rfl⟩
  by_cases h7 : k = 7
  · subst h7
    go_enter Try.func71, Try.ntmps71
    go_wp2
    go_ret
    exact ⟨rfl, rfl⟩
  have HE : Hid (ofZ k = -1) := Lib.hid (by unfold ofZ okK; simp [h1, h2, h3, h4, h5, h6, h7])
  have e1 : (k == 1) = false := by simpa using h1
  have e2 : (k == 2) = false := by simpa using h2
  have e3 : (k == 3) = false := by simpa using h3
  have e4 : (k == 4) = false := by simpa using h4
  have e5 : (k == 5) = false := by simpa using h5
  have e6 : (k == 6) = false := by simpa using h6
  have e7 : (k == 7) = false := by simpa using h7
  clear h1 h2 h3 h4 h5 h6 h7
  go_enter Try.func71, Try.ntmps71
  go_wp2
  go_ret
  exact ⟨ret_int HE.out.symm, rfl⟩
theorem wk_fst (l : List Rx) : ∀ p m m', (wk l p m).1 = (wk l p m').1 ∧ (wk l p m).2.2 = (wk l p m').2.2 := by
  induction l with
  | nil => intro p m m'; exact ⟨rfl, rfl⟩
  | cons r l ih =>
    intro p m m'
    rw [wk, wk]
    by_cases h1 : badR r = true
    · rw [if_pos h1, if_pos h1]; exact ⟨rfl, rfl⟩
    · rw [if_neg h1, if_neg h1]
      by_cases h2 : p < nP r.k
      · rw [if_pos h2, if_pos h2]; exact ⟨rfl, rfl⟩
      · rw [if_neg h2, if_neg h2]; exact ih _ _ _
set_option maxHeartbeats 2000000 in
set_option maxRecDepth 100000 in
theorem rcheck_any (w : World) (a : Option Addr) (n c : Nat) (rs : List Rx) (h : CRow rxC 5 w a n rs) :
    Calls Try.prog 60 #[.slice a n c] w fun e w' => e = .returned (.int .i64 (chkR rs : Nat)) ∧ w = w' := by
  have HL := Lib.hid h.1
  have hl2 := h.2.1
  have HH := Lib.hid h
  obtain ⟨r, hr⟩ : ∃ r, chkR rs = r := ⟨_, rfl⟩
  have HR := Lib.hid hr
  rw [hr]
  clear h hr
  by_cases hbig : 512 < n
  · have HE : Hid (r = 4) := Lib.hid (by
      have hw : walkR rs = (0, 0, 4) := by unfold walkR; rw [if_pos (by rw [HL.out]; exact hbig)]
      rw [← HR.out]; unfold chkR; rw [hw]; rfl)
    have z1 : (512 : Int) < (n : Int) := by omega
    clear hbig
    go_enter Try.func60, Try.ntmps60
    go_wp2
    go_ret
    exact ⟨ret_int (by rw [HE.out]; rfl), rfl⟩
  have HE : Hid (r = if (wk rs 0 0).2.2 = 0 ∧ (wk rs 0 0).1 ≠ 1 then 3 else (wk rs 0 0).2.2) := Lib.hid (by
    have hw : walkR rs = wk rs 0 0 := by unfold walkR; rw [if_neg (by rw [HL.out]; exact hbig)]
    rw [← HR.out]; unfold chkR; rw [hw])
  have z1 : ¬ (512 : Int) < (n : Int) := by omega
  go_enter Try.func60, Try.ntmps60
  go_wp2
  go_loop [3, 4] (fun u i => ∃ k p : Nat, k ≤ n ∧ p ≤ k ∧ i = .int .i64 (k : Int) ∧ u = .int .i64 (p : Int) ∧ wk rs 0 0 = ((wk (rs.drop k) p 0).1, (wk rs 0 0).2.1, (wk (rs.drop k) p 0).2.2)) (fun _ i => n - (intOf i).toNat)
  case atStart => exact ⟨0, 0, by omega, by omega, rfl, rfl, rfl⟩
  case round =>
    obtain ⟨k, p, hk, hp, rfl, rfl, hw⟩ := hrel
    have HW := Lib.hid hw
    clear hw
    by_cases hlt : k < n
    case neg =>
      have hk2 : k = n := by omega
      have HD : Hid (rs.drop k = []) := Lib.hid (List.drop_eq_nil_of_le (by rw [HL.out]; omega))
      have HF : Hid (r = if p ≠ 1 then 3 else 0) := Lib.hid (by
        rw [HE.out]
        have h1 := HW.out
        rw [HD.out] at h1
        simp only [wk] at h1
        rw [h1]; simp)
      have z2 : ¬ (k : Int) < (n : Int) := by omega
      clear hk2
      by_cases hp1 : p = 1
      · have HG : Hid (r = 0) := Lib.hid (by rw [HF.out, hp1]; rfl)
        have e1 : ((p : Int) != 1) = false := by rw [hp1]; rfl
        clear hp1
        go_wp2
        go_ret
        exact ⟨ret_int (by rw [HG.out]; rfl), rfl⟩
      · have HG : Hid (r = 3) := Lib.hid (by rw [HF.out, if_pos hp1])
        have e1 : ((p : Int) != 1) = true := by rw [bne_iff_ne]; omega
        clear hp1
        go_wp2
        go_ret
        exact ⟨ret_int (by rw [HG.out]; rfl), rfl⟩
    case pos =>
      have z2 : (k : Int) < (n : Int) := by omega
      have z3 : (0 : Int) ≤ (k : Int) := by omega
      obtain ⟨b, off, x, rfl, hb, hx, c0, c1, c2, c3, c4⟩ := HH.out.kind hlt
      have HD := Lib.hid (drop_at hx)
      have HOF := Lib.hid fun w => rof_any x.k w
      have hwr : wk (rs.drop k) p 0 = if badR x = true then (0, 0, 1) else if p < nP x.k then (0, 0, 3) else wk (rs.drop (k + 1)) (p + 1 - nP x.k) (max 0 (p + 1 - nP x.k)) := by rw [HD.out, wk]
      have HWR := Lib.hid hwr
      clear hx hwr
      by_cases hok : okK x.k = true
      case neg =>
        have hof : ofZ x.k = -1 := by unfold ofZ; rw [if_neg hok]
        rw [hof] at HOF
        have HG : Hid (r = 1) := Lib.hid (by
          have hbd : badR x = true := by unfold badR; simp [Bool.eq_false_iff.2 hok]
          have h1 := HW.out
          rw [HWR.out, if_pos hbd] at h1
          rw [HE.out, h1]; rfl)
        clear hof hok
        go_wp2_with (go_at_call 71; refine (HOF.out _).mono ?_; rintro e w' ⟨rfl, rfl⟩)
        go_ret
        exact ⟨ret_int (by rw [HG.out]; rfl), rfl⟩
      case pos =>
        have hof : ofZ x.k = (nP x.k : Int) := by unfold ofZ; rw [if_pos hok]
        rw [hof] at HOF
        have hnp := nP_le x.k
        obtain ⟨q, hq⟩ : ∃ q, nP x.k = q := ⟨_, rfl⟩
        rw [hq] at HOF HWR hnp
        by_cases hbd : badR x = true
        · have hb2 : x.k ≠ 1 ∧ zS x.s = false := by unfold badR at hbd; simp [hok] at hbd; exact hbd
          have HG : Hid (r = 1) := Lib.hid (by
            have h1 := HW.out
            rw [HWR.out, if_pos hbd] at h1
            rw [HE.out, h1]; rfl)
          have hz := hb2.2
          unfold zS at hz
          have heq : ∀ w, (eqS (.agg #[.int .u64 (wd x.s 0), .int .u64 (wd x.s 1), .int .u64 (wd x.s 2), .int .u64 (wd x.s 3)]) (.agg #[.int .u64 0, .int .u64 0, .int .u64 0, .int .u64 0])).run Try.prog w = .ok false w := fun w => by rw [run_eqS, hz]
          clear hz
          have e1 : (x.k != 1) = true := by rw [bne_iff_ne]; exact hb2.1
          clear hof hok hbd hb2 hq
          go_wp2_with (go_at_call 71; refine (HOF.out _).mono ?_; rintro e w' ⟨rfl, rfl⟩)
          go_ret
          exact ⟨ret_int (by rw [HG.out]; rfl), rfl⟩
        · have hz : (x.k != 1) = false ∨ ((x.k != 1) = true ∧ zS x.s = true) := by
            unfold badR at hbd
            simp only [hok, Bool.not_true, Bool.false_or, Bool.and_eq_true, Bool.not_eq_true', not_and, Bool.not_eq_false] at hbd
            cases h : (x.k != 1) with
            | false => exact .inl rfl
            | true => exact .inr ⟨rfl, hbd h⟩
          have HBD := Lib.hid hbd
          have heq : zS x.s = true → ∀ w, (eqS (.agg #[.int .u64 (wd x.s 0), .int .u64 (wd x.s 1), .int .u64 (wd x.s 2), .int .u64 (wd x.s 3)]) (.agg #[.int .u64 0, .int .u64 0, .int .u64 0, .int .u64 0])).run Try.prog w = .ok true w := fun h w => by unfold zS at h; rw [run_eqS, h]
          have HEQ := Lib.hid heq
          clear hbd hof hok hq heq
          by_cases hpq : p < q
          · have HG : Hid (r = 3) := Lib.hid (by
              have h1 := HW.out
              rw [HWR.out, if_neg HBD.out, if_pos hpq] at h1
              rw [HE.out, h1]; rfl)
            have z4 : (p : Int) < (q : Int) := by omega
            clear hpq
            rcases hz with e1 | ⟨e1, e2⟩
            all_goals
              try have heq := HEQ.out e2
              try clear e2
              go_wp2_with (go_at_call 71; refine (HOF.out _).mono ?_; rintro e w' ⟨rfl, rfl⟩)
              go_ret
              exact ⟨ret_int (by rw [HG.out]; rfl), rfl⟩
          · have HNX : Hid (wk rs 0 0 = ((wk (rs.drop (k + 1)) (p + 1 - q) 0).1, (wk rs 0 0).2.1, (wk (rs.drop (k + 1)) (p + 1 - q) 0).2.2)) := Lib.hid (by
              have h1 := HW.out
              rw [HWR.out, if_neg HBD.out, if_neg hpq] at h1
              obtain ⟨f1, f2⟩ := wk_fst (rs.drop (k + 1)) (p + 1 - q) (max 0 (p + 1 - q)) 0
              rw [f1, f2] at h1
              exact h1)
            have z4 : ¬ (p : Int) < (q : Int) := by omega
            have z5 : (p : Int) - (q : Int) + 1 = ((p + 1 - q : Nat) : Int) := by omega
            rcases hz with e1 | ⟨e1, e2⟩
            all_goals
              try have heq := HEQ.out e2
              try clear e2
              clear hpq z5
              go_wp2_with (go_at_call 71; refine (HOF.out _).mono ?_; rintro e w' ⟨rfl, rfl⟩)
              go_round
              case rel => exact ⟨k + 1, p + 1 - q, by omega, by omega, by go_num, by refine congrArg (Value.int .i64) ?_; omega, HNX.out⟩
              case measure => simp [intOf]; omega
/-- Where a part begins. -/
theorem begin_step (w : World) (a : Option Addr) (n c : Nat) (l : List Rx) (h : CRow rxC 5 w a n l) (i q : Nat) (x : Rx) (hi : l[i]? = some x) (hq : ofZ x.k = (q : Int)) (hq2 : q ≤ 2) (f : Nat → Nat) (h0 : f 0 = i) (hpos : ∀ k, k < q → 1 ≤ f k)
    (H : ∀ k, k < q → Calls Try.prog 73 #[.slice a n c, .int .i64 ((f k : Int) - 1)] w fun e w' => e = .returned (.int .i64 (f (k + 1) : Nat)) ∧ w = w') (hfb : ∀ k, f k ≤ 1000000) :
    Calls Try.prog 73 #[.slice a n c, .int .i64 (i : Int)] w fun e w' => e = .returned (.int .i64 (f q : Nat)) ∧ w = w' := by
  have hl2 := h.2.1
  have hin : i < n := by rw [← h.1]; exact (List.getElem?_eq_some_iff.1 hi).1
  have HOF := Lib.hid fun w => rof_any x.k w
  rw [hq] at HOF
  obtain ⟨b, off, x', rfl, hb, hx, c0, c1, c2, c3, c4⟩ := h.kind hin
  rw [hi] at hx
  obtain rfl := Option.some.inj hx
  have HC := Lib.hid H
  have HP := Lib.hid hpos
  have HFB := Lib.hid hfb
  have H0 := Lib.hid h0
  have z0 : (0 : Int) ≤ (i : Int) := by omega
  have z1 : (i : Int) < (n : Int) := by omega
  have z2 : decide ((i : Int) < 0) = false := decide_eq_false (by omega)
  have z3 : decide (n ≤ i) = false := decide_eq_false (by omega)
  clear h hi hx H hpos hq h0 hfb
  go_enter Try.func73, Try.ntmps73
  go_wp2_with (go_at_call 71; refine (HOF.out _).mono ?_; rintro e w' ⟨rfl, rfl⟩)
  go_loop [6, 7] (fun u i => ∃ k : Nat, k ≤ q ∧ i = .int .i64 (k : Int) ∧ u = .int .i64 (f k : Nat)) (fun _ i => q - (intOf i).toNat)
  case atStart => exact ⟨0, by omega, rfl, by rw [H0.out]⟩
  case round =>
    obtain ⟨k, hk, rfl, rfl⟩ := hrel
    by_cases hlt : k < q
    · have HCK := Lib.hid (HC.out k hlt)
      have hpk := HP.out k hlt
      have hb1 := HFB.out k
      obtain ⟨y, hy⟩ : ∃ y, f k = y := ⟨_, rfl⟩
      obtain ⟨y2, hy2⟩ : ∃ y, f (k + 1) = y := ⟨_, rfl⟩
      rw [hy] at HCK hpk hb1 ⊢
      rw [hy2] at HCK
      have HY2 := Lib.hid hy2
      clear hy hy2
      go_wp2_with fail
      refine HCK.out.mono ?_
      rintro e w' ⟨rfl, rfl⟩
      go_wp2_with fail
      go_round
      case rel => exact ⟨k + 1, by omega, by go_num, by rw [HY2.out]⟩
      case measure => simp [intOf]; omega
    · have hk2 : k = q := by omega
      subst hk2
      obtain ⟨y, hy⟩ : ∃ y, f k = y := ⟨_, rfl⟩
      have HY := Lib.hid hy
      rw [hy]
      clear hy HC HP HFB H0
      go_wp2_with fail
      go_ret
      exact ⟨ret_int (by rw [HY.out]), rfl⟩
theorem rbegin_any (w : World) (a : Option Addr) (n c : Nat) (l : List Rx) (h : CRow rxC 5 w a n l) (hn : n ≤ 100000) : ∀ (T : RxT) (i base : Nat), PartAt l i base T →
    Calls Try.prog 73 #[.slice a n c, .int .i64 (i : Int)] w fun e w' => e = .returned (.int .i64 ((i + 1 - (post T).length : Nat) : Int)) ∧ w = w' := by
  have hb : ∀ {i base : Nat} {T : RxT}, PartAt l i base T → i < n := fun hp => by rw [← h.1]; exact hp.lt
  have one : ∀ (T a' : RxT) (k : Int), post T = post a' ++ [stp0 k] → topK T = k → ofZ k = 1 → (∀ (i base : Nat), PartAt l i base a' → Calls Try.prog 73 #[.slice a n c, .int .i64 (i : Int)] w fun e w' => e = .returned (.int .i64 ((i + 1 - (post a').length : Nat) : Int)) ∧ w = w') → ∀ (i base : Nat), PartAt l i base T →
      Calls Try.prog 73 #[.slice a n c, .int .i64 (i : Int)] w fun e w' => e = .returned (.int .i64 ((i + 1 - (post T).length : Nat) : Int)) ∧ w = w' := by
    intro T a' k hT hk ho ih i base hp
    obtain ⟨h1, hpa⟩ := hp.last1 hT
    obtain ⟨x, hx, hxk⟩ := hp.kind
    have hlt := hb hp
    have := begin_step w a n c l h i 1 x hx (by rw [hxk, hk, ho]; rfl) (by omega) (fun j => if j = 0 then i else i - 1 + 1 - (post a').length) rfl (fun j hj => by
      obtain rfl : j = 0 := by omega
      exact h1) (fun j hj => by
      obtain rfl : j = 0 := by omega
      have := ih (i - 1) base hpa
      simp only [if_true, Nat.zero_add, if_neg (by decide : ¬ 1 = 0)]
      rwa [show ((i : Int) - 1) = ((i - 1 : Nat) : Int) by omega]) (fun j => by split <;> omega)
    simp only [if_neg (by decide : ¬ 1 = 0)] at this
    rw [hT]
    simp only [List.length_append, List.length_singleton]
    rwa [show i + 1 - ((post a').length + 1) = i - 1 + 1 - (post a').length by omega]
  have two : ∀ (T a' b' : RxT) (k : Int), post T = post a' ++ (post b' ++ [stp0 k]) → topK T = k → ofZ k = 2 → (∀ (i base : Nat), PartAt l i base a' → Calls Try.prog 73 #[.slice a n c, .int .i64 (i : Int)] w fun e w' => e = .returned (.int .i64 ((i + 1 - (post a').length : Nat) : Int)) ∧ w = w') →
      (∀ (i base : Nat), PartAt l i base b' → Calls Try.prog 73 #[.slice a n c, .int .i64 (i : Int)] w fun e w' => e = .returned (.int .i64 ((i + 1 - (post b').length : Nat) : Int)) ∧ w = w') → ∀ (i base : Nat), PartAt l i base T →
      Calls Try.prog 73 #[.slice a n c, .int .i64 (i : Int)] w fun e w' => e = .returned (.int .i64 ((i + 1 - (post T).length : Nat) : Int)) ∧ w = w' := by
    intro T a' b' k hT hk ho iha ihb i base hp
    obtain ⟨h1, hpb, h2, hpa⟩ := hp.last2 hT
    obtain ⟨x, hx, hxk⟩ := hp.kind
    have hlt := hb hp
    have hpb1 := post_pos b'
    have := begin_step w a n c l h i 2 x hx (by rw [hxk, hk, ho]; rfl) (by omega) (fun j => if j = 0 then i else if j = 1 then i - (post b').length else i - (post b').length - (post a').length) rfl (fun j hj => by
      have : j = 0 ∨ j = 1 := by omega
      rcases this with rfl | rfl
      · exact h1
      · show 1 ≤ i - (post b').length; omega) (fun j hj => by
      have : j = 0 ∨ j = 1 := by omega
      rcases this with rfl | rfl
      · have := ihb (i - 1) _ hpb
        simp only [if_true, Nat.zero_add, if_neg (by decide : ¬ 1 = 0)]
        rw [show i - 1 + 1 - (post b').length = i - (post b').length by omega] at this
        rwa [show ((i : Int) - 1) = ((i - 1 : Nat) : Int) by omega]
      · have := iha (i - (post b').length - 1) _ hpa
        simp only [if_neg (by decide : ¬ 1 = 0), if_true, Nat.reduceAdd, if_neg (by decide : ¬ 2 = 0), if_neg (by decide : ¬ 2 = 1)]
        rw [show i - (post b').length - 1 + 1 - (post a').length = i - (post b').length - (post a').length by omega] at this
        rwa [show (((i - (post b').length : Nat) : Int) - 1) = ((i - (post b').length - 1 : Nat) : Int) by omega]) (fun j => by split; omega; split <;> omega)
    simp only [if_neg (by decide : ¬ 2 = 0), if_neg (by decide : ¬ 2 = 1)] at this
    rw [hT]
    simp only [List.length_append, List.length_singleton]
    rwa [show i + 1 - ((post a').length + ((post b').length + 1)) = i - (post b').length - (post a').length by omega]
  have none_ : ∀ (T : RxT), (post T).length = 1 → ofZ (topK T) = 0 → ∀ (i base : Nat), PartAt l i base T → Calls Try.prog 73 #[.slice a n c, .int .i64 (i : Int)] w fun e w' => e = .returned (.int .i64 ((i + 1 - (post T).length : Nat) : Int)) ∧ w = w' := by
    intro T hl ho i base hp
    obtain ⟨x, hx, hxk⟩ := hp.kind
    have hlt := hb hp
    have := begin_step w a n c l h i 0 x hx (by rw [hxk, ho]; rfl) (by omega) (fun _ => i) rfl (fun j hj => by omega) (fun j hj => by omega) (fun j => by omega)
    rw [hl, show i + 1 - 1 = i by omega]; exact this
  intro T
  induction T with
  | set S => exact none_ _ rfl rfl
  | empty => exact none_ _ rfl rfl
  | cat x y ihx ihy => exact two _ x y 3 rfl rfl rfl ihx ihy
  | alt x y ihx ihy => exact two _ x y 4 rfl rfl rfl ihx ihy
  | star x ihx => exact one _ x 5 rfl rfl rfl ihx
  | plus x ihx => exact one _ x 6 rfl rfl rfl ihx
  | opt x ihx => exact one _ x 7 rfl rfl rfl ihx
end Go.Proofs.Ytmkgipoljbiocaa
