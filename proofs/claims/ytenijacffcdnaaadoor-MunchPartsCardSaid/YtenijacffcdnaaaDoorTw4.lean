/- Several texts in one: AppWp, RowsD, MunchJ, MunchI, MunchL, MunchC, MunchW, MunchB, Read1, RxOps, RxMake, RxMany, RxCat, Read2. -/
import Derived.Test.YtenijacffcdnaaaDoorTw1
import Derived.Test.YtenijacffcdnaaaDoorTw3
import Derived.RangeFuncNested
import Derived.RangeFuncBound
import Derived.RangeFuncCalls
import Derived.RangeFuncLeaves
import Derived.RangeFuncBox
import Derived.Shelf.Abstract
import Derived.Shelf.RegionOpen
import Derived.WalkKit
import Derived.OwnWalkIn
import Derived.TacticsInMore
import Derived.LoopNIn
import Derived.LoopIn
import Derived.Maps.AppendAt
import Derived.OwnWalk
import Derived.Lib.SliceRun
import Derived.Laws.ResultCell
/- append at one operation of a region that draws its order. -/
namespace Go.Proofs.YtenijacffcdnaaaDoor
open Go.RowKit
set_option linter.unusedVariables false

/-- A row of elements behind a row of the call's own. -/
theorem wp_app_row {P : Program} {α : Type} {C : α → List Value} {k bytes : Nat} {z : Value} {t e : TypeId} (hk0 : 0 < k) (hC : ∀ o, (C o).length = k) (hC1 : ∀ o, ∀ u ∈ C o, u.oneCell' = true) (ht : P.underlying t = some (.slice e))
    (hinfo : (P.info? e).map (fun i => (i.zero, i.size, i.bytes)) = some (some z, k, bytes)) (hzs : z.cells.size = k) (w : World) {o : Oper} {act : Act} {K : Act → World → Prop} {Q : Exit → Act → World → Prop} (s x : Operand)
    (ho : o.op = .call { callee := .builtin .append, args := #[s, x], argTypes := #[t, t] }) {base n : Nat} {v : Value} {xs : List α} (hs : act.eval s = v) (hown : w.ownsRow base e k v n (xs.flatMap C))
    {a : Option Addr} {m c : Nat} {os : List α} (hx : act.eval x = .slice a m c) (hr : CRow C k w a m os) (h63 : n + m ≤ maxLen) (hbytes : (n + m) * bytes ≤ 140737488355328) (hbase : base ≤ w.heap.size)
    (h : ∀ v' w', w'.ownsRow base e k v' (n + m) ((xs ++ os).flatMap C) → w.grownBy w' v.ownBlock → (v'.ownBlock = v.ownBlock ∨ v'.ownBlock = some w.heap.size) → K (act.put o.dst v') w') : o.wp P act w K Q := by
  obtain ⟨i, hi, hz, hsize, hby⟩ := info_parts hinfo
  obtain ⟨v', w', hrun, h2, h3, h4⟩ := run_append_row (P := P) w t o.type base e i z bytes ht hi hz hsize hby hzs hk0 hC hC1 v n (xs.flatMap C) hown a m c os hr h63 hbytes hbase
  unfold Oper.wp execOp
  simp only [ho, resolve, invoke, builtin, Sem.run_bind, Sem.run_pure, Result.andThen_ok, List.map_toArray, List.map_cons, List.map_nil, hs, hx, hrun]
  exact h v' w' (by rw [List.flatMap_append]; exact h2) h3 h4
/-- One element behind a row of the call's own: it lies in a block of its own. -/
theorem wp_app_el {P : Program} {α : Type} {C : α → List Value} {k bytes : Nat} {z : Value} {t e : TypeId} (hk0 : 0 < k) (hC : ∀ o, (C o).length = k) (hC1 : ∀ o, ∀ u ∈ C o, u.oneCell' = true) (ht : P.underlying t = some (.slice e))
    (hinfo : (P.info? e).map (fun i => (i.zero, i.size, i.bytes)) = some (some z, k, bytes)) (hzs : z.cells.size = k) (w : World) {o : Oper} {act : Act} {K : Act → World → Prop} {Q : Exit → Act → World → Prop} (s x : Operand)
    (ho : o.op = .call { callee := .builtin .append, args := #[s, x], argTypes := #[t, t] }) {base n : Nat} {v : Value} {xs : List α} (hs : act.eval s = v) (hown : w.ownsRow base e k v n (xs.flatMap C))
    {g : Nat} (y : α) (hx : act.eval x = .slice (some ⟨g, 0, none⟩) 1 1) (hg : w.heap[g]? = some (.cells (C y).toArray e (0, 0))) (h63 : n + 1 ≤ maxLen) (hbytes : (n + 1) * bytes ≤ 140737488355328) (hbase : base ≤ w.heap.size)
    (h : ∀ g' c' w', w'.ownsRow base e k (.slice (some ⟨g', 0, none⟩) (n + 1) c') (n + 1) ((xs ++ [y]).flatMap C) → w.grownBy w' v.ownBlock → (v.ownBlock = some g' ∨ g' = w.heap.size) → K (act.put o.dst (.slice (some ⟨g', 0, none⟩) (n + 1) c')) w') : o.wp P act w K Q := by
  obtain ⟨i, hi, hz, hsize, hby⟩ := info_parts hinfo
  exact wp_append_lies w s x t ho base e i z k bytes ht hi hz hsize hby hzs hk0 v n (xs.flatMap C) hs hown ⟨g, 0, none⟩ 1 1 (C y) hx (by rw [hC]; omega) (fun j u hu => World.news_of_block hg j u hu) (hC1 y) (by omega) h63 hbytes hbase w.heap.size rfl
    fun g' c' w' h1 h2 h3 _ => h g' c' w' (own_snoc' (o := y) h1) h2 h3
/-- The two at a step of a region that draws its order. -/
theorem step_app_el {P : Program} {α : Type} {C : α → List Value} {k bytes : Nat} {z : Value} {t e : TypeId} (hk0 : 0 < k) (hC : ∀ o, (C o).length = k) (hC1 : ∀ o, ∀ u ∈ C o, u.oneCell' = true) (ht : P.underlying t = some (.slice e))
    (hinfo : (P.info? e).map (fun i => (i.zero, i.size, i.bytes)) = some (some z, k, bytes)) (hzs : z.cells.size = k) (w : World) {ops : Array Oper} {o : Oper} {act : Act} {K : Act → World → Prop} {Q : Exit → Act → World → Prop} {E : Prop} (hgd : o.guard = none) (s x : Operand)
    (ho : o.op = .call { callee := .builtin .append, args := #[s, x], argTypes := #[t, t] }) {base n : Nat} {v : Value} {xs : List α} (hs : act.eval s = v) (hown : w.ownsRow base e k v n (xs.flatMap C))
    {g : Nat} (y : α) (hx : act.eval x = .slice (some ⟨g, 0, none⟩) 1 1) (hg : w.heap[g]? = some (.cells (C y).toArray e (0, 0))) (h63 : n + 1 ≤ maxLen) (hbytes : (n + 1) * bytes ≤ 140737488355328) (hbase : base ≤ w.heap.size)
    (h : ∀ g' c' w', w'.ownsRow base e k (.slice (some ⟨g', 0, none⟩) (n + 1) c') (n + 1) ((xs ++ [y]).flatMap C) → w.grownBy w' v.ownBlock → (v.ownBlock = some g' ∨ g' = w.heap.size) → K (act.put o.dst (.slice (some ⟨g', 0, none⟩) (n + 1) c')) w') :
    if Region.wanted o (yielded ops act.tmps) = true then o.wp P act w K Q else E := by
  have hw : Region.wanted o (yielded ops act.tmps) = true := by simp [Region.wanted, hgd]
  rw [if_pos hw]
  exact wp_app_el hk0 hC hC1 ht hinfo hzs w s x ho hs hown y hx hg h63 hbytes hbase h
theorem step_app_row {P : Program} {α : Type} {C : α → List Value} {k bytes : Nat} {z : Value} {t e : TypeId} (hk0 : 0 < k) (hC : ∀ o, (C o).length = k) (hC1 : ∀ o, ∀ u ∈ C o, u.oneCell' = true) (ht : P.underlying t = some (.slice e))
    (hinfo : (P.info? e).map (fun i => (i.zero, i.size, i.bytes)) = some (some z, k, bytes)) (hzs : z.cells.size = k) (w : World) {ops : Array Oper} {o : Oper} {act : Act} {K : Act → World → Prop} {Q : Exit → Act → World → Prop} {E : Prop} (hgd : o.guard = none) (s x : Operand)
    (ho : o.op = .call { callee := .builtin .append, args := #[s, x], argTypes := #[t, t] }) {base n : Nat} {v : Value} {xs : List α} (hs : act.eval s = v) (hown : w.ownsRow base e k v n (xs.flatMap C))
    {a : Option Addr} {m c : Nat} {os : List α} (hx : act.eval x = .slice a m c) (hr : CRow C k w a m os) (h63 : n + m ≤ maxLen) (hbytes : (n + m) * bytes ≤ 140737488355328) (hbase : base ≤ w.heap.size)
    (h : ∀ v' w', w'.ownsRow base e k v' (n + m) ((xs ++ os).flatMap C) → w.grownBy w' v.ownBlock → (v'.ownBlock = v.ownBlock ∨ v'.ownBlock = some w.heap.size) → K (act.put o.dst v') w') :
    if Region.wanted o (yielded ops act.tmps) = true then o.wp P act w K Q else E := by
  have hw : Region.wanted o (yielded ops act.tmps) = true := by simp [Region.wanted, hgd]
  rw [if_pos hw]
  exact wp_app_row hk0 hC hC1 ht hinfo hzs w s x ho hs hown hx hr h63 hbytes hbase h
end Go.Proofs.YtenijacffcdnaaaDoor
/- Several rows of the call's own, apart from one another; a box beside them. -/
namespace Go.Proofs.YtenijacffcdnaaaDoor
open Go.RowKit
set_option linter.unusedVariables false

/-- A row: its element's type, how many cells that has, the slice, how many elements, the cells. -/
structure RowD where
  e : TypeId
  k : Nat
  v : Value
  n : Nat
  xs : List Value
def RowD.at_ (r : RowD) (B : Nat) (w : World) : Prop := w.ownsRow B r.e r.k r.v r.n r.xs
/-- Rows that are apart. -/
structure RowsD (B : Nat) (w : World) (rs : List RowD) : Prop where
  own : ∀ r ∈ rs, r.at_ B w
  apart : ∀ (i j : Nat) (r s : RowD), rs[i]? = some r → rs[j]? = some s → i ≠ j → ∀ k, r.v.ownBlock = some k → s.v.ownBlock ≠ some k
theorem RowsD.below {B : Nat} {w w' : World} {rs : List RowD} (h : RowsD B w rs) (hb : Below w.heap.size w w') : RowsD B w' rs := ⟨fun r hr => ownB (h.own r hr) hb, h.apart⟩
theorem own_kept {w w' : World} {base : Nat} {e : TypeId} {size : Nat} {v : Value} {n : Nat} {xs : List Value} (h : w.ownsRow base e size v n xs) (hk : ∀ k, v.ownBlock = some k → w'.heap[k]? = w.heap[k]?) : w'.ownsRow base e size v n xs := by
  refine ⟨h.1, ?_⟩
  rcases h.2 with h2 | ⟨g, cap, cur, rfl, hbg, hg, r⟩
  · exact Or.inl h2
  · exact Or.inr ⟨g, cap, cur, rfl, hbg, (hk g rfl).trans hg, r⟩
/-- A store elsewhere. -/
theorem RowsD.kept {B : Nat} {w w' : World} {rs : List RowD} (h : RowsD B w rs) (hk : ∀ r ∈ rs, ∀ k, r.v.ownBlock = some k → w'.heap[k]? = w.heap[k]?) : RowsD B w' rs := ⟨fun r hr => own_kept (h.own r hr) (hk r hr), h.apart⟩
/-- A row grows. -/
theorem RowsD.grow {B : Nat} {w wa w' : World} {rs : List RowD} (h : RowsD B w rs) (hb : Below w.heap.size w wa) {i : Nat} {r r' : RowD} (hi : rs[i]? = some r) (hg : wa.grownBy w' r.v.ownBlock) (hr' : r'.at_ B w') (hv : r'.v.ownBlock = r.v.ownBlock ∨ ∃ b, r'.v.ownBlock = some b ∧ w.heap.size ≤ b) : RowsD B w' (rs.set i r') := by
  have hil : i < rs.length := (List.getElem?_eq_some_iff.1 hi).1
  have keep : ∀ (j : Nat) s, rs[j]? = some s → j ≠ i → s.at_ B w' := fun j s hj hne => by
    refine own_kept (h.own s (List.mem_of_getElem? hj)) fun k hk => ?_
    have hlt := ((h.own s (List.mem_of_getElem? hj)).lt k hk).2
    have h1 : wa.heap[k]? = w.heap[k]? := hb.block k hlt
    have h2 : w'.heap[k]? = wa.heap[k]? := hg.block k (by have := hb.size; omega) (fun e => h.apart j i s r hj hi hne k hk e.symm)
    exact h2.trans h1
  refine ⟨fun s hs => ?_, fun a b s t ha hb2 hne k hk => ?_⟩
  · obtain ⟨j, hj⟩ := List.getElem?_of_mem hs
    rw [List.getElem?_set] at hj
    by_cases hij : i = j
    · subst hij
      rw [if_pos rfl, if_pos hil] at hj
      obtain rfl := Option.some.inj hj
      exact hr'
    · rw [if_neg hij] at hj
      exact keep j s hj (fun e => hij e.symm)
  · rw [List.getElem?_set] at ha hb2
    by_cases h1 : i = a
    · subst h1
      rw [if_pos rfl, if_pos hil] at ha
      obtain rfl := Option.some.inj ha
      rw [if_neg hne] at hb2
      rcases hv with hv | ⟨z, hz, hz2⟩
      · rw [hv] at hk
        exact h.apart i b r t hi hb2 hne k hk
      · rw [hz] at hk
        obtain rfl := Option.some.inj hk
        intro e
        have := ((h.own t (List.mem_of_getElem? hb2)).lt z e).2
        omega
    · rw [if_neg h1] at ha
      by_cases h2 : i = b
      · subst h2
        rw [if_pos rfl, if_pos hil] at hb2
        obtain rfl := Option.some.inj hb2
        rcases hv with hv | ⟨z, hz, hz2⟩
        · rw [hv]; exact h.apart a i s r ha hi hne k hk
        · rw [hz]
          intro e
          obtain rfl := Option.some.inj e
          have := ((h.own s (List.mem_of_getElem? ha)).lt z hk).2
          omega
      · rw [if_neg h2] at hb2
        exact h.apart a b s t ha hb2 hne k hk
/-- A row more, made since. -/
theorem RowsD.add {B : Nat} {w w' : World} {rs : List RowD} (h : RowsD B w rs) (hb : Below w.heap.size w w') {r : RowD} (hr : w'.ownsRow w.heap.size r.e r.k r.v r.n r.xs) (hB : B ≤ w.heap.size) : RowsD B w' (rs ++ [r]) := by
  have h' := h.below hb
  have hlt : ∀ s ∈ rs, ∀ k, s.v.ownBlock = some k → k < w.heap.size := fun s hs k hk => ((h.own s hs).lt k hk).2
  have hge : ∀ k, r.v.ownBlock = some k → w.heap.size ≤ k := fun k hk => (hr.lt k hk).1
  refine ⟨fun s hs => ?_, fun a b s t ha hb2 hne k hk => ?_⟩
  · rcases List.mem_append.1 hs with hs | hs
    · exact h'.own s hs
    · rw [List.mem_singleton] at hs; subst hs; exact own_mono hr hB
  · have cas : ∀ (i : Nat) u, (rs ++ [r])[i]? = some u → (rs[i]? = some u ∧ i < rs.length) ∨ (i = rs.length ∧ u = r) := fun i u hu => by
      by_cases hi : i < rs.length
      · rw [List.getElem?_append_left hi] at hu; exact .inl ⟨hu, hi⟩
      · rw [List.getElem?_append_right (by omega)] at hu
        have h0 := (List.getElem?_eq_some_iff.1 hu).1
        simp at h0
        have : i - rs.length = 0 := by omega
        rw [this] at hu
        exact .inr ⟨by omega, by simpa using hu.symm⟩
    rcases cas a s ha with ⟨ha1, _⟩ | ⟨ha1, hs⟩
    · rcases cas b t hb2 with ⟨hb3, _⟩ | ⟨hb3, ht⟩
      · exact h.apart a b s t ha1 hb3 hne k hk
      · intro e
        have h1 := hlt s (List.mem_of_getElem? ha1) k hk
        have h2 := hge k (by rw [← ht]; exact e)
        omega
    · rcases cas b t hb2 with ⟨hb3, _⟩ | ⟨hb3, ht⟩
      · intro e
        have h1 := hlt t (List.mem_of_getElem? hb3) k e
        have h2 := hge k (by rw [← hs]; exact hk)
        omega
      · omega
theorem own_type {w : World} {base : Nat} {e : TypeId} {size : Nat} {v : Value} {n : Nat} {xs : List Value} (h : w.ownsRow base e size v n xs) {k : Nat} (hk : v.ownBlock = some k) : ∃ cur, w.heap[k]? = some (.cells cur e (0, 0)) := by
  rcases h.2 with ⟨rfl, _⟩ | ⟨g, cap, cur, rfl, hbg, hg, r⟩
  · simp [Value.ownBlock] at hk
  · have : g = k := by simpa [Value.ownBlock] using hk
    subst this; exact ⟨cur, hg⟩
/-- A box of another type is none of them. -/
theorem RowsD.box {B : Nat} {w : World} {rs : List RowD} (h : RowsD B w rs) {X : Nat} {cs : Array Value} {t : TypeId} (hx : w.heap[X]? = some (.cells cs t (0, 0))) (ht : ∀ r ∈ rs, r.e ≠ t) : ∀ r ∈ rs, r.v.ownBlock ≠ some X := fun r hr e => by
  obtain ⟨cur, hc⟩ := own_type (h.own r hr) e
  rw [hx] at hc
  have := Option.some.inj hc
  injection this with _ h2 _
  exact ht r hr h2.symm
end Go.Proofs.YtenijacffcdnaaaDoor
/- Pieces, joined: the document's; the program's. -/
namespace Go.Proofs.YtenijacffcdnaaaDoor
open Go.RowKit Go.Sort Go.PlainAid
set_option linter.unusedVariables false
set_option linter.unusedSimpArgs false

def joinL (ps : List Pc) : List UInt8 := ps.flatMap fun p => LS p.s
def joinB (ps : List Pc) : ByteArray := ⟨(joinL ps).toArray⟩
theorem LS_joinB (ps : List Pc) : LS (joinB ps) = joinL ps := rfl
theorem LS_inj {a b : ByteArray} (h : LS a = LS b) : a = b := by
  cases a; cases b
  unfold LS at h
  simp only at h
  rw [Array.toList_inj.1 h]
theorem joinL_take {ps : List Pc} {k : Nat} {p : Pc} (h : ps[k]? = some p) : joinL (ps.take (k + 1)) = joinL (ps.take k) ++ LS p.s := by
  unfold joinL; rw [List.take_add_one, h]; simp
theorem joinB_take {ps : List Pc} {k : Nat} {p : Pc} (h : ps[k]? = some p) : joinB (ps.take (k + 1)) = joinB (ps.take k) ++ p.s := by
  apply LS_inj
  rw [LS_joinB, joinL_take h]
  show _ = (joinB (ps.take k) ++ p.s).data.toList
  rw [ByteArray.data_append, Array.toList_append]; rfl
theorem joinL_le (ps : List Pc) (k : Nat) : (joinL (ps.take k)).length ≤ (joinL ps).length := by
  have h : joinL ps = joinL (ps.take k) ++ joinL (ps.drop k) := by unfold joinL; rw [← List.flatMap_append, List.take_append_drop]
  rw [h, List.length_append]; omega
set_option maxHeartbeats 800000 in
theorem rjoin_any (w : World) (a : Option Addr) (n c : Nat) (xs : List Pc) (ha : CRow pcC 2 w a n xs) (hs : (joinL xs).length ≤ 100000) :
    Calls Tryd.prog 15 #[.slice a n c] w fun e w' => e = .returned (.string (joinB xs)) ∧ Below w.heap.size w w' := by
  have HL := Lib.hid ha.1
  have hl2 := ha.2.1
  have HA := Lib.hid ha
  have HJ := Lib.hid fun k => joinL_le xs k
  clear ha
  go_enter Tryd.func15, Tryd.ntmps15
  go_wp2
  go_loopw [3, 4] (fun sv i wr => ∃ k q : Nat, k ≤ n ∧ i = .int .i64 k ∧ sv = .string (joinB (xs.take k)) ∧ wr = w.drewN q) (fun _ i _ => n - (intOf i).toNat)
  case atStart => exact ⟨0, 0, by omega, rfl, rfl, rfl⟩
  case round =>
    obtain ⟨k, dq, hk, rfl, rfl, hwr⟩ := hrel
    have HW := Lib.hid hwr
    by_cases hlt : k < n
    · obtain ⟨b1, o1, p, rfl, _, hp, hc1⟩ := HA.out.at_ hlt
      have c11 : wr.cell? ⟨b1, o1 + k * 2 + 1, none⟩ = some (.string p.s) := by subst hwr; exact hc1 1 _ rfl
      have h0 : (0 : Int) ≤ (k : Int) := by omega
      have h1 : (k : Int) < (n : Int) := by omega
      have HNX := Lib.hid (joinB_take hp)
      have z9 : ¬ 9223372036854775807 < (joinB (xs.take k)).size + p.s.size := by
        have e1 : (joinB (xs.take (k + 1))).size = (joinB (xs.take k)).size + p.s.size := by rw [joinB_take hp]; exact ByteArray.size_append
        have e2 : (joinB (xs.take (k + 1))).size = (joinL (xs.take (k + 1))).length := List.size_toArray
        have := HJ.out (k + 1)
        omega
      clear hwr hp hc1
      go_wp2
      go_roundw
      case rel => exact ⟨k + 1, dq, by omega, by go_num, by rw [HNX.out], HW.out⟩
      case measure => simp [intOf]; omega
    · have hk2 : k = n := by omega
      have HF : Hid (joinB (xs.take k) = joinB xs) := Lib.hid (by rw [List.take_of_length_le (by rw [HL.out]; omega)])
      rw [HF.out]
      have z1 : ¬ (k : Int) < (n : Int) := by omega
      clear hwr hk2
      go_wp2
      go_ret
      exact ⟨rfl, by rw [HW.out]; exact below_drewN w dq⟩
theorem IsB_kept {T e : TypeId} {B b : Nat} {bs : List Value} {w w' : World} (h : Lib.IsBuilder T e B b bs w) (hs : w.heap.size ≤ w'.heap.size) (hk : ∀ k, k < w.heap.size → w'.heap[k]? = w.heap[k]?) : Lib.IsBuilder T e B b bs w' := by
  have key : ∀ p, Lib.BuilderAt T e B b p bs w → Lib.BuilderAt T e B b p bs w' := fun p h => by
    have hlt := h.lt
    obtain ⟨hB, v, hbk, hown, hne⟩ := h
    exact ⟨hB, v, (hk b hlt).trans hbk, own_kept hown fun k e => hk k (hown.lt k e).2, hne⟩
  rcases h with h | h
  · exact .inl (key _ h)
  · exact .inr (key _ h)
set_option maxHeartbeats 1000000 in
set_option maxRecDepth 100000 in
theorem mjoin_any (w : World) (a : Option Addr) (n c : Nat) (xs : List Pc) (ha : CRow pcC 2 w a n xs) (hs : (joinL xs).length ≤ 100000) :
    Calls Tryd.prog 14 #[.slice a n c] w fun e w' => e = .returned (.string (joinB xs)) ∧ Below w.heap.size w w' := by
  have HL := Lib.hid ha.1
  have hl2 := ha.2.1
  have HA := Lib.hid ha
  have HJ := Lib.hid fun k => joinL_le xs k
  obtain ⟨g, hg⟩ : ∃ g, w.heap.size = g := ⟨_, rfl⟩
  have HG := Lib.hid hg
  have hfr := Lib.fresh_isBuilder 68 5 w
  have hb0 : Below g w (w.alloc (.cells #[.pointer none, .slice none 0 0] 68)) := by rw [← hg]; exact (Below.refl _ _).alloc (Nat.le_refl _) _
  obtain ⟨W1, hW1⟩ : ∃ W, W = w.alloc (.cells #[.pointer none, .slice none 0 0] 68) := ⟨_, rfl⟩
  rw [← hW1] at hfr hb0
  rw [hg] at hfr
  have HFR := Lib.hid hfr
  have HB0 := Lib.hid hb0
  have HW1 := Lib.hid hW1
  clear ha hW1 hfr hb0
  go_enter Tryd.func14, Tryd.ntmps14
  go_wp2
  rw [← HW1.out]
  clear hg
  go_loopw [5, 8] (fun bv i wr => ∃ k : Nat, k ≤ n ∧ i = .int .i64 k ∧ Lib.IsBuilder 68 5 g g (Lib.byteCells (joinL (xs.take k))) wr ∧ Below g w wr) (fun _ i _ => n - (intOf i).toNat)
  case atStart => exact ⟨0, by omega, rfl, HFR.out, HB0.out⟩
  case round =>
    obtain ⟨k, hk, rfl, hbu, hb⟩ := hrel
    have HBU := Lib.hid hbu
    have HB := Lib.hid hb
    have hgl : g + 1 ≤ wr.heap.size := by rcases hbu with h | h <;> exact h.lt
    clear hbu
    by_cases hlt : k < n
    · obtain ⟨b1, o1, p, rfl, _, hp, hc1⟩ := (HA.out.below (by rw [HG.out]; exact hb)).at_ hlt
      have c10 : wr.cell? ⟨b1, o1 + k * 2, none⟩ = some (.int .i64 p.t) := hc1 0 _ rfl
      have c11 : wr.cell? ⟨b1, o1 + k * 2 + 1, none⟩ = some (.string p.s) := hc1 1 _ rfl
      have h0 : (0 : Int) ≤ (k : Int) := by omega
      have h1 : (k : Int) < (n : Int) := by omega
      have hbx : Below g w (wr.alloc (.cells #[.int .i64 p.t, .string p.s] 33)) := hb.alloc (by omega) _
      have hwl := wstr_any g g (joinL (xs.take k)) (LS p.s) (wr.alloc (.cells #[.int .i64 p.t, .string p.s] 33)) (IsB_kept HBU.out (by simp) fun j hj => heap_alloc_old _ _ hj) (by have := HJ.out (k + 1); rw [joinL_take hp, List.length_append] at this; omega) (by simp; omega)
      have e9 : (⟨(LS p.s).toArray⟩ : ByteArray) = p.s := by
        show ByteArray.mk p.s.data.toList.toArray = p.s
        rw [Array.toArray_toList]
      rw [e9] at hwl
      have HWL := Lib.hid hwl
      have HBX := Lib.hid hbx
      have HNX := Lib.hid (joinL_take hp)
      obtain ⟨h', hh'⟩ : ∃ h', wr.heap.size = h' := ⟨_, rfl⟩
      have x0 : (wr.alloc (.cells #[.int .i64 p.t, .string p.s] 33)).cell? ⟨wr.heap.size, 1, none⟩ = some (.string p.s) := by rw [cell_of_row _ _ 1 _ _ _ (heap_alloc_new wr _)]; rfl
      rw [hh'] at x0
      clear hp hc1 hb hwl hbx e9
      go_wp2_with fail
      refine HWL.out.mono ?_
      rintro e w2 ⟨⟨v, rfl⟩, hbl, hb2⟩
      have HBL := Lib.hid hbl
      have HB2 := Lib.hid (HBX.out.trans hb2)
      clear hbl hb2
      go_wp2_with fail
      go_roundw
      case rel => exact ⟨k + 1, by omega, by go_num, by rw [HNX.out]; exact .inr HBL.out, HB2.out⟩
      case measure => simp [intOf]; omega
    · have hk2 : k = n := by omega
      have hst := Builder_String_any g g _ wr HBU.out (by omega)
      rw [List.take_of_length_le (by rw [HL.out]; omega)] at hst
      have HST := Lib.hid hst
      have z1 : ¬ (k : Int) < (n : Int) := by omega
      have HB' := Lib.hid hb
      clear hk2 hst hb
      go_wp2_with fail
      refine HST.out.mono ?_
      rintro e w2 ⟨rfl, hb2⟩
      have HB2 := Lib.hid (HB'.out.trans hb2)
      clear hb2
      go_wp2
      go_ret
      exact ⟨rfl, by first | exact HB2.out | (rw [HG.out]; exact HB2.out)⟩
end Go.Proofs.YtenijacffcdnaaaDoor
/- The iterator over a text's pieces. -/
namespace Go.Proofs.YtenijacffcdnaaaDoor
open Go.RowKit Go.Sort Go.PlainAid Go.Shelf
set_option linter.unusedVariables false
set_option linter.unusedSimpArgs false
attribute [local go_sem] Oper.semAt_some
attribute [local go_sem ↓] loadA_eq storeA_eq loadD_eq

theorem grown_none {a b : World} (h : Below a.heap.size a b) : a.grownBy b none := ⟨h.os, h.tape, h.output, h.size, fun k hk _ => h.block k hk⟩
/-- What a round that goes on keeps: what lay below; and the iterator's own marks. -/
def MK (W W' : World) : Prop := ∀ (k : Nat) (cs : Array Value), W.heap[k]? = some (Obj.cells cs 60 (0, 0)) → W'.heap[k]? = some (Obj.cells cs 60 (0, 0))
def KP (n₀ Bs Bd : Nat) (W W' : World) : Prop := Below n₀ W W' ∧ MK W W' ∧ W'.heap[Bs]? = W.heap[Bs]? ∧ W'.heap[Bd]? = W.heap[Bd]?
theorem MK.refl (W : World) : MK W W := fun _ _ h => h
theorem MK.trans {A B C : World} (h : MK A B) (k : MK B C) : MK A C := fun i cs hi => k i cs (h i cs hi)
theorem MK.alloc (W : World) (o : Obj) : MK W (W.alloc o) := fun k cs h => (Below.heap_alloc W o k (Array.getElem?_eq_some_iff.1 h).1).trans h
theorem MK.below {W W' : World} (h : Below W.heap.size W W') : MK W W' := fun k cs hk => (h.block k (Array.getElem?_eq_some_iff.1 hk).1).trans hk
theorem MK.grown {W W' : World} {row : Option Nat} (h : W.grownBy W' row) (hr : ∀ r, row = some r → ∀ cs : Array Value, W.heap[r]? ≠ some (Obj.cells cs 60 (0, 0))) : MK W W' := fun k cs hk =>
  (h.block k (Array.getElem?_eq_some_iff.1 hk).1 (fun e => hr k e.symm cs hk)).trans hk
theorem MK.setCell {W : World} {g j : Nat} (v : Value) (h : ∀ cs : Array Value, W.heap[g]? ≠ some (Obj.cells cs 60 (0, 0))) : MK W (W.setCell ⟨g, j, none⟩ v) := fun k cs hk =>
  (heap_setCell_other W ⟨g, j, none⟩ k v (fun e => h cs (by rw [← (show k = g from e)]; exact hk))).trans hk
theorem KP.t {n₀ Bs Bd : Nat} {A B C : World} (h : KP n₀ Bs Bd A B) (k : KP n₀ Bs Bd B C) : KP n₀ Bs Bd A C := ⟨h.1.trans k.1, h.2.1.trans k.2.1, k.2.2.1.trans h.2.2.1, k.2.2.2.trans h.2.2.2⟩
theorem KP.b {n₀ Bs Bd : Nat} {w : World} (hn : n₀ ≤ w.heap.size) (hs : Bs < w.heap.size) (hd : Bd < w.heap.size) (W : World) (l : Nat) (o o' : Obj) (hl : w.heap.size ≤ l) (h : W.heap[l]? = some o) (hc : o.isCells = false) (hw : o.isWalk = false) : KP n₀ Bs Bd W (W.putObj l o') :=
  ⟨belowK_b hn W l o o' hl h hc hw, fun k cs hk => by
    have hkl : k ≠ l := by
      rintro rfl
      rw [h] at hk
      obtain rfl := Option.some.inj hk
      cases hc
    exact (World.putObj_heap_other hkl).trans hk, World.putObj_heap_other (by omega), World.putObj_heap_other (by omega)⟩
def encP (p : Pc) : Array Value := #[.agg #[.int .i64 p.t, .string p.s]]
set_option maxRecDepth 100000 in
set_option maxHeartbeats 4000000 in
theorem pieces1_in (n : Nat) (hn : 1 ≤ n) (wA w0 : World) (D : Df) (M : MS) (s : ByteArray) (hv : MAt wA D M) (hC : ∀ i, i < 256 → M.cl i < 256) (hR : rightM M = true) (hN : NoneS wA) (hs : s.size ≤ 100000) (hA0 : Below wA.heap.size wA w0)
    (Bs Bd : Nat) (hBs : w0.heap[Bs]? = some (.cells #[.string s] 9 (0, 0))) (hBd : DfaAt w0 Bd D) (l : Nat) (J Jx : List Pc → World → Prop) (W : World) (hW : Below w0.heap.size w0 W) (hJ : AbidesFrom W.heap.size J)
    (hY : ∀ pre x W, J pre W → pre.length < s.size + 1 → YieldAt Fence.wide (n - 1) Tryd.prog l (encP x) W fun e W' => (e = .returned (.bool true) ∧ J (pre ++ [x]) W' ∧ KP wA.heap.size Bs Bd W W') ∨ (e = .returned (.bool false) ∧ Jx (pre ++ [x]) W'))
    (h0 : J [] W) :
    CallsIn Fence.wide n Tryd.prog 47 #[.func (.yield l) #[] #[], .pointer (some ⟨Bs, 0, none⟩), .pointer (some ⟨Bd, 0, none⟩)] W fun e W' => (∃ v, e = .returned v) ∧
      ((∃ ys, ys = pcsA M (LS s) 0 ∧ J ys W') ∨ (∃ pre, pre <+: pcsA M (LS s) 0 ∧ Jx pre W')) := by
  have HV := Lib.hid hv
  have HCC := Lib.hid hC
  have HR := Lib.hid hR
  have HN := Lib.hid hN
  have HBS := Lib.hid hBs
  have HBD := Lib.hid hBd
  have HJA := Lib.hid hJ
  have HY := Lib.hid hY
  have HW := Lib.hid hW
  have HJ0 := Lib.hid h0
  have hbsl : Bs < w0.heap.size := (Array.getElem?_eq_some_iff.1 hBs).1
  have hbdl := hBd.lt
  have HA0 := Lib.hid hA0
  obtain ⟨n₀, hn0⟩ : ∃ n₀, wA.heap.size = n₀ := ⟨_, rfl⟩
  have HN0 := Lib.hid hn0
  have hWB : Below n₀ wA W := by rw [← hn0]; exact hA0.trans (hW.mono hA0.size)
  have HWB := Lib.hid hWB
  clear hv hC hR hN hBs hBd hJ hY hW h0 hA0 hWB
  refine callsIn_of_wp Tryd.func47 rfl trivial ?_ rfl
  simp only [Tryd.ntmps47, List.size_toArray, List.length_cons, List.length_nil, Nat.reduceAdd, Nat.reduceSub, Array.replicate_succ, Array.replicate_zero, List.push_toArray, List.append_toArray, List.nil_append, List.cons_append]
  gi_wp2
  gi_loopw [4] (fun iv wr => ∃ (a : Nat) (pre : List Pc), a ≤ s.size ∧ iv = .int .i64 (a : Int) ∧ pre ++ pcsA M (LS s) a = pcsA M (LS s) 0 ∧ pre.length ≤ a ∧ J pre wr ∧ Below n₀ wA wr ∧ wr.heap[Bs]? = w0.heap[Bs]? ∧ wr.heap[Bd]? = w0.heap[Bd]?) (fun i _ => s.size - (intOf i).toNat)
  case atStart => exact ⟨0, [], by omega, rfl, rfl, by simp, HJ0.out, HWB.out, HW.out.block Bs hbsl, HW.out.block Bd hbdl⟩
  case round =>
    obtain ⟨a, pre, ha, rfl, hpa, hpl, hj, hb, hbs, hbd⟩ := hrel
    have HPA := Lib.hid hpa
    have HJJ := Lib.hid hj
    have HB := Lib.hid hb
    have hcs : wr.heap[Bs]? = some (.cells #[.string s] 9 (0, 0)) := hbs.trans HBS.out
    have cs : wr.cell? ⟨Bs, 0, none⟩ = some (.string s) := by rw [cell_of_row wr Bs 0 _ _ _ hcs]; rfl
    have hd : DfaAt wr Bd D := hbd.trans HBD.out
    have HBS1 := Lib.hid hbs
    have HBD1 := Lib.hid hbd
    have hbs1 : Bs < wr.heap.size := (Array.getElem?_eq_some_iff.1 hcs).1
    have hbd1 := hd.lt
    by_cases hlt : a < s.size
    case neg =>
      have HFN : Hid (pre = pcsA M (LS s) 0) := Lib.hid (by rw [← HPA.out, pcsA_end (by omega), List.append_nil])
      have z1 : ¬ (a : Int) < (s.size : Int) := by omega
      clear hpa hj hb hd hcs hbs hbd
      gi_wp2
      go_end0
      exact ⟨⟨_, rfl⟩, .inl (by rw [← HFN.out]; exact HJJ.out)⟩
    case pos =>
      have z0 : (0 : Int) ≤ (a : Int) := by omega
      have z1 : (a : Int) < (s.size : Int) := by omega
      have hbw : Below wA.heap.size wA wr := by rw [HN0.out]; exact hb
      have hmn := mnext_any wr D M s a (HV.out.below hbw) HCC.out HR.out (HN.out.below hbw) hlt hs
      have hend := nextM_end (M := M) (l := LS s) (a := a) (by rw [LS_len]; exact hlt)
      rw [LS_len] at hend
      have hstep := pcsA_step (M := M) (s := s) hlt
      obtain ⟨⟨t, e⟩, hte⟩ : ∃ p, nextM M (LS s) a = p := ⟨_, rfl⟩
      rw [hte] at hmn hend hstep
      simp only at hmn hend hstep
      have HMN := Lib.hid hmn
      have HST := Lib.hid hstep
      have hld := run_loadD wr Bd D hd
      obtain ⟨he1, he2⟩ := hend
      clear hpa hj hb hd hbw hmn hte hstep hcs hbs hbd
      gi_wp2_with (refine ⟨trivial, ?_⟩; gi_at_call 25; refine (callsIn_wide.2 HMN.out).mono ?_; rintro x w2 ⟨rfl, hb2⟩; have HB2 := Lib.hid hb2; clear hb2)
      have hww : Below wr.heap.size wr ((w2.alloc (.cells #[.int .i64 t, .int .i64 (e : Int)] 60)).drew) := (HB2.out.alloc HB2.out.size _).drew
      have hj3 := HJA.out _ _ _ none HJJ.out (grown_none hww) (fun r h => by cases h)
      obtain ⟨fn, tm, asg, bdy, hy, hR⟩ := HY.out pre ⟨t, s.extract a e⟩ _ hj3 (by omega)
      have hR1 := hR.mono (R' := fun x w4 => ∃ b : Bool, x = .returned (.bool b) ∧ ((b = true ∧ J (pre ++ [⟨t, s.extract a e⟩]) w4 ∧ KP n₀ Bs Bd ((w2.alloc (.cells #[.int .i64 t, .int .i64 (e : Int)] 60)).drew) w4) ∨ (b = false ∧ Jx (pre ++ [⟨t, s.extract a e⟩]) w4))) (by
        rintro x w4 (⟨rfl, h1, h2⟩ | ⟨rfl, h1⟩)
        · exact ⟨true, rfl, .inl ⟨rfl, h1, by rw [← HN0.out]; exact h2⟩⟩
        · exact ⟨false, rfl, .inr ⟨rfl, h1⟩⟩)
      have hgl : n₀ ≤ w2.heap.size := by have h1 := HB.out.size; have h2 := HB2.out.size; have h3 := HN0.out; omega
      obtain ⟨h', hh'⟩ : ∃ h', w2.heap.size = h' := ⟨_, rfl⟩
      have hm := MarkAt.new w2 (t, (e : Int)) h' hh'
      have c0 := hm.c0
      have c1 := hm.c1
      have cs2 : (w2.alloc (.cells #[.int .i64 t, .int .i64 (e : Int)] 60)).cell? ⟨Bs, 0, none⟩ = some (.string s) := ((HB2.out.alloc HB2.out.size _).cell (p := ⟨Bs, 0, none⟩) (World.block_lt_of_cell? wr _ cs)).trans cs
      have e0 : (0 : Int) ≤ (e : Int) := by omega
      have e1 : (a : Int) ≤ (e : Int) := by omega
      have e2 : (e : Int) ≤ (s.size : Int) := by omega
      have HWW := Lib.hid hww
      have HM := Lib.hid hm
      have HR1 := Lib.hid hR1
      dsimp only [encP] at hy
      clear hww hj3 hR hm hld cs hR1
      gi_region_with (refine HR1.out.mono ?_; rintro x w4 ⟨bq, rfl, hbq⟩; have HBQ := Lib.hid hbq; clear hbq)
      all_goals cases bq
      all_goals first
        | (rcases HBQ.out with ⟨h1, _⟩ | ⟨_, hjx⟩; first | (cases h1; done) | skip; gi_wp2; refine bodyPost_ret (results_none rfl _ _ _) rfl ?_; exact ⟨⟨_, rfl⟩, .inr ⟨_, ⟨pcsA M (LS s) e, by rw [List.append_assoc, List.singleton_append, ← HST.out]; exact HPA.out⟩, hjx⟩⟩)
        | skip
      all_goals
        have hx4 : J (pre ++ [⟨t, s.extract a e⟩]) w4 ∧ KP n₀ Bs Bd ((w2.alloc (.cells #[.int .i64 t, .int .i64 (e : Int)] 60)).drew) w4 := by
          rcases HBQ.out with ⟨_, h⟩ | ⟨h, _⟩
          · exact h
          · cases h
        have hm4 : MarkAt w4 h' (t, (e : Int)) := hx4.2.2.1 _ _ HM.out
        have d1 := hm4.c1
        have HJ4 := Lib.hid hx4.1
        have HB5 := Lib.hid (hx4.2.2.2.1.trans ((HWW.out.block Bs hbs1).trans HBS1.out))
        have HB6 := Lib.hid (hx4.2.2.2.2.trans ((HWW.out.block Bd hbd1).trans HBD1.out))
        have HB4 := Lib.hid (HB.out.trans (((HWW.out.mono (by have := HB.out.size; have := HN0.out; omega)).trans hx4.2.1)))
        clear hx4 hm4 c0 c1 cs2 hy
        gi_wp2
        go_roundw
      all_goals first
        | exact ⟨e, pre ++ [⟨t, s.extract a e⟩], by omega, rfl, by rw [List.append_assoc, List.singleton_append, ← HST.out]; exact HPA.out, by simp; omega, HJ4.out, HB4.out, HB5.out, HB6.out⟩
        | (simp [intOf]; omega)
/-- The iterator's contract. -/
theorem pieces_stops (n : Nat) (hn : 1 ≤ n) (wA w0 : World) (D : Df) (M : MS) (s : ByteArray) (hv : MAt wA D M) (hC : ∀ i, i < 256 → M.cl i < 256) (hR : rightM M = true) (hN : NoneS wA) (hs : s.size ≤ 100000) (hA0 : Below wA.heap.size wA w0)
    (Bs Bd : Nat) (hBs : w0.heap[Bs]? = some (.cells #[.string s] 9 (0, 0))) (hBd : DfaAt w0 Bd D) :
    SeqStopsK Fence.wide n Tryd.prog 47 #[.pointer (some ⟨Bs, 0, none⟩), .pointer (some ⟨Bd, 0, none⟩)] encP (KP wA.heap.size Bs Bd) (fun ys => ys = pcsA M (LS s) 0) (fun pre => pre <+: pcsA M (LS s) 0) (s.size + 1) w0 :=
  fun l J Jx W hW hJ _ hY h0 => pieces1_in n hn wA w0 D M s hv hC hR hN hs hA0 Bs Bd hBs hBd l J Jx W hW hJ hY h0
set_option maxRecDepth 100000 in
theorem pieces_any (w : World) (D : Df) (s : ByteArray) (g : Nat) (hg : w.heap.size = g) :
    Calls Tryd.prog 26 #[.agg (dfA D), .string s] w fun e w' => e = .returned (.func (.func 47) #[] #[.pointer (some ⟨g + 1, 0, none⟩), .pointer (some ⟨g, 0, none⟩)]) ∧ w' = (w.alloc (.cells (dfA D) 26)).alloc (.cells #[.string s] 9) := by
  go_enter Tryd.func26, Tryd.ntmps26
  go_wp2
  go_ret
  exact ⟨rfl, rfl⟩
end Go.Proofs.YtenijacffcdnaaaDoor
/- Plain laws of the pieces. -/
namespace Go.Proofs.YtenijacffcdnaaaDoor
open Go.RowKit Go.Sort Go.PlainAid
set_option linter.unusedVariables false

theorem bestK_take {M : MS} {l : List UInt8} {n : Nat} : ∀ {k : Nat}, k ≤ n → bestK M (l.take n) k = bestK M l k
  | 0, _ => rfl
  | k + 1, h => by
    simp only [bestK]
    rw [List.take_take, Nat.min_eq_left h, bestK_take (k := k) (by omega)]
theorem bestK_top {M : MS} {l : List UInt8} {k e : Nat} {t : Int} (h : bestK M l k = some (t, e)) : bestK M l e = some (t, e) := by
  obtain ⟨h1, h2, h3, h4⟩ := bestK_some h
  obtain ⟨e', rfl⟩ : ∃ e', e = e' + 1 := ⟨e - 1, by omega⟩
  simp only [bestK]
  rw [← h4, if_pos h1]
theorem bestK_none {M : MS} {l : List UInt8} : ∀ {k j : Nat}, bestK M l k = none → j ≤ k → bestK M l j = none
  | 0, j, h, hj => by have : j = 0 := by omega
                      subst this; rfl
  | k + 1, j, h, hj => by
    by_cases e : j = k + 1
    · subst e; exact h
    · simp only [bestK] at h
      split at h
      · cases h
      · exact bestK_none h (by omega)
/-- What stands at a place. -/
theorem nextM_tok {M : MS} {l : List UInt8} {a : Nat} (h : a < l.length) :
    ((nextM M l a).1 = -1 ∧ (nextM M l a).2 = a + 1 ∧ ∀ j, 1 ≤ j → j ≤ l.length - a → labM M (goL M 0 ((l.drop a).take j)) < 0) ∨
    (0 ≤ (nextM M l a).1 ∧ (nextM M l a).1 = labM M (goL M 0 ((l.drop a).take ((nextM M l a).2 - a))) ∧ ∀ j, (nextM M l a).2 - a < j → j ≤ l.length - a → labM M (goL M 0 ((l.drop a).take j)) < 0) := by
  unfold nextM
  cases hb : bestK M (l.drop a) (l.length - a) with
  | none => exact .inl ⟨rfl, rfl, fun j h1 h2 => bestK_max j h1 h2 fun t e he => by rw [hb] at he; cases he⟩
  | some p =>
    obtain ⟨t, e⟩ := p
    obtain ⟨h1, h2, h3, h4⟩ := bestK_some hb
    refine .inr ⟨h1, ?_, fun j h5 h6 => bestK_max j ?_ h6 fun t' e' he => ?_⟩
    · simp only [endOf, Nat.add_sub_cancel_left]; exact h4
    · simp only [endOf] at h5; omega
    · rw [hb] at he
      simp only [Option.some.injEq, Prod.mk.injEq] at he
      simp only [endOf] at h5; omega
/-- A piece by itself. -/
theorem nextM_self {M : MS} {l : List UInt8} {a : Nat} (h : a < l.length) : nextM M ((l.drop a).take ((nextM M l a).2 - a)) 0 = ((nextM M l a).1, (nextM M l a).2 - a) := by
  have he := nextM_end (M := M) h
  have hl : ((l.drop a).take ((nextM M l a).2 - a)).length = (nextM M l a).2 - a := by rw [List.length_take, List.length_drop]; omega
  generalize hx : (nextM M l a).2 - a = x at hl ⊢
  unfold nextM
  rw [List.drop_zero, hl, Nat.sub_zero, bestK_take (Nat.le_refl _)]
  unfold nextM at hx
  cases hb : bestK M (l.drop a) (l.length - a) with
  | none =>
    rw [hb] at hx
    simp only [endOf] at hx
    rw [bestK_none hb (by omega)]
    simp only [endOf]; rw [show x = 0 + 1 by omega]
  | some p =>
    obtain ⟨t, e⟩ := p
    rw [hb] at hx
    simp only [endOf] at hx
    rw [show x = e by omega, bestK_top hb]
    simp [endOf]
theorem nextM_drop {M : MS} {l : List UInt8} {a b : Nat} : nextM M (l.drop a) b = ((nextM M l (a + b)).1, (nextM M l (a + b)).2 - a) := by
  unfold nextM
  rw [List.drop_drop, List.length_drop, Nat.sub_sub]
  cases bestK M (l.drop (a + b)) (l.length - (a + b)) with
  | none => simp only [endOf]; congr 1; omega
  | some p => obtain ⟨t, e⟩ := p; simp only [endOf]; congr 1; omega
theorem cutM_drop {M : MS} {l : List UInt8} {a : Nat} : ∀ (f b : Nat), cutM M (l.drop a) f b = cutM M l f (a + b)
  | 0, b => rfl
  | f + 1, b => by
    simp only [cutM, List.length_drop]
    by_cases h : a + b < l.length
    · rw [if_pos (by omega), if_pos h, nextM_drop, List.drop_drop]
      have he := (nextM_end (M := M) h).1
      rw [cutM_drop f ((nextM M l (a + b)).2 - a), show a + ((nextM M l (a + b)).2 - a) = (nextM M l (a + b)).2 by omega, show (nextM M l (a + b)).2 - a - b = (nextM M l (a + b)).2 - (a + b) by omega]
    · rw [if_neg (by omega), if_neg h]
theorem pcsA_drop {M : MS} {l : List UInt8} {a : Nat} : pcsA M (l.drop a) 0 = pcsA M l a := by
  unfold pcsA cutS
  rw [cutM_drop, List.length_drop]
  rfl
theorem pcsA_step' {M : MS} {l : List UInt8} {a : Nat} (h : a < l.length) : pcsA M l a = ⟨(nextM M l a).1, ⟨((l.drop a).take ((nextM M l a).2 - a)).toArray⟩⟩ :: pcsA M l (nextM M l a).2 := by
  unfold pcsA; rw [cutS_step h]; rfl
theorem pcsA_end' {M : MS} {l : List UInt8} {a : Nat} (h : l.length ≤ a) : pcsA M l a = [] := by unfold pcsA; rw [cutS_end h]; rfl
theorem take_app {l : List UInt8} {a e : Nat} (h : a ≤ e) : l.take a ++ (l.drop a).take (e - a) = l.take e := by
  have := List.take_add (l := l) (i := a) (j := e - a)
  rw [show a + (e - a) = e by omega] at this
  exact this.symm
/-- The first n pieces, and the others. -/
theorem pcsA_at {M : MS} {l : List UInt8} : ∀ n, n ≤ (pcsA M l 0).length → ∃ a, a ≤ l.length ∧ (pcsA M l 0).drop n = pcsA M l a ∧ joinL ((pcsA M l 0).take n) = l.take a
  | 0, _ => ⟨0, by omega, rfl, rfl⟩
  | n + 1, h => by
    obtain ⟨a, ha, h1, h2⟩ := pcsA_at (M := M) (l := l) n (by omega)
    by_cases hl : a < l.length
    · have he := nextM_end (M := M) hl
      have hs := pcsA_step' (M := M) hl
      rw [← h1] at hs
      have hg : (pcsA M l 0)[n]? = some ⟨(nextM M l a).1, ⟨((l.drop a).take ((nextM M l a).2 - a)).toArray⟩⟩ := by
        have := congrArg (fun x => x[0]?) hs
        simpa using this
      refine ⟨(nextM M l a).2, he.2, ?_, ?_⟩
      · have := congrArg (List.drop 1) hs
        simpa [List.drop_drop, Nat.add_comm] using this
      · rw [joinL_take hg, h2]
        show _ ++ ((l.drop a).take ((nextM M l a).2 - a)).toArray.toList = _
        rw [List.toList_toArray]
        exact take_app (by omega)
    · rw [pcsA_end' (M := M) (l := l) (a := a) (by omega)] at h1
      have := congrArg List.length h1
      rw [List.length_drop] at this
      have h0 : (pcsA M l 0).length - n = 0 := this
      omega
theorem pcsA_join {M : MS} {l : List UInt8} : joinL (pcsA M l 0) = l := by
  obtain ⟨a, ha, h1, h2⟩ := pcsA_at (M := M) (l := l) _ (Nat.le_refl _)
  rw [List.drop_length] at h1
  rw [List.take_length] at h2
  by_cases hl : a < l.length
  · rw [pcsA_step' hl] at h1; cases h1
  · rw [h2, List.take_of_length_le (by omega)]
theorem pcsR_join {M : MS} {l : List UInt8} : (joinL (pcsR M l)).length ≤ l.length := by
  unfold pcsR
  split
  · rw [pcsA_join]; exact Nat.le_refl _
  · simp [joinL]
theorem pcsA_nil {M : MS} {l : List UInt8} (h : (pcsA M l 0).length = 0) : l.length = 0 := by
  by_cases hl : 0 < l.length
  · rw [pcsA_step' hl] at h; cases h
  · omega
theorem pcsR_len {M : MS} {l : List UInt8} : (pcsR M l).length ≤ l.length := by
  have key : ∀ f a, (cutM M l f a).length ≤ f := by
    intro f
    induction f with
    | zero => intro a; exact Nat.le_refl _
    | succ f ih =>
      intro a
      simp only [cutM]
      split
      · rw [List.length_cons]; have := ih (nextM M l a).2; omega
      · simp
  unfold pcsR
  split
  · unfold pcsA cutS; rw [List.length_map]; exact Nat.le_trans (key _ _) (by omega)
  · simp
/-! ## Is a piece cut into itself? -/
def headP (ps : List Pc) (p : Pc) : Bool := match ps with | q :: _ => samePc q p | [] => false
def wholeM (M : MS) (p : Pc) : Bool := rightM M && headP (pcsA M (LS p.s) 0) p
theorem samePc_s {p q : Pc} (h : samePc p q = true) : p.t = q.t ∧ LS p.s = LS q.s := by
  unfold samePc at h
  simp only [Bool.and_eq_true, beq_iff_eq] at h
  refine ⟨h.1, ?_⟩
  have e := h.2
  rw [Lib.toList_data, Lib.toList_data] at e
  exact e
theorem whole_ref (M : MS) (p : Pc) : (decide (p.s.size ≠ 0) && samePs (pcsR M (LS p.s)) [p]) = wholeM M p := by
  unfold wholeM pcsR
  by_cases hr : rightM M = true
  · rw [if_pos hr, hr, Bool.true_and]
    by_cases h0 : p.s.size = 0
    · rw [pcsA_end' (by rw [LS_len]; omega)]
      simp [h0, headP]
    · have hl : 0 < (LS p.s).length := by rw [LS_len]; omega
      rw [decide_eq_true h0, Bool.true_and]
      have he := nextM_end (M := M) hl
      rw [pcsA_step' hl]
      generalize hq : Pc.mk (nextM M (LS p.s) 0).1 ⟨(((LS p.s).drop 0).take ((nextM M (LS p.s) 0).2 - 0)).toArray⟩ = q
      simp only [headP]
      by_cases hs : samePc q p = true
      · have := (samePc_s hs).2
        have hlen : (LS q.s).length = (nextM M (LS p.s) 0).2 := by
          rw [← hq]
          show (((LS p.s).drop 0).take ((nextM M (LS p.s) 0).2 - 0)).toArray.toList.length = _
          rw [List.toList_toArray, List.length_take, List.length_drop]; omega
        rw [this] at hlen
        rw [pcsA_end' (by omega), hs]
        refine samePs_yes rfl fun k p' q' hk h1 h2 => ?_
        have : k = 0 := by simpa using hk
        subst this
        simp at h1 h2
        subst h1 h2
        exact hs
      · rw [Bool.eq_false_iff.2 hs]
        exact samePs_no (k := 0) rfl rfl (Bool.eq_false_iff.2 hs)
  · rw [if_neg hr, Bool.eq_false_iff.2 hr]
    simp [samePs]
/-- Behind each piece. -/
theorem parts_law {M : MS} {l : List UInt8} (hr : rightM M = true) {n : Nat} (hn : n < (pcsA M l 0).length) :
    ∃ a p, a < l.length ∧ joinL ((pcsA M l 0).take n) = l.take a ∧ pcsA M (l.drop a) 0 = (pcsA M l 0).drop n ∧ (pcsA M l 0)[n]? = some p ∧ wholeM M p = true := by
  obtain ⟨a, ha, h1, h2⟩ := pcsA_at (M := M) (l := l) n (by omega)
  have hl : a < l.length := by
    apply Nat.lt_of_not_le
    intro h
    rw [pcsA_end' h] at h1
    have := congrArg List.length h1
    rw [List.length_drop] at this
    simp at this
    omega
  have hs := pcsA_step' (M := M) hl
  rw [← h1] at hs
  have hg : (pcsA M l 0)[n]? = some ⟨(nextM M l a).1, ⟨((l.drop a).take ((nextM M l a).2 - a)).toArray⟩⟩ := by
    have := congrArg (fun x => x[0]?) hs
    simpa using this
  refine ⟨a, _, hl, h2, by rw [pcsA_drop, h1], hg, ?_⟩
  have he := nextM_end (M := M) hl
  unfold wholeM
  rw [hr, Bool.true_and]
  have hL : LS (⟨((l.drop a).take ((nextM M l a).2 - a)).toArray⟩ : ByteArray) = (l.drop a).take ((nextM M l a).2 - a) := by
    show ((l.drop a).take ((nextM M l a).2 - a)).toArray.toList = _
    rw [List.toList_toArray]
  have hlen : ((l.drop a).take ((nextM M l a).2 - a)).length = (nextM M l a).2 - a := by rw [List.length_take, List.length_drop]; omega
  show headP (pcsA M (LS (⟨((l.drop a).take ((nextM M l a).2 - a)).toArray⟩ : ByteArray)) 0) _ = true
  rw [hL, pcsA_step' (by omega), nextM_self hl]
  simp only [headP]
  rw [List.drop_zero, Nat.sub_zero, List.take_take, Nat.min_self]
  exact samePc_refl _
end Go.Proofs.YtenijacffcdnaaaDoor
/- The program's pieces, collected. -/
namespace Go.Proofs.YtenijacffcdnaaaDoor
open Go.RowKit Go.Sort Go.PlainAid Go.Shelf
set_option linter.unusedVariables false
set_option linter.unusedSimpArgs false
attribute [local go_sem] Oper.semAt_some
attribute [local go_sem ↓] loadA_eq storeA_eq loadD_eq

theorem block_own {β : Type} (B : Nat) (o : Obj) (ho : o.isCells = true) : Own (fun (_ : β) W => W.heap[B]? = some o) := fun s X Y row hs hg hrow => by
  have hlt : B < X.heap.size := (Array.getElem?_eq_some_iff.1 hs).1
  refine (hg.block B hlt (fun e' => ?_)).trans hs
  obtain ⟨o', ho', hc⟩ := hrow B e'.symm
  rw [hs] at ho'
  obtain rfl := Option.some.inj ho'
  rw [ho] at hc; cases hc
theorem not_own {W : World} {B : Nat} {cs : Array Value} {t e : TypeId} (h : W.heap[B]? = some (.cells cs t (0, 0))) (hte : t ≠ e) {base size k : Nat} {v : Value} {xs : List Value} (hr : W.ownsRow base e size v k xs) : some B ≠ v.ownBlock := by
  rcases hr.2 with ⟨rfl, _⟩ | ⟨g, cap, cur, rfl, _, hgb, _⟩
  · simp [Value.ownBlock]
  · intro e'
    obtain rfl : B = g := by simpa [Value.ownBlock] using e'
    rw [h] at hgb
    simp at hgb
    exact hte hgb.2
theorem own_ntype {W : World} {e : TypeId} {base size k : Nat} {v : Value} {xs : List Value} (hr : W.ownsRow base e size v k xs) {r : Nat} (h : v.ownBlock = some r) {t : TypeId} (hte : t ≠ e) : ∀ cs : Array Value, W.heap[r]? ≠ some (Obj.cells cs t (0, 0)) := fun cs hc => not_own hc hte hr h.symm
def CutI (h : Nat) (s : ByteArray) (D : Df) (w2 : World) (pre : List Pc) (W : World) : Prop :=
  ((∃ v, Boxed W h 34 v ∧ W.ownsRow h 33 2 v pre.length (pre.flatMap pcC) ∧ True) ∧ Below h w2 W) ∧ (W.heap[h + 2]? = some (.cells #[.string s] 9 (0, 0)) ∧ W.heap[h + 1]? = some (.cells (dfA D) 26 (0, 0)))
def PcAt (W : World) (B : Nat) (p : Pc) : Prop := W.heap[B]? = some (.cells #[.int .i64 p.t, .string p.s] 33 (0, 0))
theorem CutI.below {h : Nat} {s : ByteArray} {D : Df} {w2 : World} {pre : List Pc} {W W' : World} (hc : CutI h s D w2 pre W) (hh : h ≤ W.heap.size) (hb : Below W.heap.size W W') : CutI h s D w2 pre W' := by
  obtain ⟨⟨⟨v, hv, ho, _⟩, hbw⟩, h2, h1⟩ := hc
  refine ⟨⟨⟨v, (hb.block h hv.lt).trans hv, ownB ho hb, trivial⟩, hbw.trans (hb.mono hh)⟩, (hb.block _ (Array.getElem?_eq_some_iff.1 h2).1).trans h2, (hb.block _ (Array.getElem?_eq_some_iff.1 h1).1).trans h1⟩
theorem keepsFrom_below {B : Nat} {W W' : World} (hb : Below W.heap.size W W') : KeepsFrom B W W' := ⟨hb.size, fun k o _ hk ho => (hb.block k (Array.getElem?_eq_some_iff.1 hk).1).trans hk⟩
theorem KP.below {n₀ Bs Bd : Nat} {W W' : World} (hb : Below W.heap.size W W') (hn : n₀ ≤ W.heap.size) (hs : Bs < W.heap.size) (hd : Bd < W.heap.size) : KP n₀ Bs Bd W W' := ⟨hb.mono hn, MK.below hb, hb.block Bs hs, hb.block Bd hd⟩
/-- A piece is boxed. -/
theorem pc_box (W : World) (p : Pc) : Below W.heap.size W (W.alloc (.cells #[.int .i64 p.t, .string p.s] 33)) ∧ PcAt (W.alloc (.cells #[.int .i64 p.t, .string p.s] 33)) W.heap.size p :=
  ⟨(Below.refl _ W).alloc (Nat.le_refl _) _, heap_alloc_new W _⟩
theorem PcAt.c0 {W : World} {B : Nat} {p : Pc} (h : PcAt W B p) : W.cell? ⟨B, 0, none⟩ = some (.int .i64 p.t) := by rw [cell_of_row W B 0 _ _ _ h]; rfl
theorem PcAt.c1 {W : World} {B : Nat} {p : Pc} (h : PcAt W B p) : W.cell? ⟨B, 1, none⟩ = some (.string p.s) := by rw [cell_of_row W B 1 _ _ _ h]; rfl
theorem PcAt.lt {W : World} {B : Nat} {p : Pc} (h : PcAt W B p) : B < W.heap.size := (Array.getElem?_eq_some_iff.1 h).1
theorem app_pc_in {F : Fence} {n : Nat} {w : World} {base k : Nat} {v : Value} {xs : List Pc} (hown : w.ownsRow base 33 2 v k (xs.flatMap pcC)) (p : Pc) (hk : k ≤ 200000) (hbase : base ≤ w.heap.size) (H : Nat) (hH : w.heap.size = H)
    (ops : Array Oper) (rest : List Oper) (o : Oper) (a : Act) (Q : Exit → Act → World → Prop) (hg : o.guard = none) (s x : Operand) (ho : o.op = .call { callee := .builtin .append, args := #[s, x], argTypes := #[34, 34] })
    (hs : a.eval s = v) (hx : a.eval x = .slice (some ⟨H, 0, none⟩) 1 1)
    (h : ∀ g cap w', w'.ownsRow base 33 2 (.slice (some ⟨g, 0, none⟩) (k + 1) cap) (k + 1) ((xs ++ [p]).flatMap pcC) → (w.alloc (.cells #[.int .i64 p.t, .string p.s] 33)).grownBy w' v.ownBlock →
      wpListIn F n Tryd.prog ops Q rest (a.put o.dst (.slice (some ⟨g, 0, none⟩) (k + 1) cap)) w') : wpListIn F n Tryd.prog ops Q (o :: rest) a (w.alloc (.cells #[.int .i64 p.t, .string p.s] 33)) := by
  subst hH
  obtain ⟨i0, hii, hz0, hz1, hz2⟩ := info_parts infoPc
  refine wpListIn_append_own _ hg s x 34 ho base 33 i0 _ 2 24 Tryd.underlying34 hii hz0 hz1 hz2 rfl (by decide) v k (xs.flatMap pcC) hs (hown.alloc _) ⟨w.heap.size, 0, none⟩ 1 1 (pcC p) hx rfl
    (World.news_of_block (cs := (pcC p).toArray) (t := 33) (fr := (0, 0)) (heap_alloc_new w _)) (pcC_one p) (by unfold maxLen; omega) (by omega) (by simp; omega) fun v' w' h1 h2 _ => ?_
  obtain ⟨g, cap, rfl⟩ := ownsRow_succ h1
  exact h g cap w' (own_snoc' (o := p) h1) h2
theorem underMark : ¬ (60 = 33) := by decide
set_option maxRecDepth 100000 in
set_option maxHeartbeats 4000000 in
theorem mcutc_any (w : World) (D : Df) (M : MS) (s : ByteArray) (hm : MAt w D M) (hC : ∀ i, i < 256 → M.cl i < 256) (hN : NoneS w) (hs : s.size ≤ 100000) :
    Calls Tryd.prog 11 #[.agg (dfA D), .string s] w fun e w' => ∃ A c, e = .returned (.slice A (pcsR M (LS s)).length c) ∧ (CRow pcC 2 w' A (pcsR M (LS s)).length (pcsR M (LS s)) ∧ (pcsR M (LS s)).length ≤ c ∧ c ≤ 9223372036854775807) ∧ Below w.heap.size w w' := by
  have HM := Lib.hid hm
  have HCC := Lib.hid hC
  have HN := Lib.hid hN
  obtain ⟨g, hg⟩ : ∃ g, w.heap.size = g := ⟨_, rfl⟩
  have HG := Lib.hid hg
  obtain ⟨W1, hW1, hs1, hb1, hd1⟩ := box_dfa hg D
  have HRM := Lib.hid (dright_any W1 D M (hm.below (by rw [hg]; exact hb1)) hC)
  obtain ⟨q, hq⟩ : ∃ q, rightM M = q := ⟨_, rfl⟩
  rw [hq] at HRM
  have HQ := Lib.hid hq
  have HB1 := Lib.hid hb1
  have HS1 := Lib.hid hs1
  have HD1 := Lib.hid hd1
  have HW1 := Lib.hid hW1
  have hld := run_loadD W1 g D hd1
  rw [hW1] at hld HRM
  obtain ⟨ps, hps⟩ : ∃ ps, pcsR M (LS s) = ps := ⟨_, rfl⟩
  have HPS := Lib.hid hps
  have hpl : ps.length ≤ 100000 := by rw [← hps]; exact Nat.le_trans pcsR_len (by rw [LS_len]; exact hs)
  rw [hps]
  clear hm hC hN hW1 hs1 hb1 hd1 hq hps
  refine (callsIn_wide (n := 6)).1 ?_
  refine callsIn_of_wp_marks Tryd.func11 rfl trivial ?_ rfl
  simp only [Tryd.ntmps11, List.size_toArray, List.length_cons, List.length_nil, Nat.reduceAdd, Nat.reduceSub, Array.replicate_succ, Array.replicate_zero, List.push_toArray, List.append_toArray, List.nil_append, List.cons_append]
  cases q with
  | false =>
    have HE : Hid (ps = []) := Lib.hid (by rw [← HPS.out]; unfold pcsR; rw [HQ.out]; rfl)
    gi_wp2_with (refine ⟨trivial, ?_⟩; gi_at_call 24; refine (callsIn_wide.2 HRM.out).mono ?_; rintro x w2 ⟨rfl, hb2⟩; have HB2 : Hid (Below g w w2) := Lib.hid (HB1.out.trans (by rw [← HW1.out] at hb2; exact hb2.mono (by have := HS1.out; omega))); clear hb2)
    refine ⟨_, results_tmp rfl _ _ _, none, 0, ?_, ?_, by first | exact HB2.out | (rw [HG.out]; exact HB2.out)⟩
    · rw [HE.out]; rfl
    · rw [HE.out]; exact ⟨own_row pcC_len (World.ownsRow_nil w2 0 33 2), Nat.le_refl _, by decide⟩
  | true =>
    have HE : Hid (pcsA M (LS s) 0 = ps) := Lib.hid (by rw [← HPS.out]; unfold pcsR; rw [if_pos HQ.out])
    gi_wp2_with (first
      | (refine ⟨trivial, ?_⟩; gi_at_call 24; refine (callsIn_wide.2 HRM.out).mono ?_; rintro x w2 ⟨rfl, hb2⟩; have hb2' : Below W1.heap.size W1 w2 := by rw [← HW1.out] at hb2; exact hb2
         have HB2 : Hid (Below g w w2) := Lib.hid (HB1.out.trans (hb2'.mono (by have := HS1.out; omega)))
         have hd2 : DfaAt w2 g D := HD1.out.below hb2' (by have := HS1.out; omega)
         have hld2 := fun ob => run_loadD (w2.alloc ob) g D (hd2.alloc ob)
         have hgl : g + 1 ≤ w2.heap.size := by have := hb2'.size; have := HS1.out; omega
         obtain ⟨h, hh⟩ : ∃ h, w2.heap.size = h := ⟨_, rfl⟩
         have HH := Lib.hid hh
         clear hb2 hb2' hd2)
      | (refine ⟨trivial, ?_⟩; gi_at_call 26; refine (callsIn_wide.2 (pieces_any _ D s (h + 1) (by simp [HH.out]))).mono ?_; rintro x w' ⟨rfl, rfl⟩))
    obtain ⟨W3, hW3⟩ : ∃ W, W = ((w2.alloc (.cells #[.slice none 0 0] 34)).alloc (.cells (dfA D) 26)).alloc (.cells #[.string s] 9) := ⟨_, rfl⟩
    rw [← hW3]
    have hbA : Below h w2 W3 := by rw [hW3, ← HH.out]; exact (((Below.refl _ w2).alloc (Nat.le_refl _) _).alloc (by simp) _).alloc (by simp; omega) _
    have hs3 : W3.heap.size = h + 3 := by rw [hW3]; simp [HH.out]
    have hbd : DfaAt W3 (h + 1) D := by rw [hW3]; exact (DfaAt.new (w2.alloc _) D (h + 1) (by simp [HH.out])).alloc _
    have hbs : W3.heap[h + 1 + 1]? = some (.cells #[.string s] 9 (0, 0)) := by
      have := heap_alloc_new ((w2.alloc (.cells #[.slice none 0 0] 34)).alloc (.cells (dfA D) 26)) (.cells #[.string s] 9)
      rw [World.size_alloc, World.size_alloc, HH.out] at this
      rw [hW3]; exact this
    have hbx : Boxed W3 h 34 (.slice none 0 0) := by
      have := Boxed.new w2 34 (.slice none 0 0)
      rw [HH.out] at this
      rw [hW3]; exact (this.alloc _).alloc _
    have hst := pieces_stops 5 (by omega) w2 W3 D M s (HM.out.below (by rw [HG.out]; exact HB2.out)) HCC.out HQ.out (HN.out.below (by rw [HG.out]; exact HB2.out)) hs (by rw [HH.out]; exact hbA) (h + 1 + 1) (h + 1) hbs hbd
    rw [HH.out] at hst
    have HBA := Lib.hid hbA
    clear hW3 hld hld2
    refine wpIn_rangeFunc_ownH rfl (by omega) (gf := 47) (lb := #[.pointer (some ⟨h + 1 + 1, 0, none⟩), .pointer (some ⟨h + 1, 0, none⟩)]) rfl trivial (enters_of Tryd.func47 (by kernel_rfl) rfl)
      hst KP.t (KP.b (by omega) (by omega) (by omega)) (Below.refl _ _) (fun _ => rfl) (CutI h s D w2) (fun _ _ _ => False)
      (OwnFrom.and (OwnFrom.and (Own.from (holdsRow_own h h 34 33 2 (fun (pre : List Pc) => pre.length) (fun pre => pre.flatMap pcC) (fun _ _ => True)) _) (ownFrom_below (by rw [HH.out]; exact Nat.le_refl _) (by omega))) (OwnFrom.and (Own.from (block_own _ _ rfl) _) (Own.from (block_own _ _ rfl) _)))
      (fun _ _ _ _ _ hs _ _ => hs)
      ⟨⟨⟨_, hbx, World.ownsRow_nil _ _ _ _, trivial⟩, hbA⟩, hbs, hbd⟩
      (fun x a' W => ∃ Bx, h + 3 ≤ Bx ∧ PcAt W Bx x ∧ a' = { tmps := #[.agg (dfA D), .string s, .pointer (some ⟨g, 0, none⟩), undef, .slice none 0 0, .pointer (some ⟨h, 0, none⟩), .pointer (some ⟨Bx, 0, none⟩), .agg (dfA D), .bool true, .bool false, .agg (dfA D), .string s, .func (.func 47) #[] #[.pointer (some ⟨h + 1 + 1, 0, none⟩), .pointer (some ⟨h + 1, 0, none⟩)], .agg #[.int .i64 x.t, .string x.s], undef, undef, undef, undef, undef], defers := [] })
      (fun x a' _ X Y row hs hg hr => by
        obtain ⟨Bx, h1, h2, h3⟩ := hs
        exact ⟨Bx, h1, (block_own (β := Unit) Bx _ rfl).from _ () X Y row h2 hg hr, h3⟩) ?assign ?body ?done ?stop
    case assign =>
      rintro l pre x W K hi hK
      have hsz : h + 3 ≤ W.heap.size := by have := (Array.getElem?_eq_some_iff.1 hi.2.1).1; omega
      obtain ⟨hb, hp⟩ := pc_box W x
      simp only [encP]
      gi_wp2
      exact hK _ _ (keepsFrom_below hb) (KP.below hb (by omega) (by omega) (by omega)) (hi.below (by omega) hb) ⟨W.heap.size, hsz, hp, rfl⟩
    case body =>
      rintro l pre x a' W hl hr hi ⟨Bx, hBx, hP, rfl⟩ hlt
      have HI := Lib.hid hi
      obtain ⟨⟨⟨v, hv, hrow, _⟩, hbw⟩, hs2, hd1⟩ := hi
      have HV := Lib.hid hv
      have HR := Lib.hid hrow
      have HS2 := Lib.hid hs2
      have HD1 := Lib.hid hd1
      have HBW := Lib.hid hbw
      have hsz : h + 3 ≤ W.heap.size := by have := (Array.getElem?_eq_some_iff.1 hs2).1; omega
      have c0 := hv.cell
      have p0 := hP.c0
      have p1 := hP.c1
      obtain ⟨A, cap, rfl, _, _⟩ := own_form hrow
      clear hv hrow hs2 hd1 hP hbw
      gi_wp2_with (gi_at_builtin; refine app_pc_in HR.out x (by omega) (by omega) W.heap.size rfl _ _ _ _ _ rfl _ _ rfl rfl rfl ?_; intro gg cp w5 hown hgrow; obtain ⟨hv1, hv2, hr2, hk2, hb2⟩ := HV.out.appended (by decide) HR.out (by omega) (Nat.le_refl h) hown hgrow; have hc1 := hv1.cell; have hf1 := hv1.frozen; have HGR := Lib.hid hgrow; have HV1 := Lib.hid hv1; have HOW := Lib.hid hown; clear hown hgrow hv1)
      have hn1 : some (h + 1 + 1) ≠ (Value.slice A pre.length cap).ownBlock := not_own HS2.out (by decide) HR.out
      have hn2 : some (h + 1) ≠ (Value.slice A pre.length cap).ownBlock := not_own HD1.out (by decide) HR.out
      have e1 := HGR.out.block (h + 1 + 1) (by simp; omega) hn1
      have e2 := HGR.out.block (h + 1) (by simp; omega) hn2
      have e3 := Below.heap_alloc W (.cells #[.int .i64 x.t, .string x.s] 33) (h + 1 + 1) (by omega)
      have e4 := Below.heap_alloc W (.cells #[.int .i64 x.t, .string x.s] 33) (h + 1) (by omega)
      have k1 := (heap_setCell_other w5 ⟨h, 0, none⟩ (h + 1 + 1) (.slice (some ⟨gg, 0, none⟩) (pre.length + 1) cp) (by show h + 1 + 1 ≠ h; omega)).trans (e1.trans e3)
      have k2 := (heap_setCell_other w5 ⟨h, 0, none⟩ (h + 1) (.slice (some ⟨gg, 0, none⟩) (pre.length + 1) cp) (by show h + 1 ≠ h; omega)).trans (e2.trans e4)
      have hmk : MK W (w5.setCell ⟨h, 0, none⟩ (.slice (some ⟨gg, 0, none⟩) (pre.length + 1) cp)) :=
        ((MK.alloc W _).trans (MK.grown HGR.out (fun r hr cs hc => by
          have hr2 : r < W.heap.size := (own_ge HR.out hr).2
          rw [Below.heap_alloc W _ r hr2] at hc
          exact not_own hc (by decide) HR.out hr.symm))).trans (MK.setCell _ (fun cs hc => by
          have := (show w5.heap[h]? = _ from HV1.out).symm.trans hc
          simp at this))
      exact ⟨hk2.from _, ⟨hb2, hmk, k1, k2⟩, ⟨⟨⟨_, hv2, by simpa using hr2, trivial⟩, HBW.out.trans hb2⟩, k1.trans HS2.out, k2.trans HD1.out⟩⟩
    case done =>
      rintro Dd ys W hD hS ⟨⟨⟨v, hv, hrow, _⟩, hbw⟩, hs2, hd1⟩ hK
      have c0 := hv.cell
      gi_wp2
      refine ⟨by simp, .inl ⟨_, _, rfl, run_takeDeferred hK, ?_⟩⟩
      obtain ⟨A, cap, rfl, hcap1, hcap2⟩ := own_form hrow
      have hyp : ys = ps := by rw [← HE.out]; exact hS
      subst hyp
      have hfin : Below g w (W.putObj Dd (.deferred none)) := HB2.out.trans ((hbw.mono (by omega)).trans (belowK_b (w := w2) (by omega) W Dd _ _ (by omega) hK rfl rfl))
      exact ⟨_, results_tmp rfl _ _ _, A, cap, rfl, ⟨own_row pcC_len (ownsRow_putObj hrow _ hK rfl), hcap1, hcap2⟩, by first | exact hfin | (rw [HG.out]; exact hfin)⟩
    case stop =>
      rintro Dd c pre W _ _ h _
      exact h.elim
theorem mcut_any (w : World) (D : Df) (M : MS) (s : ByteArray) (hm : MAt w D M) (hC : ∀ i, i < 256 → M.cl i < 256) (hN : NoneS w) (hs : s.size ≤ 100000) :
    Calls Tryd.prog 11 #[.agg (dfA D), .string s] w fun e w' => ∃ A c, e = .returned (.slice A (pcsR M (LS s)).length c) ∧ CRow pcC 2 w' A (pcsR M (LS s)).length (pcsR M (LS s)) ∧ Below w.heap.size w w' :=
  (mcutc_any w D M s hm hC hN hs).mono fun e w' ⟨A, c, h1, ⟨h2, _, _⟩, h3⟩ => ⟨A, c, h1, h2, h3⟩
end Go.Proofs.YtenijacffcdnaaaDoor
/- Is a piece cut into itself: munch.Whole, the document's. -/
namespace Go.Proofs.YtenijacffcdnaaaDoor
open Go.RowKit Go.Sort Go.PlainAid Go.Shelf
set_option linter.unusedVariables false
set_option linter.unusedSimpArgs false
attribute [local go_sem] Oper.semAt_some
attribute [local go_sem ↓] loadA_eq storeA_eq loadD_eq

set_option maxRecDepth 100000 in
set_option maxHeartbeats 4000000 in
theorem mwhole_any (w : World) (D : Df) (M : MS) (p : Pc) (hm : MAt w D M) (hC : ∀ i, i < 256 → M.cl i < 256) (hN : NoneS w) (hs : p.s.size ≤ 100000) :
    Calls Tryd.prog 16 #[.agg (dfA D), .agg #[.int .i64 p.t, .string p.s]] w fun e w' => e = .returned (.bool (wholeM M p)) ∧ Below w.heap.size w w' := by
  have HM := Lib.hid hm
  have HCC := Lib.hid hC
  have HN := Lib.hid hN
  obtain ⟨g, hg⟩ : ∃ g, w.heap.size = g := ⟨_, rfl⟩
  have HG := Lib.hid hg
  obtain ⟨W1, hW1⟩ : ∃ W, W = ((w.alloc (.cells (dfA D) 26)).alloc (.cells #[.int .i64 p.t, .string p.s] 33)).alloc (.cells #[.bool false] 4) := ⟨_, rfl⟩
  have hs1 : W1.heap.size = g + 3 := by rw [hW1]; simp [hg]
  have hb1 : Below g w W1 := by rw [hW1, ← hg]; exact (((Below.refl _ _).alloc (Nat.le_refl _) _).alloc (by simp) _).alloc (by simp; omega) _
  have hd1 : DfaAt W1 g D := by rw [hW1]; exact ((DfaAt.new w D g hg).alloc _).alloc _
  have hp1 : PcAt W1 (g + 1) p := by
    have := heap_alloc_new (w.alloc (.cells (dfA D) 26)) (.cells #[.int .i64 p.t, .string p.s] 33)
    rw [World.size_alloc, hg] at this
    rw [hW1]; exact (Below.heap_alloc _ _ _ (by simp [hg])).trans this
  have hx1 : Boxed W1 (g + 2) 4 (.bool false) := by
    have := Boxed.new ((w.alloc (.cells (dfA D) 26)).alloc (.cells #[.int .i64 p.t, .string p.s] 33)) 4 (.bool false)
    rw [World.size_alloc, World.size_alloc, hg] at this
    rw [hW1]; exact this
  have HRM := Lib.hid (dright_any W1 D M (hm.below (by rw [hg]; exact hb1)) hC)
  obtain ⟨q, hq⟩ : ∃ q, rightM M = q := ⟨_, rfl⟩
  rw [hq] at HRM
  have HQ := Lib.hid hq
  have HB1 := Lib.hid hb1
  have HS1 := Lib.hid hs1
  have HD1 := Lib.hid hd1
  have HP1 := Lib.hid hp1
  have HX1 := Lib.hid hx1
  have HW1 := Lib.hid hW1
  have hld := run_loadD W1 g D hd1
  rw [hW1] at hld HRM
  obtain ⟨r, hr⟩ : ∃ r, wholeM M p = r := ⟨_, rfl⟩
  have HR := Lib.hid hr
  rw [hr]
  clear hm hC hN hW1 hs1 hb1 hd1 hp1 hx1 hq hr
  refine (callsIn_wide (n := 6)).1 ?_
  refine callsIn_of_wp_marks Tryd.func16 rfl trivial ?_ rfl
  simp only [Tryd.ntmps16, List.size_toArray, List.length_cons, List.length_nil, Nat.reduceAdd, Nat.reduceSub, Array.replicate_succ, Array.replicate_zero, List.push_toArray, List.append_toArray, List.nil_append, List.cons_append]
  cases q with
  | false =>
    have HE : Hid (r = false) := Lib.hid (by rw [← HR.out]; unfold wholeM; rw [HQ.out]; rfl)
    gi_wp2_with (first
      | (refine ⟨trivial, ?_⟩; gi_at_call 24; refine (callsIn_wide.2 HRM.out).mono ?_; rintro x w2 ⟨rfl, hb2⟩; have hb2' : Below W1.heap.size W1 w2 := by rw [← HW1.out] at hb2; exact hb2
         have HB2 : Hid (Below g w w2) := Lib.hid (HB1.out.trans (hb2'.mono (by have := HS1.out; omega)))
         have hgl : g + 3 ≤ w2.heap.size := by have := hb2'.size; have := HS1.out; omega
         have hd2 : DfaAt w2 g D := HD1.out.below hb2' (by have := HS1.out; omega)
         have hp2 : PcAt w2 (g + 1) p := (hb2'.block (g + 1) (by have := HS1.out; omega)).trans HP1.out
         have hx2 : Boxed w2 (g + 2) 4 (.bool false) := (hb2'.block (g + 2) (by have := HS1.out; omega)).trans HX1.out
         have HX2 := Lib.hid hx2
         have HP2 := Lib.hid hp2
         have hld2 := run_loadD w2 g D hd2
         have p1 := hp2.c1
         have x0 := hx2.cell
         have x1 := hx2.frozen
         obtain ⟨h, hh⟩ : ∃ h, w2.heap.size = h := ⟨_, rfl⟩
         have HH := Lib.hid hh
         clear hb2 hb2' hd2 hp2 hx2))
    have HBX := Lib.hid (HX2.out.set (.bool false))
    refine ⟨.bool false, ?_, by rw [HE.out], ?_⟩
    · have c5 := HBX.out.cell
      simp [results, Tryd.f16, go_sem, c5]
    · first | exact HB2.out.setCell (p := ⟨g + 2, 0, none⟩) (by show g ≤ g + 2; omega) _ | (rw [HG.out]; exact HB2.out.setCell (p := ⟨g + 2, 0, none⟩) (by show g ≤ g + 2; omega) _)
  | true =>
    have HE : Hid (headP (pcsA M (LS p.s) 0) p = r) := Lib.hid (by rw [← HR.out]; unfold wholeM; rw [HQ.out, Bool.true_and])
    gi_wp2_with (first
      | (refine ⟨trivial, ?_⟩; gi_at_call 24; refine (callsIn_wide.2 HRM.out).mono ?_; rintro x w2 ⟨rfl, hb2⟩; have hb2' : Below W1.heap.size W1 w2 := by rw [← HW1.out] at hb2; exact hb2
         have HB2 : Hid (Below g w w2) := Lib.hid (HB1.out.trans (hb2'.mono (by have := HS1.out; omega)))
         have hgl : g + 3 ≤ w2.heap.size := by have := hb2'.size; have := HS1.out; omega
         have hd2 : DfaAt w2 g D := HD1.out.below hb2' (by have := HS1.out; omega)
         have hp2 : PcAt w2 (g + 1) p := (hb2'.block (g + 1) (by have := HS1.out; omega)).trans HP1.out
         have hx2 : Boxed w2 (g + 2) 4 (.bool false) := (hb2'.block (g + 2) (by have := HS1.out; omega)).trans HX1.out
         have HX2 := Lib.hid hx2
         have HP2 := Lib.hid hp2
         have hld2 := run_loadD w2 g D hd2
         have p1 := hp2.c1
         have x0 := hx2.cell
         have x1 := hx2.frozen
         obtain ⟨h, hh⟩ : ∃ h, w2.heap.size = h := ⟨_, rfl⟩
         have HH := Lib.hid hh
         clear hb2 hb2' hd2 hp2 hx2)
      | (refine ⟨trivial, ?_⟩; gi_at_call 26; refine (callsIn_wide.2 (pieces_any _ D p.s h HH.out)).mono ?_; rintro x w' ⟨rfl, rfl⟩))
    obtain ⟨W3, hW3⟩ : ∃ W, W = (w2.alloc (.cells (dfA D) 26)).alloc (.cells #[.string p.s] 9) := ⟨_, rfl⟩
    rw [← hW3]
    have hbA : Below h w2 W3 := by rw [hW3, ← HH.out]; exact ((Below.refl _ w2).alloc (Nat.le_refl _) _).alloc (by simp) _
    have hs3 : W3.heap.size = h + 2 := by rw [hW3]; simp [HH.out]
    have hbd : DfaAt W3 h D := by rw [hW3]; exact (DfaAt.new w2 D h HH.out).alloc _
    have hbs : W3.heap[h + 1]? = some (.cells #[.string p.s] 9 (0, 0)) := by
      have := heap_alloc_new (w2.alloc (.cells (dfA D) 26)) (.cells #[.string p.s] 9)
      rw [World.size_alloc, HH.out] at this
      rw [hW3]; exact this
    have hst := pieces_stops 5 (by omega) w2 W3 D M p.s (HM.out.below (by rw [HG.out]; exact HB2.out)) HCC.out HQ.out (HN.out.below (by rw [HG.out]; exact HB2.out)) hs (by rw [HH.out]; exact hbA) (h + 1) h hbs hbd
    rw [HH.out] at hst
    have HBA := Lib.hid hbA
    have hsz2 := HH.out
    clear hW3 hld hld2
    refine wpIn_rangeFunc_ownH rfl (by omega) (gf := 47) (lb := #[.pointer (some ⟨h + 1, 0, none⟩), .pointer (some ⟨h, 0, none⟩)]) rfl trivial (enters_of Tryd.func47 (by kernel_rfl) rfl)
      hst KP.t (KP.b (by omega) (by omega) (by omega)) (Below.refl _ _) (fun _ => rfl) (fun pre W => pre = [] ∧ Below h w2 W ∧ h + 2 ≤ W.heap.size) (fun c pre W => (c = .ret ∧ ∃ x, pre = [x] ∧ Boxed W (g + 2) 4 (.bool (samePc x p))) ∧ Below g w W)
      (OwnFrom.and (ownFrom_pure _ (fun (pre : List Pc) => pre = [])) (OwnFrom.and (ownFrom_below (by omega) (by omega)) (fun _ X Y _ hs hg _ => Nat.le_trans hs hg.size)))
      (fun c => OwnFrom.and (Own.from (fun s X Y row hs hg hrow => by
        obtain ⟨e, x, hx, hb⟩ := hs
        exact ⟨e, x, hx, block_own (β := Unit) (g + 2) _ rfl () X Y row hb hg hrow⟩) _) (ownFrom_below (n₀ := g) (w₀ := w) (by rw [HG.out]; exact Nat.le_refl _) (by omega)))
      ⟨rfl, hbA, by omega⟩
      (fun x a' W => ∃ Bx, h + 2 ≤ Bx ∧ PcAt W Bx x ∧ a' = { tmps := #[.agg (dfA D), .agg #[.int .i64 p.t, .string p.s], .pointer (some ⟨g, 0, none⟩), .pointer (some ⟨g + 1, 0, none⟩), .pointer (some ⟨g + 1 + 1, 0, none⟩), .pointer (some ⟨Bx, 0, none⟩), .agg (dfA D), .bool true, .bool false, .agg (dfA D), .pointer (some ⟨g + 1, 1, none⟩), .string p.s, .func (.func 47) #[] #[.pointer (some ⟨h + 1, 0, none⟩), .pointer (some ⟨h, 0, none⟩)], .agg #[.int .i64 x.t, .string x.s], undef, undef, undef], defers := [] })
      (fun x a' _ X Y row hs hg hr => by
        obtain ⟨Bx, h1, h2, h3⟩ := hs
        exact ⟨Bx, h1, (block_own (β := Unit) Bx _ rfl).from _ () X Y row h2 hg hr, h3⟩) ?assign ?body ?done ?stop
    case assign =>
      rintro l pre x W K hi hK
      have hsz : h + 2 ≤ W.heap.size := hi.2.2
      obtain ⟨hb, hp⟩ := pc_box W x
      simp only [encP]
      gi_wp2
      exact hK _ _ (keepsFrom_below hb) (KP.below hb (by omega) (by omega) (by omega)) ⟨hi.1, hi.2.1.trans (hb.mono (by omega)), by have := hb.size; omega⟩ ⟨W.heap.size, hsz, hp, rfl⟩
    case body =>
      rintro l pre x a' W hl hr ⟨rfl, hbw, hws⟩ ⟨Bx, hBx, hP, rfl⟩ hlt
      have HBW := Lib.hid hbw
      have hpp : PcAt W (g + 1) p := (hbw.block (g + 1) (by omega)).trans HP2.out
      have hxx : Boxed W (g + 2) 4 (.bool false) := (hbw.block (g + 2) (by omega)).trans HX2.out
      have HXX := Lib.hid hxx
      have p0 := hP.c0
      have p1 := hP.c1
      have q0 := hpp.c0
      have q1 := hpp.c1
      have y0 := hxx.cell
      have y1 := hxx.frozen
      clear hbw hpp hxx hP
      have HP := Lib.hid (show ∀ b, samePc x p = b → ownPostG W3.heap.size (KP h (h + 1) h) (fun pre W => pre = [] ∧ Below h w2 W ∧ h + 2 ≤ W.heap.size) (fun c pre W => (c = .ret ∧ ∃ x, pre = [x] ∧ Boxed W (g + 2) 4 (.bool (samePc x p))) ∧ Below g w W) ([] ++ [x]) W Exit.ret { tmps := #[], defers := [] } (W.setCell ⟨g + 1 + 1, 0, none⟩ (.bool b)) from fun b hb =>
        ⟨(KeepsOthers.setCell _ _ _).from _, ⟨rfl, x, rfl, by rw [hb]; exact HXX.out.set _⟩, (HB2.out.trans (HBW.out.mono (by omega))).setCell (p := ⟨g + 1 + 1, 0, none⟩) (by show g ≤ g + 1 + 1; omega) _⟩)
      gi_wp2
      all_goals refine HP.out _ ?_
      all_goals clear HP
      all_goals unfold samePc

      all_goals simp [*]
    case done =>
      rintro Dd ys W hD hS ⟨rfl, hbw, hws⟩ hK
      have hxx : Boxed W (g + 2) 4 (.bool false) := (hbw.block (g + 2) (by omega)).trans HX2.out
      have y0 := hxx.cell
      have y1 := hxx.frozen
      gi_wp2
      have hK' := (KeepsOthers.setCell W ⟨g + 1 + 1, 0, none⟩ (.bool false)).same Dd _ hK rfl
      refine ⟨by simp, .inl ⟨_, _, rfl, run_takeDeferred hK', ?_⟩⟩
      have hB' : Boxed (W.setCell ⟨g + 1 + 1, 0, none⟩ (.bool false)) (g + 2) 4 (.bool false) := Boxed.set _ hxx
      have c5 := cell_kept hB'.cell (grownBy_putObj' _ Dd (.deferred none)) (fun r e => by cases e; exact ⟨_, hK', rfl⟩)
      have hyp : r = false := by
        have h9 : [] = pcsA M (LS p.s) 0 := hS
        rw [← HE.out, ← h9]; rfl
      have hfin : Below g w ((W.setCell ⟨g + 1 + 1, 0, none⟩ (.bool false)).putObj Dd (.deferred none)) := (HB2.out.trans ((hbw.mono (by omega)).setCell (p := ⟨g + 1 + 1, 0, none⟩) (by show g ≤ g + 1 + 1; omega) _)).trans (belowK_b (w := w2) (by omega) _ Dd _ _ (by omega) hK' rfl rfl)
      refine ⟨.bool false, ?_, by rw [hyp], by first | exact hfin | (rw [HG.out]; exact hfin)⟩
      simp [results, Tryd.f16, go_sem, c5]
    case stop =>
      rintro Dd c pre W hD hS ⟨⟨rfl, x, rfl, hx⟩, hb⟩ hK
      gi_wp2
      refine ⟨by simp, .inl ⟨_, _, rfl, run_takeDeferred hK, ?_⟩⟩
      have c5 := cell_kept hx.cell (grownBy_putObj' _ Dd (.deferred none)) (fun r e => by cases e; exact ⟨_, hK, rfl⟩)
      have hyp : r = samePc x p := by
        obtain ⟨t, ht⟩ : [x] <+: pcsA M (LS p.s) 0 := hS
        rw [← HE.out, ← ht]; rfl
      have hfin : Below g w (W.putObj Dd (.deferred none)) := hb.trans (belowK_b (w := w2) (by omega) _ Dd _ _ (by omega) hK rfl rfl)
      refine ⟨.bool (samePc x p), ?_, by rw [hyp], by first | exact hfin | (rw [HG.out]; exact hfin)⟩
      simp [results, Tryd.f16, go_sem, c5]
end Go.Proofs.YtenijacffcdnaaaDoor
/- Is this a small machine? Whatever it answers. -/
namespace Go.Proofs.YtenijacffcdnaaaDoor
open Go.RowKit Go.Sort Go.PlainAid
set_option linter.unusedVariables false
set_option linter.unusedSimpArgs false
/-- One of the two. -/
def isB (e : Ending) : Prop := ∃ b : Bool, e = .returned (.bool b)
attribute [local go_sem ↓] loadA_eq storeA_eq loadD_eq
set_option maxHeartbeats 4000000 in
set_option maxRecDepth 100000 in
theorem small_any (w : World) (D : Df) (M : MS) (h : MAt w D M) :
    Calls Tryd.prog 7 #[.agg (dfA D)] w fun e w' => isB e ∧ Below w.heap.size w w' := by
  have HM := Lib.hid h
  have hnm := h.nx.len.2
  have hlm := h.lb.2.1
  obtain ⟨g, hg⟩ : ∃ g, w.heap.size = g := ⟨_, rfl⟩
  have HG := Lib.hid hg
  obtain ⟨W1, hW1, hs1, hb1, hd1⟩ := box_dfa hg D
  have HW1 := Lib.hid hW1
  have HB1 := Lib.hid hb1
  have HD1 := Lib.hid hd1
  clear h hs1 hb1 hd1
  go_enter Tryd.func7, Tryd.ntmps7
  go_wp2
  rw [← hW1]
  clear hW1
  go_loopw [3, 4] (fun nv iv wr => ∃ (k : Nat) (z : Int), k ≤ D.nl ∧ iv = .int .i64 (k : Int) ∧ nv = .int .i64 z ∧ DfaAt wr g D ∧ Below g w wr) (fun _ i _ => D.nl - (intOf i).toNat)
  case atStart => exact ⟨0, 0, by omega, rfl, rfl, HD1.out, HB1.out⟩
  case round =>
    obtain ⟨k, z, hk, rfl, rfl, hd, hb⟩ := hrel
    have HD := Lib.hid hd
    have HB := Lib.hid hb
    have d257 := hd.nx
    have d258 := hd.lb
    by_cases hlt : k < D.nl
    · obtain ⟨b1, off, l, ha, hbl, hl, A, cc, hc, hr⟩ := (HM.out.nx.below (by rw [HG.out]; exact hb)).at_ hlt
      rw [ha] at d257
      have z0 : (0 : Int) ≤ (k : Int) := by omega
      have z1 : (k : Int) < (D.nl : Int) := by omega
      clear hd hb hr hl ha
      go_wp2
      go_roundw
      case rel => exact ⟨k + 1, _, by omega, by go_num, rfl, HD.out, HB.out⟩
      case measure => simp [intOf]; omega
    · have z1 : ¬ (k : Int) < (D.nl : Int) := by omega
      clear hd hb
      go_wp2
      all_goals go_ret
      all_goals exact ⟨⟨_, rfl⟩, by first | exact HB.out | (rw [HG.out]; exact HB.out)⟩
end Go.Proofs.YtenijacffcdnaaaDoor
/- The reader's small functions. -/
namespace Go.Proofs.YtenijacffcdnaaaDoor
open Go.RowKit Go.PlainAid
set_option linter.unusedVariables false

/-- Is a byte one of a text's? -/
def inB (s : ByteArray) (c : Nat) : Bool := (LS s).any fun x => x.toNat == c
theorem bt_LS (s : ByteArray) (k : Nat) (h : k < s.size) : ∃ x : UInt8, (LS s)[k]? = some x ∧ bt s k = (x.toNat : Int) :=
  ⟨_, LS_at s k h, (get_bt s k h).symm⟩
theorem inB_yes {s : ByteArray} {c k : Nat} (h : k < s.size) (e : bt s k = (c : Int)) : inB s c = true := by
  obtain ⟨x, h1, h2⟩ := bt_LS s k h
  unfold inB
  rw [List.any_eq_true]
  exact ⟨x, List.mem_of_getElem? h1, by rw [beq_iff_eq]; omega⟩
theorem inB_no {s : ByteArray} {c : Nat} (h : ∀ k, k < s.size → bt s k ≠ (c : Int)) : inB s c = false := by
  unfold inB
  rw [List.any_eq_false]
  intro x hx
  obtain ⟨k, hk⟩ := List.getElem?_of_mem hx
  have hlt : k < s.size := by rw [← LS_len]; exact (List.getElem?_eq_some_iff.1 hk).1
  obtain ⟨y, h1, h2⟩ := bt_LS s k hlt
  obtain rfl : x = y := Option.some.inj (hk.symm.trans h1)
  have := h k hlt
  simp only [beq_iff_eq]
  omega
theorem all_succ {P : Nat → Prop} {k : Nat} (h : ∀ j, j < k → P j) (hk : P k) : ∀ j, j < k + 1 → P j := fun j hj => by
  by_cases e : j = k
  · rw [e]; exact hk
  · exact h j (by omega)
theorem in_any (s : ByteArray) (c : Nat) (w : World) (hs : s.size ≤ 100000) :
    Calls Tryd.prog 61 #[.string s, .int .u8 (c : Int)] w fun e w' => e = .returned (.bool (inB s c)) ∧ w = w' := by
  have gb := get_bt s
  have hy := Lib.hid fun k h e => inB_yes (s := s) (c := c) (k := k) h e
  have hn := Lib.hid fun h => inB_no (s := s) (c := c) h
  go_enter Tryd.func61, Tryd.ntmps61
  go_wp2
  go_loop [5] (fun i => ∃ k : Nat, k ≤ s.size ∧ i = .int .i64 (k : Int) ∧ ∀ j, j < k → bt s j ≠ (c : Int)) (fun i => s.size - (intOf i).toNat)
  case atStart => exact ⟨0, by omega, rfl, fun j h => by omega⟩
  case round =>
    obtain ⟨k, hk, rfl, hno⟩ := hrel
    have HN := Lib.hid hno
    clear hno
    by_cases hlt : k < s.size
    · have h0 : (0 : Int) ≤ (k : Int) := by omega
      have h1 : (k : Int) < (s.size : Int) := by omega
      by_cases he : bt s k = (c : Int)
      · have t1 : (bt s k == (c : Int)) = true := by rw [beq_iff_eq]; exact he
        have HE := Lib.hid (hy.out k hlt he)
        clear he
        go_wp2
        go_ret
        exact ⟨ret_bool HE.out.symm, rfl⟩
      · have t1 : (bt s k == (c : Int)) = false := by rw [beq_eq_false_iff_ne]; exact he
        have HE := Lib.hid he
        clear he
        go_wp2
        go_round
        case rel => exact ⟨k + 1, by omega, by go_num, all_succ HN.out HE.out⟩
        case measure => simp [intOf]; omega
    · have HE := Lib.hid (hn.out fun j hj => HN.out j (by omega))
      have h1 : ¬ (k : Int) < (s.size : Int) := by omega
      go_wp2
      go_ret
      exact ⟨ret_bool HE.out.symm, rfl⟩
/-- May a byte be seen? -/
def seenB (c : Nat) : Bool := decide (33 ≤ c) && decide (c ≤ 126)
theorem seen_any (c : Nat) (w : World) :
    Calls Tryd.prog 83 #[.int .u8 (c : Int)] w fun e w' => e = .returned (.bool (seenB c)) ∧ w = w' := by
  by_cases h1 : (33 : Int) ≤ (c : Int)
  · by_cases h2 : (c : Int) ≤ 126
    · have HE : Hid (seenB c = true) := Lib.hid (by unfold seenB; rw [decide_eq_true (by omega : 33 ≤ c), decide_eq_true (by omega : c ≤ 126)]; rfl)
      go_enter Tryd.func83, Tryd.ntmps83
      go_wp2
      go_ret
      exact ⟨ret_bool HE.out.symm, rfl⟩
    · have HE : Hid (seenB c = false) := Lib.hid (by unfold seenB; rw [decide_eq_false (by omega : ¬ c ≤ 126), Bool.and_false])
      go_enter Tryd.func83, Tryd.ntmps83
      go_wp2
      go_ret
      exact ⟨ret_bool HE.out.symm, rfl⟩
  · have HE : Hid (seenB c = false) := Lib.hid (by unfold seenB; rw [decide_eq_false (by omega : ¬ 33 ≤ c), Bool.false_and])
    go_enter Tryd.func83, Tryd.ntmps83
    go_wp2
    go_ret
    exact ⟨ret_bool HE.out.symm, rfl⟩
/-- A char that stands for itself. -/
theorem char_any (s but : ByteArray) (k c : Nat) (w : World) (hs : s.size ≤ 100000) (hb : but.size ≤ 100000) (hk : k < s.size) (hc : bt s k = (c : Int)) (h92 : c ≠ 92) (h1 : seenB c = true) (h2 : inB but c = false) :
    Calls Tryd.prog 77 #[.string s, .int .i64 (k : Int), .string but] w fun e w' => e = .returned (.tuple #[.int .u8 (c : Int), .int .i64 ((k : Int) + 1), .bool true]) ∧ w = w' := by
  have gb := get_bt s
  have HSE := Lib.hid (seen_any c w)
  have HIN := Lib.hid (in_any but c w hb)
  rw [h1] at HSE
  rw [h2] at HIN
  have HC := Lib.hid hc
  have t1 : (bt s k == 92) = false := by rw [beq_eq_false_iff_ne, hc]; omega
  have z0 : (0 : Int) ≤ (k : Int) := by omega
  have z1 : (k : Int) < (s.size : Int) := by omega
  have z2 : ¬ (s.size : Int) ≤ (k : Int) := by omega
  clear h1 h2 hc
  go_enter Tryd.func77, Tryd.ntmps77
  go_wp2_with fail
  rw [HC.out]
  refine HSE.out.mono ?_
  rintro e w2 ⟨rfl, rfl⟩
  go_wp2_with fail
  rw [HC.out]
  refine HIN.out.mono ?_
  rintro e w3 ⟨rfl, rfl⟩
  go_wp2
  go_ret3
  rw [HC.out]
  exact ⟨rfl, rfl⟩
end Go.Proofs.YtenijacffcdnaaaDoor
/- rx: Same, Set, Empty, one step behind, parts one behind the other. -/
namespace Go.Proofs.YtenijacffcdnaaaDoor
open Go.RowKit
set_option linter.unusedVariables false

attribute [local go_sem ↓] eqS_eq eqS_eq' eqX_eq eqX_eq'
theorem drewN_drewN (w : World) (a b : Nat) : (w.drewN a).drewN b = w.drewN (a + b) := by simp [World.drewN, Nat.add_assoc]
/-- What is handed out: a row of the call's own of these steps. -/
def Gives (w : World) (rs : List Rx) (e : Ending) (w' : World) : Prop := ∃ v, e = .returned v ∧ w'.ownsRow w.heap.size 104 5 v rs.length (rs.flatMap rxC) ∧ Below w.heap.size w w'
theorem own_lit1 (w : World) (base : Nat) (hb : base ≤ w.heap.size) (r : Rx) (cs : Array Value) (hcs : cs = (rxC r).toArray) : (w.alloc (.cells cs 104)).ownsRow base 104 5 (.slice (some ⟨w.heap.size, 0, none⟩) 1 1) 1 ([r].flatMap rxC) := by
  subst hcs
  refine ⟨rfl, .inr ⟨w.heap.size, 1, _, rfl, hb, heap_alloc_new w _, Nat.le_refl _, by decide, rfl, by simp; exact List.take_of_length_le (Nat.le_of_eq (rxC_len r))⟩⟩
theorem refset_any (S : Nat → Bool) (w : World) : Calls Tryd.prog 64 #[setV S] w (Gives w [⟨1, S⟩]) := by
  have ho := own_lit1 (w.alloc (.cells #[.int .u64 (wd S 0), .int .u64 (wd S 1), .int .u64 (wd S 2), .int .u64 (wd S 3)] 90)) w.heap.size (by simp) ⟨1, S⟩ #[.int .i64 1, .int .u64 (wd S 0), .int .u64 (wd S 1), .int .u64 (wd S 2), .int .u64 (wd S 3)] rfl
  have HO := Lib.hid ho
  clear ho
  unfold setV Gives
  go_enter Tryd.func64, Tryd.ntmps64
  go_wp2
  go_ret
  exact ⟨_, rfl, by simpa using HO.out, ((Below.refl _ _).alloc (Nat.le_refl _) _).alloc (by simp) _⟩
theorem refempty_any (w : World) : Calls Tryd.prog 78 #[] w (Gives w [stp0 2]) := by
  have HO := Lib.hid (own_lit1 w w.heap.size (Nat.le_refl _) (stp0 2) #[.int .i64 2, .int .u64 0, .int .u64 0, .int .u64 0, .int .u64 0] (by rw [stp0_C]))
  unfold Gives
  go_enter Tryd.func78, Tryd.ntmps78
  go_wp2
  go_ret
  exact ⟨_, rfl, HO.out, (Below.refl _ _).alloc (Nat.le_refl _) _⟩
/-- Steps behind a row of the call's own. -/
theorem app_rxs {w : World} {base n : Nat} {v : Value} {xs : List Rx} (hown : w.ownsRow base 104 5 v n (xs.flatMap rxC)) {a : Option Addr} {m c : Nat} {os : List Rx} (hr : CRow rxC 5 w a m os) (hn : n + m ≤ 200000) (hbase : base ≤ w.heap.size)
    (ops : Array Oper) (rest : List Oper) (o : Oper) (act : Act) (Q : Exit → Act → World → Prop) (hg : o.guard = none) (s x : Operand) (ho : o.op = .call { callee := .builtin .append, args := #[s, x], argTypes := #[44, 44] })
    (hs : act.eval s = v) (hx : act.eval x = .slice a m c)
    (h : ∀ v' w', w'.ownsRow base 104 5 v' (n + m) ((xs ++ os).flatMap rxC) → w.grownBy w' v.ownBlock → (v'.ownBlock = v.ownBlock ∨ v'.ownBlock = some w.heap.size) →
      wpList Tryd.prog ops Q rest (act.put o.dst v') w') : wpList Tryd.prog ops Q (o :: rest) act w := by
  obtain ⟨i0, hii, hz0, hz1, hz2⟩ := info_parts infoRx
  exact wpList_append_row w hg s x 44 ho base 104 i0 _ 40 Tryd.underlying44 hii hz0 hz1 hz2 rfl (by omega) rxC_len rxC_one v n (xs.flatMap rxC) hs hown a m c os hx hr (by unfold maxLen; omega) (by omega) hbase
    fun v' w' h1 h2 h3 => h v' w' (by rw [List.flatMap_append]; exact h1) h2 h3
end Go.Proofs.YtenijacffcdnaaaDoor
/- rx: one step behind; parts one behind the other. -/
namespace Go.Proofs.YtenijacffcdnaaaDoor
open Go.RowKit
set_option linter.unusedVariables false

def oneF (rs : List Rx) (k : Int) : List Rx := rs ++ [stp0 k]
theorem app_rx {w : World} {base n : Nat} {v : Value} {os : List Rx} (hown : w.ownsRow base 104 5 v n (os.flatMap rxC)) (k : Int) (hn : n ≤ 200000) (hbase : base ≤ w.heap.size) (H : Nat) (hH : w.heap.size = H)
    (ops : Array Oper) (rest : List Oper) (o : Oper) (a : Act) (Q : Exit → Act → World → Prop) (hg : o.guard = none) (s x : Operand) (ho : o.op = .call { callee := .builtin .append, args := #[s, x], argTypes := #[44, 44] })
    (hs : a.eval s = v) (hx : a.eval x = .slice (some ⟨H, 0, none⟩) 1 1)
    (h : ∀ g cap w', w'.ownsRow base 104 5 (.slice (some ⟨g, 0, none⟩) (n + 1) cap) (n + 1) ((os ++ [stp0 k]).flatMap rxC) → (w.alloc (.cells #[.int .i64 k, .int .u64 0, .int .u64 0, .int .u64 0, .int .u64 0] 104)).grownBy w' v.ownBlock → (v.ownBlock = some g ∨ g = H + 1) →
      wpList Tryd.prog ops Q rest (a.put o.dst (.slice (some ⟨g, 0, none⟩) (n + 1) cap)) w') : wpList Tryd.prog ops Q (o :: rest) a (w.alloc (.cells #[.int .i64 k, .int .u64 0, .int .u64 0, .int .u64 0, .int .u64 0] 104)) :=
  app_el (P := Tryd.prog) (C := rxC) (T := 44) (by decide) rxC_len rxC_one Tryd.underlying44 infoRx rfl hown (stp0 k) (by unfold maxLen; omega) (by omega) hbase H hH _ (by rw [stp0_C]) ops rest o a Q hg s x ho hs hx h
set_option maxHeartbeats 1000000 in
theorem refone_any (w : World) (a : Option Addr) (n c : Nat) (rs : List Rx) (k : Int) (h : CRow rxC 5 w a n rs) (hn : n ≤ 100000) :
    Calls Tryd.prog 62 #[.slice a n c, .int .i64 k] w (Gives w (oneF rs k)) := by
  have HR := Lib.hid h
  have HL := Lib.hid h.1
  clear h
  unfold Gives
  obtain ⟨g, hg⟩ : ∃ g, w.heap.size = g := ⟨_, rfl⟩
  have HG := Lib.hid hg
  have HB0 := Lib.hid (show Below g w (w.alloc (.cells #[] 104)) by rw [← hg]; exact (Below.refl _ _).alloc (Nat.le_refl _) _)
  have HO0 := Lib.hid (World.ownsRow_made (base := g) (e := 104) (size := 5) w #[] 0 (Nat.le_of_eq HG.out.symm) (by decide) (by simp))
  rw [hg] at HO0
  go_enter Tryd.func62, Tryd.ntmps62
  go_wp2
  clear hg
  go_loopw [5, 6] (fun v i wr => ∃ j : Nat, j ≤ n ∧ i = .int .i64 (j : Int) ∧ wr.ownsRow g 104 5 v j ((rs.take j).flatMap rxC) ∧ Below g w wr) (fun _ i _ => n - (intOf i).toNat)
  case atStart => exact ⟨0, by omega, rfl, HO0.out, HB0.out⟩
  case round =>
    obtain ⟨j, hj, rfl, hown, hb⟩ := hrel
    clear HO0 HB0
    have HO := Lib.hid hown
    have HB := Lib.hid hb
    have hgl : g ≤ wr.heap.size := by have := HG.out; have := hb.size; omega
    clear hown hb
    by_cases hlt : j < n
    · obtain ⟨b1, o1, r, rfl, hbl, hr, hc⟩ := HR.out.at_ hlt
      have hbg : b1 < g := by have := HG.out; omega
      have kp : ∀ i u, w.cell? ⟨b1, i, none⟩ = some u → wr.cell? ⟨b1, i, none⟩ = some u := fun i u h => (HB.out.cell (p := ⟨b1, i, none⟩) hbg).trans h
      have c0 : wr.cell? ⟨b1, o1 + j * 5, none⟩ = some (.int .i64 r.k) := kp _ _ (hc 0 _ rfl)
      have c1 : wr.cell? ⟨b1, o1 + j * 5 + 1, none⟩ = some (.int .u64 (wd r.s 0)) := kp _ _ (hc 1 _ rfl)
      have c2 : wr.cell? ⟨b1, o1 + j * 5 + 2, none⟩ = some (.int .u64 (wd r.s 1)) := kp _ _ (hc 2 _ rfl)
      have c3 : wr.cell? ⟨b1, o1 + j * 5 + 3, none⟩ = some (.int .u64 (wd r.s 2)) := kp _ _ (hc 3 _ rfl)
      have c4 : wr.cell? ⟨b1, o1 + j * 5 + 4, none⟩ = some (.int .u64 (wd r.s 3)) := kp _ _ (hc 4 _ rfl)
      have HT := Lib.hid (take_snoc hr)
      have HAP := Lib.hid (app_el (P := Tryd.prog) (C := rxC) (T := 44) (by decide) rxC_len rxC_one Tryd.underlying44 infoRx rfl HO.out r (by unfold maxLen; omega) (by omega) hgl wr.heap.size rfl #[.int .i64 r.k, .int .u64 (wd r.s 0), .int .u64 (wd r.s 1), .int .u64 (wd r.s 2), .int .u64 (wd r.s 3)] rfl)
      have h0 : (0 : Int) ≤ (j : Int) := by omega
      have h1 : (j : Int) < (n : Int) := by omega
      clear kp hc hr
      go_wp2_with (at_builtin; refine HAP.out _ _ _ _ _ rfl _ _ rfl rfl rfl ?_; intro gg cap w2 hown1 hgrow hat; have HW := Lib.hid hown1; have HBW := Lib.hid (below_grown (HB.out.alloc hgl (.cells #[.int .i64 r.k, .int .u64 (wd r.s 0), .int .u64 (wd r.s 1), .int .u64 (wd r.s 2), .int .u64 (wd r.s 3)] 104)) (by simp; omega) hgrow (fun j hj => (own_ge HO.out hj).1)); clear hown1 hgrow hat)
      go_roundw
      case rel => exact ⟨j + 1, by omega, by go_num, by rw [HT.out]; exact HW.out, HBW.out⟩
      case measure => simp [intOf]; omega
    · have hjn : j = n := by omega
      subst hjn
      have HK : Hid (rs.take j = rs) := by show _ = _; exact List.take_of_length_le (by rw [HL.out]; exact Nat.le_refl _)
      rw [HK.out] at HO
      have HAP := Lib.hid (app_rx HO.out k (by omega) hgl wr.heap.size rfl)
      go_wp2_with (at_builtin; refine HAP.out _ _ _ _ _ rfl _ _ rfl rfl rfl ?_; intro gg cap w2 hown1 hgrow hat; have HW := Lib.hid hown1; have HBW := Lib.hid (below_grown (HB.out.alloc hgl (.cells #[.int .i64 k, .int .u64 0, .int .u64 0, .int .u64 0, .int .u64 0] 104)) (by simp; omega) hgrow (fun j hj => (own_ge HO.out hj).1)); clear hown1 hgrow hat)
      go_ret
      exact ⟨_, rfl, by unfold oneF; rw [List.length_append, HL.out, HG.out]; exact HW.out, by rw [HG.out]; exact HBW.out⟩
end Go.Proofs.YtenijacffcdnaaaDoor
/- rx: parts one behind the other. -/
namespace Go.Proofs.YtenijacffcdnaaaDoor
open Go.RowKit
set_option linter.unusedVariables false

theorem blk_lt {w : World} {g : Nat} {o : Obj} (h : w.heap[g]? = some o) : g < w.heap.size := by
  rcases Nat.lt_or_ge g w.heap.size with hl | hl
  · exact hl
  · rw [Array.getElem?_eq_none hl] at h; cases h
theorem own_keep {w w' : World} {base : Nat} {e : TypeId} {size : Nat} {v : Value} {n : Nat} {xs : List Value} (h : w.ownsRow base e size v n xs) (hk : ∀ k cur, v.ownBlock = some k → w.heap[k]? = some (.cells cur e (0, 0)) → w'.heap[k]? = w.heap[k]?) : w'.ownsRow base e size v n xs := by
  refine ⟨h.1, ?_⟩
  rcases h.2 with h2 | ⟨g, cap, cur, rfl, hbg, hg, r⟩
  · exact Or.inl h2
  · exact Or.inr ⟨g, cap, cur, rfl, hbg, (hk g cur rfl hg).trans hg, r⟩
theorem own_obj {w : World} {base : Nat} {e : TypeId} {size : Nat} {v : Value} {n : Nat} {xs : List Value} (h : w.ownsRow base e size v n xs) {k : Nat} (hk : v.ownBlock = some k) : ∃ cur, w.heap[k]? = some (.cells cur e (0, 0)) := by
  rcases h.2 with ⟨rfl, _⟩ | ⟨g, cap, cur, rfl, hbg, hg, r⟩
  · simp [Value.ownBlock] at hk
  · have : g = k := by simpa [Value.ownBlock] using hk
    subst this; exact ⟨cur, hg⟩
theorem obj_ne {w : World} {i j : Nat} {a b : Array Value} {s t : TypeId} (h : w.heap[i]? = some (.cells a s (0, 0))) (k : w.heap[j]? = some (.cells b t (0, 0))) (hst : s ≠ t) : i ≠ j := by
  intro e; subst e
  rw [h] at k
  have := Option.some.inj k
  injection this with _ h2 _
  exact hst h2
/-- A part: where its steps lie, and which. -/
structure Rw where
  a : Option Addr
  l : Nat
  c : Nat
  rs : List Rx
instance : Inhabited Rw := ⟨⟨none, 0, 0, []⟩⟩
def slC (o : Rw) : List Value := [.slice o.a o.l o.c]
theorem slC_len (o : Rw) : (slC o).length = 1 := rfl
theorem slC_one (o : Rw) : ∀ u ∈ slC o, u.oneCell' = true := fun u hu => by simp [slC] at hu; subst hu; rfl
def RRow (w : World) (A : Option Addr) (n : Nat) (os : List Rw) : Prop := CRow slC 1 w A n os ∧ ∀ o ∈ os, CRow rxC 5 w o.a o.l o.rs
theorem RRow.below {w w' : World} {A : Option Addr} {n : Nat} {os : List Rw} (h : RRow w A n os) (hb : Below w.heap.size w w') : RRow w' A n os := ⟨h.1.below hb, fun o ho => (h.2 o ho).below hb⟩
/-- Parts with a step behind each but the first one. -/
def behUp (k : Int) (ls : List (List Rx)) : Nat → List Rx
  | 0 => []
  | j + 1 => behUp k ls j ++ ((ls[j]?).getD [] ++ if 0 < j then [stp0 k] else [])
def tot (ls : List (List Rx)) : Nat := (ls.map List.length).sum
theorem sum_take_le (l : List Nat) : ∀ k, (l.take k).sum ≤ l.sum := by
  induction l with
  | nil => intro k; simp
  | cons x l ih =>
    intro k
    cases k with
    | zero => simp
    | succ k => simp [ih k]
theorem beh_len (k : Int) (ls : List (List Rx)) : ∀ j, (behUp k ls j).length ≤ tot (ls.take j) + j
  | 0 => by simp [behUp]
  | j + 1 => by
    have ih := beh_len k ls j
    have h1 : (if 0 < j then [stp0 k] else []).length ≤ 1 := by split <;> simp
    have h2 : tot (ls.take (j + 1)) = tot (ls.take j) + ((ls[j]?).getD []).length := by
      unfold tot; rw [List.take_add_one]
      cases ls[j]? <;> simp
    simp only [behUp, List.length_append]; omega
theorem tot_take (ls : List (List Rx)) (j : Nat) : tot (ls.take j) ≤ tot ls := by
  unfold tot; rw [List.map_take]; exact sum_take_le _ j
theorem tot_at {ls : List (List Rx)} {j : Nat} {l : List Rx} (h : ls[j]? = some l) : l.length ≤ tot ls := by
  have h1 := tot_take ls (j + 1)
  have h2 : tot (ls.take (j + 1)) = tot (ls.take j) + l.length := by unfold tot; rw [List.take_add_one, h]; simp
  omega
theorem beh_next {k : Int} {os : List Rw} {j : Nat} {o : Rw} (h : os[j]? = some o) : behUp k (os.map Rw.rs) (j + 1) = behUp k (os.map Rw.rs) j ++ (o.rs ++ if 0 < j then [stp0 k] else []) := by
  simp only [behUp]; rw [List.getElem?_map, h]; rfl
/-- A box that holds a row of the call's own. -/
structure BoxRow (B : Nat) (w : World) (X : Nat) (v : Value) (rs : List Rx) : Prop where
  blk : w.heap[X]? = some (.cells #[v] 44 (0, 0))
  ow : w.ownsRow B 104 5 v rs.length (rs.flatMap rxC)
theorem BoxRow.below {B : Nat} {w w' : World} {X : Nat} {v : Value} {rs : List Rx} (h : BoxRow B w X v rs) (hb : Below w.heap.size w w') : BoxRow B w' X v rs := ⟨(hb.block X (blk_lt h.blk)).trans h.blk, ownB h.ow hb⟩
set_option maxHeartbeats 4000000 in
theorem many_any (w : World) (A : Option Addr) (n d : Nat) (os : List Rw) (k : Int) (h : RRow w A n os) (hsm : tot (os.map Rw.rs) + n ≤ 2000) :
    Calls Tryd.prog 65 #[.slice A n d, .int .i64 k] w (Gives w (behUp k (os.map Rw.rs) n)) := by
  have hl2 := h.1.2.1
  have HH := Lib.hid h
  have HL := Lib.hid h.1.1
  have HSM := Lib.hid hsm
  have hn2 : n ≤ 2000 := by omega
  obtain ⟨g, hg⟩ : ∃ g, w.heap.size = g := ⟨_, rfl⟩
  have HG := Lib.hid hg
  have HB0 := Lib.hid (show Below g w (w.alloc (.cells #[] 104)) by rw [← hg]; exact (Below.refl _ _).alloc (Nat.le_refl _) _)
  have HO0 := Lib.hid (World.ownsRow_made (base := g) (e := 104) (size := 5) w #[] 0 (Nat.le_of_eq HG.out.symm) (by decide) (by simp))
  rw [hg] at HO0
  unfold Gives
  clear h hsm
  go_enter Tryd.func65, Tryd.ntmps65
  go_wp2
  clear hg
  go_loopw [5, 6] (fun v i wr => ∃ (j : Nat), j ≤ n ∧ i = .int .i64 (j : Int) ∧ wr.ownsRow g 104 5 v (behUp k (os.map Rw.rs) j).length ((behUp k (os.map Rw.rs) j).flatMap rxC) ∧ Below g w wr) (fun _ i _ => n - (intOf i).toNat)
  case atStart => exact ⟨0, by omega, rfl, HO0.out, HB0.out⟩
  case round =>
    obtain ⟨j, hj, rfl, hown, hb⟩ := hrel
    clear HO0 HB0
    have HO := Lib.hid hown
    have HB := Lib.hid hb
    have hgl : g ≤ wr.heap.size := by have := HG.out; have := hb.size; omega
    have HLEN : Hid ((behUp k (os.map Rw.rs) j).length ≤ 2000) := Lib.hid (by have := beh_len k (os.map Rw.rs) j; have h2 := tot_take (os.map Rw.rs) j; have := HSM.out; omega)
    clear hown hb
    by_cases hlt : j < n
    · obtain ⟨b1, o1, o, rfl, hbl, ho, hc⟩ := HH.out.1.at_ hlt
      have hbg : b1 < g := by have := HG.out; omega
      have HR := Lib.hid (HH.out.2 o (List.mem_of_getElem? ho))
      have HNX := Lib.hid (beh_next (k := k) ho)
      have HTA : Hid (o.rs.length ≤ 2000) := Lib.hid (by have := tot_at (ls := os.map Rw.rs) (j := j) (l := o.rs) (by rw [List.getElem?_map, ho]; rfl); have := HSM.out; omega)
      obtain ⟨oa, ol, oc, ors⟩ := o
      dsimp only at HR HNX HTA
      have HOL := Lib.hid HR.out.1
      have c0 : wr.cell? ⟨b1, o1 + j, none⟩ = some (.slice oa ol oc) := (HB.out.cell (p := ⟨b1, o1 + j, none⟩) hbg).trans (by have := hc 0 _ rfl; simpa using this)
      have HAP := Lib.hid (app_rxs HO.out (HR.out.below (by rw [HG.out]; exact HB.out)) (c := oc) (by have := HLEN.out; have := HTA.out; have := HOL.out; omega) hgl)
      have h0 : (0 : Int) ≤ (j : Int) := by omega
      have h1 : (j : Int) < (n : Int) := by omega
      clear hc ho
      obtain ⟨xs, hxs⟩ : ∃ xs, behUp k (os.map Rw.rs) j = xs := ⟨_, rfl⟩
      rw [hxs] at HAP HNX HLEN
      clear hxs
      by_cases hj0 : j = 0
      · have q1 : ¬ 0 < j := by omega
        have q2 : decide (0 < j) = false := decide_eq_false q1
        have HNX2 : Hid (behUp k (os.map Rw.rs) (j + 1) = xs ++ ors) := Lib.hid (by rw [HNX.out, if_neg q1]; simp)
        clear hj0
        go_wp2_with (at_builtin; refine HAP.out _ _ _ _ _ rfl _ _ rfl rfl rfl ?_; intro v2 w2 hown1 hgrow hat; have HW := Lib.hid hown1; have HBW := Lib.hid (below_grown HB.out hgl hgrow (fun j hj => (own_ge HO.out hj).1)); clear hown1 hgrow hat)
        go_roundw
        case rel => exact ⟨j + 1, by omega, by go_num, by rw [HNX2.out, List.length_append, HOL.out]; exact HW.out, HBW.out⟩
        case measure => simp [intOf]; omega
      · have q1 : 0 < j := by omega
        have q2 : decide (0 < j) = true := decide_eq_true q1
        have HNX2 : Hid (behUp k (os.map Rw.rs) (j + 1) = (xs ++ ors) ++ [stp0 k]) := Lib.hid (by rw [HNX.out, if_pos q1, List.append_assoc])
        clear hj0
        go_wp2_with (first
          | (at_builtin; refine HAP.out _ _ _ _ _ rfl _ _ rfl rfl rfl ?_; intro v2 w2 hown1 hgrow hat; have HW := Lib.hid hown1; have HBW := Lib.hid (below_grown HB.out hgl hgrow (fun j hj => (own_ge HO.out hj).1)); have hg2 : g ≤ w2.heap.size := (by have := HBW.out.size; have := HG.out; omega); have HA3 := Lib.hid (app_rx HW.out k (by have := HLEN.out; have := HTA.out; have := HOL.out; omega) hg2 w2.heap.size rfl); clear hown1 hgrow hat)
          | (at_builtin; refine HA3.out _ _ _ _ _ rfl _ _ rfl rfl rfl ?_; intro gg cap w3 hown2 hgrow2 hat2; have HW2 := Lib.hid hown2; have HBW2 := Lib.hid (below_grown (HBW.out.alloc hg2 (.cells #[.int .i64 k, .int .u64 0, .int .u64 0, .int .u64 0, .int .u64 0] 104)) (by simp; omega) hgrow2 (fun j hj => (own_ge HW.out hj).1)); clear hown2 hgrow2 hat2))
        go_roundw
        case rel => exact ⟨j + 1, by omega, by go_num, by rw [HNX2.out, List.length_append, List.length_append, HOL.out]; exact HW2.out, HBW2.out⟩
        case measure => simp [intOf]; omega
    · have hjn : j = n := by omega
      subst hjn
      go_wp2
      go_ret
      exact ⟨_, rfl, by first | exact HO.out | (rw [HG.out]; exact HO.out), by first | exact HB.out | (rw [HG.out]; exact HB.out)⟩
end Go.Proofs.YtenijacffcdnaaaDoor
/- rx: Cat, Alt; are these few steps. -/
namespace Go.Proofs.YtenijacffcdnaaaDoor
open Go.RowKit
set_option linter.unusedVariables false

def catR (os : List Rw) (n : Nat) : List Rx := if n = 0 then [stp0 2] else behUp 3 (os.map Rw.rs) n
def altR (os : List Rw) (n : Nat) : List Rx := if n = 0 then [⟨1, emptyS⟩] else behUp 4 (os.map Rw.rs) n
theorem refcat_any (w : World) (A : Option Addr) (n d : Nat) (os : List Rw) (h : RRow w A n os) (hsm : tot (os.map Rw.rs) + n ≤ 2000) :
    Calls Tryd.prog 63 #[.slice A n d] w (Gives w (catR os n)) := by
  have hl2 := h.1.2.1
  have HE := Lib.hid (refempty_any w)
  have HM := Lib.hid (many_any w A n d os 3 h hsm)
  unfold Gives catR at *
  clear h hsm
  by_cases h0 : n = 0
  · rw [if_pos h0]
    have j1 : ((n : Int) == 0) = true := by simp [h0]
    clear HM
    go_enter Tryd.func63, Tryd.ntmps63
    go_wp2_with fail
    refine HE.out.mono ?_
    rintro e w1 ⟨v, rfl, hown, hb⟩
    have HO := Lib.hid hown
    have HB := Lib.hid hb
    clear hown hb HE
    go_wp2
    go_ret
    exact ⟨_, rfl, HO.out, HB.out⟩
  · rw [if_neg h0]
    have j1 : ((n : Int) == 0) = false := by simp [h0]
    clear HE
    go_enter Tryd.func63, Tryd.ntmps63
    go_wp2_with fail
    refine HM.out.mono ?_
    rintro e w1 ⟨v, rfl, hown, hb⟩
    have HO := Lib.hid hown
    have HB := Lib.hid hb
    clear hown hb HM
    go_wp2
    go_ret
    exact ⟨_, rfl, HO.out, HB.out⟩
theorem refalt_any (w : World) (A : Option Addr) (n d : Nat) (os : List Rw) (h : RRow w A n os) (hsm : tot (os.map Rw.rs) + n ≤ 2000) :
    Calls Tryd.prog 50 #[.slice A n d] w (Gives w (altR os n)) := by
  have hl2 := h.1.2.1
  have HE := Lib.hid (refset_any emptyS w)
  have HM := Lib.hid (many_any w A n d os 4 h hsm)
  rw [setV_empty] at HE
  unfold Gives altR at *
  clear h hsm
  by_cases h0 : n = 0
  · rw [if_pos h0]
    have j1 : ((n : Int) == 0) = true := by simp [h0]
    clear HM
    go_enter Tryd.func50, Tryd.ntmps50
    go_wp2_with fail
    refine HE.out.mono ?_
    rintro e w1 ⟨v, rfl, hown, hb⟩
    have HO := Lib.hid hown
    have HB := Lib.hid hb
    clear hown hb HE
    go_wp2
    go_ret
    exact ⟨_, rfl, HO.out, HB.out⟩
  · rw [if_neg h0]
    have j1 : ((n : Int) == 0) = false := by simp [h0]
    clear HE
    go_enter Tryd.func50, Tryd.ntmps50
    go_wp2_with fail
    refine HM.out.mono ?_
    rintro e w1 ⟨v, rfl, hown, hb⟩
    have HO := Lib.hid hown
    have HB := Lib.hid hb
    clear hown hb HM
    go_wp2
    go_ret
    exact ⟨_, rfl, HO.out, HB.out⟩
def msum (ws : List Rw) : Nat := (ws.map fun o => min o.l 1000).sum
theorem msum_take {ws : List Rw} {k : Nat} {o : Rw} (h : ws[k]? = some o) : msum (ws.take (k + 1)) = msum (ws.take k) + min o.l 1000 := by
  unfold msum; rw [List.take_add_one, h]; simp
theorem msum_le (ws : List Rw) (k : Nat) : msum (ws.take k) ≤ 1000 * k := by
  have : ∀ (l : List Rw), msum l ≤ 1000 * l.length := by
    intro l
    induction l with
    | nil => simp [msum]
    | cons o l ih =>
      have e : msum (o :: l) = min o.l 1000 + msum l := by simp [msum]
      rw [e, List.length_cons]; omega
  have h1 := this (ws.take k)
  have h2 : (ws.take k).length ≤ k := List.length_take_le _ _
  omega
def fewR (ws : List Rw) : Bool := decide (ws.length ≤ 40) && decide (msum ws ≤ 900)
theorem few_sum {ws : List Rw} (hl : ∀ o ∈ ws, o.l = o.rs.length) (h : fewR ws = true) : ws.length ≤ 40 ∧ tot (ws.map Rw.rs) ≤ 900 := by
  unfold fewR at h
  simp only [Bool.and_eq_true, decide_eq_true_eq] at h
  refine ⟨h.1, ?_⟩
  have : ∀ (l : List Rw), (∀ o ∈ l, o.l = o.rs.length) → msum l ≤ 900 → tot (l.map Rw.rs) ≤ msum l := by
    intro l
    induction l with
    | nil => intro _ _; simp [tot, msum]
    | cons o l ih =>
      intro hl hm
      have e : msum (o :: l) = min o.l 1000 + msum l := by simp [msum]
      have e2 : tot ((o :: l).map Rw.rs) = o.rs.length + tot (l.map Rw.rs) := by simp [tot]
      have h3 := hl o (by simp)
      rw [e] at hm ⊢
      rw [e2]
      have := ih (fun q hq => hl q (by simp [hq])) (by omega)
      omega
  have := this ws hl h.2
  omega
end Go.Proofs.YtenijacffcdnaaaDoor
/- The reader: an atom. -/
namespace Go.Proofs.YtenijacffcdnaaaDoor
open Go.RowKit Go.PlainAid
set_option linter.unusedVariables false

/-- The byte at a place. -/
def byteAt (s : ByteArray) (k : Nat) : Nat := ((LS s)[k]?.getD 0).toNat
theorem bt_at (s : ByteArray) (k : Nat) (h : k < s.size) : bt s k = (byteAt s k : Int) := by
  obtain ⟨x, h1, h2⟩ := bt_LS s k h
  unfold byteAt
  rw [h1]; exact h2
theorem byteAt_lt (s : ByteArray) (k : Nat) : byteAt s k < 256 := by unfold byteAt; exact UInt8.toNat_lt _
/-- The bytes that may not stand by themselves. -/
def loneB : ByteArray := ⟨#[40, 41, 91, 93, 124, 42, 43, 63, 46]⟩
/-- An atom: a text in brackets, or a byte that stands for itself; the others are not spoken of. -/
def atomF (tx : Nat → Option (List Rx × Nat)) (s : ByteArray) (k : Nat) : Option (List Rx × Nat) :=
  if k < s.size then
    if byteAt s k = 40 then
      match tx (k + 1) with
      | none => none
      | some (l, nx) => if nx < s.size ∧ byteAt s nx = 41 then some (l, nx + 1) else none
    else if byteAt s k = 92 ∨ seenB (byteAt s k) = false ∨ inB loneB (byteAt s k) = true then none
    else some ([⟨1, fun x => x == byteAt s k⟩], k + 1)
  else none
/-- What the reader's functions give where all is well. -/
def Rd (w : World) (l : List Rx) (nx : Nat) (e : Ending) (w' : World) : Prop :=
  ∃ A c, e = .returned (.tuple #[.slice A l.length c, .int .i64 (nx : Int), .bool true]) ∧ w'.ownsRow w.heap.size 104 5 (.slice A l.length c) l.length (l.flatMap rxC) ∧ Below w.heap.size w w'
theorem lone_sep {c : Nat} (h : inB loneB c = false) : c ≠ 46 ∧ c ≠ 91 ∧ c ≠ 40 := by
  refine ⟨?_, ?_, ?_⟩ <;> (rintro rfl; revert h; decide)
set_option maxHeartbeats 2000000 in
theorem atom_any (s : ByteArray) (k : Nat) (tx : Nat → Option (List Rx × Nat)) (hs : s.size ≤ 1000)
    (htx : ∀ (w : World) l nx, tx (k + 1) = some (l, nx) → Calls Tryd.prog 31 #[.string s, .int .i64 ((k + 1 : Nat) : Int)] w (Rd w l nx))
    (w : World) (l : List Rx) (nx : Nat) (h : atomF tx s k = some (l, nx)) :
    Calls Tryd.prog 60 #[.string s, .int .i64 (k : Int)] w (Rd w l nx) := by
  have gb := get_bt s
  unfold atomF at h
  by_cases hk : k < s.size
  case neg => rw [if_neg hk] at h; cases h
  rw [if_pos hk] at h
  have z0 : (0 : Int) ≤ (k : Int) := by omega
  have z1 : (k : Int) < (s.size : Int) := by omega
  have hba := bt_at s k hk
  by_cases h40 : byteAt s k = 40
  case pos =>
    rw [if_pos h40] at h
    cases htk : tx (k + 1) with
    | none => rw [htk] at h; cases h
    | some p =>
      obtain ⟨l1, n1⟩ := p
      rw [htk] at h
      simp only at h
      split at h
      case isFalse => cases h
      case isTrue hn =>
        simp only [Option.some.injEq, Prod.mk.injEq] at h
        obtain ⟨rfl, rfl⟩ := h
        have HT := Lib.hid (htx w l1 n1 htk)
        have t1 : (bt s k == 40) = true := by rw [beq_iff_eq, hba, h40]; rfl
        have y0 : (0 : Int) ≤ (n1 : Int) := by omega
        have y1 : (n1 : Int) < (s.size : Int) := by have := hn.1; omega
        have y2 : ¬ (s.size : Int) ≤ (n1 : Int) := by have := hn.1; omega
        have t2 : (bt s n1 != 41) = false := by rw [bne_eq_false_iff_eq, bt_at s n1 hn.1, hn.2]; rfl
        clear hn htk h40 hba htx
        go_enter Tryd.func60, Tryd.ntmps60
        go_wp2_with fail
        refine HT.out.mono ?_
        rintro e w2 ⟨A, c, rfl, ho, hb⟩
        have HO := Lib.hid ho
        have HB := Lib.hid hb
        clear ho hb
        go_wp2
        go_ret3
        exact ⟨A, c, rfl, HO.out, HB.out⟩
  case neg =>
    rw [if_neg h40] at h
    split at h
    case isTrue => cases h
    case isFalse hn =>
      simp only [Option.some.injEq, Prod.mk.injEq] at h
      obtain ⟨rfl, rfl⟩ := h
      simp only [not_or] at hn
      obtain ⟨h92, hse, hlo⟩ := hn
      have hse : seenB (byteAt s k) = true := by simpa using hse
      have hlo : inB loneB (byteAt s k) = false := by simpa using hlo
      obtain ⟨h46, h91, _⟩ := lone_sep hlo
      obtain ⟨b, hbb⟩ : ∃ b, byteAt s k = b := ⟨_, rfl⟩
      have hb256 : b < 256 := by rw [← hbb]; exact byteAt_lt _ _
      rw [hbb] at h40 h92 hse hlo h46 h91 hba ⊢
      have HCH := Lib.hid (char_any s loneB k b w (by omega) (by decide) hk hba h92 hse hlo)
      have HON := Lib.hid fun w' => one_any b w' hb256
      have HSE := Lib.hid fun w' => refset_any (fun x => x == b) w'
      have t1 : (bt s k == 40) = false := by rw [beq_eq_false_iff_ne, hba]; omega
      have t2 : (bt s k == 46) = false := by rw [beq_eq_false_iff_ne, hba]; omega
      have t3 : (bt s k == 91) = false := by rw [beq_eq_false_iff_ne, hba]; omega
      clear h40 h92 hse hlo h46 h91 hba htx hbb
      go_enter Tryd.func60, Tryd.ntmps60
      go_wp2_with fail
      refine HCH.out.mono ?_
      rintro e w2 ⟨rfl, rfl⟩
      go_wp2_with fail
      refine (HON.out _).mono ?_
      rintro e w3 ⟨rfl, hb3⟩
      have HB3 := Lib.hid hb3
      clear hb3
      go_wp2_with fail
      refine (HSE.out _).mono ?_
      rintro e w4 ⟨v, rfl, ho4, hb4⟩
      obtain ⟨A, c, rfl, _, _⟩ := own_form ho4
      have HO4 := Lib.hid (own_mono ho4 HB3.out.size)
      have HB4 := Lib.hid (HB3.out.trans (hb4.mono HB3.out.size))
      clear ho4 hb4
      go_wp2
      go_ret3
      exact ⟨A, c, rfl, HO4.out, HB4.out⟩
end Go.Proofs.YtenijacffcdnaaaDoor
