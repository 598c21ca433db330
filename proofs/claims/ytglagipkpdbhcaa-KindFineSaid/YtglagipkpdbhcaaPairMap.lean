/- A map from pairs (a byte's number, a bool) to bytes: which it holds, in the order in which they came. -/
import Derived.Test.YtglagipkpdbhcaaArrAt
import Derived.Laws.StructEq
import Derived.Test.YtglagipkpdbhcaaClasses
namespace Go.Proofs.Ytglagipkpdbhcaa
open Go.RowKit Go.Sort

def pairV (p : Nat × Bool) : Value := .agg #[.int .u8 p.1, .bool p.2]
def entsFrom : Nat → List (Nat × Bool) → List MapEntry
  | _, [] => []
  | i, p :: t => { key := pairV p, val := .int .u8 i, born := i } :: entsFrom (i + 1) t
theorem entsFrom_len : ∀ i l, (entsFrom i l).length = l.length
  | _, [] => rfl
  | i, p :: t => by simp [entsFrom, entsFrom_len (i + 1) t]
theorem entsFrom_snoc : ∀ i l p, entsFrom i (l ++ [p]) = entsFrom i l ++ [{ key := pairV p, val := .int .u8 ((i + l.length : Nat) : Int), born := i + l.length }]
  | i, [], p => by simp [entsFrom]
  | i, q :: t, p => by
    simp only [List.cons_append, entsFrom, entsFrom_snoc (i + 1) t p, List.length_cons]
    rw [show i + 1 + t.length = i + (t.length + 1) by omega]
def findP (p : Nat × Bool) : Nat → List (Nat × Bool) → Option Nat
  | _, [] => none
  | i, q :: t => if p = q then some i else findP p (i + 1) t
def PMap (w : World) (g : Nat) (l : List (Nat × Bool)) : Prop := w.heap[g]? = some (.map (entsFrom 0 l).toArray l.length)

theorem run_pair_eq (p q : Nat × Bool) (w : World) : (Op.equal 42 (pairV p) (pairV q)).run Try.prog w = .ok (decide (p = q)) w := by
  unfold Op.equal Op.maxDepth pairV
  go_simp
  obtain ⟨a, b⟩ := p
  obtain ⟨c, d⟩ := q
  by_cases h1 : a = c
  · subst h1
    by_cases h2 : b = d
    · subst h2; simp
    · simp [h2]
  · have h1' : ¬ (a : Int) = (c : Int) := by omega
    simp [h1, h1']
theorem run_check (e : Bool) (p : Nat × Bool) (w : World) : (Instr.checkKey e 10000 42 (pairV p)).run Try.prog w = .ok () w := by
  unfold pairV
  obtain ⟨n, hn⟩ : ∃ n, 10000 = n + 1 + 1 := ⟨9998, rfl⟩
  rw [hn]
  simp only [Instr.checkKey, Sem.run_bind, run_underlying Try.underlying42 w, Result.andThen_ok, ← Array.forIn_toList, List.forIn_cons, List.forIn_nil]
  simp [part, isAgg, run_underlying Try.underlying5 w, run_underlying Try.underlying4 w]
theorem run_findAsking (p : Nat × Bool) : ∀ (l : List (Nat × Bool)) (i : Nat) (w : World), (Instr.findAsking 42 (pairV p) (entsFrom i l) i).run Try.prog w = .ok ((findP p i l).map fun k => (k, Value.int .u8 k)) w
  | [], i, w => rfl
  | q :: t, i, w => by
    simp only [entsFrom, Instr.findAsking, Sem.run_bind, run_pair_eq, Result.andThen_ok, findP]
    by_cases h : p = q
    · simp [h]
    · simp only [h, decide_false, if_false, Bool.false_eq_true]
      exact run_findAsking p t (i + 1) w
theorem run_findKey (p : Nat × Bool) (l : List (Nat × Bool)) (w : World) : (Instr.findKey 42 (pairV p) (entsFrom 0 l)).run Try.prog w = .ok ((findP p 0 l).map fun k => (k, Value.int .u8 k)) w := by
  unfold Instr.findKey
  simp only [Sem.run_bind, run_underlying Try.underlying42 w, Result.andThen_ok]
  cases l with
  | nil => rfl
  | cons q t =>
    simp only [entsFrom, Instr.findNow, Instr.sameNow, pairV]
    exact run_findAsking p (q :: t) 0 w
theorem run_lookup_pair (c : Bool) (p : Nat × Bool) (l : List (Nat × Bool)) (g : Nat) (w : World) (h : PMap w g l) : (Instr.lookup 40 (.map (some g)) (pairV p) c).run Try.prog w =
    .ok (if c then .tuple #[.int .u8 ((findP p 0 l).getD 0 : Nat), .bool (findP p 0 l).isSome] else .int .u8 ((findP p 0 l).getD 0 : Nat)) w := by
  have hz : (zeroValue 5).run Try.prog w = .ok (.int .u8 0) w := by kernel_rfl
  unfold PMap at h
  unfold Instr.lookup
  simp only [Sem.run_bind, run_underlying Try.underlying40 w, Result.andThen_ok, getObj, Sem.run, h, run_check, Sem.run_pure]
  rw [run_findKey]
  simp only [Result.andThen_ok]
  cases findP p 0 l with
  | none =>
    simp only [Option.map_none, Sem.run_bind, hz, Result.andThen_ok, Sem.run_pure]
    cases c <;> rfl
  | some k =>
    simp only [Option.map_some, Sem.run_bind, Result.andThen_ok, Sem.run_pure]
    cases c <;> rfl
theorem run_update_pair (p : Nat × Bool) (l : List (Nat × Bool)) (g : Nat) (w : World) (h : PMap w g l) (hn : findP p 0 l = none) :
    (Instr.mapUpdate 40 (.map (some g)) (pairV p) (.int .u8 (l.length : Nat))).run Try.prog w = .ok () { w with heap := w.heap.setIfInBounds g (.map (entsFrom 0 (l ++ [p])).toArray (l ++ [p]).length) } := by
  unfold PMap at h
  unfold Instr.mapUpdate
  simp only [Sem.run_bind, run_underlying Try.underlying40 w, Result.andThen_ok, getObj, Sem.run, h, run_check]
  rw [run_findKey, hn]
  simp only [Option.map_none, Result.andThen_ok, setObj, Sem.run, h]
  rw [entsFrom_snoc]
  simp
theorem PMap.lt {w : World} {g : Nat} {l : List (Nat × Bool)} (h : PMap w g l) : g < w.heap.size := by
  rcases Nat.lt_or_ge g w.heap.size with hl | hl
  · exact hl
  · unfold PMap at h; rw [Array.getElem?_eq_none hl] at h; cases h
theorem PMap.below {B g : Nat} {w w' : World} {l : List (Nat × Bool)} (h : PMap w g l) (hb : Below B w w') (hg : g < B) : PMap w' g l := (hb.block g hg).trans h
theorem wpList_update_pair {ops : Array Oper} {rest : List Oper} {o : Oper} {a : Act} {w : World} {Q : Exit → Act → World → Prop} (hgd : o.guard = none) (m k v : Operand) (ho : o.op = .mapUpdate 40 m k v)
    (p : Nat × Bool) (l : List (Nat × Bool)) (g : Nat) (hm : a.eval m = .map (some g)) (hk : a.eval k = pairV p) (hv : a.eval v = .int .u8 (l.length : Nat)) (h : PMap w g l) (hn : findP p 0 l = none)
    (hK : ∀ w', PMap w' g (l ++ [p]) → (∀ B, B ≤ g → Below B w w') → (∀ k, k ≠ g → w'.heap[k]? = w.heap[k]?) → w'.heap.size = w.heap.size → wpList Try.prog ops Q rest (a.put o.dst undef) w') : wpList Try.prog ops Q (o :: rest) a w := by
  refine wpList_plain hgd fun K hKK => ?_
  unfold Oper.wp execOp
  simp only [ho, hm, hk, hv, Sem.run_bind, run_update_pair p l g w h hn, Result.andThen_ok, Sem.run_pure]
  have hlt := h.lt
  refine hKK _ _ (hK _ ?_ (fun B hB => ⟨rfl, rfl, rfl, by simp, fun k hk => ?_⟩) (fun k hk => ?_) (by simp))
  · unfold PMap; simp [hlt]
  · rw [Array.getElem?_setIfInBounds, if_neg (by omega)]
  · rw [Array.getElem?_setIfInBounds, if_neg (fun e => hk e.symm)]
theorem wpList_lookup_pair {ops : Array Oper} {rest : List Oper} {o : Oper} {a : Act} {w : World} {Q : Exit → Act → World → Prop} (hgd : o.guard = none) (m k : Operand) (c : Bool) (ho : o.op = .lookup 40 m k c)
    (p : Nat × Bool) (l : List (Nat × Bool)) (g : Nat) (hm : a.eval m = .map (some g)) (hk : a.eval k = pairV p) (h : PMap w g l)
    (hK : wpList Try.prog ops Q rest (a.put o.dst (if c then .tuple #[.int .u8 ((findP p 0 l).getD 0 : Nat), .bool (findP p 0 l).isSome] else .int .u8 ((findP p 0 l).getD 0 : Nat))) w) : wpList Try.prog ops Q (o :: rest) a w := by
  refine wpList_plain hgd fun K hKK => ?_
  unfold Oper.wp execOp
  simp only [ho, hm, hk, Sem.run_bind, run_lookup_pair c p l g w h, Result.andThen_ok, Sem.run_pure]
  exact hKK _ _ hK

/-! ### Which pairs have come so far -/
section
variable (q : Nat → Nat × Bool)
def news : Nat → List (Nat × Bool)
  | 0 => []
  | n + 1 => news n ++ if isNew q n then [q n] else []
theorem news_len : ∀ n, (news q n).length = cnt q n
  | 0 => rfl
  | n + 1 => by simp only [news, cnt, List.length_append, news_len n]; split <;> simp_all
theorem findP_append (p : Nat × Bool) : ∀ (i : Nat) (l m : List (Nat × Bool)), findP p i (l ++ m) = (findP p i l).or (findP p (i + l.length) m)
  | i, [], m => by simp [findP]
  | i, r :: l, m => by
    simp only [List.cons_append, findP]
    by_cases h : p = r
    · simp [h]
    · simp only [h, if_false, findP_append p (i + 1) l m, List.length_cons]
      rw [show i + 1 + l.length = i + (l.length + 1) by omega]
theorem findP_news (b : Nat) : ∀ n, findP (q b) 0 (news q n) = if fi q b < n then some (cls q b) else none
  | 0 => by simp [news, findP]
  | n + 1 => by
    simp only [news]
    rw [findP_append, findP_news b n, news_len]
    generalize hm : (if isNew q n = true then [q n] else []) = m
    by_cases h : fi q b < n
    · have h2 : fi q b < n + 1 := by omega
      rw [if_pos h, if_pos h2]; rfl
    · rw [if_neg h]
      by_cases hn : isNew q n = true
      · rw [if_pos hn] at hm
        subst hm
        simp only [Option.none_or, findP]
        by_cases he : q b = q n
        · have hf : fi q b = n := by rw [fi_same q he]; exact beq_iff_eq.1 hn
          rw [if_pos he, if_pos (by omega)]
          unfold cls; rw [hf]; simp
        · have hf : fi q b ≠ n := fun e => he (by rw [← e]; exact (fi_eq q b).symm)
          rw [if_neg he, if_neg (by omega)]
      · rw [if_neg hn] at hm
        subst hm
        have hf : fi q b ≠ n := fun e => hn (by rw [← e]; exact isNew_fi q b)
        simp only [findP, Option.none_or]
        rw [if_neg (by omega)]
end
theorem wpList_lookup_miss {ops : Array Oper} {rest : List Oper} {o : Oper} {a : Act} {w : World} {Q : Exit → Act → World → Prop} (hgd : o.guard = none) (m k : Operand) (ho : o.op = .lookup 40 m k true)
    (p : Nat × Bool) (l : List (Nat × Bool)) (g : Nat) (hm : a.eval m = .map (some g)) (hk : a.eval k = pairV p) (h : PMap w g l) (hf : findP p 0 l = none)
    (hK : wpList Try.prog ops Q rest (a.put o.dst (.tuple #[.int .u8 0, .bool false])) w) : wpList Try.prog ops Q (o :: rest) a w :=
  wpList_lookup_pair hgd m k true ho p l g hm hk h (by rw [hf]; exact hK)
theorem wpList_lookup_hit {ops : Array Oper} {rest : List Oper} {o : Oper} {a : Act} {w : World} {Q : Exit → Act → World → Prop} (hgd : o.guard = none) (m k : Operand) (ho : o.op = .lookup 40 m k true)
    (p : Nat × Bool) (l : List (Nat × Bool)) (g n : Nat) (hm : a.eval m = .map (some g)) (hk : a.eval k = pairV p) (h : PMap w g l) (hf : findP p 0 l = some n)
    (hK : wpList Try.prog ops Q rest (a.put o.dst (.tuple #[.int .u8 n, .bool true])) w) : wpList Try.prog ops Q (o :: rest) a w :=
  wpList_lookup_pair hgd m k true ho p l g hm hk h (by rw [hf]; exact hK)
theorem wpList_lookup_plain {ops : Array Oper} {rest : List Oper} {o : Oper} {a : Act} {w : World} {Q : Exit → Act → World → Prop} (hgd : o.guard = none) (m k : Operand) (ho : o.op = .lookup 40 m k false)
    (p : Nat × Bool) (l : List (Nat × Bool)) (g n : Nat) (hm : a.eval m = .map (some g)) (hk : a.eval k = pairV p) (h : PMap w g l) (hf : findP p 0 l = some n)
    (hK : wpList Try.prog ops Q rest (a.put o.dst (.int .u8 n)) w) : wpList Try.prog ops Q (o :: rest) a w :=
  wpList_lookup_pair hgd m k false ho p l g hm hk h (by rw [hf]; exact hK)
theorem run_len_pair (ty : TypeId) (l : List (Nat × Bool)) (g : Nat) (w : World) (h : PMap w g l) : (Builtin.len_ #[40] ty #[.map (some g)]).run Try.prog w = .ok (.int .i64 (l.length : Nat)) w := by
  unfold PMap at h
  unfold Builtin.len_
  simp [run_underlying Try.underlying40 w, getObj, Sem.run, h, entsFrom_len, goInt]
end Go.Proofs.Ytglagipkpdbhcaa
