/- A region that draws its order: one obligation an operation, whatever the order. -/
import Derived.WalkKit
import Derived.Deep.Quiet
namespace Go.Proofs.YtnlpahdjiddooaaDoor
open Go.RowKit

def relUpon (P : Program) (E : World → World → Prop) (w : World) (R : Value → World → Prop) : Result Next → Prop
  | .ok (.value u) w' => E w w' ∧ R u w'
  | .ok .skip w' => E w w' ∧ R undef w'
  | .ok (.enter f args) w' => Calls P f args w' (fun e w'' => ∃ u, e = .returned u ∧ E w w'' ∧ R u w'')
  | _ => False
theorem relUpon_value (P : Program) (E : World → World → Prop) (w : World) (R : Value → World → Prop) (u : Value) (w' : World) : relUpon P E w R (.ok (.value u) w') = (E w w' ∧ R u w') := rfl
theorem relUpon_skip (P : Program) (E : World → World → Prop) (w : World) (R : Value → World → Prop) (w' : World) : relUpon P E w R (.ok .skip w') = (E w w' ∧ R undef w') := rfl
theorem relUpon_enter (P : Program) (E : World → World → Prop) (w : World) (R : Value → World → Prop) (f : FuncId) (args : Array Value) (w' : World) : relUpon P E w R (.ok (.enter f args) w') = Calls P f args w' (fun e w'' => ∃ u, e = .returned u ∧ E w w'' ∧ R u w'') := rfl
/-- What an operation leaves in its slot, and behind what world. -/
def relAt (P : Program) (o : Oper) (a : Act) (E : World → World → Prop) (w : World) (R : Value → World → Prop) : Prop := relUpon P E w R ((execOp a.eval o).run P w)
theorem relAt_eq (P : Program) (o : Oper) (a : Act) (E : World → World → Prop) (w : World) (R : Value → World → Prop) : relAt P o a E w R = relUpon P E w R ((execOp a.eval o).run P w) := rfl
def isV (v : Value) : Value → World → Prop := fun u _ => u = v

section
variable {P : Program} {ops : Array Oper} {E : World → World → Prop} {V : Nat → Value → World → Prop} {a0 : Act} {w0 : World}

def dstAt (ops : Array Oper) (j : Nat) : Option Tmp := (ops[j]?).bind (·.dst)
def who (ops : Array Oper) (t : Tmp) : Option Nat := (List.range ops.size).find? fun j => dstAt ops j == some t
def waits (ops : Array Oper) (i j : Nat) : Bool := ((ops[i]?).map fun o => o.after.any fun e => Region.binds .any e && e.on == j).getD false
/-- Whose value a slot holds when operation i comes up: an operation's for which i waits; else what was there. -/
def whose (ops : Array Oper) (i : Nat) (t : Tmp) : Option Nat := (who ops t).bind fun j => if waits ops i j then some j else none
def sees (ops : Array Oper) (i : Nat) : List (Tmp × Option Nat) := ((ops[i]?).map fun o => (o.looksAt ops).map fun t => (t, whose ops i t)).getD []
def famB (ops : Array Oper) (n : Nat) : Bool :=
  (List.range ops.size).all (fun i => match ops[i]? with
    | none => true
    | some o =>
      (match o.dst with | some t => who ops t == some i && decide (t < n) | none => true) &&
      (o.looksAt ops).all (fun t => match who ops t with | none => true | some j => waits ops i j || waits ops j i || j == i) &&
      o.after.all (fun e => !Region.binds .any e || decide (e.on < i)))

def slotAt (V : Nat → Value → World → Prop) (a0 a : Act) (w : World) (p : Tmp × Option Nat) : Prop :=
  match p.2 with
  | some j => V j (a.tmps.getD p.1 undef) w
  | none => a.tmps.getD p.1 undef = a0.tmps.getD p.1 undef
def Seen (V : Nat → Value → World → Prop) (a0 a : Act) (w : World) : List (Tmp × Option Nat) → Prop
  | [] => True
  | p :: l => slotAt V a0 a w p ∧ Seen V a0 a w l
theorem Seen_of {l : List (Tmp × Option Nat)} {a : Act} {w : World} (h : ∀ p ∈ l, slotAt V a0 a w p) : Seen V a0 a w l := by
  induction l with
  | nil => trivial
  | cons p l ih => exact ⟨h p (by simp), ih fun q hq => h q (by simp [hq])⟩
/-- What is to be shown of operation i. -/
def Ob (P : Program) (ops : Array Oper) (E : World → World → Prop) (V : Nat → Value → World → Prop) (a0 : Act) (w0 : World) (i : Nat) (o : Oper) : Prop :=
  ∀ a w, E w0 w → Seen V a0 a w (sees ops i) → if Region.wanted o (yielded ops a.tmps) = true then relAt P o a E w (V i) else V i undef w
def Obs (P : Program) (ops : Array Oper) (E : World → World → Prop) (V : Nat → Value → World → Prop) (a0 : Act) (w0 : World) : Nat → List Oper → Prop
  | _, [] => True
  | i, o :: l => Ob P ops E V a0 w0 i o ∧ Obs P ops E V a0 w0 (i + 1) l
theorem Obs.at_ (l : List Oper) : ∀ (k : Nat), Obs P ops E V a0 w0 k l → ∀ i o, l[i]? = some o → Ob P ops E V a0 w0 (k + i) o := by
  induction l with
  | nil => intro k _ i o hi; simp at hi
  | cons o' l ih =>
    intro k h i o hi
    cases i with
    | zero =>
      simp only [List.getElem?_cons_zero, Option.some.injEq] at hi
      subst hi; exact h.1
    | succ i =>
      have := ih (k + 1) h.2 i o (by simpa using hi)
      rwa [show k + 1 + i = k + (i + 1) by omega] at this

theorem famB_dst {n i : Nat} {o : Oper} {t : Tmp} (h : famB ops n = true) (ho : ops[i]? = some o) (ht : o.dst = some t) : who ops t = some i ∧ t < n := by
  have hi := (Array.getElem?_eq_some_iff.1 ho).1
  simp only [famB, List.all_eq_true, List.mem_range] at h
  have := h i hi
  simp only [ho, ht, Bool.and_eq_true, beq_iff_eq, decide_eq_true_eq] at this
  exact this.1.1
theorem famB_look {n i : Nat} {o : Oper} {t : Tmp} {j : Nat} (h : famB ops n = true) (ho : ops[i]? = some o) (ht : t ∈ o.looksAt ops) (hw : who ops t = some j) :
    waits ops i j = true ∨ waits ops j i = true ∨ j = i := by
  have hi := (Array.getElem?_eq_some_iff.1 ho).1
  simp only [famB, List.all_eq_true, List.mem_range] at h
  have := h i hi
  simp only [ho, Bool.and_eq_true, List.all_eq_true] at this
  have := this.1.2 t ht
  simp only [hw, Bool.or_eq_true, beq_iff_eq] at this
  rcases this with (h | h) | h
  · exact .inl h
  · exact .inr (.inl h)
  · exact .inr (.inr h)
theorem famB_after {n i : Nat} {o : Oper} {e : Edge} (h : famB ops n = true) (ho : ops[i]? = some o) (he : e ∈ o.after) (hb : Region.binds .any e = true) : e.on < i := by
  have hi := (Array.getElem?_eq_some_iff.1 ho).1
  simp only [famB, List.all_eq_true, List.mem_range] at h
  have := h i hi
  simp only [ho, Bool.and_eq_true, Array.all_eq_true_iff_forall_mem] at this
  have := this.2 e he
  simpa [hb] using this
theorem waits_spec {i j : Nat} (h : waits ops i j = true) : ∃ o, ops[i]? = some o ∧ ∃ e ∈ o.after, Region.binds .any e = true ∧ e.on = j := by
  unfold waits at h
  cases ho : ops[i]? with
  | none => simp [ho] at h
  | some o =>
    simp only [ho, Option.map_some, Option.getD_some] at h
    rw [Array.any_eq_true] at h
    obtain ⟨k, hk, hh⟩ := h
    simp only [Bool.and_eq_true, beq_iff_eq] at hh
    exact ⟨o, rfl, o.after[k], Array.getElem_mem hk, hh.1, hh.2⟩
theorem who_spec {t : Tmp} {j : Nat} (h : who ops t = some j) : dstAt ops j = some t := by
  have := List.find?_some h
  simpa using this

/-- What holds while some operations have come up. -/
structure FamInv (ops : Array Oper) (E : World → World → Prop) (V : Nat → Value → World → Prop) (a0 : Act) (w0 : World) (listed : Array Bool) (a : Act) (w : World) : Prop where
  ext : E w0 w
  dfs : a.defers = a0.defers
  siz : a.tmps.size = a0.tmps.size
  lsz : listed.size = ops.size
  cls : ∀ i o, ops[i]? = some o → listed.getD i false = true → ∀ e ∈ o.after, Region.binds .any e = true → listed.getD e.on false = true
  yes : ∀ t j, who ops t = some j → listed.getD j false = true → V j (a.tmps.getD t undef) w
  no : ∀ t, (∀ j, who ops t = some j → listed.getD j false = false) → a.tmps.getD t undef = a0.tmps.getD t undef

theorem FamInv.seen {n : Nat} {listed : Array Bool} {a : Act} {w : World} (hB : famB ops n = true) (h : FamInv ops E V a0 w0 listed a w) {i : Nat} (hr : i ∈ Region.ready .any ops listed) : Seen V a0 a w (sees ops i) := by
  obtain ⟨h0, o, ho, hall⟩ := mem_ready.1 hr
  refine Seen_of fun p hp => ?_
  simp only [sees, ho, Option.map_some, Option.getD_some, List.mem_map] at hp
  obtain ⟨t, ht, rfl⟩ := hp
  unfold whose
  cases hw : who ops t with
  | none => exact h.no t (fun j hj => by rw [hw] at hj; cases hj)
  | some j =>
    simp only [Option.bind_some]
    by_cases hwt : waits ops i j = true
    · obtain ⟨o', ho', e, he, hb, rfl⟩ := waits_spec hwt
      rw [ho] at ho'
      obtain rfl := Option.some.inj ho'
      rw [if_pos hwt]
      exact h.yes t _ hw (hall e he hb)
    · have hn : listed.getD j false = false := by
        have hi0 : listed.getD i false = false := by
          have hlt := (Array.getElem?_eq_some_iff.1 ho).1
          have : i < listed.size := by rw [h.lsz]; exact hlt
          simp [this] at h0 ⊢; exact h0
        rcases famB_look hB ho ht hw with h1 | h1 | h1
        · exact absurd h1 hwt
        · cases hl : listed.getD j false with
          | false => rfl
          | true =>
            obtain ⟨o', ho', e, he, hb, rfl⟩ := waits_spec h1
            have := h.cls j o' ho' hl e he hb
            rw [hi0] at this; cases this
        · subst h1; exact hi0
      rw [if_neg hwt]
      exact h.no t (fun k hk => by rw [hw] at hk; obtain rfl := Option.some.inj hk; exact hn)

theorem getD_set {t : Array Value} {d s : Nat} {v : Value} (h : d < t.size) : (t.setIfInBounds d v).getD s undef = if s = d then v else t.getD s undef := by
  by_cases hsd : s = d
  · subst hsd; simp [h]
  · simp [Array.getElem?_setIfInBounds_ne (Ne.symm hsd), hsd]
theorem getD_setB {l : Array Bool} {i j : Nat} (h : i < l.size) : (l.setIfInBounds i true).getD j false = if j = i then true else l.getD j false := by
  by_cases hj : j = i
  · subst hj; simp [h]
  · simp [Array.getElem?_setIfInBounds_ne (Ne.symm hj), hj]

theorem put_other {a : Act} {n : Nat} {i j : Nat} {o : Oper} {t : Tmp} {v : Value} (hB : famB ops n = true) (hs : a.tmps.size = n) (ho : ops[i]? = some o) (hw : who ops t = some j) (hji : j ≠ i) :
    (a.put o.dst v).tmps.getD t undef = a.tmps.getD t undef := by
  cases hd : o.dst with
  | none => rfl
  | some d =>
    obtain ⟨h1, h2⟩ := famB_dst hB ho hd
    have hne : t ≠ d := fun e => by subst e; rw [h1] at hw; exact hji (Option.some.inj hw).symm
    simp only [Act.put]
    rw [getD_set (by rw [hs]; exact h2), if_neg hne]
theorem FamInv.put {listed : Array Bool} {a : Act} {w w' : World} (hB : famB ops a0.tmps.size = true) (hT : ∀ x y z : World, E x y → E y z → E x z)
    (hM : ∀ i v x y, V i v x → E x y → V i v y) (h : FamInv ops E V a0 w0 listed a w) {i : Nat} {o : Oper} (ho : ops[i]? = some o) (hr : i ∈ Region.ready .any ops listed) {v : Value}
    (hE : E w w') (hV : V i v w') : FamInv ops E V a0 w0 (listed.setIfInBounds i true) (a.put o.dst v) w' := by
  have hi : i < listed.size := by rw [h.lsz]; exact (Array.getElem?_eq_some_iff.1 ho).1
  obtain ⟨h0, o', ho', hall⟩ := mem_ready.1 hr
  rw [ho] at ho'
  obtain rfl := Option.some.inj ho'
  refine ⟨hT _ _ _ h.ext hE, ?_, ?_, by simpa using h.lsz, ?_, ?_, ?_⟩
  · cases o.dst <;> exact h.dfs
  · cases hd : o.dst <;> simp [Act.put, h.siz]
  · intro k ok hk hl e he hb
    rw [getD_setB hi] at hl ⊢
    split
    · rfl
    · split at hl
      · rename_i hki; subst hki
        rw [ho] at hk
        obtain rfl := Option.some.inj hk
        exact hall e he hb
      · exact h.cls k ok hk hl e he hb
  · intro t j hw hl
    rw [getD_setB hi] at hl
    have hdj := who_spec hw
    by_cases hji : j = i
    · subst hji
      unfold dstAt at hdj
      simp only [ho, Option.bind_some] at hdj
      have h2 := (famB_dst hB ho hdj).2
      simp only [hdj, Act.put]
      rw [getD_set (by rw [h.siz]; exact h2), if_pos rfl]
      exact hV
    · rw [if_neg hji] at hl
      rw [put_other hB h.siz ho hw hji]
      exact hM _ _ _ _ (h.yes t j hw hl) hE
  · intro t hn
    rw [← h.no t (fun j hj => by have := hn j hj; rw [getD_setB hi] at this; split at this; · cases this
                                 · exact this)]
    cases hd : o.dst with
    | none => rfl
    | some d =>
      obtain ⟨h1, h2⟩ := famB_dst hB ho hd
      have hne : t ≠ d := fun e => by
        subst e
        have := hn i h1
        rw [getD_setB hi, if_pos rfl] at this
        cases this
      simp only [Act.put]
      rw [getD_set (by rw [h.siz]; exact h2), if_neg hne]

theorem relAt.wp {o : Oper} {a : Act} {w : World} {R : Value → World → Prop} {K : Act → World → Prop} {Q : Exit → Act → World → Prop} (h : relAt P o a E w R)
    (hK : ∀ u w', E w w' → R u w' → K (a.put o.dst u) w') : o.wp P a w K Q := by
  unfold relAt at h
  unfold Oper.wp
  generalize (execOp a.eval o).run P w = r at *
  cases r with
  | ok n w' =>
    cases n <;> simp only [relUpon] at h <;> simp only [Oper.upon]
    case value u => exact hK _ _ h.1 h.2
    case skip => exact hK _ _ h.1 h.2
    case enter f args => exact h.mono fun e w'' ⟨u, he, h1, h2⟩ => by subst he; exact hK _ _ h1 h2
  | halt x w' => simp only [relUpon] at h

def unl (listed : Array Bool) (n : Nat) : Nat := (List.range n).countP fun i => !listed.getD i false
theorem unl_zero {listed : Array Bool} {n : Nat} (h : unl listed n = 0) (i : Nat) (hi : i < n) : listed.getD i false = true := by
  unfold unl at h
  rw [List.countP_eq_zero] at h
  have := h i (List.mem_range.2 hi)
  simpa using this
theorem countP_set (p q : Nat → Bool) (i : Nat) (h1 : p i = true) (h2 : q i = false) (hj : ∀ j, j ≠ i → q j = p j) : ∀ n, i < n → (List.range n).countP p = (List.range n).countP q + 1
  | 0, h => by omega
  | n + 1, h => by
    rw [List.range_succ, List.countP_append, List.countP_append]
    by_cases hin : i = n
    · subst hin
      have : (List.range i).countP p = (List.range i).countP q := List.countP_congr fun j hj' => by
        rw [hj j (by have := List.mem_range.1 hj'; omega)]
      simp [this, h1, h2]
    · have := countP_set p q i h1 h2 hj n (by omega)
      rw [this]
      have := hj n (fun e => hin e.symm)
      simp [this]; omega
theorem unl_set {listed : Array Bool} {n i : Nat} (hs : listed.size = n) (hi : i < n) (h : listed.getD i false = false) : unl listed n = unl (listed.setIfInBounds i true) n + 1 := by
  unfold unl
  refine countP_set _ _ i (by simp [h]) ?_ (fun j hj => ?_) n hi
  · simp only [getD_setB (show i < listed.size by omega)]; simp
  · simp only [getD_setB (show i < listed.size by omega), if_neg hj]
/-- As long as one has not come up, one may. -/
theorem some_ready {n : Nat} {listed : Array Bool} (hB : famB ops n = true) (hs : listed.size = ops.size) : ∀ k, (k < ops.size → listed.getD k false = false → Region.ready .any ops listed ≠ []) := by
  intro k
  induction k using Nat.strongRecOn with
  | ind k ih =>
    intro hk hl
    have ho : ops[k]? = some ops[k] := Array.getElem?_eq_getElem hk
    by_cases hall : ∀ e ∈ (ops[k]).after, Region.binds .any e = true → listed.getD e.on false = true
    · have : k ∈ Region.ready .any ops listed := mem_ready.2 ⟨by
        have : k < listed.size := by omega
        simp [this] at hl ⊢; exact hl, ops[k], ho, hall⟩
      intro e; rw [e] at this; cases this
    · simp only [Classical.not_forall] at hall
      obtain ⟨e, he, hb, hne⟩ := hall
      have hlt := famB_after hB ho he hb
      exact ih e.on hlt (by omega) (by simpa using hne)
theorem wpAny_fam {Q : Exit → Act → World → Prop} (hB : famB ops a0.tmps.size = true) (hT : ∀ x y z : World, E x y → E y z → E x z)
    (hM : ∀ i v x y, V i v x → E x y → V i v y) (hE0 : ∀ x, E x x) (hOb : Obs P ops E V a0 w0 0 ops.toList)
    (hQ : ∀ a w, E w0 w → a.defers = a0.defers → a.tmps.size = a0.tmps.size → (∀ t j, who ops t = some j → V j (a.tmps.getD t undef) w) → (∀ t, who ops t = none → a.tmps.getD t undef = a0.tmps.getD t undef) → Q .normal a w) :
    ∀ (fuel : Nat) (listed : Array Bool) (a : Act) (w : World), unl listed ops.size = fuel → FamInv ops E V a0 w0 listed a w → wpAny P .any ops Q fuel listed a w := by
  intro fuel
  induction fuel with
  | zero =>
    intro listed a w hu h
    have hall := fun i hi => unl_zero hu i hi
    refine ⟨?_, hQ a w h.ext h.dfs h.siz (fun t j hj => h.yes t j hj ?_) (fun t ht => h.no t (fun j hj => by rw [ht] at hj; cases hj))⟩
    · cases hr : Region.ready .any ops listed with
      | nil => rfl
      | cons i l =>
        have hi : i ∈ Region.ready .any ops listed := by rw [hr]; simp
        obtain ⟨h0, o, ho, _⟩ := mem_ready.1 hi
        have hlt := (Array.getElem?_eq_some_iff.1 ho).1
        have := hall i hlt
        have hls : i < listed.size := by rw [h.lsz]; exact hlt
        simp [hls] at h0 this
        rw [h0] at this; cases this
    · have hd := who_spec hj
      refine hall j ?_
      unfold dstAt at hd
      rcases Nat.lt_or_ge j ops.size with hl | hl
      · exact hl
      · rw [Array.getElem?_eq_none hl] at hd; cases hd
  | succ fuel ih =>
    intro listed a w hu h
    refine ⟨fun hnil => ?_, fun i hi => ?_⟩
    · exfalso
      have hpos : 0 < unl listed ops.size := by omega
      unfold unl at hpos
      rw [List.countP_pos_iff] at hpos
      obtain ⟨k, hk, hl⟩ := hpos
      exact some_ready hB h.lsz k (List.mem_range.1 hk) (by simpa using hl) hnil
    · obtain ⟨h0, o, ho, _⟩ := mem_ready.1 hi
      have hlt := (Array.getElem?_eq_some_iff.1 ho).1
      have hl0 : listed.getD i false = false := by
        have : i < listed.size := by rw [h.lsz]; exact hlt
        simp [this] at h0 ⊢; exact h0
      have hob := Obs.at_ ops.toList 0 hOb i o (by simpa using ho)
      rw [Nat.zero_add] at hob
      have hob := hob a w h.ext (h.seen hB hi)
      have next : ∀ u w', E w w' → V i u w' → wpAny P .any ops Q fuel (listed.setIfInBounds i true) (a.put o.dst u) w' := fun u w' hE hV =>
        ih _ _ _ (by have := unl_set h.lsz hlt hl0; omega) (h.put hB hT hM ho hi hE hV)
      unfold wpOp
      simp only [ho]
      split
      · rename_i hw
        rw [if_pos hw] at hob
        exact .inl (relAt.wp hob next)
      · rename_i hw
        rw [if_neg hw] at hob
        exact next _ _ (hE0 w) hob
/-- All that the slots hold at the end. -/
def AllV (V : Nat → Value → World → Prop) (x : Nat → Value) (w : World) : Nat → List (Option Tmp) → Prop
  | _, [] => True
  | i, some t :: l => V i (x t) w ∧ AllV V x w (i + 1) l
  | i, none :: l => AllV V x w (i + 1) l
theorem AllV_of {x : Nat → Value} {w : World} : ∀ (l : List (Option Tmp)) (k : Nat), (∀ i t, l[i]? = some (some t) → V (k + i) (x t) w) → AllV V x w k l
  | [], _, _ => trivial
  | some t :: l, k, h => ⟨h 0 t rfl, AllV_of l (k + 1) fun i t hi => by have := h (i + 1) t (by simpa using hi); rwa [show k + (i + 1) = k + 1 + i by omega] at this⟩
  | none :: l, k, h => by
    unfold AllV
    exact AllV_of l (k + 1) fun i t hi => by have := h (i + 1) t (by simpa using hi); rwa [show k + (i + 1) = k + 1 + i by omega] at this
def puts (x : Nat → Value) : List (Option Tmp) → Act → Act
  | [], a => a
  | some t :: l, a => puts x l (a.put (some t) (x t))
  | none :: l, a => puts x l a
theorem puts_defers (x : Nat → Value) : ∀ (l : List (Option Tmp)) (a : Act), (puts x l a).defers = a.defers
  | [], _ => rfl
  | some t :: l, a => by rw [puts, puts_defers x l]; rfl
  | none :: l, a => by rw [puts, puts_defers x l]
theorem puts_size (x : Nat → Value) : ∀ (l : List (Option Tmp)) (a : Act), (puts x l a).tmps.size = a.tmps.size
  | [], _ => rfl
  | some t :: l, a => by rw [puts, puts_size x l]; simp [Act.put]
  | none :: l, a => by rw [puts, puts_size x l]
theorem puts_out (x : Nat → Value) : ∀ (l : List (Option Tmp)) (a : Act) (s : Nat), some s ∉ l → (puts x l a).tmps.getD s undef = a.tmps.getD s undef
  | [], _, _, _ => rfl
  | some t :: l, a, s, h => by
    rw [puts, puts_out x l _ s (fun hh => h (by simp [hh]))]
    have hne : t ≠ s := fun e => h (by simp [e])
    simp [Act.put, Array.getElem?_setIfInBounds_ne hne]
  | none :: l, a, s, h => by rw [puts, puts_out x l _ s (fun hh => h (by simp [hh]))]
theorem puts_in (x : Nat → Value) : ∀ (l : List (Option Tmp)) (a : Act) (s : Nat), some s ∈ l → s < a.tmps.size → (puts x l a).tmps.getD s undef = x s
  | some t :: l, a, s, h, hs => by
    rw [puts]
    by_cases hm : some s ∈ l
    · exact puts_in x l _ s hm (by simpa [Act.put] using hs)
    · rw [puts_out x l _ s hm]
      have : s = t := by simpa [hm] using h
      subst this
      simp [Act.put, hs]
  | none :: l, a, s, h, hs => by
    rw [puts]
    exact puts_in x l _ s (by simpa using h) hs
theorem act_ext {a b : Act} (h1 : a.defers = b.defers) (h2 : a.tmps.size = b.tmps.size) (h3 : ∀ s, s < a.tmps.size → a.tmps.getD s undef = b.tmps.getD s undef) : a = b := by
  obtain ⟨ta, da⟩ := a
  obtain ⟨tb, db⟩ := b
  simp only at h1 h2 h3
  subst h1
  congr 1
  refine Array.ext h2 fun i hi hi' => ?_
  have := h3 i hi
  simpa [hi, hi'] using this

theorem no_list (n j : Nat) : (Array.replicate n false).getD j false = false := by
  by_cases h : j < n
  · simp [h]
  · simp [h]
/-- THE RULE: a region that draws its order. -/
theorem wp_region_fam {id : Nat} {Q : Exit → Act → World → Prop} {w : World} {n : Nat} (ds : List (Option Tmp)) (hm : P.follows .mixedOrders = true) (hn : a0.tmps.size = n) (hB : famB ops n = true)
    (hds : ops.toList.map (·.dst) = ds) (hT : ∀ x y z : World, E x y → E y z → E x z)
    (hM : ∀ i v x y, V i v x → E x y → V i v y) (hE0 : ∀ x, E x x) (hOb : Obs P ops E V a0 w.drew 0 ops.toList)
    (hQ : ∀ x w', E w.drew w' → AllV V x w' 0 ds → Q .normal (puts x ds a0) w') : (Code.region id ops true).wp P Q a0 w := by
  subst hn
  refine wp_region_any hm (wpAny_fam (E := E) (V := V) (w0 := w.drew) hB hT hM hE0 hOb ?_ _ _ _ _ ?_ ?_)
  · intro a w' hE hd hs hy hno
    have hmem : ∀ t, (who ops t = none ↔ some t ∉ ds) := by
      intro t
      rw [← hds]
      unfold who
      rw [List.find?_eq_none]
      constructor
      · intro h hm
        obtain ⟨o, ho, hdo⟩ := List.mem_map.1 hm
        obtain ⟨j, hj⟩ := List.getElem?_of_mem ho
        have hj' : ops[j]? = some o := by simpa using hj
        have hlt := (Array.getElem?_eq_some_iff.1 hj').1
        exact h j (List.mem_range.2 hlt) (by unfold dstAt; simp [hj', hdo])
      · intro h j hj hdj
        apply h
        unfold dstAt at hdj
        have hlt := List.mem_range.1 hj
        have ho : ops[j]? = some ops[j] := Array.getElem?_eq_getElem hlt
        simp only [ho, Option.bind_some, beq_iff_eq] at hdj
        exact List.mem_map.2 ⟨ops[j], Array.getElem_mem_toList hlt, hdj⟩
    have e : a = puts (fun t => a.tmps.getD t undef) ds a0 := by
      refine act_ext (by rw [puts_defers, hd]) (by rw [puts_size, hs]) fun s hlt => ?_
      by_cases hsd : some s ∈ ds
      · rw [puts_in _ _ _ _ hsd (by omega)]
      · rw [puts_out _ _ _ _ hsd]
        exact hno s ((hmem s).2 hsd)
    rw [e]
    refine hQ _ _ hE (AllV_of _ _ fun i t hi => ?_)
    rw [Nat.zero_add]
    refine hy t i ?_
    rw [← hds, List.getElem?_map] at hi
    obtain ⟨o, ho, hdo⟩ := Option.map_eq_some_iff.1 hi
    exact (famB_dst hB (by simpa using ho) hdo).1
  · unfold unl
    rw [List.countP_eq_length.2 (fun j hj => by rw [no_list]; rfl)]
    simp
  · refine ⟨hE0 _, rfl, rfl, by simp, ?_, ?_, fun _ _ => rfl⟩
    · intro i o _ hl; rw [no_list] at hl; cases hl
    · intro t j _ hl; rw [no_list] at hl; cases hl
end
def famV (Vs : List (Value → World → Prop)) (i : Nat) : Value → World → Prop := Vs.getD i fun _ _ => False
def MonoL (E : World → World → Prop) : List (Value → World → Prop) → Prop
  | [] => True
  | R :: l => (∀ v x y, R v x → E x y → R v y) ∧ MonoL E l
theorem MonoL.at_ {E : World → World → Prop} : ∀ {l : List (Value → World → Prop)}, MonoL E l → ∀ i v x y, famV l i v x → E x y → famV l i v y
  | [], _, i, v, x, y, h, _ => absurd h (by simp [famV])
  | R :: l, hm, 0, v, x, y, h, e => hm.1 v x y h e
  | R :: l, hm, i + 1, v, x, y, h, e => by
    have := MonoL.at_ hm.2 i v x y (by simpa [famV] using h) e
    simpa [famV] using this
theorem isV_mono (E : World → World → Prop) (u : Value) : ∀ v x y, isV u v x → E x y → isV u v y := fun _ _ _ h _ => h
section
variable {P : Program} {ops : Array Oper} {E : World → World → Prop} {Vs : List (Value → World → Prop)} {a0 : Act} {w0 : World}
theorem wp_region_fam_lit {id : Nat} {Q : Exit → Act → World → Prop} {w : World} {l : List Oper} {n : Nat} (Vs : List (Value → World → Prop)) (ds : List (Option Tmp)) (hm : P.follows .mixedOrders = true) (hn : a0.tmps.size = n)
    (hB : famB l.toArray n = true) (hds : l.map (·.dst) = ds) (hT : ∀ x y z : World, E x y → E y z → E x z) (hE0 : ∀ x, E x x) (hM : MonoL E Vs)
    (hOb : Obs P l.toArray E (famV Vs) a0 w.drew 0 l) (hQ : ∀ x w', E w.drew w' → AllV (famV Vs) x w' 0 ds → Q .normal (puts x ds a0) w') : (Code.region id l.toArray true).wp P Q a0 w :=
  wp_region_fam (E := E) (V := famV Vs) ds hm hn hB (by simpa using hds) hT hM.at_ hE0 (by simpa using hOb) hQ
theorem Obs.cons {V : Nat → Value → World → Prop} {i : Nat} {j : Nat} {o : Oper} {l : List Oper} (hj : i + 1 = j) (h : Ob P ops E V a0 w0 i o) (hl : Obs P ops E V a0 w0 j l) : Obs P ops E V a0 w0 i (o :: l) := by
  subst hj; exact ⟨h, hl⟩
theorem Ob.free {V : Nat → Value → World → Prop} {i : Nat} {o : Oper} (l : List (Tmp × Option Nat)) (hs : sees ops i = l) (R : Value → World → Prop) (hR : V i = R) (hg : o.guard = none)
    (h : ∀ a w, E w0 w → Seen V a0 a w l → relAt P o a E w R) : Ob P ops E V a0 w0 i o := by
  subst hs; subst hR
  intro a w hE hL
  rw [if_pos (by unfold Region.wanted; rw [hg])]
  exact h a w hE hL
theorem wanted_yes {a : Act} {o : Oper} {g : Nat} {b : Bool} {t : Tmp} (hg : o.guard = some (g, b)) (hd : dstAt ops g = some t) (hv : a.tmps.getD t undef = .bool b) : Region.wanted o (yielded ops a.tmps) = true := by
  unfold dstAt at hd
  unfold Region.wanted yielded
  rw [hg]
  simp only [hd]
  have : a.tmps[t]? = some (.bool b) := by
    rcases Nat.lt_or_ge t a.tmps.size with h | h
    · rw [Array.getElem?_eq_getElem h]
      simp [h] at hv
      rw [hv]
    · simp [Array.getElem?_eq_none h, undef] at hv
  simp [this]
theorem Ob.guarded {V : Nat → Value → World → Prop} {i : Nat} {o : Oper} (l : List (Tmp × Option Nat)) (hs : sees ops i = l) (R : Value → World → Prop) (hR : V i = R) (g : Nat) (b : Bool) (t : Tmp) (hg : o.guard = some (g, b)) (hd : dstAt ops g = some t)
    (h : ∀ a w, E w0 w → Seen V a0 a w l → a.tmps.getD t undef = .bool b ∧ relAt P o a E w R) : Ob P ops E V a0 w0 i o := by
  subst hs; subst hR
  intro a w hE hL
  obtain ⟨hv, h⟩ := h a w hE hL
  rw [if_pos (wanted_yes hg hd hv)]
  exact h
end
section
variable {P : Program} {ops : Array Oper} {E : World → World → Prop} {a0 : Act} {w0 : World}
theorem wanted_no {a : Act} {o : Oper} {g : Nat} {b : Bool} {t : Tmp} (hg : o.guard = some (g, b)) (hd : dstAt ops g = some t) (hv : a.tmps.getD t undef = .bool (!b)) : ¬ Region.wanted o (yielded ops a.tmps) = true := by
  unfold dstAt at hd
  unfold Region.wanted yielded
  rw [hg]
  simp only [hd]
  have : a.tmps[t]? = some (.bool (!b)) := by
    rcases Nat.lt_or_ge t a.tmps.size with h | h
    · rw [Array.getElem?_eq_getElem h]
      simp [h] at hv
      rw [hv]
    · simp [Array.getElem?_eq_none h, undef] at hv
  simp [this]
theorem Ob.skip {V : Nat → Value → World → Prop} {i : Nat} {o : Oper} (l : List (Tmp × Option Nat)) (hs : sees ops i = l) (hR : V i = isV undef) (g : Nat) (b : Bool) (t : Tmp) (hg : o.guard = some (g, b)) (hd : dstAt ops g = some t)
    (h : ∀ a w, E w0 w → Seen V a0 a w l → a.tmps.getD t undef = .bool (!b)) : Ob P ops E V a0 w0 i o := by
  subst hs
  intro a w hE hL
  rw [if_neg (wanted_no hg hd (h a w hE hL)), hR]
  rfl
end
section
variable {P : Program} {ops : Array Oper} {E : World → World → Prop} {V : Nat → Value → World → Prop} {a0 : Act} {w0 : World}
/-- An operation waits for another one, directly or through others. -/
def reach (ops : Array Oper) : Nat → Nat → Nat → Bool
  | 0, i, j => waits ops i j
  | n + 1, i, j => waits ops i j || (List.range ops.size).any fun k => waits ops i k && reach ops n k j
def tailB (ops : Array Oper) (n1 : Nat) : Bool := (List.range ops.size).all fun i => decide (i < n1) || (List.range n1).all fun j => reach ops 6 i j
theorem tailB_spec {n1 i j : Nat} (h : tailB ops n1 = true) (hi : i < ops.size) (h1 : n1 ≤ i) (hj : j < n1) : reach ops 6 i j = true := by
  simp only [tailB, List.all_eq_true, List.mem_range, Bool.or_eq_true, decide_eq_true_eq] at h
  rcases h i hi with h2 | h2
  · omega
  · exact h2 j hj
theorem reach_listed {listed : Array Bool} (hc : ∀ i o, ops[i]? = some o → listed.getD i false = true → ∀ e ∈ o.after, Region.binds .any e = true → listed.getD e.on false = true) :
    ∀ (n i j : Nat), (∀ k, waits ops i k = true → listed.getD k false = true) → reach ops n i j = true → listed.getD j false = true
  | 0, i, j, h, hr => h j hr
  | n + 1, i, j, h, hr => by
    simp only [reach, Bool.or_eq_true, List.any_eq_true, Bool.and_eq_true] at hr
    rcases hr with hr | ⟨k, _, h1, h2⟩
    · exact h j hr
    · refine reach_listed hc n k j (fun m hm => ?_) h2
      obtain ⟨o', ho', e, he, hb, rfl⟩ := waits_spec hm
      exact hc k o' ho' (h k h1) e he hb
theorem wpAny_fam_tail {Q : Exit → Act → World → Prop} {l1 : List Oper} (hB : famB ops a0.tmps.size = true) (hTB : tailB ops l1.length = true) (hle : l1.length ≤ ops.size) (hl : ∀ i, i < l1.length → l1[i]? = ops[i]?) (hT : ∀ x y z : World, E x y → E y z → E x z)
    (hM : ∀ i v x y, V i v x → E x y → V i v y) (hE0 : ∀ x, E x x) (hOb : Obs P ops E V a0 w0 0 l1)
    (hQ : ∀ listed a w, (∀ i, listed.getD i false = decide (i < l1.length)) → FamInv ops E V a0 w0 listed a w → wpAny P .any ops Q (ops.size - l1.length) listed a w) :
    ∀ (fuel : Nat) (listed : Array Bool) (a : Act) (w : World), unl listed l1.length = fuel → (∀ i, l1.length ≤ i → listed.getD i false = false) → FamInv ops E V a0 w0 listed a w → wpAny P .any ops Q (fuel + (ops.size - l1.length)) listed a w := by
  intro fuel
  induction fuel with
  | zero =>
    intro listed a w hu hno h
    rw [Nat.zero_add]
    refine hQ listed a w (fun i => ?_) h
    by_cases hi : i < l1.length
    · rw [unl_zero hu i hi]; simp [hi]
    · rw [hno i (by omega)]; simp [hi]
  | succ fuel ih =>
    intro listed a w hu hno h
    rw [show fuel + 1 + (ops.size - l1.length) = (fuel + (ops.size - l1.length)) + 1 by omega]
    have hpos : 0 < unl listed l1.length := by omega
    unfold unl at hpos
    rw [List.countP_pos_iff] at hpos
    obtain ⟨k, hk, hkl⟩ := hpos
    have hk := List.mem_range.1 hk
    have hkl : listed.getD k false = false := by simpa using hkl
    refine ⟨fun hnil => absurd hnil (some_ready hB h.lsz k (by omega) hkl), fun i hi => ?_⟩
    obtain ⟨h0, o, ho, hall⟩ := mem_ready.1 hi
    have hlt := (Array.getElem?_eq_some_iff.1 ho).1
    have hi1 : i < l1.length := by
      rcases Nat.lt_or_ge i l1.length with h1 | h1
      · exact h1
      · have := reach_listed h.cls 6 i k (fun m hm => by
          obtain ⟨o', ho', e, he, hb, rfl⟩ := waits_spec hm
          rw [ho] at ho'
          obtain rfl := Option.some.inj ho'
          exact hall e he hb) (tailB_spec hTB hlt h1 hk)
        rw [hkl] at this; cases this
    have hl0 : listed.getD i false = false := by
      have : i < listed.size := by rw [h.lsz]; exact hlt
      simp [this] at h0 ⊢; exact h0
    have hob := Obs.at_ l1 0 hOb i o (by rw [hl i hi1]; exact ho)
    rw [Nat.zero_add] at hob
    have hob := hob a w h.ext (h.seen hB hi)
    have hils : i < listed.size := by rw [h.lsz]; exact hlt
    have next : ∀ u w', E w w' → V i u w' → wpAny P .any ops Q (fuel + (ops.size - l1.length)) (listed.setIfInBounds i true) (a.put o.dst u) w' := fun u w' hE hV =>
      ih _ _ _ (by
        have := countP_set (fun j => !listed.getD j false) (fun j => !(listed.setIfInBounds i true).getD j false) i (by simp [hl0]) (by simp only [getD_setB hils]; simp) (fun j hj => by simp only [getD_setB hils, if_neg hj]) l1.length hi1
        unfold unl at hu ⊢; omega)
        (fun j hj => by rw [getD_setB hils, if_neg (by omega)]; exact hno j hj) (h.put hB hT hM ho hi hE hV)
    unfold wpOp
    simp only [ho]
    split
    · rename_i hw
      rw [if_pos hw] at hob
      exact .inl (relAt.wp hob next)
    · rename_i hw
      rw [if_neg hw] at hob
      exact next _ _ (hE0 w) hob
/-- THE RULE with a tail that waits for all that stands ahead of it. -/
theorem wp_region_fam_tail {id : Nat} {Q : Exit → Act → World → Prop} {w : World} {l1 l2 : List Oper} {n : Nat} (Vs : List (Value → World → Prop)) (ds : List (Option Tmp)) (listed : Array Bool) (hm : P.follows .mixedOrders = true) (hn : a0.tmps.size = n)
    (hB : famB (l1 ++ l2).toArray n = true) (hTB : tailB (l1 ++ l2).toArray l1.length = true) (hds : l1.map (·.dst) = ds) (hli : List.replicate l1.length true ++ List.replicate l2.length false = listed.toList)
    (hT : ∀ x y z : World, E x y → E y z → E x z) (hE0 : ∀ x, E x x) (hM : MonoL E Vs)
    (hOb : Obs P (l1 ++ l2).toArray E (famV Vs) a0 w.drew 0 l1) (hQ : ∀ x w', E w.drew w' → AllV (famV Vs) x w' 0 ds → wpAny P .any (l1 ++ l2).toArray Q l2.length listed (puts x ds a0) w') : (Code.region id (l1 ++ l2).toArray true).wp P Q a0 w := by
  subst hn
  have hle : l1.length ≤ (l1 ++ l2).toArray.size := by simp
  have hl : ∀ i, i < l1.length → l1[i]? = (l1 ++ l2).toArray[i]? := fun i hi => by simp [List.getElem?_append_left hi]
  refine wp_region_any hm ?_
  have key := wpAny_fam_tail (E := E) (V := famV Vs) (a0 := a0) (w0 := w.drew) (Q := Q) hB hTB hle hl hT hM.at_ hE0 hOb ?_ l1.length (Array.replicate (l1 ++ l2).toArray.size false) a0 { w with drawn := w.drawn + 1 } ?_ ?_ ?_
  · have e : l1.length + ((l1 ++ l2).toArray.size - l1.length) = (l1 ++ l2).toArray.size := by simp
    rw [e] at key
    exact key
  · intro li a w' hli' h
    have e1 : (l1 ++ l2).toArray.size - l1.length = l2.length := by simp
    have e2 : li = listed := by
      apply Array.ext'
      rw [← hli]
      apply List.ext_getElem?
      intro i
      have h1 := hli' i
      have hs : li.toList.length = l1.length + l2.length := by have := h.lsz; simpa using this
      by_cases hi : i < l1.length + l2.length
      · have h2 : li.toList[i]? = some (decide (i < l1.length)) := by
          have hi' : i < li.size := by rw [show li.size = l1.length + l2.length by simpa using hs]; exact hi
          simp [hi'] at h1 ⊢
          exact h1
        rw [h2]
        by_cases hi1 : i < l1.length
        · rw [List.getElem?_append_left (by simpa using hi1)]; simp [hi1]
        · rw [List.getElem?_append_right (by simpa using hi1)]
          rw [List.getElem?_replicate, if_pos (by rw [List.length_replicate]; omega)]
          simp [hi1]
      · rw [List.getElem?_eq_none (by omega), List.getElem?_eq_none (by rw [List.length_append, List.length_replicate, List.length_replicate]; omega)]
    have hw : ∀ t, (∀ j, who (l1 ++ l2).toArray t = some j → li.getD j false = false) ↔ some t ∉ ds := by
      intro t
      rw [← hds]
      constructor
      · intro hj hm
        obtain ⟨o, ho, hdo⟩ := List.mem_map.1 hm
        obtain ⟨j, hj'⟩ := List.getElem?_of_mem ho
        have hlt : j < l1.length := (List.getElem?_eq_some_iff.1 hj').1
        have := hj j (famB_dst hB (by rw [← hl j hlt]; exact hj') hdo).1
        rw [hli' j] at this
        simp [hlt] at this
      · intro hnm j hj
        rw [hli' j]
        by_cases hlt : j < l1.length
        · exfalso
          apply hnm
          have hd := who_spec hj
          unfold dstAt at hd
          rw [← hl j hlt, List.getElem?_eq_getElem hlt] at hd
          exact List.mem_map.2 ⟨l1[j], List.getElem_mem _, by simpa using hd⟩
        · simp [hlt]
    have e : a = puts (fun t => a.tmps.getD t undef) ds a0 := by
      refine act_ext (by rw [puts_defers, h.dfs]) (by rw [puts_size, h.siz]) fun s hlt => ?_
      by_cases hsd : some s ∈ ds
      · rw [puts_in _ _ _ _ hsd (by have := h.siz; omega)]
      · rw [puts_out _ _ _ _ hsd]
        exact h.no s ((hw s).2 hsd)
    rw [e1, e2, e]
    refine hQ _ _ h.ext (AllV_of _ _ fun i t hi => ?_)
    rw [Nat.zero_add]
    rw [← hds, List.getElem?_map] at hi
    obtain ⟨o, ho, hdo⟩ := Option.map_eq_some_iff.1 hi
    have hlt : i < l1.length := (List.getElem?_eq_some_iff.1 ho).1
    refine h.yes t i (famB_dst hB (by rw [← hl i hlt]; exact ho) hdo).1 ?_
    rw [hli' i]; simp [hlt]
  · unfold unl
    rw [List.countP_eq_length.2 (fun j hj => by rw [no_list]; rfl)]
    simp
  · intro i _; rw [no_list]
  · refine ⟨hE0 _, rfl, rfl, by simp, ?_, ?_, fun _ _ => rfl⟩
    · intro i o _ hl; rw [no_list] at hl; cases hl
    · intro t j _ hl; rw [no_list] at hl; cases hl
theorem wp_region_fam_tail_lit {id : Nat} {Q : Exit → Act → World → Prop} {w : World} {l : List Oper} {n : Nat} (n1 m : Nat) (Vs : List (Value → World → Prop)) (ds : List (Option Tmp)) (listed : Array Bool) (hm : P.follows .mixedOrders = true) (hn : a0.tmps.size = n)
    (hB : famB l.toArray n = true) (hTB : tailB l.toArray n1 = true) (hlen : l.length = n1 + m) (hds : (l.take n1).map (·.dst) = ds) (hli : List.replicate n1 true ++ List.replicate m false = listed.toList)
    (hT : ∀ x y z : World, E x y → E y z → E x z) (hE0 : ∀ x, E x x) (hM : MonoL E Vs)
    (hOb : Obs P l.toArray E (famV Vs) a0 w.drew 0 (l.take n1)) (hQ : ∀ x w', E w.drew w' → AllV (famV Vs) x w' 0 ds → wpAny P .any l.toArray Q m listed (puts x ds a0) w') : (Code.region id l.toArray true).wp P Q a0 w := by
  have e : l.take n1 ++ l.drop n1 = l := List.take_append_drop n1 l
  have h1 : (l.take n1).length = n1 := by simp; omega
  have h2 : (l.drop n1).length = m := by simp; omega
  have := wp_region_fam_tail (P := P) (E := E) (a0 := a0) (id := id) (Q := Q) (w := w) (l1 := l.take n1) (l2 := l.drop n1) (n := n) Vs ds listed hm hn (by rw [e]; exact hB) (by rw [e, h1]; exact hTB) hds (by rw [h1, h2]; exact hli) hT hE0 hM (by rw [e]; exact hOb)
    (by rw [e, h2]; exact hQ)
  rwa [e] at this
end
section
variable {P : Program} {ops : Array Oper} {E : World → World → Prop} {V : Nat → Value → World → Prop} {a0 : Act} {w0 : World}
/-- Every operation from n1 on waits for all ahead of n1 but those of the list. -/
def tailBP (ops : Array Oper) (n1 : Nat) (ps : List Nat) : Bool := (List.range ops.size).all fun i => decide (i < n1) || (List.range n1).all fun j => waits ops i j || ps.contains j
def apartB (ops : Array Oper) (j k : Nat) : Bool := match ops[j]?, ops[k]? with | some oj, some ok => oj.apart ops ok | _, _ => true
def freeB (ops : Array Oper) (ps : List Nat) : Bool := Region.noSelect ops && ps.all fun j => (List.range ops.size).all fun k => k == j || waits ops j k || waits ops k j || apartB ops j k
theorem tailBP_spec {n1 i j : Nat} {ps : List Nat} (h : tailBP ops n1 ps = true) (hi : i < ops.size) (h1 : n1 ≤ i) (hj : j < n1) : waits ops i j = true ∨ j ∈ ps := by
  simp only [tailBP, List.all_eq_true, List.mem_range, Bool.or_eq_true, decide_eq_true_eq] at h
  rcases h i hi with h2 | h2
  · omega
  · rcases h2 j hj with h3 | h3
    · exact .inl h3
    · exact .inr (by simpa using h3)
/-- What is to be shown of an operation that looks at no memory. -/
def ObPure (P : Program) (ops : Array Oper) (V : Nat → Value → World → Prop) (a0 : Act) (i : Nat) (o : Oper) : Prop :=
  o.guard = none ∧ ∀ a w, Seen V a0 a w (sees ops i) → ∃ v, V i v w ∧ ∀ w', (execOp a.eval o).run P w' = .ok (.value v) w'
theorem put_form (a : Act) (d : Option Tmp) (v : Value) : a.put d v = ⟨(a.put d v).tmps, a.defers⟩ := by cases d <;> rfl
theorem wpAny_fam_tailP {Q : Exit → Act → World → Prop} {l1 : List Oper} (ps : List Nat) (hB : famB ops a0.tmps.size = true) (hTB : tailBP ops l1.length ps = true) (hFB : freeB ops ps = true) (hle : l1.length ≤ ops.size) (hl : ∀ i, i < l1.length → l1[i]? = ops[i]?)
    (hT : ∀ x y z : World, E x y → E y z → E x z) (hQp : ∀ c (a : Act) t w, Q (.panic c) ⟨t, a.defers⟩ w → Q (.panic c) a w)
    (hM : ∀ i v x y, V i v x → E x y → V i v y) (hE0 : ∀ x, E x x) (hOb : Obs P ops E V a0 w0 0 l1) (hP : ∀ j ∈ ps, j < l1.length ∧ ∀ o, ops[j]? = some o → ObPure P ops V a0 j o)
    (hQ : ∀ listed a w, (∀ i, listed.getD i false = decide (i < l1.length)) → FamInv ops E V a0 w0 listed a w → wpAny P .any ops Q (ops.size - l1.length) listed a w) :
    ∀ (fuel : Nat) (listed : Array Bool) (a : Act) (w : World), unl listed l1.length = fuel → (∀ i, l1.length ≤ i → listed.getD i false = false) → FamInv ops E V a0 w0 listed a w → wpAny P .any ops Q (fuel + (ops.size - l1.length)) listed a w := by
  intro fuel
  induction fuel with
  | zero =>
    intro listed a w hu hno h
    rw [Nat.zero_add]
    refine hQ listed a w (fun i => ?_) h
    by_cases hi : i < l1.length
    · rw [unl_zero hu i hi]; simp [hi]
    · rw [hno i (by omega)]; simp [hi]
  | succ fuel ih =>
    intro listed a w hu hno h
    rw [show fuel + 1 + (ops.size - l1.length) = (fuel + (ops.size - l1.length)) + 1 by omega]
    have dec : ∀ i, i < l1.length → listed.getD i false = false → unl (listed.setIfInBounds i true) l1.length = fuel := fun i hi1 hl0 => by
      have hils : i < listed.size := by rw [h.lsz]; omega
      have := countP_set (fun j => !listed.getD j false) (fun j => !(listed.setIfInBounds i true).getD j false) i (by simp [hl0]) (by simp only [getD_setB hils]; simp) (fun j hj => by simp only [getD_setB hils, if_neg hj]) l1.length hi1
      unfold unl at hu ⊢; omega
    have tno : ∀ i, i < l1.length → ∀ j, l1.length ≤ j → (listed.setIfInBounds i true).getD j false = false := fun i hi1 j hj => by
      have hils : i < listed.size := by rw [h.lsz]; omega
      rw [getD_setB hils, if_neg (by omega)]; exact hno j hj
    have unlisted : ∀ i, i ∈ Region.ready .any ops listed → listed.getD i false = false := fun i hi => by
      obtain ⟨h0, o, ho, _⟩ := mem_ready.1 hi
      have hlt := (Array.getElem?_eq_some_iff.1 ho).1
      have : i < listed.size := by rw [h.lsz]; exact hlt
      simp [this] at h0 ⊢; exact h0
    by_cases hex : ∃ j ∈ ps, j ∈ Region.ready .any ops listed
    · obtain ⟨j, hj, hr⟩ := hex
      obtain ⟨h0, o, ho, hall⟩ := mem_ready.1 hr
      obtain ⟨hj1, hpure⟩ := hP j hj
      obtain ⟨hg, hv⟩ := hpure o ho
      obtain ⟨v, hV, hrun⟩ := hv a w (h.seen hB hr)
      simp only [freeB, Bool.and_eq_true, List.all_eq_true] at hFB
      refine wpAny_first (v := v) ho (Region.noSelect_spec hFB.1) (fun c a' w' hq => hQp c a' (a'.put o.dst v).tmps w' (put_form a' o.dst v ▸ hq)) _ _ _ _ (fun k ok hk hki hun hnw => ?_) hr (.inl ⟨by unfold Region.wanted; rw [hg], hrun⟩) ?_
      · have hklt := (Array.getElem?_eq_some_iff.1 hk).1
        have hf := hFB.2 j hj k (List.mem_range.2 hklt)
        simp only [Bool.or_eq_true, beq_iff_eq] at hf
        rcases hf with ((hf | hf) | hf) | hf
        · exact absurd hf hki
        · exfalso
          obtain ⟨o', ho', e, he, hb, rfl⟩ := waits_spec hf
          rw [ho] at ho'
          obtain rfl := Option.some.inj ho'
          have h1 := hall e he hb
          have hls : e.on < listed.size := by rw [h.lsz]; exact hklt
          simp [hls] at h1 hun
          rw [h1] at hun; cases hun
        · exfalso
          obtain ⟨o', ho', e, he, hb, hej⟩ := waits_spec hf
          rw [hk] at ho'
          obtain rfl := Option.some.inj ho'
          exact hnw e he hb hej
        · unfold apartB at hf
          simpa only [ho, hk] using hf
      · exact ih _ _ _ (dec j hj1 (unlisted j hr)) (tno j hj1) (h.put hB hT hM ho hr (hE0 w) hV)
    · have hpos : 0 < unl listed l1.length := by omega
      unfold unl at hpos
      rw [List.countP_pos_iff] at hpos
      obtain ⟨k0, hk0, hkl0⟩ := hpos
      have hk0 := List.mem_range.1 hk0
      have hkl0 : listed.getD k0 false = false := by simpa using hkl0
      refine ⟨fun hnil => absurd hnil (some_ready hB h.lsz k0 (by omega) hkl0), fun i hi => ?_⟩
      obtain ⟨h0, o, ho, hall⟩ := mem_ready.1 hi
      have hlt := (Array.getElem?_eq_some_iff.1 ho).1
      have hi1 : i < l1.length := by
        rcases Nat.lt_or_ge i l1.length with h1 | h1
        · exact h1
        · exfalso
          -- all that is not of the list has come up; the least of the list that has not may come up
          have key : ∀ k, k < l1.length → listed.getD k false = true := by
            intro k
            induction k using Nat.strongRecOn with
            | ind k ihk =>
              intro hk
              cases hlk : listed.getD k false with
              | true => rfl
              | false =>
                exfalso
                rcases tailBP_spec hTB hlt h1 hk with hw | hp
                · obtain ⟨o', ho', e, he, hb, rfl⟩ := waits_spec hw
                  rw [ho] at ho'
                  obtain rfl := Option.some.inj ho'
                  have := hall e he hb
                  rw [hlk] at this; cases this
                · have hks : k < ops.size := by omega
                  have hok : ops[k]? = some ops[k] := Array.getElem?_eq_getElem hks
                  refine hex ⟨k, hp, mem_ready.2 ⟨?_, ops[k], hok, fun e he hb => ihk e.on (famB_after hB hok he hb) (by have := famB_after hB hok he hb; omega)⟩⟩
                  have : k < listed.size := by rw [h.lsz]; exact hks
                  simp [this] at hlk ⊢; exact hlk
          rw [key k0 hk0] at hkl0; cases hkl0
      have hob := Obs.at_ l1 0 hOb i o (by rw [hl i hi1]; exact ho)
      rw [Nat.zero_add] at hob
      have hob := hob a w h.ext (h.seen hB hi)
      have next : ∀ u w', E w w' → V i u w' → wpAny P .any ops Q (fuel + (ops.size - l1.length)) (listed.setIfInBounds i true) (a.put o.dst u) w' := fun u w' hE hV =>
        ih _ _ _ (dec i hi1 (unlisted i hi)) (tno i hi1) (h.put hB hT hM ho hi hE hV)
      unfold wpOp
      simp only [ho]
      split
      · rename_i hw
        rw [if_pos hw] at hob
        exact .inl (relAt.wp hob next)
      · rename_i hw
        rw [if_neg hw] at hob
        exact next _ _ (hE0 w) hob
/-- THE RULE with a tail that waits for all that stands ahead of it but what looks at no memory. -/
theorem wp_region_fam_tailP {id : Nat} {Q : Exit → Act → World → Prop} {w : World} {l1 l2 : List Oper} {n : Nat} (Vs : List (Value → World → Prop)) (ds : List (Option Tmp)) (listed : Array Bool) (hm : P.follows .mixedOrders = true) (hn : a0.tmps.size = n)
    (hB : famB (l1 ++ l2).toArray n = true) (ps : List Nat) (hTB : tailBP (l1 ++ l2).toArray l1.length ps = true) (hFB : freeB (l1 ++ l2).toArray ps = true) (hQp : ∀ c (a : Act) t w, Q (.panic c) ⟨t, a.defers⟩ w → Q (.panic c) a w) (hP : ∀ j ∈ ps, j < l1.length ∧ ∀ o, (l1 ++ l2).toArray[j]? = some o → ObPure P (l1 ++ l2).toArray (famV Vs) a0 j o) (hds : l1.map (·.dst) = ds) (hli : List.replicate l1.length true ++ List.replicate l2.length false = listed.toList)
    (hT : ∀ x y z : World, E x y → E y z → E x z) (hE0 : ∀ x, E x x) (hM : MonoL E Vs)
    (hOb : Obs P (l1 ++ l2).toArray E (famV Vs) a0 w.drew 0 l1) (hQ : ∀ x w', E w.drew w' → AllV (famV Vs) x w' 0 ds → wpAny P .any (l1 ++ l2).toArray Q l2.length listed (puts x ds a0) w') : (Code.region id (l1 ++ l2).toArray true).wp P Q a0 w := by
  subst hn
  have hle : l1.length ≤ (l1 ++ l2).toArray.size := by simp
  have hl : ∀ i, i < l1.length → l1[i]? = (l1 ++ l2).toArray[i]? := fun i hi => by simp [List.getElem?_append_left hi]
  refine wp_region_any hm ?_
  have key := wpAny_fam_tailP (E := E) (V := famV Vs) (a0 := a0) (w0 := w.drew) (Q := Q) ps hB hTB hFB hle hl hT hQp hM.at_ hE0 hOb hP ?_ l1.length (Array.replicate (l1 ++ l2).toArray.size false) a0 { w with drawn := w.drawn + 1 } ?_ ?_ ?_
  · have e : l1.length + ((l1 ++ l2).toArray.size - l1.length) = (l1 ++ l2).toArray.size := by simp
    rw [e] at key
    exact key
  · intro li a w' hli' h
    have e1 : (l1 ++ l2).toArray.size - l1.length = l2.length := by simp
    have e2 : li = listed := by
      apply Array.ext'
      rw [← hli]
      apply List.ext_getElem?
      intro i
      have h1 := hli' i
      have hs : li.toList.length = l1.length + l2.length := by have := h.lsz; simpa using this
      by_cases hi : i < l1.length + l2.length
      · have h2 : li.toList[i]? = some (decide (i < l1.length)) := by
          have hi' : i < li.size := by rw [show li.size = l1.length + l2.length by simpa using hs]; exact hi
          simp [hi'] at h1 ⊢
          exact h1
        rw [h2]
        by_cases hi1 : i < l1.length
        · rw [List.getElem?_append_left (by simpa using hi1)]; simp [hi1]
        · rw [List.getElem?_append_right (by simpa using hi1)]
          rw [List.getElem?_replicate, if_pos (by rw [List.length_replicate]; omega)]
          simp [hi1]
      · rw [List.getElem?_eq_none (by omega), List.getElem?_eq_none (by rw [List.length_append, List.length_replicate, List.length_replicate]; omega)]
    have hw : ∀ t, (∀ j, who (l1 ++ l2).toArray t = some j → li.getD j false = false) ↔ some t ∉ ds := by
      intro t
      rw [← hds]
      constructor
      · intro hj hm
        obtain ⟨o, ho, hdo⟩ := List.mem_map.1 hm
        obtain ⟨j, hj'⟩ := List.getElem?_of_mem ho
        have hlt : j < l1.length := (List.getElem?_eq_some_iff.1 hj').1
        have := hj j (famB_dst hB (by rw [← hl j hlt]; exact hj') hdo).1
        rw [hli' j] at this
        simp [hlt] at this
      · intro hnm j hj
        rw [hli' j]
        by_cases hlt : j < l1.length
        · exfalso
          apply hnm
          have hd := who_spec hj
          unfold dstAt at hd
          rw [← hl j hlt, List.getElem?_eq_getElem hlt] at hd
          exact List.mem_map.2 ⟨l1[j], List.getElem_mem _, by simpa using hd⟩
        · simp [hlt]
    have e : a = puts (fun t => a.tmps.getD t undef) ds a0 := by
      refine act_ext (by rw [puts_defers, h.dfs]) (by rw [puts_size, h.siz]) fun s hlt => ?_
      by_cases hsd : some s ∈ ds
      · rw [puts_in _ _ _ _ hsd (by have := h.siz; omega)]
      · rw [puts_out _ _ _ _ hsd]
        exact h.no s ((hw s).2 hsd)
    rw [e1, e2, e]
    refine hQ _ _ h.ext (AllV_of _ _ fun i t hi => ?_)
    rw [Nat.zero_add]
    rw [← hds, List.getElem?_map] at hi
    obtain ⟨o, ho, hdo⟩ := Option.map_eq_some_iff.1 hi
    have hlt : i < l1.length := (List.getElem?_eq_some_iff.1 ho).1
    refine h.yes t i (famB_dst hB (by rw [← hl i hlt]; exact ho) hdo).1 ?_
    rw [hli' i]; simp [hlt]
  · unfold unl
    rw [List.countP_eq_length.2 (fun j hj => by rw [no_list]; rfl)]
    simp
  · intro i _; rw [no_list]
  · refine ⟨hE0 _, rfl, rfl, by simp, ?_, ?_, fun _ _ => rfl⟩
    · intro i o _ hl; rw [no_list] at hl; cases hl
    · intro t j _ hl; rw [no_list] at hl; cases hl
theorem wp_region_fam_tailP_lit {id : Nat} {Q : Exit → Act → World → Prop} {w : World} {l : List Oper} {n : Nat} (n1 m : Nat) (Vs : List (Value → World → Prop)) (ds : List (Option Tmp)) (listed : Array Bool) (ps : List Nat) (hm : P.follows .mixedOrders = true) (hn : a0.tmps.size = n)
    (hB : famB l.toArray n = true) (hTB : tailBP l.toArray n1 ps = true) (hFB : freeB l.toArray ps = true) (hQp : ∀ c (a : Act) t w, Q (.panic c) ⟨t, a.defers⟩ w → Q (.panic c) a w) (hlen : l.length = n1 + m) (hds : (l.take n1).map (·.dst) = ds) (hli : List.replicate n1 true ++ List.replicate m false = listed.toList)
    (hT : ∀ x y z : World, E x y → E y z → E x z) (hE0 : ∀ x, E x x) (hM : MonoL E Vs) (hP : ∀ j ∈ ps, j < n1 ∧ ∀ o, l[j]? = some o → ObPure P l.toArray (famV Vs) a0 j o)
    (hOb : Obs P l.toArray E (famV Vs) a0 w.drew 0 (l.take n1)) (hQ : ∀ x w', E w.drew w' → AllV (famV Vs) x w' 0 ds → wpAny P .any l.toArray Q m listed (puts x ds a0) w') : (Code.region id l.toArray true).wp P Q a0 w := by
  have e : l.take n1 ++ l.drop n1 = l := List.take_append_drop n1 l
  have h1 : (l.take n1).length = n1 := by simp; omega
  have h2 : (l.drop n1).length = m := by simp; omega
  have := wp_region_fam_tailP (P := P) (E := E) (a0 := a0) (id := id) (Q := Q) (w := w) (l1 := l.take n1) (l2 := l.drop n1) (n := n) Vs ds listed hm hn (by rw [e]; exact hB) ps (by rw [e, h1]; exact hTB) (by rw [e]; exact hFB) hQp
    (by rw [e, h1]; intro j hj; exact ⟨(hP j hj).1, fun o ho => (hP j hj).2 o (by simpa using ho)⟩) hds (by rw [h1, h2]; exact hli) hT hE0 hM (by rw [e]; exact hOb) (by rw [e, h2]; exact hQ)
  rwa [e] at this
end
theorem at_of {l : List Oper} {j : Nat} {o' : Oper} {Pr : Oper → Prop} (h : l[j]? = some o') (hp : Pr o') : ∀ o, l[j]? = some o → Pr o := fun o ho => by
  rw [h] at ho; obtain rfl := Option.some.inj ho; exact hp
theorem ObPure.mk' {P : Program} {ops : Array Oper} {V : Nat → Value → World → Prop} {a0 : Act} {i : Nat} {o : Oper} (l : List (Tmp × Option Nat)) (hs : sees ops i = l) (R : Value → World → Prop) (hR : V i = R) (hg : o.guard = none)
    (h : ∀ a w, Seen V a0 a w l → ∃ v, R v w ∧ ∀ w', (execOp a.eval o).run P w' = .ok (.value v) w') : ObPure P ops V a0 i o := by
  subst hs; subst hR; exact ⟨hg, h⟩
/-- What the region's worlds are to one another: what there was is as it was. -/
def Onto (x y : World) : Prop := Below x.heap.size x y
theorem Onto.refl (x : World) : Onto x x := Below.refl _ _
theorem onto_drew {w x : World} (h : Onto w.drew x) : Below w.heap.size w x := (Below.refl _ _).drew.trans (show Below w.heap.size w.drew x from h)
theorem Onto.trans (x y z : World) (h : Onto x y) (k : Onto y z) : Onto x z := Below.trans h (Below.mono k h.size)
end Go.Proofs.YtnlpahdjiddooaaDoor
