/- Several texts in one: Fam, Net, Spot, Spot2, LangT, Lead9, RxMake. -/
import Derived.WalkKit
import Derived.Deep.Quiet
import Derived.Test.YtbefndibkpjgaaaTw1
import Derived.Laws.ResultCell
/- A region that draws its order: one obligation an operation, whatever the order. -/
namespace Go.Proofs.Ytbefndibkpjgaaa
open Go.RowKit

def relUpon (P : Program) (E : World → World → Prop) (w : World) (R : Value → World → Prop) : Result Next → Prop
  | .ok (.value u) w' => E w w' ∧ R u w'
  | .ok .skip w' => E w w' ∧ R undef w'
  | .ok (.enter f args) w' => Calls P f args w' (fun e w'' => ∃ u, e = .returned u ∧ E w w'' ∧ R u w'')
  | _ => False
theorem relUpon_value (P : Program) (E : World → World → Prop) (w : World) (R : Value → World → Prop) (u : Value) (w' : World) : relUpon P E w R (.ok (.value u) w') = (E w w' ∧ R u w') := rfl
theorem relUpon_skip (P : Program) (E : World → World → Prop) (w : World) (R : Value → World → Prop) (w' : World) : relUpon P E w R (.ok .skip w') = (E w w' ∧ R undef w') := rfl
theorem relUpon_enter (P : Program) (E : World → World → Prop) (w : World) (R : Value → World → Prop) (f : FuncId) (args : Array Value) (w' : World) : relUpon P E w R (.ok (.enter f args) w') = Calls P f args w' (fun e w'' => ∃ u, e = .returned u ∧ E w w'' ∧ R u w'') := rfl
/-- What an operation leaves in its slot, and behind what world. -/
def relAt (P : Program) (o : Oper) (a : Act) (E : World → World → Prop) (w : World) (R : Value → World → Prop) : Prop := relUpon P E w R ((execOp a.eval o).run P w)
theorem relAt_eq (P : Program) (o : Oper) (a : Act) (E : World → World → Prop) (w : World) (R : Value → World → Prop) : relAt P o a E w R = relUpon P E w R ((execOp a.eval o).run P w) := rfl
def isV (v : Value) : Value → World → Prop := fun u _ => u = v

section
variable {P : Program} {ops : Array Oper} {E : World → World → Prop} {V : Nat → Value → World → Prop} {a0 : Act} {w0 : World}

def dstAt (ops : Array Oper) (j : Nat) : Option Tmp := (ops[j]?).bind (·.dst)
def who (ops : Array Oper) (t : Tmp) : Option Nat := (List.range ops.size).find? fun j => dstAt ops j == some t
def waits (ops : Array Oper) (i j : Nat) : Bool := ((ops[i]?).map fun o => o.after.any fun e => Region.binds .any e && e.on == j).getD false
/-- Whose value a slot holds when operation i comes up: an operation's for which i waits; else what was there. -/
def whose (ops : Array Oper) (i : Nat) (t : Tmp) : Option Nat := (who ops t).bind fun j => if waits ops i j then some j else none
def sees (ops : Array Oper) (i : Nat) : List (Tmp × Option Nat) := ((ops[i]?).map fun o => (o.looksAt ops).map fun t => (t, whose ops i t)).getD []
def famB (ops : Array Oper) (n : Nat) : Bool :=
  (List.range ops.size).all (fun i => match ops[i]? with
    | none => true
    | some o =>
      (match o.dst with | some t => who ops t == some i && decide (t < n) | none => true) &&
      (o.looksAt ops).all (fun t => match who ops t with | none => true | some j => waits ops i j || waits ops j i || j == i) &&
      o.after.all (fun e => !Region.binds .any e || decide (e.on < i)))

def slotAt (V : Nat → Value → World → Prop) (a0 a : Act) (w : World) (p : Tmp × Option Nat) : Prop :=
  match p.2 with
  | some j => V j (a.tmps.getD p.1 undef) w
  | none => a.tmps.getD p.1 undef = a0.tmps.getD p.1 undef
def Seen (V : Nat → Value → World → Prop) (a0 a : Act) (w : World) : List (Tmp × Option Nat) → Prop
  | [] => True
  | p :: l => slotAt V a0 a w p ∧ Seen V a0 a w l
theorem Seen_of {l : List (Tmp × Option Nat)} {a : Act} {w : World} (h : ∀ p ∈ l, slotAt V a0 a w p) : Seen V a0 a w l := by
  induction l with
  | nil => trivial
  | cons p l ih => exact ⟨h p (by simp), ih fun q hq => h q (by simp [hq])⟩
/-- What is to be shown of operation i. -/
def Ob (P : Program) (ops : Array Oper) (E : World → World → Prop) (V : Nat → Value → World → Prop) (a0 : Act) (w0 : World) (i : Nat) (o : Oper) : Prop :=
  ∀ a w, E w0 w → Seen V a0 a w (sees ops i) → if Region.wanted o (yielded ops a.tmps) = true then relAt P o a E w (V i) else V i undef w
def Obs (P : Program) (ops : Array Oper) (E : World → World → Prop) (V : Nat → Value → World → Prop) (a0 : Act) (w0 : World) : Nat → List Oper → Prop
  | _, [] => True
  | i, o :: l => Ob P ops E V a0 w0 i o ∧ Obs P ops E V a0 w0 (i + 1) l
theorem Obs.at_ (l : List Oper) : ∀ (k : Nat), Obs P ops E V a0 w0 k l → ∀ i o, l[i]? = some o → Ob P ops E V a0 w0 (k + i) o := by
  induction l with
  | nil => intro k _ i o hi; simp at hi
  | cons o' l ih =>
    intro k h i o hi
    cases i with
    | zero =>
      simp only [List.getElem?_cons_zero, Option.some.injEq] at hi
      subst hi; exact h.1
    | succ i =>
      have := ih (k + 1) h.2 i o (by simpa using hi)
      rwa [show k + 1 + i = k + (i + 1) by omega] at this

theorem famB_dst {n i : Nat} {o : Oper} {t : Tmp} (h : famB ops n = true) (ho : ops[i]? = some o) (ht : o.dst = some t) : who ops t = some i ∧ t < n := by
  have hi := (Array.getElem?_eq_some_iff.1 ho).1
  simp only [famB, List.all_eq_true, List.mem_range] at h
  have := h i hi
  simp only [ho, ht, Bool.and_eq_true, beq_iff_eq, decide_eq_true_eq] at this
  exact this.1.1
theorem famB_look {n i : Nat} {o : Oper} {t : Tmp} {j : Nat} (h : famB ops n = true) (ho : ops[i]? = some o) (ht : t ∈ o.looksAt ops) (hw : who ops t = some j) :
    waits ops i j = true ∨ waits ops j i = true ∨ j = i := by
  have hi := (Array.getElem?_eq_some_iff.1 ho).1
  simp only [famB, List.all_eq_true, List.mem_range] at h
  have := h i hi
  simp only [ho, Bool.and_eq_true, List.all_eq_true] at this
  have := this.1.2 t ht
  simp only [hw, Bool.or_eq_true, beq_iff_eq] at this
  rcases this with (h | h) | h
  · exact .inl h
  · exact .inr (.inl h)
  · exact .inr (.inr h)
theorem famB_after {n i : Nat} {o : Oper} {e : Edge} (h : famB ops n = true) (ho : ops[i]? = some o) (he : e ∈ o.after) (hb : Region.binds .any e = true) : e.on < i := by
  have hi := (Array.getElem?_eq_some_iff.1 ho).1
  simp only [famB, List.all_eq_true, List.mem_range] at h
  have := h i hi
  simp only [ho, Bool.and_eq_true, Array.all_eq_true_iff_forall_mem] at this
  have := this.2 e he
  simpa [hb] using this
theorem waits_spec {i j : Nat} (h : waits ops i j = true) : ∃ o, ops[i]? = some o ∧ ∃ e ∈ o.after, Region.binds .any e = true ∧ e.on = j := by
  unfold waits at h
  cases ho : ops[i]? with
  | none => simp [ho] at h
  | some o =>
    simp only [ho, Option.map_some, Option.getD_some] at h
    rw [Array.any_eq_true] at h
    obtain ⟨k, hk, hh⟩ := h
    simp only [Bool.and_eq_true, beq_iff_eq] at hh
    exact ⟨o, rfl, o.after[k], Array.getElem_mem hk, hh.1, hh.2⟩
theorem who_spec {t : Tmp} {j : Nat} (h : who ops t = some j) : dstAt ops j = some t := by
  have := List.find?_some h
  simpa using this

/-- What holds while some operations have come up. -/
structure FamInv (ops : Array Oper) (E : World → World → Prop) (V : Nat → Value → World → Prop) (a0 : Act) (w0 : World) (listed : Array Bool) (a : Act) (w : World) : Prop where
  ext : E w0 w
  dfs : a.defers = a0.defers
  siz : a.tmps.size = a0.tmps.size
  lsz : listed.size = ops.size
  cls : ∀ i o, ops[i]? = some o → listed.getD i false = true → ∀ e ∈ o.after, Region.binds .any e = true → listed.getD e.on false = true
  yes : ∀ t j, who ops t = some j → listed.getD j false = true → V j (a.tmps.getD t undef) w
  no : ∀ t, (∀ j, who ops t = some j → listed.getD j false = false) → a.tmps.getD t undef = a0.tmps.getD t undef

theorem FamInv.seen {n : Nat} {listed : Array Bool} {a : Act} {w : World} (hB : famB ops n = true) (h : FamInv ops E V a0 w0 listed a w) {i : Nat} (hr : i ∈ Region.ready .any ops listed) : Seen V a0 a w (sees ops i) := by
  obtain ⟨h0, o, ho, hall⟩ := mem_ready.1 hr
  refine Seen_of fun p hp => ?_
  simp only [sees, ho, Option.map_some, Option.getD_some, List.mem_map] at hp
  obtain ⟨t, ht, rfl⟩ := hp
  unfold whose
  cases hw : who ops t with
  | none => exact h.no t (fun j hj => by rw [hw] at hj; cases hj)
  | some j =>
    simp only [Option.bind_some]
    by_cases hwt : waits ops i j = true
    · obtain ⟨o', ho', e, he, hb, rfl⟩ := waits_spec hwt
      rw [ho] at ho'
      obtain rfl := Option.some.inj ho'
      rw [if_pos hwt]
      exact h.yes t _ hw (hall e he hb)
    · have hn : listed.getD j false = false := by
        have hi0 : listed.getD i false = false := by
          have hlt := (Array.getElem?_eq_some_iff.1 ho).1
          have : i < listed.size := by rw [h.lsz]; exact hlt
          simp [this] at h0 ⊢; exact h0
        rcases famB_look hB ho ht hw with h1 | h1 | h1
        · exact absurd h1 hwt
        · cases hl : listed.getD j false with
          | false => rfl
          | true =>
            obtain ⟨o', ho', e, he, hb, rfl⟩ := waits_spec h1
            have := h.cls j o' ho' hl e he hb
            rw [hi0] at this; cases this
        · subst h1; exact hi0
      rw [if_neg hwt]
      exact h.no t (fun k hk => by rw [hw] at hk; obtain rfl := Option.some.inj hk; exact hn)

theorem getD_set {t : Array Value} {d s : Nat} {v : Value} (h : d < t.size) : (t.setIfInBounds d v).getD s undef = if s = d then v else t.getD s undef := by
  by_cases hsd : s = d
  · subst hsd; simp [h]
  · simp [Array.getElem?_setIfInBounds_ne (Ne.symm hsd), hsd]
theorem getD_setB {l : Array Bool} {i j : Nat} (h : i < l.size) : (l.setIfInBounds i true).getD j false = if j = i then true else l.getD j false := by
  by_cases hj : j = i
  · subst hj; simp [h]
  · simp [Array.getElem?_setIfInBounds_ne (Ne.symm hj), hj]

theorem put_other {a : Act} {n : Nat} {i j : Nat} {o : Oper} {t : Tmp} {v : Value} (hB : famB ops n = true) (hs : a.tmps.size = n) (ho : ops[i]? = some o) (hw : who ops t = some j) (hji : j ≠ i) :
    (a.put o.dst v).tmps.getD t undef = a.tmps.getD t undef := by
  cases hd : o.dst with
  | none => rfl
  | some d =>
    obtain ⟨h1, h2⟩ := famB_dst hB ho hd
    have hne : t ≠ d := fun e => by subst e; rw [h1] at hw; exact hji (Option.some.inj hw).symm
    simp only [Act.put]
    rw [getD_set (by rw [hs]; exact h2), if_neg hne]
theorem FamInv.put {listed : Array Bool} {a : Act} {w w' : World} (hB : famB ops a0.tmps.size = true) (hT : ∀ x y z : World, E x y → E y z → E x z)
    (hM : ∀ i v x y, V i v x → E x y → V i v y) (h : FamInv ops E V a0 w0 listed a w) {i : Nat} {o : Oper} (ho : ops[i]? = some o) (hr : i ∈ Region.ready .any ops listed) {v : Value}
    (hE : E w w') (hV : V i v w') : FamInv ops E V a0 w0 (listed.setIfInBounds i true) (a.put o.dst v) w' := by
  have hi : i < listed.size := by rw [h.lsz]; exact (Array.getElem?_eq_some_iff.1 ho).1
  obtain ⟨h0, o', ho', hall⟩ := mem_ready.1 hr
  rw [ho] at ho'
  obtain rfl := Option.some.inj ho'
  refine ⟨hT _ _ _ h.ext hE, ?_, ?_, by simpa using h.lsz, ?_, ?_, ?_⟩
  · cases o.dst <;> exact h.dfs
  · cases hd : o.dst <;> simp [Act.put, h.siz]
  · intro k ok hk hl e he hb
    rw [getD_setB hi] at hl ⊢
    split
    · rfl
    · split at hl
      · rename_i hki; subst hki
        rw [ho] at hk
        obtain rfl := Option.some.inj hk
        exact hall e he hb
      · exact h.cls k ok hk hl e he hb
  · intro t j hw hl
    rw [getD_setB hi] at hl
    have hdj := who_spec hw
    by_cases hji : j = i
    · subst hji
      unfold dstAt at hdj
      simp only [ho, Option.bind_some] at hdj
      have h2 := (famB_dst hB ho hdj).2
      simp only [hdj, Act.put]
      rw [getD_set (by rw [h.siz]; exact h2), if_pos rfl]
      exact hV
    · rw [if_neg hji] at hl
      rw [put_other hB h.siz ho hw hji]
      exact hM _ _ _ _ (h.yes t j hw hl) hE
  · intro t hn
    rw [← h.no t (fun j hj => by have := hn j hj; rw [getD_setB hi] at this; split at this; · cases this
                                 · exact this)]
    cases hd : o.dst with
    | none => rfl
    | some d =>
      obtain ⟨h1, h2⟩ := famB_dst hB ho hd
      have hne : t ≠ d := fun e => by
        subst e
        have := hn i h1
        rw [getD_setB hi, if_pos rfl] at this
        cases this
      simp only [Act.put]
      rw [getD_set (by rw [h.siz]; exact h2), if_neg hne]

theorem relAt.wp {o : Oper} {a : Act} {w : World} {R : Value → World → Prop} {K : Act → World → Prop} {Q : Exit → Act → World → Prop} (h : relAt P o a E w R)
    (hK : ∀ u w', E w w' → R u w' → K (a.put o.dst u) w') : o.wp P a w K Q := by
  unfold relAt at h
  unfold Oper.wp
  generalize (execOp a.eval o).run P w = r at *
  cases r with
  | ok n w' =>
    cases n <;> simp only [relUpon] at h <;> simp only [Oper.upon]
    case value u => exact hK _ _ h.1 h.2
    case skip => exact hK _ _ h.1 h.2
    case enter f args => exact h.mono fun e w'' ⟨u, he, h1, h2⟩ => by subst he; exact hK _ _ h1 h2
  | halt x w' => simp only [relUpon] at h

def unl (listed : Array Bool) (n : Nat) : Nat := (List.range n).countP fun i => !listed.getD i false
theorem unl_zero {listed : Array Bool} {n : Nat} (h : unl listed n = 0) (i : Nat) (hi : i < n) : listed.getD i false = true := by
  unfold unl at h
  rw [List.countP_eq_zero] at h
  have := h i (List.mem_range.2 hi)
  simpa using this
theorem countP_set (p q : Nat → Bool) (i : Nat) (h1 : p i = true) (h2 : q i = false) (hj : ∀ j, j ≠ i → q j = p j) : ∀ n, i < n → (List.range n).countP p = (List.range n).countP q + 1
  | 0, h => by omega
  | n + 1, h => by
    rw [List.range_succ, List.countP_append, List.countP_append]
    by_cases hin : i = n
    · subst hin
      have : (List.range i).countP p = (List.range i).countP q := List.countP_congr fun j hj' => by
        rw [hj j (by have := List.mem_range.1 hj'; omega)]
      simp [this, h1, h2]
    · have := countP_set p q i h1 h2 hj n (by omega)
      rw [this]
      have := hj n (fun e => hin e.symm)
      simp [this]; omega
theorem unl_set {listed : Array Bool} {n i : Nat} (hs : listed.size = n) (hi : i < n) (h : listed.getD i false = false) : unl listed n = unl (listed.setIfInBounds i true) n + 1 := by
  unfold unl
  refine countP_set _ _ i (by simp [h]) ?_ (fun j hj => ?_) n hi
  · simp only [getD_setB (show i < listed.size by omega)]; simp
  · simp only [getD_setB (show i < listed.size by omega), if_neg hj]
/-- As long as one has not come up, one may. -/
theorem some_ready {n : Nat} {listed : Array Bool} (hB : famB ops n = true) (hs : listed.size = ops.size) : ∀ k, (k < ops.size → listed.getD k false = false → Region.ready .any ops listed ≠ []) := by
  intro k
  induction k using Nat.strongRecOn with
  | ind k ih =>
    intro hk hl
    have ho : ops[k]? = some ops[k] := Array.getElem?_eq_getElem hk
    by_cases hall : ∀ e ∈ (ops[k]).after, Region.binds .any e = true → listed.getD e.on false = true
    · have : k ∈ Region.ready .any ops listed := mem_ready.2 ⟨by
        have : k < listed.size := by omega
        simp [this] at hl ⊢; exact hl, ops[k], ho, hall⟩
      intro e; rw [e] at this; cases this
    · simp only [Classical.not_forall] at hall
      obtain ⟨e, he, hb, hne⟩ := hall
      have hlt := famB_after hB ho he hb
      exact ih e.on hlt (by omega) (by simpa using hne)
theorem wpAny_fam {Q : Exit → Act → World → Prop} (hB : famB ops a0.tmps.size = true) (hT : ∀ x y z : World, E x y → E y z → E x z)
    (hM : ∀ i v x y, V i v x → E x y → V i v y) (hE0 : ∀ x, E x x) (hOb : Obs P ops E V a0 w0 0 ops.toList)
    (hQ : ∀ a w, E w0 w → a.defers = a0.defers → a.tmps.size = a0.tmps.size → (∀ t j, who ops t = some j → V j (a.tmps.getD t undef) w) → (∀ t, who ops t = none → a.tmps.getD t undef = a0.tmps.getD t undef) → Q .normal a w) :
    ∀ (fuel : Nat) (listed : Array Bool) (a : Act) (w : World), unl listed ops.size = fuel → FamInv ops E V a0 w0 listed a w → wpAny P .any ops Q fuel listed a w := by
  intro fuel
  induction fuel with
  | zero =>
    intro listed a w hu h
    have hall := fun i hi => unl_zero hu i hi
    refine ⟨?_, hQ a w h.ext h.dfs h.siz (fun t j hj => h.yes t j hj ?_) (fun t ht => h.no t (fun j hj => by rw [ht] at hj; cases hj))⟩
    · cases hr : Region.ready .any ops listed with
      | nil => rfl
      | cons i l =>
        have hi : i ∈ Region.ready .any ops listed := by rw [hr]; simp
        obtain ⟨h0, o, ho, _⟩ := mem_ready.1 hi
        have hlt := (Array.getElem?_eq_some_iff.1 ho).1
        have := hall i hlt
        have hls : i < listed.size := by rw [h.lsz]; exact hlt
        simp [hls] at h0 this
        rw [h0] at this; cases this
    · have hd := who_spec hj
      refine hall j ?_
      unfold dstAt at hd
      rcases Nat.lt_or_ge j ops.size with hl | hl
      · exact hl
      · rw [Array.getElem?_eq_none hl] at hd; cases hd
  | succ fuel ih =>
    intro listed a w hu h
    refine ⟨fun hnil => ?_, fun i hi => ?_⟩
    · exfalso
      have hpos : 0 < unl listed ops.size := by omega
      unfold unl at hpos
      rw [List.countP_pos_iff] at hpos
      obtain ⟨k, hk, hl⟩ := hpos
      exact some_ready hB h.lsz k (List.mem_range.1 hk) (by simpa using hl) hnil
    · obtain ⟨h0, o, ho, _⟩ := mem_ready.1 hi
      have hlt := (Array.getElem?_eq_some_iff.1 ho).1
      have hl0 : listed.getD i false = false := by
        have : i < listed.size := by rw [h.lsz]; exact hlt
        simp [this] at h0 ⊢; exact h0
      have hob := Obs.at_ ops.toList 0 hOb i o (by simpa using ho)
      rw [Nat.zero_add] at hob
      have hob := hob a w h.ext (h.seen hB hi)
      have next : ∀ u w', E w w' → V i u w' → wpAny P .any ops Q fuel (listed.setIfInBounds i true) (a.put o.dst u) w' := fun u w' hE hV =>
        ih _ _ _ (by have := unl_set h.lsz hlt hl0; omega) (h.put hB hT hM ho hi hE hV)
      unfold wpOp
      simp only [ho]
      split
      · rename_i hw
        rw [if_pos hw] at hob
        exact .inl (relAt.wp hob next)
      · rename_i hw
        rw [if_neg hw] at hob
        exact next _ _ (hE0 w) hob
/-- All that the slots hold at the end. -/
def AllV (V : Nat → Value → World → Prop) (x : Nat → Value) (w : World) : Nat → List (Option Tmp) → Prop
  | _, [] => True
  | i, some t :: l => V i (x t) w ∧ AllV V x w (i + 1) l
  | i, none :: l => AllV V x w (i + 1) l
theorem AllV_of {x : Nat → Value} {w : World} : ∀ (l : List (Option Tmp)) (k : Nat), (∀ i t, l[i]? = some (some t) → V (k + i) (x t) w) → AllV V x w k l
  | [], _, _ => trivial
  | some t :: l, k, h => ⟨h 0 t rfl, AllV_of l (k + 1) fun i t hi => by have := h (i + 1) t (by simpa using hi); rwa [show k + (i + 1) = k + 1 + i by omega] at this⟩
  | none :: l, k, h => by
    unfold AllV
    exact AllV_of l (k + 1) fun i t hi => by have := h (i + 1) t (by simpa using hi); rwa [show k + (i + 1) = k + 1 + i by omega] at this
def puts (x : Nat → Value) : List (Option Tmp) → Act → Act
  | [], a => a
  | some t :: l, a => puts x l (a.put (some t) (x t))
  | none :: l, a => puts x l a
theorem puts_defers (x : Nat → Value) : ∀ (l : List (Option Tmp)) (a : Act), (puts x l a).defers = a.defers
  | [], _ => rfl
  | some t :: l, a => by rw [puts, puts_defers x l]; rfl
  | none :: l, a => by rw [puts, puts_defers x l]
theorem puts_size (x : Nat → Value) : ∀ (l : List (Option Tmp)) (a : Act), (puts x l a).tmps.size = a.tmps.size
  | [], _ => rfl
  | some t :: l, a => by rw [puts, puts_size x l]; simp [Act.put]
  | none :: l, a => by rw [puts, puts_size x l]
theorem puts_out (x : Nat → Value) : ∀ (l : List (Option Tmp)) (a : Act) (s : Nat), some s ∉ l → (puts x l a).tmps.getD s undef = a.tmps.getD s undef
  | [], _, _, _ => rfl
  | some t :: l, a, s, h => by
    rw [puts, puts_out x l _ s (fun hh => h (by simp [hh]))]
    have hne : t ≠ s := fun e => h (by simp [e])
    simp [Act.put, Array.getElem?_setIfInBounds_ne hne]
  | none :: l, a, s, h => by rw [puts, puts_out x l _ s (fun hh => h (by simp [hh]))]
theorem puts_in (x : Nat → Value) : ∀ (l : List (Option Tmp)) (a : Act) (s : Nat), some s ∈ l → s < a.tmps.size → (puts x l a).tmps.getD s undef = x s
  | some t :: l, a, s, h, hs => by
    rw [puts]
    by_cases hm : some s ∈ l
    · exact puts_in x l _ s hm (by simpa [Act.put] using hs)
    · rw [puts_out x l _ s hm]
      have : s = t := by simpa [hm] using h
      subst this
      simp [Act.put, hs]
  | none :: l, a, s, h, hs => by
    rw [puts]
    exact puts_in x l _ s (by simpa using h) hs
theorem act_ext {a b : Act} (h1 : a.defers = b.defers) (h2 : a.tmps.size = b.tmps.size) (h3 : ∀ s, s < a.tmps.size → a.tmps.getD s undef = b.tmps.getD s undef) : a = b := by
  obtain ⟨ta, da⟩ := a
  obtain ⟨tb, db⟩ := b
  simp only at h1 h2 h3
  subst h1
  congr 1
  refine Array.ext h2 fun i hi hi' => ?_
  have := h3 i hi
  simpa [hi, hi'] using this

theorem no_list (n j : Nat) : (Array.replicate n false).getD j false = false := by
  by_cases h : j < n
  · simp [h]
  · simp [h]
/-- THE RULE: a region that draws its order. -/
theorem wp_region_fam {id : Nat} {Q : Exit → Act → World → Prop} {w : World} {n : Nat} (ds : List (Option Tmp)) (hm : P.follows .mixedOrders = true) (hn : a0.tmps.size = n) (hB : famB ops n = true)
    (hds : ops.toList.map (·.dst) = ds) (hT : ∀ x y z : World, E x y → E y z → E x z)
    (hM : ∀ i v x y, V i v x → E x y → V i v y) (hE0 : ∀ x, E x x) (hOb : Obs P ops E V a0 w.drew 0 ops.toList)
    (hQ : ∀ x w', E w.drew w' → AllV V x w' 0 ds → Q .normal (puts x ds a0) w') : (Code.region id ops true).wp P Q a0 w := by
  subst hn
  refine wp_region_any hm (wpAny_fam (E := E) (V := V) (w0 := w.drew) hB hT hM hE0 hOb ?_ _ _ _ _ ?_ ?_)
  · intro a w' hE hd hs hy hno
    have hmem : ∀ t, (who ops t = none ↔ some t ∉ ds) := by
      intro t
      rw [← hds]
      unfold who
      rw [List.find?_eq_none]
      constructor
      · intro h hm
        obtain ⟨o, ho, hdo⟩ := List.mem_map.1 hm
        obtain ⟨j, hj⟩ := List.getElem?_of_mem ho
        have hj' : ops[j]? = some o := by simpa using hj
        have hlt := (Array.getElem?_eq_some_iff.1 hj').1
        exact h j (List.mem_range.2 hlt) (by unfold dstAt; simp [hj', hdo])
      · intro h j hj hdj
        apply h
        unfold dstAt at hdj
        have hlt := List.mem_range.1 hj
        have ho : ops[j]? = some ops[j] := Array.getElem?_eq_getElem hlt
        simp only [ho, Option.bind_some, beq_iff_eq] at hdj
        exact List.mem_map.2 ⟨ops[j], Array.getElem_mem_toList hlt, hdj⟩
    have e : a = puts (fun t => a.tmps.getD t undef) ds a0 := by
      refine act_ext (by rw [puts_defers, hd]) (by rw [puts_size, hs]) fun s hlt => ?_
      by_cases hsd : some s ∈ ds
      · rw [puts_in _ _ _ _ hsd (by omega)]
      · rw [puts_out _ _ _ _ hsd]
        exact hno s ((hmem s).2 hsd)
    rw [e]
    refine hQ _ _ hE (AllV_of _ _ fun i t hi => ?_)
    rw [Nat.zero_add]
    refine hy t i ?_
    rw [← hds, List.getElem?_map] at hi
    obtain ⟨o, ho, hdo⟩ := Option.map_eq_some_iff.1 hi
    exact (famB_dst hB (by simpa using ho) hdo).1
  · unfold unl
    rw [List.countP_eq_length.2 (fun j hj => by rw [no_list]; rfl)]
    simp
  · refine ⟨hE0 _, rfl, rfl, by simp, ?_, ?_, fun _ _ => rfl⟩
    · intro i o _ hl; rw [no_list] at hl; cases hl
    · intro t j _ hl; rw [no_list] at hl; cases hl
end
def famV (Vs : List (Value → World → Prop)) (i : Nat) : Value → World → Prop := Vs.getD i fun _ _ => False
def MonoL (E : World → World → Prop) : List (Value → World → Prop) → Prop
  | [] => True
  | R :: l => (∀ v x y, R v x → E x y → R v y) ∧ MonoL E l
theorem MonoL.at_ {E : World → World → Prop} : ∀ {l : List (Value → World → Prop)}, MonoL E l → ∀ i v x y, famV l i v x → E x y → famV l i v y
  | [], _, i, v, x, y, h, _ => absurd h (by simp [famV])
  | R :: l, hm, 0, v, x, y, h, e => hm.1 v x y h e
  | R :: l, hm, i + 1, v, x, y, h, e => by
    have := MonoL.at_ hm.2 i v x y (by simpa [famV] using h) e
    simpa [famV] using this
theorem isV_mono (E : World → World → Prop) (u : Value) : ∀ v x y, isV u v x → E x y → isV u v y := fun _ _ _ h _ => h
section
variable {P : Program} {ops : Array Oper} {E : World → World → Prop} {Vs : List (Value → World → Prop)} {a0 : Act} {w0 : World}
theorem wp_region_fam_lit {id : Nat} {Q : Exit → Act → World → Prop} {w : World} {l : List Oper} {n : Nat} (Vs : List (Value → World → Prop)) (ds : List (Option Tmp)) (hm : P.follows .mixedOrders = true) (hn : a0.tmps.size = n)
    (hB : famB l.toArray n = true) (hds : l.map (·.dst) = ds) (hT : ∀ x y z : World, E x y → E y z → E x z) (hE0 : ∀ x, E x x) (hM : MonoL E Vs)
    (hOb : Obs P l.toArray E (famV Vs) a0 w.drew 0 l) (hQ : ∀ x w', E w.drew w' → AllV (famV Vs) x w' 0 ds → Q .normal (puts x ds a0) w') : (Code.region id l.toArray true).wp P Q a0 w :=
  wp_region_fam (E := E) (V := famV Vs) ds hm hn hB (by simpa using hds) hT hM.at_ hE0 (by simpa using hOb) hQ
theorem Obs.cons {V : Nat → Value → World → Prop} {i : Nat} {j : Nat} {o : Oper} {l : List Oper} (hj : i + 1 = j) (h : Ob P ops E V a0 w0 i o) (hl : Obs P ops E V a0 w0 j l) : Obs P ops E V a0 w0 i (o :: l) := by
  subst hj; exact ⟨h, hl⟩
theorem Ob.free {V : Nat → Value → World → Prop} {i : Nat} {o : Oper} (l : List (Tmp × Option Nat)) (hs : sees ops i = l) (R : Value → World → Prop) (hR : V i = R) (hg : o.guard = none)
    (h : ∀ a w, E w0 w → Seen V a0 a w l → relAt P o a E w R) : Ob P ops E V a0 w0 i o := by
  subst hs; subst hR
  intro a w hE hL
  rw [if_pos (by unfold Region.wanted; rw [hg])]
  exact h a w hE hL
theorem wanted_yes {a : Act} {o : Oper} {g : Nat} {b : Bool} {t : Tmp} (hg : o.guard = some (g, b)) (hd : dstAt ops g = some t) (hv : a.tmps.getD t undef = .bool b) : Region.wanted o (yielded ops a.tmps) = true := by
  unfold dstAt at hd
  unfold Region.wanted yielded
  rw [hg]
  simp only [hd]
  have : a.tmps[t]? = some (.bool b) := by
    rcases Nat.lt_or_ge t a.tmps.size with h | h
    · rw [Array.getElem?_eq_getElem h]
      simp [h] at hv
      rw [hv]
    · simp [Array.getElem?_eq_none h, undef] at hv
  simp [this]
theorem Ob.guarded {V : Nat → Value → World → Prop} {i : Nat} {o : Oper} (l : List (Tmp × Option Nat)) (hs : sees ops i = l) (R : Value → World → Prop) (hR : V i = R) (g : Nat) (b : Bool) (t : Tmp) (hg : o.guard = some (g, b)) (hd : dstAt ops g = some t)
    (h : ∀ a w, E w0 w → Seen V a0 a w l → a.tmps.getD t undef = .bool b ∧ relAt P o a E w R) : Ob P ops E V a0 w0 i o := by
  subst hs; subst hR
  intro a w hE hL
  obtain ⟨hv, h⟩ := h a w hE hL
  rw [if_pos (wanted_yes hg hd hv)]
  exact h
end
section
variable {P : Program} {ops : Array Oper} {E : World → World → Prop} {a0 : Act} {w0 : World}
theorem wanted_no {a : Act} {o : Oper} {g : Nat} {b : Bool} {t : Tmp} (hg : o.guard = some (g, b)) (hd : dstAt ops g = some t) (hv : a.tmps.getD t undef = .bool (!b)) : ¬ Region.wanted o (yielded ops a.tmps) = true := by
  unfold dstAt at hd
  unfold Region.wanted yielded
  rw [hg]
  simp only [hd]
  have : a.tmps[t]? = some (.bool (!b)) := by
    rcases Nat.lt_or_ge t a.tmps.size with h | h
    · rw [Array.getElem?_eq_getElem h]
      simp [h] at hv
      rw [hv]
    · simp [Array.getElem?_eq_none h, undef] at hv
  simp [this]
theorem Ob.skip {V : Nat → Value → World → Prop} {i : Nat} {o : Oper} (l : List (Tmp × Option Nat)) (hs : sees ops i = l) (hR : V i = isV undef) (g : Nat) (b : Bool) (t : Tmp) (hg : o.guard = some (g, b)) (hd : dstAt ops g = some t)
    (h : ∀ a w, E w0 w → Seen V a0 a w l → a.tmps.getD t undef = .bool (!b)) : Ob P ops E V a0 w0 i o := by
  subst hs
  intro a w hE hL
  rw [if_neg (wanted_no hg hd (h a w hE hL)), hR]
  rfl
end
section
variable {P : Program} {ops : Array Oper} {E : World → World → Prop} {V : Nat → Value → World → Prop} {a0 : Act} {w0 : World}
/-- An operation waits for another one, directly or through others. -/
def reach (ops : Array Oper) : Nat → Nat → Nat → Bool
  | 0, i, j => waits ops i j
  | n + 1, i, j => waits ops i j || (List.range ops.size).any fun k => waits ops i k && reach ops n k j
def tailB (ops : Array Oper) (n1 : Nat) : Bool := (List.range ops.size).all fun i => decide (i < n1) || (List.range n1).all fun j => reach ops 6 i j
theorem tailB_spec {n1 i j : Nat} (h : tailB ops n1 = true) (hi : i < ops.size) (h1 : n1 ≤ i) (hj : j < n1) : reach ops 6 i j = true := by
  simp only [tailB, List.all_eq_true, List.mem_range, Bool.or_eq_true, decide_eq_true_eq] at h
  rcases h i hi with h2 | h2
  · omega
  · exact h2 j hj
theorem reach_listed {listed : Array Bool} (hc : ∀ i o, ops[i]? = some o → listed.getD i false = true → ∀ e ∈ o.after, Region.binds .any e = true → listed.getD e.on false = true) :
    ∀ (n i j : Nat), (∀ k, waits ops i k = true → listed.getD k false = true) → reach ops n i j = true → listed.getD j false = true
  | 0, i, j, h, hr => h j hr
  | n + 1, i, j, h, hr => by
    simp only [reach, Bool.or_eq_true, List.any_eq_true, Bool.and_eq_true] at hr
    rcases hr with hr | ⟨k, _, h1, h2⟩
    · exact h j hr
    · refine reach_listed hc n k j (fun m hm => ?_) h2
      obtain ⟨o', ho', e, he, hb, rfl⟩ := waits_spec hm
      exact hc k o' ho' (h k h1) e he hb
theorem wpAny_fam_tail {Q : Exit → Act → World → Prop} {l1 : List Oper} (hB : famB ops a0.tmps.size = true) (hTB : tailB ops l1.length = true) (hle : l1.length ≤ ops.size) (hl : ∀ i, i < l1.length → l1[i]? = ops[i]?) (hT : ∀ x y z : World, E x y → E y z → E x z)
    (hM : ∀ i v x y, V i v x → E x y → V i v y) (hE0 : ∀ x, E x x) (hOb : Obs P ops E V a0 w0 0 l1)
    (hQ : ∀ listed a w, (∀ i, listed.getD i false = decide (i < l1.length)) → FamInv ops E V a0 w0 listed a w → wpAny P .any ops Q (ops.size - l1.length) listed a w) :
    ∀ (fuel : Nat) (listed : Array Bool) (a : Act) (w : World), unl listed l1.length = fuel → (∀ i, l1.length ≤ i → listed.getD i false = false) → FamInv ops E V a0 w0 listed a w → wpAny P .any ops Q (fuel + (ops.size - l1.length)) listed a w := by
  intro fuel
  induction fuel with
  | zero =>
    intro listed a w hu hno h
    rw [Nat.zero_add]
    refine hQ listed a w (fun i => ?_) h
    by_cases hi : i < l1.length
    · rw [unl_zero hu i hi]; simp [hi]
    · rw [hno i (by omega)]; simp [hi]
  | succ fuel ih =>
    intro listed a w hu hno h
    rw [show fuel + 1 + (ops.size - l1.length) = (fuel + (ops.size - l1.length)) + 1 by omega]
    have hpos : 0 < unl listed l1.length := by omega
    unfold unl at hpos
    rw [List.countP_pos_iff] at hpos
    obtain ⟨k, hk, hkl⟩ := hpos
    have hk := List.mem_range.1 hk
    have hkl : listed.getD k false = false := by simpa using hkl
    refine ⟨fun hnil => absurd hnil (some_ready hB h.lsz k (by omega) hkl), fun i hi => ?_⟩
    obtain ⟨h0, o, ho, hall⟩ := mem_ready.1 hi
    have hlt := (Array.getElem?_eq_some_iff.1 ho).1
    have hi1 : i < l1.length := by
      rcases Nat.lt_or_ge i l1.length with h1 | h1
      · exact h1
      · have := reach_listed h.cls 6 i k (fun m hm => by
          obtain ⟨o', ho', e, he, hb, rfl⟩ := waits_spec hm
          rw [ho] at ho'
          obtain rfl := Option.some.inj ho'
          exact hall e he hb) (tailB_spec hTB hlt h1 hk)
        rw [hkl] at this; cases this
    have hl0 : listed.getD i false = false := by
      have : i < listed.size := by rw [h.lsz]; exact hlt
      simp [this] at h0 ⊢; exact h0
    have hob := Obs.at_ l1 0 hOb i o (by rw [hl i hi1]; exact ho)
    rw [Nat.zero_add] at hob
    have hob := hob a w h.ext (h.seen hB hi)
    have hils : i < listed.size := by rw [h.lsz]; exact hlt
    have next : ∀ u w', E w w' → V i u w' → wpAny P .any ops Q (fuel + (ops.size - l1.length)) (listed.setIfInBounds i true) (a.put o.dst u) w' := fun u w' hE hV =>
      ih _ _ _ (by
        have := countP_set (fun j => !listed.getD j false) (fun j => !(listed.setIfInBounds i true).getD j false) i (by simp [hl0]) (by simp only [getD_setB hils]; simp) (fun j hj => by simp only [getD_setB hils, if_neg hj]) l1.length hi1
        unfold unl at hu ⊢; omega)
        (fun j hj => by rw [getD_setB hils, if_neg (by omega)]; exact hno j hj) (h.put hB hT hM ho hi hE hV)
    unfold wpOp
    simp only [ho]
    split
    · rename_i hw
      rw [if_pos hw] at hob
      exact .inl (relAt.wp hob next)
    · rename_i hw
      rw [if_neg hw] at hob
      exact next _ _ (hE0 w) hob
/-- THE RULE with a tail that waits for all that stands ahead of it. -/
theorem wp_region_fam_tail {id : Nat} {Q : Exit → Act → World → Prop} {w : World} {l1 l2 : List Oper} {n : Nat} (Vs : List (Value → World → Prop)) (ds : List (Option Tmp)) (listed : Array Bool) (hm : P.follows .mixedOrders = true) (hn : a0.tmps.size = n)
    (hB : famB (l1 ++ l2).toArray n = true) (hTB : tailB (l1 ++ l2).toArray l1.length = true) (hds : l1.map (·.dst) = ds) (hli : List.replicate l1.length true ++ List.replicate l2.length false = listed.toList)
    (hT : ∀ x y z : World, E x y → E y z → E x z) (hE0 : ∀ x, E x x) (hM : MonoL E Vs)
    (hOb : Obs P (l1 ++ l2).toArray E (famV Vs) a0 w.drew 0 l1) (hQ : ∀ x w', E w.drew w' → AllV (famV Vs) x w' 0 ds → wpAny P .any (l1 ++ l2).toArray Q l2.length listed (puts x ds a0) w') : (Code.region id (l1 ++ l2).toArray true).wp P Q a0 w := by
  subst hn
  have hle : l1.length ≤ (l1 ++ l2).toArray.size := by simp
  have hl : ∀ i, i < l1.length → l1[i]? = (l1 ++ l2).toArray[i]? := fun i hi => by simp [List.getElem?_append_left hi]
  refine wp_region_any hm ?_
  have key := wpAny_fam_tail (E := E) (V := famV Vs) (a0 := a0) (w0 := w.drew) (Q := Q) hB hTB hle hl hT hM.at_ hE0 hOb ?_ l1.length (Array.replicate (l1 ++ l2).toArray.size false) a0 { w with drawn := w.drawn + 1 } ?_ ?_ ?_
  · have e : l1.length + ((l1 ++ l2).toArray.size - l1.length) = (l1 ++ l2).toArray.size := by simp
    rw [e] at key
    exact key
  · intro li a w' hli' h
    have e1 : (l1 ++ l2).toArray.size - l1.length = l2.length := by simp
    have e2 : li = listed := by
      apply Array.ext'
      rw [← hli]
      apply List.ext_getElem?
      intro i
      have h1 := hli' i
      have hs : li.toList.length = l1.length + l2.length := by have := h.lsz; simpa using this
      by_cases hi : i < l1.length + l2.length
      · have h2 : li.toList[i]? = some (decide (i < l1.length)) := by
          have hi' : i < li.size := by rw [show li.size = l1.length + l2.length by simpa using hs]; exact hi
          simp [hi'] at h1 ⊢
          exact h1
        rw [h2]
        by_cases hi1 : i < l1.length
        · rw [List.getElem?_append_left (by simpa using hi1)]; simp [hi1]
        · rw [List.getElem?_append_right (by simpa using hi1)]
          rw [List.getElem?_replicate, if_pos (by rw [List.length_replicate]; omega)]
          simp [hi1]
      · rw [List.getElem?_eq_none (by omega), List.getElem?_eq_none (by rw [List.length_append, List.length_replicate, List.length_replicate]; omega)]
    have hw : ∀ t, (∀ j, who (l1 ++ l2).toArray t = some j → li.getD j false = false) ↔ some t ∉ ds := by
      intro t
      rw [← hds]
      constructor
      · intro hj hm
        obtain ⟨o, ho, hdo⟩ := List.mem_map.1 hm
        obtain ⟨j, hj'⟩ := List.getElem?_of_mem ho
        have hlt : j < l1.length := (List.getElem?_eq_some_iff.1 hj').1
        have := hj j (famB_dst hB (by rw [← hl j hlt]; exact hj') hdo).1
        rw [hli' j] at this
        simp [hlt] at this
      · intro hnm j hj
        rw [hli' j]
        by_cases hlt : j < l1.length
        · exfalso
          apply hnm
          have hd := who_spec hj
          unfold dstAt at hd
          rw [← hl j hlt, List.getElem?_eq_getElem hlt] at hd
          exact List.mem_map.2 ⟨l1[j], List.getElem_mem _, by simpa using hd⟩
        · simp [hlt]
    have e : a = puts (fun t => a.tmps.getD t undef) ds a0 := by
      refine act_ext (by rw [puts_defers, h.dfs]) (by rw [puts_size, h.siz]) fun s hlt => ?_
      by_cases hsd : some s ∈ ds
      · rw [puts_in _ _ _ _ hsd (by have := h.siz; omega)]
      · rw [puts_out _ _ _ _ hsd]
        exact h.no s ((hw s).2 hsd)
    rw [e1, e2, e]
    refine hQ _ _ h.ext (AllV_of _ _ fun i t hi => ?_)
    rw [Nat.zero_add]
    rw [← hds, List.getElem?_map] at hi
    obtain ⟨o, ho, hdo⟩ := Option.map_eq_some_iff.1 hi
    have hlt : i < l1.length := (List.getElem?_eq_some_iff.1 ho).1
    refine h.yes t i (famB_dst hB (by rw [← hl i hlt]; exact ho) hdo).1 ?_
    rw [hli' i]; simp [hlt]
  · unfold unl
    rw [List.countP_eq_length.2 (fun j hj => by rw [no_list]; rfl)]
    simp
  · intro i _; rw [no_list]
  · refine ⟨hE0 _, rfl, rfl, by simp, ?_, ?_, fun _ _ => rfl⟩
    · intro i o _ hl; rw [no_list] at hl; cases hl
    · intro t j _ hl; rw [no_list] at hl; cases hl
theorem wp_region_fam_tail_lit {id : Nat} {Q : Exit → Act → World → Prop} {w : World} {l : List Oper} {n : Nat} (n1 m : Nat) (Vs : List (Value → World → Prop)) (ds : List (Option Tmp)) (listed : Array Bool) (hm : P.follows .mixedOrders = true) (hn : a0.tmps.size = n)
    (hB : famB l.toArray n = true) (hTB : tailB l.toArray n1 = true) (hlen : l.length = n1 + m) (hds : (l.take n1).map (·.dst) = ds) (hli : List.replicate n1 true ++ List.replicate m false = listed.toList)
    (hT : ∀ x y z : World, E x y → E y z → E x z) (hE0 : ∀ x, E x x) (hM : MonoL E Vs)
    (hOb : Obs P l.toArray E (famV Vs) a0 w.drew 0 (l.take n1)) (hQ : ∀ x w', E w.drew w' → AllV (famV Vs) x w' 0 ds → wpAny P .any l.toArray Q m listed (puts x ds a0) w') : (Code.region id l.toArray true).wp P Q a0 w := by
  have e : l.take n1 ++ l.drop n1 = l := List.take_append_drop n1 l
  have h1 : (l.take n1).length = n1 := by simp; omega
  have h2 : (l.drop n1).length = m := by simp; omega
  have := wp_region_fam_tail (P := P) (E := E) (a0 := a0) (id := id) (Q := Q) (w := w) (l1 := l.take n1) (l2 := l.drop n1) (n := n) Vs ds listed hm hn (by rw [e]; exact hB) (by rw [e, h1]; exact hTB) hds (by rw [h1, h2]; exact hli) hT hE0 hM (by rw [e]; exact hOb)
    (by rw [e, h2]; exact hQ)
  rwa [e] at this
end
section
variable {P : Program} {ops : Array Oper} {E : World → World → Prop} {V : Nat → Value → World → Prop} {a0 : Act} {w0 : World}
/-- Every operation from n1 on waits for all ahead of n1 but those of the list. -/
def tailBP (ops : Array Oper) (n1 : Nat) (ps : List Nat) : Bool := (List.range ops.size).all fun i => decide (i < n1) || (List.range n1).all fun j => waits ops i j || ps.contains j
def apartB (ops : Array Oper) (j k : Nat) : Bool := match ops[j]?, ops[k]? with | some oj, some ok => oj.apart ops ok | _, _ => true
def freeB (ops : Array Oper) (ps : List Nat) : Bool := Region.noSelect ops && ps.all fun j => (List.range ops.size).all fun k => k == j || waits ops j k || waits ops k j || apartB ops j k
theorem tailBP_spec {n1 i j : Nat} {ps : List Nat} (h : tailBP ops n1 ps = true) (hi : i < ops.size) (h1 : n1 ≤ i) (hj : j < n1) : waits ops i j = true ∨ j ∈ ps := by
  simp only [tailBP, List.all_eq_true, List.mem_range, Bool.or_eq_true, decide_eq_true_eq] at h
  rcases h i hi with h2 | h2
  · omega
  · rcases h2 j hj with h3 | h3
    · exact .inl h3
    · exact .inr (by simpa using h3)
/-- What is to be shown of an operation that looks at no memory. -/
def ObPure (P : Program) (ops : Array Oper) (V : Nat → Value → World → Prop) (a0 : Act) (i : Nat) (o : Oper) : Prop :=
  o.guard = none ∧ ∀ a w, Seen V a0 a w (sees ops i) → ∃ v, V i v w ∧ ∀ w', (execOp a.eval o).run P w' = .ok (.value v) w'
theorem put_form (a : Act) (d : Option Tmp) (v : Value) : a.put d v = ⟨(a.put d v).tmps, a.defers⟩ := by cases d <;> rfl
theorem wpAny_fam_tailP {Q : Exit → Act → World → Prop} {l1 : List Oper} (ps : List Nat) (hB : famB ops a0.tmps.size = true) (hTB : tailBP ops l1.length ps = true) (hFB : freeB ops ps = true) (hle : l1.length ≤ ops.size) (hl : ∀ i, i < l1.length → l1[i]? = ops[i]?)
    (hT : ∀ x y z : World, E x y → E y z → E x z) (hQp : ∀ c (a : Act) t w, Q (.panic c) ⟨t, a.defers⟩ w → Q (.panic c) a w)
    (hM : ∀ i v x y, V i v x → E x y → V i v y) (hE0 : ∀ x, E x x) (hOb : Obs P ops E V a0 w0 0 l1) (hP : ∀ j ∈ ps, j < l1.length ∧ ∀ o, ops[j]? = some o → ObPure P ops V a0 j o)
    (hQ : ∀ listed a w, (∀ i, listed.getD i false = decide (i < l1.length)) → FamInv ops E V a0 w0 listed a w → wpAny P .any ops Q (ops.size - l1.length) listed a w) :
    ∀ (fuel : Nat) (listed : Array Bool) (a : Act) (w : World), unl listed l1.length = fuel → (∀ i, l1.length ≤ i → listed.getD i false = false) → FamInv ops E V a0 w0 listed a w → wpAny P .any ops Q (fuel + (ops.size - l1.length)) listed a w := by
  intro fuel
  induction fuel with
  | zero =>
    intro listed a w hu hno h
    rw [Nat.zero_add]
    refine hQ listed a w (fun i => ?_) h
    by_cases hi : i < l1.length
    · rw [unl_zero hu i hi]; simp [hi]
    · rw [hno i (by omega)]; simp [hi]
  | succ fuel ih =>
    intro listed a w hu hno h
    rw [show fuel + 1 + (ops.size - l1.length) = (fuel + (ops.size - l1.length)) + 1 by omega]
    have dec : ∀ i, i < l1.length → listed.getD i false = false → unl (listed.setIfInBounds i true) l1.length = fuel := fun i hi1 hl0 => by
      have hils : i < listed.size := by rw [h.lsz]; omega
      have := countP_set (fun j => !listed.getD j false) (fun j => !(listed.setIfInBounds i true).getD j false) i (by simp [hl0]) (by simp only [getD_setB hils]; simp) (fun j hj => by simp only [getD_setB hils, if_neg hj]) l1.length hi1
      unfold unl at hu ⊢; omega
    have tno : ∀ i, i < l1.length → ∀ j, l1.length ≤ j → (listed.setIfInBounds i true).getD j false = false := fun i hi1 j hj => by
      have hils : i < listed.size := by rw [h.lsz]; omega
      rw [getD_setB hils, if_neg (by omega)]; exact hno j hj
    have unlisted : ∀ i, i ∈ Region.ready .any ops listed → listed.getD i false = false := fun i hi => by
      obtain ⟨h0, o, ho, _⟩ := mem_ready.1 hi
      have hlt := (Array.getElem?_eq_some_iff.1 ho).1
      have : i < listed.size := by rw [h.lsz]; exact hlt
      simp [this] at h0 ⊢; exact h0
    by_cases hex : ∃ j ∈ ps, j ∈ Region.ready .any ops listed
    · obtain ⟨j, hj, hr⟩ := hex
      obtain ⟨h0, o, ho, hall⟩ := mem_ready.1 hr
      obtain ⟨hj1, hpure⟩ := hP j hj
      obtain ⟨hg, hv⟩ := hpure o ho
      obtain ⟨v, hV, hrun⟩ := hv a w (h.seen hB hr)
      simp only [freeB, Bool.and_eq_true, List.all_eq_true] at hFB
      refine wpAny_first (v := v) ho (Region.noSelect_spec hFB.1) (fun c a' w' hq => hQp c a' (a'.put o.dst v).tmps w' (put_form a' o.dst v ▸ hq)) _ _ _ _ (fun k ok hk hki hun hnw => ?_) hr (.inl ⟨by unfold Region.wanted; rw [hg], hrun⟩) ?_
      · have hklt := (Array.getElem?_eq_some_iff.1 hk).1
        have hf := hFB.2 j hj k (List.mem_range.2 hklt)
        simp only [Bool.or_eq_true, beq_iff_eq] at hf
        rcases hf with ((hf | hf) | hf) | hf
        · exact absurd hf hki
        · exfalso
          obtain ⟨o', ho', e, he, hb, rfl⟩ := waits_spec hf
          rw [ho] at ho'
          obtain rfl := Option.some.inj ho'
          have h1 := hall e he hb
          have hls : e.on < listed.size := by rw [h.lsz]; exact hklt
          simp [hls] at h1 hun
          rw [h1] at hun; cases hun
        · exfalso
          obtain ⟨o', ho', e, he, hb, hej⟩ := waits_spec hf
          rw [hk] at ho'
          obtain rfl := Option.some.inj ho'
          exact hnw e he hb hej
        · unfold apartB at hf
          simpa only [ho, hk] using hf
      · exact ih _ _ _ (dec j hj1 (unlisted j hr)) (tno j hj1) (h.put hB hT hM ho hr (hE0 w) hV)
    · have hpos : 0 < unl listed l1.length := by omega
      unfold unl at hpos
      rw [List.countP_pos_iff] at hpos
      obtain ⟨k0, hk0, hkl0⟩ := hpos
      have hk0 := List.mem_range.1 hk0
      have hkl0 : listed.getD k0 false = false := by simpa using hkl0
      refine ⟨fun hnil => absurd hnil (some_ready hB h.lsz k0 (by omega) hkl0), fun i hi => ?_⟩
      obtain ⟨h0, o, ho, hall⟩ := mem_ready.1 hi
      have hlt := (Array.getElem?_eq_some_iff.1 ho).1
      have hi1 : i < l1.length := by
        rcases Nat.lt_or_ge i l1.length with h1 | h1
        · exact h1
        · exfalso
          -- all that is not of the list has come up; the least of the list that has not may come up
          have key : ∀ k, k < l1.length → listed.getD k false = true := by
            intro k
            induction k using Nat.strongRecOn with
            | ind k ihk =>
              intro hk
              cases hlk : listed.getD k false with
              | true => rfl
              | false =>
                exfalso
                rcases tailBP_spec hTB hlt h1 hk with hw | hp
                · obtain ⟨o', ho', e, he, hb, rfl⟩ := waits_spec hw
                  rw [ho] at ho'
                  obtain rfl := Option.some.inj ho'
                  have := hall e he hb
                  rw [hlk] at this; cases this
                · have hks : k < ops.size := by omega
                  have hok : ops[k]? = some ops[k] := Array.getElem?_eq_getElem hks
                  refine hex ⟨k, hp, mem_ready.2 ⟨?_, ops[k], hok, fun e he hb => ihk e.on (famB_after hB hok he hb) (by have := famB_after hB hok he hb; omega)⟩⟩
                  have : k < listed.size := by rw [h.lsz]; exact hks
                  simp [this] at hlk ⊢; exact hlk
          rw [key k0 hk0] at hkl0; cases hkl0
      have hob := Obs.at_ l1 0 hOb i o (by rw [hl i hi1]; exact ho)
      rw [Nat.zero_add] at hob
      have hob := hob a w h.ext (h.seen hB hi)
      have next : ∀ u w', E w w' → V i u w' → wpAny P .any ops Q (fuel + (ops.size - l1.length)) (listed.setIfInBounds i true) (a.put o.dst u) w' := fun u w' hE hV =>
        ih _ _ _ (dec i hi1 (unlisted i hi)) (tno i hi1) (h.put hB hT hM ho hi hE hV)
      unfold wpOp
      simp only [ho]
      split
      · rename_i hw
        rw [if_pos hw] at hob
        exact .inl (relAt.wp hob next)
      · rename_i hw
        rw [if_neg hw] at hob
        exact next _ _ (hE0 w) hob
/-- THE RULE with a tail that waits for all that stands ahead of it but what looks at no memory. -/
theorem wp_region_fam_tailP {id : Nat} {Q : Exit → Act → World → Prop} {w : World} {l1 l2 : List Oper} {n : Nat} (Vs : List (Value → World → Prop)) (ds : List (Option Tmp)) (listed : Array Bool) (hm : P.follows .mixedOrders = true) (hn : a0.tmps.size = n)
    (hB : famB (l1 ++ l2).toArray n = true) (ps : List Nat) (hTB : tailBP (l1 ++ l2).toArray l1.length ps = true) (hFB : freeB (l1 ++ l2).toArray ps = true) (hQp : ∀ c (a : Act) t w, Q (.panic c) ⟨t, a.defers⟩ w → Q (.panic c) a w) (hP : ∀ j ∈ ps, j < l1.length ∧ ∀ o, (l1 ++ l2).toArray[j]? = some o → ObPure P (l1 ++ l2).toArray (famV Vs) a0 j o) (hds : l1.map (·.dst) = ds) (hli : List.replicate l1.length true ++ List.replicate l2.length false = listed.toList)
    (hT : ∀ x y z : World, E x y → E y z → E x z) (hE0 : ∀ x, E x x) (hM : MonoL E Vs)
    (hOb : Obs P (l1 ++ l2).toArray E (famV Vs) a0 w.drew 0 l1) (hQ : ∀ x w', E w.drew w' → AllV (famV Vs) x w' 0 ds → wpAny P .any (l1 ++ l2).toArray Q l2.length listed (puts x ds a0) w') : (Code.region id (l1 ++ l2).toArray true).wp P Q a0 w := by
  subst hn
  have hle : l1.length ≤ (l1 ++ l2).toArray.size := by simp
  have hl : ∀ i, i < l1.length → l1[i]? = (l1 ++ l2).toArray[i]? := fun i hi => by simp [List.getElem?_append_left hi]
  refine wp_region_any hm ?_
  have key := wpAny_fam_tailP (E := E) (V := famV Vs) (a0 := a0) (w0 := w.drew) (Q := Q) ps hB hTB hFB hle hl hT hQp hM.at_ hE0 hOb hP ?_ l1.length (Array.replicate (l1 ++ l2).toArray.size false) a0 { w with drawn := w.drawn + 1 } ?_ ?_ ?_
  · have e : l1.length + ((l1 ++ l2).toArray.size - l1.length) = (l1 ++ l2).toArray.size := by simp
    rw [e] at key
    exact key
  · intro li a w' hli' h
    have e1 : (l1 ++ l2).toArray.size - l1.length = l2.length := by simp
    have e2 : li = listed := by
      apply Array.ext'
      rw [← hli]
      apply List.ext_getElem?
      intro i
      have h1 := hli' i
      have hs : li.toList.length = l1.length + l2.length := by have := h.lsz; simpa using this
      by_cases hi : i < l1.length + l2.length
      · have h2 : li.toList[i]? = some (decide (i < l1.length)) := by
          have hi' : i < li.size := by rw [show li.size = l1.length + l2.length by simpa using hs]; exact hi
          simp [hi'] at h1 ⊢
          exact h1
        rw [h2]
        by_cases hi1 : i < l1.length
        · rw [List.getElem?_append_left (by simpa using hi1)]; simp [hi1]
        · rw [List.getElem?_append_right (by simpa using hi1)]
          rw [List.getElem?_replicate, if_pos (by rw [List.length_replicate]; omega)]
          simp [hi1]
      · rw [List.getElem?_eq_none (by omega), List.getElem?_eq_none (by rw [List.length_append, List.length_replicate, List.length_replicate]; omega)]
    have hw : ∀ t, (∀ j, who (l1 ++ l2).toArray t = some j → li.getD j false = false) ↔ some t ∉ ds := by
      intro t
      rw [← hds]
      constructor
      · intro hj hm
        obtain ⟨o, ho, hdo⟩ := List.mem_map.1 hm
        obtain ⟨j, hj'⟩ := List.getElem?_of_mem ho
        have hlt : j < l1.length := (List.getElem?_eq_some_iff.1 hj').1
        have := hj j (famB_dst hB (by rw [← hl j hlt]; exact hj') hdo).1
        rw [hli' j] at this
        simp [hlt] at this
      · intro hnm j hj
        rw [hli' j]
        by_cases hlt : j < l1.length
        · exfalso
          apply hnm
          have hd := who_spec hj
          unfold dstAt at hd
          rw [← hl j hlt, List.getElem?_eq_getElem hlt] at hd
          exact List.mem_map.2 ⟨l1[j], List.getElem_mem _, by simpa using hd⟩
        · simp [hlt]
    have e : a = puts (fun t => a.tmps.getD t undef) ds a0 := by
      refine act_ext (by rw [puts_defers, h.dfs]) (by rw [puts_size, h.siz]) fun s hlt => ?_
      by_cases hsd : some s ∈ ds
      · rw [puts_in _ _ _ _ hsd (by have := h.siz; omega)]
      · rw [puts_out _ _ _ _ hsd]
        exact h.no s ((hw s).2 hsd)
    rw [e1, e2, e]
    refine hQ _ _ h.ext (AllV_of _ _ fun i t hi => ?_)
    rw [Nat.zero_add]
    rw [← hds, List.getElem?_map] at hi
    obtain ⟨o, ho, hdo⟩ := Option.map_eq_some_iff.1 hi
    have hlt : i < l1.length := (List.getElem?_eq_some_iff.1 ho).1
    refine h.yes t i (famB_dst hB (by rw [← hl i hlt]; exact ho) hdo).1 ?_
    rw [hli' i]; simp [hlt]
  · unfold unl
    rw [List.countP_eq_length.2 (fun j hj => by rw [no_list]; rfl)]
    simp
  · intro i _; rw [no_list]
  · refine ⟨hE0 _, rfl, rfl, by simp, ?_, ?_, fun _ _ => rfl⟩
    · intro i o _ hl; rw [no_list] at hl; cases hl
    · intro t j _ hl; rw [no_list] at hl; cases hl
theorem wp_region_fam_tailP_lit {id : Nat} {Q : Exit → Act → World → Prop} {w : World} {l : List Oper} {n : Nat} (n1 m : Nat) (Vs : List (Value → World → Prop)) (ds : List (Option Tmp)) (listed : Array Bool) (ps : List Nat) (hm : P.follows .mixedOrders = true) (hn : a0.tmps.size = n)
    (hB : famB l.toArray n = true) (hTB : tailBP l.toArray n1 ps = true) (hFB : freeB l.toArray ps = true) (hQp : ∀ c (a : Act) t w, Q (.panic c) ⟨t, a.defers⟩ w → Q (.panic c) a w) (hlen : l.length = n1 + m) (hds : (l.take n1).map (·.dst) = ds) (hli : List.replicate n1 true ++ List.replicate m false = listed.toList)
    (hT : ∀ x y z : World, E x y → E y z → E x z) (hE0 : ∀ x, E x x) (hM : MonoL E Vs) (hP : ∀ j ∈ ps, j < n1 ∧ ∀ o, l[j]? = some o → ObPure P l.toArray (famV Vs) a0 j o)
    (hOb : Obs P l.toArray E (famV Vs) a0 w.drew 0 (l.take n1)) (hQ : ∀ x w', E w.drew w' → AllV (famV Vs) x w' 0 ds → wpAny P .any l.toArray Q m listed (puts x ds a0) w') : (Code.region id l.toArray true).wp P Q a0 w := by
  have e : l.take n1 ++ l.drop n1 = l := List.take_append_drop n1 l
  have h1 : (l.take n1).length = n1 := by simp; omega
  have h2 : (l.drop n1).length = m := by simp; omega
  have := wp_region_fam_tailP (P := P) (E := E) (a0 := a0) (id := id) (Q := Q) (w := w) (l1 := l.take n1) (l2 := l.drop n1) (n := n) Vs ds listed hm hn (by rw [e]; exact hB) ps (by rw [e, h1]; exact hTB) (by rw [e]; exact hFB) hQp
    (by rw [e, h1]; intro j hj; exact ⟨(hP j hj).1, fun o ho => (hP j hj).2 o (by simpa using ho)⟩) hds (by rw [h1, h2]; exact hli) hT hE0 hM (by rw [e]; exact hOb) (by rw [e, h2]; exact hQ)
  rwa [e] at this
end
theorem at_of {l : List Oper} {j : Nat} {o' : Oper} {Pr : Oper → Prop} (h : l[j]? = some o') (hp : Pr o') : ∀ o, l[j]? = some o → Pr o := fun o ho => by
  rw [h] at ho; obtain rfl := Option.some.inj ho; exact hp
theorem ObPure.mk' {P : Program} {ops : Array Oper} {V : Nat → Value → World → Prop} {a0 : Act} {i : Nat} {o : Oper} (l : List (Tmp × Option Nat)) (hs : sees ops i = l) (R : Value → World → Prop) (hR : V i = R) (hg : o.guard = none)
    (h : ∀ a w, Seen V a0 a w l → ∃ v, R v w ∧ ∀ w', (execOp a.eval o).run P w' = .ok (.value v) w') : ObPure P ops V a0 i o := by
  subst hs; subst hR; exact ⟨hg, h⟩
/-- What the region's worlds are to one another: what there was is as it was. -/
def Onto (x y : World) : Prop := Below x.heap.size x y
theorem Onto.refl (x : World) : Onto x x := Below.refl _ _
theorem onto_drew {w x : World} (h : Onto w.drew x) : Below w.heap.size w x := (Below.refl _ _).drew.trans (show Below w.heap.size w.drew x from h)
theorem Onto.trans (x y z : World) (h : Onto x y) (k : Onto y z) : Onto x z := Below.trans h (Below.mono k h.size)
end Go.Proofs.Ytbefndibkpjgaaa
/- A net, as the document's functions take it: with, spots. -/
namespace Go.Proofs.Ytbefndibkpjgaaa
open Go.RowKit
set_option linter.unusedVariables false

/-- A slice among a row's elements, and what it holds. -/
structure Sl (α : Type) where
  a : Option Addr
  l : Nat
  c : Nat
  xs : List α
instance {α : Type} : Inhabited (Sl α) := ⟨⟨none, 0, 0, []⟩⟩
def seC {α : Type} (o : Sl α) : List Value := [.slice o.a o.l o.c]
theorem seC_len {α : Type} (o : Sl α) : (seC o).length = 1 := rfl
theorem seC_one {α : Type} (o : Sl α) : ∀ u ∈ seC o, u.oneCell' = true := fun u hu => by simp [seC] at hu; subst hu; rfl
/-- A row of rows. -/
def NRow {α : Type} (C : α → List Value) (k : Nat) (w : World) (a : Option Addr) (n : Nat) (ls : List (List α)) : Prop :=
  ∃ os : List (Sl α), CRow seC 1 w a n os ∧ (∀ o ∈ os, CRow C k w o.a o.l o.xs) ∧ ls = os.map Sl.xs
theorem NRow.below {α : Type} {C : α → List Value} {k : Nat} {w w' : World} {a : Option Addr} {n : Nat} {ls : List (List α)} (h : NRow C k w a n ls) (hb : Below w.heap.size w w') : NRow C k w' a n ls := by
  obtain ⟨os, h1, h2, h3⟩ := h
  exact ⟨os, h1.below hb, fun o ho => (h2 o ho).below hb, h3⟩
theorem NRow.len {α : Type} {C : α → List Value} {k : Nat} {w : World} {a : Option Addr} {n : Nat} {ls : List (List α)} (h : NRow C k w a n ls) : ls.length = n ∧ n ≤ 9223372036854775807 := by
  obtain ⟨os, h1, h2, h3⟩ := h
  exact ⟨by rw [h3, List.length_map]; exact h1.1, h1.2.1⟩
theorem NRow.at_ {α : Type} {C : α → List Value} {k : Nat} {w : World} {a : Option Addr} {n : Nat} {ls : List (List α)} (h : NRow C k w a n ls) {i : Nat} (hi : i < n) :
    ∃ b off l, a = some ⟨b, off, none⟩ ∧ b < w.heap.size ∧ ls[i]? = some l ∧ ∃ A c, w.cell? ⟨b, off + i, none⟩ = some (.slice A l.length c) ∧ CRow C k w A l.length l := by
  obtain ⟨os, h1, h2, h3⟩ := h
  obtain ⟨b, off, o, ha, hb, ho, hc⟩ := h1.at_ hi
  have hr := h2 o (List.mem_of_getElem? ho)
  refine ⟨b, off, o.xs, ha, hb, by rw [h3, List.getElem?_map, ho]; rfl, o.a, o.c, ?_, ?_⟩
  · have := hc 0 _ rfl
    rw [hr.1]
    simpa using this
  · rw [hr.1]; exact hr
/-- A net. -/
structure NetS where
  sets : List (Nat → Bool)
  of : List Int
  last : List Bool
  fol : List (List Int)
  first : List Int
/-- Where a net's lists lie. -/
structure Nv where
  sa : Option Addr
  sn : Nat
  sc : Nat
  oa : Option Addr
  on : Nat
  oc : Nat
  la : Option Addr
  ln : Nat
  lc : Nat
  fa : Option Addr
  fn : Nat
  fc : Nat
  ra : Option Addr
  rn : Nat
  rc : Nat
def netA (v : Nv) : Array Value := #[.slice v.sa v.sn v.sc, .slice v.oa v.on v.oc, .slice v.la v.ln v.lc, .slice v.fa v.fn v.fc, .slice v.ra v.rn v.rc]
structure NetAt (w : World) (v : Nv) (N : NetS) : Prop where
  s : SRow w v.sa v.sn N.sets
  o : CRow intC 1 w v.oa v.on N.of
  l : CRow bolC 1 w v.la v.ln N.last
  f : NRow intC 1 w v.fa v.fn N.fol
  r : CRow intC 1 w v.ra v.rn N.first
theorem NetAt.below {w w' : World} {v : Nv} {N : NetS} (h : NetAt w v N) (hb : Below w.heap.size w w') : NetAt w' v N := ⟨h.s.below hb, h.o.below hb, h.l.below hb, h.f.below hb, h.r.below hb⟩
/-- Those of some spots whose set has a byte. -/
def hasS (N : NetS) (i : Nat) (b : Nat) : Bool := match N.sets[i]? with | some S => S b | none => false
def withUp (N : NetS) (l : List Int) (b : Nat) (k : Nat) : List Int := ((List.range k).filter fun (i : Nat) => l.contains (i : Int) && hasS N i b).map fun (i : Nat) => (i : Int)
def withL (N : NetS) (l : List Int) (b : Nat) : List Int := withUp N l b N.sets.length
theorem withUp_succ (N : NetS) (l : List Int) (b k : Nat) : withUp N l b (k + 1) = withUp N l b k ++ if (l.contains (k : Int) && hasS N k b) = true then [(k : Int)] else [] := by
  unfold withUp
  rw [List.range_succ, List.filter_append, List.map_append]
  by_cases h : (l.contains (k : Int) && hasS N k b) = true
  · rw [if_pos h, List.filter_cons, if_pos h]; rfl
  · rw [if_neg h, List.filter_cons, if_neg h]; rfl
theorem withUp_len (N : NetS) (l : List Int) (b k : Nat) : (withUp N l b k).length ≤ k := by
  unfold withUp
  rw [List.length_map]
  exact Nat.le_trans (List.length_filter_le _ _) (by simp)
/-- What a boxed argument and a new row leave. -/
theorem box_row {w : World} {g : Nat} (hg : w.heap.size = g) (cs : Array Value) (t e : TypeId) (k : Nat) :
    ∃ W, W = (w.alloc (.cells cs t)).alloc (.cells #[] e) ∧ W.heap.size = g + 2 ∧ Below g w W ∧ W.heap[g]? = some (.cells cs t (0, 0)) ∧ W.ownsRow (g + 1) e k (.slice (some ⟨g + 1, 0, none⟩) 0 0) 0 [] := by
  subst hg
  refine ⟨_, rfl, by simp, ((Below.refl _ _).alloc (Nat.le_refl _) _).alloc (by simp) _, ?_, ?_⟩
  · exact (Below.heap_alloc _ _ _ (by simp)).trans (heap_alloc_new w _)
  · have := own_zero (w.alloc (.cells cs t)) (w.heap.size + 1) e k (by simp)
    simpa using this
theorem netC {W : World} {g : Nat} {v : Nv} {t : TypeId} (h : W.heap[g]? = some (.cells (netA v) t (0, 0))) : W.cell? ⟨g, 0, none⟩ = some (.slice v.sa v.sn v.sc) ∧ W.cell? ⟨g, 1, none⟩ = some (.slice v.oa v.on v.oc) ∧
    W.cell? ⟨g, 2, none⟩ = some (.slice v.la v.ln v.lc) ∧ W.cell? ⟨g, 3, none⟩ = some (.slice v.fa v.fn v.fc) ∧ W.cell? ⟨g, 4, none⟩ = some (.slice v.ra v.rn v.rc) := by
  refine ⟨?_, ?_, ?_, ?_, ?_⟩ <;> (rw [cell_of_row W g _ _ _ _ h]; rfl)
end Go.Proofs.Ytbefndibkpjgaaa
/- Expressions: is it one, where parts begin, the empty word; the document's. -/
namespace Go.Proofs.Ytbefndibkpjgaaa
open Go.RowKit
set_option linter.unusedVariables false

attribute [local go_sem ↓] eqS_eq eqS_eq'
def ofZ (k : Int) : Int := if okK k = true then (nP k : Int) else -1
theorem CRow.kind {w : World} {a : Option Addr} {n : Nat} {xs : List Rx} (h : CRow rxC 5 w a n xs) {k : Nat} (hk : k < n) : ∃ b off r, a = some ⟨b, off, none⟩ ∧ b < w.heap.size ∧ xs[k]? = some r ∧ w.cell? ⟨b, off + k * 5, none⟩ = some (.int .i64 r.k) ∧
    w.cell? ⟨b, off + k * 5 + 1, none⟩ = some (.int .u64 (wd r.s 0)) ∧ w.cell? ⟨b, off + k * 5 + 2, none⟩ = some (.int .u64 (wd r.s 1)) ∧ w.cell? ⟨b, off + k * 5 + 3, none⟩ = some (.int .u64 (wd r.s 2)) ∧ w.cell? ⟨b, off + k * 5 + 4, none⟩ = some (.int .u64 (wd r.s 3)) := by
  obtain ⟨b, off, z, ha, hb, hz, hc⟩ := h.at_ hk
  exact ⟨b, off, z, ha, hb, hz, hc 0 _ rfl, hc 1 _ rfl, hc 2 _ rfl, hc 3 _ rfl, hc 4 _ rfl⟩
theorem rof_any (k : Int) (w : World) : Calls Try.prog 54 #[.int .i64 k] w fun e w' => e = .returned (.int .i64 (ofZ k)) ∧ w = w' := by
  by_cases h1 : k = 1
  · subst h1
    go_enter Try.func54, Try.ntmps54
    go_wp2
    go_ret
    exact ⟨rfl, rfl⟩
  by_cases h2 : k = 2
  · subst h2
    go_enter Try.func54, Try.ntmps54
    go_wp2
    go_ret
    exact ⟨rfl, rfl⟩
  by_cases h3 : k = 3
  · subst h3
    go_enter Try.func54, Try.ntmps54
    go_wp2
    go_ret
    exact ⟨rfl, rfl⟩
  by_cases h4 : k = 4
  · subst h4
    go_enter Try.func54, Try.ntmps54
    go_wp2
    go_ret
    exact ⟨rfl, rfl⟩
  by_cases h5 : k = 5
  · subst h5
    go_enter Try.func54, Try.ntmps54
    go_wp2
    go_ret
    exact ⟨rfl, rfl⟩
  by_cases h6 : k = 6
  · subst h6
    go_enter Try.func54, Try.ntmps54
    go_wp2
    go_ret
    exact ⟨rfl, rfl⟩
  by_cases h7 : k = 7
  · subst h7
    go_enter Try.func54, Try.ntmps54
    go_wp2
    go_ret
    exact ⟨rfl, rfl⟩
  have HE : Hid (ofZ k = -1) := Lib.hid (by unfold ofZ okK; simp [h1, h2, h3, h4, h5, h6, h7])
  have e1 : (k == 1) = false := by simpa using h1
  have e2 : (k == 2) = false := by simpa using h2
  have e3 : (k == 3) = false := by simpa using h3
  have e4 : (k == 4) = false := by simpa using h4
  have e5 : (k == 5) = false := by simpa using h5
  have e6 : (k == 6) = false := by simpa using h6
  have e7 : (k == 7) = false := by simpa using h7
  clear h1 h2 h3 h4 h5 h6 h7
  go_enter Try.func54, Try.ntmps54
  go_wp2
  go_ret
  exact ⟨ret_int HE.out.symm, rfl⟩
theorem wk_fst (l : List Rx) : ∀ p m m', (wk l p m).1 = (wk l p m').1 ∧ (wk l p m).2.2 = (wk l p m').2.2 := by
  induction l with
  | nil => intro p m m'; exact ⟨rfl, rfl⟩
  | cons r l ih =>
    intro p m m'
    rw [wk, wk]
    by_cases h1 : badR r = true
    · rw [if_pos h1, if_pos h1]; exact ⟨rfl, rfl⟩
    · rw [if_neg h1, if_neg h1]
      by_cases h2 : p < nP r.k
      · rw [if_pos h2, if_pos h2]; exact ⟨rfl, rfl⟩
      · rw [if_neg h2, if_neg h2]; exact ih _ _ _
set_option maxHeartbeats 2000000 in
set_option maxRecDepth 100000 in
theorem rcheck_any (w : World) (a : Option Addr) (n c : Nat) (rs : List Rx) (h : CRow rxC 5 w a n rs) :
    Calls Try.prog 37 #[.slice a n c] w fun e w' => e = .returned (.int .i64 (chkR rs : Nat)) ∧ w = w' := by
  have HL := Lib.hid h.1
  have hl2 := h.2.1
  have HH := Lib.hid h
  obtain ⟨r, hr⟩ : ∃ r, chkR rs = r := ⟨_, rfl⟩
  have HR := Lib.hid hr
  rw [hr]
  clear h hr
  by_cases hbig : 512 < n
  · have HE : Hid (r = 4) := Lib.hid (by
      have hw : walkR rs = (0, 0, 4) := by unfold walkR; rw [if_pos (by rw [HL.out]; exact hbig)]
      rw [← HR.out]; unfold chkR; rw [hw]; rfl)
    have z1 : (512 : Int) < (n : Int) := by omega
    clear hbig
    go_enter Try.func37, Try.ntmps37
    go_wp2
    go_ret
    exact ⟨ret_int (by rw [HE.out]; rfl), rfl⟩
  have HE : Hid (r = if (wk rs 0 0).2.2 = 0 ∧ (wk rs 0 0).1 ≠ 1 then 3 else (wk rs 0 0).2.2) := Lib.hid (by
    have hw : walkR rs = wk rs 0 0 := by unfold walkR; rw [if_neg (by rw [HL.out]; exact hbig)]
    rw [← HR.out]; unfold chkR; rw [hw])
  have z1 : ¬ (512 : Int) < (n : Int) := by omega
  go_enter Try.func37, Try.ntmps37
  go_wp2
  go_loop [3, 4] (fun u i => ∃ k p : Nat, k ≤ n ∧ p ≤ k ∧ i = .int .i64 (k : Int) ∧ u = .int .i64 (p : Int) ∧ wk rs 0 0 = ((wk (rs.drop k) p 0).1, (wk rs 0 0).2.1, (wk (rs.drop k) p 0).2.2)) (fun _ i => n - (intOf i).toNat)
  case atStart => exact ⟨0, 0, by omega, by omega, rfl, rfl, rfl⟩
  case round =>
    obtain ⟨k, p, hk, hp, rfl, rfl, hw⟩ := hrel
    have HW := Lib.hid hw
    clear hw
    by_cases hlt : k < n
    case neg =>
      have hk2 : k = n := by omega
      have HD : Hid (rs.drop k = []) := Lib.hid (List.drop_eq_nil_of_le (by rw [HL.out]; omega))
      have HF : Hid (r = if p ≠ 1 then 3 else 0) := Lib.hid (by
        rw [HE.out]
        have h1 := HW.out
        rw [HD.out] at h1
        simp only [wk] at h1
        rw [h1]; simp)
      have z2 : ¬ (k : Int) < (n : Int) := by omega
      clear hk2
      by_cases hp1 : p = 1
      · have HG : Hid (r = 0) := Lib.hid (by rw [HF.out, hp1]; rfl)
        have e1 : ((p : Int) != 1) = false := by rw [hp1]; rfl
        clear hp1
        go_wp2
        go_ret
        exact ⟨ret_int (by rw [HG.out]; rfl), rfl⟩
      · have HG : Hid (r = 3) := Lib.hid (by rw [HF.out, if_pos hp1])
        have e1 : ((p : Int) != 1) = true := by rw [bne_iff_ne]; omega
        clear hp1
        go_wp2
        go_ret
        exact ⟨ret_int (by rw [HG.out]; rfl), rfl⟩
    case pos =>
      have z2 : (k : Int) < (n : Int) := by omega
      have z3 : (0 : Int) ≤ (k : Int) := by omega
      obtain ⟨b, off, x, rfl, hb, hx, c0, c1, c2, c3, c4⟩ := HH.out.kind hlt
      have HD := Lib.hid (drop_at hx)
      have HOF := Lib.hid fun w => rof_any x.k w
      have hwr : wk (rs.drop k) p 0 = if badR x = true then (0, 0, 1) else if p < nP x.k then (0, 0, 3) else wk (rs.drop (k + 1)) (p + 1 - nP x.k) (max 0 (p + 1 - nP x.k)) := by rw [HD.out, wk]
      have HWR := Lib.hid hwr
      clear hx hwr
      by_cases hok : okK x.k = true
      case neg =>
        have hof : ofZ x.k = -1 := by unfold ofZ; rw [if_neg hok]
        rw [hof] at HOF
        have HG : Hid (r = 1) := Lib.hid (by
          have hbd : badR x = true := by unfold badR; simp [Bool.eq_false_iff.2 hok]
          have h1 := HW.out
          rw [HWR.out, if_pos hbd] at h1
          rw [HE.out, h1]; rfl)
        clear hof hok
        go_wp2_with (go_at_call 54; refine (HOF.out _).mono ?_; rintro e w' ⟨rfl, rfl⟩)
        go_ret
        exact ⟨ret_int (by rw [HG.out]; rfl), rfl⟩
      case pos =>
        have hof : ofZ x.k = (nP x.k : Int) := by unfold ofZ; rw [if_pos hok]
        rw [hof] at HOF
        have hnp := nP_le x.k
        obtain ⟨q, hq⟩ : ∃ q, nP x.k = q := ⟨_, rfl⟩
        rw [hq] at HOF HWR hnp
        by_cases hbd : badR x = true
        · have hb2 : x.k ≠ 1 ∧ zS x.s = false := by unfold badR at hbd; simp [hok] at hbd; exact hbd
          have HG : Hid (r = 1) := Lib.hid (by
            have h1 := HW.out
            rw [HWR.out, if_pos hbd] at h1
            rw [HE.out, h1]; rfl)
          have hz := hb2.2
          unfold zS at hz
          have heq : ∀ w, (eqS (.agg #[.int .u64 (wd x.s 0), .int .u64 (wd x.s 1), .int .u64 (wd x.s 2), .int .u64 (wd x.s 3)]) (.agg #[.int .u64 0, .int .u64 0, .int .u64 0, .int .u64 0])).run Try.prog w = .ok false w := fun w => by rw [run_eqS, hz]
          clear hz
          have e1 : (x.k != 1) = true := by rw [bne_iff_ne]; exact hb2.1
          clear hof hok hbd hb2 hq
          go_wp2_with (go_at_call 54; refine (HOF.out _).mono ?_; rintro e w' ⟨rfl, rfl⟩)
          go_ret
          exact ⟨ret_int (by rw [HG.out]; rfl), rfl⟩
        · have hz : (x.k != 1) = false ∨ ((x.k != 1) = true ∧ zS x.s = true) := by
            unfold badR at hbd
            simp only [hok, Bool.not_true, Bool.false_or, Bool.and_eq_true, Bool.not_eq_true', not_and, Bool.not_eq_false] at hbd
            cases h : (x.k != 1) with
            | false => exact .inl rfl
            | true => exact .inr ⟨rfl, hbd h⟩
          have HBD := Lib.hid hbd
          have heq : zS x.s = true → ∀ w, (eqS (.agg #[.int .u64 (wd x.s 0), .int .u64 (wd x.s 1), .int .u64 (wd x.s 2), .int .u64 (wd x.s 3)]) (.agg #[.int .u64 0, .int .u64 0, .int .u64 0, .int .u64 0])).run Try.prog w = .ok true w := fun h w => by unfold zS at h; rw [run_eqS, h]
          have HEQ := Lib.hid heq
          clear hbd hof hok hq heq
          by_cases hpq : p < q
          · have HG : Hid (r = 3) := Lib.hid (by
              have h1 := HW.out
              rw [HWR.out, if_neg HBD.out, if_pos hpq] at h1
              rw [HE.out, h1]; rfl)
            have z4 : (p : Int) < (q : Int) := by omega
            clear hpq
            rcases hz with e1 | ⟨e1, e2⟩
            all_goals
              try have heq := HEQ.out e2
              try clear e2
              go_wp2_with (go_at_call 54; refine (HOF.out _).mono ?_; rintro e w' ⟨rfl, rfl⟩)
              go_ret
              exact ⟨ret_int (by rw [HG.out]; rfl), rfl⟩
          · have HNX : Hid (wk rs 0 0 = ((wk (rs.drop (k + 1)) (p + 1 - q) 0).1, (wk rs 0 0).2.1, (wk (rs.drop (k + 1)) (p + 1 - q) 0).2.2)) := Lib.hid (by
              have h1 := HW.out
              rw [HWR.out, if_neg HBD.out, if_neg hpq] at h1
              obtain ⟨f1, f2⟩ := wk_fst (rs.drop (k + 1)) (p + 1 - q) (max 0 (p + 1 - q)) 0
              rw [f1, f2] at h1
              exact h1)
            have z4 : ¬ (p : Int) < (q : Int) := by omega
            have z5 : (p : Int) - (q : Int) + 1 = ((p + 1 - q : Nat) : Int) := by omega
            rcases hz with e1 | ⟨e1, e2⟩
            all_goals
              try have heq := HEQ.out e2
              try clear e2
              clear hpq z5
              go_wp2_with (go_at_call 54; refine (HOF.out _).mono ?_; rintro e w' ⟨rfl, rfl⟩)
              go_round
              case rel => exact ⟨k + 1, p + 1 - q, by omega, by omega, by go_num, by refine congrArg (Value.int .i64) ?_; omega, HNX.out⟩
              case measure => simp [intOf]; omega
/-- Where a part begins. -/
theorem begin_step (w : World) (a : Option Addr) (n c : Nat) (l : List Rx) (h : CRow rxC 5 w a n l) (i q : Nat) (x : Rx) (hi : l[i]? = some x) (hq : ofZ x.k = (q : Int)) (hq2 : q ≤ 2) (f : Nat → Nat) (h0 : f 0 = i) (hpos : ∀ k, k < q → 1 ≤ f k)
    (H : ∀ k, k < q → Calls Try.prog 64 #[.slice a n c, .int .i64 ((f k : Int) - 1)] w fun e w' => e = .returned (.int .i64 (f (k + 1) : Nat)) ∧ w = w') (hfb : ∀ k, f k ≤ 1000000) :
    Calls Try.prog 64 #[.slice a n c, .int .i64 (i : Int)] w fun e w' => e = .returned (.int .i64 (f q : Nat)) ∧ w = w' := by
  have hl2 := h.2.1
  have hin : i < n := by rw [← h.1]; exact (List.getElem?_eq_some_iff.1 hi).1
  have HOF := Lib.hid fun w => rof_any x.k w
  rw [hq] at HOF
  obtain ⟨b, off, x', rfl, hb, hx, c0, c1, c2, c3, c4⟩ := h.kind hin
  rw [hi] at hx
  obtain rfl := Option.some.inj hx
  have HC := Lib.hid H
  have HP := Lib.hid hpos
  have HFB := Lib.hid hfb
  have H0 := Lib.hid h0
  have z0 : (0 : Int) ≤ (i : Int) := by omega
  have z1 : (i : Int) < (n : Int) := by omega
  have z2 : decide ((i : Int) < 0) = false := decide_eq_false (by omega)
  have z3 : decide (n ≤ i) = false := decide_eq_false (by omega)
  clear h hi hx H hpos hq h0 hfb
  go_enter Try.func64, Try.ntmps64
  go_wp2_with (go_at_call 54; refine (HOF.out _).mono ?_; rintro e w' ⟨rfl, rfl⟩)
  go_loop [6, 7] (fun u i => ∃ k : Nat, k ≤ q ∧ i = .int .i64 (k : Int) ∧ u = .int .i64 (f k : Nat)) (fun _ i => q - (intOf i).toNat)
  case atStart => exact ⟨0, by omega, rfl, by rw [H0.out]⟩
  case round =>
    obtain ⟨k, hk, rfl, rfl⟩ := hrel
    by_cases hlt : k < q
    · have HCK := Lib.hid (HC.out k hlt)
      have hpk := HP.out k hlt
      have hb1 := HFB.out k
      obtain ⟨y, hy⟩ : ∃ y, f k = y := ⟨_, rfl⟩
      obtain ⟨y2, hy2⟩ : ∃ y, f (k + 1) = y := ⟨_, rfl⟩
      rw [hy] at HCK hpk hb1 ⊢
      rw [hy2] at HCK
      have HY2 := Lib.hid hy2
      clear hy hy2
      go_wp2_with fail
      refine HCK.out.mono ?_
      rintro e w' ⟨rfl, rfl⟩
      go_wp2_with fail
      go_round
      case rel => exact ⟨k + 1, by omega, by go_num, by rw [HY2.out]⟩
      case measure => simp [intOf]; omega
    · have hk2 : k = q := by omega
      subst hk2
      obtain ⟨y, hy⟩ : ∃ y, f k = y := ⟨_, rfl⟩
      have HY := Lib.hid hy
      rw [hy]
      clear hy HC HP HFB H0
      go_wp2_with fail
      go_ret
      exact ⟨ret_int (by rw [HY.out]), rfl⟩
theorem rbegin_any (w : World) (a : Option Addr) (n c : Nat) (l : List Rx) (h : CRow rxC 5 w a n l) (hn : n ≤ 100000) : ∀ (T : RxT) (i base : Nat), PartAt l i base T →
    Calls Try.prog 64 #[.slice a n c, .int .i64 (i : Int)] w fun e w' => e = .returned (.int .i64 ((i + 1 - (post T).length : Nat) : Int)) ∧ w = w' := by
  have hb : ∀ {i base : Nat} {T : RxT}, PartAt l i base T → i < n := fun hp => by rw [← h.1]; exact hp.lt
  have one : ∀ (T a' : RxT) (k : Int), post T = post a' ++ [stp0 k] → topK T = k → ofZ k = 1 → (∀ (i base : Nat), PartAt l i base a' → Calls Try.prog 64 #[.slice a n c, .int .i64 (i : Int)] w fun e w' => e = .returned (.int .i64 ((i + 1 - (post a').length : Nat) : Int)) ∧ w = w') → ∀ (i base : Nat), PartAt l i base T →
      Calls Try.prog 64 #[.slice a n c, .int .i64 (i : Int)] w fun e w' => e = .returned (.int .i64 ((i + 1 - (post T).length : Nat) : Int)) ∧ w = w' := by
    intro T a' k hT hk ho ih i base hp
    obtain ⟨h1, hpa⟩ := hp.last1 hT
    obtain ⟨x, hx, hxk⟩ := hp.kind
    have hlt := hb hp
    have := begin_step w a n c l h i 1 x hx (by rw [hxk, hk, ho]; rfl) (by omega) (fun j => if j = 0 then i else i - 1 + 1 - (post a').length) rfl (fun j hj => by
      obtain rfl : j = 0 := by omega
      exact h1) (fun j hj => by
      obtain rfl : j = 0 := by omega
      have := ih (i - 1) base hpa
      simp only [if_true, Nat.zero_add, if_neg (by decide : ¬ 1 = 0)]
      rwa [show ((i : Int) - 1) = ((i - 1 : Nat) : Int) by omega]) (fun j => by split <;> omega)
    simp only [if_neg (by decide : ¬ 1 = 0)] at this
    rw [hT]
    simp only [List.length_append, List.length_singleton]
    rwa [show i + 1 - ((post a').length + 1) = i - 1 + 1 - (post a').length by omega]
  have two : ∀ (T a' b' : RxT) (k : Int), post T = post a' ++ (post b' ++ [stp0 k]) → topK T = k → ofZ k = 2 → (∀ (i base : Nat), PartAt l i base a' → Calls Try.prog 64 #[.slice a n c, .int .i64 (i : Int)] w fun e w' => e = .returned (.int .i64 ((i + 1 - (post a').length : Nat) : Int)) ∧ w = w') →
      (∀ (i base : Nat), PartAt l i base b' → Calls Try.prog 64 #[.slice a n c, .int .i64 (i : Int)] w fun e w' => e = .returned (.int .i64 ((i + 1 - (post b').length : Nat) : Int)) ∧ w = w') → ∀ (i base : Nat), PartAt l i base T →
      Calls Try.prog 64 #[.slice a n c, .int .i64 (i : Int)] w fun e w' => e = .returned (.int .i64 ((i + 1 - (post T).length : Nat) : Int)) ∧ w = w' := by
    intro T a' b' k hT hk ho iha ihb i base hp
    obtain ⟨h1, hpb, h2, hpa⟩ := hp.last2 hT
    obtain ⟨x, hx, hxk⟩ := hp.kind
    have hlt := hb hp
    have hpb1 := post_pos b'
    have := begin_step w a n c l h i 2 x hx (by rw [hxk, hk, ho]; rfl) (by omega) (fun j => if j = 0 then i else if j = 1 then i - (post b').length else i - (post b').length - (post a').length) rfl (fun j hj => by
      have : j = 0 ∨ j = 1 := by omega
      rcases this with rfl | rfl
      · exact h1
      · show 1 ≤ i - (post b').length; omega) (fun j hj => by
      have : j = 0 ∨ j = 1 := by omega
      rcases this with rfl | rfl
      · have := ihb (i - 1) _ hpb
        simp only [if_true, Nat.zero_add, if_neg (by decide : ¬ 1 = 0)]
        rw [show i - 1 + 1 - (post b').length = i - (post b').length by omega] at this
        rwa [show ((i : Int) - 1) = ((i - 1 : Nat) : Int) by omega]
      · have := iha (i - (post b').length - 1) _ hpa
        simp only [if_neg (by decide : ¬ 1 = 0), if_true, Nat.reduceAdd, if_neg (by decide : ¬ 2 = 0), if_neg (by decide : ¬ 2 = 1)]
        rw [show i - (post b').length - 1 + 1 - (post a').length = i - (post b').length - (post a').length by omega] at this
        rwa [show (((i - (post b').length : Nat) : Int) - 1) = ((i - (post b').length - 1 : Nat) : Int) by omega]) (fun j => by split; omega; split <;> omega)
    simp only [if_neg (by decide : ¬ 2 = 0), if_neg (by decide : ¬ 2 = 1)] at this
    rw [hT]
    simp only [List.length_append, List.length_singleton]
    rwa [show i + 1 - ((post a').length + ((post b').length + 1)) = i - (post b').length - (post a').length by omega]
  have none_ : ∀ (T : RxT), (post T).length = 1 → ofZ (topK T) = 0 → ∀ (i base : Nat), PartAt l i base T → Calls Try.prog 64 #[.slice a n c, .int .i64 (i : Int)] w fun e w' => e = .returned (.int .i64 ((i + 1 - (post T).length : Nat) : Int)) ∧ w = w' := by
    intro T hl ho i base hp
    obtain ⟨x, hx, hxk⟩ := hp.kind
    have hlt := hb hp
    have := begin_step w a n c l h i 0 x hx (by rw [hxk, ho]; rfl) (by omega) (fun _ => i) rfl (fun j hj => by omega) (fun j hj => by omega) (fun j => by omega)
    rw [hl, show i + 1 - 1 = i by omega]; exact this
  intro T
  induction T with
  | set S => exact none_ _ rfl rfl
  | empty => exact none_ _ rfl rfl
  | cat x y ihx ihy => exact two _ x y 3 rfl rfl rfl ihx ihy
  | alt x y ihx ihy => exact two _ x y 4 rfl rfl rfl ihx ihy
  | star x ihx => exact one _ x 5 rfl rfl rfl ihx
  | plus x ihx => exact one _ x 6 rfl rfl rfl ihx
  | opt x ihx => exact one _ x 7 rfl rfl rfl ihx
end Go.Proofs.Ytbefndibkpjgaaa
/- Spots of an expression: the document's. -/
namespace Go.Proofs.Ytbefndibkpjgaaa
open Go.RowKit
set_option linter.unusedVariables false

attribute [local go_sem ↓] eqS_eq eqS_eq'
theorem cntS1_take {l : List Rx} {k : Nat} {r : Rx} (h : l[k]? = some r) : cntS1 (l.take (k + 1)) = cntS1 (l.take k) + if r.k = 1 then 1 else 0 := by
  rw [take_snoc h, cntS1_app]
  congr 1
  unfold cntS1
  by_cases hk : r.k = 1
  · rw [if_pos hk]; simp [hk]
  · rw [if_neg hk]; simp [hk]
theorem cntS1_le (l : List Rx) (k : Nat) : cntS1 (l.take k) ≤ k := by
  unfold cntS1
  exact Nat.le_trans (List.length_filter_le _ _) (List.length_take_le _ _)
theorem PartAt.base {l : List Rx} {i base : Nat} {T : RxT} (h : PartAt l i base T) (h1 : (post T).length = 1) : cntS1 (l.take i) = base := by
  obtain ⟨p, q, rfl, hi, hc⟩ := h
  rw [h1] at hi
  have : i = p.length := by omega
  subst this
  rw [List.append_assoc, List.take_left, hc]
def freeT : RxT → Bool
  | .set _ => false
  | .empty => true
  | .cat a b => freeT a && freeT b
  | .alt a b => freeT a || freeT b
  | .star _ => true
  | .plus a => freeT a
  | .opt _ => true
/-- What the step at a place is. -/
theorem step_at {w : World} {a : Option Addr} {n : Nat} {l : List Rx} (h : CRow rxC 5 w a n l) {i base : Nat} {T : RxT} (hp : PartAt l i base T) : ∃ b off, a = some ⟨b, off, none⟩ ∧ i < n ∧ w.cell? ⟨b, off + i * 5, none⟩ = some (.int .i64 (topK T)) := by
  obtain ⟨r, hr, hk⟩ := hp.kind
  have hin : i < n := by rw [← h.1]; exact hp.lt
  obtain ⟨b, off, x, ha, hb, hx, c0, _⟩ := h.kind hin
  rw [hr] at hx
  obtain rfl := Option.some.inj hx
  rw [hk] at c0
  exact ⟨b, off, ha, hin, c0⟩
end Go.Proofs.Ytbefndibkpjgaaa
/- The words of an expression: what they are. -/
namespace Go.Proofs.Ytbefndibkpjgaaa
set_option linter.unusedVariables false
/-- Words of a language, one behind the other. -/
inductive Rep (L : List UInt8 → Prop) : List UInt8 → Prop where
  | nil : Rep L []
  | cons (u v : List UInt8) (hu : L u) (hv : Rep L v) : Rep L (u ++ v)
def inT : RxT → List UInt8 → Prop
  | .set S, w => ∃ c, w = [c] ∧ S c.toNat = true
  | .empty, w => w = []
  | .cat a b, w => ∃ u v, w = u ++ v ∧ inT a u ∧ inT b v
  | .alt a b, w => inT a w ∨ inT b w
  | .star a, w => Rep (inT a) w
  | .plus a, w => ∃ u v, w = u ++ v ∧ inT a u ∧ Rep (inT a) v
  | .opt a, w => w = [] ∨ inT a w
theorem freeT_iff (T : RxT) : freeT T = true ↔ inT T [] := by
  induction T with
  | set S => simp [freeT, inT]
  | empty => simp [freeT, inT]
  | cat a b iha ihb =>
    simp only [freeT, inT, Bool.and_eq_true, iha, ihb]
    constructor
    · rintro ⟨h1, h2⟩; exact ⟨[], [], rfl, h1, h2⟩
    · rintro ⟨u, v, e, h1, h2⟩
      obtain ⟨rfl, rfl⟩ := List.append_eq_nil_iff.1 e.symm
      exact ⟨h1, h2⟩
  | alt a b iha ihb => simp only [freeT, inT, Bool.or_eq_true, iha, ihb]
  | star a iha => simp only [freeT, inT, true_iff]; exact .nil
  | plus a iha =>
    simp only [freeT, inT, iha]
    constructor
    · intro h; exact ⟨[], [], rfl, h, .nil⟩
    · rintro ⟨u, v, e, h1, h2⟩
      obtain ⟨rfl, rfl⟩ := List.append_eq_nil_iff.1 e.symm
      exact h1
  | opt a iha => simp [freeT, inT]
end Go.Proofs.Ytbefndibkpjgaaa
/- From place to place of a word: matrices of an expression's words. -/
namespace Go.Proofs.Ytbefndibkpjgaaa
set_option linter.unusedVariables false
/-- The part of a word from a place to a place. -/
def seg (w : List UInt8) (p q : Nat) : List UInt8 := (w.drop p).take (q - p)
theorem seg_len {w : List UInt8} {p q : Nat} (hq : q ≤ w.length) : (seg w p q).length = q - p := by
  unfold seg; rw [List.length_take, List.length_drop]; omega
theorem seg_self (w : List UInt8) (p : Nat) : seg w p p = [] := by unfold seg; rw [Nat.sub_self]; rfl
theorem seg_one {w : List UInt8} {p : Nat} {c : UInt8} (h : w[p]? = some c) : seg w p (p + 1) = [c] := by
  obtain ⟨hp, rfl⟩ := List.getElem?_eq_some_iff.1 h
  unfold seg
  rw [List.drop_eq_getElem_cons hp, Nat.add_sub_cancel_left]; rfl
theorem seg_cat {w : List UInt8} {p k q : Nat} (h1 : p ≤ k) (h2 : k ≤ q) : seg w p k ++ seg w k q = seg w p q := by
  unfold seg
  have e1 : q - p = (k - p) + (q - k) := by omega
  rw [e1, List.take_add, List.drop_drop, show p + (k - p) = k by omega]
theorem seg_split {w : List UInt8} {p q : Nat} (hpq : p ≤ q) (hq : q ≤ w.length) {u v : List UInt8} (h : seg w p q = u ++ v) : p + u.length ≤ q ∧ seg w p (p + u.length) = u ∧ seg w (p + u.length) q = v := by
  have hl := seg_len (w := w) (p := p) hq
  rw [h, List.length_append] at hl
  have h1 : p + u.length ≤ q := by omega
  have h2 := seg_cat (w := w) (p := p) (k := p + u.length) (q := q) (by omega) h1
  rw [h] at h2
  have hl2 : (seg w p (p + u.length)).length = u.length := by rw [seg_len (by omega)]; omega
  obtain ⟨a, b⟩ := List.append_inj h2 hl2
  exact ⟨h1, a, b⟩
theorem seg_all (w : List UInt8) : seg w 0 w.length = w := by unfold seg; simp
/-! ## Matrices. -/
abbrev Mx := Nat → Nat → Bool
def setM (S : Nat → Bool) (w : List UInt8) : Mx := fun p q => decide (q = p + 1) && (match w[p]? with | some c => S c.toNat | none => false)
def sameM : Mx := fun p q => decide (p = q)
def bothM (a b : Mx) : Mx := fun p q => a p q || b p q
def behM (n : Nat) (a b : Mx) : Mx := fun p q => (List.range (n + 1)).any fun k => (decide (p ≤ k) && decide (k ≤ q)) && (a p k && b k q)
def agM (n : Nat) (a : Mx) : Nat → Mx
  | 0 => a
  | r + 1 => bothM (agM n a r) (behM n (agM n a r) (agM n a r))
/-- A matrix tells which parts of a word are words of a language. -/
def LM (L : List UInt8 → Prop) (w : List UInt8) (f : Mx) : Prop := ∀ p q, p ≤ w.length → q ≤ w.length → (f p q = true ↔ p ≤ q ∧ L (seg w p q))
theorem LM.congr {L L' : List UInt8 → Prop} {w : List UInt8} {f : Mx} (h : LM L w f) (e : ∀ u, u.length ≤ w.length → (L u ↔ L' u)) : LM L' w f := fun p q hp hq => by
  rw [h p q hp hq, e _ (by rw [seg_len hq]; omega)]
theorem lm_set (S : Nat → Bool) (w : List UInt8) : LM (inT (.set S)) w (setM S w) := fun p q hp hq => by
  unfold setM
  simp only [Bool.and_eq_true, decide_eq_true_eq, inT]
  constructor
  · rintro ⟨rfl, h⟩
    have hp : p < w.length := by omega
    rw [List.getElem?_eq_getElem hp] at h
    exact ⟨by omega, w[p], seg_one (List.getElem?_eq_getElem hp), h⟩
  · rintro ⟨h, c, e, hc⟩
    have hl := seg_len (w := w) (p := p) hq
    rw [e] at hl
    simp at hl
    have hq2 : q = p + 1 := by omega
    subst hq2
    have hp : p < w.length := by omega
    rw [seg_one (List.getElem?_eq_getElem hp)] at e
    simp only [List.cons.injEq, and_true] at e
    rw [List.getElem?_eq_getElem hp]
    exact ⟨rfl, by rw [e]; exact hc⟩
theorem lm_same (w : List UInt8) : LM (fun u => u = []) w sameM := fun p q hp hq => by
  unfold sameM
  rw [decide_eq_true_eq]
  constructor
  · rintro rfl; exact ⟨Nat.le_refl _, seg_self w p⟩
  · rintro ⟨h, e⟩
    have hl := seg_len (w := w) (p := p) hq
    rw [e] at hl; simp at hl; omega
theorem lm_both {A B : List UInt8 → Prop} {w : List UInt8} {a b : Mx} (ha : LM A w a) (hb : LM B w b) : LM (fun u => A u ∨ B u) w (bothM a b) := fun p q hp hq => by
  unfold bothM
  rw [Bool.or_eq_true, ha p q hp hq, hb p q hp hq]
  constructor
  · rintro (⟨h, e⟩ | ⟨h, e⟩)
    · exact ⟨h, .inl e⟩
    · exact ⟨h, .inr e⟩
  · rintro ⟨h, e | e⟩
    · exact .inl ⟨h, e⟩
    · exact .inr ⟨h, e⟩
theorem lm_beh {A B : List UInt8 → Prop} {w : List UInt8} {a b : Mx} (ha : LM A w a) (hb : LM B w b) : LM (fun x => ∃ u v, x = u ++ v ∧ A u ∧ B v) w (behM w.length a b) := fun p q hp hq => by
  unfold behM
  simp only [List.any_eq_true, List.mem_range, Bool.and_eq_true, decide_eq_true_eq]
  constructor
  · rintro ⟨k, hk, ⟨h1, h2⟩, h3, h4⟩
    refine ⟨by omega, _, _, (seg_cat h1 h2).symm, ((ha p k hp (by omega)).1 h3).2, ((hb k q (by omega) hq).1 h4).2⟩
  · rintro ⟨h, u, v, e, h3, h4⟩
    obtain ⟨e1, e2, e3⟩ := seg_split h hq e
    exact ⟨p + u.length, by omega, ⟨by omega, e1⟩, (ha _ _ hp (by omega)).2 ⟨by omega, by rw [e2]; exact h3⟩, (hb _ _ (by omega) hq).2 ⟨e1, by rw [e3]; exact h4⟩⟩
/-! ## Once and more. -/
/-- Between one and so many words, one behind the other. -/
def Up (L : List UInt8 → Prop) (m : Nat) (x : List UInt8) : Prop := ∃ l : List (List UInt8), l ≠ [] ∧ l.length ≤ m ∧ x = l.flatten ∧ ∀ y ∈ l, L y
theorem up_one (L : List UInt8 → Prop) (x : List UInt8) : Up L 1 x ↔ L x := by
  constructor
  · rintro ⟨l, h1, h2, rfl, h3⟩
    match l, h1, h2 with
    | [y], _, _ => simpa using h3 y (by simp)
    | _ :: _ :: _, _, h2 => simp at h2
  · intro h; exact ⟨[x], by simp, by simp, by simp, by simpa using h⟩
theorem up_two {L : List UInt8 → Prop} {m : Nat} (hm : 1 ≤ m) (x : List UInt8) : Up L (2 * m) x ↔ Up L m x ∨ ∃ u v, x = u ++ v ∧ Up L m u ∧ Up L m v := by
  constructor
  · rintro ⟨l, h1, h2, rfl, h3⟩
    by_cases h : l.length ≤ m
    · exact .inl ⟨l, h1, h, rfl, h3⟩
    · refine .inr ⟨(l.take m).flatten, (l.drop m).flatten, ?_, ⟨l.take m, ?_, ?_, rfl, fun y hy => h3 y (List.mem_of_mem_take hy)⟩, ⟨l.drop m, ?_, ?_, rfl, fun y hy => h3 y (List.mem_of_mem_drop hy)⟩⟩
      · rw [← List.flatten_append, List.take_append_drop]
      · intro e; have h9 : (l.take m).length = 0 := by rw [e]; rfl
        rw [List.length_take] at h9; omega
      · rw [List.length_take]; omega
      · intro e; have h9 : (l.drop m).length = 0 := by rw [e]; rfl
        rw [List.length_drop] at h9; omega
      · rw [List.length_drop]; omega
  · rintro (⟨l, h1, h2, e, h3⟩ | ⟨u, v, rfl, ⟨l, h1, h2, rfl, h3⟩, ⟨l', h1', h2', rfl, h3'⟩⟩)
    · exact ⟨l, h1, by omega, e, h3⟩
    · refine ⟨l ++ l', by simp [h1], by simp; omega, by simp, fun y hy => ?_⟩
      rcases List.mem_append.1 hy with hy | hy
      · exact h3 y hy
      · exact h3' y hy
theorem rep_list {L : List UInt8 → Prop} {x : List UInt8} : Rep L x ↔ ∃ l : List (List UInt8), x = l.flatten ∧ ∀ y ∈ l, L y := by
  constructor
  · intro h
    induction h with
    | nil => exact ⟨[], rfl, fun y hy => by cases hy⟩
    | cons u v hu _ ih =>
      obtain ⟨l, rfl, h⟩ := ih
      exact ⟨u :: l, rfl, fun y hy => by rcases List.mem_cons.1 hy with rfl | hy; exact hu; exact h y hy⟩
  · rintro ⟨l, rfl, h⟩
    induction l with
    | nil => exact .nil
    | cons u l ih => exact .cons u l.flatten (h u (.head _)) (ih fun y hy => h y (.tail _ hy))
theorem flat_ne_len : ∀ (l : List (List UInt8)), (∀ y ∈ l, y ≠ []) → l.length ≤ l.flatten.length
  | [], _ => by simp
  | y :: l, h => by
    have h1 := flat_ne_len l fun z hz => h z (.tail _ hz)
    have h2 : 0 < y.length := List.length_pos_iff.2 (h y (.head _))
    simp only [List.flatten_cons, List.length_append, List.length_cons]; omega
theorem flat_filter : ∀ (l : List (List UInt8)), (l.filter fun y => !y.isEmpty).flatten = l.flatten
  | [] => rfl
  | y :: l => by
    cases y with
    | nil => simp [flat_filter l]
    | cons c y => simp [flat_filter l]
/-- As often as there are bytes, or once, is often enough. -/
theorem up_enough {L : List UInt8 → Prop} {m : Nat} {x : List UInt8} (hm : x.length < m) : Up L m x ↔ ∃ u v, x = u ++ v ∧ L u ∧ Rep L v := by
  constructor
  · rintro ⟨l, h1, h2, rfl, h3⟩
    cases l with
    | nil => exact absurd rfl h1
    | cons u l => exact ⟨u, l.flatten, rfl, h3 u (.head _), rep_list.2 ⟨l, rfl, fun y hy => h3 y (.tail _ hy)⟩⟩
  · rintro ⟨u, v, rfl, hu, hv⟩
    obtain ⟨l, rfl, hl⟩ := rep_list.1 hv
    by_cases he : u ++ l.flatten = []
    · obtain ⟨rfl, e⟩ := List.append_eq_nil_iff.1 he
      exact ⟨[[]], by simp, by simp at hm ⊢; omega, by simp [e], by simpa using hu⟩
    · have hall : ∀ y ∈ (u :: l), L y := fun y hy => by rcases List.mem_cons.1 hy with rfl | hy; exact hu; exact hl y hy
      have e : ((u :: l).filter fun y => !y.isEmpty).flatten = u ++ l.flatten := flat_filter (u :: l)
      refine ⟨(u :: l).filter fun y => !y.isEmpty, fun h => he (by rw [← e, h]; rfl), ?_, e.symm, fun y hy => hall y (List.mem_filter.1 hy).1⟩
      have := flat_ne_len ((u :: l).filter fun y => !y.isEmpty) fun y hy h => by
        have := (List.mem_filter.1 hy).2
        rw [h] at this; simp at this
      rw [e] at this; omega
theorem lm_ag {L : List UInt8 → Prop} {w : List UInt8} {a : Mx} (ha : LM L w a) : ∀ r, LM (Up L (2 ^ r)) w (agM w.length a r) := by
  intro r
  induction r with
  | zero => exact ha.congr fun u _ => (up_one L u).symm
  | succ r ih =>
    refine (lm_both ih (lm_beh ih ih)).congr fun u _ => ?_
    rw [show 2 ^ (r + 1) = 2 * 2 ^ r by rw [Nat.pow_succ]; omega, up_two (Nat.one_le_two_pow)]
theorem lm_plus {T : RxT} {w : List UInt8} {a : Mx} (ha : LM (inT T) w a) {r : Nat} (hr : w.length + 1 < 2 ^ r) : LM (inT (.plus T)) w (agM w.length a r) :=
  (lm_ag ha r).congr fun u hu => up_enough (by omega)
theorem lm_star {T : RxT} {w : List UInt8} {a : Mx} (ha : LM (inT T) w a) {r : Nat} (hr : w.length + 1 < 2 ^ r) : LM (inT (.star T)) w (bothM sameM (agM w.length a r)) :=
  (lm_both (lm_same w) (lm_plus ha hr)).congr fun u _ => by
    simp only [inT]
    constructor
    · rintro (rfl | ⟨x, y, rfl, h1, h2⟩)
      · exact .nil
      · exact .cons x y h1 h2
    · intro h
      cases h with
      | nil => exact .inl rfl
      | cons x y h1 h2 => exact .inr ⟨x, y, rfl, h1, h2⟩
theorem lm_opt {T : RxT} {w : List UInt8} {a : Mx} (ha : LM (inT T) w a) : LM (inT (.opt T)) w (bothM sameM a) := (lm_both (lm_same w) ha).congr fun u _ => Iff.rfl
theorem lm_alt {A B : RxT} {w : List UInt8} {a b : Mx} (ha : LM (inT A) w a) (hb : LM (inT B) w b) : LM (inT (.alt A B)) w (bothM a b) := (lm_both ha hb).congr fun u _ => Iff.rfl
theorem lm_cat {A B : RxT} {w : List UInt8} {a b : Mx} (ha : LM (inT A) w a) (hb : LM (inT B) w b) : LM (inT (.cat A B)) w (behM w.length a b) := (lm_beh ha hb).congr fun u _ => Iff.rfl
theorem lm_empty (w : List UInt8) : LM (inT .empty) w sameM := (lm_same w).congr fun u _ => Iff.rfl
/-! ## Steps, one behind the other, over a stack of parts. -/
def stepT (r : Rx) (st : List RxT) : Option (List RxT) :=
  if r.k = 1 then some (.set r.s :: st) else if r.k = 2 then some (.empty :: st)
  else if r.k = 3 then (match st with | b :: a :: t => some (.cat a b :: t) | _ => none)
  else if r.k = 4 then (match st with | b :: a :: t => some (.alt a b :: t) | _ => none)
  else if r.k = 5 then (match st with | a :: t => some (.star a :: t) | _ => none)
  else if r.k = 6 then (match st with | a :: t => some (.plus a :: t) | _ => none)
  else if r.k = 7 then (match st with | a :: t => some (.opt a :: t) | _ => none) else none
def evT : List Rx → List RxT → Option (List RxT)
  | [], st => some st
  | r :: l, st => match stepT r st with | some st' => evT l st' | none => none
theorem ev_post (T : RxT) : ∀ (rest : List Rx) (st : List RxT), evT (post T ++ rest) st = evT rest (T :: st) := by
  induction T with
  | set S => intro rest st; rfl
  | empty => intro rest st; rfl
  | cat a b iha ihb => intro rest st; simp only [post, List.append_assoc]; rw [iha, ihb]; rfl
  | alt a b iha ihb => intro rest st; simp only [post, List.append_assoc]; rw [iha, ihb]; rfl
  | star a iha => intro rest st; simp only [post, List.append_assoc]; rw [iha]; rfl
  | plus a iha => intro rest st; simp only [post, List.append_assoc]; rw [iha]; rfl
  | opt a iha => intro rest st; simp only [post, List.append_assoc]; rw [iha]; rfl
theorem ev_all (T : RxT) : evT (post T) [] = some [T] := by have := ev_post T [] []; rwa [List.append_nil] at this
/-- The seven ways of a step. -/
inductive StepW : Rx → List RxT → List RxT → Prop where
  | set (S : Nat → Bool) (st) : StepW ⟨1, S⟩ st (.set S :: st)
  | empty (S) (st) : StepW ⟨2, S⟩ st (.empty :: st)
  | cat (S) (a b : RxT) (st) : StepW ⟨3, S⟩ (b :: a :: st) (.cat a b :: st)
  | alt (S) (a b : RxT) (st) : StepW ⟨4, S⟩ (b :: a :: st) (.alt a b :: st)
  | star (S) (a : RxT) (st) : StepW ⟨5, S⟩ (a :: st) (.star a :: st)
  | plus (S) (a : RxT) (st) : StepW ⟨6, S⟩ (a :: st) (.plus a :: st)
  | opt (S) (a : RxT) (st) : StepW ⟨7, S⟩ (a :: st) (.opt a :: st)
theorem stepW {r : Rx} {st st' : List RxT} (h : stepT r st = some st') : StepW r st st' := by
  obtain ⟨k, S⟩ := r
  unfold stepT at h
  simp only at h
  split at h
  · rename_i e; cases e; cases h; exact .set _ _
  split at h
  · rename_i e; cases e; cases h; exact .empty _ _
  split at h
  · rename_i e; cases e
    split at h
    · cases h; exact .cat _ _ _ _
    · cases h
  split at h
  · rename_i e; cases e
    split at h
    · cases h; exact .alt _ _ _ _
    · cases h
  split at h
  · rename_i e; cases e
    split at h
    · cases h; exact .star _ _ _
    · cases h
  split at h
  · rename_i e; cases e
    split at h
    · cases h; exact .plus _ _ _
    · cases h
  split at h
  · rename_i e; cases e
    split at h
    · cases h; exact .opt _ _ _
    · cases h
  · cases h
theorem ev_cons {r : Rx} {l : List Rx} {st : List RxT} {T : RxT} (h : evT (r :: l) st = some [T]) : ∃ st', StepW r st st' ∧ evT l st' = some [T] := by
  simp only [evT] at h
  split at h
  · rename_i st' e; exact ⟨st', stepW e, h⟩
  · cases h
end Go.Proofs.Ytbefndibkpjgaaa
/- rx: one step behind; parts one behind the other. -/
namespace Go.Proofs.Ytbefndibkpjgaaa
open Go.RowKit
set_option linter.unusedVariables false

def oneF (rs : List Rx) (k : Int) : List Rx := rs ++ [stp0 k]
theorem app_rx {w : World} {base n : Nat} {v : Value} {os : List Rx} (hown : w.ownsRow base 78 5 v n (os.flatMap rxC)) (k : Int) (hn : n ≤ 200000) (hbase : base ≤ w.heap.size) (H : Nat) (hH : w.heap.size = H)
    (ops : Array Oper) (rest : List Oper) (o : Oper) (a : Act) (Q : Exit → Act → World → Prop) (hg : o.guard = none) (s x : Operand) (ho : o.op = .call { callee := .builtin .append, args := #[s, x], argTypes := #[22, 22] })
    (hs : a.eval s = v) (hx : a.eval x = .slice (some ⟨H, 0, none⟩) 1 1)
    (h : ∀ g cap w', w'.ownsRow base 78 5 (.slice (some ⟨g, 0, none⟩) (n + 1) cap) (n + 1) ((os ++ [stp0 k]).flatMap rxC) → (w.alloc (.cells #[.int .i64 k, .int .u64 0, .int .u64 0, .int .u64 0, .int .u64 0] 78)).grownBy w' v.ownBlock → (v.ownBlock = some g ∨ g = H + 1) →
      wpList Try.prog ops Q rest (a.put o.dst (.slice (some ⟨g, 0, none⟩) (n + 1) cap)) w') : wpList Try.prog ops Q (o :: rest) a (w.alloc (.cells #[.int .i64 k, .int .u64 0, .int .u64 0, .int .u64 0, .int .u64 0] 78)) :=
  app_el (P := Try.prog) (C := rxC) (T := 22) (by decide) rxC_len rxC_one Try.underlying22 infoRx rfl hown (stp0 k) (by unfold maxLen; omega) (by omega) hbase H hH _ (by rw [stp0_C]) ops rest o a Q hg s x ho hs hx h
theorem rone_any (w : World) (a : Option Addr) (n c : Nat) (rs : List Rx) (k : Int) (h : CRow rxC 5 w a n rs) (hn : n ≤ 100000) :
    Calls Try.prog 45 #[.slice a n c, .int .i64 k] w (Gives w (oneF rs k)) := by
  have HC := Lib.hid (clone_any w a n c rs h hn)
  have HN := Lib.hid h.1
  clear h
  unfold Gives at HC ⊢
  go_enter Try.func45, Try.ntmps45
  go_wp2_with fail
  refine HC.out.mono ?_
  rintro e w1 ⟨v, rfl, hown, hb⟩
  have HO := Lib.hid hown
  have HB := Lib.hid hb
  have HAP := Lib.hid (app_rx hown k (by rw [HN.out]; omega) hb.size w1.heap.size rfl)
  have hbs := hb.size
  clear hown hb HC
  go_wp2_with (at_builtin; refine HAP.out _ _ _ _ _ rfl _ _ rfl rfl rfl ?_; intro gg cap w2 hown1 hgrow hat; have HW := Lib.hid hown1; have HBW := Lib.hid (below_grown (HB.out.alloc hbs (.cells #[.int .i64 k, .int .u64 0, .int .u64 0, .int .u64 0, .int .u64 0] 78)) (by simp; omega) hgrow (fun j hj => (own_ge HO.out hj).1)); clear hown1 hgrow hat)
  go_ret
  exact ⟨_, rfl, by unfold oneF; rw [List.length_append]; exact HW.out, HBW.out⟩
theorem star_any (w : World) (a : Option Addr) (n c : Nat) (rs : List Rx) (h : CRow rxC 5 w a n rs) (hn : n ≤ 100000) : Calls Try.prog 25 #[.slice a n c] w (Gives w (oneF rs 5)) := by
  have HC := Lib.hid (rone_any w a n c rs 5 h hn)
  clear h
  unfold Gives at HC ⊢
  go_enter Try.func25, Try.ntmps25
  go_wp2_with fail
  refine HC.out.mono ?_
  rintro e w1 ⟨v, rfl, hown, hb⟩
  have HO := Lib.hid hown
  have HB := Lib.hid hb
  clear hown hb HC
  go_wp2
  go_ret
  exact ⟨_, rfl, HO.out, HB.out⟩
theorem plus_any (w : World) (a : Option Addr) (n c : Nat) (rs : List Rx) (h : CRow rxC 5 w a n rs) (hn : n ≤ 100000) : Calls Try.prog 28 #[.slice a n c] w (Gives w (oneF rs 6)) := by
  have HC := Lib.hid (rone_any w a n c rs 6 h hn)
  clear h
  unfold Gives at HC ⊢
  go_enter Try.func28, Try.ntmps28
  go_wp2_with fail
  refine HC.out.mono ?_
  rintro e w1 ⟨v, rfl, hown, hb⟩
  have HO := Lib.hid hown
  have HB := Lib.hid hb
  clear hown hb HC
  go_wp2
  go_ret
  exact ⟨_, rfl, HO.out, HB.out⟩
theorem opt_any (w : World) (a : Option Addr) (n c : Nat) (rs : List Rx) (h : CRow rxC 5 w a n rs) (hn : n ≤ 100000) : Calls Try.prog 29 #[.slice a n c] w (Gives w (oneF rs 7)) := by
  have HC := Lib.hid (rone_any w a n c rs 7 h hn)
  clear h
  unfold Gives at HC ⊢
  go_enter Try.func29, Try.ntmps29
  go_wp2_with fail
  refine HC.out.mono ?_
  rintro e w1 ⟨v, rfl, hown, hb⟩
  have HO := Lib.hid hown
  have HB := Lib.hid hb
  clear hown hb HC
  go_wp2
  go_ret
  exact ⟨_, rfl, HO.out, HB.out⟩
set_option maxHeartbeats 1000000 in
theorem refone_any (w : World) (a : Option Addr) (n c : Nat) (rs : List Rx) (k : Int) (h : CRow rxC 5 w a n rs) (hn : n ≤ 100000) :
    Calls Try.prog 78 #[.slice a n c, .int .i64 k] w (Gives w (oneF rs k)) := by
  have HR := Lib.hid h
  have HL := Lib.hid h.1
  clear h
  unfold Gives
  obtain ⟨g, hg⟩ : ∃ g, w.heap.size = g := ⟨_, rfl⟩
  have HG := Lib.hid hg
  have HB0 := Lib.hid (show Below g w (w.alloc (.cells #[] 78)) by rw [← hg]; exact (Below.refl _ _).alloc (Nat.le_refl _) _)
  have HO0 := Lib.hid (World.ownsRow_made (base := g) (e := 78) (size := 5) w #[] 0 (Nat.le_of_eq HG.out.symm) (by decide) (by simp))
  rw [hg] at HO0
  go_enter Try.func78, Try.ntmps78
  go_wp2
  clear hg
  go_loopw [5, 6] (fun v i wr => ∃ j : Nat, j ≤ n ∧ i = .int .i64 (j : Int) ∧ wr.ownsRow g 78 5 v j ((rs.take j).flatMap rxC) ∧ Below g w wr) (fun _ i _ => n - (intOf i).toNat)
  case atStart => exact ⟨0, by omega, rfl, HO0.out, HB0.out⟩
  case round =>
    obtain ⟨j, hj, rfl, hown, hb⟩ := hrel
    clear HO0 HB0
    have HO := Lib.hid hown
    have HB := Lib.hid hb
    have hgl : g ≤ wr.heap.size := by have := HG.out; have := hb.size; omega
    clear hown hb
    by_cases hlt : j < n
    · obtain ⟨b1, o1, r, rfl, hbl, hr, hc⟩ := HR.out.at_ hlt
      have hbg : b1 < g := by have := HG.out; omega
      have kp : ∀ i u, w.cell? ⟨b1, i, none⟩ = some u → wr.cell? ⟨b1, i, none⟩ = some u := fun i u h => (HB.out.cell (p := ⟨b1, i, none⟩) hbg).trans h
      have c0 : wr.cell? ⟨b1, o1 + j * 5, none⟩ = some (.int .i64 r.k) := kp _ _ (hc 0 _ rfl)
      have c1 : wr.cell? ⟨b1, o1 + j * 5 + 1, none⟩ = some (.int .u64 (wd r.s 0)) := kp _ _ (hc 1 _ rfl)
      have c2 : wr.cell? ⟨b1, o1 + j * 5 + 2, none⟩ = some (.int .u64 (wd r.s 1)) := kp _ _ (hc 2 _ rfl)
      have c3 : wr.cell? ⟨b1, o1 + j * 5 + 3, none⟩ = some (.int .u64 (wd r.s 2)) := kp _ _ (hc 3 _ rfl)
      have c4 : wr.cell? ⟨b1, o1 + j * 5 + 4, none⟩ = some (.int .u64 (wd r.s 3)) := kp _ _ (hc 4 _ rfl)
      have HT := Lib.hid (take_snoc hr)
      have HAP := Lib.hid (app_el (P := Try.prog) (C := rxC) (T := 22) (by decide) rxC_len rxC_one Try.underlying22 infoRx rfl HO.out r (by unfold maxLen; omega) (by omega) hgl wr.heap.size rfl #[.int .i64 r.k, .int .u64 (wd r.s 0), .int .u64 (wd r.s 1), .int .u64 (wd r.s 2), .int .u64 (wd r.s 3)] rfl)
      have h0 : (0 : Int) ≤ (j : Int) := by omega
      have h1 : (j : Int) < (n : Int) := by omega
      clear kp hc hr
      go_wp2_with (at_builtin; refine HAP.out _ _ _ _ _ rfl _ _ rfl rfl rfl ?_; intro gg cap w2 hown1 hgrow hat; have HW := Lib.hid hown1; have HBW := Lib.hid (below_grown (HB.out.alloc hgl (.cells #[.int .i64 r.k, .int .u64 (wd r.s 0), .int .u64 (wd r.s 1), .int .u64 (wd r.s 2), .int .u64 (wd r.s 3)] 78)) (by simp; omega) hgrow (fun j hj => (own_ge HO.out hj).1)); clear hown1 hgrow hat)
      go_roundw
      case rel => exact ⟨j + 1, by omega, by go_num, by rw [HT.out]; exact HW.out, HBW.out⟩
      case measure => simp [intOf]; omega
    · have hjn : j = n := by omega
      subst hjn
      have HK : Hid (rs.take j = rs) := by show _ = _; exact List.take_of_length_le (by rw [HL.out]; exact Nat.le_refl _)
      rw [HK.out] at HO
      have HAP := Lib.hid (app_rx HO.out k (by omega) hgl wr.heap.size rfl)
      go_wp2_with (at_builtin; refine HAP.out _ _ _ _ _ rfl _ _ rfl rfl rfl ?_; intro gg cap w2 hown1 hgrow hat; have HW := Lib.hid hown1; have HBW := Lib.hid (below_grown (HB.out.alloc hgl (.cells #[.int .i64 k, .int .u64 0, .int .u64 0, .int .u64 0, .int .u64 0] 78)) (by simp; omega) hgrow (fun j hj => (own_ge HO.out hj).1)); clear hown1 hgrow hat)
      go_ret
      exact ⟨_, rfl, by unfold oneF; rw [List.length_append, HL.out, HG.out]; exact HW.out, by rw [HG.out]; exact HBW.out⟩
end Go.Proofs.Ytbefndibkpjgaaa
