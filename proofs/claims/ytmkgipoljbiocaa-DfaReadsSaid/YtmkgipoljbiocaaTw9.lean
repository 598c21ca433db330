/- Several texts in one: FamQ, Many, Union, Having, SpotsP, FuseR, StepP, StepW. -/
import Derived.Test.YtmkgipoljbiocaaTw1
import Derived.Test.YtmkgipoljbiocaaTw4
import Derived.Test.YtmkgipoljbiocaaTw3
/- A region that draws its order: a part whose order is open, then a tail; some of the tail has come up ahead of all. -/
namespace Go.Proofs.Ytmkgipoljbiocaa
open Go.RowKit
set_option linter.unusedVariables false
section
variable {P : Program} {ops : Array Oper} {E : World → World → Prop} {V : Nat → Value → World → Prop} {a0 : Act} {w0 : World}
/-- Every operation from n1 on but those of the list waits for all ahead of n1. -/
def tailBQ (ops : Array Oper) (n1 : Nat) (qs ps : List Nat) : Bool := (List.range ops.size).all fun i => decide (i < n1) || qs.contains i || (List.range n1).all fun j => ps.contains j || reach ops 6 i j
theorem tailBQ_spec {n1 i j : Nat} {qs ps : List Nat} (h : tailBQ ops n1 qs ps = true) (hi : i < ops.size) (h1 : n1 ≤ i) (hq : qs.contains i = false) (hp : j ∉ ps) (hj : j < n1) : reach ops 6 i j = true := by
  simp only [tailBQ, List.all_eq_true, List.mem_range, Bool.or_eq_true, decide_eq_true_eq] at h
  rcases h i hi with (h2 | h2) | h2
  · omega
  · rw [hq] at h2; cases h2
  · rcases h2 j hj with h3 | h3
    · exact absurd (by simpa using h3) hp
    · exact h3
theorem wpAny_fam_tailQ {Q : Exit → Act → World → Prop} {l1 : List Oper} (qs ps : List Nat) (m : Nat) (hB : famB ops a0.tmps.size = true) (hTB : tailBQ ops l1.length qs ps = true) (hle : l1.length ≤ ops.size) (hl : ∀ i, i < l1.length → l1[i]? = ops[i]?) (hT : ∀ x y z : World, E x y → E y z → E x z)
    (hM : ∀ i v x y, V i v x → E x y → V i v y) (hE0 : ∀ x, E x x) (hOb : Obs P ops E V a0 w0 0 l1)
    (hQ : ∀ listed a w, (∀ i, listed.getD i false = (decide (i < l1.length) || qs.contains i)) → FamInv ops E V a0 w0 listed a w → wpAny P .any ops Q m listed a w) :
    ∀ (fuel : Nat) (listed : Array Bool) (a : Act) (w : World), unl listed l1.length = fuel → (∀ i, l1.length ≤ i → listed.getD i false = qs.contains i) → (∀ j ∈ ps, listed.getD j false = true) → FamInv ops E V a0 w0 listed a w → wpAny P .any ops Q (fuel + m) listed a w := by
  intro fuel
  induction fuel with
  | zero =>
    intro listed a w hu hno hps h
    rw [Nat.zero_add]
    refine hQ listed a w (fun i => ?_) h
    by_cases hi : i < l1.length
    · rw [unl_zero hu i hi]; simp [hi]
    · rw [hno i (by omega)]; simp [hi]
  | succ fuel ih =>
    intro listed a w hu hno hps h
    rw [show fuel + 1 + m = (fuel + m) + 1 by omega]
    have hpos : 0 < unl listed l1.length := by omega
    unfold unl at hpos
    rw [List.countP_pos_iff] at hpos
    obtain ⟨k, hk, hkl⟩ := hpos
    have hk := List.mem_range.1 hk
    have hkl : listed.getD k false = false := by simpa using hkl
    refine ⟨fun hnil => absurd hnil (some_ready hB h.lsz k (by omega) hkl), fun i hi => ?_⟩
    obtain ⟨h0, o, ho, hall⟩ := mem_ready.1 hi
    have hlt := (Array.getElem?_eq_some_iff.1 ho).1
    have hl0 : listed.getD i false = false := by
      have : i < listed.size := by rw [h.lsz]; exact hlt
      simp [this] at h0 ⊢; exact h0
    have hi1 : i < l1.length := by
      rcases Nat.lt_or_ge i l1.length with h1 | h1
      · exact h1
      · have := reach_listed h.cls 6 i k (fun m hm => by
          obtain ⟨o', ho', e, he, hb, rfl⟩ := waits_spec hm
          rw [ho] at ho'
          obtain rfl := Option.some.inj ho'
          exact hall e he hb) (tailBQ_spec hTB hlt h1 (by rw [← hno i h1]; exact hl0) (fun hm => by have := hps k hm; rw [hkl] at this; cases this) hk)
        rw [hkl] at this; cases this
    have hob := Obs.at_ l1 0 hOb i o (by rw [hl i hi1]; exact ho)
    rw [Nat.zero_add] at hob
    have hob := hob a w h.ext (h.seen hB hi)
    have hils : i < listed.size := by rw [h.lsz]; exact hlt
    have next : ∀ u w', E w w' → V i u w' → wpAny P .any ops Q (fuel + m) (listed.setIfInBounds i true) (a.put o.dst u) w' := fun u w' hE hV =>
      ih _ _ _ (by
        have := countP_set (fun j => !listed.getD j false) (fun j => !(listed.setIfInBounds i true).getD j false) i (by simp [hl0]) (by simp only [getD_setB hils]; simp) (fun j hj => by simp only [getD_setB hils, if_neg hj]) l1.length hi1
        unfold unl at hu ⊢; omega)
        (fun j hj => by rw [getD_setB hils, if_neg (by omega)]; exact hno j hj) (fun j hj => by rw [getD_setB hils]; split; rfl; exact hps j hj) (h.put hB hT hM ho hi hE hV)
    unfold wpOp
    simp only [ho]
    split
    · rename_i hw
      rw [if_pos hw] at hob
      exact .inl (relAt.wp hob next)
    · rename_i hw
      rw [if_neg hw] at hob
      exact next _ _ (hE0 w) hob
/-- A region that draws its order is begun. -/
theorem wp_region_start {id : Nat} {Q : Exit → Act → World → Prop} {w : World} {l : List Oper} (k : Nat) (listed : Array Bool) (hm : P.follows .mixedOrders = true) (hk : l.length = k) (hli : Array.replicate k false = listed)
    (h : wpAny P .any l.toArray Q k listed a0 w.drew) : (Code.region id l.toArray true).wp P Q a0 w := by
  subst hli; subst hk
  exact wp_region_any hm h
def closedB (ops : Array Oper) (listed : Array Bool) : Bool := (List.range ops.size).all fun i => !listed.getD i false || match ops[i]? with | none => true | some o => o.after.all fun e => !Region.binds .any e || listed.getD e.on false
def doneB (ops : Array Oper) (listed : Array Bool) (dn : List (Nat × Tmp)) : Bool := (List.range ops.size).all fun i => !listed.getD i false || match dstAt ops i with | none => true | some t => dn.contains (i, t)
/-- THE RULE, where some operations have come up. -/
theorem wpAny_fam_tailQ_lit {Q : Exit → Act → World → Prop} {w : World} {l : List Oper} {n : Nat} (n1 m fuel : Nat) (Vs : List (Value → World → Prop)) (ds : List (Option Tmp)) (qs ps : List Nat) (dn : List (Nat × Tmp)) (listed0 listed : Array Bool) (hn : a0.tmps.size = n)
    (hB : famB l.toArray n = true) (hTB : tailBQ l.toArray n1 qs ps = true) (hps : (ps.all fun j => listed0.getD j false) = true) (hn1 : (l.take n1).length = n1) (hfu : unl listed0 n1 = fuel) (hsz : listed0.size = l.length) (hno : ((List.range l.length).all fun i => decide (i < n1) || (listed0.getD i false == qs.contains i)) = true) (hqs : (qs.all fun q => decide (q < l.length)) = true)
    (hcl : closedB l.toArray listed0 = true) (hdn : doneB l.toArray listed0 dn = true) (hli : ((List.range l.length).map fun i => decide (i < n1) || qs.contains i) = listed.toList) (hds : (l.take n1).map (·.dst) = ds)
    (hT : ∀ x y z : World, E x y → E y z → E x z) (hE0 : ∀ x, E x x) (hM : MonoL E Vs) (hy : ∀ p ∈ dn, famV Vs p.1 (a0.tmps.getD p.2 undef) w)
    (hOb : Obs P l.toArray E (famV Vs) a0 w 0 (l.take n1)) (hQ : ∀ x w', E w w' → AllV (famV Vs) x w' 0 ds → wpAny P .any l.toArray Q m listed (puts x ds a0) w') (hq0 : ∀ q ∈ qs, ∀ t, dstAt l.toArray q = some t → ∀ u w', E w w' → famV Vs q u w' → u = a0.tmps.getD t undef) : wpAny P .any l.toArray Q (fuel + m) listed0 a0 w := by
  subst hn
  have hle : n1 ≤ l.length := by
    have := hn1; rw [List.length_take] at this; omega
  have hl : ∀ i, i < (l.take n1).length → (l.take n1)[i]? = l.toArray[i]? := fun i hi => by
    rw [hn1] at hi; simp [hi]
  have hno' : ∀ i, n1 ≤ i → listed0.getD i false = qs.contains i := fun i hi => by
    simp only [List.all_eq_true, List.mem_range, Bool.or_eq_true, decide_eq_true_eq, beq_iff_eq] at hno hqs
    by_cases hlt : i < l.length
    · rcases hno i hlt with h | h
      · omega
      · exact h
    · have h1 : listed0.getD i false = false := by simp [Array.getElem?_eq_none (show listed0.size ≤ i by omega)]
      have h2 : qs.contains i = false := by
        cases hc : qs.contains i with
        | false => rfl
        | true => exact absurd (hqs i (by simpa using hc)) hlt
      rw [h1, h2]
  have hinv : FamInv l.toArray E (famV Vs) a0 w listed0 a0 w := by
    refine ⟨hE0 _, rfl, rfl, by simpa using hsz, fun i o ho hl0 e he hb => ?_, fun t j hw hl0 => ?_, fun _ _ => rfl⟩
    · have hlt := (Array.getElem?_eq_some_iff.1 ho).1
      simp only [closedB, List.all_eq_true, List.mem_range, Bool.or_eq_true] at hcl
      have := hcl i hlt
      rw [hl0, ho] at this
      simp only [Bool.not_true, Bool.false_eq_true, false_or, Array.all_eq_true_iff_forall_mem, Bool.or_eq_true] at this
      rcases this e he with h | h
      · rw [hb] at h; cases h
      · exact h
    · have hd := who_spec hw
      have hlt : j < l.toArray.size := by
        rcases Nat.lt_or_ge j l.toArray.size with h | h
        · exact h
        · unfold dstAt at hd; rw [Array.getElem?_eq_none h] at hd; cases hd
      simp only [doneB, List.all_eq_true, List.mem_range, Bool.or_eq_true] at hdn
      have := hdn j hlt
      rw [hl0, hd] at this
      simp only [Bool.not_true, Bool.false_eq_true, false_or] at this
      exact hy (j, t) (by simpa using this)
  refine wpAny_fam_tailQ (E := E) (V := famV Vs) (a0 := a0) (w0 := w) (l1 := l.take n1) qs ps m hB (by rw [hn1]; exact hTB) (by rw [hn1]; simpa using hle) hl hT hM.at_ hE0 hOb ?_ fuel listed0 a0 w (by rw [hn1]; exact hfu) (by rw [hn1]; exact hno') (fun j hj => by simp only [List.all_eq_true] at hps; exact hps j hj) hinv
  intro li a w' hli' h
  rw [hn1] at hli'
  have e2 : li = listed := by
    apply Array.ext'
    rw [← hli]
    apply List.ext_getElem?
    intro i
    have h1 := hli' i
    have hs : li.size = l.length := by have := h.lsz; simpa using this
    by_cases hi : i < l.length
    · have h2 : li.toList[i]? = some (decide (i < n1) || qs.contains i) := by
        have hi' : i < li.size := by rw [hs]; exact hi
        simp [hi'] at h1 ⊢
        exact h1
      rw [h2]
      simp [hi]
    · rw [List.getElem?_eq_none (by simpa [hs] using hi), List.getElem?_eq_none (by simpa using hi)]
  have e : a = puts (fun t => a.tmps.getD t undef) ds a0 := by
    refine act_ext (by rw [puts_defers, h.dfs]) (by rw [puts_size, h.siz]) fun s hlt => ?_
    by_cases hsd : some s ∈ ds
    · rw [puts_in _ _ _ _ hsd (by have := h.siz; omega)]
    · rw [puts_out _ _ _ _ hsd]
      cases hw : who l.toArray s with
      | none => exact h.no s (fun j hj => by rw [hw] at hj; cases hj)
      | some j =>
        have hd := who_spec hw
        by_cases hj : li.getD j false = true
        · have h3 := hli' j
          rw [hj] at h3
          by_cases hjn : j < n1
          · exfalso
            apply hsd
            rw [← hds]
            unfold dstAt at hd
            rw [← hl j (by rw [hn1]; exact hjn)] at hd
            cases hg : (l.take n1)[j]? with
            | none => rw [hg] at hd; cases hd
            | some o => rw [hg] at hd; exact List.mem_map.2 ⟨o, List.mem_of_getElem? hg, by simpa using hd⟩
          · simp only [hjn, decide_false, Bool.false_or] at h3
            have hmem : j ∈ qs := by simpa using h3.symm
            exact hq0 j hmem s hd _ _ h.ext (h.yes s j hw hj)
        · exact h.no s (fun k hk => by rw [hw] at hk; obtain rfl := Option.some.inj hk; simpa using hj)
  rw [e2, e]
  refine hQ _ _ h.ext (AllV_of _ _ fun i t hi => ?_)
  rw [Nat.zero_add]
  rw [← hds, List.getElem?_map] at hi
  obtain ⟨o, ho, hdo⟩ := Option.map_eq_some_iff.1 hi
  have hlt : i < (l.take n1).length := (List.getElem?_eq_some_iff.1 ho).1
  refine h.yes t i (famB_dst hB (by rw [← hl i hlt]; exact ho) hdo).1 ?_
  rw [hli' i]; rw [hn1] at hlt; simp [hlt]
end
end Go.Proofs.Ytmkgipoljbiocaa
/- Rising lists: the program's Right. -/
namespace Go.Proofs.Ytmkgipoljbiocaa
open Go.RowKit
set_option linter.unusedVariables false
set_option linter.unusedSimpArgs false

theorem mright_any (w : World) (a : Option Addr) (n c : Nat) (xs : List Int) (h : CRow intC 1 w a n xs) :
    Calls Try.prog 66 #[.slice a n c] w fun e w' => e = .returned (.bool (risB xs)) ∧ ∃ q, w' = w.drewN q := by
  have hl1 := Lib.hid h.1
  have hl2 := h.2.1
  have HH := Lib.hid h
  obtain ⟨r, hr⟩ : ∃ r, risB xs = r := ⟨_, rfl⟩
  have HR := Lib.hid hr
  rw [hr]
  clear h hr
  go_enter Try.func66, Try.ntmps66
  go_wp2
  go_loopw [7] (fun i wr => ∃ k m : Nat, (k + 1 ≤ n ∨ n = 0 ∧ k = 0) ∧ i = .int .i64 (k : Int) ∧ risUp xs (k + 1) ∧ wr = w.drewN m) (fun i _ => n - (intOf i).toNat)
  case atStart => exact ⟨0, 0, by omega, rfl, fun i _ _ hi => by omega, rfl⟩
  case round =>
    obtain ⟨k, m, hk, rfl, hno, hwr⟩ := hrel
    have HN := Lib.hid hno
    have HW := Lib.hid hwr
    clear hno hwr
    by_cases hlt : k + 1 < n
    · have HC := Lib.hid (HH.out.below (below_drewN w m))
      rw [← HW.out] at HC
      obtain ⟨b, off, y, rfl, hb, hy, hc⟩ := HC.out.int hlt
      obtain ⟨b', off', y', hbb, hb', hy', hc'⟩ := HC.out.int (k := k) (by omega)
      simp only [Option.some.injEq, Addr.mk.injEq, and_true] at hbb
      obtain ⟨rfl, rfl⟩ := hbb
      have h0 : (0 : Int) ≤ (k : Int) := by omega
      have h1 : (k : Int) < (n : Int) - 1 := by omega
      have h2 : (k : Int) + 1 < (n : Int) := by omega
      have h3 : (k : Int) < (n : Int) := by omega
      have HY := Lib.hid hy
      have HY' := Lib.hid hy'
      clear hy hy'
      by_cases he : y' < y
      · have HE : Hid (risUp xs (k + 1 + 1)) := Lib.hid fun i a b hi ha hb2 => by
          by_cases hi2 : i + 1 < k + 1
          · exact HN.out i a b hi2 ha hb2
          · obtain rfl : i = k := by omega
            rw [HY'.out] at ha; rw [HY.out] at hb2
            obtain rfl := Option.some.inj ha
            obtain rfl := Option.some.inj hb2
            exact he
        have e1 : ¬ y ≤ y' := by omega
        have j1 : decide (y ≤ y') = false := decide_eq_false e1
        clear he
        go_wp2
        go_quiet (fail)
        go_wp2
        go_roundw
        case rel => exact ⟨k + 1, m + nq, by omega, by go_num, HE.out, by rw [HW.out]; simp [World.drewN, Nat.add_assoc]⟩
        case measure => simp [intOf]; omega
      · have e1 : y ≤ y' := by omega
        have j1 : decide (y ≤ y') = true := decide_eq_true e1
        have HE : Hid (r = false) := Lib.hid (by
          rw [← HR.out, Bool.eq_false_iff]
          intro h
          exact he ((risB_iff xs).1 h k y' y (by rw [hl1.out]; omega) HY'.out HY.out))
        clear he
        go_wp2
        go_quiet (fail)
        go_wp2
        go_ret
        exact ⟨ret_bool HE.out.symm, m + nq, by rw [HW.out]; simp [World.drewN, Nat.add_assoc]⟩
    · have HE : Hid (r = true) := Lib.hid (by
        rw [← HR.out, risB_iff, hl1.out]
        rcases hk with hk | ⟨hk, hk'⟩
        · obtain rfl : k + 1 = n := by omega
          exact HN.out
        · subst hk; exact fun i _ _ hi => by omega)
      have h1 : ¬ (k : Int) < (n : Int) - 1 := by omega
      clear hk
      go_wp2
      go_ret
      exact ⟨ret_bool HE.out.symm, m, HW.out⟩
end Go.Proofs.Ytmkgipoljbiocaa
/- The union of rising lists: the program's. -/
namespace Go.Proofs.Ytmkgipoljbiocaa
open Go.RowKit
set_option linter.unusedVariables false
set_option linter.unusedSimpArgs false

def merL : List Int → List Int → List Int
  | [], ys => ys
  | x :: xs, [] => x :: xs
  | x :: xs, y :: ys => if x < y then x :: merL xs (y :: ys) else if y < x then y :: merL (x :: xs) ys else x :: merL xs ys
termination_by xs ys => xs.length + ys.length
theorem merL_nil (xs : List Int) : merL xs [] = xs := by cases xs <;> simp [merL]
theorem merL_len : ∀ (xs ys : List Int), (merL xs ys).length ≤ xs.length + ys.length
  | [], ys => by simp [merL]
  | x :: xs, [] => by simp [merL]
  | x :: xs, y :: ys => by
    simp only [merL]
    split
    · have := merL_len xs (y :: ys); simp only [List.length_cons] at this ⊢; omega
    · split
      · have := merL_len (x :: xs) ys; simp only [List.length_cons] at this ⊢; omega
      · have := merL_len xs ys; simp only [List.length_cons] at this ⊢; omega
termination_by xs ys => xs.length + ys.length
theorem mem_merL {z : Int} : ∀ (xs ys : List Int), z ∈ merL xs ys ↔ z ∈ xs ∨ z ∈ ys
  | [], ys => by simp [merL]
  | x :: xs, [] => by simp [merL]
  | x :: xs, y :: ys => by
    simp only [merL]
    split
    · rw [List.mem_cons, mem_merL xs (y :: ys)]; simp only [List.mem_cons]; constructor
      · rintro (h | h | h | h) <;> simp_all
      · rintro ((h | h) | (h | h)) <;> simp_all
    · split
      · rw [List.mem_cons, mem_merL (x :: xs) ys]; simp only [List.mem_cons]
        constructor
        · rintro (h | (h | h) | h) <;> simp_all
        · rintro ((h | h) | (h | h)) <;> simp_all
      · have e : x = y := by omega
        rw [List.mem_cons, mem_merL xs ys]; simp only [List.mem_cons]
        constructor
        · rintro (h | h | h) <;> simp_all
        · rintro ((h | h) | (h | h)) <;> simp_all
termination_by xs ys => xs.length + ys.length
/-- A box that holds a row of numbers of the call's own. -/
structure BoxI (B : Nat) (w : World) (X : Nat) (v : Value) (xs : List Int) : Prop where
  blk : w.heap[X]? = some (.cells #[v] 23 (0, 0))
  ow : w.ownsRow B 3 1 v xs.length (xs.flatMap intC)
  le : B ≤ w.heap.size
theorem BoxI.below {B : Nat} {w w' : World} {X : Nat} {v : Value} {xs : List Int} (h : BoxI B w X v xs) (hb : Below w.heap.size w w') : BoxI B w' X v xs := ⟨(hb.block X (Array.getElem?_eq_some_iff.1 h.blk).1).trans h.blk, ownB h.ow hb, Nat.le_trans h.le hb.size⟩
set_option maxHeartbeats 1000000 in
theorem uput_any (w w0 : World) (B X : Nat) (v : Value) (xs : List Int) (z : Int) (h : BoxI B w X v xs) (hB : Below B w0 w) (hBX : B ≤ X) (hn : xs.length ≤ 100000) :
    Calls Try.prog 87 #[.int .i64 z, .pointer (some ⟨X, 0, none⟩)] w fun e w' => e = .returned (.tuple #[]) ∧ ∃ v', BoxI B w' X v' (xs ++ [z]) ∧ Below B w0 w' ∧ ∀ k, k < w.heap.size → k ≠ X → some k ≠ v.ownBlock → w'.heap[k]? = w.heap[k]? := by
  have c0 : w.cell? ⟨X, 0, none⟩ = some v := by rw [cell_of_row w X 0 _ _ _ h.blk]; rfl
  have hlt : X < w.heap.size := (Array.getElem?_eq_some_iff.1 h.blk).1
  have HH := Lib.hid h
  have HBW := Lib.hid hB
  have hne : some X ≠ v.ownBlock := fun e => by
    obtain ⟨cur, hc⟩ := own_obj h.ow e.symm
    exact obj_ne h.blk hc (by decide) rfl
  have HNE := Lib.hid hne
  obtain ⟨n, hnE⟩ : ∃ n, xs.length = n := ⟨_, rfl⟩
  have HOW : Hid (w.ownsRow B 3 1 v n (xs.flatMap intC)) := Lib.hid (by rw [← hnE]; exact h.ow)
  have HN := Lib.hid hnE
  have HAP := Lib.hid (app_int HOW.out z (by omega) h.le w.heap.size rfl)
  obtain ⟨A, c, rfl, _, _⟩ := own_form HOW.out
  clear h hB hne
  go_enter Try.func87, Try.ntmps87
  go_wp2_with (at_builtin; refine HAP.out _ _ _ _ _ rfl _ _ rfl rfl rfl ?_; intro gg cap w2 hown1 hgrow hat; have HW := Lib.hid hown1; have HBLK : Hid (w2.heap[X]? = some (.cells #[.slice A n c] 23 (0, 0))) := Lib.hid ((hgrow.block X (by simp; omega) HNE.out).trans ((Below.heap_alloc w _ X hlt).trans HH.out.blk)); have HB2 := Lib.hid (below_grown (HBW.out.alloc HH.out.le (.cells #[.int .i64 z] 3)) (by have := HH.out.le; simp; omega) hgrow (fun j hj => (own_ge HOW.out hj).1)); have c2 : w2.cell? ⟨X, 0, none⟩ = some (.slice A n c) := (cell_of_row w2 X 0 _ _ _ HBLK.out).trans rfl; have f2 := frozen_of_row w2 X 0 _ _ HBLK.out; have HSZ := Lib.hid hgrow.size; have HKP : Hid (∀ k, k < w.heap.size → some k ≠ (Value.slice A n c).ownBlock → w2.heap[k]? = w.heap[k]?) := Lib.hid (fun k hk hne => (hgrow.block k (by simp; omega) hne).trans (Below.heap_alloc w _ k hk)); clear hown1 hgrow hat)
  go_end0
  refine ⟨rfl, _, ⟨heap_setCell_same w2 X 0 _ _ _ HBLK.out, ?_, ?_⟩, HB2.out.setCell (p := ⟨X, 0, none⟩) hBX _, fun k hk hx hv => (heap_setCell_other w2 ⟨X, 0, none⟩ k _ hx).trans (HKP.out k hk hv)⟩
  · have hw := HW.out
    rw [List.length_append, HN.out]
    refine own_keep hw fun k cur hk hc => heap_setCell_other _ _ _ _ ?_
    exact obj_ne hc HBLK.out (by decide)
  · have h1 := HSZ.out; have h2 := HH.out.le; simp at h1 ⊢; omega
theorem run_nonnil (X : Nat) (w : World) : (binOp BinOp.neq 114 (.func (.func 87) #[] #[.pointer (some ⟨X, 0, none⟩)]) .nilFunc).run Try.prog w = .ok (.bool true) w := by kernel_rfl
set_option maxRecDepth 10000 in
set_option maxHeartbeats 1000000 in
theorem uto_any (w w0 : World) (B X : Nat) (v : Value) (xs : List Int) (z : Int) (h : BoxI B w X v xs) (hB : Below B w0 w) (hBX : B ≤ X) (hn : xs.length ≤ 100000) :
    Calls Try.prog 95 #[.func (.func 87) #[] #[.pointer (some ⟨X, 0, none⟩)], .int .i64 z] w fun e w' => e = .returned (.tuple #[]) ∧ ∃ v', BoxI B w' X v' (xs ++ [z]) ∧ Below B w0 w' ∧ ∀ k, k < w.heap.size → k ≠ X → some k ≠ v.ownBlock → w'.heap[k]? = w.heap[k]? := by
  have HPU := Lib.hid (uput_any w w0 B X v xs z h hB hBX hn)
  have hnn := run_nonnil X
  clear h hB
  go_enter Try.func95, Try.ntmps95
  go_wp2_with fail
  refine HPU.out.mono ?_
  rintro e w' ⟨rfl, hx⟩
  have HX := Lib.hid hx
  clear hx
  go_wp2
  go_end0
  exact ⟨rfl, HX.out⟩
def lenS : Value → Nat
  | .slice _ n _ => n
  | _ => 0
/-- The rest of a list. -/
theorem crow_tail {w : World} {b off n : Nat} {x : Int} {xs : List Int} (h : CRow intC 1 w (some ⟨b, off, none⟩) n (x :: xs)) : CRow intC 1 w (some ⟨b, off + 1, none⟩) (n - 1) xs := by
  obtain ⟨h1, h2, h3⟩ := h
  simp only [List.length_cons] at h1
  refine ⟨by omega, by omega, fun hp => ?_⟩
  obtain ⟨b', off', ha, hb, hc⟩ := h3 (by omega)
  simp only [Option.some.injEq, Addr.mk.injEq, and_true] at ha
  obtain ⟨rfl, rfl⟩ := ha
  refine ⟨b, _, rfl, hb, fun i o hi j v hv => ?_⟩
  have := hc (i + 1) o (by simpa using hi) j v hv
  rwa [show off + (i + 1) * 1 + j = off + 1 + i * 1 + j by omega] at this
theorem crow_end {w : World} {a : Option Addr} {x : Int} {xs : List Int} (h : CRow intC 1 w a 1 (x :: xs)) (a' : Option Addr) : CRow intC 1 w a' 0 xs := by
  have h1 := h.1
  simp only [List.length_cons] at h1
  have : xs = [] := List.length_eq_zero_iff.1 (by omega)
  subst this
  exact CRow.nil _ _
def keptC (X : Nat) : Array Value := #[.func (.func 87) #[] #[.pointer (some ⟨X, 0, none⟩)], .func (.func 87) #[] #[.pointer (some ⟨X, 0, none⟩)], .func (.func 87) #[] #[.pointer (some ⟨X, 0, none⟩)]]
set_option maxRecDepth 10000 in
set_option maxHeartbeats 8000000 in
theorem umerge_any (w w0 : World) (B X : Nat) (v0 : Value) (A0 : Option Addr) (n0 c0 : Nat) (xs : List Int) (B0 : Option Addr) (m0 d0 : Nat) (ys : List Int) (hB0 : w0.heap.size = B) (hBX : B ≤ X) (hX : X < w.heap.size) (hbx : BoxI B w X v0 []) (hbw : Below B w0 w) (ha : CRow intC 1 w0 A0 n0 xs) (hb : CRow intC 1 w0 B0 m0 ys) (hc0 : n0 ≤ c0 ∧ c0 ≤ 9223372036854775807) (hd0 : m0 ≤ d0 ∧ d0 ≤ 9223372036854775807) (hlen : n0 + m0 ≤ 100000) :
    Calls Try.prog 88 #[.slice A0 n0 c0, .slice B0 m0 d0, .agg (keptC X)] w fun e w' => e = .returned (.tuple #[]) ∧ ∃ v', BoxI B w' X v' (merL xs ys) ∧ Below B w0 w' := by
  have HB0 := Lib.hid hB0
  have HML := Lib.hid (merL_len xs ys)
  have hla := ha.1
  have hlb := hb.1
  have HA := Lib.hid ha
  have HB := Lib.hid hb
  have HBX0 := Lib.hid hbx
  have HBW0 := Lib.hid hbw
  obtain ⟨g, hg⟩ : ∃ g, w.heap.size = g := ⟨_, rfl⟩
  obtain ⟨W1, hW1⟩ : ∃ W, W = w.alloc (.cells (keptC X) 117) := ⟨_, rfl⟩
  have hb1 : Below w.heap.size w W1 := by rw [hW1]; exact (Below.refl _ _).alloc (Nat.le_refl _) _
  have hk1 : W1.heap[g]? = some (.cells (keptC X) 117 (0, 0)) := by rw [hW1, ← hg]; exact heap_alloc_new w _
  have HBX1 := Lib.hid (hbx.below hb1)
  have HBW1 := Lib.hid (hbw.trans (hb1.mono hbx.le))
  have HK1 := Lib.hid hk1
  have HW1 := Lib.hid hW1
  have hgX : g ≠ X := by omega
  obtain ⟨R, hR⟩ : ∃ R, merL xs ys = R := ⟨_, rfl⟩
  rw [hR] at HML ⊢
  have HR := Lib.hid hR
  clear ha hb hbx hbw hb1 hk1 hR hB0
  unfold keptC at HW1
  go_enter Try.func88, Try.ntmps88
  unfold keptC
  go_wp2
  rw [← HW1.out]
  clear hW1
  go_loopw [0, 1] (fun av bv wr => ∃ (A : Option Addr) (n c : Nat) (xs' : List Int) (Bb : Option Addr) (m d : Nat) (ys' : List Int) (v : Value) (pre : List Int), av = .slice A n c ∧ bv = .slice Bb m d ∧ (CRow intC 1 w0 A n xs' ∧ n ≤ c ∧ c ≤ 9223372036854775807) ∧ (CRow intC 1 w0 Bb m ys' ∧ m ≤ d ∧ d ≤ 9223372036854775807) ∧ BoxI B wr X v pre ∧ pre ++ merL xs' ys' = R ∧ Below B w0 wr ∧ wr.heap[g]? = some (.cells (keptC X) 117 (0, 0))) (fun av bv _ => lenS av + lenS bv)
  case atStart => exact ⟨_, _, _, _, _, _, _, _, _, [], rfl, rfl, ⟨HA.out, hc0⟩, ⟨HB.out, hd0⟩, HBX1.out, HR.out, HBW1.out, HK1.out⟩
  case round =>
    obtain ⟨A, n, c, xs', Bb, m, d, ys', v, pre, rfl, rfl, ⟨hra, hnc, hcm⟩, ⟨hrb, hmd, hdm⟩, hbx, hpre, hbw, hkg⟩ := hrel
    have HRA := Lib.hid hra
    have HRB := Lib.hid hrb
    have HBX := Lib.hid hbx
    have HPRE := Lib.hid hpre
    have HBW := Lib.hid hbw
    have HKG := Lib.hid hkg
    have hla' := hra.1
    have hlb' := hrb.1
    have HLEN : Hid (pre.length ≤ 100000) := Lib.hid (by have h9 := congrArg List.length hpre; rw [List.length_append] at h9; have := HML.out; omega)
    have hgl : g < wr.heap.size := (Array.getElem?_eq_some_iff.1 hkg).1
    have HNE : Hid (some g ≠ v.ownBlock) := Lib.hid (fun e => by
      obtain ⟨cur, hc⟩ := own_obj hbx.ow e.symm
      exact obj_ne hkg hc (by decide) rfl)
    have k0 : wr.cell? ⟨g, 0, none⟩ = some (.func (.func 87) #[] #[.pointer (some ⟨X, 0, none⟩)]) := by rw [cell_of_row wr g 0 _ _ _ hkg]; rfl
    have k1 : wr.cell? ⟨g, 1, none⟩ = some (.func (.func 87) #[] #[.pointer (some ⟨X, 0, none⟩)]) := by rw [cell_of_row wr g 1 _ _ _ hkg]; rfl
    have k2 : wr.cell? ⟨g, 2, none⟩ = some (.func (.func 87) #[] #[.pointer (some ⟨X, 0, none⟩)]) := by rw [cell_of_row wr g 2 _ _ _ hkg]; rfl
    have hbw' : Below w0.heap.size w0 wr := by rw [HB0.out]; exact hbw
    cases xs' with
    | nil =>
      cases ys' with
      | nil =>
        simp only [List.length_nil] at hla' hlb'
        obtain rfl : n = 0 := by omega
        obtain rfl : m = 0 := by omega
        have HE : Hid (R = pre) := Lib.hid (by rw [← hpre]; simp [merL])
        clear hra hrb hbx hpre hbw hbw' hkg hla' hlb'
        go_wp2
        go_end0
        exact ⟨rfl, v, by rw [HE.out]; exact HBX.out, HBW.out⟩
      | cons yy ys1 =>
        simp only [List.length_nil, List.length_cons] at hla' hlb'
        have HNX : Hid ((pre ++ [yy]) ++ merL [] ys1 = R) := Lib.hid (by rw [← hpre]; simp [merL])
        obtain ⟨b2, off2, y', rfl, hb2, hy', cy⟩ := (hrb.below hbw').int (k := 0) (by omega)
        obtain rfl := Option.some.inj hy'
        rw [Nat.add_zero] at cy
        clear hy'
        obtain rfl : n = 0 := by omega
        have r5 : 0 < m := by omega
        have r1 : (0 : Int) < (m : Int) := by omega
        have r2 : ((m : Int) == 0) = false := by rw [beq_eq_false_iff_ne]; omega
        have r3 : decide ((0 : Int) < (m : Int)) = true := decide_eq_true r1
        clear hra hrb hbx hpre hbw hbw' hkg hla' hlb'
        go_wp2
        go_quiet (fail)
        go_wp2
        go_quiet (fail)
        go_wp2_with fail
        refine wp_region_fam_tail_lit (E := Onto) 6 1
          [isV (.func (.func 95) #[] #[]),
           isV (.pointer (some ⟨g, 2, none⟩)),
           isV (.func (.func 87) #[] #[.pointer (some ⟨X, 0, none⟩)]),
           isV (.slice (some ⟨b2, off2, none⟩) m d),
           isV (.pointer (some ⟨b2, off2, none⟩)),
           isV (.int .i64 yy)]
          [some 66, some 67, some 68, some 69, some 70, some 71] #[true, true, true, true, true, true, false] (by kernel_rfl) rfl (by kernel_rfl) (by kernel_rfl) rfl rfl rfl Onto.trans Onto.refl ?monoS ?obS ?qS
        case monoS => exact ⟨isV_mono _ _, isV_mono _ _, isV_mono _ _, isV_mono _ _, isV_mono _ _, isV_mono _ _, trivial⟩
        case obS =>
          refine Obs.cons (j := 1) rfl ?_ ?_
          · refine Ob.free [(6, none)] (by kernel_rfl) (isV (.func (.func 95) #[] #[])) rfl rfl (fun a X hE hL => ?_)
            simp [Seen, slotAt] at hL
            have h6 := hL
            rw [relAt_eq]
            go_simp
            exact ⟨Onto.refl _, rfl⟩
          refine Obs.cons (j := 2) rfl ?_ ?_
          · refine Ob.free [(5, none)] (by kernel_rfl) (isV (.pointer (some ⟨g, 2, none⟩))) rfl rfl (fun a X hE hL => ?_)
            simp [Seen, slotAt] at hL
            have h5 := hL
            rw [relAt_eq]
            go_simp
            exact ⟨Onto.refl _, rfl⟩
          refine Obs.cons (j := 3) rfl ?_ ?_
          · refine Ob.free [(67, some 1)] (by kernel_rfl) (isV (.func (.func 87) #[] #[.pointer (some ⟨X, 0, none⟩)])) rfl rfl (fun a X hE hL => ?_)
            simp [Seen, slotAt, famV, isV] at hL
            have h67 := hL
            rw [relAt_eq]
            have f0 := keeps hE _ _ k2
            go_simp
            exact ⟨Onto.refl _, rfl⟩
          refine Obs.cons (j := 4) rfl ?_ ?_
          · refine Ob.free [(1, none)] (by kernel_rfl) (isV (.slice (some ⟨b2, off2, none⟩) m d)) rfl rfl (fun a X hE hL => ?_)
            simp [Seen, slotAt] at hL
            have h1 := hL
            rw [relAt_eq]
            go_simp
            exact ⟨Onto.refl _, rfl⟩
          refine Obs.cons (j := 5) rfl ?_ ?_
          · refine Ob.free [(69, some 3)] (by kernel_rfl) (isV (.pointer (some ⟨b2, off2, none⟩))) rfl rfl (fun a X hE hL => ?_)
            simp [Seen, slotAt, famV, isV] at hL
            have h69 := hL
            rw [relAt_eq]
            go_simp
            exact ⟨Onto.refl _, rfl⟩
          refine Obs.cons (j := 6) rfl ?_ ?_
          · refine Ob.free [(70, some 4)] (by kernel_rfl) (isV (.int .i64 yy)) rfl rfl (fun a X hE hL => ?_)
            simp [Seen, slotAt, famV, isV] at hL
            have h70 := hL
            rw [relAt_eq]
            have f0 := keeps hE _ _ cy
            go_simp
            exact ⟨Onto.refl _, rfl⟩
          exact trivial
        case qS =>
          intro x wA hE hV
          simp [AllV, famV, isV] at hV
          obtain ⟨h66, -, h68, -, -, h71⟩ := hV
          simp only [puts, Act.put, List.setIfInBounds_toArray, List.set_cons_zero, List.set_cons_succ, h66, h68, h71]
          generalize x 67 = y67
          generalize x 69 = y69
          generalize x 70 = y70
          clear h66 h68 h71
          have hbO := onto_drew hE
          have hbA : Below wr.heap.size wr wA := ⟨hbO.os, hbO.tape, hbO.output, hbO.size, fun k hk => hbO.block k hk⟩
          have HPT := Lib.hid (uto_any wA w0 B X v pre yy (HBX.out.below hbA) (HBW.out.trans (hbA.mono HBX.out.le)) hBX (by have := HLEN.out; omega))
          have HKA := Lib.hid ((hbA.block g hgl).trans HKG.out)
          have hgA : g < wA.heap.size := by have := hbA.size; omega
          clear hE hbA hbO
          refine wpAny_ready (rs := [6]) (by kernel_rfl) (by simp) ?_
          refine AllReady.cons rfl (fun K hK => ?_) AllReady.nil
          rw [if_pos (by rfl)]
          go_simp
          go_at_call 95
          refine HPT.out.mono ?_
          rintro e w5 ⟨rfl, v5, hx5, hb5, hk5⟩
          have HX5 := Lib.hid hx5
          have HB5 := Lib.hid hb5
          have HK5 := Lib.hid ((hk5 g hgA hgX HNE.out).trans HKA.out)
          clear hx5 hb5 hk5
          refine hK _ _ ?_
          clear hK K
          try simp only [Act.put, List.getElem_toArray, List.getElem_cons_succ, List.getElem_cons_zero, List.setIfInBounds_toArray, List.set_cons_zero, List.set_cons_succ]
          refine wpAny_done (by kernel_rfl) ?_ _
          by_cases hd1 : d = 1
          case pos =>
            obtain rfl : m = 1 := by omega
            subst hd1
            go_wp2
            go_roundw
            case rel => exact ⟨_, _, _, _, _, _, _, _, _, _, rfl, rfl, ⟨HRA.out, hnc, hcm⟩, ⟨crow_end HRB.out _, by omega, by omega⟩, HX5.out, HNX.out, HB5.out, HK5.out⟩
            case measure => first | (simp [lenS]; done) | (simp [lenS]; omega)
          case neg =>
            have z9 : (1 : Int) ≤ (m : Int) := by omega
            have z8 : (1 : Int) ≤ (d : Int) := by omega
            go_wp2
            go_roundw
            case rel => exact ⟨_, _, _, _, _, _, _, _, _, _, rfl, rfl, ⟨HRA.out, hnc, hcm⟩, ⟨crow_tail HRB.out, by omega, by omega⟩, HX5.out, HNX.out, HB5.out, HK5.out⟩
            case measure => first | (simp [lenS]; done) | (simp [lenS]; omega)
    | cons xx xs1 =>
      cases ys' with
      | nil =>
        simp only [List.length_nil, List.length_cons] at hla' hlb'
        have HNX : Hid ((pre ++ [xx]) ++ merL xs1 [] = R) := Lib.hid (by rw [← hpre, merL_nil, merL_nil]; simp)
        obtain ⟨b1, off1, x', rfl, hb1, hx', cx⟩ := (hra.below hbw').int (k := 0) (by omega)
        obtain rfl := Option.some.inj hx'
        rw [Nat.add_zero] at cx
        clear hx'
        have q5 : 0 < n := by omega
        have q1 : (0 : Int) < (n : Int) := by omega
        have q2 : ((n : Int) == 0) = false := by rw [beq_eq_false_iff_ne]; omega
        have q3 : decide ((0 : Int) < (n : Int)) = true := decide_eq_true q1
        obtain rfl : m = 0 := by omega
        clear hra hrb hbx hpre hbw hbw' hkg hla' hlb'
        go_wp2
        go_quiet (fail)
        go_wp2_with fail
        refine wp_region_fam_tail_lit (E := Onto) 6 1
          [isV (.func (.func 95) #[] #[]),
           isV (.pointer (some ⟨g, 0, none⟩)),
           isV (.func (.func 87) #[] #[.pointer (some ⟨X, 0, none⟩)]),
           isV (.slice (some ⟨b1, off1, none⟩) n c),
           isV (.pointer (some ⟨b1, off1, none⟩)),
           isV (.int .i64 xx)]
          [some 44, some 45, some 46, some 47, some 48, some 49] #[true, true, true, true, true, true, false] (by kernel_rfl) rfl (by kernel_rfl) (by kernel_rfl) rfl rfl rfl Onto.trans Onto.refl ?monoF ?obF ?qF
        case monoF => exact ⟨isV_mono _ _, isV_mono _ _, isV_mono _ _, isV_mono _ _, isV_mono _ _, isV_mono _ _, trivial⟩
        case obF =>
          refine Obs.cons (j := 1) rfl ?_ ?_
          · refine Ob.free [(6, none)] (by kernel_rfl) (isV (.func (.func 95) #[] #[])) rfl rfl (fun a X hE hL => ?_)
            simp [Seen, slotAt] at hL
            have h6 := hL
            rw [relAt_eq]
            go_simp
            exact ⟨Onto.refl _, rfl⟩
          refine Obs.cons (j := 2) rfl ?_ ?_
          · refine Ob.free [(5, none)] (by kernel_rfl) (isV (.pointer (some ⟨g, 0, none⟩))) rfl rfl (fun a X hE hL => ?_)
            simp [Seen, slotAt] at hL
            have h5 := hL
            rw [relAt_eq]
            go_simp
            exact ⟨Onto.refl _, rfl⟩
          refine Obs.cons (j := 3) rfl ?_ ?_
          · refine Ob.free [(45, some 1)] (by kernel_rfl) (isV (.func (.func 87) #[] #[.pointer (some ⟨X, 0, none⟩)])) rfl rfl (fun a X hE hL => ?_)
            simp [Seen, slotAt, famV, isV] at hL
            have h45 := hL
            rw [relAt_eq]
            have f0 := keeps hE _ _ k0
            go_simp
            exact ⟨Onto.refl _, rfl⟩
          refine Obs.cons (j := 4) rfl ?_ ?_
          · refine Ob.free [(0, none)] (by kernel_rfl) (isV (.slice (some ⟨b1, off1, none⟩) n c)) rfl rfl (fun a X hE hL => ?_)
            simp [Seen, slotAt] at hL
            have h0 := hL
            rw [relAt_eq]
            go_simp
            exact ⟨Onto.refl _, rfl⟩
          refine Obs.cons (j := 5) rfl ?_ ?_
          · refine Ob.free [(47, some 3)] (by kernel_rfl) (isV (.pointer (some ⟨b1, off1, none⟩))) rfl rfl (fun a X hE hL => ?_)
            simp [Seen, slotAt, famV, isV] at hL
            have h47 := hL
            rw [relAt_eq]
            go_simp
            exact ⟨Onto.refl _, rfl⟩
          refine Obs.cons (j := 6) rfl ?_ ?_
          · refine Ob.free [(48, some 4)] (by kernel_rfl) (isV (.int .i64 xx)) rfl rfl (fun a X hE hL => ?_)
            simp [Seen, slotAt, famV, isV] at hL
            have h48 := hL
            rw [relAt_eq]
            have f0 := keeps hE _ _ cx
            go_simp
            exact ⟨Onto.refl _, rfl⟩
          exact trivial
        case qF =>
          intro x wA hE hV
          simp [AllV, famV, isV] at hV
          obtain ⟨h44, -, h46, -, -, h49⟩ := hV
          simp only [puts, Act.put, List.setIfInBounds_toArray, List.set_cons_zero, List.set_cons_succ, h44, h46, h49]
          generalize x 45 = y45
          generalize x 47 = y47
          generalize x 48 = y48
          clear h44 h46 h49
          have hbO := onto_drew hE
          have hbA : Below wr.heap.size wr wA := ⟨hbO.os, hbO.tape, hbO.output, hbO.size, fun k hk => hbO.block k hk⟩
          have HPT := Lib.hid (uto_any wA w0 B X v pre xx (HBX.out.below hbA) (HBW.out.trans (hbA.mono HBX.out.le)) hBX (by have := HLEN.out; omega))
          have HKA := Lib.hid ((hbA.block g hgl).trans HKG.out)
          have hgA : g < wA.heap.size := by have := hbA.size; omega
          clear hE hbA hbO
          refine wpAny_ready (rs := [6]) (by kernel_rfl) (by simp) ?_
          refine AllReady.cons rfl (fun K hK => ?_) AllReady.nil
          rw [if_pos (by rfl)]
          go_simp
          go_at_call 95
          refine HPT.out.mono ?_
          rintro e w5 ⟨rfl, v5, hx5, hb5, hk5⟩
          have HX5 := Lib.hid hx5
          have HB5 := Lib.hid hb5
          have HK5 := Lib.hid ((hk5 g hgA hgX HNE.out).trans HKA.out)
          clear hx5 hb5 hk5
          refine hK _ _ ?_
          clear hK K
          try simp only [Act.put, List.getElem_toArray, List.getElem_cons_succ, List.getElem_cons_zero, List.setIfInBounds_toArray, List.set_cons_zero, List.set_cons_succ]
          refine wpAny_done (by kernel_rfl) ?_ _
          by_cases hc1 : c = 1
          case pos =>
            obtain rfl : n = 1 := by omega
            subst hc1
            go_wp2
            go_roundw
            case rel => exact ⟨_, _, _, _, _, _, _, _, _, _, rfl, rfl, ⟨crow_end HRA.out _, by omega, by omega⟩, ⟨HRB.out, hmd, hdm⟩, HX5.out, HNX.out, HB5.out, HK5.out⟩
            case measure => first | (simp [lenS]; done) | (simp [lenS]; omega)
          case neg =>
            have z9 : (1 : Int) ≤ (n : Int) := by omega
            have z8 : (1 : Int) ≤ (c : Int) := by omega
            go_wp2
            go_roundw
            case rel => exact ⟨_, _, _, _, _, _, _, _, _, _, rfl, rfl, ⟨crow_tail HRA.out, by omega, by omega⟩, ⟨HRB.out, hmd, hdm⟩, HX5.out, HNX.out, HB5.out, HK5.out⟩
            case measure => first | (simp [lenS]; done) | (simp [lenS]; omega)
      | cons yy ys1 =>
        simp only [List.length_cons] at hla' hlb'
        by_cases hxy : xx < yy
        case pos =>
          have s1 : decide (xx < yy) = true := decide_eq_true hxy
          have HNX : Hid ((pre ++ [xx]) ++ merL xs1 (yy :: ys1) = R) := Lib.hid (by rw [← hpre]; simp only [merL]; rw [if_pos hxy]; simp)
          obtain ⟨b1, off1, x', rfl, hb1, hx', cx⟩ := (hra.below hbw').int (k := 0) (by omega)
          obtain rfl := Option.some.inj hx'
          rw [Nat.add_zero] at cx
          clear hx'
          obtain ⟨b2, off2, y', rfl, hb2, hy', cy⟩ := (hrb.below hbw').int (k := 0) (by omega)
          obtain rfl := Option.some.inj hy'
          rw [Nat.add_zero] at cy
          clear hy'
          have q5 : 0 < n := by omega
          have q1 : (0 : Int) < (n : Int) := by omega
          have q2 : ((n : Int) == 0) = false := by rw [beq_eq_false_iff_ne]; omega
          have q3 : decide ((0 : Int) < (n : Int)) = true := decide_eq_true q1
          have r5 : 0 < m := by omega
          have r1 : (0 : Int) < (m : Int) := by omega
          have r2 : ((m : Int) == 0) = false := by rw [beq_eq_false_iff_ne]; omega
          have r3 : decide ((0 : Int) < (m : Int)) = true := decide_eq_true r1
          clear hra hrb hbx hpre hbw hbw' hkg hla' hlb'
          go_wp2
          go_quiet (fail)
          go_wp2_with fail
          refine wp_region_fam_tail_lit (E := Onto) 6 1
            [isV (.func (.func 95) #[] #[]),
             isV (.pointer (some ⟨g, 0, none⟩)),
             isV (.func (.func 87) #[] #[.pointer (some ⟨X, 0, none⟩)]),
             isV (.slice (some ⟨b1, off1, none⟩) n c),
             isV (.pointer (some ⟨b1, off1, none⟩)),
             isV (.int .i64 xx)]
            [some 44, some 45, some 46, some 47, some 48, some 49] #[true, true, true, true, true, true, false] (by kernel_rfl) rfl (by kernel_rfl) (by kernel_rfl) rfl rfl rfl Onto.trans Onto.refl ?monoF ?obF ?qF
          case monoF => exact ⟨isV_mono _ _, isV_mono _ _, isV_mono _ _, isV_mono _ _, isV_mono _ _, isV_mono _ _, trivial⟩
          case obF =>
            refine Obs.cons (j := 1) rfl ?_ ?_
            · refine Ob.free [(6, none)] (by kernel_rfl) (isV (.func (.func 95) #[] #[])) rfl rfl (fun a X hE hL => ?_)
              simp [Seen, slotAt] at hL
              have h6 := hL
              rw [relAt_eq]
              go_simp
              exact ⟨Onto.refl _, rfl⟩
            refine Obs.cons (j := 2) rfl ?_ ?_
            · refine Ob.free [(5, none)] (by kernel_rfl) (isV (.pointer (some ⟨g, 0, none⟩))) rfl rfl (fun a X hE hL => ?_)
              simp [Seen, slotAt] at hL
              have h5 := hL
              rw [relAt_eq]
              go_simp
              exact ⟨Onto.refl _, rfl⟩
            refine Obs.cons (j := 3) rfl ?_ ?_
            · refine Ob.free [(45, some 1)] (by kernel_rfl) (isV (.func (.func 87) #[] #[.pointer (some ⟨X, 0, none⟩)])) rfl rfl (fun a X hE hL => ?_)
              simp [Seen, slotAt, famV, isV] at hL
              have h45 := hL
              rw [relAt_eq]
              have f0 := keeps hE _ _ k0
              go_simp
              exact ⟨Onto.refl _, rfl⟩
            refine Obs.cons (j := 4) rfl ?_ ?_
            · refine Ob.free [(0, none)] (by kernel_rfl) (isV (.slice (some ⟨b1, off1, none⟩) n c)) rfl rfl (fun a X hE hL => ?_)
              simp [Seen, slotAt] at hL
              have h0 := hL
              rw [relAt_eq]
              go_simp
              exact ⟨Onto.refl _, rfl⟩
            refine Obs.cons (j := 5) rfl ?_ ?_
            · refine Ob.free [(47, some 3)] (by kernel_rfl) (isV (.pointer (some ⟨b1, off1, none⟩))) rfl rfl (fun a X hE hL => ?_)
              simp [Seen, slotAt, famV, isV] at hL
              have h47 := hL
              rw [relAt_eq]
              go_simp
              exact ⟨Onto.refl _, rfl⟩
            refine Obs.cons (j := 6) rfl ?_ ?_
            · refine Ob.free [(48, some 4)] (by kernel_rfl) (isV (.int .i64 xx)) rfl rfl (fun a X hE hL => ?_)
              simp [Seen, slotAt, famV, isV] at hL
              have h48 := hL
              rw [relAt_eq]
              have f0 := keeps hE _ _ cx
              go_simp
              exact ⟨Onto.refl _, rfl⟩
            exact trivial
          case qF =>
            intro x wA hE hV
            simp [AllV, famV, isV] at hV
            obtain ⟨h44, -, h46, -, -, h49⟩ := hV
            simp only [puts, Act.put, List.setIfInBounds_toArray, List.set_cons_zero, List.set_cons_succ, h44, h46, h49]
            generalize x 45 = y45
            generalize x 47 = y47
            generalize x 48 = y48
            clear h44 h46 h49
            have hbO := onto_drew hE
            have hbA : Below wr.heap.size wr wA := ⟨hbO.os, hbO.tape, hbO.output, hbO.size, fun k hk => hbO.block k hk⟩
            have HPT := Lib.hid (uto_any wA w0 B X v pre xx (HBX.out.below hbA) (HBW.out.trans (hbA.mono HBX.out.le)) hBX (by have := HLEN.out; omega))
            have HKA := Lib.hid ((hbA.block g hgl).trans HKG.out)
            have hgA : g < wA.heap.size := by have := hbA.size; omega
            clear hE hbA hbO
            refine wpAny_ready (rs := [6]) (by kernel_rfl) (by simp) ?_
            refine AllReady.cons rfl (fun K hK => ?_) AllReady.nil
            rw [if_pos (by rfl)]
            go_simp
            go_at_call 95
            refine HPT.out.mono ?_
            rintro e w5 ⟨rfl, v5, hx5, hb5, hk5⟩
            have HX5 := Lib.hid hx5
            have HB5 := Lib.hid hb5
            have HK5 := Lib.hid ((hk5 g hgA hgX HNE.out).trans HKA.out)
            clear hx5 hb5 hk5
            refine hK _ _ ?_
            clear hK K
            try simp only [Act.put, List.getElem_toArray, List.getElem_cons_succ, List.getElem_cons_zero, List.setIfInBounds_toArray, List.set_cons_zero, List.set_cons_succ]
            refine wpAny_done (by kernel_rfl) ?_ _
            by_cases hc1 : c = 1
            case pos =>
              obtain rfl : n = 1 := by omega
              subst hc1
              go_wp2
              go_roundw
              case rel => exact ⟨_, _, _, _, _, _, _, _, _, _, rfl, rfl, ⟨crow_end HRA.out _, by omega, by omega⟩, ⟨HRB.out, hmd, hdm⟩, HX5.out, HNX.out, HB5.out, HK5.out⟩
              case measure => first | (simp [lenS]; done) | (simp [lenS]; omega)
            case neg =>
              have z9 : (1 : Int) ≤ (n : Int) := by omega
              have z8 : (1 : Int) ≤ (c : Int) := by omega
              go_wp2
              go_roundw
              case rel => exact ⟨_, _, _, _, _, _, _, _, _, _, rfl, rfl, ⟨crow_tail HRA.out, by omega, by omega⟩, ⟨HRB.out, hmd, hdm⟩, HX5.out, HNX.out, HB5.out, HK5.out⟩
              case measure => first | (simp [lenS]; done) | (simp [lenS]; omega)
        case neg =>
          have s1 : decide (xx < yy) = false := decide_eq_false hxy
          by_cases hyx : yy < xx
          case pos =>
            have s2 : decide (yy < xx) = true := decide_eq_true hyx
            have HNX : Hid ((pre ++ [yy]) ++ merL (xx :: xs1) ys1 = R) := Lib.hid (by rw [← hpre]; simp only [merL]; rw [if_neg hxy, if_pos hyx]; simp)
            obtain ⟨b1, off1, x', rfl, hb1, hx', cx⟩ := (hra.below hbw').int (k := 0) (by omega)
            obtain rfl := Option.some.inj hx'
            rw [Nat.add_zero] at cx
            clear hx'
            obtain ⟨b2, off2, y', rfl, hb2, hy', cy⟩ := (hrb.below hbw').int (k := 0) (by omega)
            obtain rfl := Option.some.inj hy'
            rw [Nat.add_zero] at cy
            clear hy'
            have q5 : 0 < n := by omega
            have q1 : (0 : Int) < (n : Int) := by omega
            have q2 : ((n : Int) == 0) = false := by rw [beq_eq_false_iff_ne]; omega
            have q3 : decide ((0 : Int) < (n : Int)) = true := decide_eq_true q1
            have r5 : 0 < m := by omega
            have r1 : (0 : Int) < (m : Int) := by omega
            have r2 : ((m : Int) == 0) = false := by rw [beq_eq_false_iff_ne]; omega
            have r3 : decide ((0 : Int) < (m : Int)) = true := decide_eq_true r1
            clear hra hrb hbx hpre hbw hbw' hkg hla' hlb'
            go_wp2
            go_quiet (fail)
            go_wp2
            go_quiet (fail)
            go_wp2_with fail
            refine wp_region_fam_tail_lit (E := Onto) 6 1
              [isV (.func (.func 95) #[] #[]),
               isV (.pointer (some ⟨g, 2, none⟩)),
               isV (.func (.func 87) #[] #[.pointer (some ⟨X, 0, none⟩)]),
               isV (.slice (some ⟨b2, off2, none⟩) m d),
               isV (.pointer (some ⟨b2, off2, none⟩)),
               isV (.int .i64 yy)]
              [some 66, some 67, some 68, some 69, some 70, some 71] #[true, true, true, true, true, true, false] (by kernel_rfl) rfl (by kernel_rfl) (by kernel_rfl) rfl rfl rfl Onto.trans Onto.refl ?monoS ?obS ?qS
            case monoS => exact ⟨isV_mono _ _, isV_mono _ _, isV_mono _ _, isV_mono _ _, isV_mono _ _, isV_mono _ _, trivial⟩
            case obS =>
              refine Obs.cons (j := 1) rfl ?_ ?_
              · refine Ob.free [(6, none)] (by kernel_rfl) (isV (.func (.func 95) #[] #[])) rfl rfl (fun a X hE hL => ?_)
                simp [Seen, slotAt] at hL
                have h6 := hL
                rw [relAt_eq]
                go_simp
                exact ⟨Onto.refl _, rfl⟩
              refine Obs.cons (j := 2) rfl ?_ ?_
              · refine Ob.free [(5, none)] (by kernel_rfl) (isV (.pointer (some ⟨g, 2, none⟩))) rfl rfl (fun a X hE hL => ?_)
                simp [Seen, slotAt] at hL
                have h5 := hL
                rw [relAt_eq]
                go_simp
                exact ⟨Onto.refl _, rfl⟩
              refine Obs.cons (j := 3) rfl ?_ ?_
              · refine Ob.free [(67, some 1)] (by kernel_rfl) (isV (.func (.func 87) #[] #[.pointer (some ⟨X, 0, none⟩)])) rfl rfl (fun a X hE hL => ?_)
                simp [Seen, slotAt, famV, isV] at hL
                have h67 := hL
                rw [relAt_eq]
                have f0 := keeps hE _ _ k2
                go_simp
                exact ⟨Onto.refl _, rfl⟩
              refine Obs.cons (j := 4) rfl ?_ ?_
              · refine Ob.free [(1, none)] (by kernel_rfl) (isV (.slice (some ⟨b2, off2, none⟩) m d)) rfl rfl (fun a X hE hL => ?_)
                simp [Seen, slotAt] at hL
                have h1 := hL
                rw [relAt_eq]
                go_simp
                exact ⟨Onto.refl _, rfl⟩
              refine Obs.cons (j := 5) rfl ?_ ?_
              · refine Ob.free [(69, some 3)] (by kernel_rfl) (isV (.pointer (some ⟨b2, off2, none⟩))) rfl rfl (fun a X hE hL => ?_)
                simp [Seen, slotAt, famV, isV] at hL
                have h69 := hL
                rw [relAt_eq]
                go_simp
                exact ⟨Onto.refl _, rfl⟩
              refine Obs.cons (j := 6) rfl ?_ ?_
              · refine Ob.free [(70, some 4)] (by kernel_rfl) (isV (.int .i64 yy)) rfl rfl (fun a X hE hL => ?_)
                simp [Seen, slotAt, famV, isV] at hL
                have h70 := hL
                rw [relAt_eq]
                have f0 := keeps hE _ _ cy
                go_simp
                exact ⟨Onto.refl _, rfl⟩
              exact trivial
            case qS =>
              intro x wA hE hV
              simp [AllV, famV, isV] at hV
              obtain ⟨h66, -, h68, -, -, h71⟩ := hV
              simp only [puts, Act.put, List.setIfInBounds_toArray, List.set_cons_zero, List.set_cons_succ, h66, h68, h71]
              generalize x 67 = y67
              generalize x 69 = y69
              generalize x 70 = y70
              clear h66 h68 h71
              have hbO := onto_drew hE
              have hbA : Below wr.heap.size wr wA := ⟨hbO.os, hbO.tape, hbO.output, hbO.size, fun k hk => hbO.block k hk⟩
              have HPT := Lib.hid (uto_any wA w0 B X v pre yy (HBX.out.below hbA) (HBW.out.trans (hbA.mono HBX.out.le)) hBX (by have := HLEN.out; omega))
              have HKA := Lib.hid ((hbA.block g hgl).trans HKG.out)
              have hgA : g < wA.heap.size := by have := hbA.size; omega
              clear hE hbA hbO
              refine wpAny_ready (rs := [6]) (by kernel_rfl) (by simp) ?_
              refine AllReady.cons rfl (fun K hK => ?_) AllReady.nil
              rw [if_pos (by rfl)]
              go_simp
              go_at_call 95
              refine HPT.out.mono ?_
              rintro e w5 ⟨rfl, v5, hx5, hb5, hk5⟩
              have HX5 := Lib.hid hx5
              have HB5 := Lib.hid hb5
              have HK5 := Lib.hid ((hk5 g hgA hgX HNE.out).trans HKA.out)
              clear hx5 hb5 hk5
              refine hK _ _ ?_
              clear hK K
              try simp only [Act.put, List.getElem_toArray, List.getElem_cons_succ, List.getElem_cons_zero, List.setIfInBounds_toArray, List.set_cons_zero, List.set_cons_succ]
              refine wpAny_done (by kernel_rfl) ?_ _
              by_cases hd1 : d = 1
              case pos =>
                obtain rfl : m = 1 := by omega
                subst hd1
                go_wp2
                go_roundw
                case rel => exact ⟨_, _, _, _, _, _, _, _, _, _, rfl, rfl, ⟨HRA.out, hnc, hcm⟩, ⟨crow_end HRB.out _, by omega, by omega⟩, HX5.out, HNX.out, HB5.out, HK5.out⟩
                case measure => first | (simp [lenS]; done) | (simp [lenS]; omega)
              case neg =>
                have z9 : (1 : Int) ≤ (m : Int) := by omega
                have z8 : (1 : Int) ≤ (d : Int) := by omega
                go_wp2
                go_roundw
                case rel => exact ⟨_, _, _, _, _, _, _, _, _, _, rfl, rfl, ⟨HRA.out, hnc, hcm⟩, ⟨crow_tail HRB.out, by omega, by omega⟩, HX5.out, HNX.out, HB5.out, HK5.out⟩
                case measure => first | (simp [lenS]; done) | (simp [lenS]; omega)
          case neg =>
            have s2 : decide (yy < xx) = false := decide_eq_false hyx
            have HNX : Hid ((pre ++ [xx]) ++ merL xs1 ys1 = R) := Lib.hid (by rw [← hpre]; simp only [merL]; rw [if_neg hxy, if_neg hyx]; simp)
            obtain ⟨b1, off1, x', rfl, hb1, hx', cx⟩ := (hra.below hbw').int (k := 0) (by omega)
            obtain rfl := Option.some.inj hx'
            rw [Nat.add_zero] at cx
            clear hx'
            obtain ⟨b2, off2, y', rfl, hb2, hy', cy⟩ := (hrb.below hbw').int (k := 0) (by omega)
            obtain rfl := Option.some.inj hy'
            rw [Nat.add_zero] at cy
            clear hy'
            have q5 : 0 < n := by omega
            have q1 : (0 : Int) < (n : Int) := by omega
            have q2 : ((n : Int) == 0) = false := by rw [beq_eq_false_iff_ne]; omega
            have q3 : decide ((0 : Int) < (n : Int)) = true := decide_eq_true q1
            have r5 : 0 < m := by omega
            have r1 : (0 : Int) < (m : Int) := by omega
            have r2 : ((m : Int) == 0) = false := by rw [beq_eq_false_iff_ne]; omega
            have r3 : decide ((0 : Int) < (m : Int)) = true := decide_eq_true r1
            clear hra hrb hbx hpre hbw hbw' hkg hla' hlb'
            go_wp2
            go_quiet (fail)
            go_wp2
            go_quiet (fail)
            go_wp2_with fail
            refine wp_region_fam_tail_lit (E := Onto) 6 1
              [isV (.func (.func 95) #[] #[]),
               isV (.pointer (some ⟨g, 1, none⟩)),
               isV (.func (.func 87) #[] #[.pointer (some ⟨X, 0, none⟩)]),
               isV (.slice (some ⟨b1, off1, none⟩) n c),
               isV (.pointer (some ⟨b1, off1, none⟩)),
               isV (.int .i64 xx)]
              [some 15, some 16, some 17, some 18, some 19, some 20] #[true, true, true, true, true, true, false] (by kernel_rfl) rfl (by kernel_rfl) (by kernel_rfl) rfl rfl rfl Onto.trans Onto.refl ?monoT ?obT ?qT
            case monoT => exact ⟨isV_mono _ _, isV_mono _ _, isV_mono _ _, isV_mono _ _, isV_mono _ _, isV_mono _ _, trivial⟩
            case obT =>
              refine Obs.cons (j := 1) rfl ?_ ?_
              · refine Ob.free [(6, none)] (by kernel_rfl) (isV (.func (.func 95) #[] #[])) rfl rfl (fun a X hE hL => ?_)
                simp [Seen, slotAt] at hL
                have h6 := hL
                rw [relAt_eq]
                go_simp
                exact ⟨Onto.refl _, rfl⟩
              refine Obs.cons (j := 2) rfl ?_ ?_
              · refine Ob.free [(5, none)] (by kernel_rfl) (isV (.pointer (some ⟨g, 1, none⟩))) rfl rfl (fun a X hE hL => ?_)
                simp [Seen, slotAt] at hL
                have h5 := hL
                rw [relAt_eq]
                go_simp
                exact ⟨Onto.refl _, rfl⟩
              refine Obs.cons (j := 3) rfl ?_ ?_
              · refine Ob.free [(16, some 1)] (by kernel_rfl) (isV (.func (.func 87) #[] #[.pointer (some ⟨X, 0, none⟩)])) rfl rfl (fun a X hE hL => ?_)
                simp [Seen, slotAt, famV, isV] at hL
                have h16 := hL
                rw [relAt_eq]
                have f0 := keeps hE _ _ k1
                go_simp
                exact ⟨Onto.refl _, rfl⟩
              refine Obs.cons (j := 4) rfl ?_ ?_
              · refine Ob.free [(0, none)] (by kernel_rfl) (isV (.slice (some ⟨b1, off1, none⟩) n c)) rfl rfl (fun a X hE hL => ?_)
                simp [Seen, slotAt] at hL
                have h0 := hL
                rw [relAt_eq]
                go_simp
                exact ⟨Onto.refl _, rfl⟩
              refine Obs.cons (j := 5) rfl ?_ ?_
              · refine Ob.free [(18, some 3)] (by kernel_rfl) (isV (.pointer (some ⟨b1, off1, none⟩))) rfl rfl (fun a X hE hL => ?_)
                simp [Seen, slotAt, famV, isV] at hL
                have h18 := hL
                rw [relAt_eq]
                go_simp
                exact ⟨Onto.refl _, rfl⟩
              refine Obs.cons (j := 6) rfl ?_ ?_
              · refine Ob.free [(19, some 4)] (by kernel_rfl) (isV (.int .i64 xx)) rfl rfl (fun a X hE hL => ?_)
                simp [Seen, slotAt, famV, isV] at hL
                have h19 := hL
                rw [relAt_eq]
                have f0 := keeps hE _ _ cx
                go_simp
                exact ⟨Onto.refl _, rfl⟩
              exact trivial
            case qT =>
              intro x wA hE hV
              simp [AllV, famV, isV] at hV
              obtain ⟨h15, -, h17, -, -, h20⟩ := hV
              simp only [puts, Act.put, List.setIfInBounds_toArray, List.set_cons_zero, List.set_cons_succ, h15, h17, h20]
              generalize x 16 = y16
              generalize x 18 = y18
              generalize x 19 = y19
              clear h15 h17 h20
              have hbO := onto_drew hE
              have hbA : Below wr.heap.size wr wA := ⟨hbO.os, hbO.tape, hbO.output, hbO.size, fun k hk => hbO.block k hk⟩
              have HPT := Lib.hid (uto_any wA w0 B X v pre xx (HBX.out.below hbA) (HBW.out.trans (hbA.mono HBX.out.le)) hBX (by have := HLEN.out; omega))
              have HKA := Lib.hid ((hbA.block g hgl).trans HKG.out)
              have hgA : g < wA.heap.size := by have := hbA.size; omega
              clear hE hbA hbO
              refine wpAny_ready (rs := [6]) (by kernel_rfl) (by simp) ?_
              refine AllReady.cons rfl (fun K hK => ?_) AllReady.nil
              rw [if_pos (by rfl)]
              go_simp
              go_at_call 95
              refine HPT.out.mono ?_
              rintro e w5 ⟨rfl, v5, hx5, hb5, hk5⟩
              have HX5 := Lib.hid hx5
              have HB5 := Lib.hid hb5
              have HK5 := Lib.hid ((hk5 g hgA hgX HNE.out).trans HKA.out)
              clear hx5 hb5 hk5
              refine hK _ _ ?_
              clear hK K
              try simp only [Act.put, List.getElem_toArray, List.getElem_cons_succ, List.getElem_cons_zero, List.setIfInBounds_toArray, List.set_cons_zero, List.set_cons_succ]
              refine wpAny_done (by kernel_rfl) ?_ _
              by_cases hc1 : c = 1
              case pos =>
                obtain rfl : n = 1 := by omega
                subst hc1
                by_cases hd1 : d = 1
                case pos =>
                  obtain rfl : m = 1 := by omega
                  subst hd1
                  go_wp2
                  go_quiet (fail)
                  go_wp2
                  have HB5 := Lib.hid (HB5.out.trans ((below_drewN w5 nq).mono (by have := HX5.out.le; omega)))
                  have HX5 := Lib.hid (HX5.out.below (below_drewN w5 nq))
                  go_roundw
                  case rel => exact ⟨_, _, _, _, _, _, _, _, _, _, rfl, rfl, ⟨crow_end HRA.out _, by omega, by omega⟩, ⟨crow_end HRB.out _, by omega, by omega⟩, HX5.out, HNX.out, HB5.out, HK5.out⟩
                  case measure => first | (simp [lenS]; done) | (simp [lenS]; omega)
                case neg =>
                  have z19 : (1 : Int) ≤ (m : Int) := by omega
                  have z18 : (1 : Int) ≤ (d : Int) := by omega
                  go_wp2
                  go_quiet (fail)
                  go_wp2
                  have HB5 := Lib.hid (HB5.out.trans ((below_drewN w5 nq).mono (by have := HX5.out.le; omega)))
                  have HX5 := Lib.hid (HX5.out.below (below_drewN w5 nq))
                  go_roundw
                  case rel => exact ⟨_, _, _, _, _, _, _, _, _, _, rfl, rfl, ⟨crow_end HRA.out _, by omega, by omega⟩, ⟨crow_tail HRB.out, by omega, by omega⟩, HX5.out, HNX.out, HB5.out, HK5.out⟩
                  case measure => first | (simp [lenS]; done) | (simp [lenS]; omega)
              case neg =>
                have z9 : (1 : Int) ≤ (n : Int) := by omega
                have z8 : (1 : Int) ≤ (c : Int) := by omega
                by_cases hd1 : d = 1
                case pos =>
                  obtain rfl : m = 1 := by omega
                  subst hd1
                  go_wp2
                  go_quiet (fail)
                  go_wp2
                  have HB5 := Lib.hid (HB5.out.trans ((below_drewN w5 nq).mono (by have := HX5.out.le; omega)))
                  have HX5 := Lib.hid (HX5.out.below (below_drewN w5 nq))
                  go_roundw
                  case rel => exact ⟨_, _, _, _, _, _, _, _, _, _, rfl, rfl, ⟨crow_tail HRA.out, by omega, by omega⟩, ⟨crow_end HRB.out _, by omega, by omega⟩, HX5.out, HNX.out, HB5.out, HK5.out⟩
                  case measure => first | (simp [lenS]; done) | (simp [lenS]; omega)
                case neg =>
                  have z19 : (1 : Int) ≤ (m : Int) := by omega
                  have z18 : (1 : Int) ≤ (d : Int) := by omega
                  go_wp2
                  go_quiet (fail)
                  go_wp2
                  have HB5 := Lib.hid (HB5.out.trans ((below_drewN w5 nq).mono (by have := HX5.out.le; omega)))
                  have HX5 := Lib.hid (HX5.out.below (below_drewN w5 nq))
                  go_roundw
                  case rel => exact ⟨_, _, _, _, _, _, _, _, _, _, rfl, rfl, ⟨crow_tail HRA.out, by omega, by omega⟩, ⟨crow_tail HRB.out, by omega, by omega⟩, HX5.out, HNX.out, HB5.out, HK5.out⟩
                  case measure => first | (simp [lenS]; done) | (simp [lenS]; omega)
set_option maxRecDepth 10000 in
set_option maxHeartbeats 2000000 in
theorem munion_any (w : World) (A : Option Addr) (n c : Nat) (xs : List Int) (Bb : Option Addr) (m d : Nat) (ys : List Int) (ha : CRow intC 1 w A n xs) (hb : CRow intC 1 w Bb m ys) (hc : n ≤ c ∧ c ≤ 9223372036854775807) (hd : m ≤ d ∧ d ≤ 9223372036854775807) (hlen : n + m ≤ 100000) :
    Calls Try.prog 68 #[.slice A n c, .slice Bb m d] w (Giv 3 1 intC w (merL xs ys)) := by
  obtain ⟨g, hg⟩ : ∃ g, w.heap.size = g := ⟨_, rfl⟩
  have HG := Lib.hid hg
  have hmf : ∀ (fn : Fn) (first cap : Array Value) (w : World), (Instr.makeFunc fn first cap).run Try.prog w = .ok (.func fn first cap) w := fun _ _ _ _ => rfl
  have hb0 : Below g w (w.alloc (.cells #[.slice none 0 0] 23)) := by rw [← hg]; exact (Below.refl _ _).alloc (Nat.le_refl _) _
  have hbx : BoxI g (w.alloc (.cells #[.slice none 0 0] 23)) g (.slice none 0 0) [] := ⟨by rw [← hg]; exact heap_alloc_new w _, World.ownsRow_nil _ _ _ _, by simp [hg]⟩
  have HME := Lib.hid (umerge_any (w.alloc (.cells #[.slice none 0 0] 23)) w g g _ A n c xs Bb m d ys hg (Nat.le_refl _) (by simp [hg]) hbx hb0 ha hb hc hd hlen)
  unfold keptC at HME
  clear ha hb hb0 hbx
  go_enter Try.func68, Try.ntmps68
  go_wp2_with fail
  refine HME.out.mono ?_
  rintro e w2 ⟨rfl, v, hx, hb2⟩
  have c0 : w2.cell? ⟨g, 0, none⟩ = some v := by rw [cell_of_row w2 g 0 _ _ _ hx.blk]; rfl
  obtain ⟨A2, c2, rfl, _, _⟩ := own_form hx.ow
  have HX := Lib.hid hx
  have HB2 := Lib.hid hb2
  clear hx hb2
  go_wp2
  go_ret
  exact ⟨A2, c2, rfl, by first | exact HX.out.ow | (rw [HG.out]; exact HX.out.ow), by first | exact HB2.out | (rw [HG.out]; exact HB2.out)⟩
end Go.Proofs.Ytmkgipoljbiocaa
/- Those of some spots whose set has a byte: the program's. -/
namespace Go.Proofs.Ytmkgipoljbiocaa
open Go.RowKit
set_option linter.unusedVariables false
set_option linter.unusedSimpArgs false

def havL (N : NetS) (xs : List Int) (b : Nat) : List Int := xs.filter fun z => hasS N z.toNat b
theorem havL_snoc (N : NetS) (xs : List Int) (z : Int) (b : Nat) : havL N (xs ++ [z]) b = havL N xs b ++ if hasS N z.toNat b = true then [z] else [] := by
  unfold havL
  rw [List.filter_append]
  by_cases h : hasS N z.toNat b = true <;> simp [List.filter_cons, h]
theorem havL_len (N : NetS) (xs : List Int) (b : Nat) : (havL N xs b).length ≤ xs.length := List.length_filter_le _ _
theorem shift_bit2 (S : Nat → Bool) (n : Nat) : (bits .and .u64 ((wd S (n / 64) : Int) / 2 ^ (n % 64)) 1 != 0) = S n := by
  have hk : n % 64 < 64 := by omega
  have e : ((wd S (n / 64) : Int) / 2 ^ (n % 64)) = ((wd S (n / 64) / 2 ^ (n % 64) : Nat) : Int) := by simp
  have hlt : wd S (n / 64) / 2 ^ (n % 64) < 2 ^ 64 := Nat.lt_of_le_of_lt (Nat.div_le_self _ _) (wd_lt _ _)
  rw [e]
  have e2 : bits .and .u64 ((wd S (n / 64) / 2 ^ (n % 64) : Nat) : Int) 1 = ((wd S (n / 64) / 2 ^ (n % 64) &&& 1 : Nat) : Int) := bits_and_u64 _ 1 hlt (by decide)
  rw [e2, Nat.and_one_is_mod]
  have : (((wd S (n / 64) / 2 ^ (n % 64) % 2 : Nat) : Int) != 0) = (wd S (n / 64) / 2 ^ (n % 64) % 2 == 1) := by
    rw [Bool.eq_iff_iff, bne_iff_ne, beq_iff_eq]; omega
  rw [this, shr_odd, wd_bit]
  simp [hk, show 64 * (n / 64) + n % 64 = n by omega]
set_option maxHeartbeats 2000000 in
theorem having_any (w : World) (v : Nv) (N : NetS) (a : Option Addr) (n c : Nat) (xs : List Int) (b : Nat) (hb : b < 256) (hv : NetAt w v N) (h : CRow intC 1 w a n xs) (hr : ∀ x ∈ xs, 0 ≤ x ∧ x < (N.sets.length : Int)) (hn : n ≤ 100000) :
    Calls Try.prog 55 #[.agg (netA v), .slice a n c, .int .u8 (b : Int)] w (Giv 3 1 intC w (havL N xs b)) := by
  have HV := Lib.hid hv
  have HH := Lib.hid h
  have HL := Lib.hid h.1
  have HRG := Lib.hid hr
  obtain ⟨g, hg⟩ : ∃ g, w.heap.size = g := ⟨_, rfl⟩
  have HG := Lib.hid hg
  obtain ⟨W1, hW1⟩ : ∃ W, W = w.alloc (.cells (netA v) 27) := ⟨_, rfl⟩
  have hb1 : Below g w W1 := by rw [hW1, ← hg]; exact (Below.refl _ _).alloc (Nat.le_refl _) _
  have hs1 : W1.heap.size = g + 1 := by rw [hW1]; simp [hg]
  have hx1 : W1.heap[g]? = some (.cells (netA v) 27 (0, 0)) := by rw [hW1, ← hg]; exact heap_alloc_new w _
  have HW1 := Lib.hid hW1
  have HB1 := Lib.hid hb1
  have HS1 := Lib.hid hs1
  have HX1 := Lib.hid hx1
  clear hv h hr hb1 hs1 hx1
  have hb64 : b / 64 < 4 := by omega
  go_enter Try.func55, Try.ntmps55
  go_wp2
  rw [← hW1]
  clear hW1
  go_loopw [7, 12] (fun lv i wr => ∃ k : Nat, k ≤ n ∧ i = .int .i64 (k : Int) ∧ wr.ownsRow (g + 1) 3 1 lv (havL N (xs.take k) b).length ((havL N (xs.take k) b).flatMap intC) ∧ Below (g + 1) W1 wr) (fun _ i _ => n - (intOf i).toNat)
  case atStart => exact ⟨0, by omega, rfl, World.ownsRow_nil _ _ _ _, Below.refl _ _⟩
  case round =>
    obtain ⟨k, hk, rfl, hown, hbw⟩ := hrel
    have HOW := Lib.hid hown
    have HBW := Lib.hid hbw
    have HBG : Hid (Below g w wr) := Lib.hid (HB1.out.trans (hbw.mono (by omega)))
    have hxr : wr.heap[g]? = some (.cells (netA v) 27 (0, 0)) := (hbw.block g (by omega)).trans HX1.out
    have hgr : g + 1 ≤ wr.heap.size := by have := hbw.size; have := HS1.out; omega
    obtain ⟨A, cc, rfl, hc1, hc2⟩ := own_form hown
    by_cases hlt : k < n
    case neg =>
      have hkn : xs.take k = xs := List.take_of_length_le (by rw [HL.out]; omega)
      have HF := Lib.hid hkn
      have z1 : ¬ (k : Int) < (n : Int) := by omega
      clear hown hbw hkn hxr
      go_wp2
      go_ret
      have h9 := HOW.out
      rw [HF.out] at h9 ⊢
      exact ⟨A, cc, rfl, by first | exact own_mono h9 (by omega) | (rw [HG.out]; exact own_mono h9 (by omega)), by first | exact HBG.out | (rw [HG.out]; exact HBG.out)⟩
    case pos =>
      have hbw' := HBG.out
      have hbw2 : Below w.heap.size w wr := by rw [HG.out]; exact hbw'
      obtain ⟨b1, off1, z, rfl, hb1', hz, c0⟩ := (HH.out.below hbw2).int hlt
      obtain ⟨hz0, hz1⟩ := HRG.out z (List.mem_of_getElem? hz)
      obtain ⟨j, rfl⟩ : ∃ j : Nat, z = (j : Int) := ⟨z.toNat, by omega⟩
      have hvr := HV.out.below hbw2
      have hsl := hvr.s.1
      obtain ⟨bs, offs, S, hse, hbs, hS, s0, s1, s2, s3⟩ := hvr.s.at_ (k := j) (by omega)
      obtain ⟨n0, n1, n2, n3, n4⟩ := netC (W := wr) (g := g) (v := v) hxr
      rw [hse] at n0
      have hsw : wr.cell? ⟨bs, offs + j * 4 + b / 64, none⟩ = some (.int .u64 (wd S (b / 64))) := by
        have : b / 64 = 0 ∨ b / 64 = 1 ∨ b / 64 = 2 ∨ b / 64 = 3 := by omega
        rcases this with h | h | h | h <;> rw [h] <;> assumption
      have hwl := wd_lt S (b / 64)
      have y0 : (0 : Int) ≤ (k : Int) := by omega
      have y1 : (k : Int) < (n : Int) := by omega
      have y2 : (0 : Int) ≤ (j : Int) := by omega
      have y3 : (j : Int) < (v.sn : Int) := by omega
      have HS : Hid (hasS N (j : Int).toNat b = S b) := Lib.hid (by unfold hasS; rw [Int.toNat_natCast, hS])
      have HZ := Lib.hid hz
      clear hown hbw hbw' hbw2 hxr hvr hS hz s0 s1 s2 s3 hse
      have htk : (xs.take (k + 1)) = xs.take k ++ [(j : Int)] := take_snoc HZ.out
      have hlen : (havL N (xs.take k) b).length ≤ k := Nat.le_trans (havL_len _ _ _) (by rw [List.length_take]; omega)
      obtain ⟨hl, hhl⟩ : ∃ x, (havL N (xs.take k) b).length = x := ⟨_, rfl⟩
      have HHL := Lib.hid hhl
      have hsb := shift_bit2 S b
      obtain ⟨sb, hsbE⟩ : ∃ x, S b = x := ⟨_, rfl⟩
      rw [hsbE] at hsb
      have HNX : Hid (havL N (xs.take (k + 1)) b = havL N (xs.take k) b ++ if sb = true then [(j : Int)] else []) := Lib.hid (by rw [htk, havL_snoc, HS.out, hsbE])
      rw [hhl] at HOW hlen ⊢
      clear htk hhl hsbE HS
      cases sb with
      | false =>
        go_wp2
        go_roundw
        case rel => exact ⟨k + 1, by omega, by go_num, by rw [HNX.out, if_neg (by decide), List.append_nil, HHL.out]; exact HOW.out, HBW.out⟩
        case measure => simp [intOf]; omega
      | true =>
        have HAP := Lib.hid (app_int HOW.out (j : Int) (by omega) hgr wr.heap.size rfl)
        go_wp2_with (at_builtin; refine HAP.out _ _ _ _ _ rfl _ _ rfl rfl rfl ?_; intro gg cap w5 hownB hgrow hat; have HOB := Lib.hid hownB; have HB5 := Lib.hid (below_grown (HBW.out.alloc hgr (.cells #[.int .i64 (j : Int)] 3)) (by simp; omega) hgrow (fun q hq => (own_ge HOW.out hq).1)); clear hownB hgrow hat)
        go_roundw
        case rel => exact ⟨k + 1, by omega, by go_num, by rw [HNX.out, if_pos rfl, List.length_append, HHL.out]; exact HOB.out, HB5.out⟩
        case measure => simp [intOf]; omega
end Go.Proofs.Ytmkgipoljbiocaa
/- Lists rising and below a number: the program's spots. -/
namespace Go.Proofs.Ytmkgipoljbiocaa
open Go.RowKit
set_option linter.unusedVariables false
set_option linter.unusedSimpArgs false

def okL (m : Nat) (l : List Int) : Bool := risB l && (match l[0]?, l[l.length - 1]? with | some x, some y => decide (0 ≤ x) && decide (y < (m : Int)) | _, _ => true)
theorem ris_le {l : List Int} (h : risB l = true) : ∀ (d i : Nat) (x y : Int), l[i]? = some x → l[i + d]? = some y → x ≤ y := by
  have hu := (risB_iff l).1 h
  intro d
  induction d with
  | zero => intro i x y hx hy; rw [Nat.add_zero, hx] at hy; obtain rfl := Option.some.inj hy; omega
  | succ d ih =>
    intro i x y hx hy
    have hl : i + (d + 1) < l.length := (List.getElem?_eq_some_iff.1 hy).1
    have hz : l[i + d]? = some l[i + d] := List.getElem?_eq_getElem (by omega)
    have h1 := ih i x _ hx hz
    have h2 := hu (i + d) _ y (by omega) hz hy
    omega
theorem okL_eq (m : Nat) (l : List Int) : okL m l = ((l.all fun z => decide (0 ≤ z) && decide (z < (m : Int))) && risB l) := by
  unfold okL
  cases hr : risB l with
  | false => simp
  | true =>
    rw [Bool.true_and, Bool.and_true]
    cases l with
    | nil => rfl
    | cons x t =>
      have hy : (x :: t)[(x :: t).length - 1]? = some (x :: t)[(x :: t).length - 1] := List.getElem?_eq_getElem (by simp)
      rw [hy]
      generalize hyv : (x :: t)[(x :: t).length - 1] = y at hy
      simp only [List.getElem?_cons_zero]
      rw [Bool.eq_iff_iff, List.all_eq_true]
      simp only [Bool.and_eq_true, decide_eq_true_eq]
      constructor
      · rintro ⟨h1, h2⟩ z hz
        obtain ⟨i, hi⟩ := List.getElem?_of_mem hz
        have hil : i < (x :: t).length := (List.getElem?_eq_some_iff.1 hi).1
        have a1 := ris_le hr i 0 x z rfl (by rw [Nat.zero_add]; exact hi)
        have a2 := ris_le hr ((x :: t).length - 1 - i) i z y hi (by rw [show i + ((x :: t).length - 1 - i) = (x :: t).length - 1 by omega]; exact hy)
        exact ⟨by omega, by omega⟩
      · intro h
        exact ⟨(h x (.head _)).1, (h y (List.mem_of_getElem? hy)).2⟩
theorem okL_spots (N : NetS) (l : List Int) : okL N.sets.length l = spotsB N l := okL_eq _ _
theorem all_takeL {l : List (List Int)} {p : List Int → Bool} {k : Nat} {z : List Int} (h : l[k]? = some z) : (l.take (k + 1)).all p = ((l.take k).all p && p z) := by
  rw [take_snoc h, List.all_append]; simp
theorem all_outL {l : List (List Int)} {p : List Int → Bool} {k : Nat} {z : List Int} (h : l[k]? = some z) (hp : p z = false) : l.all p = false := by
  rw [Bool.eq_false_iff]
  intro h2
  have := List.all_eq_true.1 h2 z (List.mem_of_getElem? h)
  rw [hp] at this; cases this
set_option maxHeartbeats 2000000 in
theorem fspots_any (w : World) (m : Nat) (a : Option Addr) (n c : Nat) (ls : List (List Int)) (h : NRow intC 1 w a n ls) :
    Calls Try.prog 53 #[.int .i64 (m : Int), .slice a n c] w fun e w' => e = .returned (.bool (ls.all (okL m))) ∧ ∃ q, w' = w.drewN q := by
  have HL := Lib.hid h.len.1
  have hnm := h.len.2
  have HH := Lib.hid h
  obtain ⟨r, hr⟩ : ∃ r, ls.all (okL m) = r := ⟨_, rfl⟩
  have HR := Lib.hid hr
  rw [hr]
  clear h hr
  go_enter Try.func53, Try.ntmps53
  go_wp2
  go_loopw [9] (fun i wr => ∃ k q : Nat, k ≤ n ∧ i = .int .i64 (k : Int) ∧ (ls.take k).all (okL m) = true ∧ wr = w.drewN q) (fun i _ => n - (intOf i).toNat)
  case atStart => exact ⟨0, 0, by omega, rfl, rfl, rfl⟩
  case round =>
    obtain ⟨k, q, hk, rfl, hall, hwr⟩ := hrel
    have HALL := Lib.hid hall
    have HW := Lib.hid hwr
    clear hall
    by_cases hlt : k < n
    case neg =>
      have HE : Hid (r = true) := Lib.hid (by rw [← HR.out, ← List.take_of_length_le (l := ls) (i := k) (by rw [HL.out]; omega)]; exact HALL.out)
      have z1 : ¬ (k : Int) < (n : Int) := by omega
      clear hwr
      go_wp2
      go_ret
      exact ⟨ret_bool HE.out.symm, q, HW.out⟩
    case pos =>
      have hnr := HH.out.below (below_drewN w q)
      rw [← hwr] at hnr
      obtain ⟨b1, off1, l, rfl, hb1, hl, A, cc, hc, hrow⟩ := hnr.at_ hlt
      have y0 : (0 : Int) ≤ (k : Int) := by omega
      have y1 : (k : Int) < (n : Int) := by omega
      have HLK := Lib.hid hl
      have HMR := Lib.hid (mright_any wr A l.length cc l hrow)
      obtain ⟨rb, hrb⟩ : ∃ x, risB l = x := ⟨_, rfl⟩
      have HRB := Lib.hid hrb
      rw [hrb] at HMR
      have HROW := Lib.hid hrow
      have hlm := hrow.2.1
      obtain ⟨ll, hll⟩ : ∃ x, l.length = x := ⟨_, rfl⟩
      have HLL := Lib.hid hll
      rw [hll] at hc HMR hlm
      clear hnr hl hrb hrow hwr hll
      go_wp2_with fail
      refine HMR.out.mono ?_
      rintro e w2 ⟨rfl, q2, hw2⟩
      have HW2 : Hid (w2 = w.drewN (q + q2)) := Lib.hid (by rw [hw2, HW.out]; simp [World.drewN, Nat.add_assoc])
      cases rb with
      | false =>
        have HE : Hid (r = false) := Lib.hid (by rw [← HR.out]; exact all_outL HLK.out (by unfold okL; rw [HRB.out]; rfl))
        clear hw2
        go_wp2
        go_ret
        exact ⟨ret_bool HE.out.symm, _, HW2.out⟩
      | true =>
        by_cases hl0 : ll = 0
        case pos =>
          have hnil : l = [] := List.length_eq_zero_iff.1 (by rw [HLL.out]; exact hl0)
          have HN : Hid ((ls.take (k + 1)).all (okL m) = true) := Lib.hid (by rw [all_takeL HLK.out, HALL.out, hnil]; rfl)
          have z2 : ¬ (0 : Int) < (ll : Int) := by omega
          clear hnil hw2
          go_wp2
          go_roundw
          case rel => exact ⟨k + 1, _, by omega, by go_num, HN.out, HW2.out⟩
          case measure => simp [intOf]; omega
        case neg =>
          have hr2 : CRow intC 1 w2 A ll l := by rw [hw2]; have := HROW.out.below (below_drewN wr q2); rw [HLL.out] at this; exact this
          obtain ⟨b2, off2, x, rfl, hb2, hx, cx⟩ := hr2.int (k := 0) (by omega)
          obtain ⟨b3, off3, y, hbe, hb3, hy, cy⟩ := hr2.int (k := ll - 1) (by omega)
          simp only [Option.some.injEq, Addr.mk.injEq, and_true] at hbe
          obtain ⟨rfl, rfl⟩ := hbe
          rw [Nat.add_zero] at cx
          obtain ⟨l1, rfl⟩ : ∃ l1, ll = l1 + 1 := ⟨ll - 1, by omega⟩
          rw [Nat.add_sub_cancel] at cy hy
          have HOK : Hid (okL m l = (decide (0 ≤ x) && decide (y < (m : Int)))) := Lib.hid (by unfold okL; rw [HRB.out, HLL.out, Nat.add_sub_cancel, hx, hy]; rfl)
          have z2 : (0 : Int) < ((l1 + 1 : Nat) : Int) := by omega
          have z3 : ((l1 + 1 : Nat) : Int) - 1 = (l1 : Int) := by omega
          have z3' : ((l1 : Int) + 1) - 1 = (l1 : Int) := by omega
          have z4 : (l1 : Int) < ((l1 + 1 : Nat) : Int) := by omega
          have z5 : (0 : Int) ≤ (l1 : Int) := by omega
          clear hr2 hx hy hw2
          by_cases hx0 : x < 0
          case pos =>
            have HE : Hid (r = false) := Lib.hid (by rw [← HR.out]; exact all_outL HLK.out (by rw [HOK.out, decide_eq_false (by omega)]; rfl))
            go_wp2
            go_ret
            exact ⟨ret_bool HE.out.symm, _, HW2.out⟩
          case neg =>
            by_cases hym : (m : Int) ≤ y
            case pos =>
              have HE : Hid (r = false) := Lib.hid (by rw [← HR.out]; exact all_outL HLK.out (by rw [HOK.out, decide_eq_false (by omega : ¬ y < (m : Int))]; simp))
              go_wp2
              go_ret
              exact ⟨ret_bool HE.out.symm, _, HW2.out⟩
            case neg =>
              have HN : Hid ((ls.take (k + 1)).all (okL m) = true) := Lib.hid (by rw [all_takeL HLK.out, HALL.out, HOK.out, decide_eq_true (by omega), decide_eq_true (by omega)]; rfl)
              go_wp2
              go_roundw
              case rel => exact ⟨k + 1, _, by omega, by go_num, HN.out, HW2.out⟩
              case measure => simp [intOf]; omega
end Go.Proofs.Ytmkgipoljbiocaa
/- Is it a net: the program's Right; Start. -/
namespace Go.Proofs.Ytmkgipoljbiocaa
open Go.RowKit
set_option linter.unusedVariables false
set_option linter.unusedSimpArgs false

theorem nrow_lit (w : World) (g : Nat) (hg : w.heap.size = g) {a : Option Addr} {n c : Nat} {xs : List Int} (h : CRow intC 1 w a n xs) : NRow intC 1 (w.alloc (.cells #[.slice a n c] 23)) (some ⟨g, 0, none⟩) 1 [xs] := by
  subst hg
  refine ⟨[⟨a, n, c, xs⟩], ⟨rfl, by decide, fun _ => ⟨_, 0, rfl, by simp, fun i o hi j u hu => ?_⟩⟩, fun o ho => ?_, rfl⟩
  · have h1 := flat_get (C := seC (α := Int)) seC_len [⟨a, n, c, xs⟩] i o hi j u hu
    rw [World.cell?_alloc_new]
    simpa [seC] using h1
  · rw [List.mem_singleton] at ho
    subst ho
    exact h.below ((Below.refl _ _).alloc (Nat.le_refl _) _)
theorem netR_no {N : NetS} (h : N.of.length ≠ N.sets.length ∨ N.last.length ≠ N.sets.length ∨ N.fol.length ≠ N.sets.length) : netR N = false := by
  unfold netR
  rcases h with h | h | h <;> simp [h]
theorem netR_neg {N : NetS} (hl : N.of.length = N.sets.length) {k : Nat} {z : Int} (hz : N.of[k]? = some z) (h : z < 0) : netR N = false := by
  have hk : k < N.sets.length := by have := (List.getElem?_eq_some_iff.1 hz).1; omega
  rw [Bool.eq_false_iff]
  intro h2
  unfold netR at h2
  simp only [Bool.and_eq_true, List.all_eq_true, List.mem_range] at h2
  have := h2.2.2 k hk
  unfold rowOk nonneg at this
  rw [hz] at this
  simp at this
  omega
theorem netR_yes {N : NetS} (h1 : N.of.length = N.sets.length) (h2 : N.last.length = N.sets.length) (h3 : N.fol.length = N.sets.length) (h : ∀ (j : Nat) z, N.of[j]? = some z → 0 ≤ z) :
    netR N = ([N.first].all (okL N.sets.length) && N.fol.all (okL N.sets.length)) := by
  unfold netR
  rw [h1, h2, h3]
  simp only [decide_true, Bool.true_and, List.all_cons, List.all_nil, Bool.and_true, okL_spots]
  congr 1
  rw [Bool.eq_iff_iff, List.all_eq_true, List.all_eq_true]
  simp only [List.mem_range]
  constructor
  · intro hh l hl
    obtain ⟨i, hi⟩ := List.getElem?_of_mem hl
    have := hh i (by have := (List.getElem?_eq_some_iff.1 hi).1; omega)
    unfold rowOk spotsO at this
    rw [hi] at this
    simp only [Bool.and_eq_true] at this
    rw [okL_spots]; exact this.2
  · intro hh i hi
    unfold rowOk nonneg spotsO
    rw [List.getElem?_eq_getElem (by omega : i < N.of.length), List.getElem?_eq_getElem (by omega : i < N.fol.length)]
    simp only [Bool.and_eq_true, decide_eq_true_eq]
    refine ⟨h i _ (List.getElem?_eq_getElem (by omega)), ?_⟩
    have := hh _ (List.getElem_mem (by omega : i < N.fol.length))
    rwa [okL_spots] at this
set_option maxRecDepth 100000 in
set_option maxHeartbeats 2000000 in
theorem fnet_any (w : World) (v : Nv) (N : NetS) (hv : NetAt w v N) :
    Calls Try.prog 25 #[.agg (netA v)] w fun e w' => e = .returned (.bool (netR N)) ∧ Below w.heap.size w w' := by
  have HV := Lib.hid hv
  have HS := Lib.hid hv.s.1
  have HO := Lib.hid hv.o.1
  have HL := Lib.hid hv.l.1
  have HF := Lib.hid hv.f.len.1
  have hsm := hv.s.2.1
  have hom := hv.o.2.1
  have hlm := hv.l.2.1
  have hfm := hv.f.len.2
  obtain ⟨r, hr⟩ : ∃ r, netR N = r := ⟨_, rfl⟩
  have HR := Lib.hid hr
  rw [hr]
  obtain ⟨g, hg⟩ : ∃ g, w.heap.size = g := ⟨_, rfl⟩
  have HG := Lib.hid hg
  obtain ⟨W1, hW1⟩ : ∃ W, W = w.alloc (.cells (netA v) 27) := ⟨_, rfl⟩
  have hb1 : Below g w W1 := by rw [hW1, ← hg]; exact (Below.refl _ _).alloc (Nat.le_refl _) _
  have hs1 : W1.heap.size = g + 1 := by rw [hW1]; simp [hg]
  have hx1 : W1.heap[g]? = some (.cells (netA v) 27 (0, 0)) := by rw [hW1, ← hg]; exact heap_alloc_new w _
  have HW1 := Lib.hid hW1
  have HB1 := Lib.hid hb1
  have HS1 := Lib.hid hs1
  have HX1 := Lib.hid hx1
  obtain ⟨n0, n1, n2, n3, n4⟩ := netC (W := W1) (g := g) (v := v) hx1
  rw [hW1] at n0 n1 n2 n3 n4
  clear hv hr hb1 hs1 hx1
  go_enter Try.func25, Try.ntmps25
  by_cases ho : v.on = v.sn
  case neg =>
    have HE : Hid (r = false) := Lib.hid (by rw [← HR.out]; exact netR_no (.inl (by rw [HO.out, HS.out]; exact ho)))
    have z1 : ((v.on : Int) != (v.sn : Int)) = true := by rw [bne_iff_ne]; omega
    go_wp2
    go_ret
    exact ⟨ret_bool HE.out.symm, by rw [← hW1]; first | exact HB1.out | (rw [HG.out]; exact HB1.out)⟩
  case pos =>
    have z1 : ((v.on : Int) != (v.sn : Int)) = false := by rw [bne_eq_false_iff_eq]; omega
    by_cases hl : v.ln = v.sn
    case neg =>
      have HE : Hid (r = false) := Lib.hid (by rw [← HR.out]; exact netR_no (.inr (.inl (by rw [HL.out, HS.out]; exact hl))))
      have z2 : ((v.ln : Int) != (v.sn : Int)) = true := by rw [bne_iff_ne]; omega
      go_wp2
      go_ret
      exact ⟨ret_bool HE.out.symm, by rw [← hW1]; first | exact HB1.out | (rw [HG.out]; exact HB1.out)⟩
    case pos =>
      have z2 : ((v.ln : Int) != (v.sn : Int)) = false := by rw [bne_eq_false_iff_eq]; omega
      by_cases hf : v.fn = v.sn
      case neg =>
        have HE : Hid (r = false) := Lib.hid (by rw [← HR.out]; exact netR_no (.inr (.inr (by rw [HF.out, HS.out]; exact hf))))
        have z3 : ((v.fn : Int) != (v.sn : Int)) = true := by rw [bne_iff_ne]; omega
        go_wp2
        go_ret
        exact ⟨ret_bool HE.out.symm, by rw [← hW1]; first | exact HB1.out | (rw [HG.out]; exact HB1.out)⟩
      case pos =>
        have z3 : ((v.fn : Int) != (v.sn : Int)) = false := by rw [bne_eq_false_iff_eq]; omega
        have HLN : Hid (N.of.length = N.sets.length ∧ N.last.length = N.sets.length ∧ N.fol.length = N.sets.length) := Lib.hid (by rw [HO.out, HL.out, HF.out, HS.out]; exact ⟨ho, hl, hf⟩)
        go_wp2
        rw [← hW1]
        rw [← hW1] at n0 n1 n2 n3 n4
        clear hW1
        go_loopw [31] (fun i wr => ∃ k : Nat, k ≤ v.on ∧ i = .int .i64 (k : Int) ∧ wr = W1 ∧ ∀ (j : Nat) z, j < k → N.of[j]? = some z → 0 ≤ z) (fun i _ => v.on - (intOf i).toNat)
        case atStart => exact ⟨0, by omega, rfl, rfl, fun j z h => by omega⟩
        case round =>
          obtain ⟨k, hk, rfl, hwr, hall⟩ := hrel
          have HALL := Lib.hid hall
          subst hwr
          clear hall
          by_cases hlt : k < v.on
          case pos =>
            obtain ⟨b1, off1, z, ha, hb1, hz, c0⟩ := (HV.out.o.below (by rw [HG.out]; exact HB1.out)).int hlt
            rw [ha] at n1
            have y0 : (0 : Int) ≤ (k : Int) := by omega
            have y1 : (k : Int) < (v.on : Int) := by omega
            have HZ := Lib.hid hz
            obtain ⟨oa, hoa⟩ : ∃ x, v.oa = x := ⟨_, rfl⟩
            rw [hoa] at ha ⊢
            subst ha
            clear hz hoa
            by_cases hz0 : z < 0
            case pos =>
              have HE : Hid (r = false) := Lib.hid (by rw [← HR.out]; exact netR_neg HLN.out.1 HZ.out hz0)
              go_wp2
              go_ret
              exact ⟨ret_bool HE.out.symm, by first | exact HB1.out | (rw [HG.out]; exact HB1.out)⟩
            case neg =>
              have HN : Hid (∀ (j : Nat) z, j < k + 1 → N.of[j]? = some z → 0 ≤ z) := Lib.hid fun j z' hj hz' => by
                by_cases e : j = k
                · subst e; rw [HZ.out] at hz'; obtain rfl := Option.some.inj hz'; omega
                · exact HALL.out j z' (by omega) hz'
              go_wp2
              go_roundw
              case rel => exact ⟨k + 1, by omega, by go_num, by first | rfl | trivial, HN.out⟩
              case measure => simp [intOf]; omega
          case neg =>
            have HNR : Hid (r = ([N.first].all (okL v.sn) && N.fol.all (okL v.sn))) := Lib.hid (by
              rw [← HR.out, netR_yes HLN.out.1 HLN.out.2.1 HLN.out.2.2 (fun j z hz => HALL.out j z (by have h9 := (List.getElem?_eq_some_iff.1 hz).1; have := HO.out; omega) hz), HS.out])
            have z9 : ¬ (k : Int) < (v.on : Int) := by omega
            have hv1 := HV.out.below (w' := wr) (by rw [HG.out]; exact HB1.out)
            obtain ⟨h, hh⟩ : ∃ h, wr.heap.size = h := ⟨_, rfl⟩
            have HA := Lib.hid (fspots_any _ v.sn _ 1 1 [N.first] (nrow_lit (c := v.rc) wr h hh hv1.r))
            have HAB : Hid (Below wr.heap.size wr (wr.alloc (.cells #[.slice v.ra v.rn v.rc] 23))) := Lib.hid ((Below.refl _ _).alloc (Nat.le_refl _) _)
            have HV1 := Lib.hid hv1
            obtain ⟨q1, hq1⟩ : ∃ x, [N.first].all (okL v.sn) = x := ⟨_, rfl⟩
            obtain ⟨q2, hq2⟩ : ∃ x, N.fol.all (okL v.sn) = x := ⟨_, rfl⟩
            rw [hq1, hq2] at HNR
            rw [hq1] at HA
            have HQ2 := Lib.hid hq2
            clear hv1 hq1 hq2
            go_wp2_with fail
            refine HA.out.mono ?_
            rintro e w2 ⟨rfl, dq, hw2⟩
            have hb2 : Below wr.heap.size wr w2 := by rw [hw2]; exact HAB.out.trans ((below_drewN _ dq).mono (by simp))
            have HB2 : Hid (Below g w w2) := Lib.hid (HB1.out.trans (hb2.mono (by have := HS1.out; omega)))
            cases q1 with
            | false =>
              have HE : Hid (r = false) := Lib.hid (by rw [HNR.out]; rfl)
              clear hw2 hb2
              go_wp2
              go_ret
              exact ⟨ret_bool HE.out.symm, by first | exact HB2.out | (rw [HG.out]; exact HB2.out)⟩
            | true =>
              have HF2 := Lib.hid (fspots_any w2 v.sn v.fa v.fn v.fc N.fol (HV1.out.f.below hb2))
              rw [HQ2.out, hf] at HF2
              obtain ⟨m0, m1, m2, m3, m4⟩ := netC (W := w2) (g := g) (v := v) ((hb2.block g (by have := HS1.out; omega)).trans HX1.out)
              clear hw2 hb2 n0 n1 n2 n3 n4
              go_wp2_with fail
              refine HF2.out.mono ?_
              rintro e w3 ⟨rfl, dq3, hw3⟩
              have HB3 : Hid (Below g w w3) := Lib.hid (by rw [hw3]; exact HB2.out.trans ((below_drewN w2 dq3).mono (by have := HB2.out.size; rw [HG.out] at this; exact this)))
              have HE : Hid (r = q2) := Lib.hid (by rw [HNR.out, Bool.true_and])
              clear hw3
              go_wp2
              go_ret
              exact ⟨ret_bool HE.out.symm, by first | exact HB3.out | (rw [HG.out]; exact HB3.out)⟩
end Go.Proofs.Ytmkgipoljbiocaa
/- Where spots lead: the program's Start, on, Step. -/
namespace Go.Proofs.Ytmkgipoljbiocaa
open Go.RowKit
set_option linter.unusedVariables false
set_option linter.unusedSimpArgs false

/-! ## Rising lists. -/
theorem ris_pw : ∀ l : List Int, risB l = true ↔ l.Pairwise (· < ·)
  | [] => by simp [risB]
  | [x] => by simp [risB]
  | x :: y :: l => by
    have ih := ris_pw (y :: l)
    unfold risB
    rw [Bool.and_eq_true, decide_eq_true_eq, ih, List.pairwise_cons (a := x)]
    constructor
    · rintro ⟨h1, h2⟩
      refine ⟨fun z hz => ?_, h2⟩
      rcases List.mem_cons.1 hz with rfl | hz
      · exact h1
      · have := (List.pairwise_cons.1 h2).1 z hz; omega
    · rintro ⟨h1, h2⟩
      exact ⟨h1 y (.head _), h2⟩
theorem pw_ext : ∀ {l m : List Int}, l.Pairwise (· < ·) → m.Pairwise (· < ·) → (∀ z, z ∈ l ↔ z ∈ m) → l = m
  | [], [], _, _, _ => rfl
  | [], y :: m, _, _, h => by have := (h y).2 (.head _); simp at this
  | x :: l, [], _, _, h => by have := (h x).1 (.head _); simp at this
  | x :: l, y :: m, hl, hm, h => by
    obtain ⟨l1, l2⟩ := List.pairwise_cons.1 hl
    obtain ⟨m1, m2⟩ := List.pairwise_cons.1 hm
    have hx := (h x).1 (.head _)
    have hy := (h y).2 (.head _)
    have e : x = y := by
      rcases List.mem_cons.1 hx with e | hx'
      · exact e
      · rcases List.mem_cons.1 hy with e | hy'
        · exact e.symm
        · have := m1 x hx'; have := l1 y hy'; omega
    subst e
    rw [pw_ext l2 m2 fun z => ?_]
    constructor
    · intro hz
      rcases List.mem_cons.1 ((h z).1 (.tail _ hz)) with e | hz'
      · subst e; exact absurd (l1 z hz) (by omega)
      · exact hz'
    · intro hz
      rcases List.mem_cons.1 ((h z).2 (.tail _ hz)) with e | hz'
      · subst e; exact absurd (m1 z hz) (by omega)
      · exact hz'
theorem pw_merL : ∀ (xs ys : List Int), xs.Pairwise (· < ·) → ys.Pairwise (· < ·) → (merL xs ys).Pairwise (· < ·)
  | [], ys, _, h => by simpa [merL] using h
  | x :: xs, [], h, _ => by simpa [merL] using h
  | x :: xs, y :: ys, hx, hy => by
    obtain ⟨x1, x2⟩ := List.pairwise_cons.1 hx
    obtain ⟨y1, y2⟩ := List.pairwise_cons.1 hy
    simp only [merL]
    split
    · rename_i h
      refine List.pairwise_cons.2 ⟨fun z hz => ?_, pw_merL xs (y :: ys) x2 hy⟩
      rcases (mem_merL xs (y :: ys)).1 hz with hz | hz
      · exact x1 z hz
      · rcases List.mem_cons.1 hz with rfl | hz
        · exact h
        · have := y1 z hz; omega
    · split
      · rename_i h
        refine List.pairwise_cons.2 ⟨fun z hz => ?_, pw_merL (x :: xs) ys hx y2⟩
        rcases (mem_merL (x :: xs) ys).1 hz with hz | hz
        · rcases List.mem_cons.1 hz with rfl | hz
          · exact h
          · have := x1 z hz; omega
        · exact y1 z hz
      · refine List.pairwise_cons.2 ⟨fun z hz => ?_, pw_merL xs ys x2 y2⟩
        rcases (mem_merL xs ys).1 hz with hz | hz
        · exact x1 z hz
        · have := y1 z hz; omega
termination_by xs ys => xs.length + ys.length
theorem pw_len : ∀ {l : List Int} {a m : Int}, l.Pairwise (· < ·) → (∀ z ∈ l, a ≤ z ∧ z < m) → (l.length : Int) ≤ max 0 (m - a)
  | [], a, m, _, _ => by simp; omega
  | x :: l, a, m, hp, hr => by
    obtain ⟨h1, h2⟩ := List.pairwise_cons.1 hp
    have hx := hr x (.head _)
    have := pw_len (a := a + 1) (m := m) h2 (fun z hz => by have := h1 z hz; have := hr z (.tail _ hz); omega)
    simp only [List.length_cons]
    omega
theorem pw_with (N : NetS) (l : List Int) (b k : Nat) : (withUp N l b k).Pairwise (· < ·) := by
  induction k with
  | zero => simp [withUp]
  | succ k ih =>
    rw [withUp_succ]
    split
    · rw [List.pairwise_append]
      refine ⟨ih, by simp, fun x hx y hy => ?_⟩
      rw [List.mem_singleton] at hy
      subst hy
      unfold withUp at hx
      obtain ⟨i, hi, rfl⟩ := List.mem_map.1 hx
      have := List.mem_range.1 (List.mem_filter.1 hi).1
      omega
    · simpa using ih
theorem mem_with (N : NetS) (l : List Int) (b : Nat) (z : Int) : z ∈ withL N l b ↔ ∃ i : Nat, i < N.sets.length ∧ z = (i : Int) ∧ z ∈ l ∧ hasS N i b = true := by
  unfold withL withUp
  rw [List.mem_map]
  constructor
  · rintro ⟨i, hi, rfl⟩
    obtain ⟨h1, h2⟩ := List.mem_filter.1 hi
    simp only [Bool.and_eq_true, List.contains_iff_mem] at h2
    exact ⟨i, List.mem_range.1 h1, rfl, h2.1, h2.2⟩
  · rintro ⟨i, h1, rfl, h3, h4⟩
    exact ⟨i, List.mem_filter.2 ⟨List.mem_range.2 h1, by simp only [Bool.and_eq_true, List.contains_iff_mem]; exact ⟨h3, h4⟩⟩, rfl⟩
theorem hav_with {N : NetS} {acc l : List Int} {b : Nat} (hp : acc.Pairwise (· < ·)) (hm : ∀ z, z ∈ acc ↔ z ∈ l) (hr : ∀ z ∈ acc, 0 ≤ z ∧ z < (N.sets.length : Int)) : havL N acc b = withL N l b := by
  refine pw_ext (List.Pairwise.filter _ hp) (pw_with N l b _) fun z => ?_
  rw [mem_with]
  unfold havL
  rw [List.mem_filter]
  constructor
  · rintro ⟨h1, h2⟩
    have := hr z h1
    exact ⟨z.toNat, by omega, by omega, (hm z).1 h1, h2⟩
  · rintro ⟨i, h1, rfl, h3, h4⟩
    exact ⟨(hm _).2 h3, by rw [Int.toNat_natCast]; exact h4⟩
theorem spots_parts {N : NetS} {l : List Int} (h : spotsB N l = true) : l.Pairwise (· < ·) ∧ ∀ z ∈ l, 0 ≤ z ∧ z < (N.sets.length : Int) := by
  unfold spotsB at h
  rw [Bool.and_eq_true, List.all_eq_true] at h
  refine ⟨(ris_pw l).1 h.2, fun z hz => ?_⟩
  have := h.1 z hz
  simpa using this
theorem net_parts {N : NetS} (h : netR N = true) : spotsB N N.first = true ∧ ∀ l ∈ N.fol, spotsB N l = true := by
  have hl := netR_len h
  unfold netR at h
  simp only [Bool.and_eq_true, List.all_eq_true, List.mem_range] at h
  refine ⟨h.2.1, fun l hl2 => ?_⟩
  obtain ⟨i, hi⟩ := List.getElem?_of_mem hl2
  have := h.2.2 i (by have := (List.getElem?_eq_some_iff.1 hi).1; omega)
  unfold rowOk spotsO at this
  rw [hi] at this
  simp only [Bool.and_eq_true] at this
  exact this.2
theorem start_hav {N : NetS} (h : netR N = true) (b : Nat) : startL N b = havL N N.first b := by
  obtain ⟨h1, h2⟩ := spots_parts (net_parts h).1
  unfold startL
  rw [if_pos h]
  exact (hav_with h1 (fun _ => Iff.rfl) h2).symm
/-! ## Where spots lead. -/
def onAcc (N : NetS) (xs : List Int) : List Int := xs.foldl (fun acc z => merL acc (folO N z)) []
theorem onAcc_snoc (N : NetS) (xs : List Int) (z : Int) : onAcc N (xs ++ [z]) = merL (onAcc N xs) (folO N z) := by unfold onAcc; rw [List.foldl_append]; rfl
theorem folO_parts {N : NetS} (h : netR N = true) (z : Int) : (folO N z).Pairwise (· < ·) ∧ ∀ y ∈ folO N z, 0 ≤ y ∧ y < (N.sets.length : Int) := by
  unfold folO
  split
  · cases hf : N.fol[z.toNat]? with
    | none => simp
    | some l => exact spots_parts ((net_parts h).2 l (List.mem_of_getElem? hf))
  · simp
theorem onAcc_parts {N : NetS} (h : netR N = true) (xs : List Int) : (onAcc N xs).Pairwise (· < ·) ∧ (∀ y ∈ onAcc N xs, 0 ≤ y ∧ y < (N.sets.length : Int)) ∧ ∀ y, y ∈ onAcc N xs ↔ y ∈ xs.flatMap (folO N) := by
  have key : ∀ (xs acc : List Int), acc.Pairwise (· < ·) → (∀ y ∈ acc, 0 ≤ y ∧ y < (N.sets.length : Int)) → (xs.foldl (fun acc z => merL acc (folO N z)) acc).Pairwise (· < ·) ∧ (∀ y ∈ xs.foldl (fun acc z => merL acc (folO N z)) acc, 0 ≤ y ∧ y < (N.sets.length : Int)) ∧ ∀ y, y ∈ xs.foldl (fun acc z => merL acc (folO N z)) acc ↔ y ∈ acc ∨ y ∈ xs.flatMap (folO N) := by
    intro xs
    induction xs with
    | nil => intro acc h1 h2; exact ⟨h1, h2, fun y => by simp⟩
    | cons x xs ih =>
      intro acc h1 h2
      obtain ⟨f1, f2⟩ := folO_parts h x
      obtain ⟨g1, g2, g3⟩ := ih (merL acc (folO N x)) (pw_merL _ _ h1 f1) (fun y hy => by rcases (mem_merL _ _).1 hy with h | h; exact h2 y h; exact f2 y h)
      refine ⟨g1, g2, fun y => ?_⟩
      rw [List.foldl_cons, g3 y, mem_merL, List.flatMap_cons, List.mem_append, or_assoc]
  obtain ⟨h1, h2, h3⟩ := key xs [] (by simp) (by simp)
  exact ⟨h1, h2, fun y => by rw [show onAcc N xs = xs.foldl (fun acc z => merL acc (folO N z)) [] from rfl, h3 y]; simp⟩
theorem onAcc_len {N : NetS} (h : netR N = true) (xs : List Int) : (onAcc N xs).length ≤ N.sets.length := by
  obtain ⟨h1, h2, _⟩ := onAcc_parts h xs
  have := pw_len (a := 0) (m := (N.sets.length : Int)) h1 h2
  omega
theorem step_hav {N : NetS} (h : netR N = true) (xs : List Int) (b : Nat) : stepL N xs b = havL N (onAcc N xs) b := by
  obtain ⟨h1, h2, h3⟩ := onAcc_parts h xs
  unfold stepL
  rw [if_pos h]
  exact (hav_with h1 h3 h2).symm
end Go.Proofs.Ytmkgipoljbiocaa
/- Where spots lead: the walks of Start, on, Step. -/
namespace Go.Proofs.Ytmkgipoljbiocaa
open Go.RowKit
set_option linter.unusedVariables false
set_option linter.unusedSimpArgs false

/-- The capacities of a row's rows. -/
def FCap (w : World) (a : Option Addr) (n : Nat) : Prop := ∀ i b off, i < n → a = some ⟨b, off, none⟩ → b < w.heap.size ∧ ∀ A l c, w.cell? ⟨b, off + i, none⟩ = some (.slice A l c) → l ≤ c ∧ c ≤ 9223372036854775807
theorem FCap.below {w w' : World} {a : Option Addr} {n : Nat} (h : FCap w a n) (hb : Below w.heap.size w w') : FCap w' a n := fun i b off hi ha => by
  obtain ⟨h1, h2⟩ := h i b off hi ha
  refine ⟨by have := hb.size; omega, fun A l c hc => h2 A l c ?_⟩
  rw [← hb.cell (p := ⟨b, off + i, none⟩) h1]; exact hc
/-- A net that came into a box. -/
theorem box_net {w : World} {g : Nat} (hg : w.heap.size = g) (v : Nv) : ∃ W, W = w.alloc (.cells (netA v) 27) ∧ W.heap.size = g + 1 ∧ Below g w W ∧ W.heap[g]? = some (.cells (netA v) 27 (0, 0)) := by
  refine ⟨_, rfl, by simp [hg], by rw [← hg]; exact (Below.refl _ _).alloc (Nat.le_refl _) _, by rw [← hg]; exact heap_alloc_new w _⟩
set_option maxRecDepth 10000 in
set_option maxHeartbeats 2000000 in
theorem fstart_any (w : World) (v : Nv) (N : NetS) (b : Nat) (hb : b < 256) (hv : NetAt w v N) (hs : v.rn ≤ 100000) :
    Calls Try.prog 30 #[.agg (netA v), .int .u8 (b : Int)] w (Giv 3 1 intC w (startL N b)) := by
  have HV := Lib.hid hv
  obtain ⟨g, hg⟩ : ∃ g, w.heap.size = g := ⟨_, rfl⟩
  have HG := Lib.hid hg
  obtain ⟨W1, hW1, hs1, hb1, hx1⟩ := box_net hg v
  have HRM := Lib.hid (fnet_any W1 v N (hv.below (by rw [hg]; exact hb1)))
  obtain ⟨q, hq⟩ : ∃ q, netR N = q := ⟨_, rfl⟩
  rw [hq] at HRM
  have HQ := Lib.hid hq
  have HW1 := Lib.hid hW1
  have HB1 := Lib.hid hb1
  have HS1 := Lib.hid hs1
  have HX1 := Lib.hid hx1
  rw [hW1] at HRM
  clear hv hb1 hs1 hq
  rw [hW1] at hx1
  clear hW1
  obtain ⟨cc0, cc1, cc2, cc3, cc4⟩ := netC (g := g) (v := v) hx1
  clear hx1
  go_enter Try.func30, Try.ntmps30
  go_wp2_with fail
  refine HRM.out.mono ?_
  rintro e w2 ⟨rfl, hb2⟩
  have hb2' : Below W1.heap.size W1 w2 := by rw [← HW1.out] at hb2; exact hb2
  have HB2 : Hid (Below g w w2) := Lib.hid (HB1.out.trans (hb2'.mono (by have := HS1.out; omega)))
  have HX2 := Lib.hid ((hb2'.block g (by have := HS1.out; omega)).trans HX1.out)
  have hgl : g + 1 ≤ w2.heap.size := by have := hb2'.size; have := HS1.out; omega
  clear hb2 hb2' cc0 cc1 cc2 cc3 cc4
  cases q with
  | false =>
    have HE : Hid (startL N b = []) := Lib.hid (by unfold startL; rw [HQ.out]; rfl)
    go_wp2
    go_ret
    rw [HE.out]
    exact ⟨none, 0, rfl, World.ownsRow_nil _ _ _ _, by first | exact HB2.out | (rw [HG.out]; exact HB2.out)⟩
  | true =>
    obtain ⟨p1, p2⟩ := spots_parts (net_parts HQ.out).1
    have hv2 := HV.out.below (w' := w2) (by rw [HG.out]; exact HB2.out)
    have hcl := having_any w2 v N v.ra v.rn v.rc N.first b hb hv2 hv2.r p2 hs
    rw [← start_hav HQ.out] at hcl
    have HCL := Lib.hid hcl
    obtain ⟨n0, n1, n2, n3, n4⟩ := netC (W := w2) (g := g) (v := v) HX2.out
    clear hv2 hcl p1 p2
    go_wp2_with fail
    refine HCL.out.mono ?_
    rintro e w3 ⟨A, c, rfl, ho, hb3⟩
    have HO := Lib.hid ho
    have HB3 : Hid (Below g w w3) := Lib.hid (HB2.out.trans (hb3.mono (by omega)))
    clear ho hb3
    go_wp2
    go_ret
    exact ⟨A, c, rfl, by first | exact own_mono HO.out (by omega) | (rw [HG.out]; exact own_mono HO.out (by omega)), by first | exact HB3.out | (rw [HG.out]; exact HB3.out)⟩
set_option maxRecDepth 10000 in
set_option maxHeartbeats 2000000 in
theorem fon_any (w : World) (v : Nv) (N : NetS) (a : Option Addr) (n c : Nat) (xs : List Int) (b : Nat) (hb : b < 256) (hv : NetAt w v N) (hfc : FCap w v.fa v.fn) (h : CRow intC 1 w a n xs) (hR : netR N = true) (hs : v.sn ≤ 1000) :
    Calls Try.prog 56 #[.agg (netA v), .slice a n c, .int .u8 (b : Int)] w (Giv 3 1 intC w (stepL N xs b)) := by
  have HV := Lib.hid hv
  have HFC := Lib.hid hfc
  have HH := Lib.hid h
  have HL := Lib.hid h.1
  have hnm := h.2.1
  have HSN := Lib.hid hv.s.1
  have HFN := Lib.hid hv.f.len.1
  have HLE := Lib.hid (netR_len hR)
  have hfm := hv.f.len.2
  obtain ⟨g, hg⟩ : ∃ g, w.heap.size = g := ⟨_, rfl⟩
  have HG := Lib.hid hg
  obtain ⟨W1, hW1, hs1, hb1, hx1⟩ := box_net hg v
  have HB1 := Lib.hid hb1
  have HS1 := Lib.hid hs1
  have HX1 := Lib.hid hx1
  clear hv hfc h hb1 hs1 hx1
  go_enter Try.func56, Try.ntmps56
  go_wp2
  rw [← hW1]
  clear hW1
  go_loopw [7, 12] (fun lv i wr => ∃ (k : Nat) (A : Option Addr) (m d : Nat), k ≤ n ∧ i = .int .i64 (k : Int) ∧ lv = .slice A m d ∧ CRow intC 1 wr A m (onAcc N (xs.take k)) ∧ (m ≤ d ∧ d ≤ 9223372036854775807) ∧ Below (g + 1) W1 wr) (fun _ i _ => n - (intOf i).toNat)
  case atStart => exact ⟨0, none, 0, 0, by omega, rfl, rfl, CRow.nil _ _, by omega, Below.refl _ _⟩
  case round =>
    obtain ⟨k, A, m, d, hk, rfl, rfl, hrow, hcap, hbw⟩ := hrel
    have HROW := Lib.hid hrow
    have HBW := Lib.hid hbw
    have HBG : Hid (Below g w wr) := Lib.hid (HB1.out.trans (hbw.mono (by omega)))
    have hxr : wr.heap[g]? = some (.cells (netA v) 27 (0, 0)) := (hbw.block g (by omega)).trans HX1.out
    have HXR := Lib.hid hxr
    have hgr : g + 1 ≤ wr.heap.size := by have := hbw.size; have := HS1.out; omega
    have hbw2 : Below w.heap.size w wr := by rw [HG.out]; exact HBG.out
    have hvr := HV.out.below hbw2
    by_cases hlt : k < n
    case neg =>
      have hkn : xs.take k = xs := List.take_of_length_le (by rw [HL.out]; omega)
      have z1 : ¬ (k : Int) < (n : Int) := by omega
      obtain ⟨p1, p2, p3⟩ := onAcc_parts hR xs
      have hln := onAcc_len hR xs
      rw [hkn] at hrow
      have hmm := hrow.1
      have hcl := having_any wr v N A m d (onAcc N xs) b hb hvr hrow p2 (by have := HSN.out; omega)
      rw [← step_hav hR] at hcl
      have HCL := Lib.hid hcl
      obtain ⟨n0, n1, n2, n3, n4⟩ := netC (W := wr) (g := g) (v := v) hxr
      clear hkn hrow hbw hbw2 hvr hxr p1 p2 p3 hln hmm hcl
      go_wp2_with fail
      refine HCL.out.mono ?_
      rintro e w3 ⟨A3, c3, rfl, ho, hb3⟩
      have HO := Lib.hid ho
      have HB3 : Hid (Below g w w3) := Lib.hid (HBG.out.trans (hb3.mono (by omega)))
      clear ho hb3
      go_wp2
      go_ret
      exact ⟨A3, c3, rfl, by first | exact own_mono HO.out (by omega) | (rw [HG.out]; exact own_mono HO.out (by omega)), by first | exact HB3.out | (rw [HG.out]; exact HB3.out)⟩
    case pos =>
      obtain ⟨b1, off1, z, rfl, hb1', hz, c0⟩ := (HH.out.below hbw2).int hlt
      obtain ⟨n0, n1, n2, n3, n4⟩ := netC (W := wr) (g := g) (v := v) hxr
      have htk : xs.take (k + 1) = xs.take k ++ [z] := take_snoc hz
      have HST : Hid (onAcc N (xs.take (k + 1)) = merL (onAcc N (xs.take k)) (folO N z)) := Lib.hid (by rw [htk, onAcc_snoc])
      have y0 : (0 : Int) ≤ (k : Int) := by omega
      have y1 : (k : Int) < (n : Int) := by omega
      have hmm := hrow.1
      have hln := onAcc_len hR (xs.take k)
      by_cases hin : 0 ≤ z ∧ z < (v.fn : Int)
      case neg =>
        have HN : Hid (onAcc N (xs.take (k + 1)) = onAcc N (xs.take k)) := Lib.hid (by
          rw [HST.out]
          have : folO N z = [] := by unfold folO; rw [if_neg (by have := HFN.out; have := HLE.out.2.2; omega)]
          rw [this, merL_nil])
        clear hrow hbw hbw2 hvr hxr hz htk hmm hln
        by_cases hz0 : 0 ≤ z
        case pos =>
          have z2 : ¬ z < (v.fn : Int) := by omega
          clear hin
          go_wp2
          go_roundw
          case rel => exact ⟨k + 1, _, _, _, by omega, by go_num, rfl, by rw [HN.out]; exact HROW.out, hcap, HBW.out⟩
          case measure => simp [intOf]; omega
        case neg =>
          clear hin
          go_wp2
          go_roundw
          case rel => exact ⟨k + 1, _, _, _, by omega, by go_num, rfl, by rw [HN.out]; exact HROW.out, hcap, HBW.out⟩
          case measure => simp [intOf]; omega
      case pos =>
        obtain ⟨hz0, hz1⟩ := hin
        obtain ⟨j, rfl⟩ : ∃ j : Nat, z = (j : Int) := ⟨z.toNat, by omega⟩
        obtain ⟨b2, off2, l, hfe, hb2, hl, A2, c2, hc2, hr2⟩ := hvr.f.at_ (i := j) (by omega)
        have hcp := ((HFC.out.below hbw2) j b2 off2 (by omega) hfe).2 A2 l.length c2 hc2
        have hfo : folO N (j : Int) = l := by unfold folO; rw [if_pos (by have := HFN.out; have := HLE.out.2.2; omega), Int.toNat_natCast, hl]; rfl
        have hfl := (folO_parts hR (j : Int))
        rw [hfo] at hfl
        have hll := pw_len (a := 0) (m := (N.sets.length : Int)) hfl.1 hfl.2
        have HUN := Lib.hid (munion_any wr A m d _ A2 l.length c2 l hrow hr2 hcap hcp (by have := HSN.out; omega))
        rw [← hfo, ← HST.out] at HUN
        rw [hfo] at HUN
        obtain ⟨ll, hllE⟩ : ∃ x, l.length = x := ⟨_, rfl⟩
        rw [hllE] at hc2 HUN
        rw [hfe] at n3
        obtain ⟨acc, hacc⟩ : ∃ x, onAcc N (xs.take (k + 1)) = x := ⟨_, rfl⟩
        have HAC := Lib.hid hacc
        rw [hacc] at HUN
        have y2 : (0 : Int) ≤ (j : Int) := by omega
        clear hrow hbw hbw2 hvr hxr hz htk hmm hln hl hr2 hcp hfo hfl hll hllE hacc hfe
        go_wp2_with fail
        refine HUN.out.mono ?_
        rintro e w3 ⟨A3, c3, rfl, ho, hb3⟩
        obtain ⟨A3', c3', he3, hcap1, hcap2⟩ := own_form ho
        simp only [Value.slice.injEq, true_and] at he3
        obtain ⟨rfl, rfl⟩ := he3
        have HRW := Lib.hid (own_row intC_len ho)
        have HB3 : Hid (Below (g + 1) W1 w3) := Lib.hid (HBW.out.trans (hb3.mono hgr))
        clear ho hb3
        go_wp2
        go_roundw
        case rel => exact ⟨k + 1, _, _, _, by omega, by go_num, rfl, by rw [HAC.out]; exact HRW.out, ⟨hcap1, hcap2⟩, HB3.out⟩
        case measure => simp [intOf]; omega
set_option maxRecDepth 10000 in
set_option maxHeartbeats 2000000 in
theorem fstep_any (w : World) (v : Nv) (N : NetS) (a : Option Addr) (n c : Nat) (xs : List Int) (b : Nat) (hb : b < 256) (hv : NetAt w v N) (hfc : FCap w v.fa v.fn) (h : CRow intC 1 w a n xs) (hs : v.sn ≤ 1000) :
    Calls Try.prog 31 #[.agg (netA v), .slice a n c, .int .u8 (b : Int)] w (Giv 3 1 intC w (stepL N xs b)) := by
  have HV := Lib.hid hv
  have HFC := Lib.hid hfc
  have HH := Lib.hid h
  obtain ⟨g, hg⟩ : ∃ g, w.heap.size = g := ⟨_, rfl⟩
  have HG := Lib.hid hg
  obtain ⟨W1, hW1, hs1, hb1, hx1⟩ := box_net hg v
  have HRM := Lib.hid (fnet_any W1 v N (hv.below (by rw [hg]; exact hb1)))
  obtain ⟨q, hq⟩ : ∃ q, netR N = q := ⟨_, rfl⟩
  rw [hq] at HRM
  have HQ := Lib.hid hq
  have HW1 := Lib.hid hW1
  have HB1 := Lib.hid hb1
  have HS1 := Lib.hid hs1
  have HX1 := Lib.hid hx1
  rw [hW1] at HRM
  clear hv hfc h hb1 hs1 hq
  rw [hW1] at hx1
  clear hW1
  obtain ⟨cc0, cc1, cc2, cc3, cc4⟩ := netC (g := g) (v := v) hx1
  clear hx1
  go_enter Try.func31, Try.ntmps31
  go_wp2_with fail
  refine HRM.out.mono ?_
  rintro e w2 ⟨rfl, hb2⟩
  have hb2' : Below W1.heap.size W1 w2 := by rw [← HW1.out] at hb2; exact hb2
  have HB2 : Hid (Below g w w2) := Lib.hid (HB1.out.trans (hb2'.mono (by have := HS1.out; omega)))
  have HX2 := Lib.hid ((hb2'.block g (by have := HS1.out; omega)).trans HX1.out)
  have hgl : g + 1 ≤ w2.heap.size := by have := hb2'.size; have := HS1.out; omega
  clear hb2 hb2' cc0 cc1 cc2 cc3 cc4
  cases q with
  | false =>
    have HE : Hid (stepL N xs b = []) := Lib.hid (by unfold stepL; rw [HQ.out]; rfl)
    go_wp2
    go_ret
    rw [HE.out]
    exact ⟨none, 0, rfl, World.ownsRow_nil _ _ _ _, by first | exact HB2.out | (rw [HG.out]; exact HB2.out)⟩
  | true =>
    have hbb : Below w.heap.size w w2 := by rw [HG.out]; exact HB2.out
    have HCL := Lib.hid (fon_any w2 v N a n c xs b hb (HV.out.below hbb) (HFC.out.below hbb) (HH.out.below hbb) HQ.out hs)
    clear hbb
    obtain ⟨n0, n1, n2, n3, n4⟩ := netC (W := w2) (g := g) (v := v) HX2.out
    go_wp2_with fail
    refine HCL.out.mono ?_
    rintro e w3 ⟨A, c, rfl, ho, hb3⟩
    have HO := Lib.hid ho
    have HB3 : Hid (Below g w w3) := Lib.hid (HB2.out.trans (hb3.mono (by omega)))
    clear ho hb3
    go_wp2
    go_ret
    exact ⟨A, c, rfl, by first | exact own_mono HO.out (by omega) | (rw [HG.out]; exact own_mono HO.out (by omega)), by first | exact HB3.out | (rw [HG.out]; exact HB3.out)⟩
end Go.Proofs.Ytmkgipoljbiocaa
