/- Several texts in one: RxMany, Mat, Mach, FrameM, LS, State, Link, IsRx, StepM, StepA, FactP, BOps. -/
import Derived.Test.YtbefndibkpjgaaaTw2
import Derived.Deep.OwnRows
import Derived.Test.YtbefndibkpjgaaaTw1
import Derived.WalkKit
import Derived.Deep.RegionLaw
import Derived.Deep.MidRow
import Derived.Deep.WholeRow
/- rx: parts one behind the other. -/
namespace Go.Proofs.Ytbefndibkpjgaaa
open Go.RowKit
set_option linter.unusedVariables false

theorem blk_lt {w : World} {g : Nat} {o : Obj} (h : w.heap[g]? = some o) : g < w.heap.size := by
  rcases Nat.lt_or_ge g w.heap.size with hl | hl
  · exact hl
  · rw [Array.getElem?_eq_none hl] at h; cases h
theorem own_keep {w w' : World} {base : Nat} {e : TypeId} {size : Nat} {v : Value} {n : Nat} {xs : List Value} (h : w.ownsRow base e size v n xs) (hk : ∀ k cur, v.ownBlock = some k → w.heap[k]? = some (.cells cur e (0, 0)) → w'.heap[k]? = w.heap[k]?) : w'.ownsRow base e size v n xs := by
  refine ⟨h.1, ?_⟩
  rcases h.2 with h2 | ⟨g, cap, cur, rfl, hbg, hg, r⟩
  · exact Or.inl h2
  · exact Or.inr ⟨g, cap, cur, rfl, hbg, (hk g cur rfl hg).trans hg, r⟩
theorem own_obj {w : World} {base : Nat} {e : TypeId} {size : Nat} {v : Value} {n : Nat} {xs : List Value} (h : w.ownsRow base e size v n xs) {k : Nat} (hk : v.ownBlock = some k) : ∃ cur, w.heap[k]? = some (.cells cur e (0, 0)) := by
  rcases h.2 with ⟨rfl, _⟩ | ⟨g, cap, cur, rfl, hbg, hg, r⟩
  · simp [Value.ownBlock] at hk
  · have : g = k := by simpa [Value.ownBlock] using hk
    subst this; exact ⟨cur, hg⟩
theorem obj_ne {w : World} {i j : Nat} {a b : Array Value} {s t : TypeId} (h : w.heap[i]? = some (.cells a s (0, 0))) (k : w.heap[j]? = some (.cells b t (0, 0))) (hst : s ≠ t) : i ≠ j := by
  intro e; subst e
  rw [h] at k
  have := Option.some.inj k
  injection this with _ h2 _
  exact hst h2
/-- A part: where its steps lie, and which. -/
structure Rw where
  a : Option Addr
  l : Nat
  c : Nat
  rs : List Rx
instance : Inhabited Rw := ⟨⟨none, 0, 0, []⟩⟩
def slC (o : Rw) : List Value := [.slice o.a o.l o.c]
theorem slC_len (o : Rw) : (slC o).length = 1 := rfl
theorem slC_one (o : Rw) : ∀ u ∈ slC o, u.oneCell' = true := fun u hu => by simp [slC] at hu; subst hu; rfl
def RRow (w : World) (A : Option Addr) (n : Nat) (os : List Rw) : Prop := CRow slC 1 w A n os ∧ ∀ o ∈ os, CRow rxC 5 w o.a o.l o.rs
theorem RRow.below {w w' : World} {A : Option Addr} {n : Nat} {os : List Rw} (h : RRow w A n os) (hb : Below w.heap.size w w') : RRow w' A n os := ⟨h.1.below hb, fun o ho => (h.2 o ho).below hb⟩
/-- Parts with a step behind each but the first one. -/
def behUp (k : Int) (ls : List (List Rx)) : Nat → List Rx
  | 0 => []
  | j + 1 => behUp k ls j ++ ((ls[j]?).getD [] ++ if 0 < j then [stp0 k] else [])
def tot (ls : List (List Rx)) : Nat := (ls.map List.length).sum
theorem sum_take_le (l : List Nat) : ∀ k, (l.take k).sum ≤ l.sum := by
  induction l with
  | nil => intro k; simp
  | cons x l ih =>
    intro k
    cases k with
    | zero => simp
    | succ k => simp [ih k]
theorem beh_len (k : Int) (ls : List (List Rx)) : ∀ j, (behUp k ls j).length ≤ tot (ls.take j) + j
  | 0 => by simp [behUp]
  | j + 1 => by
    have ih := beh_len k ls j
    have h1 : (if 0 < j then [stp0 k] else []).length ≤ 1 := by split <;> simp
    have h2 : tot (ls.take (j + 1)) = tot (ls.take j) + ((ls[j]?).getD []).length := by
      unfold tot; rw [List.take_add_one]
      cases ls[j]? <;> simp
    simp only [behUp, List.length_append]; omega
theorem tot_take (ls : List (List Rx)) (j : Nat) : tot (ls.take j) ≤ tot ls := by
  unfold tot; rw [List.map_take]; exact sum_take_le _ j
theorem tot_at {ls : List (List Rx)} {j : Nat} {l : List Rx} (h : ls[j]? = some l) : l.length ≤ tot ls := by
  have h1 := tot_take ls (j + 1)
  have h2 : tot (ls.take (j + 1)) = tot (ls.take j) + l.length := by unfold tot; rw [List.take_add_one, h]; simp
  omega
theorem beh_next {k : Int} {os : List Rw} {j : Nat} {o : Rw} (h : os[j]? = some o) : behUp k (os.map Rw.rs) (j + 1) = behUp k (os.map Rw.rs) j ++ (o.rs ++ if 0 < j then [stp0 k] else []) := by
  simp only [behUp]; rw [List.getElem?_map, h]; rfl
/-- A box that holds a row of the call's own. -/
structure BoxRow (B : Nat) (w : World) (X : Nat) (v : Value) (rs : List Rx) : Prop where
  blk : w.heap[X]? = some (.cells #[v] 22 (0, 0))
  ow : w.ownsRow B 78 5 v rs.length (rs.flatMap rxC)
theorem BoxRow.below {B : Nat} {w w' : World} {X : Nat} {v : Value} {rs : List Rx} (h : BoxRow B w X v rs) (hb : Below w.heap.size w w') : BoxRow B w' X v rs := ⟨(hb.block X (blk_lt h.blk)).trans h.blk, ownB h.ow hb⟩
set_option maxHeartbeats 1000000 in
theorem put_any (w w0 : World) (B X : Nat) (v : Value) (rs : List Rx) (a : Option Addr) (m c : Nat) (os : List Rx) (h : BoxRow B w X v rs) (hr : CRow rxC 5 w a m os) (hB : Below B w0 w) (hBX : B ≤ X) (hn : rs.length + m ≤ 100000) :
    Calls Try.prog 68 #[.slice a m c, .pointer (some ⟨X, 0, none⟩)] w fun e w' => e = .returned (.tuple #[]) ∧ ∃ v', BoxRow B w' X v' (rs ++ os) ∧ Below B w0 w' := by
  have c0 : w.cell? ⟨X, 0, none⟩ = some v := by rw [cell_of_row w X 0 _ _ _ h.blk]; rfl
  have hlt := blk_lt h.blk
  have HH := Lib.hid h
  have HBW := Lib.hid hB
  have hne : some X ≠ v.ownBlock := fun e => by
    obtain ⟨cur, hc⟩ := own_obj h.ow e.symm
    exact obj_ne h.blk hc (by decide) rfl
  have HNE := Lib.hid hne
  have HAP := Lib.hid (app_rxs h.ow hr (c := c) (by omega) (by omega : B ≤ w.heap.size))
  have HL := Lib.hid hr.1
  clear h hr hB hne
  go_enter Try.func68, Try.ntmps68
  go_wp2_with (at_builtin; refine HAP.out _ _ _ _ _ rfl _ _ rfl rfl rfl ?_; intro v2 w2 hown1 hgrow hat; have HW := Lib.hid hown1; have HBLK : Hid (w2.heap[X]? = some (.cells #[v] 22 (0, 0))) := Lib.hid ((hgrow.block X hlt HNE.out).trans HH.out.blk); have HB2 := Lib.hid (below_grown HBW.out (by omega) hgrow (fun j hj => (own_ge HH.out.ow hj).1)); have c2 : w2.cell? ⟨X, 0, none⟩ = some v := (cell_of_row w2 X 0 _ _ _ HBLK.out).trans rfl; have f2 := frozen_of_row w2 X 0 _ _ HBLK.out; have HF := Lib.hid (own_form hown1); clear hown1 hgrow hat; obtain ⟨A2, cc2, rfl, hle2, hcc2⟩ := HF.out; clear HF)
  go_end0
  refine ⟨rfl, _, ⟨heap_setCell_same w2 X 0 _ _ _ HBLK.out, ?_⟩, HB2.out.setCell (p := ⟨X, 0, none⟩) hBX _⟩
  have hw := HW.out
  rw [List.length_append, HL.out]
  refine own_keep hw fun k cur hk hc => heap_setCell_other _ _ _ _ ?_
  exact obj_ne hc HBLK.out (by decide)
set_option maxHeartbeats 4000000 in
theorem behind_any (w : World) (A : Option Addr) (n d : Nat) (os : List Rw) (k : Int) (h : RRow w A n os) (hsm : tot (os.map Rw.rs) + n ≤ 2000) :
    Calls Try.prog 47 #[.int .i64 k, .slice A n d] w (Gives w (behUp k (os.map Rw.rs) n)) := by
  have hl2 := h.1.2.1
  have HH := Lib.hid h
  have HL := Lib.hid h.1.1
  have HSM := Lib.hid hsm
  have hn2 : n ≤ 2000 := by omega
  obtain ⟨g, hg⟩ : ∃ g, w.heap.size = g := ⟨_, rfl⟩
  have HG := Lib.hid hg
  have HB0 := Lib.hid (show Below g w (w.alloc (.cells #[.slice none 0 0] 22)) by rw [← hg]; exact (Below.refl _ _).alloc (Nat.le_refl _) _)
  have HX0 : Hid (BoxRow g (w.alloc (.cells #[.slice none 0 0] 22)) g (.slice none 0 0) []) := Lib.hid ⟨by rw [← hg]; exact heap_alloc_new w _, own_new _ _ _ _⟩
  have hmf : ∀ (fn : Fn) (first cap : Array Value) (w : World), (Instr.makeFunc fn first cap).run Try.prog w = .ok (.func fn first cap) w := fun _ _ _ _ => rfl
  unfold Gives
  clear h hsm
  go_enter Try.func47, Try.ntmps47
  go_wp2
  clear hg
  go_loopw [12] (fun i wr => ∃ (j : Nat) (v : Value), j ≤ n ∧ i = .int .i64 (j : Int) ∧ BoxRow g wr g v (behUp k (os.map Rw.rs) j) ∧ Below g w wr) (fun i _ => n - (intOf i).toNat)
  case atStart => exact ⟨0, _, by omega, rfl, HX0.out, HB0.out⟩
  case round =>
    obtain ⟨j, v, hj, rfl, hbx, hb⟩ := hrel
    clear HX0 HB0
    have HX := Lib.hid hbx
    have HB := Lib.hid hb
    have HLEN : Hid ((behUp k (os.map Rw.rs) j).length ≤ 2000) := Lib.hid (by have := beh_len k (os.map Rw.rs) j; have h2 := tot_take (os.map Rw.rs) j; have := HSM.out; omega)
    clear hbx hb
    by_cases hlt : j < n
    · obtain ⟨b1, o1, o, rfl, hbl, ho, hc⟩ := HH.out.1.at_ hlt
      have hbg : b1 < g := by have := HG.out; omega
      have HR := Lib.hid (HH.out.2 o (List.mem_of_getElem? ho))
      have HNX := Lib.hid (beh_next (k := k) ho)
      have HTA : Hid (o.rs.length ≤ 2000) := Lib.hid (by have := tot_at (ls := os.map Rw.rs) (j := j) (l := o.rs) (by rw [List.getElem?_map, ho]; rfl); have := HSM.out; omega)
      obtain ⟨oa, ol, oc, ors⟩ := o
      dsimp only at HR HNX HTA
      have HOL := Lib.hid HR.out.1
      have c0 : wr.cell? ⟨b1, o1 + j, none⟩ = some (.slice oa ol oc) := (HB.out.cell (p := ⟨b1, o1 + j, none⟩) hbg).trans (by have := hc 0 _ rfl; simpa using this)
      have HP1 := Lib.hid (put_any wr w g g v _ oa ol oc ors HX.out (HR.out.below (by rw [HG.out]; exact HB.out)) HB.out (Nat.le_refl _) (by have := HLEN.out; have := HTA.out; have := HOL.out; omega))
      have h0 : (0 : Int) ≤ (j : Int) := by omega
      have h1 : (j : Int) < (n : Int) := by omega
      clear hc ho
      go_wp2_with fail
      refine HP1.out.mono ?_
      rintro e w2 ⟨rfl, v2, hx2, hb2⟩
      have HX2 := Lib.hid hx2
      have HB2 := Lib.hid hb2
      have hg2 : g < w2.heap.size := blk_lt hx2.blk
      clear hx2 hb2
      by_cases hj0 : j = 0
      · have q1 : ¬ 0 < j := by omega
        have q2 : decide (0 < j) = false := decide_eq_false q1
        have HNX2 : Hid (behUp k (os.map Rw.rs) (j + 1) = behUp k (os.map Rw.rs) j ++ ors) := Lib.hid (by rw [HNX.out, if_neg q1]; simp)
        clear hj0
        go_wp2
        go_roundw
        case rel => exact ⟨j + 1, v2, by omega, by go_num, by rw [HNX2.out]; exact HX2.out, HB2.out⟩
        case measure => simp [intOf]; omega
      · have q1 : 0 < j := by omega
        have q2 : decide (0 < j) = true := decide_eq_true q1
        have HNX2 : Hid (behUp k (os.map Rw.rs) (j + 1) = (behUp k (os.map Rw.rs) j ++ ors) ++ [stp0 k]) := Lib.hid (by rw [HNX.out, if_pos q1, List.append_assoc])
        have HB3 := Lib.hid ((Below.refl w2.heap.size w2).alloc (Nat.le_refl _) (.cells #[.int .i64 k, .int .u64 0, .int .u64 0, .int .u64 0, .int .u64 0] 78))
        have HR3 : Hid (CRow rxC 5 (w2.alloc (.cells #[.int .i64 k, .int .u64 0, .int .u64 0, .int .u64 0, .int .u64 0] 78)) (some ⟨w2.heap.size, 0, none⟩) 1 [stp0 k]) := Lib.hid (by
          have h := own_lit1 w2 w2.heap.size (Nat.le_refl _) (stp0 k) #[.int .i64 k, .int .u64 0, .int .u64 0, .int .u64 0, .int .u64 0] (by rw [stp0_C])
          exact own_crow (os := [stp0 k]) rxC_len h (by simp))
        have HP2 := Lib.hid (put_any _ w g g v2 _ _ 1 1 [stp0 k] (HX2.out.below HB3.out) HR3.out (HB2.out.alloc (by omega) (.cells #[.int .i64 k, .int .u64 0, .int .u64 0, .int .u64 0, .int .u64 0] 78)) (Nat.le_refl _) (by rw [List.length_append]; have := HLEN.out; have := HTA.out; omega))
        clear hj0
        go_wp2_with fail
        refine HP2.out.mono ?_
        rintro e w4 ⟨rfl, v4, hx4, hb4⟩
        have HX4 := Lib.hid hx4
        have HB4 := Lib.hid hb4
        clear hx4 hb4
        go_wp2
        go_roundw
        case rel => exact ⟨j + 1, v4, by omega, by go_num, by rw [HNX2.out]; exact HX4.out, HB4.out⟩
        case measure => simp [intOf]; omega
    · have hjn : j = n := by omega
      subst hjn
      have c0 : wr.cell? ⟨g, 0, none⟩ = some v := by rw [cell_of_row wr g 0 _ _ _ HX.out.blk]; rfl
      go_wp2
      go_ret
      exact ⟨_, rfl, by first | exact HX.out.ow | (rw [HG.out]; exact HX.out.ow), by first | exact HB.out | (rw [HG.out]; exact HB.out)⟩
set_option maxHeartbeats 4000000 in
theorem many_any (w : World) (A : Option Addr) (n d : Nat) (os : List Rw) (k : Int) (h : RRow w A n os) (hsm : tot (os.map Rw.rs) + n ≤ 2000) :
    Calls Try.prog 81 #[.slice A n d, .int .i64 k] w (Gives w (behUp k (os.map Rw.rs) n)) := by
  have hl2 := h.1.2.1
  have HH := Lib.hid h
  have HL := Lib.hid h.1.1
  have HSM := Lib.hid hsm
  have hn2 : n ≤ 2000 := by omega
  obtain ⟨g, hg⟩ : ∃ g, w.heap.size = g := ⟨_, rfl⟩
  have HG := Lib.hid hg
  have HB0 := Lib.hid (show Below g w (w.alloc (.cells #[] 78)) by rw [← hg]; exact (Below.refl _ _).alloc (Nat.le_refl _) _)
  have HO0 := Lib.hid (World.ownsRow_made (base := g) (e := 78) (size := 5) w #[] 0 (Nat.le_of_eq HG.out.symm) (by decide) (by simp))
  rw [hg] at HO0
  unfold Gives
  clear h hsm
  go_enter Try.func81, Try.ntmps81
  go_wp2
  clear hg
  go_loopw [5, 6] (fun v i wr => ∃ (j : Nat), j ≤ n ∧ i = .int .i64 (j : Int) ∧ wr.ownsRow g 78 5 v (behUp k (os.map Rw.rs) j).length ((behUp k (os.map Rw.rs) j).flatMap rxC) ∧ Below g w wr) (fun _ i _ => n - (intOf i).toNat)
  case atStart => exact ⟨0, by omega, rfl, HO0.out, HB0.out⟩
  case round =>
    obtain ⟨j, hj, rfl, hown, hb⟩ := hrel
    clear HO0 HB0
    have HO := Lib.hid hown
    have HB := Lib.hid hb
    have hgl : g ≤ wr.heap.size := by have := HG.out; have := hb.size; omega
    have HLEN : Hid ((behUp k (os.map Rw.rs) j).length ≤ 2000) := Lib.hid (by have := beh_len k (os.map Rw.rs) j; have h2 := tot_take (os.map Rw.rs) j; have := HSM.out; omega)
    clear hown hb
    by_cases hlt : j < n
    · obtain ⟨b1, o1, o, rfl, hbl, ho, hc⟩ := HH.out.1.at_ hlt
      have hbg : b1 < g := by have := HG.out; omega
      have HR := Lib.hid (HH.out.2 o (List.mem_of_getElem? ho))
      have HNX := Lib.hid (beh_next (k := k) ho)
      have HTA : Hid (o.rs.length ≤ 2000) := Lib.hid (by have := tot_at (ls := os.map Rw.rs) (j := j) (l := o.rs) (by rw [List.getElem?_map, ho]; rfl); have := HSM.out; omega)
      obtain ⟨oa, ol, oc, ors⟩ := o
      dsimp only at HR HNX HTA
      have HOL := Lib.hid HR.out.1
      have c0 : wr.cell? ⟨b1, o1 + j, none⟩ = some (.slice oa ol oc) := (HB.out.cell (p := ⟨b1, o1 + j, none⟩) hbg).trans (by have := hc 0 _ rfl; simpa using this)
      have HAP := Lib.hid (app_rxs HO.out (HR.out.below (by rw [HG.out]; exact HB.out)) (c := oc) (by have := HLEN.out; have := HTA.out; have := HOL.out; omega) hgl)
      have h0 : (0 : Int) ≤ (j : Int) := by omega
      have h1 : (j : Int) < (n : Int) := by omega
      clear hc ho
      obtain ⟨xs, hxs⟩ : ∃ xs, behUp k (os.map Rw.rs) j = xs := ⟨_, rfl⟩
      rw [hxs] at HAP HNX HLEN
      clear hxs
      by_cases hj0 : j = 0
      · have q1 : ¬ 0 < j := by omega
        have q2 : decide (0 < j) = false := decide_eq_false q1
        have HNX2 : Hid (behUp k (os.map Rw.rs) (j + 1) = xs ++ ors) := Lib.hid (by rw [HNX.out, if_neg q1]; simp)
        clear hj0
        go_wp2_with (at_builtin; refine HAP.out _ _ _ _ _ rfl _ _ rfl rfl rfl ?_; intro v2 w2 hown1 hgrow hat; have HW := Lib.hid hown1; have HBW := Lib.hid (below_grown HB.out hgl hgrow (fun j hj => (own_ge HO.out hj).1)); clear hown1 hgrow hat)
        go_roundw
        case rel => exact ⟨j + 1, by omega, by go_num, by rw [HNX2.out, List.length_append, HOL.out]; exact HW.out, HBW.out⟩
        case measure => simp [intOf]; omega
      · have q1 : 0 < j := by omega
        have q2 : decide (0 < j) = true := decide_eq_true q1
        have HNX2 : Hid (behUp k (os.map Rw.rs) (j + 1) = (xs ++ ors) ++ [stp0 k]) := Lib.hid (by rw [HNX.out, if_pos q1, List.append_assoc])
        clear hj0
        go_wp2_with (first
          | (at_builtin; refine HAP.out _ _ _ _ _ rfl _ _ rfl rfl rfl ?_; intro v2 w2 hown1 hgrow hat; have HW := Lib.hid hown1; have HBW := Lib.hid (below_grown HB.out hgl hgrow (fun j hj => (own_ge HO.out hj).1)); have hg2 : g ≤ w2.heap.size := (by have := HBW.out.size; have := HG.out; omega); have HA3 := Lib.hid (app_rx HW.out k (by have := HLEN.out; have := HTA.out; have := HOL.out; omega) hg2 w2.heap.size rfl); clear hown1 hgrow hat)
          | (at_builtin; refine HA3.out _ _ _ _ _ rfl _ _ rfl rfl rfl ?_; intro gg cap w3 hown2 hgrow2 hat2; have HW2 := Lib.hid hown2; have HBW2 := Lib.hid (below_grown (HBW.out.alloc hg2 (.cells #[.int .i64 k, .int .u64 0, .int .u64 0, .int .u64 0, .int .u64 0] 78)) (by simp; omega) hgrow2 (fun j hj => (own_ge HW.out hj).1)); clear hown2 hgrow2 hat2))
        go_roundw
        case rel => exact ⟨j + 1, by omega, by go_num, by rw [HNX2.out, List.length_append, List.length_append, HOL.out]; exact HW2.out, HBW2.out⟩
        case measure => simp [intOf]; omega
    · have hjn : j = n := by omega
      subst hjn
      go_wp2
      go_ret
      exact ⟨_, rfl, by first | exact HO.out | (rw [HG.out]; exact HO.out), by first | exact HB.out | (rw [HG.out]; exact HB.out)⟩
end Go.Proofs.Ytbefndibkpjgaaa
/- Matrices of truths, in rows of their own: how they lie; the document's none, same. -/
namespace Go.Proofs.Ytbefndibkpjgaaa
open Go.RowKit
set_option linter.unusedVariables false
set_option linter.unusedSimpArgs false

theorem infoBools : (Try.prog.info? 48).map (fun i => (i.zero, i.size, i.bytes)) = some (some (.slice none 0 0), 1, 24) := by kernel_rfl
theorem infoBool9 : (Try.prog.info? 4).map (fun i => (i.zero, i.size, i.bytes)) = some (some (.bool false), 1, 1) := by kernel_rfl
/-- The cells of a row of a matrix. -/
def rowA (m : Nat) (f : Mx) (p : Nat) : Array Value := ((List.range m).map fun q => Value.bool (f p q)).toArray
theorem rowA_at (m : Nat) (f : Mx) (p q : Nat) (h : q < m) : (rowA m f p)[q]? = some (.bool (f p q)) := by
  unfold rowA; simp [h]
theorem rowA_size (m : Nat) (f : Mx) (p : Nat) : (rowA m f p).size = m := by simp [rowA]
theorem rowA_ext {m : Nat} {f f' : Mx} {p : Nat} (h : ∀ q, q < m → f p q = f' p q) : rowA m f p = rowA m f' p := by
  unfold rowA
  congr 1
  refine List.map_congr_left fun q hq => ?_
  rw [h q (List.mem_range.1 hq)]
def updM (f : Mx) (p q : Nat) (v : Bool) : Mx := fun p' q' => if p' = p ∧ q' = q then v else f p' q'
theorem rowA_set {m : Nat} {f : Mx} {p q : Nat} (v : Bool) (hq : q < m) : (rowA m f p).setIfInBounds q (.bool v) = rowA m (updM f p q v) p := by
  apply Array.ext
  · rw [Array.size_setIfInBounds, rowA_size, rowA_size]
  · intro i h1 h2
    have hi : i < m := by rwa [rowA_size] at h2
    have e := rowA_at m (updM f p q v) p i hi
    have e2 : ((rowA m f p).setIfInBounds q (.bool v))[i]? = (rowA m (updM f p q v) p)[i]? := by
      rw [e]
      by_cases hiq : q = i
      · subst hiq
        rw [Array.getElem?_setIfInBounds_self_of_lt (by rw [rowA_size]; exact hq)]
        simp [updM]
      · rw [Array.getElem?_setIfInBounds_ne hiq, rowA_at m f p i hi]
        unfold updM
        rw [if_neg (fun h => hiq h.2.symm)]
    rw [Array.getElem?_eq_getElem h1, Array.getElem?_eq_getElem h2] at e2
    exact Option.some.inj e2
theorem rowA_other {m : Nat} {f : Mx} {p p' q : Nat} {v : Bool} (h : p' ≠ p) : rowA m (updM f p q v) p' = rowA m f p' := rowA_ext fun q' _ => by unfold updM; rw [if_neg (fun e => h e.1)]
theorem rowA_made (m p : Nat) : madeCells #[Value.bool false] m = rowA m (fun _ _ => false) p := by
  apply Array.ext'
  rw [toList_madeCells_one]
  unfold rowA
  show List.replicate m _ = (List.range m).map (fun _ => Value.bool false)
  rw [List.map_const', List.length_range]
/-- A matrix to be read. -/
def MatR (w : World) (A : Option Addr) (m : Nat) (f : Mx) : Prop :=
  ∀ p, p < m → ∃ b off rb ro c, A = some ⟨b, off, none⟩ ∧ b < w.heap.size ∧ w.cell? ⟨b, off + p, none⟩ = some (.slice (some ⟨rb, ro, none⟩) m c) ∧ rb < w.heap.size ∧ ∀ q, q < m → w.cell? ⟨rb, ro + q, none⟩ = some (.bool (f p q))
theorem MatR.below {w w' : World} {A : Option Addr} {m : Nat} {f : Mx} (h : MatR w A m f) (hb : Below w.heap.size w w') : MatR w' A m f := fun p hp => by
  obtain ⟨b, off, rb, ro, c, h1, h2, h3, h4, h5⟩ := h p hp
  exact ⟨b, off, rb, ro, c, h1, by have := hb.size; omega, (hb.cell (p := ⟨b, off + p, none⟩) h2).trans h3, by have := hb.size; omega, fun q hq => (hb.cell (p := ⟨rb, ro + q, none⟩) h4).trans (h5 q hq)⟩
theorem MatR.congr {w : World} {A : Option Addr} {m : Nat} {f f' : Mx} (h : MatR w A m f) (e : ∀ p q, p < m → q < m → f p q = f' p q) : MatR w A m f' := fun p hp => by
  obtain ⟨b, off, rb, ro, c, h1, h2, h3, h4, h5⟩ := h p hp
  exact ⟨b, off, rb, ro, c, h1, h2, h3, h4, fun q hq => by rw [← e p q hp hq]; exact h5 q hq⟩
/-- A row's slice. -/
def slB (m b : Nat) : Sl Bool := ⟨some ⟨b, 0, none⟩, m, m, []⟩
/-- Rows of a matrix, in blocks of their own. -/
structure RowsB (w : World) (B m : Nat) (bs : List Nat) (f : Mx) : Prop where
  at_ : ∀ (p b : Nat), bs[p]? = some b → B ≤ b ∧ b < w.heap.size ∧ w.heap[b]? = some (.cells (rowA m f p) 4 (0, 0))
  nd : bs.Nodup
theorem RowsB.keep {w w' : World} {B m : Nat} {bs : List Nat} {f : Mx} (h : RowsB w B m bs f) (hk : ∀ b ∈ bs, w'.heap[b]? = w.heap[b]?) (hs : w.heap.size ≤ w'.heap.size) : RowsB w' B m bs f :=
  ⟨fun p b hp => by obtain ⟨h1, h2, h3⟩ := h.at_ p b hp; exact ⟨h1, by omega, (hk b (List.mem_of_getElem? hp)).trans h3⟩, h.nd⟩
theorem RowsB.below {w w' : World} {B m : Nat} {bs : List Nat} {f : Mx} (h : RowsB w B m bs f) (hb : Below w.heap.size w w') : RowsB w' B m bs f :=
  h.keep (fun b hm => by obtain ⟨p, hp⟩ := List.getElem?_of_mem hm; exact hb.block b (h.at_ p b hp).2.1) hb.size
/-- A matrix of the call's own. -/
structure MatO (w : World) (B m : Nat) (A : Option Addr) (c : Nat) (bs : List Nat) (f : Mx) : Prop where
  len : bs.length = m
  own : w.ownsRow B 48 1 (.slice A m c) m ((bs.map (slB m)).flatMap seC)
  rows : RowsB w B m bs f
theorem MatO.below {w w' : World} {B m : Nat} {A : Option Addr} {c : Nat} {bs : List Nat} {f : Mx} (h : MatO w B m A c bs f) (hb : Below w.heap.size w w') : MatO w' B m A c bs f := ⟨h.len, ownB h.own hb, h.rows.below hb⟩
theorem MatO.congr {w : World} {B m : Nat} {A : Option Addr} {c : Nat} {bs : List Nat} {f f' : Mx} (h : MatO w B m A c bs f) (e : ∀ p q, p < m → q < m → f p q = f' p q) : MatO w B m A c bs f' :=
  ⟨h.len, h.own, ⟨fun p b hp => by
    obtain ⟨h1, h2, h3⟩ := h.rows.at_ p b hp
    have hpm : p < m := by have := (List.getElem?_eq_some_iff.1 hp).1; rw [h.len] at this; exact this
    exact ⟨h1, h2, by rw [h3, rowA_ext fun q hq => e p q hpm hq]⟩, h.rows.nd⟩⟩
theorem MatO.mono {w : World} {B B' m : Nat} {A : Option Addr} {c : Nat} {bs : List Nat} {f : Mx} (h : MatO w B m A c bs f) (hB : B' ≤ B) : MatO w B' m A c bs f :=
  ⟨h.len, own_mono h.own hB, ⟨fun p b hp => by obtain ⟨h1, h2⟩ := h.rows.at_ p b hp; exact ⟨by omega, h2⟩, h.rows.nd⟩⟩
/-- A row's cells. -/
theorem MatO.cells {w : World} {B m : Nat} {A : Option Addr} {c : Nat} {bs : List Nat} {f : Mx} (h : MatO w B m A c bs f) {p : Nat} (hp : p < m) :
    ∃ g b, A = some ⟨g, 0, none⟩ ∧ bs[p]? = some b ∧ B ≤ g ∧ g < w.heap.size ∧ B ≤ b ∧ b < w.heap.size ∧ w.cell? ⟨g, p, none⟩ = some (.slice (some ⟨b, 0, none⟩) m m) ∧ (∀ q, q < m → w.cell? ⟨b, q, none⟩ = some (.bool (f p q))) ∧ ∀ q, w.frozen? ⟨b, q, none⟩ = false := by
  obtain ⟨g, hA, hBg, hgs, hc⟩ := own_at h.own (by omega)
  have hpl : p < bs.length := by rw [h.len]; exact hp
  have hb : bs[p]? = some bs[p] := List.getElem?_eq_getElem hpl
  obtain ⟨h1, h2, h3⟩ := h.rows.at_ p _ hb
  refine ⟨g, bs[p], hA, hb, hBg, hgs, h1, h2, ?_, fun q hq => ?_, fun q => frozen_of_row w _ q _ _ h3⟩
  · have hm : (bs.map (slB m))[p]? = some (slB m bs[p]) := by rw [List.getElem?_map, hb]; rfl
    have := flat_get (C := seC (α := Bool)) seC_len _ p _ hm 0 _ rfl
    have := hc (p * 1 + 0) _ this
    rw [Nat.mul_one, Nat.add_zero] at this
    exact this
  · rw [cell_of_row w _ q _ _ _ h3, rowA_at m f p q hq]
theorem MatO.read {w : World} {B m : Nat} {A : Option Addr} {c : Nat} {bs : List Nat} {f : Mx} (h : MatO w B m A c bs f) : MatR w A m f := fun p hp => by
  obtain ⟨g, b, h1, _, _, h2, _, h3, h4, h5, _⟩ := h.cells hp
  exact ⟨g, 0, b, 0, m, h1, h2, by rw [Nat.zero_add]; exact h4, h3, fun q hq => by rw [Nat.zero_add]; exact h5 q hq⟩
/-- One truth written. -/
theorem MatO.set {w : World} {B m : Nat} {A : Option Addr} {c : Nat} {bs : List Nat} {f : Mx} (h : MatO w B m A c bs f) {p q b : Nat} (hb : bs[p]? = some b) (hq : q < m) (v : Bool) : MatO (w.setCell ⟨b, q, none⟩ (.bool v)) B m A c bs (updM f p q v) := by
  obtain ⟨h1, h2, h3⟩ := h.rows.at_ p b hb
  refine ⟨h.len, own_keep h.own fun k cur hk hc => ?_, ⟨fun p' b' hp' => ?_, h.rows.nd⟩⟩
  · refine heap_setCell_other w ⟨b, q, none⟩ k _ fun e => ?_
    have e : k = b := e
    subst e
    have := h3.symm.trans hc
    have := Option.some.inj this
    injection this with _ h5 _
    exact absurd h5 (by decide)
  · obtain ⟨k1, k2, k3⟩ := h.rows.at_ p' b' hp'
    refine ⟨k1, by simpa using k2, ?_⟩
    by_cases e : p' = p
    · subst e
      have e2 : b' = b := by rw [hb] at hp'; exact (Option.some.inj hp').symm
      subst e2
      rw [heap_setCell_same w b' q _ _ _ h3, rowA_set v hq]
    · have hne : b' ≠ b := fun e2 => by
        subst e2
        have l1 := (List.getElem?_eq_some_iff.1 hb).1
        have l2 := (List.getElem?_eq_some_iff.1 hp').1
        exact e ((List.getElem_inj (h₀ := l2) (h₁ := l1) h.rows.nd).1 (by
          have a1 := (List.getElem?_eq_some_iff.1 hb).2
          have a2 := (List.getElem?_eq_some_iff.1 hp').2
          rw [a1, a2]))
      rw [heap_setCell_other w ⟨b, q, none⟩ b' _ hne, k3, rowA_other e]
theorem MatO.set_below {w : World} {B m : Nat} {A : Option Addr} {c : Nat} {bs : List Nat} {f : Mx} (h : MatO w B m A c bs f) {p b : Nat} (hb : bs[p]? = some b) (q : Nat) (v : Value) : Below B w (w.setCell ⟨b, q, none⟩ v) :=
  (Below.refl B w).setCell (p := ⟨b, q, none⟩) (h.rows.at_ p b hb).1 v
/-- A matrix is handed out. -/
def GivM (w : World) (m : Nat) (f : Mx) (e : Ending) (w' : World) : Prop := ∃ A c, e = .returned (.slice A m c) ∧ MatR w' A m f ∧ Below w.heap.size w w'
theorem GivM.mk {w w' : World} {m : Nat} {f : Mx} {A : Option Addr} {c : Nat} (h : MatR w' A m f) (hb : Below w.heap.size w w') : GivM w m f (.returned (.slice A m c)) w' := ⟨A, c, rfl, h, hb⟩
/-- A matrix of the call's own is handed out. -/
def GivO (w : World) (m : Nat) (f : Mx) (e : Ending) (w' : World) : Prop := ∃ A c bs, e = .returned (.slice A m c) ∧ MatO w' w.heap.size m A c bs f ∧ Below w.heap.size w w'
theorem GivO.mk {w w' : World} {m : Nat} {f : Mx} {A : Option Addr} {c : Nat} {bs : List Nat} (h : MatO w' w.heap.size m A c bs f) (hb : Below w.heap.size w w') : GivO w m f (.returned (.slice A m c)) w' := ⟨A, c, bs, rfl, h, hb⟩
set_option maxHeartbeats 1000000 in
theorem none9_any (w : World) (s : ByteArray) (m : Nat) (hm : (s.size : Int) + 1 = (m : Int)) (hn : s.size ≤ 1000) :
    Calls Try.prog 71 #[.string s] w fun e w' => GivO w m (fun _ _ => false) e w' := by
  obtain ⟨g, hg⟩ : ∃ g, w.heap.size = g := ⟨_, rfl⟩
  have HG := Lib.hid hg
  have HB0 := Lib.hid (show Below g w (w.alloc (.cells #[] 48)) by rw [← hg]; exact (Below.refl _ _).alloc (Nat.le_refl _) _)
  have HO0 := Lib.hid (own_zero w g 48 1 (by omega))
  obtain ⟨i0, hi, hz0, hz1, hz2⟩ := info_parts infoBool9
  clear hg
  go_enter Try.func71, Try.ntmps71
  go_wp2
  go_loopw [3, 4] (fun u i wr => ∃ (bs : List Nat) (k : Nat), k ≤ m ∧ bs.length = k ∧ i = .int .i64 (k : Int) ∧ wr.ownsRow g 48 1 u k ((bs.map (slB m)).flatMap seC) ∧ RowsB wr g m bs (fun _ _ => false) ∧ Below g w wr) (fun _ i _ => m - (intOf i).toNat)
  case atStart => exact ⟨[], 0, by omega, rfl, rfl, by simpa using HO0.out, ⟨fun p b h => by simp at h, by simp⟩, HB0.out⟩
  case round =>
    obtain ⟨bs, k, hk, hlen, rfl, hown, hrows, hb⟩ := hrel
    clear HO0 HB0
    have HF := Lib.hid (own_form hown)
    have HOW := Lib.hid hown
    have HRW := Lib.hid hrows
    have HB := Lib.hid hb
    have HLEN := Lib.hid hlen
    have hgl : g ≤ wr.heap.size := by have := HG.out; have := hb.size; omega
    clear hown hb hrows hlen
    obtain ⟨A, cc, rfl, hle, hcc⟩ := HF.out
    clear HF
    by_cases hlt : k < m
    · have h1 : (k : Int) ≤ (s.size : Int) := by omega
      have HW1 := Lib.hid (HOW.out.alloc (.cells (madeCells #[Value.bool false] m) 4))
      have HAP := Lib.hid (app_el (P := Try.prog) (C := seC (α := Bool)) (T := 58) (by decide) seC_len seC_one Try.underlying58 infoBools rfl HW1.out (slB m wr.heap.size) (by unfold maxLen; omega) (by omega) (by simp; omega) (wr.heap.size + 1) (by simp) #[.slice (some ⟨wr.heap.size, 0, none⟩) m m] rfl)
      have HBA := Lib.hid (HB.out.alloc hgl (.cells (madeCells #[Value.bool false] m) 4))
      go_wp2_with (first
        | (at_make; refine wpList_make_row wr rfl _ _ 48 rfl 4 i0 (.bool false) Try.underlying48 hi hz0 hz1 rfl .i64 .i64 m rfl rfl (by rw [hz2]; omega) (by omega) ?_)
        | (at_builtin; refine HAP.out _ _ _ _ _ rfl _ _ rfl rfl rfl ?_; intro gg cap w3 hown1 hgrow hat; have HW := Lib.hid hown1; have HGR := Lib.hid hgrow; have HB3 := Lib.hid (below_grown (HBA.out.alloc (by simp; omega) _) (by simp; omega) hgrow (fun j hj => (own_ge HW1.out hj).1)); clear hown1 hgrow hat))
      go_roundw
      case rel =>
        refine ⟨bs ++ [wr.heap.size], k + 1, by omega, by simp [HLEN.out], by go_num, by rw [List.map_append]; exact HW.out, ?_, HB3.out⟩
        have hold : ∀ b, b < wr.heap.size + 2 → (∀ cur, wr.heap[b]? ≠ some (.cells cur 48 (0, 0))) → w3.heap[b]? = ((wr.alloc (.cells (madeCells #[Value.bool false] m) 4)).alloc (.cells #[.slice (some ⟨wr.heap.size, 0, none⟩) m m] 48)).heap[b]? := fun b hb hne => by
          refine HGR.out.block b (by simp; omega) fun e => ?_
          obtain ⟨cur, hc⟩ := own_obj HOW.out e.symm
          exact hne cur hc
        have hnew : w3.heap[wr.heap.size]? = some (.cells (rowA m (fun _ _ => false) k) 4 (0, 0)) := by
          rw [hold _ (by omega) (fun cur h => by rw [Array.getElem?_eq_none (by omega)] at h; cases h), Below.heap_alloc _ _ _ (by simp), heap_alloc_new, rowA_made m k]
        have hsz : wr.heap.size + 2 ≤ w3.heap.size := by have := HGR.out.size; simpa using this
        refine ⟨fun p b hp => ?_, ?_⟩
        · by_cases hpl : p < bs.length
          · rw [List.getElem?_append_left hpl] at hp
            obtain ⟨h1, h2, h3⟩ := HRW.out.at_ p b hp
            refine ⟨h1, by omega, ?_⟩
            rw [hold b (by omega) (fun cur h => by rw [h3] at h; have := Option.some.inj h; injection this with _ h5 _; exact absurd h5 (by decide)), Below.heap_alloc _ _ _ (by simp; omega), Below.heap_alloc _ _ _ h2, h3]
          · rw [List.getElem?_append_right (by omega)] at hp
            have h0 := (List.getElem?_eq_some_iff.1 hp).1
            simp at h0
            have e : p = k := by have := HLEN.out; omega
            rw [show p - bs.length = 0 by omega] at hp
            simp only [List.getElem?_cons_zero, Option.some.injEq] at hp
            subst hp e
            exact ⟨hgl, by omega, hnew⟩
        · rw [List.nodup_append]
          refine ⟨HRW.out.nd, by simp, fun a ha b hb => ?_⟩
          rw [List.mem_singleton] at hb
          subst hb
          obtain ⟨p, hp⟩ := List.getElem?_of_mem ha
          have := (HRW.out.at_ p a hp).2.1
          omega
      case measure => simp [intOf]; omega
    · have hk2 : k = m := by omega
      have h1 : ¬ (k : Int) ≤ (s.size : Int) := by omega
      subst hk2
      go_wp2
      go_ret
      exact GivO.mk (bs := bs) (by rw [HG.out]; exact ⟨HLEN.out, HOW.out, HRW.out⟩) (by rw [HG.out]; exact HB.out)
end Go.Proofs.Ytbefndibkpjgaaa
/- The machine: how it lies. -/
namespace Go.Proofs.Ytbefndibkpjgaaa
open Go.RowKit
set_option linter.unusedVariables false

def setC (S : Nat → Bool) : List Value := [.int .u64 (wd S 0), .int .u64 (wd S 1), .int .u64 (wd S 2), .int .u64 (wd S 3)]
theorem setC_len (S : Nat → Bool) : (setC S).length = 4 := rfl
theorem setC_one (S : Nat → Bool) : ∀ u ∈ setC S, u.oneCell' = true := fun u hu => by
  simp only [setC, List.mem_cons, List.not_mem_nil, or_false] at hu
  rcases hu with rfl | rfl | rfl | rfl <;> rfl
theorem setC_empty : setC emptyS = [.int .u64 0, .int .u64 0, .int .u64 0, .int .u64 0] := by simp [setC, wd_emptyS]
theorem infoInts9 : (Try.prog.info? 27).map (fun i => (i.zero, i.size, i.bytes)) = some (some (.slice none 0 0), 1, 24) := by kernel_rfl
def apartR (r s : RowD) : Prop := ∀ k, r.v.ownBlock = some k → s.v.ownBlock ≠ some k
theorem apartR_symm {r s : RowD} (h : apartR r s) : apartR s r := fun k hk e => h k e hk
theorem apart_pw {rs : List RowD} : (∀ (i j : Nat) (r s : RowD), rs[i]? = some r → rs[j]? = some s → i ≠ j → ∀ k, r.v.ownBlock = some k → s.v.ownBlock ≠ some k) ↔ rs.Pairwise apartR := by
  rw [List.pairwise_iff_getElem]
  constructor
  · intro h i j hi hj hij
    exact h i j _ _ (List.getElem?_eq_getElem hi) (List.getElem?_eq_getElem hj) (by omega)
  · intro h i j r s hr hs hne
    obtain ⟨hi, rfl⟩ := List.getElem?_eq_some_iff.1 hr
    obtain ⟨hj, rfl⟩ := List.getElem?_eq_some_iff.1 hs
    rcases Nat.lt_or_gt_of_ne hne with hl | hl
    · exact h i j hi hj hl
    · exact apartR_symm (h j i hj hi hl)
theorem RowsD.perm {B : Nat} {w : World} {rs rs' : List RowD} (h : RowsD B w rs) (hp : rs.Perm rs') : RowsD B w rs' :=
  ⟨fun r hr => h.own r (hp.mem_iff.2 hr), apart_pw.2 ((hp.pairwise_iff (fun h => apartR_symm h)).1 (apart_pw.1 h.apart))⟩
theorem RowsD.sub {B : Nat} {w : World} {rs rs' : List RowD} (h : RowsD B w rs) (hp : rs'.Sublist rs) : RowsD B w rs' :=
  ⟨fun r hr => h.own r (hp.subset hr), apart_pw.2 ((apart_pw.1 h.apart).sublist hp)⟩
/-- Rows that are apart, one of which has grown and is put into the box. -/
theorem rows_put {B X : Nat} {w wa w1 : World} {rs : List RowD} {i : Nat} {r r' : RowD} {cs : Array Value} {t : TypeId} (h : RowsD B w rs) (hX : X < B) (hB : B ≤ w.heap.size) (hbox : w.heap[X]? = some (.cells cs t (0, 0))) (hb : Below w.heap.size w wa)
    (hi : rs[i]? = some r) (hg : wa.grownBy w1 r.v.ownBlock) (hr' : r'.at_ B w1) (hv : r'.v.ownBlock = r.v.ownBlock ∨ ∃ b, r'.v.ownBlock = some b ∧ w.heap.size ≤ b) (j : Nat) :
    RowsD B (w1.setCell ⟨X, j, none⟩ r'.v) (rs.set i r') ∧ (w1.setCell ⟨X, j, none⟩ r'.v).heap[X]? = some (.cells (cs.setIfInBounds j r'.v) t (0, 0)) ∧ B ≤ (w1.setCell ⟨X, j, none⟩ r'.v).heap.size := by
  have h1 := h.grow hb hi hg hr' hv
  have hxn : ∀ k, r.v.ownBlock = some k → k ≠ X := fun k hk => by have := ((h.own r (List.mem_of_getElem? hi)).lt k hk).1; omega
  have h2 : wa.heap[X]? = w.heap[X]? := hb.block X (by omega)
  have h3 : w1.heap[X]? = wa.heap[X]? := hg.block X (by have := hb.size; omega) (fun e => hxn X e.symm rfl)
  have hx1 : w1.heap[X]? = some (.cells cs t (0, 0)) := h3.trans (h2.trans hbox)
  have hs : w.heap.size ≤ w1.heap.size := by have := hb.size; have := hg.size; omega
  refine ⟨h1.kept fun s hs k hk => heap_setCell_other _ _ _ _ ?_, heap_setCell_same w1 X j cs t r'.v hx1, by simp; omega⟩
  have := ((h1.own s hs).lt k hk).1
  show k ≠ X
  omega
def nil9 : Sl Int := ⟨none, 0, 0, []⟩
def inn9 (o : Sl Int) : RowD := ⟨3, 1, .slice o.a o.l o.c, o.l, o.xs.flatMap intC⟩
def base3 (os : List (Sl Int)) (se : List (Nat → Bool)) (by_ : List Bool) (fv sv bv : Value) : List RowD :=
  [⟨27, 1, fv, os.length, os.flatMap seC⟩, ⟨33, 4, sv, se.length, se.flatMap setC⟩, ⟨4, 1, bv, by_.length, by_.flatMap bolC⟩]
/-- A machine's box, its rows, each state's own row, and other rows, all apart. -/
structure MB (X : Nat) (w : World) (os : List (Sl Int)) (se : List (Nat → Bool)) (by_ : List Bool) (fv sv bv : Value) (rest : List RowD) : Prop where
  box : w.heap[X]? = some (.cells #[fv, sv, bv] 50 (0, 0))
  rows : RowsD (X + 1) w (base3 os se by_ fv sv bv ++ (rest ++ os.map inn9))
  len : ∀ o ∈ os, o.l = o.xs.length
  le : X + 1 ≤ w.heap.size
/-- The machine, plain. -/
structure Mc where
  fr : List (List Int)
  se : List (Nat → Bool)
  by_ : List Bool
def MX (X : Nat) (w : World) (M : Mc) (rest : List RowD) : Prop := ∃ os fv sv bv, MB X w os M.se M.by_ fv sv bv rest ∧ M.fr = os.map Sl.xs ∧ M.se.length = M.fr.length ∧ M.by_.length = M.fr.length
section
variable {X : Nat} {w w' wa w1 : World} {os : List (Sl Int)} {se : List (Nat → Bool)} {by_ : List Bool} {fv sv bv : Value} {rest : List RowD}
theorem b3 {tl : List RowD} : (base3 os se by_ fv sv bv ++ tl)[0]? = some ⟨27, 1, fv, os.length, os.flatMap seC⟩ ∧ (base3 os se by_ fv sv bv ++ tl)[1]? = some ⟨33, 4, sv, se.length, se.flatMap setC⟩ ∧ (base3 os se by_ fv sv bv ++ tl)[2]? = some ⟨4, 1, bv, by_.length, by_.flatMap bolC⟩ := ⟨rfl, rfl, rfl⟩
theorem MB.below (h : MB X w os se by_ fv sv bv rest) (hb : Below w.heap.size w w') : MB X w' os se by_ fv sv bv rest :=
  ⟨(hb.block X (by have := h.le; omega)).trans h.box, h.rows.below hb, h.len, by have := hb.size; have := h.le; omega⟩
theorem MX.below {M : Mc} (h : MX X w M rest) (hb : Below w.heap.size w w') : MX X w' M rest := by
  obtain ⟨os, fv, sv, bv, hm, r⟩ := h; exact ⟨os, fv, sv, bv, hm.below hb, r⟩
theorem MB.own (h : MB X w os se by_ fv sv bv rest) : w.ownsRow (X + 1) 27 1 fv os.length (os.flatMap seC) ∧ w.ownsRow (X + 1) 33 4 sv se.length (se.flatMap setC) ∧ w.ownsRow (X + 1) 4 1 bv by_.length (by_.flatMap bolC) :=
  ⟨h.rows.own _ (List.mem_of_getElem? b3.1), h.rows.own _ (List.mem_of_getElem? b3.2.1), h.rows.own _ (List.mem_of_getElem? b3.2.2)⟩
theorem MB.forms (h : MB X w os se by_ fv sv bv rest) : (∃ a c, fv = .slice a os.length c ∧ os.length ≤ c ∧ c ≤ 9223372036854775807) ∧ (∃ a c, sv = .slice a se.length c ∧ se.length ≤ c ∧ c ≤ 9223372036854775807) ∧ (∃ a c, bv = .slice a by_.length c ∧ by_.length ≤ c ∧ c ≤ 9223372036854775807) :=
  ⟨own_form h.own.1, own_form h.own.2.1, own_form h.own.2.2⟩
theorem MB.cell (h : MB X w os se by_ fv sv bv rest) : w.cell? ⟨X, 0, none⟩ = some fv ∧ w.cell? ⟨X, 1, none⟩ = some sv ∧ w.cell? ⟨X, 2, none⟩ = some bv :=
  ⟨by rw [cell_of_row w X 0 _ _ _ h.box]; rfl, by rw [cell_of_row w X 1 _ _ _ h.box]; rfl, by rw [cell_of_row w X 2 _ _ _ h.box]; rfl⟩
theorem MB.fz (h : MB X w os se by_ fv sv bv rest) (j : Nat) : w.frozen? ⟨X, j, none⟩ = false := frozen_of_row w X j _ _ h.box
theorem MB.ne (h : MB X w os se by_ fv sv bv rest) : fv.ownBlock ≠ some X ∧ sv.ownBlock ≠ some X ∧ bv.ownBlock ≠ some X :=
  ⟨fun e => by have := (h.own.1.lt _ e).1; omega, fun e => by have := (h.own.2.1.lt _ e).1; omega, fun e => by have := (h.own.2.2.lt _ e).1; omega⟩
/-- A state more: its row. -/
theorem MB.put_f (h : MB X w os se by_ fv sv bv rest) (hb : Below w.heap.size w wa) (hg : wa.grownBy w1 fv.ownBlock) {v : Value}
    (ho : w1.ownsRow (X + 1) 27 1 v (os.length + 1) ((os ++ [nil9]).flatMap seC)) (hv : v.ownBlock = fv.ownBlock ∨ ∃ b, v.ownBlock = some b ∧ w.heap.size ≤ b) : MB X (w1.setCell ⟨X, 0, none⟩ v) (os ++ [nil9]) se by_ v sv bv rest := by
  obtain ⟨h1, h2, h3⟩ := rows_put (r' := ⟨27, 1, v, os.length + 1, (os ++ [nil9]).flatMap seC⟩) h.rows (Nat.lt_succ_self X) h.le h.box hb b3.1 hg ho hv 0
  refine ⟨h2, ?_, fun o ho => ?_, h3⟩
  · have h4 := h1.add (Below.refl _ _) (r := inn9 nil9) (own_none _ _ _ _) h3
    have e : (base3 os se by_ fv sv bv ++ (rest ++ os.map inn9)).set 0 ⟨27, 1, v, os.length + 1, (os ++ [nil9]).flatMap seC⟩ ++ [inn9 nil9] = base3 (os ++ [nil9]) se by_ v sv bv ++ (rest ++ (os ++ [nil9]).map inn9) := by simp [base3]
    rw [← e]; exact h4
  · rcases List.mem_append.1 ho with ho | ho
    · exact h.len o ho
    · rw [List.mem_singleton] at ho; subst ho; rfl
theorem MB.put_s (h : MB X w os se by_ fv sv bv rest) (hb : Below w.heap.size w wa) (hg : wa.grownBy w1 sv.ownBlock) {v : Value} {S : Nat → Bool}
    (ho : w1.ownsRow (X + 1) 33 4 v (se.length + 1) ((se ++ [S]).flatMap setC)) (hv : v.ownBlock = sv.ownBlock ∨ ∃ b, v.ownBlock = some b ∧ w.heap.size ≤ b) : MB X (w1.setCell ⟨X, 1, none⟩ v) os (se ++ [S]) by_ fv v bv rest := by
  obtain ⟨h1, h2, h3⟩ := rows_put (r' := ⟨33, 4, v, se.length + 1, (se ++ [S]).flatMap setC⟩) h.rows (Nat.lt_succ_self X) h.le h.box hb b3.2.1 hg ho hv 1
  refine ⟨h2, ?_, h.len, h3⟩
  have e : (base3 os se by_ fv sv bv ++ (rest ++ os.map inn9)).set 1 ⟨33, 4, v, se.length + 1, (se ++ [S]).flatMap setC⟩ = base3 os (se ++ [S]) by_ fv v bv ++ (rest ++ os.map inn9) := by simp [base3]
  rw [e] at h1; exact h1
theorem MB.put_b (h : MB X w os se by_ fv sv bv rest) (hb : Below w.heap.size w wa) (hg : wa.grownBy w1 bv.ownBlock) {v : Value} {z : Bool}
    (ho : w1.ownsRow (X + 1) 4 1 v (by_.length + 1) ((by_ ++ [z]).flatMap bolC)) (hv : v.ownBlock = bv.ownBlock ∨ ∃ b, v.ownBlock = some b ∧ w.heap.size ≤ b) : MB X (w1.setCell ⟨X, 2, none⟩ v) os se (by_ ++ [z]) fv sv v rest := by
  obtain ⟨h1, h2, h3⟩ := rows_put (r' := ⟨4, 1, v, by_.length + 1, (by_ ++ [z]).flatMap bolC⟩) h.rows (Nat.lt_succ_self X) h.le h.box hb b3.2.2 hg ho hv 2
  refine ⟨h2, ?_, h.len, h3⟩
  have e : (base3 os se by_ fv sv bv ++ (rest ++ os.map inn9)).set 2 ⟨4, 1, v, by_.length + 1, (by_ ++ [z]).flatMap bolC⟩ = base3 os se (by_ ++ [z]) fv sv v ++ (rest ++ os.map inn9) := by simp [base3]
  rw [e] at h1; exact h1
/-- Another row beside them. -/
theorem MB.add (h : MB X w os se by_ fv sv bv rest) (hb : Below w.heap.size w w') {r : RowD} (hr : w'.ownsRow w.heap.size r.e r.k r.v r.n r.xs) : MB X w' os se by_ fv sv bv (rest ++ [r]) := by
  have h' := h.below hb
  refine ⟨h'.box, ?_, h.len, h'.le⟩
  refine (h.rows.add hb hr h.le).perm ?_
  rw [List.append_assoc, List.append_assoc, List.append_assoc]
  exact List.Perm.append_left _ (List.Perm.append_left _ List.perm_append_comm)
theorem MX.add {M : Mc} (h : MX X w M rest) (hb : Below w.heap.size w w') {r : RowD} (hr : w'.ownsRow w.heap.size r.e r.k r.v r.n r.xs) : MX X w' M (rest ++ [r]) := by
  obtain ⟨os, fv, sv, bv, hm, q⟩ := h; exact ⟨os, fv, sv, bv, hm.add hb hr, q⟩
theorem MX.le {M : Mc} (h : MX X w M rest) : X + 1 ≤ w.heap.size := by obtain ⟨os, fv, sv, bv, hm, q⟩ := h; exact hm.le
theorem MX.keep {M : Mc} (h : MX X w M rest) {r : RowD} (hr : r ∈ rest) : w.ownsRow (X + 1) r.e r.k r.v r.n r.xs := by
  obtain ⟨os, fv, sv, bv, hm, q⟩ := h
  exact hm.rows.own _ (List.mem_append_right _ (List.mem_append_left _ hr))
end
end Go.Proofs.Ytbefndibkpjgaaa
/- The machine's own blocks; what a step of it leaves as it is. -/
namespace Go.Proofs.Ytbefndibkpjgaaa
open Go.RowKit
set_option linter.unusedVariables false

/-- Block k is one of the machine's in box X. -/
def OwnS (X : Nat) (w : World) (k : Nat) : Prop :=
  (∃ j v, w.cell? ⟨X, j, none⟩ = some v ∧ v.ownBlock = some k) ∨ ∃ bF m c i v, w.cell? ⟨X, 0, none⟩ = some (.slice (some ⟨bF, 0, none⟩) m c) ∧ i < m ∧ w.cell? ⟨bF, i, none⟩ = some v ∧ v.ownBlock = some k
/-- All else is kept. -/
def KeepsR (X : Nat) (w w' : World) : Prop := w.heap.size ≤ w'.heap.size ∧ ∀ k, k < w.heap.size → k ≠ X → ¬ OwnS X w k → w'.heap[k]? = w.heap[k]? ∧ ¬ OwnS X w' k
theorem KeepsR.refl (X : Nat) (w : World) : KeepsR X w w := ⟨Nat.le_refl _, fun k _ _ h => ⟨rfl, h⟩⟩
theorem KeepsR.trans {X : Nat} {a b c : World} (h : KeepsR X a b) (g : KeepsR X b c) : KeepsR X a c :=
  ⟨Nat.le_trans h.1 g.1, fun k h1 h2 h3 => by
    obtain ⟨e1, n1⟩ := h.2 k h1 h2 h3
    obtain ⟨e2, n2⟩ := g.2 k (Nat.lt_of_lt_of_le h1 h.1) h2 n1
    exact ⟨e2.trans e1, n2⟩⟩
section
variable {X : Nat} {w w' wa w1 : World} {os : List (Sl Int)} {se : List (Nat → Bool)} {by_ : List Bool} {fv sv bv : Value} {rest : List RowD}
theorem MB.ownS (h : MB X w os se by_ fv sv bv rest) (k : Nat) : OwnS X w k ↔ ∃ r ∈ base3 os se by_ fv sv bv ++ os.map inn9, r.v.ownBlock = some k := by
  have hc : ∀ j v, w.cell? ⟨X, j, none⟩ = some v ↔ (#[fv, sv, bv] : Array Value)[j]? = some v := fun j v => by rw [cell_of_row w X j _ _ _ h.box]
  constructor
  · rintro (⟨j, v, hv, hk⟩ | ⟨bF, m, c, i, v, h0, him, hv, hk⟩)
    · rw [hc] at hv
      match j, hv with
      | 0, hv => simp at hv; subst hv; exact ⟨_, List.mem_append_left _ (.head _), hk⟩
      | 1, hv => simp at hv; subst hv; exact ⟨_, List.mem_append_left _ (.tail _ (.head _)), hk⟩
      | 2, hv => simp at hv; subst hv; exact ⟨_, List.mem_append_left _ (.tail _ (.tail _ (.head _))), hk⟩
      | j + 3, hv => simp at hv
    · rw [hc] at h0
      simp at h0
      obtain ⟨a, c', e, _, _⟩ := h.forms.1
      rw [h0] at e
      injection e with e1 e2 e3
      subst e2
      have hi : i < os.length := him
      have ho := h.own.1
      rw [h0] at ho
      obtain ⟨g', e4, _, _, hcc⟩ := own_at ho (by omega)
      injection e4 with e4
      injection e4 with e4
      subst e4
      obtain ⟨o, ho'⟩ : ∃ o, os[i]? = some o := ⟨_, List.getElem?_eq_getElem hi⟩
      have := hcc i _ (by have := flat_get seC_len os i o ho' 0 (.slice o.a o.l o.c) rfl; simpa using this)
      rw [hv] at this
      obtain rfl := Option.some.inj this
      exact ⟨inn9 o, List.mem_append_right _ (List.mem_map_of_mem (List.mem_of_getElem? ho')), hk⟩
  · rintro ⟨r, hr, hk⟩
    rcases List.mem_append.1 hr with hr | hr
    · simp only [base3, List.mem_cons, List.not_mem_nil, or_false] at hr
      rcases hr with rfl | rfl | rfl
      · exact .inl ⟨0, _, h.cell.1, hk⟩
      · exact .inl ⟨1, _, h.cell.2.1, hk⟩
      · exact .inl ⟨2, _, h.cell.2.2, hk⟩
    · obtain ⟨o, ho, rfl⟩ := List.mem_map.1 hr
      obtain ⟨i, hi⟩ := List.getElem?_of_mem ho
      have hil : i < os.length := (List.getElem?_eq_some_iff.1 hi).1
      obtain ⟨a, c', e, _, _⟩ := h.forms.1
      have hO := h.own.1
      rw [e] at hO
      obtain ⟨bF, e4, _, _, hcc⟩ := own_at hO (by omega)
      subst e4
      refine .inr ⟨bF, os.length, c', i, .slice o.a o.l o.c, by rw [h.cell.1, e], hil, ?_, hk⟩
      exact hcc i _ (by have := flat_get seC_len os i o hi 0 (.slice o.a o.l o.c) rfl; simpa using this)
/-- One row of its own has grown; what is not its own is kept. -/
theorem MB.keeps (h : MB X w os se by_ fv sv bv rest) {os' : List (Sl Int)} {se' : List (Nat → Bool)} {by' : List Bool} {fv' sv' bv' : Value} {rest' : List RowD} (h' : MB X w' os' se' by' fv' sv' bv' rest')
    (hs : w.heap.size ≤ w'.heap.size) (hk : ∀ k, k < w.heap.size → k ≠ X → (∀ r ∈ base3 os se by_ fv sv bv ++ os.map inn9, r.v.ownBlock ≠ some k) → w'.heap[k]? = w.heap[k]?)
    (hn : ∀ r' ∈ base3 os' se' by' fv' sv' bv' ++ os'.map inn9, ∀ k, r'.v.ownBlock = some k → (∃ r ∈ base3 os se by_ fv sv bv ++ os.map inn9, r.v.ownBlock = some k) ∨ w.heap.size ≤ k) : KeepsR X w w' := by
  refine ⟨hs, fun k hkl hkx hko => ⟨hk k hkl hkx fun r hr e => hko ((h.ownS k).2 ⟨r, hr, e⟩), fun ho => ?_⟩⟩
  obtain ⟨r', hr', e'⟩ := (h'.ownS k).1 ho
  rcases hn r' hr' k e' with hh | hh
  · exact hko ((h.ownS k).2 hh)
  · omega
/-- A machine is kept by what makes new memory alone. -/
theorem MB.onto (h : MB X w os se by_ fv sv bv rest) (hb : Below w.heap.size w w') : KeepsR X w w' :=
  h.keeps (h.below hb) hb.size (fun k hk _ _ => hb.block k hk) (fun r hr k e => .inl ⟨r, hr, e⟩)
theorem MX.onto {M : Mc} (h : MX X w M rest) (hb : Below w.heap.size w w') : KeepsR X w w' := by
  obtain ⟨os, fv, sv, bv, hm, _⟩ := h; exact hm.onto hb
/-- The three that grow, one by one. -/
theorem MB.grown_at (h : MB X w os se by_ fv sv bv rest) (hb : Below w.heap.size w wa) {r : RowD} (hr : r ∈ base3 os se by_ fv sv bv ++ os.map inn9) (hg : wa.grownBy w1 r.v.ownBlock) {p : Addr} (hp : p.block = X ∨ ∃ r ∈ base3 os se by_ fv sv bv ++ os.map inn9, r.v.ownBlock = some p.block) (v : Value) :
    w.heap.size ≤ (w1.setCell p v).heap.size ∧ ∀ k, k < w.heap.size → k ≠ X → (∀ r ∈ base3 os se by_ fv sv bv ++ os.map inn9, r.v.ownBlock ≠ some k) → (w1.setCell p v).heap[k]? = w.heap[k]? := by
  refine ⟨by simp; have := hb.size; have := hg.size; omega, fun k hk hx hno => ?_⟩
  have h1 : k ≠ p.block := by
    rcases hp with hp | ⟨r', hr', e⟩
    · omega
    · intro e'; rw [← e'] at e; exact hno r' hr' e
  refine (heap_setCell_other _ _ _ _ h1).trans ?_
  exact (hg.block k (by have := hb.size; omega) (fun e => hno r hr e.symm)).trans (hb.block k hk)
theorem put_f_keeps (h : MB X w os se by_ fv sv bv rest) (hb : Below w.heap.size w wa) (hg : wa.grownBy w1 fv.ownBlock) {v : Value} (hv : v.ownBlock = fv.ownBlock ∨ ∃ b, v.ownBlock = some b ∧ w.heap.size ≤ b)
    (h' : MB X (w1.setCell ⟨X, 0, none⟩ v) (os ++ [nil9]) se by_ v sv bv rest) : KeepsR X w (w1.setCell ⟨X, 0, none⟩ v) := by
  obtain ⟨h1, h2⟩ := h.grown_at hb (r := ⟨27, 1, fv, os.length, os.flatMap seC⟩) (List.mem_append_left _ (.head _)) hg (p := ⟨X, 0, none⟩) (.inl rfl) v
  refine h.keeps h' h1 h2 fun r' hr' k hk => ?_
  rcases List.mem_append.1 hr' with hr' | hr'
  · simp only [base3, List.mem_cons, List.not_mem_nil, or_false] at hr'
    rcases hr' with rfl | rfl | rfl
    · rcases hv with hv | ⟨b, hv, hbb⟩
      · exact .inl ⟨_, List.mem_append_left _ (.head _), hv ▸ hk⟩
      · dsimp only at hk
        rw [hv] at hk
        obtain rfl := Option.some.inj hk
        exact .inr hbb
    · exact .inl ⟨_, List.mem_append_left _ (.tail _ (.head _)), hk⟩
    · exact .inl ⟨_, List.mem_append_left _ (.tail _ (.tail _ (.head _))), hk⟩
  · rw [List.map_append] at hr'
    rcases List.mem_append.1 hr' with hr' | hr'
    · exact .inl ⟨r', List.mem_append_right _ hr', hk⟩
    · simp [inn9, nil9] at hr'; subst hr'; simp [Value.ownBlock] at hk
theorem put_s_keeps (h : MB X w os se by_ fv sv bv rest) (hb : Below w.heap.size w wa) (hg : wa.grownBy w1 sv.ownBlock) {v : Value} {se' : List (Nat → Bool)} (hv : v.ownBlock = sv.ownBlock ∨ ∃ b, v.ownBlock = some b ∧ w.heap.size ≤ b)
    (h' : MB X (w1.setCell ⟨X, 1, none⟩ v) os se' by_ fv v bv rest) : KeepsR X w (w1.setCell ⟨X, 1, none⟩ v) := by
  obtain ⟨h1, h2⟩ := h.grown_at hb (r := ⟨33, 4, sv, se.length, se.flatMap setC⟩) (List.mem_append_left _ (.tail _ (.head _))) hg (p := ⟨X, 1, none⟩) (.inl rfl) v
  refine h.keeps h' h1 h2 fun r' hr' k hk => ?_
  rcases List.mem_append.1 hr' with hr' | hr'
  · simp only [base3, List.mem_cons, List.not_mem_nil, or_false] at hr'
    rcases hr' with rfl | rfl | rfl
    · exact .inl ⟨_, List.mem_append_left _ (.head _), hk⟩
    · rcases hv with hv | ⟨b, hv, hbb⟩
      · exact .inl ⟨_, List.mem_append_left _ (.tail _ (.head _)), hv ▸ hk⟩
      · dsimp only at hk
        rw [hv] at hk
        obtain rfl := Option.some.inj hk
        exact .inr hbb
    · exact .inl ⟨_, List.mem_append_left _ (.tail _ (.tail _ (.head _))), hk⟩
  · exact .inl ⟨r', List.mem_append_right _ hr', hk⟩
theorem put_b_keeps (h : MB X w os se by_ fv sv bv rest) (hb : Below w.heap.size w wa) (hg : wa.grownBy w1 bv.ownBlock) {v : Value} {by' : List Bool} (hv : v.ownBlock = bv.ownBlock ∨ ∃ b, v.ownBlock = some b ∧ w.heap.size ≤ b)
    (h' : MB X (w1.setCell ⟨X, 2, none⟩ v) os se by' fv sv v rest) : KeepsR X w (w1.setCell ⟨X, 2, none⟩ v) := by
  obtain ⟨h1, h2⟩ := h.grown_at hb (r := ⟨4, 1, bv, by_.length, by_.flatMap bolC⟩) (List.mem_append_left _ (.tail _ (.tail _ (.head _)))) hg (p := ⟨X, 2, none⟩) (.inl rfl) v
  refine h.keeps h' h1 h2 fun r' hr' k hk => ?_
  rcases List.mem_append.1 hr' with hr' | hr'
  · simp only [base3, List.mem_cons, List.not_mem_nil, or_false] at hr'
    rcases hr' with rfl | rfl | rfl
    · exact .inl ⟨_, List.mem_append_left _ (.head _), hk⟩
    · exact .inl ⟨_, List.mem_append_left _ (.tail _ (.head _)), hk⟩
    · rcases hv with hv | ⟨b, hv, hbb⟩
      · exact .inl ⟨_, List.mem_append_left _ (.tail _ (.tail _ (.head _))), hv ▸ hk⟩
      · dsimp only at hk
        rw [hv] at hk
        obtain rfl := Option.some.inj hk
        exact .inr hbb
  · exact .inl ⟨r', List.mem_append_right _ hr', hk⟩
theorem link_keeps (h : MB X w os se by_ fv sv bv rest) (hb : Below w.heap.size w wa) {i : Nat} {o : Sl Int} (hi : os[i]? = some o) (hg : wa.grownBy w1 (Value.slice o.a o.l o.c).ownBlock) {bF n fc : Nat} (hfv : fv = .slice (some ⟨bF, 0, none⟩) n fc) {v : Value} {a : Option Addr} {l c : Nat} {xs : List Int}
    (hv : (Value.slice a l c).ownBlock = (Value.slice o.a o.l o.c).ownBlock ∨ ∃ b, (Value.slice a l c).ownBlock = some b ∧ w.heap.size ≤ b)
    (h' : MB X (w1.setCell ⟨bF, i, none⟩ v) (os.set i ⟨a, l, c, xs⟩) se by_ fv sv bv rest) : KeepsR X w (w1.setCell ⟨bF, i, none⟩ v) := by
  have hmo : inn9 o ∈ os.map inn9 := List.mem_map_of_mem (List.mem_of_getElem? hi)
  obtain ⟨h1, h2⟩ := h.grown_at hb (r := inn9 o) (List.mem_append_right _ hmo) hg (p := ⟨bF, i, none⟩) (.inr ⟨_, List.mem_append_left _ (.head _), by rw [hfv]; rfl⟩) v
  refine h.keeps h' h1 h2 fun r' hr' k hk => ?_
  rcases List.mem_append.1 hr' with hr' | hr'
  · simp only [base3, List.mem_cons, List.not_mem_nil, or_false] at hr'
    rcases hr' with rfl | rfl | rfl
    · exact .inl ⟨_, List.mem_append_left _ (.head _), hk⟩
    · exact .inl ⟨_, List.mem_append_left _ (.tail _ (.head _)), hk⟩
    · exact .inl ⟨_, List.mem_append_left _ (.tail _ (.tail _ (.head _))), hk⟩
  · obtain ⟨p, hp, rfl⟩ := List.mem_map.1 hr'
    rcases List.mem_or_eq_of_mem_set hp with hp | rfl
    · exact .inl ⟨inn9 p, List.mem_append_right _ (List.mem_map_of_mem hp), hk⟩
    · rcases hv with hv | ⟨b, hv, hbb⟩
      · exact .inl ⟨inn9 o, List.mem_append_right _ hmo, hv ▸ hk⟩
      · have hk' : (Value.slice a l c).ownBlock = some k := hk
        rw [hv] at hk'
        obtain rfl := Option.some.inj hk'
        exact .inr hbb
end
/-- A block that the machine's steps leave as it is. -/
def FreeB (X : Nat) (w : World) (b : Nat) : Prop := b < w.heap.size ∧ b ≠ X ∧ ¬ OwnS X w b
theorem FreeB.keeps {X b : Nat} {w w' : World} (h : FreeB X w b) (hk : KeepsR X w w') : FreeB X w' b ∧ w'.heap[b]? = w.heap[b]? := by
  obtain ⟨e, n⟩ := hk.2 b h.1 h.2.1 h.2.2
  exact ⟨⟨Nat.lt_of_lt_of_le h.1 hk.1, h.2.1, n⟩, e⟩
theorem MB.fresh {X : Nat} {w : World} {os : List (Sl Int)} {se : List (Nat → Bool)} {by_ : List Bool} {fv sv bv : Value} {rest : List RowD} (h : MB X w os se by_ fv sv bv rest) {k : Nat} (hk : w.heap.size ≤ k) : ¬ OwnS X w k := fun ho => by
  obtain ⟨r, hr, e⟩ := (h.ownS k).1 ho
  have : r ∈ base3 os se by_ fv sv bv ++ (rest ++ os.map inn9) := by
    rcases List.mem_append.1 hr with hr | hr
    · exact List.mem_append_left _ hr
    · exact List.mem_append_right _ (List.mem_append_right _ hr)
  have := ((h.rows.own r this).lt k e).2
  omega
/-- A block that is made beside the machine. -/
theorem MX.free {X : Nat} {w w' : World} {M : Mc} {rest : List RowD} (h : MX X w M rest) (hb : Below w.heap.size w w') {k : Nat} (hk : w.heap.size ≤ k) (hk2 : k < w'.heap.size) : FreeB X w' k := by
  obtain ⟨os, fv, sv, bv, hm, _⟩ := h
  refine ⟨hk2, by have := hm.le; omega, fun ho => ?_⟩
  obtain ⟨r, hr, e⟩ := ((hm.below hb).ownS k).1 ho
  exact hm.fresh hk ((hm.ownS k).2 ⟨r, hr, e⟩)
end Go.Proofs.Ytbefndibkpjgaaa
/- A text as a list of bytes. -/
namespace Go.Proofs.Ytbefndibkpjgaaa
def LS (s : ByteArray) : List UInt8 := s.data.toList
theorem LS_len (s : ByteArray) : (LS s).length = s.size := Array.length_toList
theorem LS_at (s : ByteArray) (k : Nat) (h : k < s.size) : (LS s)[k]? = some (s[k]'h) := by
  show s.data.toList[k]? = _
  rw [Array.getElem?_toList, Array.getElem?_eq_getElem h]; rfl
end Go.Proofs.Ytbefndibkpjgaaa
/- rxfact: a state more. -/
namespace Go.Proofs.Ytbefndibkpjgaaa
open Go.RowKit
set_option linter.unusedVariables false

/-- A machine with a state more. -/
def Mc.more (M : Mc) : Mc := ⟨M.fr ++ [[]], M.se ++ [emptyS], M.by_ ++ [false]⟩
def GivM9 (X : Nat) (M : Mc) (rest : List RowD) (v : Value) (w : World) (e : Ending) (w' : World) : Prop := e = .returned v ∧ MX X w' M rest ∧ Below X w w' ∧ KeepsR X w w'
set_option maxRecDepth 100000 in
set_option maxHeartbeats 4000000 in
theorem state_any (X : Nat) (w : World) (M : Mc) (rest : List RowD) (h : MX X w M rest) (hn : M.fr.length ≤ 5000) :
    Calls Try.prog 52 #[.pointer (some ⟨X, 0, none⟩)] w fun e w' => GivM9 X M.more rest (.int .i64 (M.fr.length : Int)) w e w' := by
  obtain ⟨os, fv, sv, bv, hm, hfr, hls, hlb⟩ := h
  obtain ⟨⟨fa, fc, rfl, hf1, hf2⟩, ⟨sa, sc, rfl, hs1, hs2⟩, ⟨ba, bc, rfl, hb1, hb2⟩⟩ := hm.forms
  have hol : os.length = M.fr.length := by rw [hfr]; simp
  obtain ⟨n, hn9⟩ : ∃ n, M.fr.length = n := ⟨_, rfl⟩
  have HR : Hid (M.more.fr = (os ++ [nil9]).map Sl.xs ∧ M.more.se.length = M.more.fr.length ∧ M.more.by_.length = M.more.fr.length) := Lib.hid ⟨by simp [Mc.more, hfr, nil9], by simp [Mc.more]; omega, by simp [Mc.more]; omega⟩
  have HM := Lib.hid hm
  have hle := hm.le
  have hO := hm.own.1
  obtain ⟨hN0, hN1, hN2⟩ := hm.ne
  rw [hol] at hO hf1 hN0
  rw [hls] at hs1 hN1
  rw [hlb] at hb1 hN2
  rw [hn9] at hn hO hf1 hs1 hb1 hN0 hN1 hN2 ⊢
  have e0 : w.cell? ⟨X, 0, none⟩ = some (.slice fa n fc) := by rw [hm.cell.1, hol, hn9]
  have e1 : w.cell? ⟨X, 1, none⟩ = some (.slice sa n sc) := by rw [hm.cell.2.1, hls, hn9]
  have e2 : w.cell? ⟨X, 2, none⟩ = some (.slice ba n bc) := by rw [hm.cell.2.2, hlb, hn9]
  have hX : X < w.heap.size := hle
  have HAP := Lib.hid (app_el (P := Try.prog) (C := seC) (T := 46) (by decide) seC_len seC_one Try.underlying46 infoInts9 rfl hO nil9 (by unfold maxLen; omega) (by omega) hle w.heap.size rfl #[.slice none 0 0] rfl)
  have HO0 := Lib.hid hO
  have HL0 : Hid (X < w.heap.size) := Lib.hid hX
  have HN0 := Lib.hid hN0
  have HN1 := Lib.hid hN1
  have HN2 := Lib.hid hN2
  have HOL := Lib.hid (show os.length = n ∧ M.se.length = n ∧ M.by_.length = n from ⟨by omega, by omega, by omega⟩)
  clear hm hfr hls hlb hol hn9 hO hN0 hN1 hN2
  go_enter Try.func52, Try.ntmps52
  go_wp2_with (first
    | (at_builtin; refine HAP.out _ _ _ _ _ rfl _ _ rfl rfl rfl ?_; intro g1 c1 w1 hown hgrow hat
       have hx1 := (hgrow.block X (by have := HL0.out; simp; omega) (fun e => HN0.out e.symm)).trans ((heap_alloc_old w _ (by have := HL0.out; (try simp); omega)).trans HM.out.box)
       have hbw : Below w.heap.size w (w.alloc _) := (Below.refl w.heap.size w).alloc (Nat.le_refl _) (.cells #[.slice none 0 0] 27)
       have HM1 := Lib.hid (HM.out.put_f hbw (by rw [HOL.out.1]; exact hgrow) (v := .slice (some ⟨g1, 0, none⟩) (n + 1) c1) (by rw [HOL.out.1]; exact hown) (by rw [HOL.out.1]; exact row_new hat (by simp) rfl))
       have HW1 : Hid (Below X w (w1.setCell ⟨X, 0, none⟩ (.slice (some ⟨g1, 0, none⟩) (n + 1) c1))) := Lib.hid ((below_grown ((Below.refl X w).alloc (by have := HL0.out; (try simp); omega) _) (by simp; have := HL0.out; omega) hgrow (fun q hq => by have := (own_ge HO0.out hq).1; omega)).setCell (p := ⟨X, 0, none⟩) (Nat.le_refl _) _)
       have HKP1 := Lib.hid (put_f_keeps HM.out hbw (by rw [HOL.out.1]; exact hgrow) (v := .slice (some ⟨g1, 0, none⟩) (n + 1) c1) (by rw [HOL.out.1]; exact row_new hat (by simp) rfl) HM1.out)
       have HL1 : Hid (X < w1.heap.size) := Lib.hid (by have := HM1.out.le; simp at this; omega)
       have cS := cell_of_row w1 X 0 _ _ _ hx1
       have fS := frozen_of_row w1 X 0 _ _ hx1
       have d1 : w1.cell? ⟨X, 1, none⟩ = some (.slice sa n sc) := (cell_of_row w1 X 1 _ _ _ hx1).trans (by rw [← HOL.out.2.1]; rfl)
       have HO1 : Hid (World.ownsRow (w1.setCell ⟨X, 0, none⟩ (.slice (some ⟨g1, 0, none⟩) (n + 1) c1)) (X + 1) 33 4 (.slice sa n sc) n (M.se.flatMap setC)) := Lib.hid (by have := HM1.out.own.2.1; rw [HOL.out.2.1] at this; exact this)
       have HAP1 := Lib.hid (app_el (P := Try.prog) (C := setC) (T := 47) (by decide) setC_len setC_one Try.underlying47 infoSet rfl HO1.out emptyS (by unfold maxLen; omega) (by omega) HM1.out.le w1.heap.size (by simp) #[.int .u64 0, .int .u64 0, .int .u64 0, .int .u64 0] (by rw [setC_empty]))
       clear hown hgrow hat hx1 hbw)
    | (at_builtin; refine HAP1.out _ _ _ _ _ rfl _ _ rfl rfl rfl ?_; intro g2 c2 w2 hown hgrow hat
       have hx1 := (hgrow.block X (by have := HL1.out; simp; omega) (fun e => HN1.out e.symm)).trans ((heap_alloc_old (w1.setCell ⟨X, 0, none⟩ (.slice (some ⟨g1, 0, none⟩) (n + 1) c1)) _ (by have := HL1.out; (try simp); omega)).trans HM1.out.box)
       have hbw : Below (w1.setCell ⟨X, 0, none⟩ (.slice (some ⟨g1, 0, none⟩) (n + 1) c1)).heap.size (w1.setCell ⟨X, 0, none⟩ (.slice (some ⟨g1, 0, none⟩) (n + 1) c1)) ((w1.setCell ⟨X, 0, none⟩ (.slice (some ⟨g1, 0, none⟩) (n + 1) c1)).alloc _) := (Below.refl (w1.setCell ⟨X, 0, none⟩ (.slice (some ⟨g1, 0, none⟩) (n + 1) c1)).heap.size (w1.setCell ⟨X, 0, none⟩ (.slice (some ⟨g1, 0, none⟩) (n + 1) c1))).alloc (Nat.le_refl _) (.cells #[.int .u64 0, .int .u64 0, .int .u64 0, .int .u64 0] 33)
       have HM2 := Lib.hid (HM1.out.put_s hbw (by rw [HOL.out.2.1]; exact hgrow) (v := .slice (some ⟨g2, 0, none⟩) (n + 1) c2) (S := emptyS) (by rw [HOL.out.2.1]; exact hown) (by rw [HOL.out.2.1]; exact row_new hat (by simp) rfl))
       have HW2 : Hid (Below X w (w2.setCell ⟨X, 1, none⟩ (.slice (some ⟨g2, 0, none⟩) (n + 1) c2))) := Lib.hid ((below_grown (HW1.out.alloc (by have := HL1.out; (try simp); omega) _) (by simp; have := HL1.out; omega) hgrow (fun q hq => by have := (own_ge HO1.out hq).1; omega)).setCell (p := ⟨X, 1, none⟩) (Nat.le_refl _) _)
       have HKP2 := Lib.hid (put_s_keeps HM1.out hbw (by rw [HOL.out.2.1]; exact hgrow) (v := .slice (some ⟨g2, 0, none⟩) (n + 1) c2) (by rw [HOL.out.2.1]; exact row_new hat (by simp) rfl) HM2.out)
       have HL2 : Hid (X < w2.heap.size) := Lib.hid (by have := HM2.out.le; simp at this; omega)
       have cS := cell_of_row w2 X 1 _ _ _ hx1
       have fS := frozen_of_row w2 X 1 _ _ hx1
       have d2 : w2.cell? ⟨X, 2, none⟩ = some (.slice ba n bc) := (cell_of_row w2 X 2 _ _ _ hx1).trans (by rw [← HOL.out.2.2]; rfl)
       have HO2 : Hid (World.ownsRow (w2.setCell ⟨X, 1, none⟩ (.slice (some ⟨g2, 0, none⟩) (n + 1) c2)) (X + 1) 4 1 (.slice ba n bc) n (M.by_.flatMap bolC)) := Lib.hid (by have := HM2.out.own.2.2; rw [HOL.out.2.2] at this; exact this)
       have HAP2 := Lib.hid (app_el (P := Try.prog) (C := bolC) (T := 48) (by decide) bolC_len bolC_one Try.underlying48 infoBool9 rfl HO2.out false (by unfold maxLen; omega) (by omega) HM2.out.le w2.heap.size (by simp) #[.bool false] rfl)
       clear hown hgrow hat hx1 hbw)
    | (at_builtin; refine HAP2.out _ _ _ _ _ rfl _ _ rfl rfl rfl ?_; intro g3 c3 w3 hown hgrow hat
       have hx1 := (hgrow.block X (by have := HL2.out; simp; omega) (fun e => HN2.out e.symm)).trans ((heap_alloc_old (w2.setCell ⟨X, 1, none⟩ (.slice (some ⟨g2, 0, none⟩) (n + 1) c2)) _ (by have := HL2.out; (try simp); omega)).trans HM2.out.box)
       have hbw : Below (w2.setCell ⟨X, 1, none⟩ (.slice (some ⟨g2, 0, none⟩) (n + 1) c2)).heap.size (w2.setCell ⟨X, 1, none⟩ (.slice (some ⟨g2, 0, none⟩) (n + 1) c2)) ((w2.setCell ⟨X, 1, none⟩ (.slice (some ⟨g2, 0, none⟩) (n + 1) c2)).alloc _) := (Below.refl (w2.setCell ⟨X, 1, none⟩ (.slice (some ⟨g2, 0, none⟩) (n + 1) c2)).heap.size (w2.setCell ⟨X, 1, none⟩ (.slice (some ⟨g2, 0, none⟩) (n + 1) c2))).alloc (Nat.le_refl _) (.cells #[.bool false] 4)
       have HM3 := Lib.hid (HM2.out.put_b hbw (by rw [HOL.out.2.2]; exact hgrow) (v := .slice (some ⟨g3, 0, none⟩) (n + 1) c3) (z := false) (by rw [HOL.out.2.2]; exact hown) (by rw [HOL.out.2.2]; exact row_new hat (by simp) rfl))
       have HW3 : Hid (Below X w (w3.setCell ⟨X, 2, none⟩ (.slice (some ⟨g3, 0, none⟩) (n + 1) c3))) := Lib.hid ((below_grown (HW2.out.alloc (by have := HL2.out; (try simp); omega) _) (by simp; have := HL2.out; omega) hgrow (fun q hq => by have := (own_ge HO2.out hq).1; omega)).setCell (p := ⟨X, 2, none⟩) (Nat.le_refl _) _)
       have HKP3 := Lib.hid (put_b_keeps HM2.out hbw (by rw [HOL.out.2.2]; exact hgrow) (v := .slice (some ⟨g3, 0, none⟩) (n + 1) c3) (by rw [HOL.out.2.2]; exact row_new hat (by simp) rfl) HM3.out)
       have HL3 : Hid (X < w3.heap.size) := Lib.hid (by have := HM3.out.le; simp at this; omega)
       have cS := cell_of_row w3 X 2 _ _ _ hx1
       have fS := frozen_of_row w3 X 2 _ _ hx1
       have d3 : w3.cell? ⟨X, 0, none⟩ = some (.slice (some ⟨g1, 0, none⟩) (n + 1) c1) := (cell_of_row w3 X 0 _ _ _ hx1).trans rfl
       clear hown hgrow hat hx1 hbw))
  go_ret
  exact ⟨ret_int (by omega), ⟨_, _, _, _, HM3.out, HR.out⟩, HW3.out, HKP1.out.trans (HKP2.out.trans HKP3.out)⟩
end Go.Proofs.Ytbefndibkpjgaaa
/- rxfact: a state leads to another one. -/
namespace Go.Proofs.Ytbefndibkpjgaaa
open Go.RowKit
set_option linter.unusedVariables false
set_option linter.unusedSimpArgs false

theorem flat_set1 {α : Type} {C : α → List Value} (hC : ∀ o, (C o).length = 1) : ∀ (os : List α) (i : Nat) (o : α) (u : Value), C o = [u] → (os.set i o).flatMap C = (os.flatMap C).set i u
  | [], i, o, u, h => by simp
  | x :: os, 0, o, u, h => by
    have hx := hC x
    obtain ⟨v, hv⟩ := List.length_eq_one_iff.1 hx
    simp [h, hv]
  | x :: os, i + 1, o, u, h => by
    have hx := hC x
    obtain ⟨v, hv⟩ := List.length_eq_one_iff.1 hx
    simp [hv, flat_set1 hC os i o u h]
/-- One row's cell is written anew. -/
theorem RowsD.setAt {B : Nat} {w : World} {rs : List RowD} (h : RowsD B w rs) {i : Nat} {r : RowD} {g n c : Nat} (hi : rs[i]? = some r) (hv : r.v = .slice (some ⟨g, 0, none⟩) n c) (hn : r.n = n) (j : Nat) (u : Value) : RowsD B (w.setCell ⟨g, j, none⟩ u) (rs.set i { r with xs := r.xs.set j u }) := by
  have hil : i < rs.length := (List.getElem?_eq_some_iff.1 hi).1
  have hrb : r.v.ownBlock = some g := by rw [hv]; rfl
  refine ⟨fun s hs => ?_, fun a b s t ha hb hne k hk => ?_⟩
  · obtain ⟨a, ha⟩ := List.getElem?_of_mem hs
    rw [List.getElem?_set] at ha
    by_cases hia : i = a
    · subst hia
      rw [if_pos rfl, if_pos hil] at ha
      obtain rfl := Option.some.inj ha
      have h0 := h.own r (List.mem_of_getElem? hi)
      unfold RowD.at_ at h0 ⊢
      dsimp only
      rw [hv, hn] at h0 ⊢
      exact (own_set h0 j u).1
    · rw [if_neg hia] at ha
      refine own_kept (h.own s (List.mem_of_getElem? ha)) fun k hk => heap_setCell_other _ _ _ _ ?_
      intro e
      have : k = g := e
      subst this
      exact h.apart i a r s hi ha hia k hrb hk
  · have cas : ∀ (a : Nat) s, (rs.set i { r with xs := r.xs.set j u })[a]? = some s → ∃ s', rs[a]? = some s' ∧ s'.v = s.v := fun a s ha => by
      rw [List.getElem?_set] at ha
      by_cases hia : i = a
      · subst hia
        rw [if_pos rfl, if_pos hil] at ha
        obtain rfl := Option.some.inj ha
        exact ⟨r, hi, rfl⟩
      · rw [if_neg hia] at ha; exact ⟨s, ha, rfl⟩
    obtain ⟨s', h1, e1⟩ := cas a s ha
    obtain ⟨t', h2, e2⟩ := cas b t hb
    rw [← e1] at hk
    rw [← e2]
    exact h.apart a b s' t' h1 h2 hne k hk
section
variable {X : Nat} {w w' wa w1 : World} {os : List (Sl Int)} {se : List (Nat → Bool)} {by_ : List Bool} {fv sv bv : Value} {rest : List RowD}
theorem b3i {i : Nat} {o : Sl Int} (hi : os[i]? = some o) : (base3 os se by_ fv sv bv ++ (rest ++ os.map inn9))[3 + rest.length + i]? = some (inn9 o) := by
  rw [List.getElem?_append_right (by simp [base3]; omega), List.getElem?_append_right (by simp [base3]; omega)]
  have e : 3 + rest.length + i - (base3 os se by_ fv sv bv).length - rest.length = i := by simp [base3]; omega
  rw [e, List.getElem?_map, hi]; rfl
theorem MB.inner (h : MB X w os se by_ fv sv bv rest) {i : Nat} {o : Sl Int} (hi : os[i]? = some o) : w.ownsRow (X + 1) 3 1 (.slice o.a o.l o.c) o.l (o.xs.flatMap intC) := h.rows.own _ (List.mem_of_getElem? (b3i hi))
/-- A state's row has grown, and stands anew among the rows. -/
theorem MB.link (h : MB X w os se by_ fv sv bv rest) (hb : Below w.heap.size w wa) {i : Nat} {o : Sl Int} (hi : os[i]? = some o) (hg : wa.grownBy w1 (Value.slice o.a o.l o.c).ownBlock) {g cap bF n fc : Nat} {z : Int}
    (hfv : fv = .slice (some ⟨bF, 0, none⟩) n fc) (hn : os.length = n) (ho : w1.ownsRow (X + 1) 3 1 (.slice (some ⟨g, 0, none⟩) (o.l + 1) cap) (o.l + 1) ((o.xs ++ [z]).flatMap intC))
    (hv : (Value.slice (some ⟨g, 0, none⟩) (o.l + 1) cap).ownBlock = (Value.slice o.a o.l o.c).ownBlock ∨ ∃ b, (Value.slice (some ⟨g, 0, none⟩) (o.l + 1) cap).ownBlock = some b ∧ w.heap.size ≤ b) :
    MB X (w1.setCell ⟨bF, i, none⟩ (.slice (some ⟨g, 0, none⟩) (o.l + 1) cap)) (os.set i ⟨some ⟨g, 0, none⟩, o.l + 1, cap, o.xs ++ [z]⟩) se by_ fv sv bv rest := by
  have hil : i < os.length := (List.getElem?_eq_some_iff.1 hi).1
  have hlen := h.len o (List.mem_of_getElem? hi)
  have h1 := h.rows.grow hb (b3i hi) (r' := inn9 ⟨some ⟨g, 0, none⟩, o.l + 1, cap, o.xs ++ [z]⟩) hg ho hv
  have e1 : (base3 os se by_ fv sv bv ++ (rest ++ os.map inn9)).set (3 + rest.length + i) (inn9 ⟨some ⟨g, 0, none⟩, o.l + 1, cap, o.xs ++ [z]⟩) = base3 os se by_ fv sv bv ++ (rest ++ (os.set i ⟨some ⟨g, 0, none⟩, o.l + 1, cap, o.xs ++ [z]⟩).map inn9) := by
    rw [List.set_append_right _ _ (by simp [base3]; omega), List.set_append_right _ _ (by simp [base3]; omega)]
    have e : 3 + rest.length + i - (base3 os se by_ fv sv bv).length - rest.length = i := by simp [base3]; omega
    rw [e, List.map_set]
  rw [e1] at h1
  have h2 := h1.setAt (i := 0) (g := bF) (n := n) (c := fc) rfl hfv hn i (.slice (some ⟨g, 0, none⟩) (o.l + 1) cap)
  have e2 : (base3 os se by_ fv sv bv ++ (rest ++ (os.set i ⟨some ⟨g, 0, none⟩, o.l + 1, cap, o.xs ++ [z]⟩).map inn9)).set 0 { (⟨27, 1, fv, os.length, os.flatMap seC⟩ : RowD) with xs := (os.flatMap seC).set i (.slice (some ⟨g, 0, none⟩) (o.l + 1) cap) } = base3 (os.set i ⟨some ⟨g, 0, none⟩, o.l + 1, cap, o.xs ++ [z]⟩) se by_ fv sv bv ++ (rest ++ (os.set i ⟨some ⟨g, 0, none⟩, o.l + 1, cap, o.xs ++ [z]⟩).map inn9) := by
    simp only [base3, List.cons_append, List.nil_append, List.set_cons_zero, List.length_set]
    rw [flat_set1 seC_len os i ⟨some ⟨g, 0, none⟩, o.l + 1, cap, o.xs ++ [z]⟩ (.slice (some ⟨g, 0, none⟩) (o.l + 1) cap) rfl]
  have hbF : fv.ownBlock = some bF := by rw [hfv]; rfl
  have hXF : X ≠ bF := fun e => h.ne.1 (by rw [hbF, e])
  have hxn : ∀ k, (Value.slice o.a o.l o.c).ownBlock = some k → k ≠ X := fun k hk => by have := ((h.inner hi).lt k hk).1; omega
  refine ⟨?_, by rw [← e2]; exact h2, fun p hp => ?_, by simp; have := hb.size; have := hg.size; have := h.le; omega⟩
  · refine (heap_setCell_other _ _ _ _ (fun e => hXF e)).trans ?_
    refine (hg.block X (by have := hb.size; have := h.le; omega) (fun e => hxn X e.symm rfl)).trans ?_
    exact (hb.block X (by have := h.le; omega)).trans h.box
  · rcases List.mem_or_eq_of_mem_set hp with hp | rfl
    · exact h.len p hp
    · simp [hlen]
end
/-- A machine in which a state leads to another one. -/
def Mc.link (M : Mc) (i : Nat) (z : Int) : Mc := ⟨M.fr.set i ((M.fr[i]?.getD []) ++ [z]), M.se, M.by_⟩
theorem cell_block (w w' : World) (b j : Nat) (h : w.heap[b]? = w'.heap[b]?) : w.cell? ⟨b, j, none⟩ = w'.cell? ⟨b, j, none⟩ := by
  simp only [World.cell?, h]
theorem frozen_block (w w' : World) (b j : Nat) (h : w.heap[b]? = w'.heap[b]?) : w.frozen? ⟨b, j, none⟩ = w'.frozen? ⟨b, j, none⟩ := by
  simp only [World.frozen?, h]
theorem fz_own {w : World} {base : Nat} {e : TypeId} {k n m c g : Nat} {xs : List Value} (h : w.ownsRow base e k (.slice (some ⟨g, 0, none⟩) m c) n xs) (j : Nat) : w.frozen? ⟨g, j, none⟩ = false := by
  obtain ⟨cur, hc⟩ := own_type h (k := g) rfl
  exact frozen_of_row w g j _ _ hc
/-- A row made by buildSlice: its block holds the element. -/
def newI (z : Int) (v : Value) (x : World) : Prop := ∃ k, v = .slice (some ⟨k, 0, none⟩) 1 1 ∧ x.heap[k]? = some (.cells (intC z).toArray 3 (0, 0))
theorem newI_mono (z : Int) : ∀ v x y, newI z v x → Onto x y → newI z v y := fun v x y ⟨k, h1, h2⟩ h => ⟨k, h1, (h.block k (Array.getElem?_eq_some_iff.1 h2).1).trans h2⟩
set_option maxRecDepth 100000 in
set_option maxHeartbeats 4000000 in
theorem link_any (X : Nat) (w : World) (M : Mc) (rest : List RowD) (h : MX X w M rest) (i : Nat) (z : Int) (hi : i < M.fr.length) (hn : M.fr.length ≤ 5000) (hl : ∀ l ∈ M.fr, l.length ≤ 5000) :
    Calls Try.prog 53 #[.pointer (some ⟨X, 0, none⟩), .int .i64 (i : Int), .int .i64 z] w fun e w' => GivM9 X (M.link i z) rest (.tuple #[]) w e w' := by
  obtain ⟨os, fv, sv, bv, hm, hfr, hls, hlb⟩ := h
  obtain ⟨⟨fa, fc, rfl, hf1, hf2⟩, _, _⟩ := hm.forms
  have hol : os.length = M.fr.length := by rw [hfr]; simp
  have hio : i < os.length := by omega
  obtain ⟨bF, rfl, hbF1, hbF2, hcF⟩ := own_at hm.own.1 (by omega)
  obtain ⟨o, ho⟩ : ∃ o, os[i]? = some o := ⟨_, List.getElem?_eq_getElem hio⟩
  have hoi := hm.inner ho
  have holl := hm.len o (List.mem_of_getElem? ho)
  have hoin : o.xs.length ≤ 5000 := hl _ (by rw [hfr]; exact List.mem_map_of_mem (List.mem_of_getElem? ho))
  have HLK : Hid ((M.link i z).fr = (os.set i ⟨o.a, o.l, o.c, o.xs ++ [z]⟩).map Sl.xs ∧ ∀ g l c, (os.set i ⟨o.a, o.l, o.c, o.xs ++ [z]⟩).map Sl.xs = (os.set i ⟨g, l, c, o.xs ++ [z]⟩).map Sl.xs) := Lib.hid ⟨by simp [Mc.link, hfr, List.map_set, ho], fun g l c => by simp [List.map_set]⟩
  have HSB : Hid (M.se.length = (M.link i z).fr.length ∧ M.by_.length = (M.link i z).fr.length) := Lib.hid (by simp [Mc.link]; omega)
  have HFC : Hid (∀ W, MB X W os M.se M.by_ (.slice (some ⟨bF, 0, none⟩) os.length fc) sv bv rest → W.cell? ⟨bF, i, none⟩ = some (.slice o.a o.l o.c)) := Lib.hid fun W hW => by
    obtain ⟨g', e, _, _, hc⟩ := own_at hW.own.1 (by omega)
    injection e with e
    injection e with e1
    subst e1
    refine hc i _ ?_
    have := flat_get seC_len os i o ho 0 (.slice o.a o.l o.c) rfl
    simpa using this
  have ci := HFC.out w hm
  have HNE : Hid (∀ k, (Value.slice (some ⟨bF, 0, none⟩) os.length fc).ownBlock = some k → (Value.slice o.a o.l o.c).ownBlock ≠ some k) := Lib.hid fun k hk => hm.rows.apart 0 (3 + rest.length + i) _ _ b3.1 (b3i ho) (by omega) k hk
  have HO := Lib.hid ho
  have HI := Lib.hid hoi
  have HM := Lib.hid hm
  have hle := hm.le
  have e0 : w.cell? ⟨X, 0, none⟩ = some (.slice (some ⟨bF, 0, none⟩) os.length fc) := hm.cell.1
  obtain ⟨oa, ol, oc, ox⟩ := o
  dsimp only at hoi holl hoin ci HFC HNE HI HLK HO
  obtain ⟨n, hn9⟩ : ∃ n, os.length = n := ⟨_, rfl⟩
  have HOL := Lib.hid hn9
  have z0 : (0 : Int) ≤ (i : Int) := by omega
  have z1 : (i : Int) < (n : Int) := by omega
  have hnn : n ≤ 5000 := by omega
  have hol9 : ol ≤ 5000 := by omega
  rw [hn9] at HM HFC HNE e0 hf1
  have HCA := Lib.hid (heap_alloc_new w (.cells (intC z).toArray 3))
  have HIA := Lib.hid (ownB hoi ((Below.refl w.heap.size w).alloc (Nat.le_refl _) (.cells (intC z).toArray 3)).drew)
  have HMA := Lib.hid (hm.below ((Below.refl w.heap.size w).alloc (Nat.le_refl _) (.cells (intC z).toArray 3)).drew)
  have hX9 : X < w.heap.size := by omega
  have hgA : X + 1 ≤ (w.alloc (.cells (intC z).toArray 3)).drew.heap.size := by simp; omega
  have HGA := Lib.hid hgA
  have HBA : Hid (Below X w (w.alloc (.cells (intC z).toArray 3))) := Lib.hid ((Below.refl X w).alloc (by omega) _)
  rw [hn9] at HMA
  clear hgA
  clear hm hfr hls hlb hol hio hcF hoi hoin ho hn9 hl hi hn holl
  go_enter Try.func53, Try.ntmps53
  go_wp2_with fail
  have HFZ : Hid (bF < (w.alloc (.cells (intC z).toArray 3)).drew.heap.size) := Lib.hid (HMA.out.own.1.lt bF rfl).2
  have HNX : Hid ((Value.slice oa ol oc).ownBlock ≠ some X) := Lib.hid fun e => by have := (HIA.out.lt _ e).1; omega
  go_region_law (refine step_app_el (P := Try.prog) (C := intC) (v := .slice oa ol oc) (xs := ox) (t := 27) (by decide) intC_len intC_one Try.underlying27 infoInt rfl _ (by rfl) _ _ (by rfl) (by rfl) (base := X + 1) (n := ol) HIA.out z (by rfl) HCA.out (by unfold maxLen; omega) (by omega) HGA.out ?_; intro gg cap wB hownB hgrow hat; have HOB := Lib.hid hownB; have HGB := Lib.hid hgrow; have HAT := Lib.hid hat; have hx9 := (hgrow.block X HGA.out (fun e => HNX.out e.symm)).trans HMA.out.box; have e9 : wB.cell? ⟨X, 0, none⟩ = some (.slice (some ⟨bF, 0, none⟩) n fc) := (cell_of_row wB X 0 _ _ _ hx9).trans rfl; have hb9 := hgrow.block bF HFZ.out (fun e => HNE.out bF rfl e.symm); have c9 : wB.cell? ⟨bF, i, none⟩ = some (.slice oa ol oc) := (cell_block wB _ bF i hb9).trans (HFC.out _ HMA.out); have f9 : wB.frozen? ⟨bF, i, none⟩ = false := (frozen_block wB _ bF i hb9).trans (fz_own HMA.out.own.1 i); clear hownB hgrow hat hx9 hb9)
  all_goals
    have HMB := Lib.hid (HMA.out.link (Below.refl _ _) HO.out HGB.out rfl HOL.out HOB.out (row_new HAT.out (Nat.le_refl _) rfl))
    have HWB : Hid (Below X w (wB.setCell ⟨bF, i, none⟩ (.slice (some ⟨gg, 0, none⟩) (ol + 1) cap))) := Lib.hid ((below_grown HBA.out.drew (Nat.le_of_succ_le HGA.out) HGB.out (fun q hq => by have := (own_ge HIA.out hq).1; omega)).setCell (p := ⟨bF, i, none⟩) (by show X ≤ bF; omega) _)
    have HKP := Lib.hid (((HM.out.onto ((Below.refl w.heap.size w).alloc (Nat.le_refl _) _).drew)).trans (link_keeps HMA.out (Below.refl _ _) HO.out HGB.out rfl (row_new HAT.out (Nat.le_refl _) rfl) HMB.out))
    go_end0
    exact ⟨rfl, ⟨_, _, _, _, HMB.out, HLK.out.1.trans (HLK.out.2 _ _ _), HSB.out⟩, HWB.out, HKP.out⟩
end Go.Proofs.Ytbefndibkpjgaaa
/- What steps are: an expression, or none. -/
namespace Go.Proofs.Ytbefndibkpjgaaa
open Go.RowKit
set_option linter.unusedVariables false
/-- What steps are: an expression, or none. -/
def IsRx (w : World) (a : Option Addr) (n : Nat) : Option RxT → Prop
  | some T => CRow rxC 5 w a n (post T) ∧ chkR (post T) = 0
  | none => ∃ rs, CRow rxC 5 w a n rs ∧ chkR rs ≠ 0
theorem badR_cells {r s : Rx} (h : rxC r = rxC s) : badR r = badR s ∧ r.k = s.k := by
  unfold rxC at h
  simp only [List.cons.injEq, Value.int.injEq, true_and, and_true] at h
  obtain ⟨h0, h1, h2, h3, h4⟩ := h
  refine ⟨?_, h0⟩
  unfold badR zS
  rw [h0, h1, h2, h3, h4]
theorem wk_cells : ∀ (l m : List Rx), l.map rxC = m.map rxC → ∀ p q, wk l p q = wk m p q
  | [], [], _, _, _ => rfl
  | [], _ :: _, h, _, _ => by simp at h
  | _ :: _, [], h, _, _ => by simp at h
  | r :: l, s :: m, h, p, q => by
    simp only [List.map_cons, List.cons.injEq] at h
    obtain ⟨h1, h2⟩ := badR_cells h.1
    rw [wk, wk, h1, h2]
    simp only [wk_cells l m h.2]
theorem chk_cells {l m : List Rx} (h : l.map rxC = m.map rxC) : chkR l = chkR m := by
  have hl : l.length = m.length := by have := congrArg List.length h; simpa using this
  unfold chkR walkR
  rw [hl, wk_cells l m h]
theorem isRx_of {w : World} {a : Option Addr} {n : Nat} {rs : List Rx} (h : CRow rxC 5 w a n rs) : ∃ o, IsRx w a n o := by
  by_cases hc : chkR rs = 0
  · obtain ⟨_, T, hT⟩ := tree_of hc
    exact ⟨some T, crow_cells h hT, by rw [chk_cells hT, hc]⟩
  · exact ⟨none, rs, h, hc⟩
theorem IsRx.below {w w' : World} {a : Option Addr} {n : Nat} {o : Option RxT} (h : IsRx w a n o) (hb : Below w.heap.size w w') : IsRx w' a n o := by
  cases o with
  | some T => exact ⟨h.1.below hb, h.2⟩
  | none => obtain ⟨rs, h1, h2⟩ := h; exact ⟨rs, h1.below hb, h2⟩
/-- What Check says of it. -/
theorem IsRx.check {w : World} {a : Option Addr} {n : Nat} {o : Option RxT} (h : IsRx w a n o) (c : Nat) : ∃ e : Nat, (Calls Try.prog 37 #[.slice a n c] w fun x w' => x = .returned (.int .i64 (e : Nat)) ∧ w = w') ∧ (e = 0 ↔ o.isSome = true) := by
  cases o with
  | some T => exact ⟨chkR (post T), rcheck_any w a n c _ h.1, by rw [h.2]; simp⟩
  | none => obtain ⟨rs, h1, h2⟩ := h; exact ⟨chkR rs, rcheck_any w a n c _ h1, by simp [h2]⟩
end Go.Proofs.Ytbefndibkpjgaaa
/- The machine, plain: a step more. -/
namespace Go.Proofs.Ytbefndibkpjgaaa
set_option linter.unusedVariables false

def Mc.setAt (M : Mc) (i : Nat) (S : Nat → Bool) : Mc := ⟨M.fr, M.se.set i S, M.by_.set i true⟩
def mc0 : Mc := ⟨[], [], []⟩
/-- A part: where it begins, where it ends. -/
structure Pt where
  i : Nat
  o : Nat
/-- Links that lead from a new part's begin to the old part's, and back out. -/
def Mc.wrap (M : Mc) (n p : Pt) : Mc := (M.link n.i (p.i : Int)).link p.o (n.o : Int)
def stepM (M : Mc) (k : Int) (S : Nat → Bool) (ps : List Pt) : Mc :=
  let n : Pt := ⟨M.fr.length, M.fr.length + 1⟩
  let m := M.more.more
  if k = 1 then m.setAt n.i S
  else
    let w := if k = 3 then m else ps.foldl (fun m p => m.wrap n p) m
    let w := match k, ps with
      | 3, [p, q] => ((w.link n.i (p.i : Int)).link p.o (q.i : Int)).link q.o (n.o : Int)
      | 5, [p] => w.link p.o (p.i : Int)
      | 6, [p] => w.link p.o (p.i : Int)
      | _, _ => w
    if k = 2 ∨ k = 5 ∨ k = 7 then w.link n.i (n.o : Int) else w
end Go.Proofs.Ytbefndibkpjgaaa
/- Parts of a machine: their cells; how they are read and written whole. -/
namespace Go.Proofs.Ytbefndibkpjgaaa
open Go.RowKit
set_option linter.unusedVariables false

def ptC (p : Pt) : List Value := [.int .i64 (p.i : Int), .int .i64 (p.o : Int)]
theorem ptC_len (p : Pt) : (ptC p).length = 2 := rfl
theorem ptC_one (p : Pt) : ∀ u ∈ ptC p, u.oneCell' = true := fun u hu => by
  simp only [ptC, List.mem_cons, List.not_mem_nil, or_false] at hu
  rcases hu with rfl | rfl <;> rfl
theorem infoPt : (Try.prog.info? 52).map (fun i => (i.zero, i.size, i.bytes)) = some (some (.agg #[.int .i64 0, .int .i64 0]), 2, 16) := by kernel_rfl
theorem sizePt (x y : Value) : (Try.prog.info? 52).map (·.size) = some (#[x, y] : Array Value).size := by kernel_rfl
/-- A part in a block of its own. -/
def PtAt (w : World) (g : Nat) (i o : Nat) : Prop := w.heap[g]? = some (.cells #[.int .i64 (i : Int), .int .i64 (o : Int)] 52 (0, 0))
theorem PtAt.lt {w : World} {g i o : Nat} (h : PtAt w g i o) : g < w.heap.size := (Array.getElem?_eq_some_iff.1 h).1
theorem PtAt.c0 {w : World} {g i o : Nat} (h : PtAt w g i o) : w.cell? ⟨g, 0, none⟩ = some (.int .i64 (i : Int)) := by rw [cell_of_row w g 0 _ _ _ h]; rfl
theorem PtAt.c1 {w : World} {g i o : Nat} (h : PtAt w g i o) : w.cell? ⟨g, 1, none⟩ = some (.int .i64 (o : Int)) := by rw [cell_of_row w g 1 _ _ _ h]; rfl
theorem PtAt.onto {g i o : Nat} {w w' : World} (h : PtAt w g i o) (hb : Below w.heap.size w w') : PtAt w' g i o := (hb.block g h.lt).trans h
theorem PtAt.same {g i o : Nat} {w w' : World} (h : PtAt w g i o) (hb : w'.heap[g]? = w.heap[g]?) : PtAt w' g i o := hb.trans h
def ZP : Obj := .cells #[.int .i64 0, .int .i64 0] 52
theorem PtAt.zero (w : World) (g : Nat) (hg : w.heap.size = g) : PtAt (w.alloc ZP) g 0 0 := by subst hg; exact heap_alloc_new w _
def loadP (a : Addr) : Sem Value := loadVar 52 a
theorem loadP_eq (a : Addr) : loadVar 52 a = loadP a := rfl
theorem run_loadP (w : World) (b off : Nat) (x y : Value) (c0 : w.cell? ⟨b, off, none⟩ = some x) (c1 : w.cell? ⟨b, off + 1, none⟩ = some y) :
    (loadP ⟨b, off, none⟩).run Try.prog w = .ok (.agg #[x, y]) w := by
  have := run_loadVar_mid (P := Try.prog) w b off 52 [x, y] _ (fun j v hv => by
    match j, hv with
    | 0, hv => simp at hv; subst hv; exact c0
    | 1, hv => simp at hv; subst hv; exact c1) Try.underlying52 rfl (sizePt x y)
  simpa [loadP] using this
theorem run_loadP0 (w : World) (g i o : Nat) (h : PtAt w g i o) : (loadP ⟨g, 0, none⟩).run Try.prog w = .ok (.agg #[.int .i64 (i : Int), .int .i64 (o : Int)]) w := run_loadP w g 0 _ _ h.c0 h.c1
theorem wpList_store_pt {ops : Array Oper} {rest : List Oper} {o : Oper} {a : Act} {w : World} {Q : Exit → Act → World → Prop} (hgd : o.guard = none) (x y : Operand) (ho : o.op = .store 52 x y)
    (g : Nat) (i o' i' o'' : Nat) (hx : a.eval x = .pointer (some ⟨g, 0, none⟩)) (hy : a.eval y = .agg #[.int .i64 (i' : Int), .int .i64 (o'' : Int)]) (hg : PtAt w g i o')
    (h : ∀ w', PtAt w' g i' o'' → (∀ B, B ≤ g → Below B w w') → (∀ k, k ≠ g → w'.heap[k]? = w.heap[k]?) → w'.heap.size = w.heap.size → wpList Try.prog ops Q rest (a.put o.dst undef) w') : wpList Try.prog ops Q (o :: rest) a w := by
  refine wpList_store_row hgd 52 x y ho g _ hx hy 52 _ hg (sizePt _ _) rfl (by simp [Value.oneCell']) ?_
  exact h _ (setRow_heap w g _ _ _ _ hg) (fun B hB => (Below.refl _ _).trans ⟨rfl, rfl, rfl, by simp, fun k hk => setRow_other w g k _ (by omega)⟩) (fun k hk => setRow_other w g k _ hk) (by simp)
end Go.Proofs.Ytbefndibkpjgaaa
/- What is told of all words of an expression: plain. -/
namespace Go.Proofs.Ytbefndibkpjgaaa
set_option linter.unusedVariables false
/-- The document's shortest, longest, first, used. -/
def shT : RxT → Int
  | .set S => if zS S = true then -1 else 1
  | .empty => 0
  | .cat a b => if shT a < 0 ∨ shT b < 0 then -1 else shT a + shT b
  | .alt a b => if shT a < 0 ∨ (0 ≤ shT b ∧ shT b < shT a) then shT b else shT a
  | .star _ => 0
  | .plus a => shT a
  | .opt _ => 0
def loT : RxT → Int
  | .set S => if zS S = true then -1 else 1
  | .empty => 0
  | .cat a b => if loT a = -1 ∨ loT b = -1 then -1 else if loT a = -2 ∨ loT b = -2 then -2 else loT a + loT b
  | .alt a b => if loT a = -2 ∨ loT b = -2 then -2 else max (loT a) (loT b)
  | .star a => if 0 < loT a then -2 else if loT a = -1 then 0 else loT a
  | .plus a => if 0 < loT a then -2 else loT a
  | .opt a => if loT a = -1 then 0 else loT a
def frT : RxT → Nat → Bool
  | .set S => S
  | .empty => emptyS
  | .cat a b => if shT b < 0 then emptyS else if shT a = 0 then fun x => frT a x || frT b x else frT a
  | .alt a b => fun x => frT a x || frT b x
  | .star a => frT a
  | .plus a => frT a
  | .opt a => frT a
def usT : RxT → Nat → Bool
  | .set S => S
  | .empty => emptyS
  | .cat a b => if shT (.cat a b) < 0 then emptyS else fun x => usT a x || usT b x
  | .alt a b => fun x => usT a x || usT b x
  | .star a => usT a
  | .plus a => usT a
  | .opt a => usT a
/-- The program's facts. -/
structure Fact where
  some_ : Bool
  lo : Nat
  hi : Nat
  more : Bool
  first : Nat → Bool
  used : Nat → Bool
def f0 : Fact := ⟨false, 0, 0, false, emptyS, emptyS⟩
def f1 : Fact := ⟨true, 0, 0, false, emptyS, emptyS⟩
def orS (S T : Nat → Bool) : Nat → Bool := fun x => S x || T x
def catF (a b : Fact) : Fact := if a.some_ = true ∧ b.some_ = true then ⟨true, a.lo + b.lo, a.hi + b.hi, a.more || b.more, if a.lo = 0 then orS a.first b.first else a.first, orS a.used b.used⟩ else f0
def altF (a b : Fact) : Fact := if a.some_ = false then b else if b.some_ = false then a else ⟨true, min a.lo b.lo, max a.hi b.hi, a.more || b.more, orS a.first b.first, orS a.used b.used⟩
def moreF (a : Fact) : Fact := { a with more := a.more || decide (0 < a.hi) }
def factT : RxT → Fact
  | .set S => if zS S = true then f0 else ⟨true, 1, 1, false, S, S⟩
  | .empty => f1
  | .cat a b => catF (factT a) (factT b)
  | .alt a b => altF (factT a) (factT b)
  | .star a => altF f1 (moreF (factT a))
  | .plus a => moreF (factT a)
  | .opt a => altF f1 (factT a)
theorem zS_iff (S : Nat → Bool) : zS S = true ↔ ∀ x, x < 256 → S x = false := by
  unfold zS
  simp only [Bool.and_eq_true, beq_iff_eq]
  constructor
  · rintro ⟨h0, h1, h2, h3⟩ x hx
    have hz : ∀ i, wd S i = 0 → ∀ k, k < 64 → S (64 * i + k) = false := fun i h k hk => by
      have := wd_bit S i k
      rw [h] at this
      simpa [hk] using this.symm
    have hi : wd S (x / 64) = 0 := by
      have : x / 64 = 0 ∨ x / 64 = 1 ∨ x / 64 = 2 ∨ x / 64 = 3 := by omega
      rcases this with h | h | h | h <;> rw [h] <;> omega
    have := hz (x / 64) hi (x % 64) (by omega)
    rwa [show 64 * (x / 64) + x % 64 = x by omega] at this
  · intro h
    have hz : ∀ i, i < 4 → wd S i = 0 := fun i hi => by
      have e : wd S i = wd emptyS i := wd_congr fun k hk => by rw [h _ (by omega)]; rfl
      rw [e, wd_emptyS]
    refine ⟨?_, ?_, ?_, ?_⟩ <;> rw [hz _ (by omega)] <;> rfl
/-- The program's facts are the document's: a part that says nothing, or one that says something. -/
def Dead (T : RxT) : Prop := factT T = f0 ∧ shT T = -1 ∧ loT T = -1 ∧ (∀ x, x < 256 → frT T x = false) ∧ (∀ x, x < 256 → usT T x = false)
def Live (T : RxT) : Prop := ∃ (lo hi : Nat) (more : Bool) (f u : Nat → Bool), factT T = ⟨true, lo, hi, more, f, u⟩ ∧ shT T = (lo : Int) ∧ loT T = (if more = true then -2 else (hi : Int)) ∧ SameSet f (frT T) ∧ SameSet u (usT T) ∧ lo ≤ hi ∧ hi ≤ (post T).length
theorem same_fact (T : RxT) : Dead T ∨ Live T := by
  induction T with
  | set S =>
    by_cases h : zS S = true
    · have hz := (zS_iff S).1 h
      exact .inl ⟨by simp [factT, h], by simp [shT, h], by simp [loT, h], hz, hz⟩
    · exact .inr ⟨1, 1, false, S, S, by simp [factT, h], by simp [shT, h], by simp [loT, h], fun x _ => rfl, fun x _ => rfl, by omega, by simp [post]⟩
  | empty => exact .inr ⟨0, 0, false, emptyS, emptyS, rfl, rfl, rfl, fun x _ => rfl, fun x _ => rfl, by omega, by simp⟩
  | cat a b iha ihb =>
    rcases iha with ⟨fa, sa, la, ra, ua⟩ | ⟨lo, hi, mo, f, u, fa, sa, la, ra, ua, l1, l2⟩
    · have hs : shT (.cat a b) = -1 := by simp only [shT]; rw [if_pos (.inl (by omega))]
      refine .inl ⟨?_, hs, by simp only [loT]; rw [if_pos (.inl la)], fun x hx => ?_, fun x hx => ?_⟩
      · simp only [factT]; rw [fa]; simp [catF, f0]
      · simp only [frT]
        by_cases hb : shT b < 0
        · rw [if_pos hb]; rfl
        · rw [if_neg hb, if_neg (by omega)]; exact ra x hx
      · simp only [usT]; rw [if_pos (by omega)]; rfl
    · rcases ihb with ⟨fb, sb, lb, rb, ub⟩ | ⟨lo', hi', mo', f', u', fb, sb, lb, rb, ub, l1', l2'⟩
      · have hs : shT (.cat a b) = -1 := by simp only [shT]; rw [if_pos (.inr (by omega))]
        refine .inl ⟨?_, hs, by simp only [loT]; rw [if_pos (.inr lb)], fun x hx => ?_, fun x hx => ?_⟩
        · simp only [factT]; rw [fb]; simp [catF, f0]
        · simp only [frT]; rw [if_pos (by omega)]; rfl
        · simp only [usT]; rw [if_pos (by omega)]; rfl
      · have hs : shT (.cat a b) = ((lo + lo' : Nat) : Int) := by simp only [shT]; rw [if_neg (by omega)]; omega
        refine .inr ⟨lo + lo', hi + hi', mo || mo', if lo = 0 then orS f f' else f, orS u u', ?_, hs, ?_, fun x hx => ?_, fun x hx => ?_, by omega, by simp only [post, List.length_append]; omega⟩
        · simp only [factT]; rw [fa, fb]; simp [catF]
        · simp only [loT]; rw [la, lb]
          cases mo <;> cases mo' <;> simp <;> omega
        · have hb : ¬ shT b < 0 := by omega
          show (if lo = 0 then orS f f' else f) x = (if shT b < 0 then emptyS else if shT a = 0 then fun x => frT a x || frT b x else frT a) x
          rw [if_neg hb]
          by_cases h0 : lo = 0
          · rw [if_pos h0, if_pos (by omega)]
            show (f x || f' x) = (_ || _)
            rw [ra x hx, rb x hx]
          · rw [if_neg h0, if_neg (by omega)]; exact ra x hx
        · simp only [usT]
          rw [if_neg (by omega)]
          show (u x || u' x) = (_ || _)
          rw [ua x hx, ub x hx]
  | alt a b iha ihb =>
    rcases iha with ⟨fa, sa, la, ra, ua⟩ | ⟨lo, hi, mo, f, u, fa, sa, la, ra, ua, l1, l2⟩
    · have ha : factT (.alt a b) = factT b := by simp only [factT]; rw [fa]; simp [altF, f0]
      rcases ihb with ⟨fb, sb, lb, rb, ub⟩ | ⟨lo', hi', mo', f', u', fb, sb, lb, rb, ub, l1', l2'⟩
      · refine .inl ⟨by rw [ha, fb], by simp only [shT]; rw [if_pos (.inl (by omega))]; exact sb, by simp only [loT]; rw [la, lb]; decide, fun x hx => by simp [frT, ra x hx, rb x hx], fun x hx => by simp [usT, ua x hx, ub x hx]⟩
      · refine .inr ⟨lo', hi', mo', f', u', by rw [ha, fb], by simp only [shT]; rw [if_pos (.inl (by omega))]; exact sb, ?_, fun x hx => by rw [rb x hx]; simp [frT, ra x hx], fun x hx => by rw [ub x hx]; simp [usT, ua x hx], l1', by simp only [post, List.length_append]; omega⟩
        simp only [loT]; rw [la, lb]
        cases mo' <;> simp <;> omega
    · rcases ihb with ⟨fb, sb, lb, rb, ub⟩ | ⟨lo', hi', mo', f', u', fb, sb, lb, rb, ub, l1', l2'⟩
      · refine .inr ⟨lo, hi, mo, f, u, by simp only [factT]; rw [fa, fb]; simp [altF, f0], by simp only [shT]; rw [if_neg (by omega)]; exact sa, ?_, fun x hx => by rw [ra x hx]; simp [frT, rb x hx], fun x hx => by rw [ua x hx]; simp [usT, ub x hx], l1, by simp only [post, List.length_append]; omega⟩
        simp only [loT]; rw [la, lb]
        cases mo <;> simp <;> omega
      · refine .inr ⟨min lo lo', max hi hi', mo || mo', orS f f', orS u u', by simp only [factT]; rw [fa, fb]; simp [altF], ?_, ?_, fun x hx => ?_, fun x hx => ?_, by omega, by simp only [post, List.length_append]; omega⟩
        · simp only [shT]; split <;> omega
        · simp only [loT]; rw [la, lb]
          cases mo <;> cases mo' <;> simp <;> omega
        · show (f x || f' x) = (_ || _); rw [ra x hx, rb x hx]
        · show (u x || u' x) = (_ || _); rw [ua x hx, ub x hx]
  | star a iha =>
    rcases iha with ⟨fa, sa, la, ra, ua⟩ | ⟨lo, hi, mo, f, u, fa, sa, la, ra, ua, l1, l2⟩
    · refine .inr ⟨0, 0, false, emptyS, emptyS, by simp only [factT]; rw [fa]; simp [altF, f0, f1, moreF], rfl, by simp only [loT]; rw [la]; decide, fun x hx => by show emptyS x = frT a x; rw [ra x hx]; rfl, fun x hx => by show emptyS x = usT a x; rw [ua x hx]; rfl, by omega, by omega⟩
    · refine .inr ⟨0, hi, mo || decide (0 < hi), orS emptyS f, orS emptyS u, by simp only [factT]; rw [fa]; simp [altF, f1, moreF], rfl, ?_, fun x hx => by show (emptyS x || f x) = frT a x; rw [ra x hx]; rfl, fun x hx => by show (emptyS x || u x) = usT a x; rw [ua x hx]; rfl, by omega, by simp only [post, List.length_append]; omega⟩
      simp only [loT]; rw [la]
      cases mo
      · by_cases h0 : 0 < hi
        · simp [h0]
        · have : hi = 0 := by omega
          simp [this]
      · simp
  | plus a iha =>
    rcases iha with ⟨fa, sa, la, ra, ua⟩ | ⟨lo, hi, mo, f, u, fa, sa, la, ra, ua, l1, l2⟩
    · exact .inl ⟨by simp only [factT]; rw [fa]; rfl, sa, by simp only [loT]; rw [la]; decide, ra, ua⟩
    · refine .inr ⟨lo, hi, mo || decide (0 < hi), f, u, by simp only [factT]; rw [fa]; rfl, sa, ?_, ra, ua, l1, by simp only [post, List.length_append]; omega⟩
      simp only [loT]; rw [la]
      cases mo
      · by_cases h0 : 0 < hi
        · simp [h0]
        · have : hi = 0 := by omega
          simp [this]
      · simp
  | opt a iha =>
    rcases iha with ⟨fa, sa, la, ra, ua⟩ | ⟨lo, hi, mo, f, u, fa, sa, la, ra, ua, l1, l2⟩
    · refine .inr ⟨0, 0, false, emptyS, emptyS, by simp only [factT]; rw [fa]; simp [altF, f0, f1], rfl, by simp only [loT]; rw [la]; decide, fun x hx => by show emptyS x = frT a x; rw [ra x hx]; rfl, fun x hx => by show emptyS x = usT a x; rw [ua x hx]; rfl, by omega, by omega⟩
    · refine .inr ⟨0, hi, mo, orS emptyS f, orS emptyS u, by simp only [factT]; rw [fa]; simp [altF, f1], rfl, ?_, fun x hx => by show (emptyS x || f x) = frT a x; rw [ra x hx]; rfl, fun x hx => by show (emptyS x || u x) = usT a x; rw [ua x hx]; rfl, by omega, by simp only [post, List.length_append]; omega⟩
      simp only [loT]; rw [la]
      cases mo
      · simp
      · simp
theorem fact_le (T : RxT) : (factT T).lo ≤ (factT T).hi ∧ (factT T).hi ≤ (post T).length := by
  rcases same_fact T with ⟨fa, _⟩ | ⟨lo, hi, mo, f, u, fa, _, _, _, _, l1, l2⟩
  · rw [fa]; simp [f0]
  · rw [fa]; exact ⟨l1, l2⟩
end Go.Proofs.Ytbefndibkpjgaaa
/- bset: One, Span, And, Not, Minus, All: the program's. -/
namespace Go.Proofs.Ytbefndibkpjgaaa
open Go.RowKit
set_option linter.unusedVariables false

theorem val_words {S T : Nat → Bool} (h : SameSet S T) : (#[Value.int .u64 (wd S 0), .int .u64 (wd S 1), .int .u64 (wd S 2), .int .u64 (wd S 3)] : Array Value) = #[.int .u64 (wd T 0), .int .u64 (wd T 1), .int .u64 (wd T 2), .int .u64 (wd T 3)] := by
  have := h.val
  unfold setV at this
  exact Value.agg.inj this
theorem SetAt.congr {w : World} {g : Nat} {S T : Nat → Bool} (h : SetAt w g S) (e : SameSet S T) : SetAt w g T := by
  unfold SetAt at h ⊢; rw [← val_words e]; exact h
theorem set_zero (b : Nat) (h : b < 256) : (#[Value.int .u64 0, .int .u64 0, .int .u64 0, .int .u64 0] : Array Value).setIfInBounds (b / 64) (.int .u64 (IntKind.u64.wrap ((2 : Int) ^ (b % 64)))) =
    #[.int .u64 (wd (fun x => x == b) 0), .int .u64 (wd (fun x => x == b) 1), .int .u64 (wd (fun x => x == b) 2), .int .u64 (wd (fun x => x == b) 3)] := by
  have h1 := words_set emptyS (fun x => x == b) (b / 64) (by omega) (fun j hj => by
    rw [wd_one, if_neg (by omega), wd_emptyS])
  have h2 := wd_one b (b / 64)
  rw [if_pos rfl] at h2
  rw [wrap_pow _ (by omega : b % 64 < 64), ← h2]
  simp only [wd_emptyS] at h1
  exact h1
theorem SetAt.fz {w : World} {g : Nat} {S : Nat → Bool} (h : SetAt w g S) (i : Nat) : w.frozen? ⟨g, i, none⟩ = false := frozen_of_row w g i _ _ h
/-- One word of a set written anew. -/
theorem SetAt.put {w : World} {g : Nat} {S T : Nat → Bool} (h : SetAt w g S) (k : Nat) (hk : k < 4) (hT : ∀ j, j ≠ k → j < 4 → wd T j = wd S j) : SetAt (w.setCell ⟨g, k, none⟩ (.int .u64 (wd T k))) g T := by
  unfold SetAt
  rw [heap_setCell_same w g k _ _ _ h]
  congr 2
  have : k = 0 ∨ k = 1 ∨ k = 2 ∨ k = 3 := by omega
  rcases this with rfl | rfl | rfl | rfl
  · rw [hT 1 (by omega) (by omega), hT 2 (by omega) (by omega), hT 3 (by omega) (by omega)]; rfl
  · rw [hT 0 (by omega) (by omega), hT 2 (by omega) (by omega), hT 3 (by omega) (by omega)]; rfl
  · rw [hT 0 (by omega) (by omega), hT 1 (by omega) (by omega), hT 3 (by omega) (by omega)]; rfl
  · rw [hT 0 (by omega) (by omega), hT 1 (by omega) (by omega), hT 2 (by omega) (by omega)]; rfl
theorem SetAt.far {w : World} {g : Nat} {S : Nat → Bool} (h : SetAt w g S) {p : Addr} (hp : g ≠ p.block) (u : Value) : SetAt (w.setCell p u) g S := (heap_setCell_other w p g u hp).trans h
/-- The words below k of one, the others of another. -/
def mixS (T S : Nat → Bool) (k : Nat) : Nat → Bool := fun x => if x / 64 < k then T x else S x
theorem mix_zero (T S : Nat → Bool) : SameSet (mixS T S 0) S := fun x _ => by simp [mixS]
theorem mix_four (T S : Nat → Bool) : SameSet (mixS T S 4) T := fun x hx => by
  have : x / 64 < 4 := by omega
  simp [mixS, this]
theorem mix_at (T S : Nat → Bool) (k : Nat) : wd (mixS T S k) k = wd S k := wd_congr fun j hj => by
  have : ¬ (64 * k + j) / 64 < k := by omega
  simp [mixS, this]
theorem mix_next (T S : Nat → Bool) (k : Nat) : wd (mixS T S (k + 1)) k = wd T k := wd_congr fun j hj => by
  have : (64 * k + j) / 64 < k + 1 := by omega
  simp [mixS, this]
theorem mix_far (T S : Nat → Bool) (k j : Nat) (h : j ≠ k) : wd (mixS T S (k + 1)) j = wd (mixS T S k) j := wd_congr fun i hi => by
  have : ((64 * j + i) / 64 < k + 1) = ((64 * j + i) / 64 < k) := by rw [eq_iff_iff]; omega
  simp [mixS, this]
theorem not_word (S : Nat → Bool) (k : Nat) : (18446744073709551615 - (wd S k : Int)) = (wd (fun x => !S x) k : Int) := by
  have h := wd_not S k
  have := wd_lt S k
  omega
theorem bits_xor_u64 (a b : Nat) (ha : a < 18446744073709551616) (hb : b < 18446744073709551616) : bits .xor .u64 (a : Int) (b : Int) = ((a ^^^ b : Nat) : Int) := by
  have hx : a ^^^ b < 2 ^ 64 := Nat.xor_lt_two_pow (by omega) (by omega)
  have h1 : (BitVec.ofInt 64 (a : Int)).toNat = a := by
    rw [BitVec.ofInt_natCast, BitVec.toNat_ofNat]; exact Nat.mod_eq_of_lt (by omega)
  have h2 : (BitVec.ofInt 64 (b : Int)).toNat = b := by
    rw [BitVec.ofInt_natCast, BitVec.toNat_ofNat]; exact Nat.mod_eq_of_lt (by omega)
  show IntKind.u64.wrap ((BitVec.ofInt 64 (a : Int) ^^^ BitVec.ofInt 64 (b : Int)).toNat : Int) = _
  rw [BitVec.toNat_xor, h1, h2, IntKind.wrap_u64]
  omega
theorem xor_word (S : Nat → Bool) (k : Nat) : bits BinOp.xor IntKind.u64 (if IntKind.u64.signed = true then -1 else IntKind.u64.max) (wd S k : Int) = (wd (fun x => !S x) k : Int) := by
  have e : (if IntKind.u64.signed = true then -1 else IntKind.u64.max : Int) = ((2 ^ 64 - 1 : Nat) : Int) := by decide
  rw [e, bits_xor_u64 _ _ (by decide) (wd_lt _ _)]
  congr 1
  refine wd_ext (Nat.xor_lt_two_pow (n := 64) (by decide) (wd_lt S k)) fun j hj => ?_
  rw [Nat.testBit_xor, Nat.testBit_two_pow_sub_one, wd_bit]
  simp [hj]
/-- What one of some has. -/
def anyS (ls : List (Nat → Bool)) : Nat → Bool := fun x => ls.any fun S => S x
theorem any_next {ls : List (Nat → Bool)} {k : Nat} {S : Nat → Bool} (h : ls[k]? = some S) : SameSet (fun x => anyS (ls.take k) x || S x) (anyS (ls.take (k + 1))) := fun x _ => by
  unfold anyS; rw [List.take_add_one, h]; simp
theorem any_zero (ls : List (Nat → Bool)) : SameSet emptyS (anyS (ls.take 0)) := fun x _ => by simp [anyS, emptyS]
set_option maxHeartbeats 1000000 in
theorem ball_any (w : World) (a : Option Addr) (len cap : Nat) (ls : List (Nat → Bool)) (h : SRow w a len ls) :
    Calls Try.prog 74 #[.slice a len cap] w fun e w' => e = .returned (setV (anyS ls)) ∧ Below w.heap.size w w' := by
  have hl2 := h.2.1
  have hz : SetAt ((w.alloc (.cells #[.int .u64 0, .int .u64 0, .int .u64 0, .int .u64 0] 33)).alloc (.cells #[.int .u64 0, .int .u64 0, .int .u64 0, .int .u64 0] 33)) (w.heap.size + 1) emptyS := SetAt.of_empty (heap_alloc2_new w _ _)
  have hy : SetAt ((w.alloc (.cells #[.int .u64 0, .int .u64 0, .int .u64 0, .int .u64 0] 33)).alloc (.cells #[.int .u64 0, .int .u64 0, .int .u64 0, .int .u64 0] 33)) w.heap.size emptyS := SetAt.of_empty (heap_alloc2_old w _ _)
  have HZ := Lib.hid (hz.congr (any_zero ls))
  have HY := Lib.hid hy
  have HH := Lib.hid h
  have HL := Lib.hid h.1
  clear hz hy h
  unfold setV
  go_enter Try.func74, Try.ntmps74
  go_wp2
  go_loopw [9] (fun i wr => ∃ k : Nat, k ≤ len ∧ i = .int .i64 k ∧ SetAt wr w.heap.size emptyS ∧ SetAt wr (w.heap.size + 1) (anyS (ls.take k)) ∧ Below w.heap.size w wr) (fun i _ => len - (intOf i).toNat)
  case atStart => exact ⟨0, by omega, rfl, HY.out, HZ.out, ((Below.refl _ _).alloc (Nat.le_refl _) _).alloc (by simp) _⟩
  case round =>
    obtain ⟨k, hk, rfl, hY, hZ, hb⟩ := hrel
    have HY2 := Lib.hid hY
    have HZ2 := Lib.hid hZ
    have HB := Lib.hid hb
    have hz1 := hZ.lt
    clear hY hZ hb
    generalize wr = wo at *
    by_cases hlt : k < len
    · obtain ⟨b1, o1, S, rfl, hbl, hS, c0, c1, c2, c3⟩ := (HH.out.below HB.out).at_ hlt
      have HS := Lib.hid hS
      have HY3 := Lib.hid (SetAt.below HY2.out ((Below.refl wo.heap.size wo).alloc (Nat.le_refl _) (.cells #[.int .u64 (wd S 0), .int .u64 (wd S 1), .int .u64 (wd S 2), .int .u64 (wd S 3)] 33)) (by omega))
      have HZ3 := Lib.hid ((SetAt.below HZ2.out ((Below.refl wo.heap.size wo).alloc (Nat.le_refl _) (.cells #[.int .u64 (wd S 0), .int .u64 (wd S 1), .int .u64 (wd S 2), .int .u64 (wd S 3)] 33)) hz1).congr (fun x hx => (mix_zero (fun x => anyS (ls.take k) x || S x) (anyS (ls.take k)) x hx).symm))
      have HX3 : Hid (SetAt (wo.alloc (.cells #[.int .u64 (wd S 0), .int .u64 (wd S 1), .int .u64 (wd S 2), .int .u64 (wd S 3)] 33)) wo.heap.size S) := Lib.hid (heap_alloc_new wo _)
      have HB3 := Lib.hid (HB.out.alloc (by omega) (.cells #[.int .u64 (wd S 0), .int .u64 (wd S 1), .int .u64 (wd S 2), .int .u64 (wd S 3)] 33))
      have hp0 : (0 : Int) ≤ (k : Int) := by omega
      have hp1 : (k : Int) < (len : Int) := by omega
      clear hS
      go_wp2
      go_loopw [13] (fun i wr => ∃ j : Nat, j ≤ 4 ∧ i = .int .i64 j ∧ SetAt wr w.heap.size emptyS ∧ SetAt wr (w.heap.size + 1) (mixS (fun x => anyS (ls.take k) x || S x) (anyS (ls.take k)) j) ∧ SetAt wr wo.heap.size S ∧ Below w.heap.size w wr) (fun i _ => 4 - (intOf i).toNat)
      case atStart => exact ⟨0, by omega, rfl, HY3.out, HZ3.out, HX3.out, HB3.out⟩
      case round =>
        obtain ⟨j, hj, rfl, hY, hZ, hX, hb⟩ := hrel
        have HY4 := Lib.hid hY
        have HZ4 := Lib.hid hZ
        have HX4 := Lib.hid hX
        have HB4 := Lib.hid hb
        clear hY hZ hX hb
        by_cases hj4 : j < 4
        · have c := HZ4.out.cell j hj4
          have d := HX4.out.cell j hj4
          have fz := HZ4.out.fz j
          rw [mix_at] at c
          have hq0 : (0 : Int) ≤ (j : Int) := by omega
          have hq1 : (j : Int) < 4 := by omega
          have hor : bits .or .u64 (wd (anyS (ls.take k)) j : Int) (wd S j : Int) = (wd (fun x => anyS (ls.take k) x || S x) j : Int) := by
            rw [bits_or_u64 _ _ (wd_lt _ _) (wd_lt _ _), wd_or]
          have HSS : Hid (SetAt (wr.setCell ⟨w.heap.size + 1, j, none⟩ (.int .u64 (wd (fun x => anyS (ls.take k) x || S x) j))) (w.heap.size + 1) (mixS (fun x => anyS (ls.take k) x || S x) (anyS (ls.take k)) (j + 1))) := Lib.hid (by
            rw [← mix_next (fun x => anyS (ls.take k) x || S x) (anyS (ls.take k)) j]
            exact HZ4.out.put j hj4 (fun i hi _ => mix_far _ _ _ _ hi))
          go_wp2
          go_region
          go_wp2
          go_roundw
          case rel => exact ⟨j + 1, by omega, by go_num, HY4.out.far (by simp) _, HSS.out, HX4.out.far (by simp; omega) _, (HB4.out.setCell (p := ⟨w.heap.size + 1, j, none⟩) (by simp) _).drew⟩
          case measure => simp [intOf]; omega
        · have hj4 : j = 4 := by omega
          subst hj4
          have HZ5 := Lib.hid ((HZ4.out.congr (mix_four _ _)).congr (any_next HS.out))
          go_wp2
          go_roundw
          case rel => exact ⟨k + 1, by omega, by go_num, HY4.out, HZ5.out, HB4.out⟩
          case measure => simp [intOf]; omega
    · have HK : Hid (ls.take k = ls) := by show _ = _; exact List.take_of_length_le (by rw [HL.out]; omega)
      rw [HK.out] at HZ2
      have c0 := HZ2.out.cell 0 (by omega)
      have c1 := HZ2.out.cell 1 (by omega)
      have c2 := HZ2.out.cell 2 (by omega)
      have c3 := HZ2.out.cell 3 (by omega)
      go_wp2_with (refine wpList_store_set rfl _ _ rfl w.heap.size emptyS (anyS ls) rfl rfl HY2.out ?_; intro w9 hR hB9 hO9 hS9)
      refine bodyPost_ret (results_cell_row rfl _ _ w.heap.size 33 _ (0, 0) _ rfl hR Try.underlying33 rfl sizeSet) rfl ⟨rfl, ?_⟩
      exact HB.out.trans (hB9 _ (Nat.le_refl _))
end Go.Proofs.Ytbefndibkpjgaaa
