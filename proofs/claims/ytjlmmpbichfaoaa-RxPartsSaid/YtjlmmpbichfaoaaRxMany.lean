/- rx: parts one behind the other. -/
import Derived.Test.YtjlmmpbichfaoaaRxMake
namespace Go.Proofs.Ytjlmmpbichfaoaa
open Go.RowKit
set_option linter.unusedVariables false

theorem blk_lt {w : World} {g : Nat} {o : Obj} (h : w.heap[g]? = some o) : g < w.heap.size := by
  rcases Nat.lt_or_ge g w.heap.size with hl | hl
  · exact hl
  · rw [Array.getElem?_eq_none hl] at h; cases h
theorem own_keep {w w' : World} {base : Nat} {e : TypeId} {size : Nat} {v : Value} {n : Nat} {xs : List Value} (h : w.ownsRow base e size v n xs) (hk : ∀ k cur, v.ownBlock = some k → w.heap[k]? = some (.cells cur e (0, 0)) → w'.heap[k]? = w.heap[k]?) : w'.ownsRow base e size v n xs := by
  refine ⟨h.1, ?_⟩
  rcases h.2 with h2 | ⟨g, cap, cur, rfl, hbg, hg, r⟩
  · exact Or.inl h2
  · exact Or.inr ⟨g, cap, cur, rfl, hbg, (hk g cur rfl hg).trans hg, r⟩
theorem own_obj {w : World} {base : Nat} {e : TypeId} {size : Nat} {v : Value} {n : Nat} {xs : List Value} (h : w.ownsRow base e size v n xs) {k : Nat} (hk : v.ownBlock = some k) : ∃ cur, w.heap[k]? = some (.cells cur e (0, 0)) := by
  rcases h.2 with ⟨rfl, _⟩ | ⟨g, cap, cur, rfl, hbg, hg, r⟩
  · simp [Value.ownBlock] at hk
  · have : g = k := by simpa [Value.ownBlock] using hk
    subst this; exact ⟨cur, hg⟩
theorem obj_ne {w : World} {i j : Nat} {a b : Array Value} {s t : TypeId} (h : w.heap[i]? = some (.cells a s (0, 0))) (k : w.heap[j]? = some (.cells b t (0, 0))) (hst : s ≠ t) : i ≠ j := by
  intro e; subst e
  rw [h] at k
  have := Option.some.inj k
  injection this with _ h2 _
  exact hst h2
/-- A part: where its steps lie, and which. -/
structure Rw where
  a : Option Addr
  l : Nat
  c : Nat
  rs : List Rx
instance : Inhabited Rw := ⟨⟨none, 0, 0, []⟩⟩
def slC (o : Rw) : List Value := [.slice o.a o.l o.c]
theorem slC_len (o : Rw) : (slC o).length = 1 := rfl
theorem slC_one (o : Rw) : ∀ u ∈ slC o, u.oneCell' = true := fun u hu => by simp [slC] at hu; subst hu; rfl
def RRow (w : World) (A : Option Addr) (n : Nat) (os : List Rw) : Prop := CRow slC 1 w A n os ∧ ∀ o ∈ os, CRow rxC 5 w o.a o.l o.rs
theorem RRow.below {w w' : World} {A : Option Addr} {n : Nat} {os : List Rw} (h : RRow w A n os) (hb : Below w.heap.size w w') : RRow w' A n os := ⟨h.1.below hb, fun o ho => (h.2 o ho).below hb⟩
/-- Parts with a step behind each but the first one. -/
def behUp (k : Int) (ls : List (List Rx)) : Nat → List Rx
  | 0 => []
  | j + 1 => behUp k ls j ++ ((ls[j]?).getD [] ++ if 0 < j then [stp0 k] else [])
def tot (ls : List (List Rx)) : Nat := (ls.map List.length).sum
theorem sum_take_le (l : List Nat) : ∀ k, (l.take k).sum ≤ l.sum := by
  induction l with
  | nil => intro k; simp
  | cons x l ih =>
    intro k
    cases k with
    | zero => simp
    | succ k => simp [ih k]
theorem beh_len (k : Int) (ls : List (List Rx)) : ∀ j, (behUp k ls j).length ≤ tot (ls.take j) + j
  | 0 => by simp [behUp]
  | j + 1 => by
    have ih := beh_len k ls j
    have h1 : (if 0 < j then [stp0 k] else []).length ≤ 1 := by split <;> simp
    have h2 : tot (ls.take (j + 1)) = tot (ls.take j) + ((ls[j]?).getD []).length := by
      unfold tot; rw [List.take_add_one]
      cases ls[j]? <;> simp
    simp only [behUp, List.length_append]; omega
theorem tot_take (ls : List (List Rx)) (j : Nat) : tot (ls.take j) ≤ tot ls := by
  unfold tot; rw [List.map_take]; exact sum_take_le _ j
theorem tot_at {ls : List (List Rx)} {j : Nat} {l : List Rx} (h : ls[j]? = some l) : l.length ≤ tot ls := by
  have h1 := tot_take ls (j + 1)
  have h2 : tot (ls.take (j + 1)) = tot (ls.take j) + l.length := by unfold tot; rw [List.take_add_one, h]; simp
  omega
theorem beh_next {k : Int} {os : List Rw} {j : Nat} {o : Rw} (h : os[j]? = some o) : behUp k (os.map Rw.rs) (j + 1) = behUp k (os.map Rw.rs) j ++ (o.rs ++ if 0 < j then [stp0 k] else []) := by
  simp only [behUp]; rw [List.getElem?_map, h]; rfl
/-- A box that holds a row of the call's own. -/
structure BoxRow (B : Nat) (w : World) (X : Nat) (v : Value) (rs : List Rx) : Prop where
  blk : w.heap[X]? = some (.cells #[v] 28 (0, 0))
  ow : w.ownsRow B 44 5 v rs.length (rs.flatMap rxC)
theorem BoxRow.below {B : Nat} {w w' : World} {X : Nat} {v : Value} {rs : List Rx} (h : BoxRow B w X v rs) (hb : Below w.heap.size w w') : BoxRow B w' X v rs := ⟨(hb.block X (blk_lt h.blk)).trans h.blk, ownB h.ow hb⟩
set_option maxHeartbeats 1000000 in
theorem put_any (w w0 : World) (B X : Nat) (v : Value) (rs : List Rx) (a : Option Addr) (m c : Nat) (os : List Rx) (h : BoxRow B w X v rs) (hr : CRow rxC 5 w a m os) (hB : Below B w0 w) (hBX : B ≤ X) (hn : rs.length + m ≤ 100000) :
    Calls Try.prog 32 #[.slice a m c, .pointer (some ⟨X, 0, none⟩)] w fun e w' => e = .returned (.tuple #[]) ∧ ∃ v', BoxRow B w' X v' (rs ++ os) ∧ Below B w0 w' := by
  have c0 : w.cell? ⟨X, 0, none⟩ = some v := by rw [cell_of_row w X 0 _ _ _ h.blk]; rfl
  have hlt := blk_lt h.blk
  have HH := Lib.hid h
  have HBW := Lib.hid hB
  have hne : some X ≠ v.ownBlock := fun e => by
    obtain ⟨cur, hc⟩ := own_obj h.ow e.symm
    exact obj_ne h.blk hc (by decide) rfl
  have HNE := Lib.hid hne
  have HAP := Lib.hid (app_rxs h.ow hr (c := c) (by omega) (by omega : B ≤ w.heap.size))
  have HL := Lib.hid hr.1
  clear h hr hB hne
  go_enter Try.func32, Try.ntmps32
  go_wp2_with (at_builtin; refine HAP.out _ _ _ _ _ rfl _ _ rfl rfl rfl ?_; intro v2 w2 hown1 hgrow hat; have HW := Lib.hid hown1; have HBLK : Hid (w2.heap[X]? = some (.cells #[v] 28 (0, 0))) := Lib.hid ((hgrow.block X hlt HNE.out).trans HH.out.blk); have HB2 := Lib.hid (below_grown HBW.out (by omega) hgrow (fun j hj => (own_ge HH.out.ow hj).1)); have c2 : w2.cell? ⟨X, 0, none⟩ = some v := (cell_of_row w2 X 0 _ _ _ HBLK.out).trans rfl; have f2 := frozen_of_row w2 X 0 _ _ HBLK.out; have HF := Lib.hid (own_form hown1); clear hown1 hgrow hat; obtain ⟨A2, cc2, rfl, hle2, hcc2⟩ := HF.out; clear HF)
  go_end0
  refine ⟨rfl, _, ⟨heap_setCell_same w2 X 0 _ _ _ HBLK.out, ?_⟩, HB2.out.setCell (p := ⟨X, 0, none⟩) hBX _⟩
  have hw := HW.out
  rw [List.length_append, HL.out]
  refine own_keep hw fun k cur hk hc => heap_setCell_other _ _ _ _ ?_
  exact obj_ne hc HBLK.out (by decide)
set_option maxHeartbeats 4000000 in
theorem behind_any (w : World) (A : Option Addr) (n d : Nat) (os : List Rw) (k : Int) (h : RRow w A n os) (hsm : tot (os.map Rw.rs) + n ≤ 2000) :
    Calls Try.prog 26 #[.int .i64 k, .slice A n d] w (Gives w (behUp k (os.map Rw.rs) n)) := by
  have hl2 := h.1.2.1
  have HH := Lib.hid h
  have HL := Lib.hid h.1.1
  have HSM := Lib.hid hsm
  have hn2 : n ≤ 2000 := by omega
  obtain ⟨g, hg⟩ : ∃ g, w.heap.size = g := ⟨_, rfl⟩
  have HG := Lib.hid hg
  have HB0 := Lib.hid (show Below g w (w.alloc (.cells #[.slice none 0 0] 28)) by rw [← hg]; exact (Below.refl _ _).alloc (Nat.le_refl _) _)
  have HX0 : Hid (BoxRow g (w.alloc (.cells #[.slice none 0 0] 28)) g (.slice none 0 0) []) := Lib.hid ⟨by rw [← hg]; exact heap_alloc_new w _, own_new _ _ _ _⟩
  have hmf : ∀ (fn : Fn) (first cap : Array Value) (w : World), (Instr.makeFunc fn first cap).run Try.prog w = .ok (.func fn first cap) w := fun _ _ _ _ => rfl
  unfold Gives
  clear h hsm
  go_enter Try.func26, Try.ntmps26
  go_wp2
  clear hg
  go_loopw [12] (fun i wr => ∃ (j : Nat) (v : Value), j ≤ n ∧ i = .int .i64 (j : Int) ∧ BoxRow g wr g v (behUp k (os.map Rw.rs) j) ∧ Below g w wr) (fun i _ => n - (intOf i).toNat)
  case atStart => exact ⟨0, _, by omega, rfl, HX0.out, HB0.out⟩
  case round =>
    obtain ⟨j, v, hj, rfl, hbx, hb⟩ := hrel
    clear HX0 HB0
    have HX := Lib.hid hbx
    have HB := Lib.hid hb
    have HLEN : Hid ((behUp k (os.map Rw.rs) j).length ≤ 2000) := Lib.hid (by have := beh_len k (os.map Rw.rs) j; have h2 := tot_take (os.map Rw.rs) j; have := HSM.out; omega)
    clear hbx hb
    by_cases hlt : j < n
    · obtain ⟨b1, o1, o, rfl, hbl, ho, hc⟩ := HH.out.1.at_ hlt
      have hbg : b1 < g := by have := HG.out; omega
      have HR := Lib.hid (HH.out.2 o (List.mem_of_getElem? ho))
      have HNX := Lib.hid (beh_next (k := k) ho)
      have HTA : Hid (o.rs.length ≤ 2000) := Lib.hid (by have := tot_at (ls := os.map Rw.rs) (j := j) (l := o.rs) (by rw [List.getElem?_map, ho]; rfl); have := HSM.out; omega)
      obtain ⟨oa, ol, oc, ors⟩ := o
      dsimp only at HR HNX HTA
      have HOL := Lib.hid HR.out.1
      have c0 : wr.cell? ⟨b1, o1 + j, none⟩ = some (.slice oa ol oc) := (HB.out.cell (p := ⟨b1, o1 + j, none⟩) hbg).trans (by have := hc 0 _ rfl; simpa using this)
      have HP1 := Lib.hid (put_any wr w g g v _ oa ol oc ors HX.out (HR.out.below (by rw [HG.out]; exact HB.out)) HB.out (Nat.le_refl _) (by have := HLEN.out; have := HTA.out; have := HOL.out; omega))
      have h0 : (0 : Int) ≤ (j : Int) := by omega
      have h1 : (j : Int) < (n : Int) := by omega
      clear hc ho
      go_wp2_with fail
      refine HP1.out.mono ?_
      rintro e w2 ⟨rfl, v2, hx2, hb2⟩
      have HX2 := Lib.hid hx2
      have HB2 := Lib.hid hb2
      have hg2 : g < w2.heap.size := blk_lt hx2.blk
      clear hx2 hb2
      by_cases hj0 : j = 0
      · have q1 : ¬ 0 < j := by omega
        have q2 : decide (0 < j) = false := decide_eq_false q1
        have HNX2 : Hid (behUp k (os.map Rw.rs) (j + 1) = behUp k (os.map Rw.rs) j ++ ors) := Lib.hid (by rw [HNX.out, if_neg q1]; simp)
        clear hj0
        go_wp2
        go_roundw
        case rel => exact ⟨j + 1, v2, by omega, by go_num, by rw [HNX2.out]; exact HX2.out, HB2.out⟩
        case measure => simp [intOf]; omega
      · have q1 : 0 < j := by omega
        have q2 : decide (0 < j) = true := decide_eq_true q1
        have HNX2 : Hid (behUp k (os.map Rw.rs) (j + 1) = (behUp k (os.map Rw.rs) j ++ ors) ++ [stp0 k]) := Lib.hid (by rw [HNX.out, if_pos q1, List.append_assoc])
        have HB3 := Lib.hid ((Below.refl w2.heap.size w2).alloc (Nat.le_refl _) (.cells #[.int .i64 k, .int .u64 0, .int .u64 0, .int .u64 0, .int .u64 0] 44))
        have HR3 : Hid (CRow rxC 5 (w2.alloc (.cells #[.int .i64 k, .int .u64 0, .int .u64 0, .int .u64 0, .int .u64 0] 44)) (some ⟨w2.heap.size, 0, none⟩) 1 [stp0 k]) := Lib.hid (by
          have h := own_lit1 w2 w2.heap.size (Nat.le_refl _) (stp0 k) #[.int .i64 k, .int .u64 0, .int .u64 0, .int .u64 0, .int .u64 0] (by rw [stp0_C])
          exact own_crow (os := [stp0 k]) rxC_len h (by simp))
        have HP2 := Lib.hid (put_any _ w g g v2 _ _ 1 1 [stp0 k] (HX2.out.below HB3.out) HR3.out (HB2.out.alloc (by omega) (.cells #[.int .i64 k, .int .u64 0, .int .u64 0, .int .u64 0, .int .u64 0] 44)) (Nat.le_refl _) (by rw [List.length_append]; have := HLEN.out; have := HTA.out; omega))
        clear hj0
        go_wp2_with fail
        refine HP2.out.mono ?_
        rintro e w4 ⟨rfl, v4, hx4, hb4⟩
        have HX4 := Lib.hid hx4
        have HB4 := Lib.hid hb4
        clear hx4 hb4
        go_wp2
        go_roundw
        case rel => exact ⟨j + 1, v4, by omega, by go_num, by rw [HNX2.out]; exact HX4.out, HB4.out⟩
        case measure => simp [intOf]; omega
    · have hjn : j = n := by omega
      subst hjn
      have c0 : wr.cell? ⟨g, 0, none⟩ = some v := by rw [cell_of_row wr g 0 _ _ _ HX.out.blk]; rfl
      go_wp2
      go_ret
      exact ⟨_, rfl, by first | exact HX.out.ow | (rw [HG.out]; exact HX.out.ow), by first | exact HB.out | (rw [HG.out]; exact HB.out)⟩
set_option maxHeartbeats 4000000 in
theorem many_any (w : World) (A : Option Addr) (n d : Nat) (os : List Rw) (k : Int) (h : RRow w A n os) (hsm : tot (os.map Rw.rs) + n ≤ 2000) :
    Calls Try.prog 27 #[.slice A n d, .int .i64 k] w (Gives w (behUp k (os.map Rw.rs) n)) := by
  have hl2 := h.1.2.1
  have HH := Lib.hid h
  have HL := Lib.hid h.1.1
  have HSM := Lib.hid hsm
  have hn2 : n ≤ 2000 := by omega
  obtain ⟨g, hg⟩ : ∃ g, w.heap.size = g := ⟨_, rfl⟩
  have HG := Lib.hid hg
  have HB0 := Lib.hid (show Below g w (w.alloc (.cells #[] 44)) by rw [← hg]; exact (Below.refl _ _).alloc (Nat.le_refl _) _)
  have HO0 := Lib.hid (World.ownsRow_made (base := g) (e := 44) (size := 5) w #[] 0 (Nat.le_of_eq HG.out.symm) (by decide) (by simp))
  rw [hg] at HO0
  unfold Gives
  clear h hsm
  go_enter Try.func27, Try.ntmps27
  go_wp2
  clear hg
  go_loopw [5, 6] (fun v i wr => ∃ (j : Nat), j ≤ n ∧ i = .int .i64 (j : Int) ∧ wr.ownsRow g 44 5 v (behUp k (os.map Rw.rs) j).length ((behUp k (os.map Rw.rs) j).flatMap rxC) ∧ Below g w wr) (fun _ i _ => n - (intOf i).toNat)
  case atStart => exact ⟨0, by omega, rfl, HO0.out, HB0.out⟩
  case round =>
    obtain ⟨j, hj, rfl, hown, hb⟩ := hrel
    clear HO0 HB0
    have HO := Lib.hid hown
    have HB := Lib.hid hb
    have hgl : g ≤ wr.heap.size := by have := HG.out; have := hb.size; omega
    have HLEN : Hid ((behUp k (os.map Rw.rs) j).length ≤ 2000) := Lib.hid (by have := beh_len k (os.map Rw.rs) j; have h2 := tot_take (os.map Rw.rs) j; have := HSM.out; omega)
    clear hown hb
    by_cases hlt : j < n
    · obtain ⟨b1, o1, o, rfl, hbl, ho, hc⟩ := HH.out.1.at_ hlt
      have hbg : b1 < g := by have := HG.out; omega
      have HR := Lib.hid (HH.out.2 o (List.mem_of_getElem? ho))
      have HNX := Lib.hid (beh_next (k := k) ho)
      have HTA : Hid (o.rs.length ≤ 2000) := Lib.hid (by have := tot_at (ls := os.map Rw.rs) (j := j) (l := o.rs) (by rw [List.getElem?_map, ho]; rfl); have := HSM.out; omega)
      obtain ⟨oa, ol, oc, ors⟩ := o
      dsimp only at HR HNX HTA
      have HOL := Lib.hid HR.out.1
      have c0 : wr.cell? ⟨b1, o1 + j, none⟩ = some (.slice oa ol oc) := (HB.out.cell (p := ⟨b1, o1 + j, none⟩) hbg).trans (by have := hc 0 _ rfl; simpa using this)
      have HAP := Lib.hid (app_rxs HO.out (HR.out.below (by rw [HG.out]; exact HB.out)) (c := oc) (by have := HLEN.out; have := HTA.out; have := HOL.out; omega) hgl)
      have h0 : (0 : Int) ≤ (j : Int) := by omega
      have h1 : (j : Int) < (n : Int) := by omega
      clear hc ho
      obtain ⟨xs, hxs⟩ : ∃ xs, behUp k (os.map Rw.rs) j = xs := ⟨_, rfl⟩
      rw [hxs] at HAP HNX HLEN
      clear hxs
      by_cases hj0 : j = 0
      · have q1 : ¬ 0 < j := by omega
        have q2 : decide (0 < j) = false := decide_eq_false q1
        have HNX2 : Hid (behUp k (os.map Rw.rs) (j + 1) = xs ++ ors) := Lib.hid (by rw [HNX.out, if_neg q1]; simp)
        clear hj0
        go_wp2_with (at_builtin; refine HAP.out _ _ _ _ _ rfl _ _ rfl rfl rfl ?_; intro v2 w2 hown1 hgrow hat; have HW := Lib.hid hown1; have HBW := Lib.hid (below_grown HB.out hgl hgrow (fun j hj => (own_ge HO.out hj).1)); clear hown1 hgrow hat)
        go_roundw
        case rel => exact ⟨j + 1, by omega, by go_num, by rw [HNX2.out, List.length_append, HOL.out]; exact HW.out, HBW.out⟩
        case measure => simp [intOf]; omega
      · have q1 : 0 < j := by omega
        have q2 : decide (0 < j) = true := decide_eq_true q1
        have HNX2 : Hid (behUp k (os.map Rw.rs) (j + 1) = (xs ++ ors) ++ [stp0 k]) := Lib.hid (by rw [HNX.out, if_pos q1, List.append_assoc])
        clear hj0
        go_wp2_with (first
          | (at_builtin; refine HAP.out _ _ _ _ _ rfl _ _ rfl rfl rfl ?_; intro v2 w2 hown1 hgrow hat; have HW := Lib.hid hown1; have HBW := Lib.hid (below_grown HB.out hgl hgrow (fun j hj => (own_ge HO.out hj).1)); have hg2 : g ≤ w2.heap.size := (by have := HBW.out.size; have := HG.out; omega); have HA3 := Lib.hid (app_rx HW.out k (by have := HLEN.out; have := HTA.out; have := HOL.out; omega) hg2 w2.heap.size rfl); clear hown1 hgrow hat)
          | (at_builtin; refine HA3.out _ _ _ _ _ rfl _ _ rfl rfl rfl ?_; intro gg cap w3 hown2 hgrow2 hat2; have HW2 := Lib.hid hown2; have HBW2 := Lib.hid (below_grown (HBW.out.alloc hg2 (.cells #[.int .i64 k, .int .u64 0, .int .u64 0, .int .u64 0, .int .u64 0] 44)) (by simp; omega) hgrow2 (fun j hj => (own_ge HW.out hj).1)); clear hown2 hgrow2 hat2))
        go_roundw
        case rel => exact ⟨j + 1, by omega, by go_num, by rw [HNX2.out, List.length_append, List.length_append, HOL.out]; exact HW2.out, HBW2.out⟩
        case measure => simp [intOf]; omega
    · have hjn : j = n := by omega
      subst hjn
      go_wp2
      go_ret
      exact ⟨_, rfl, by first | exact HO.out | (rw [HG.out]; exact HO.out), by first | exact HB.out | (rw [HG.out]; exact HB.out)⟩
end Go.Proofs.Ytjlmmpbichfaoaa
