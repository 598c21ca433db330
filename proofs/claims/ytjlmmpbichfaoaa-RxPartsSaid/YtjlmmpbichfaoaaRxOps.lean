/- rx: Same, Set, Empty, one step behind, parts one behind the other. -/
import Derived.Test.YtjlmmpbichfaoaaRxE
import Derived.Lib.SliceRun
namespace Go.Proofs.Ytjlmmpbichfaoaa
open Go.RowKit
set_option linter.unusedVariables false

attribute [local go_sem ↓] eqS_eq eqS_eq' eqX_eq eqX_eq'
theorem below_drewN (w : World) (n : Nat) : Below w.heap.size w (w.drewN n) := ⟨rfl, rfl, rfl, Nat.le_refl _, fun _ _ => rfl⟩
theorem drewN_drewN (w : World) (a b : Nat) : (w.drewN a).drewN b = w.drewN (a + b) := by simp [World.drewN, Nat.add_assoc]
set_option maxHeartbeats 1000000 in
theorem equal_yes (w : World) (a b : Option Addr) (n c d : Nat) (ps : List Rx) (ha : CRow rxC 5 w a n ps) (hb : CRow rxC 5 w b n ps) :
    Calls Try.prog 25 #[.slice a n c, .slice b n d] w fun e w' => e = .returned (.bool true) ∧ ∃ k, w' = w.drewN k := by
  have hl2 := ha.2.1
  go_enter Try.func25, Try.ntmps25
  go_wp2
  go_loopw [13] (fun i wr => ∃ k m : Nat, k ≤ n ∧ i = .int .i64 k ∧ wr = w.drewN m) (fun i _ => n - (intOf i).toNat)
  case atStart => exact ⟨0, 0, by omega, rfl, rfl⟩
  case round =>
    obtain ⟨k, m, hk, rfl, hwr⟩ := hrel
    by_cases hlt : k < n
    · obtain ⟨b1, o1, p, rfl, _, hp, hc1⟩ := ha.at_ hlt
      obtain ⟨b2, o2, q, rfl, _, hq, hc2⟩ := hb.at_ hlt
      have hpq : p = q := by rw [hp] at hq; exact Option.some.inj hq
      subst hpq
      have c10 : wr.cell? ⟨b1, o1 + k * 5, none⟩ = some (.int .i64 p.k) := by subst hwr; exact hc1 0 _ rfl
      have c11 : wr.cell? ⟨b1, o1 + k * 5 + 1, none⟩ = some (.int .u64 (wd p.s 0)) := by subst hwr; exact hc1 1 _ rfl
      have c12 : wr.cell? ⟨b1, o1 + k * 5 + 2, none⟩ = some (.int .u64 (wd p.s 1)) := by subst hwr; exact hc1 2 _ rfl
      have c13 : wr.cell? ⟨b1, o1 + k * 5 + 3, none⟩ = some (.int .u64 (wd p.s 2)) := by subst hwr; exact hc1 3 _ rfl
      have c14 : wr.cell? ⟨b1, o1 + k * 5 + 4, none⟩ = some (.int .u64 (wd p.s 3)) := by subst hwr; exact hc1 4 _ rfl
      have c20 : wr.cell? ⟨b2, o2 + k * 5, none⟩ = some (.int .i64 p.k) := by subst hwr; exact hc2 0 _ rfl
      have c21 : wr.cell? ⟨b2, o2 + k * 5 + 1, none⟩ = some (.int .u64 (wd p.s 0)) := by subst hwr; exact hc2 1 _ rfl
      have c22 : wr.cell? ⟨b2, o2 + k * 5 + 2, none⟩ = some (.int .u64 (wd p.s 1)) := by subst hwr; exact hc2 2 _ rfl
      have c23 : wr.cell? ⟨b2, o2 + k * 5 + 3, none⟩ = some (.int .u64 (wd p.s 2)) := by subst hwr; exact hc2 3 _ rfl
      have c24 : wr.cell? ⟨b2, o2 + k * 5 + 4, none⟩ = some (.int .u64 (wd p.s 3)) := by subst hwr; exact hc2 4 _ rfl
      have hqe := run_eqX p.k (wd p.s 0) (wd p.s 1) (wd p.s 2) (wd p.s 3) wr.drew
      have h0 : (0 : Int) ≤ (k : Int) := by omega
      have h1 : (k : Int) < (n : Int) := by omega
      have HW := Lib.hid hwr
      clear hwr hp hq hc1 hc2 ha hb
      go_wp2
      go_region
      go_wp2
      go_roundw
      case rel => exact ⟨k + 1, m + 1, by omega, by go_num, by rw [HW.out]; rfl⟩
      case measure => simp [intOf]; omega
    · subst hwr
      go_wp2
      go_ret
      exact ⟨rfl, _, rfl⟩
theorem same_yes (w : World) (a b : Option Addr) (n c d : Nat) (ps : List Rx) (ha : CRow rxC 5 w a n ps) (hb : CRow rxC 5 w b n ps) :
    Calls Try.prog 7 #[.slice a n c, .slice b n d] w fun e w' => e = .returned (.bool true) ∧ Below w.heap.size w w' := by
  have HE := Lib.hid (equal_yes w a b n c d ps ha hb)
  clear ha hb
  go_enter Try.func7, Try.ntmps7
  go_wp2_with fail
  refine HE.out.mono ?_
  rintro e w1 ⟨rfl, k, hw1⟩
  have HB : Hid (Below w.heap.size w w1) := Lib.hid (by rw [hw1]; exact below_drewN w k)
  clear hw1
  go_wp2
  go_ret
  exact ⟨rfl, HB.out⟩
/-- What is handed out: a row of the call's own of these steps. -/
def Gives (w : World) (rs : List Rx) (e : Ending) (w' : World) : Prop := ∃ v, e = .returned v ∧ w'.ownsRow w.heap.size 44 5 v rs.length (rs.flatMap rxC) ∧ Below w.heap.size w w'
theorem own_lit1 (w : World) (base : Nat) (hb : base ≤ w.heap.size) (r : Rx) (cs : Array Value) (hcs : cs = (rxC r).toArray) : (w.alloc (.cells cs 44)).ownsRow base 44 5 (.slice (some ⟨w.heap.size, 0, none⟩) 1 1) 1 ([r].flatMap rxC) := by
  subst hcs
  refine ⟨rfl, .inr ⟨w.heap.size, 1, _, rfl, hb, heap_alloc_new w _, Nat.le_refl _, by decide, rfl, by simp; exact List.take_of_length_le (Nat.le_of_eq (rxC_len r))⟩⟩
theorem rset_any (S : Nat → Bool) (w : World) : Calls Try.prog 16 #[setV S] w (Gives w [⟨1, S⟩]) := by
  have ho := own_lit1 (w.alloc (.cells #[.int .u64 (wd S 0), .int .u64 (wd S 1), .int .u64 (wd S 2), .int .u64 (wd S 3)] 25)) w.heap.size (by simp) ⟨1, S⟩ #[.int .i64 1, .int .u64 (wd S 0), .int .u64 (wd S 1), .int .u64 (wd S 2), .int .u64 (wd S 3)] rfl
  have HO := Lib.hid ho
  clear ho
  unfold setV Gives
  go_enter Try.func16, Try.ntmps16
  go_wp2
  go_ret
  exact ⟨_, rfl, by simpa using HO.out, ((Below.refl _ _).alloc (Nat.le_refl _) _).alloc (by simp) _⟩
theorem refset_any (S : Nat → Bool) (w : World) : Calls Try.prog 17 #[setV S] w (Gives w [⟨1, S⟩]) := by
  have ho := own_lit1 (w.alloc (.cells #[.int .u64 (wd S 0), .int .u64 (wd S 1), .int .u64 (wd S 2), .int .u64 (wd S 3)] 25)) w.heap.size (by simp) ⟨1, S⟩ #[.int .i64 1, .int .u64 (wd S 0), .int .u64 (wd S 1), .int .u64 (wd S 2), .int .u64 (wd S 3)] rfl
  have HO := Lib.hid ho
  clear ho
  unfold setV Gives
  go_enter Try.func17, Try.ntmps17
  go_wp2
  go_ret
  exact ⟨_, rfl, by simpa using HO.out, ((Below.refl _ _).alloc (Nat.le_refl _) _).alloc (by simp) _⟩
theorem empty_any (w : World) : Calls Try.prog 18 #[] w (Gives w [stp0 2]) := by
  have HO := Lib.hid (own_lit1 w w.heap.size (Nat.le_refl _) (stp0 2) #[.int .i64 2, .int .u64 0, .int .u64 0, .int .u64 0, .int .u64 0] (by rw [stp0_C]))
  unfold Gives
  go_enter Try.func18, Try.ntmps18
  go_wp2
  go_ret
  exact ⟨_, rfl, HO.out, (Below.refl _ _).alloc (Nat.le_refl _) _⟩
theorem refempty_any (w : World) : Calls Try.prog 19 #[] w (Gives w [stp0 2]) := by
  have HO := Lib.hid (own_lit1 w w.heap.size (Nat.le_refl _) (stp0 2) #[.int .i64 2, .int .u64 0, .int .u64 0, .int .u64 0, .int .u64 0] (by rw [stp0_C]))
  unfold Gives
  go_enter Try.func19, Try.ntmps19
  go_wp2
  go_ret
  exact ⟨_, rfl, HO.out, (Below.refl _ _).alloc (Nat.le_refl _) _⟩
/-- Steps behind a row of the call's own. -/
theorem app_rxs {w : World} {base n : Nat} {v : Value} {xs : List Rx} (hown : w.ownsRow base 44 5 v n (xs.flatMap rxC)) {a : Option Addr} {m c : Nat} {os : List Rx} (hr : CRow rxC 5 w a m os) (hn : n + m ≤ 200000) (hbase : base ≤ w.heap.size)
    (ops : Array Oper) (rest : List Oper) (o : Oper) (act : Act) (Q : Exit → Act → World → Prop) (hg : o.guard = none) (s x : Operand) (ho : o.op = .call { callee := .builtin .append, args := #[s, x], argTypes := #[28, 28] })
    (hs : act.eval s = v) (hx : act.eval x = .slice a m c)
    (h : ∀ v' w', w'.ownsRow base 44 5 v' (n + m) ((xs ++ os).flatMap rxC) → w.grownBy w' v.ownBlock → (v'.ownBlock = v.ownBlock ∨ v'.ownBlock = some w.heap.size) →
      wpList Try.prog ops Q rest (act.put o.dst v') w') : wpList Try.prog ops Q (o :: rest) act w := by
  obtain ⟨i0, hii, hz0, hz1, hz2⟩ := info_parts infoRx
  exact wpList_append_row w hg s x 28 ho base 44 i0 _ 40 Try.underlying28 hii hz0 hz1 hz2 rfl (by omega) rxC_len rxC_one v n (xs.flatMap rxC) hs hown a m c os hx hr (by unfold maxLen; omega) (by omega) hbase
    fun v' w' h1 h2 h3 => h v' w' (by rw [List.flatMap_append]; exact h1) h2 h3
set_option maxHeartbeats 1000000 in
theorem clone_any (w : World) (a : Option Addr) (n c : Nat) (rs : List Rx) (h : CRow rxC 5 w a n rs) (hn : n ≤ 100000) :
    Calls Try.prog 33 #[.slice a n c] w (Gives w rs) := by
  unfold Gives
  cases a with
  | none =>
    have h0 : n = 0 := by
      rcases Nat.eq_zero_or_pos n with h0 | h0
      · exact h0
      · obtain ⟨_, _, ha, _⟩ := h.2.2 h0; cases ha
    subst h0
    have hr : rs = [] := List.length_eq_zero_iff.1 h.1
    subst hr
    clear h
    have heq : (binOp .eql 28 (.slice none 0 c) (.slice none 0 0)).run Try.prog w = .ok (.bool true) w := Lib.run_eql_slice_nil w 28 44 none 0 c 0 0 Try.underlying28
    go_enter Try.func33, Try.ntmps33
    go_wp2
    go_ret
    exact ⟨_, rfl, own_new _ _ _ _, Below.refl _ _⟩
  | some ad =>
    have HO0 := Lib.hid (World.ownsRow_made (base := w.heap.size) (e := 44) (size := 5) w #[] 0 (Nat.le_refl _) (by decide) (by simp))
    have HB0 := Lib.hid ((Below.refl w.heap.size w).alloc (Nat.le_refl _) (.cells #[] 44))
    have HAP := Lib.hid (app_rxs (xs := []) HO0.out (h.below HB0.out) (c := c) (by omega) (by simp))
    have HL := Lib.hid h.1
    clear h
    have heq : (binOp .eql 28 (.slice (some ad) n c) (.slice none 0 0)).run Try.prog w = .ok (.bool false) w := Lib.run_eql_slice_nil w 28 44 (some ad) n c 0 0 Try.underlying28
    go_enter Try.func33, Try.ntmps33
    go_wp2_with (at_builtin; refine HAP.out _ _ _ _ _ rfl _ _ rfl rfl rfl ?_; intro v2 w2 hown1 hgrow hat; have HW := Lib.hid hown1; have HBW := Lib.hid (below_grown HB0.out (by simp) hgrow (fun j hj => (own_ge HO0.out hj).1)); clear hown1 hgrow hat)
    go_ret
    exact ⟨_, rfl, by have h := HW.out; rw [HL.out]; simpa using h, HBW.out⟩
end Go.Proofs.Ytjlmmpbichfaoaa
