/- Pieces, words; which are the same. -/
import Derived.Test.YtdffilenphglgaaTok
namespace Go.Proofs.Ytdffilenphglgaa
open Go.RowKit

/-- A piece. -/
structure Pc where
  t : Int
  s : ByteArray
instance : Inhabited Pc := ⟨⟨0, .empty⟩⟩
def pcC (p : Pc) : List Value := [.int .i64 p.t, .string p.s]
/-- A word: where its trivia lie, and which. -/
structure Wd where
  a : Option Addr
  l : Nat
  c : Nat
  ps : List Pc
  t : Int
  s : ByteArray
instance : Inhabited Wd := ⟨⟨none, 0, 0, [], 0, .empty⟩⟩
def wdC (o : Wd) : List Value := [.slice o.a o.l o.c, .int .i64 o.t, .string o.s]
def wabs (o : Wd) : List Pc × Int × ByteArray := (o.ps, o.t, o.s)
def WRow (w : World) (A : Option Addr) (n : Nat) (ws : List Wd) : Prop := CRow wdC 3 w A n ws ∧ ∀ o ∈ ws, CRow pcC 2 w o.a o.l o.ps
theorem WRow.below {w w' : World} {A : Option Addr} {n : Nat} {ws : List Wd} (h : WRow w A n ws) (hb : Below w.heap.size w w') : WRow w' A n ws :=
  ⟨h.1.below hb, fun o ho => (h.2 o ho).below hb⟩

theorem drewN_drewN (w : World) (a b : Nat) : (w.drewN a).drewN b = w.drewN (a + b) := by simp [World.drewN, Nat.add_assoc]
set_option maxHeartbeats 400000 in
theorem same_yes (w : World) (a b : Option Addr) (n c d : Nat) (ps : List Pc) (ha : CRow pcC 2 w a n ps) (hb : CRow pcC 2 w b n ps) :
    Calls Try.prog 12 #[.slice a n c, .slice b n d] w fun e w' => e = .returned (.bool true) ∧ ∃ k, w' = w.drewN k := by
  have hl2 := ha.2.1
  go_enter Try.func12, Try.ntmps12
  go_wp2
  go_loopw [5] (fun i wr => ∃ k m : Nat, k ≤ n ∧ i = .int .i64 k ∧ wr = w.drewN m) (fun i _ => n - (intOf i).toNat)
  case atStart => exact ⟨0, 0, by omega, rfl, rfl⟩
  case round =>
    obtain ⟨k, m, hk, rfl, hwr⟩ := hrel
    by_cases hlt : k < n
    · obtain ⟨b1, o1, p, rfl, _, hp, hc1⟩ := ha.at_ hlt
      obtain ⟨b2, o2, q, rfl, _, hq, hc2⟩ := hb.at_ hlt
      have hpq : p = q := by rw [hp] at hq; exact Option.some.inj hq
      subst hpq
      have c10 : wr.cell? ⟨b1, o1 + k * 2, none⟩ = some (.int .i64 p.t) := by subst hwr; exact hc1 0 _ rfl
      have c11 : wr.cell? ⟨b1, o1 + k * 2 + 1, none⟩ = some (.string p.s) := by subst hwr; exact hc1 1 _ rfl
      have c20 : wr.cell? ⟨b2, o2 + k * 2, none⟩ = some (.int .i64 p.t) := by subst hwr; exact hc2 0 _ rfl
      have c21 : wr.cell? ⟨b2, o2 + k * 2 + 1, none⟩ = some (.string p.s) := by subst hwr; exact hc2 1 _ rfl
      have h0 : (0 : Int) ≤ (k : Int) := by omega
      have h1 : (k : Int) < (n : Int) := by omega
      have HW := Lib.hid hwr
      clear hwr hp hq hc1 hc2 ha hb
      go_wp2
      go_quiet (fail)
      go_wp2
      go_roundw
      case rel => exact ⟨k + 1, _, by omega, by go_num, by rw [HW.out, drewN_drewN]⟩
      case measure => simp [intOf]; omega
    · subst hwr
      go_wp2
      go_ret
      exact ⟨rfl, _, rfl⟩
set_option maxHeartbeats 1000000 in
theorem samewords_yes (w : World) (A B : Option Addr) (n c d : Nat) (ws vs : List Wd) (ha : WRow w A n ws) (hb : WRow w B n vs) (he : ws.map wabs = vs.map wabs) :
    Calls Try.prog 9 #[.slice A n c, .slice B n d] w fun e w' => e = .returned (.bool true) ∧ ∃ k, w' = w.drewN k := by
  have hl2 := ha.1.2.1
  have HA := Lib.hid ha
  have HB := Lib.hid hb
  have HE := Lib.hid he
  clear ha hb he
  go_enter Try.func9, Try.ntmps9
  go_wp2
  go_loopw [5] (fun i wr => ∃ k m : Nat, k ≤ n ∧ i = .int .i64 k ∧ wr = w.drewN m) (fun i _ => n - (intOf i).toNat)
  case atStart => exact ⟨0, 0, by omega, rfl, rfl⟩
  case round =>
    obtain ⟨k, m, hk, rfl, hwr⟩ := hrel
    by_cases hlt : k < n
    · obtain ⟨b1, o1, p, rfl, _, hp, hc1⟩ := HA.out.1.at_ hlt
      obtain ⟨b2, o2, q, rfl, _, hq, hc2⟩ := HB.out.1.at_ hlt
      have hpq : wabs p = wabs q := by
        have e1 : (ws.map wabs)[k]? = some (wabs p) := by rw [List.getElem?_map, hp]; rfl
        have e2 : (vs.map wabs)[k]? = some (wabs q) := by rw [List.getElem?_map, hq]; rfl
        rw [HE.out, e2] at e1
        exact (Option.some.inj e1).symm
      have rp := HA.out.2 p (List.mem_of_getElem? hp)
      have rq := HB.out.2 q (List.mem_of_getElem? hq)
      obtain ⟨a1, l1, k1, ps, t, s⟩ := p
      obtain ⟨a2, l2, k2, ps', t', s'⟩ := q
      unfold wabs at hpq
      simp only [Prod.mk.injEq] at hpq
      obtain ⟨rfl, rfl, rfl⟩ := hpq
      dsimp only at rp rq
      have hll : l2 = l1 := by rw [← rq.1, rp.1]
      subst hll
      have HS := Lib.hid fun v (hv : ∃ m, v = w.drewN m) => same_yes v a1 a2 l2 k1 k2 ps (by obtain ⟨m, rfl⟩ := hv; exact rp.below (below_drewN w m)) (by obtain ⟨m, rfl⟩ := hv; exact rq.below (below_drewN w m))
      have c10 : wr.cell? ⟨b1, o1 + k * 3, none⟩ = some (.slice a1 l2 k1) := by subst hwr; exact hc1 0 _ rfl
      have c11 : wr.cell? ⟨b1, o1 + k * 3 + 1, none⟩ = some (.int .i64 t) := by subst hwr; exact hc1 1 _ rfl
      have c12 : wr.cell? ⟨b1, o1 + k * 3 + 2, none⟩ = some (.string s) := by subst hwr; exact hc1 2 _ rfl
      have c20 : wr.cell? ⟨b2, o2 + k * 3, none⟩ = some (.slice a2 l2 k2) := by subst hwr; exact hc2 0 _ rfl
      have c21 : wr.cell? ⟨b2, o2 + k * 3 + 1, none⟩ = some (.int .i64 t) := by subst hwr; exact hc2 1 _ rfl
      have c22 : wr.cell? ⟨b2, o2 + k * 3 + 2, none⟩ = some (.string s) := by subst hwr; exact hc2 2 _ rfl
      have h0 : (0 : Int) ≤ (k : Int) := by omega
      have h1 : (k : Int) < (n : Int) := by omega
      have HW := Lib.hid hwr
      clear hwr hp hq hc1 hc2 rp rq
      go_wp2
      go_quiet ((go_at_call 12; exact Calls.quiet_of (HS.out _ ⟨_, by rw [HW.out, drewN_drewN]⟩)))
      go_wp2
      go_roundw
      case rel => exact ⟨k + 1, _, by omega, by go_num, by rw [HW.out, drewN_drewN]⟩
      case measure => simp [intOf]; omega
    · subst hwr
      go_wp2
      go_ret
      exact ⟨rfl, _, rfl⟩
end Go.Proofs.Ytdffilenphglgaa
