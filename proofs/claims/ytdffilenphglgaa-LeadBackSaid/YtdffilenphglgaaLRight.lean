/- Are words right: the program's. -/
import Derived.Test.YtdffilenphglgaaPiecesR
namespace Go.Proofs.Ytdffilenphglgaa
open Go.RowKit
set_option linter.unusedVariables false

theorem plain_any (w : World) (X : Nat) (A : Option Addr) (len cap : Nat) (ts : List Tk) (p : Pc) (hX : w.cell? ⟨X, 0, none⟩ = some (.slice A len cap)) (h : CRow tkC 3 w A len ts) :
    Calls Try.prog 24 #[.agg #[.int .i64 p.t, .string p.s], .pointer (some ⟨X, 0, none⟩)] w fun e w' => e = .returned (.bool (!trivB ts p.t)) ∧ Below w.heap.size w w' := by
  have HB := Lib.hid (show Below w.heap.size w (w.alloc (.cells #[.int .i64 p.t, .string p.s] 36)) from (Below.refl _ _).alloc (Nat.le_refl _) _)
  have HT := Lib.hid (trivia_any _ A len cap ts p.t (h.below HB.out))
  have c0 : (w.alloc (.cells #[.int .i64 p.t, .string p.s] 36)).cell? ⟨X, 0, none⟩ = some (.slice A len cap) := keeps HB.out _ _ hX
  clear h hX
  go_enter Try.func24, Try.ntmps24
  go_wp2_with fail
  refine HT.out.mono ?_
  rintro e w1 ⟨rfl, rfl⟩
  go_wp2
  go_ret
  exact ⟨rfl, HB.out⟩
def allT (ts : List Tk) (ps : List Pc) : Bool := ps.all fun p => trivB ts p.t
theorem allT_next {ts : List Tk} {ps : List Pc} {k : Nat} {p : Pc} (h : ps[k]? = some p) : allT ts (ps.take (k + 1)) = (allT ts (ps.take k) && trivB ts p.t) := by
  unfold allT; rw [List.take_add_one, h]; simp
theorem allT_no {ts : List Tk} {ps : List Pc} {k : Nat} {p : Pc} (h : ps[k]? = some p) (ht : trivB ts p.t = false) : allT ts ps = false := by
  unfold allT; rw [List.all_eq_false]; exact ⟨p, List.mem_of_getElem? h, by simp [ht]⟩
set_option maxHeartbeats 1000000 in
theorem index_any (w : World) (X : Nat) (A : Option Addr) (len cap : Nat) (ts : List Tk) (a : Option Addr) (n c : Nat) (ps : List Pc) (hX : w.cell? ⟨X, 0, none⟩ = some (.slice A len cap)) (h : CRow tkC 3 w A len ts) (hp : CRow pcC 2 w a n ps) :
    Calls Try.prog 26 #[.slice a n c, .func (.func 24) #[] #[.pointer (some ⟨X, 0, none⟩)]] w fun e w' => ∃ j : Int, e = .returned (.int .i64 j) ∧ decide (0 ≤ j) = !allT ts ps ∧ Below w.heap.size w w' := by
  have hl2 := hp.2.1
  have HP := Lib.hid hp
  have HL := Lib.hid hp.1
  have HC := Lib.hid fun (v : World) (hv : Below w.heap.size w v) q => plain_any v X A len cap ts q (keeps hv _ _ hX) (h.below hv)
  clear h hp hX
  go_enter Try.func26, Try.ntmps26
  go_wp2
  go_loopw [8] (fun i wr => ∃ (k : Nat), k ≤ n ∧ i = .int .i64 k ∧ allT ts (ps.take k) = true ∧ Below w.heap.size w wr) (fun i _ => n - (intOf i).toNat)
  case atStart => exact ⟨0, by omega, rfl, rfl, Below.refl _ _⟩
  case round =>
    obtain ⟨k, hk, rfl, hall, hb⟩ := hrel
    have HALL := Lib.hid hall
    have HB := Lib.hid hb
    clear hall hb
    by_cases hlt : k < n
    · obtain ⟨b1, o1, p, rfl, hbl, hpk, hc⟩ := HP.out.at_ hlt
      have c0 : wr.cell? ⟨b1, o1 + k * 2, none⟩ = some (.int .i64 p.t) := keeps HB.out _ _ (hc 0 _ rfl)
      have c1 : wr.cell? ⟨b1, o1 + k * 2 + 1, none⟩ = some (.string p.s) := keeps HB.out _ _ (hc 1 _ rfl)
      have HCC := Lib.hid (HC.out wr HB.out p)
      have HST := Lib.hid (allT_next (ts := ts) hpk)
      have HNO := Lib.hid (fun ht => allT_no (ts := ts) hpk ht)
      obtain ⟨t, s⟩ := p
      dsimp only at HCC HST HNO c0 c1
      have h0 : (0 : Int) ≤ (k : Int) := by omega
      have h1 : (k : Int) < (n : Int) := by omega
      clear hpk hc
      cases ht : trivB ts t with
      | true =>
        rw [ht] at HCC HST
        go_wp2_with fail
        refine HCC.out.mono ?_
        rintro e w1 ⟨rfl, hb1⟩
        have HB1 := Lib.hid (HB.out.trans (hb1.mono HB.out.size))
        clear hb1
        go_wp2
        go_roundw
        case rel => exact ⟨k + 1, by omega, by go_num, by rw [HST.out, HALL.out]; rfl, HB1.out⟩
        case measure => simp [intOf]; omega
      | false =>
        rw [ht] at HCC
        go_wp2_with fail
        refine HCC.out.mono ?_
        rintro e w1 ⟨rfl, hb1⟩
        have HB1 := Lib.hid (HB.out.trans (hb1.mono HB.out.size))
        clear hb1
        go_wp2
        go_ret
        exact ⟨_, rfl, by rw [HNO.out ht]; simp, HB1.out⟩
    · have HK : Hid (ps.take k = ps) := by show _ = _; exact List.take_of_length_le (by rw [HL.out]; omega)
      rw [HK.out] at HALL
      go_wp2
      go_ret
      exact ⟨_, rfl, by rw [HALL.out]; simp, HB.out⟩
theorem contains_any (w : World) (X : Nat) (A : Option Addr) (len cap : Nat) (ts : List Tk) (a : Option Addr) (n c : Nat) (ps : List Pc) (hX : w.cell? ⟨X, 0, none⟩ = some (.slice A len cap)) (h : CRow tkC 3 w A len ts) (hp : CRow pcC 2 w a n ps) :
    Calls Try.prog 25 #[.slice a n c, .func (.func 24) #[] #[.pointer (some ⟨X, 0, none⟩)]] w fun e w' => e = .returned (.bool (!allT ts ps)) ∧ Below w.heap.size w w' := by
  have HI := Lib.hid (index_any w X A len cap ts a n c ps hX h hp)
  clear h hp hX
  go_enter Try.func25, Try.ntmps25
  go_wp2_with fail
  refine HI.out.mono ?_
  rintro e w1 ⟨j, rfl, hj, hb⟩
  have HJ := Lib.hid hj
  clear hj
  go_wp2
  go_ret
  exact ⟨ret_bool HJ.out, hb⟩
theorem lenEq {s : ByteArray} : s.toList.isEmpty = (s.size == 0) := by
  rw [Lib.toList_data]
  rcases s with ⟨⟨l⟩⟩
  cases l <;> rfl
theorem okA_wabs (ts : List Tk) (n i : Nat) (o : Wd) : okA ts n i (wabs o) = (allT ts o.ps && !trivB ts o.t && ((o.t == -2) == decide (i + 1 = n)) && !((o.t == -2) && !(o.s.size == 0))) := rfl
set_option maxHeartbeats 2000000 in
theorem right_any (w : World) (T A : Option Addr) (len cap n d : Nat) (ts : List Tk) (ws : List Wd) (hT : CRow tkC 3 w T len ts) (hA : WRow w A n ws) :
    Calls Try.prog 18 #[.slice T len cap, .slice A n d] w fun e w' => e = .returned (.bool (rightA ts (ws.map wabs))) ∧ Below w.heap.size w w' := by
  have hl2 := hA.1.2.1
  have HA := Lib.hid hA
  have HL := Lib.hid hA.1.1
  obtain ⟨g, hg⟩ : ∃ g, w.heap.size = g := ⟨_, rfl⟩
  have HG := Lib.hid hg
  have HB0 := Lib.hid (show Below g w (w.alloc (.cells #[.slice T len cap] 22)) by rw [← hg]; exact (Below.refl _ _).alloc (Nat.le_refl _) _)
  have HC0 := Lib.hid (show (w.alloc (.cells #[.slice T len cap] 22)).cell? ⟨g, 0, none⟩ = some (.slice T len cap) by rw [← hg]; simp)
  have HS0 := Lib.hid (show (w.alloc (.cells #[.slice T len cap] 22)).heap.size = g + 1 by rw [← hg]; simp)
  have HT := Lib.hid hT
  have hmf : ∀ (fn : Fn) (first cap : Array Value) (w : World), (Instr.makeFunc fn first cap).run Try.prog w = .ok (.func fn first cap) w := fun _ _ _ _ => rfl
  clear hA hT
  by_cases hn0 : n = 0
  · have HW : Hid (rightA ts (ws.map wabs) = false) := Lib.hid (by
      have : ws = [] := List.length_eq_zero_iff.1 (by rw [HL.out, hn0])
      subst this; rfl)
    have HBZ : Hid (Below w.heap.size w (w.alloc (.cells #[.slice T len cap] 22))) := Lib.hid (by rw [HG.out]; exact HB0.out)
    subst hn0
    clear hg
    go_enter Try.func18, Try.ntmps18
    go_wp2
    go_ret
    exact ⟨ret_bool HW.out.symm, HBZ.out⟩
  · have hne : ((n : Int) == 0) = false := by simp; omega
    go_enter Try.func18, Try.ntmps18
    go_wp2
    clear hg
    generalize hw0 : w.alloc (.cells #[.slice T len cap] 22) = w0 at *
    go_loopw [14] (fun i wr => ∃ (k : Nat), k ≤ n ∧ i = .int .i64 k ∧ okUp ts (ws.map wabs) k = true ∧ Below (g + 1) w0 wr) (fun i _ => n - (intOf i).toNat)
    case atStart => exact ⟨0, by omega, rfl, rfl, Below.refl _ _⟩
    case round =>
      obtain ⟨k, hk, rfl, hall, hb⟩ := hrel
      have HALL := Lib.hid hall
      have HB := Lib.hid hb
      have hgl : g + 1 ≤ wr.heap.size := by have := HS0.out; have := hb.size; omega
      have HBT := Lib.hid (HB0.out.trans (hb.mono (Nat.le_succ g)))
      clear hall hb
      by_cases hlt : k < n
      · obtain ⟨b1, o1, o, rfl, hbl, ho, hc⟩ := HA.out.1.at_ hlt
        have hbg : b1 < g := by have := HG.out; omega
        have HOM := Lib.hid (HA.out.2 o (List.mem_of_getElem? ho))
        have HNX := Lib.hid (okUp_next (ts := ts) (wmap_at ho))
        have HNO := Lib.hid (fun hb => right_no (ts := ts) (wmap_at ho) hb)
        rw [List.length_map, HL.out, okA_wabs] at HNX HNO
        obtain ⟨oa, ol, oc, ops, ot, os⟩ := o
        have c0 : wr.cell? ⟨b1, o1 + k * 3, none⟩ = some (.slice oa ol oc) := (HBT.out.cell (p := ⟨b1, o1 + k * 3, none⟩) hbg).trans (hc 0 _ rfl)
        have c1 : wr.cell? ⟨b1, o1 + k * 3 + 1, none⟩ = some (.int .i64 ot) := (HBT.out.cell (p := ⟨b1, o1 + k * 3 + 1, none⟩) hbg).trans (hc 1 _ rfl)
        have c2 : wr.cell? ⟨b1, o1 + k * 3 + 2, none⟩ = some (.string os) := (HBT.out.cell (p := ⟨b1, o1 + k * 3 + 2, none⟩) hbg).trans (hc 2 _ rfl)
        dsimp only at HOM HNX HNO
        have HB2 := Lib.hid (HBT.out.alloc (by omega) (.cells #[.slice oa ol oc, .int .i64 ot, .string os] 38))
        have HB3 := Lib.hid (HB.out.alloc (by omega) (.cells #[.slice oa ol oc, .int .i64 ot, .string os] 38))
        have HCX : Hid ((wr.alloc (.cells #[.slice oa ol oc, .int .i64 ot, .string os] 38)).cell? ⟨g, 0, none⟩ = some (.slice T len cap)) := Lib.hid ((HB3.out.cell (p := ⟨g, 0, none⟩) (Nat.lt_succ_self g)).trans HC0.out)
        have HTX := Lib.hid (HT.out.below (by rw [HG.out]; exact HB2.out))
        have HCO := Lib.hid (contains_any _ g T len cap ts oa ol oc ops HCX.out HTX.out (HOM.out.below (by rw [HG.out]; exact HB2.out)))
        have HWR : Hid ((wr.alloc (.cells #[.slice oa ol oc, .int .i64 ot, .string os] 38)).heap.size = wr.heap.size + 1) := Lib.hid (by simp)
        have HN0 : Hid ((wr.alloc (.cells #[.slice oa ol oc, .int .i64 ot, .string os] 38)).cell? ⟨wr.heap.size, 1, none⟩ = some (.int .i64 ot) ∧ (wr.alloc (.cells #[.slice oa ol oc, .int .i64 ot, .string os] 38)).cell? ⟨wr.heap.size, 2, none⟩ = some (.string os)) := Lib.hid ⟨by simp, by simp⟩
        clear hc ho
        cases hq : allT ts ops with
        | false =>
          rw [hq] at HCO HNO
          go_wp2_with fail
          refine HCO.out.mono ?_
          rintro e w1 ⟨rfl, hb1⟩
          have HB4 := Lib.hid (HB2.out.trans (hb1.mono (by have := HB2.out.size; have := HG.out; omega)))
          clear hb1
          go_wp2
          go_ret
          exact ⟨ret_bool (HNO.out rfl).symm, by first | exact HB4.out | (rw [HG.out]; exact HB4.out)⟩
        | true =>
          rw [hq] at HCO HNO HNX
          go_wp2_with fail
          refine HCO.out.mono ?_
          rintro e w1 ⟨rfl, hb1⟩
          have HB4 := Lib.hid (HB2.out.trans (hb1.mono (by have := HB2.out.size; have := HG.out; omega)))
          have HB5 := Lib.hid (HB3.out.trans (hb1.mono (by have := HWR.out; omega)))
          have cg : w1.cell? ⟨g, 0, none⟩ = some (.slice T len cap) := keeps hb1 _ _ HCX.out
          have d1 : w1.cell? ⟨wr.heap.size, 1, none⟩ = some (.int .i64 ot) := keeps hb1 _ _ HN0.out.1
          have d2 : w1.cell? ⟨wr.heap.size, 2, none⟩ = some (.string os) := keeps hb1 _ _ HN0.out.2
          have HTR := Lib.hid (trivia_any w1 T len cap ts ot (HT.out.below (by rw [HG.out]; exact HB4.out)))
          clear hb1
          cases htr : trivB ts ot with
          | true =>
            rw [htr] at HTR HNO
            go_wp2_with fail
            refine HTR.out.mono ?_
            rintro e w2 ⟨rfl, rfl⟩
            go_wp2
            go_ret
            exact ⟨ret_bool (HNO.out rfl).symm, by first | exact HB4.out | (rw [HG.out]; exact HB4.out)⟩
          | false =>
            rw [htr] at HTR HNO HNX
            go_wp2_with fail
            refine HTR.out.mono ?_
            rintro e w2 ⟨rfl, rfl⟩
            have HE := Lib.hid (lenEq (s := os))
            by_cases h2 : ot = -2
            · have j2 : (ot == -2) = true := by simp [h2]
              rw [j2] at HNO HNX
              by_cases hl : k + 1 = n
              · have j3 : ((k : Int) == (n : Int) - 1) = true := by simp; omega
                have j4 : decide (k + 1 = n) = true := decide_eq_true hl
                rw [j4] at HNO HNX
                clear hl h2 j4
                cases hs : (os.size == 0) with
                | true =>
                  rw [hs] at HE HNX
                  have j5 : os.toList.isEmpty = true := HE.out
                  go_wp2
                  go_roundw
                  case rel => exact ⟨k + 1, by omega, by go_num, by rw [HNX.out, HALL.out]; rfl, HB5.out⟩
                  case measure => simp [intOf]; omega
                | false =>
                  rw [hs] at HE HNO
                  have j5 : os.toList.isEmpty = false := HE.out
                  go_wp2
                  go_ret
                  exact ⟨ret_bool (HNO.out rfl).symm, by first | exact HB4.out | (rw [HG.out]; exact HB4.out)⟩
              · have j3 : ((k : Int) == (n : Int) - 1) = false := by simp; omega
                have j4 : decide (k + 1 = n) = false := decide_eq_false hl
                rw [j4] at HNO
                clear hl h2 j4
                go_wp2
                go_ret
                exact ⟨ret_bool (HNO.out (by simp)).symm, by first | exact HB4.out | (rw [HG.out]; exact HB4.out)⟩
            · have j2 : (ot == -2) = false := by simp [h2]
              rw [j2] at HNO HNX
              by_cases hl : k + 1 = n
              · have j3 : ((k : Int) == (n : Int) - 1) = true := by simp; omega
                have j4 : decide (k + 1 = n) = true := decide_eq_true hl
                rw [j4] at HNO
                clear hl h2 j4
                go_wp2
                go_ret
                exact ⟨ret_bool (HNO.out rfl).symm, by first | exact HB4.out | (rw [HG.out]; exact HB4.out)⟩
              · have j3 : ((k : Int) == (n : Int) - 1) = false := by simp; omega
                have j4 : decide (k + 1 = n) = false := decide_eq_false hl
                rw [j4] at HNX
                clear hl h2 j4
                go_wp2
                go_roundw
                case rel => exact ⟨k + 1, by omega, by go_num, by rw [HNX.out, HALL.out]; rfl, HB5.out⟩
                case measure => simp [intOf]; omega
      · have HF : Hid (rightA ts (ws.map wabs) = true) := Lib.hid (right_yes (by rw [List.length_map, HL.out]; omega) (by
          rw [List.length_map, HL.out]
          have : k = n := by omega
          subst this; exact HALL.out))
        go_wp2
        go_ret
        exact ⟨ret_bool HF.out.symm, by first | exact HBT.out | (rw [HG.out]; exact HBT.out)⟩
end Go.Proofs.Ytdffilenphglgaa
