/- Are words right: the document's. -/
import Derived.Test.YtdffilenphglgaaLRight
namespace Go.Proofs.Ytdffilenphglgaa
open Go.RowKit
set_option linter.unusedVariables false

set_option maxHeartbeats 2000000 in
theorem refright_any (w : World) (T A : Option Addr) (len cap n d : Nat) (ts : List Tk) (ws : List Wd) (hT : CRow tkC 3 w T len ts) (hA : WRow w A n ws) :
    Calls Try.prog 19 #[.slice T len cap, .slice A n d] w fun e w' => e = .returned (.bool (rightA ts (ws.map wabs))) ∧ w' = w := by
  have hl2 := hA.1.2.1
  have HA := Lib.hid hA
  have HL := Lib.hid hA.1.1
  have HT := Lib.hid fun t => reftriv_any w T len cap ts t hT
  clear hA hT
  go_enter Try.func19, Try.ntmps19
  go_wp2
  go_loop [5] (fun i => ∃ (k : Nat), k ≤ n ∧ i = .int .i64 k ∧ okUp ts (ws.map wabs) k = true) (fun i => n - (intOf i).toNat)
  case atStart => exact ⟨0, by omega, rfl, rfl⟩
  case round =>
    obtain ⟨k, hk, rfl, hall⟩ := hrel
    have HALL := Lib.hid hall
    clear hall
    by_cases hlt : k < n
    · obtain ⟨b1, o1, o, rfl, hbl, ho, hc⟩ := HA.out.1.at_ hlt
      have HOM := Lib.hid (HA.out.2 o (List.mem_of_getElem? ho))
      have HNX := Lib.hid (okUp_next (ts := ts) (wmap_at ho))
      have HNO := Lib.hid (fun hb => right_no (ts := ts) (wmap_at ho) hb)
      rw [List.length_map, HL.out, okA_wabs] at HNX HNO
      obtain ⟨oa, ol, oc, ops, ot, os⟩ := o
      have c0 : w.cell? ⟨b1, o1 + k * 3, none⟩ = some (.slice oa ol oc) := hc 0 _ rfl
      have c1 : w.cell? ⟨b1, o1 + k * 3 + 1, none⟩ = some (.int .i64 ot) := hc 1 _ rfl
      have c2 : w.cell? ⟨b1, o1 + k * 3 + 2, none⟩ = some (.string os) := hc 2 _ rfl
      dsimp only at HOM HNX HNO
      have hol2 := HOM.out.2.1
      have HOL := Lib.hid HOM.out.1
      have h0 : (0 : Int) ≤ (k : Int) := by omega
      have h1 : (k : Int) < (n : Int) := by omega
      clear hc ho
      go_wp2
      go_loop [6] (fun i => ∃ (m : Nat), m ≤ ol ∧ i = .int .i64 m ∧ allT ts (ops.take m) = true) (fun i => ol - (intOf i).toNat)
      case atStart => exact ⟨0, by omega, rfl, rfl⟩
      case round =>
        obtain ⟨m, hm, rfl, hin⟩ := hrel
        have HIN := Lib.hid hin
        clear hin
        by_cases hml : m < ol
        · obtain ⟨b2, o2, p, rfl, hbl2, hp, hc2⟩ := HOM.out.at_ hml
          have d0 : w.cell? ⟨b2, o2 + m * 2, none⟩ = some (.int .i64 p.t) := hc2 0 _ rfl
          have HTR := Lib.hid (HT.out p.t)
          have HST := Lib.hid (allT_next (ts := ts) hp)
          have HAN := Lib.hid (fun ht => allT_no (ts := ts) hp ht)
          have g0 : (0 : Int) ≤ (m : Int) := by omega
          have g1 : (m : Int) < (ol : Int) := by omega
          obtain ⟨t, s⟩ := p
          dsimp only at d0 HTR HST HAN
          clear hp hc2
          cases ht : trivB ts t with
          | true =>
            rw [ht] at HTR HST
            go_wp2_with fail
            refine HTR.out.mono ?_
            rintro e w1 ⟨rfl, rfl⟩
            go_wp2
            go_round
            case rel => exact ⟨m + 1, by omega, by go_num, by rw [HST.out, HIN.out]; rfl⟩
            case measure => simp [intOf]; omega
          | false =>
            rw [ht] at HTR
            have HF : Hid (rightA ts (ws.map wabs) = false) := Lib.hid (HNO.out (by rw [HAN.out ht]; rfl))
            go_wp2_with fail
            refine HTR.out.mono ?_
            rintro e w1 ⟨rfl, rfl⟩
            go_wp2
            go_ret
            exact ⟨ret_bool HF.out.symm, rfl⟩
        · have HK : Hid (ops.take m = ops) := by show _ = _; exact List.take_of_length_le (by rw [HOL.out]; omega)
          rw [HK.out] at HIN
          rw [HIN.out] at HNO HNX
          have HTR := Lib.hid (HT.out ot)
          have HE := Lib.hid (lenEq (s := os))
          by_cases h2 : ot = -2
          · have j2 : (ot == -2) = true := by simp [h2]
            rw [j2] at HNO HNX
            by_cases hl : k + 1 = n
            · have j3 : ((k : Int) == (n : Int) - 1) = true := by simp; omega
              have j4 : decide (k + 1 = n) = true := decide_eq_true hl
              rw [j4] at HNO HNX
              clear hl h2 j4
              cases hs : (os.size == 0) with
              | true =>
                rw [hs] at HE HNX
                have j5 : os.toList.isEmpty = true := HE.out
                cases htr : trivB ts ot with
                | true =>
                  rw [htr] at HTR HNO
                  go_wp2_with fail
                  refine HTR.out.mono ?_
                  rintro e w1 ⟨rfl, rfl⟩
                  go_wp2
                  go_ret
                  exact ⟨ret_bool (HNO.out rfl).symm, rfl⟩
                | false =>
                  rw [htr] at HTR HNX
                  go_wp2_with fail
                  refine HTR.out.mono ?_
                  rintro e w1 ⟨rfl, rfl⟩
                  go_wp2
                  go_round
                  case rel => exact ⟨k + 1, by omega, by go_num, by rw [HNX.out, HALL.out]; rfl⟩
                  case measure => simp [intOf]; omega
              | false =>
                rw [hs] at HE HNO
                have j5 : os.toList.isEmpty = false := HE.out
                go_wp2
                go_ret
                exact ⟨ret_bool (HNO.out (by simp)).symm, rfl⟩
            · have j3 : ((k : Int) == (n : Int) - 1) = false := by simp; omega
              have j4 : decide (k + 1 = n) = false := decide_eq_false hl
              rw [j4] at HNO
              clear hl h2 j4
              go_wp2
              go_ret
              exact ⟨ret_bool (HNO.out (by simp)).symm, rfl⟩
          · have j2 : (ot == -2) = false := by simp [h2]
            rw [j2] at HNO HNX
            by_cases hl : k + 1 = n
            · have j3 : ((k : Int) == (n : Int) - 1) = true := by simp; omega
              have j4 : decide (k + 1 = n) = true := decide_eq_true hl
              rw [j4] at HNO
              clear hl h2 j4
              go_wp2
              go_ret
              exact ⟨ret_bool (HNO.out (by simp)).symm, rfl⟩
            · have j3 : ((k : Int) == (n : Int) - 1) = false := by simp; omega
              have j4 : decide (k + 1 = n) = false := decide_eq_false hl
              rw [j4] at HNX HNO
              clear hl h2 j4
              cases htr : trivB ts ot with
              | true =>
                rw [htr] at HTR HNO
                go_wp2_with fail
                refine HTR.out.mono ?_
                rintro e w1 ⟨rfl, rfl⟩
                go_wp2
                go_ret
                exact ⟨ret_bool (HNO.out rfl).symm, rfl⟩
              | false =>
                rw [htr] at HTR HNX
                go_wp2_with fail
                refine HTR.out.mono ?_
                rintro e w1 ⟨rfl, rfl⟩
                go_wp2
                go_round
                case rel => exact ⟨k + 1, by omega, by go_num, by rw [HNX.out, HALL.out]; rfl⟩
                case measure => simp [intOf]; omega
    · by_cases hn0 : n = 0
      · have HW : Hid (rightA ts (ws.map wabs) = false) := Lib.hid (by
          have : ws = [] := List.length_eq_zero_iff.1 (by rw [HL.out, hn0])
          subst this; rfl)
        subst hn0
        go_wp2
        go_ret
        exact ⟨ret_bool HW.out.symm, rfl⟩
      · have HF : Hid (rightA ts (ws.map wabs) = true) := Lib.hid (right_yes (by rw [List.length_map, HL.out]; omega) (by
          rw [List.length_map, HL.out]
          have : k = n := by omega
          subst this; exact HALL.out))
        have hn1 : decide ((0 : Int) < (n : Int)) = true := decide_eq_true (by omega)
        go_wp2
        go_ret
        exact ⟨ret_bool (by rw [HF.out]; simp; omega), rfl⟩
end Go.Proofs.Ytdffilenphglgaa
