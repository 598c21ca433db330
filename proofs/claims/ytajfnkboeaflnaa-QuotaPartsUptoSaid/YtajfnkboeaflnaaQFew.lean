import Derived.Test.YtajfnkboeaflnaaStrRow
namespace Go.Proofs.Ytajfnkboeaflnaa
open Go.RowKit

/-- An operation, as data. -/
structure OpD where
  k : Int
  a : Option Addr
  len : Nat
  cap : Nat
  ls : List ByteArray
  n : Int
  c : UInt8
def OpRow (w : World) (A : Option Addr) (len : Nat) (os : List OpD) : Prop :=
  os.length = len ∧ len ≤ 9223372036854775807 ∧ (∀ o ∈ os, -9223372036854775808 ≤ o.n ∧ o.n ≤ 9223372036854775807 ∧ StrRow w o.a o.len o.ls) ∧
  (0 < len → ∃ b off, A = some ⟨b, off, none⟩ ∧ b < w.heap.size ∧ ∀ i o, os[i]? = some o → w.cell? ⟨b, off + i * 4, none⟩ = some (.int .i64 o.k) ∧ w.cell? ⟨b, off + i * 4 + 1, none⟩ = some (.slice o.a o.len o.cap) ∧
    w.cell? ⟨b, off + i * 4 + 2, none⟩ = some (.int .i64 o.n) ∧ w.cell? ⟨b, off + i * 4 + 3, none⟩ = some (.int .u8 o.c.toNat))
theorem OpRow.below {w w' : World} {a : Option Addr} {len : Nat} {os : List OpD} (h : OpRow w a len os) (hb : Below w.heap.size w w') : OpRow w' a len os := by
  obtain ⟨h1, h2, h3, h4⟩ := h
  refine ⟨h1, h2, fun o ho => ⟨(h3 o ho).1, (h3 o ho).2.1, (h3 o ho).2.2.below hb⟩, fun hp => ?_⟩
  obtain ⟨b, off, ha, hlt, hc⟩ := h4 hp
  have hk := fun p u hh => keeps hb p u hh
  exact ⟨b, off, ha, by have := hb.size; omega, fun i o hi => ⟨hk _ _ (hc i o hi).1, hk _ _ (hc i o hi).2.1, hk _ _ (hc i o hi).2.2.1, hk _ _ (hc i o hi).2.2.2⟩⟩
theorem OpRow.at_ {w : World} {a : Option Addr} {len : Nat} {os : List OpD} (h : OpRow w a len os) {i : Nat} (hi : i < len) : ∃ b off o, a = some ⟨b, off, none⟩ ∧ b < w.heap.size ∧ os[i]? = some o ∧ (-9223372036854775808 ≤ o.n ∧ o.n ≤ 9223372036854775807) ∧ StrRow w o.a o.len o.ls ∧
    w.cell? ⟨b, off + i * 4, none⟩ = some (.int .i64 o.k) ∧ w.cell? ⟨b, off + i * 4 + 1, none⟩ = some (.slice o.a o.len o.cap) ∧ w.cell? ⟨b, off + i * 4 + 2, none⟩ = some (.int .i64 o.n) ∧ w.cell? ⟨b, off + i * 4 + 3, none⟩ = some (.int .u8 o.c.toNat) := by
  obtain ⟨h1, h2, h3, h4⟩ := h
  obtain ⟨b, off, ha, hlt, hc⟩ := h4 (by omega)
  have ho : os[i]? = some os[i] := List.getElem?_eq_getElem (by omega)
  obtain ⟨n1, n2, hs⟩ := h3 _ (List.getElem_mem (by omega : i < os.length))
  exact ⟨b, off, _, ha, hlt, ho, ⟨n1, n2⟩, hs, hc i _ ho⟩
def few1 (o : OpD) : Bool := !(decide (20 < o.len) || ((o.k == 1) && decide (300 < o.n) && decide (o.n ≤ 1073741824))) && o.ls.all fun s => decide (s.size ≤ 200)
def fewB (os : List OpD) : Bool := os.all few1 && decide (os.length ≤ 40)
theorem fewB_no {os : List OpD} {i : Nat} {o : OpD} (hi : os[i]? = some o) (h : few1 o = false) : fewB os = false := by
  unfold fewB
  rw [Bool.and_eq_false_iff]
  left
  rw [List.all_eq_false]
  exact ⟨o, List.mem_of_getElem? hi, by simp [h]⟩
theorem few_next {os : List OpD} {i : Nat} {o : OpD} (hi : os[i]? = some o) (h : few1 o = true) (ha : (os.take i).all few1 = true) : (os.take (i + 1)).all few1 = true := by
  rw [List.take_add_one, hi]; simp [ha, h]
set_option maxHeartbeats 1000000 in
theorem few_any (w : World) (A : Option Addr) (len cap : Nat) (os : List OpD) (h : OpRow w A len os) :
    Calls Try.prog 11 #[.slice A len cap] w fun e w' => e = .returned (.bool (fewB os)) ∧ w' = w := by
  have hl2 := h.2.1
  have Hl := Lib.hid h.1
  go_enter Try.func11, Try.ntmps11
  go_wp2
  go_loop [3] (fun i => ∃ k : Nat, k ≤ len ∧ i = .int .i64 k ∧ (os.take k).all few1 = true) (fun i => len - (intOf i).toNat)
  case atStart => exact ⟨0, by omega, rfl, rfl⟩
  case round =>
    obtain ⟨i, hi, rfl, hall⟩ := hrel
    have HALL := Lib.hid hall
    clear hall
    by_cases hlt : i < len
    · obtain ⟨b, off, o, rfl, _, ho, hn, hs, c0, c1, c2, c3⟩ := h.at_ hlt
      have HO := Lib.hid ho
      have HS := Lib.hid hs
      have hsl := hs.2.1
      clear ho hs c3
      by_cases h20 : (20 : Int) < (o.len : Int)
      · have j1 : decide ((20 : Int) < (o.len : Int)) = true := decide_eq_true h20
        have HF := Lib.hid (fewB_no HO.out (show few1 o = false by unfold few1; simp; intro hx; omega))
        go_wp2
        go_ret
        exact ⟨ret_bool HF.out.symm, rfl⟩
      · have j1 : decide ((20 : Int) < (o.len : Int)) = false := decide_eq_false h20
        by_cases hbad : o.k = 1 ∧ 300 < o.n ∧ o.n ≤ 1073741824
        · obtain ⟨b1, b2, b3⟩ := hbad
          have j2 : (o.k == 1) = true := by simp [b1]
          have j3 : decide (300 < o.n) = true := decide_eq_true b2
          have j4 : decide (o.n ≤ 1073741824) = true := decide_eq_true b3
          have HF := Lib.hid (fewB_no HO.out (show few1 o = false by unfold few1; simp [b1]; intro _ hx; omega))
          clear b1
          go_wp2
          go_ret
          exact ⟨ret_bool HF.out.symm, rfl⟩
        · have HBAD := Lib.hid hbad
          clear hbad
          have step : ∀ u : Bool, u = o.ls.all (fun s => decide (s.size ≤ 200)) → few1 o = u := by
            intro u hu
            have hb := HBAD.out
            unfold few1
            rw [← hu]
            have e1 : decide (20 < o.len) = false := decide_eq_false (by omega)
            have e2 : ((o.k == 1) && decide (300 < o.n) && decide (o.n ≤ 1073741824)) = false := by
              rw [Bool.eq_false_iff]
              intro he
              simp at he
              exact hb ⟨he.1.1, he.1.2, he.2⟩
            rw [e1, e2]; simp
          have STEP := Lib.hid step
          clear step
          by_cases hk1 : o.k = 1
          all_goals
            (first | have j2 : (o.k == 1) = true := beq_iff_eq.2 hk1 | have j2 : (o.k == 1) = false := beq_eq_false_iff_ne.2 hk1)
            by_cases hn3 : 300 < o.n
            all_goals
              have j3 : decide (300 < o.n) = decide (300 < o.n) := rfl
              (first | (have j3 : decide (300 < o.n) = true := decide_eq_true hn3; have j4 : decide (o.n ≤ 1073741824) = false := decide_eq_false (fun h3 => HBAD.out ⟨hk1, hn3, h3⟩)) | (have j3 : decide (300 < o.n) = true := decide_eq_true hn3) | (have j3 : decide (300 < o.n) = false := decide_eq_false hn3))
              clear hk1
              go_wp2_with fail
              go_loop [4] (fun t => ∃ k : Nat, k ≤ o.len ∧ t = .int .i64 k ∧ (o.ls.take k).all (fun s => decide (s.size ≤ 200)) = true) (fun t => o.len - (intOf t).toNat)
              case atStart => exact ⟨0, by omega, rfl, rfl⟩
              case round =>
                obtain ⟨k, hk, rfl, hal⟩ := hrel
                have HAL := Lib.hid hal
                clear hal
                by_cases hkl : k < o.len
                · obtain ⟨b2, off2, s, ha2, _, hs1, hs2, hc⟩ := HS.out.at_ hkl
                  have HS1 := Lib.hid hs1
                  rw [ha2] at c1
                  clear hs1
                  by_cases h200 : (200 : Int) < (s.size : Int)
                  · have j5 : decide ((200 : Int) < (s.size : Int)) = true := decide_eq_true h200
                    have HF := Lib.hid (fewB_no HO.out (STEP.out false (by symm; rw [List.all_eq_false]; exact ⟨s, List.mem_of_getElem? HS1.out, by simp; omega⟩)))
                    go_wp2
                    go_ret
                    exact ⟨ret_bool HF.out.symm, rfl⟩
                  · have j5 : decide ((200 : Int) < (s.size : Int)) = false := decide_eq_false h200
                    go_wp2
                    go_round
                    case rel => exact ⟨k + 1, by omega, by go_num, by rw [List.take_add_one, HS1.out]; simp [HAL.out]; omega⟩
                    case measure => simp [intOf]; omega
                · have HK : Hid (k = o.len) := by show k = o.len; omega
                  go_wp2
                  go_round
                  case rel => exact ⟨i + 1, by omega, by go_num, few_next HO.out (STEP.out true (by have := HAL.out; rw [List.take_of_length_le (by have := HS.out.1; have := HK.out; omega)] at this; exact this.symm)) HALL.out⟩
                  case measure => simp [intOf]; omega
    · have HK : Hid (i = len) := by show i = len; omega
      have HF : Hid (fewB os = decide ((len : Int) ≤ 40)) := by
        show _ = _
        have ha := HALL.out
        rw [List.take_of_length_le (by rw [Hl.out, HK.out]; omega)] at ha
        unfold fewB
        rw [ha, Bool.true_and, Hl.out, decide_eq_decide]
        omega
      go_wp2
      go_ret
      exact ⟨ret_bool HF.out.symm, rfl⟩
end Go.Proofs.Ytajfnkboeaflnaa
