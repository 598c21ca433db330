/- bset: Bytes, First; the document's. -/
import Derived.Test.YtglgmnhfpemfeaaDoorBCount
import Derived.Test.YtglgmnhfpemfeaaDoorAppEl
namespace Go.Proofs.YtglgmnhfpemfeaaDoor
open Go.RowKit
set_option linter.unusedVariables false

def by1 (n : Nat) : List Value := [.int .u8 (n : Int)]
theorem by1_len (n : Nat) : (by1 n).length = 1 := rfl
theorem by1_one (n : Nat) : ∀ u ∈ by1 n, u.oneCell' = true := fun u hu => by simp [by1] at hu; subst hu; rfl
theorem infoU8 : (Tryd.prog.info? 5).map (fun i => (i.zero, i.size, i.bytes)) = some (some (.int .u8 0), 1, 1) := by kernel_rfl
/-- A set's bytes below n. -/
def bytesL (S : Nat → Bool) (n : Nat) : List Nat := (List.range n).filter fun b => S b
theorem bytesL_yes {S : Nat → Bool} {k : Nat} (h : S k = true) : bytesL S (k + 1) = bytesL S k ++ [k] := by
  unfold bytesL; rw [List.range_succ, List.filter_append]; simp [h]
theorem bytesL_no {S : Nat → Bool} {k : Nat} (h : S k = false) : bytesL S (k + 1) = bytesL S k := by
  unfold bytesL; rw [List.range_succ, List.filter_append]; simp [h]
theorem bytesL_len (S : Nat → Bool) (n : Nat) : (bytesL S n).length ≤ n := by
  have := List.length_filter_le (fun b => S b) (List.range n)
  simpa [bytesL] using this
theorem bytesL_cnt (S : Nat → Bool) (n : Nat) : (bytesL S n).length = cntS S n := by
  unfold bytesL cntS; rw [List.countP_eq_length_filter]
theorem bytesL_gap {S : Nat → Bool} {t u : Nat} (htu : t ≤ u) (h : ∀ b, t ≤ b → b < u → S b = false) : bytesL S u = bytesL S t := by
  induction u with
  | zero => have : t = 0 := by omega
            subst this; rfl
  | succ u ih =>
    by_cases he : t = u + 1
    · subst he; rfl
    · rw [bytesL_no (h u (by omega) (by omega)), ih (by omega) (fun b h1 h2 => h b h1 (by omega))]
/-- The part of a set from t on. -/
def fromS (S : Nat → Bool) (t : Nat) : Nat → Bool := fun b => S b && decide (t ≤ b)
theorem low_bits (x : Nat) (h0 : x ≠ 0) (h : x < 18446744073709551616) : Lib.ctz 64 x < 64 ∧ x.testBit (Lib.ctz 64 x) = true ∧ (∀ j, j < Lib.ctz 64 x → x.testBit j = false) ∧ ∀ j, (x &&& (x - 1)).testBit j = (x.testBit j && decide (Lib.ctz 64 x < j)) := by
  obtain ⟨m, hm, hk⟩ := Lib.ctzFrom_spec 64 x (by omega) h
  have e : Lib.ctz 64 x = Lib.ctzFrom 64 x := by simp [Lib.ctz, h0]
  rw [e]
  generalize Lib.ctzFrom 64 x = c at hm hk
  have hb : ∀ j, x.testBit j = (decide (c ≤ j) && (2 * m + 1).testBit (j - c)) := fun j => by rw [hm, Nat.testBit_two_pow_mul]
  have hp : 0 < 2 ^ c := Nat.two_pow_pos c
  have hx1 : x - 1 = 2 ^ c * (2 * m) + (2 ^ c - 1) := by
    rw [hm, Nat.mul_add, Nat.mul_one]; omega
  refine ⟨hk, ?_, fun j hj => ?_, fun j => ?_⟩
  · rw [hb]; simp [Nat.testBit_zero]
  · rw [hb]
    have : ¬ c ≤ j := by omega
    simp [this]
  · rw [Nat.testBit_and, hx1, Nat.testBit_two_pow_mul_add _ (by omega : 2 ^ c - 1 < 2 ^ c), hb]
    by_cases h1 : j < c
    · have h2 : ¬ c ≤ j := by omega
      simp [h2]
    · rw [if_neg h1]
      by_cases h2 : j = c
      · subst h2; simp [Nat.testBit_zero]
      · obtain ⟨i, rfl⟩ : ∃ i, j = c + (i + 1) := ⟨j - c - 1, by omega⟩
        have h3 : c + (i + 1) - c = i + 1 := by omega
        have h4 : c < c + (i + 1) := by omega
        have h5 : c ≤ c + (i + 1) := by omega
        rw [h3, Nat.testBit_succ, Nat.testBit_succ]
        have d1 : (2 * m + 1) / 2 = m := by omega
        have d2 : 2 * m / 2 = m := by omega
        rw [d1, d2]
        simp [h4, h5]
theorem and_pred (x y : Nat) (h0 : x ≠ 0) (hx : x < 18446744073709551616) (h : x &&& (x - 1) = y) : bits BinOp.and IntKind.u64 (x : Int) (IntKind.u64.wrap ((x : Int) - 1)) = (y : Int) := by
  have e : ((x : Int) - 1) = ((x - 1 : Nat) : Int) := by omega
  rw [e, u64_nat _ (by omega), bits_and_u64 _ _ hx (by omega), h]
theorem and_lt (x y : Nat) (h0 : x ≠ 0) (h : x &&& (x - 1) = y) : y < x := by
  rw [← h]; exact Nat.lt_of_le_of_lt Nat.and_le_right (by omega)
theorem lin8 (k b : Nat) (h1 : 64 * k ≤ b) (hb : b < 256) : wrap64 ((k : Int) * 64 + ((b - 64 * k : Nat) : Int)) = (b : Int) := by
  rw [show (k : Int) * 64 + ((b - 64 * k : Nat) : Int) = (b : Int) by omega]; unfold wrap64; omega
theorem mod8 (b : Nat) (hb : b < 256) : (b : Int) % 256 = (b : Int) := by omega
theorem ne_zero8 (x : Nat) (h : x ≠ 0) : ((x : Int) == 0) = false := by simp; exact h
/-- One byte off the least end of what is left of a word. -/
theorem low_step {S : Nat → Bool} {k t : Nat} (hk : k < 4) (h1 : 64 * k ≤ t) (h2 : t ≤ 64 * (k + 1)) (h0 : wd (fromS S t) k ≠ 0) : ∃ b, t ≤ b ∧ b < 64 * (k + 1) ∧ Lib.ctz 64 (wd (fromS S t) k) = b - 64 * k ∧ 64 * k ≤ b ∧ bytesL S (b + 1) = bytesL S t ++ [b] ∧
    wd (fromS S t) k &&& (wd (fromS S t) k - 1) = wd (fromS S (b + 1)) k := by
  have hlt := wd_lt (fromS S t) k
  obtain ⟨a1, a2, a3, a4⟩ := low_bits _ h0 hlt
  generalize hc : Lib.ctz 64 (wd (fromS S t) k) = c at a1 a2 a3 a4
  have hb : fromS S t (64 * k + c) = true := by
    rw [wd_bit] at a2; simpa [a1] using a2
  have hb1 : S (64 * k + c) = true := by unfold fromS at hb; simp at hb; exact hb.1
  have hb2 : t ≤ 64 * k + c := by unfold fromS at hb; simp at hb; exact hb.2
  have hgap : ∀ b, t ≤ b → b < 64 * k + c → S b = false := by
    intro b h3 h4
    have := a3 (b - 64 * k) (by omega)
    rw [wd_bit] at this
    have h5 : b - 64 * k < 64 := by omega
    rw [show 64 * k + (b - 64 * k) = b by omega] at this
    simp [h5, fromS, h3] at this
    exact this
  refine ⟨64 * k + c, hb2, by omega, by omega, by omega, ?_, ?_⟩
  · rw [bytesL_yes hb1, bytesL_gap hb2 hgap]
  · refine wd_ext (Nat.lt_of_le_of_lt Nat.and_le_left hlt) fun j hj => ?_
    rw [a4, wd_bit]
    by_cases h3 : c < j
    · have h4 : t ≤ 64 * k + j := by omega
      have h5 : 64 * k + c + 1 ≤ 64 * k + j := by omega
      simp only [hj, h3, fromS, h4, h5, decide_true, Bool.true_and, Bool.and_true]
    · have h5 : ¬ 64 * k + c + 1 ≤ 64 * k + j := by omega
      simp only [h3, fromS, h5, decide_false, Bool.and_false]
theorem low_end {S : Nat → Bool} {k t : Nat} (h1 : 64 * k ≤ t) (h2 : t ≤ 64 * (k + 1)) (h0 : wd (fromS S t) k = 0) : bytesL S (64 * (k + 1)) = bytesL S t :=
  bytesL_gap h2 fun b h3 h4 => by
    have : (wd (fromS S t) k).testBit (b - 64 * k) = false := by rw [h0]; simp
    rw [wd_bit] at this
    have h5 : b - 64 * k < 64 := by omega
    rw [show 64 * k + (b - 64 * k) = b by omega] at this
    simp [h5, fromS, h3] at this
    exact this
theorem from_start (S : Nat → Bool) (k : Nat) : wd (fromS S (64 * k)) k = wd S k := wd_congr fun j hj => by
  have : 64 * k ≤ 64 * k + j := by omega
  simp [fromS, this]
set_option maxHeartbeats 2000000 in
theorem bytes_any (S : Nat → Bool) (w : World) (hT : TabT w) :
    Calls Tryd.prog 16 #[setV S] w fun e w' => ∃ v, e = .returned v ∧ w'.ownsRow w.heap.size 5 1 v (bytesL S 256).length ((bytesL S 256).flatMap by1) ∧ Below w.heap.size w w' := by
  have hcount := fun w' => count_any S w'
  have hy : SetAt (w.alloc (.cells #[.int .u64 (wd S 0), .int .u64 (wd S 1), .int .u64 (wd S 2), .int .u64 (wd S 3)] 24)) w.heap.size S := heap_alloc_new w _
  have hb0 := ((Below.refl w.heap.size w).alloc (Nat.le_refl w.heap.size) (.cells #[.int .u64 (wd S 0), .int .u64 (wd S 1), .int .u64 (wd S 2), .int .u64 (wd S 3)] 24))
  have hs1 : (w.alloc (.cells #[.int .u64 (wd S 0), .int .u64 (wd S 1), .int .u64 (wd S 2), .int .u64 (wd S 3)] 24)).heap.size = w.heap.size + 1 := by simp
  unfold setV at hcount ⊢
  have HCOUNT := Lib.hid hcount
  clear hcount
  have hcn := cntS_le S 256
  obtain ⟨cn, hcn2⟩ : ∃ cn, cntS S 256 = cn := ⟨_, rfl⟩
  rw [hcn2] at HCOUNT hcn
  clear hcn2
  obtain ⟨W1, hW1⟩ : ∃ W1, w.alloc (.cells #[.int .u64 (wd S 0), .int .u64 (wd S 1), .int .u64 (wd S 2), .int .u64 (wd S 3)] 24) = W1 := ⟨_, rfl⟩
  rw [hW1] at hy hb0 hs1
  have HY := Lib.hid hy
  have HB0 := Lib.hid hb0
  have HS1 := Lib.hid hs1
  have c0 := hy.cell 0 (by omega)
  have c1 := hy.cell 1 (by omega)
  have c2 := hy.cell 2 (by omega)
  have c3 := hy.cell 3 (by omega)
  clear hy hb0 hs1
  obtain ⟨i0, hi, hz0, hz1, hz2⟩ := info_parts infoU8
  go_enter Tryd.func16, Tryd.ntmps16
  go_wp2_with fail
  clear hW1
  refine (HCOUNT.out _).mono ?_
  rintro e w2 ⟨rfl, hb2⟩
  have HB2 := Lib.hid hb2
  clear hb2 c0 c1 c2 c3
  have hs2 : w.heap.size + 1 ≤ w2.heap.size := by have := HB2.out.size; have := HS1.out; omega
  go_wp2_with (refine wpList_make_own w2 rfl _ _ 35 rfl (w.heap.size + 1) 5 i0 (.int .u8 0) 1 Tryd.underlying35 hi hz0 hz1 .i64 .i64 cn cn rfl rfl rfl (by rw [hz2]; omega) (by unfold maxLen; omega) hs2 ?_; intro w3 hown3 hg3)
  have HOWN3 := Lib.hid hown3
  have HB3 : Hid (Below (w.heap.size + 1) W1 w3) := Lib.hid ((HB2.out.mono (by have := HS1.out; omega)).grown hg3 hs2 (fun k hk => by cases hk))
  clear hown3 hg3 hz1 hz2 hz0 hi
  go_loopw [3, 9] (fun v i wr => ∃ k : Nat, k ≤ 4 ∧ i = .int .i64 k ∧ wr.ownsRow (w.heap.size + 1) 5 1 v (bytesL S (64 * k)).length ((bytesL S (64 * k)).flatMap by1) ∧ Below (w.heap.size + 1) W1 wr) (fun _ i _ => 4 - (intOf i).toNat)
  case atStart => exact ⟨0, by omega, rfl, HOWN3.out, HB3.out⟩
  case round =>
    obtain ⟨k, hk, rfl, hown, hb⟩ := hrel
    clear HOWN3 HB3
    have HO := Lib.hid hown
    have HB := Lib.hid hb
    clear hown hb
    generalize wr = wo at *
    by_cases hlt : k < 4
    · have c := (HY.out.below HB.out (by omega)).cell k hlt
      have hp0 : (0 : Int) ≤ (k : Int) := by omega
      have hp1 : (k : Int) < 4 := by omega
      rw [← from_start] at c
      go_wp2
      go_loopw [3, 5] (fun v x wr => ∃ t : Nat, 64 * k ≤ t ∧ t ≤ 64 * (k + 1) ∧ x = .int .u64 (wd (fromS S t) k) ∧ wr.ownsRow (w.heap.size + 1) 5 1 v (bytesL S t).length ((bytesL S t).flatMap by1) ∧ Below (w.heap.size + 1) W1 wr) (fun _ x _ => (intOf x).toNat)
      case atStart => exact ⟨64 * k, by omega, by omega, rfl, HO.out, HB.out⟩
      case round =>
        obtain ⟨t, ht1, ht2, rfl, hown, hb⟩ := hrel
        have HO2 := Lib.hid hown
        have HBI := Lib.hid hb
        have hsz : w.heap.size + 1 ≤ wr.heap.size := by have := HS1.out; have := hb.size; omega
        clear hown hb
        by_cases h0 : wd (fromS S t) k = 0
        · have HE := Lib.hid (low_end ht1 ht2 h0)
          rw [h0]
          go_wp2
          go_roundw
          case rel => exact ⟨k + 1, by omega, by go_num, by rw [HE.out]; exact HO2.out, HBI.out⟩
          case measure => simp [intOf]; omega
        · obtain ⟨b, q1, q2, q3, q4, q5, q6⟩ := low_step hlt ht1 ht2 h0
          have hb256 : b < 256 := by omega
          have HTZ := Lib.hid (tz_any _ (wd_lt (fromS S t) k) h0 wr (hT.below ((HB0.out).trans (HBI.out.mono (by omega)))))
          rw [q3] at HTZ
          have HJ0 := Lib.hid (ne_zero8 _ h0)
          have HAND := Lib.hid (and_pred _ _ h0 (wd_lt (fromS S t) k) q6)
          have HM := Lib.hid (and_lt _ _ h0 q6)
          have H5 := Lib.hid q5
          clear q5 q6 q3 h0
          have hbl := bytesL_len S t
          have hby := lin8 k b q4 hb256
          have hby2 := mod8 b hb256
          have HAP := Lib.hid (app_el (P := Tryd.prog) (C := by1) (T := 35) (by decide) by1_len by1_one Tryd.underlying35 infoU8 rfl HO2.out b (by unfold maxLen; omega) (by omega) hsz wr.heap.size rfl #[.int .u8 (b : Int)] rfl)
          obtain ⟨x', hx'⟩ : ∃ x', wd (fromS S (b + 1)) k = x' := ⟨_, rfl⟩
          have HX' := Lib.hid hx'
          rw [hx'] at HAND HM
          clear hx'
          generalize b - 64 * k = cz at *
          generalize wd (fromS S t) k = x at *
          have hand := HAND.out
          have j0 := HJ0.out
          go_wp2_with fail
          refine HTZ.out.mono ?_
          rintro e w5 ⟨rfl, hw5⟩
          obtain rfl := hw5.symm
          go_wp2_with (at_builtin; refine HAP.out _ _ _ _ _ rfl _ _ rfl rfl rfl ?_; intro gg cap w6 hown1 hgrow hat; have HW := Lib.hid hown1; have HBW := Lib.hid (below_grown (HBI.out.alloc hsz (.cells #[.int .u8 (b : Int)] 5)) (by simp; omega) hgrow (fun j hj => (own_ge HO2.out hj).1)); clear hown1 hgrow hat)
          go_roundw
          case rel => exact ⟨b + 1, by omega, by omega, by rw [HX'.out], by rw [H5.out, List.length_append]; exact HW.out, HBW.out⟩
          case measure => simp [intOf]; exact HM.out
    · have hk4 : k = 4 := by omega
      subst hk4
      have HF : Hid (wo.ownsRow (w.heap.size + 1) 5 1 u3 (bytesL S 256).length ((bytesL S 256).flatMap by1)) := Lib.hid HO.out
      clear hk
      go_wp2
      go_ret
      exact ⟨_, rfl, own_mono HF.out (by omega), HB0.out.trans (HB.out.mono (by omega))⟩
set_option maxHeartbeats 1000000 in
set_option maxRecDepth 100000 in
theorem rbytes_any (S : Nat → Bool) (w : World) :
    Calls Tryd.prog 19 #[setV S] w fun e w' => ∃ v, e = .returned v ∧ w'.ownsRow w.heap.size 5 1 v (bytesL S 256).length ((bytesL S 256).flatMap by1) ∧ Below w.heap.size w w' := by
  have hy : ∀ o, SetAt ((w.alloc (.cells #[.int .u64 (wd S 0), .int .u64 (wd S 1), .int .u64 (wd S 2), .int .u64 (wd S 3)] 24)).alloc o) w.heap.size S := fun o => heap_alloc2_old w _ _
  have hb0 : Below w.heap.size w ((w.alloc (.cells #[.int .u64 (wd S 0), .int .u64 (wd S 1), .int .u64 (wd S 2), .int .u64 (wd S 3)] 24)).alloc (.cells #[] 5)) := ((Below.refl _ _).alloc (Nat.le_refl _) _).alloc (by simp) _
  have ho0 : ((w.alloc (.cells #[.int .u64 (wd S 0), .int .u64 (wd S 1), .int .u64 (wd S 2), .int .u64 (wd S 3)] 24)).alloc (.cells #[] 5)).ownsRow (w.heap.size + 1) 5 1 (.slice (some ⟨w.heap.size + 1, 0, none⟩) 0 0) 0 [] := by
    have h := World.ownsRow_made (base := w.heap.size + 1) (e := 5) (size := 1) (w.alloc (.cells #[.int .u64 (wd S 0), .int .u64 (wd S 1), .int .u64 (wd S 2), .int .u64 (wd S 3)] 24)) #[] 0 (by simp) (by decide) (by simp)
    simpa using h
  obtain ⟨W1, hW1⟩ : ∃ W1, (w.alloc (.cells #[.int .u64 (wd S 0), .int .u64 (wd S 1), .int .u64 (wd S 2), .int .u64 (wd S 3)] 24)).alloc (.cells #[] 5) = W1 := ⟨_, rfl⟩
  have hy := hy (.cells #[] 5)
  have hs1 : W1.heap.size = w.heap.size + 2 := by rw [← hW1]; simp
  rw [hW1] at hy hb0 ho0
  have HY := Lib.hid hy
  have HB0 := Lib.hid hb0
  have HO0 := Lib.hid ho0
  have HS1 := Lib.hid hs1
  clear hy hb0 ho0 hs1
  have hhas := fun k (hk : k < 256) w' => refhas_any S k w' hk
  unfold setV at hhas ⊢
  have HHAS := Lib.hid hhas
  clear hhas
  go_enter Tryd.func19, Tryd.ntmps19
  go_wp2
  try rw [hW1]
  clear hW1
  go_loopw [3, 4] (fun v i wr => ∃ k : Nat, k ≤ 256 ∧ i = .int .i64 k ∧ wr.ownsRow (w.heap.size + 1) 5 1 v (bytesL S k).length ((bytesL S k).flatMap by1) ∧ SetAt wr w.heap.size S ∧ Below w.heap.size w wr ∧ w.heap.size + 2 ≤ wr.heap.size) (fun _ i _ => 256 - (intOf i).toNat)
  case atStart => exact ⟨0, by omega, rfl, HO0.out, HY.out, HB0.out, by rw [HS1.out]; omega⟩
  case round =>
    obtain ⟨k, hk, rfl, hown, hy, hb, hsz⟩ := hrel
    clear HO0 HY HB0 HS1
    have HO := Lib.hid hown
    have HY := Lib.hid hy
    have HB := Lib.hid hb
    by_cases hlt : k < 256
    · have c0 := hy.cell 0 (by omega)
      have c1 := hy.cell 1 (by omega)
      have c2 := hy.cell 2 (by omega)
      have c3 := hy.cell 3 (by omega)
      have hwk : IntKind.u8.wrap (k : Int) = (k : Int) := IntWalk.u8_in _ ⟨by omega, by omega⟩
      have HH := Lib.hid (HHAS.out k hlt)
      have HYES := Lib.hid (bytesL_yes (S := S) (k := k))
      have HNO := Lib.hid (bytesL_no (S := S) (k := k))
      obtain ⟨s, hs⟩ : ∃ s, S k = s := ⟨_, rfl⟩
      rw [hs] at HH HYES HNO
      have hbl := bytesL_len S k
      clear hs hown hy hb
      cases s with
      | true =>
        go_wp2_with fail
        refine (HH.out _).mono ?_
        rintro e w2 ⟨rfl, hb2⟩
        have HO2 := Lib.hid (ownB HO.out hb2)
        have HY2 : Hid (SetAt w2 w.heap.size S) := Lib.hid (HY.out.below hb2 (by omega))
        have HB2 := Lib.hid (HB.out.trans (hb2.mono (by omega)))
        have hsz2 : w.heap.size + 2 ≤ w2.heap.size := by have := hb2.size; omega
        have HAP := Lib.hid (app_el (P := Tryd.prog) (C := by1) (T := 35) (by decide) by1_len by1_one Tryd.underlying35 infoU8 rfl HO2.out k (by unfold maxLen; omega) (by omega) (by omega) w2.heap.size rfl #[.int .u8 (k : Int)] rfl)
        clear hb2
        go_wp2_with (at_builtin; refine HAP.out _ _ _ _ _ rfl _ _ rfl rfl rfl ?_; intro gg cap w6 hown1 hgrow hat; have HW := Lib.hid hown1; have HBW := Lib.hid (below_grown (HB2.out.alloc (by omega) (.cells #[.int .u8 (k : Int)] 5)) (by simp; omega) hgrow (fun j hj => by have := (own_ge HO2.out hj).1; omega)); have HYW : Hid (SetAt w6 w.heap.size S) := Lib.hid ((hgrow.block _ (by simp; omega) (fun e => by have := (own_ge HO2.out e.symm).1; omega)).trans ((HY2.out.below ((Below.refl _ _).alloc (Nat.le_refl _) (.cells #[.int .u8 (k : Int)] 5)) (by omega)))); have hsz6 := hgrow.size; clear hown1 hgrow hat)
        go_roundw
        case rel => exact ⟨k + 1, by omega, by go_num, by rw [HYES.out (by simp), List.length_append]; exact HW.out, HYW.out, HBW.out, by simp at hsz6; omega⟩
        case measure => simp [intOf]; omega
      | false =>
        go_wp2_with fail
        refine (HH.out _).mono ?_
        rintro e w2 ⟨rfl, hb2⟩
        have HO2 := Lib.hid (ownB HO.out hb2)
        have HY2 : Hid (SetAt w2 w.heap.size S) := Lib.hid (HY.out.below hb2 (by omega))
        have HB2 := Lib.hid (HB.out.trans (hb2.mono (by omega)))
        have hsz2 : w.heap.size + 2 ≤ w2.heap.size := by have := hb2.size; omega
        clear hb2
        go_wp2
        go_roundw
        case rel => exact ⟨k + 1, by omega, by go_num, by rw [HNO.out (by simp)]; exact HO2.out, HY2.out, HB2.out, hsz2⟩
        case measure => simp [intOf]; omega
    · have hk2 : k = 256 := by omega
      subst hk2
      clear hown hy hb hk
      go_wp2
      go_ret
      exact ⟨_, rfl, own_mono HO.out (by omega), HB.out⟩
end Go.Proofs.YtglgmnhfpemfeaaDoor
