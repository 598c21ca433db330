/- What a backslash and what stands behind it are: the program's. -/
import Derived.Test.YtnlpahdjiddooaaDoorEscLaw
import Derived.Test.YtnlpahdjiddooaaDoorFam
import Derived.Lib.IndexBytes
namespace Go.Proofs.YtnlpahdjiddooaaDoor
open Go.RowKit Go.PlainAid
set_option linter.unusedVariables false

theorem below_drewN (w : World) (n : Nat) : Below w.heap.size w (w.drewN n) := ⟨rfl, rfl, rfl, Nat.le_refl _, fun _ _ => rfl⟩
def sv (x : Nat × Nat × Nat) : Value := .tuple #[.int .u8 (x.1 : Nat), .int .i64 (x.2.1 : Nat), .int .i64 (x.2.2 : Nat)]
theorem ret_sv {x : Nat × Nat × Nat} {a b c : Nat} (h : x = (a, b, c)) : Ending.returned (.tuple #[.int .u8 (a : Int), .int .i64 (b : Int), .int .i64 (c : Int)]) = .returned (sv x) := by subst h; rfl
theorem hexv_nib (k : Nat) (h : k < 16) : hexv ((hexd k).toNat : Int) = k := hexv_hexd k h
theorem LS_ext (s : ByteArray) (i j : Nat) : LS (s.extract i j) = ((LS s).drop i).take (j - i) := by
  show (s.extract i j).data.toList = _
  rw [ByteArray.data_extract, Array.toList_extract, List.extract_eq_take_drop]; rfl
theorem toL (s : ByteArray) : s.toList = LS s := ByteArray.toList_eq s
theorem bt_LS (s : ByteArray) (k : Nat) (c : UInt8) (h : (LS s)[k]? = some c) : bt s k = (c.toNat : Int) ∧ ∃ hk : k < s.size, s[k]'hk = c := by
  have hk : k < s.size := by rw [← LS_len]; exact (List.getElem?_eq_some_iff.1 h).1
  have h2 := LS_at s k hk
  rw [h] at h2
  have h3 := Option.some.inj h2
  exact ⟨by rw [← get_bt s k hk, ← h3], hk, h3.symm⟩
set_option maxHeartbeats 4000000 in
theorem behind_any (s : ByteArray) (w : World) (hs : s.size ≤ 100000) (hT : TabS w) (h0 : (LS s)[0]? = some 92) :
    Calls Tryd.prog 20 #[.string s] w fun e w' => e = .returned (sv (stepS (LS s))) ∧ Below w.heap.size w w' := by
  have hll := LS_len s
  have hge : 1 ≤ s.size := by rw [← hll]; exact (List.getElem?_eq_some_iff.1 h0).1
  obtain ⟨st, hst⟩ : ∃ x, stepS (LS s) = x := ⟨_, rfl⟩
  have HST := Lib.hid hst
  rw [hst]
  by_cases h2 : s.size < 2
  · have HE : Hid (st = (0, 0, 4)) := Lib.hid (by
      rw [← hst]
      have : LS s = [92] := by
        match hL : LS s, h0, hll with
        | [c], h0, _ => simp at h0; rw [h0]
        | [], h0, _ => simp at h0
        | _ :: _ :: _, _, hll => simp at hll; omega
      rw [this]; exact one_slash)
    have q1 : (s.size : Int) < 2 := by omega
    clear hst h0 hll h2
    go_enter Tryd.func20, Tryd.ntmps20
    go_wp2
    go_ret3
    exact ⟨ret_sv HE.out, Below.refl _ _⟩
  obtain ⟨c, r, hL⟩ : ∃ c r, LS s = 92 :: c :: r := by
    match hL : LS s, h0, hll with
    | a :: c :: r, h0, _ => simp at h0; exact ⟨c, r, by rw [h0]⟩
    | [], h0, _ => simp at h0
    | [_], _, hll => simp at hll; omega
  have HL := Lib.hid hL
  have hcl := c.toNat_lt
  obtain ⟨hb1, hk1, hc1⟩ := bt_LS s 1 c (by rw [hL]; rfl)
  have HT := Lib.hid hT
  have hcn : ((s[1]'hk1).toNat : Int) = (c.toNat : Int) := by rw [hc1]
  have hcn2 : (s[1]'hk1).toNat = c.toNat := by rw [hc1]
  obtain ⟨n, hn⟩ : ∃ n, c.toNat = n := ⟨_, rfl⟩
  have HN := Lib.hid hn
  rw [hn] at hcn hcn2 hcl
  have q1 : ¬ (s.size : Int) < 2 := by omega
  have q0 : (1 : Int) < (s.size : Int) := by omega
  clear hst h0 hT hn hb1 hc1
  go_enter Tryd.func20, Tryd.ntmps20
  go_wp2
  go_loopw [13] (fun i wr => ∃ k m : Nat, k ≤ 5 ∧ i = .int .i64 (k : Int) ∧ (∀ j, j < k → T0 j ≠ n) ∧ wr = w.drewN m) (fun i _ => 5 - (intOf i).toNat)
  case atStart => exact ⟨0, 0, by omega, rfl, by omega, rfl⟩
  case round =>
    obtain ⟨k, m, hk, rfl, hall, hwr⟩ := hrel
    have HA := Lib.hid hall
    have HWR := Lib.hid hwr
    have HTR : Hid (TabS wr) := Lib.hid (by rw [hwr]; exact HT.out.below (below_drewN w m))
    have HBR : Hid (Below w.heap.size w wr) := Lib.hid (by rw [hwr]; exact below_drewN w m)
    have hsz : w.heap.size ≤ wr.heap.size := HBR.out.size
    clear hall hwr
    by_cases hlt : k < 5
    · have hc := HTR.out k hlt
      have ht := T1_lt k hlt
      have HSL : Hid (T0 k = n → st = (T1 k, 2, 0)) := Lib.hid fun h => by
        have hcc : c = cu8 (T0 k) := by rw [h, ← HN.out, cu8_toNat]
        rw [← HST.out, HL.out, hcc]
        exact slash_tab hlt r
      have HNX : Hid (T0 k ≠ n → ∀ j, j < k + 1 → T0 j ≠ n) := Lib.hid fun h j hj => by
        rcases Nat.lt_or_ge j k with h1 | h1
        · exact HA.out j h1
        · have : j = k := by omega
          subst this; exact h
      obtain ⟨t1, ht1⟩ : ∃ x, T1 k = x := ⟨_, rfl⟩
      obtain ⟨t0, ht0⟩ : ∃ x, T0 k = x := ⟨_, rfl⟩
      rw [ht1] at hc ht HSL
      rw [ht0] at hc ht HSL HNX
      obtain ⟨c0, c1⟩ := hc
      have h1 : (k : Int) < 5 := by omega
      have h0 : (0 : Int) ≤ (k : Int) := by omega
      clear ht1 ht0 HA
      by_cases he : t0 = n
      · subst he
        have HE := Lib.hid (HSL.out rfl)
        clear HSL HNX
        go_wp2
        go_region
        go_wp2
        go_ret3
        exact ⟨ret_sv HE.out, HBR.out.drew⟩
      · have e1 : ((t0 : Int) == (n : Int)) = false := by simp; omega
        have HNE := Lib.hid (HNX.out he)
        clear he HNX HSL
        go_wp2
        go_region
        go_wp2
        go_roundw
        case rel => exact ⟨k + 1, m + 1, by omega, by go_num, HNE.out, by rw [HWR.out]; rfl⟩
        case measure => simp [intOf]; omega
    · have hk5 : k = 5 := by omega
      subst hk5
      have HT0 : Hid (∀ i, i < 5 → c ≠ cu8 (T0 i)) := Lib.hid fun i hi e => HA.out i hi (by rw [← HN.out, e, u8_nat (T1_lt i hi).2])
      by_cases h120 : n = 120
      case neg =>
        have HE : Hid (st = (0, 0, 3)) := Lib.hid (by
          rw [← HST.out, HL.out]
          exact slash_form HT0.out (fun e => h120 (by rw [← HN.out, e]; rfl)))
        have e1 : ((n : Int) != 120) = true := by simp; omega
        clear h120
        go_wp2
        go_ret3
        exact ⟨ret_sv HE.out, HBR.out⟩
      subst h120
      have HC : Hid (c = 120) := Lib.hid (UInt8.toNat_inj.1 HN.out)
      by_cases h4 : 4 ≤ s.size
      · have q4 : (4 : Int) ≤ (s.size : Int) := by omega
        obtain ⟨x, y, t, hr⟩ : ∃ x y t, r = x :: y :: t := by
          have h5 := congrArg List.length HL.out
          rw [hll] at h5
          match r, h5 with
          | x :: y :: t, _ => exact ⟨x, y, t, rfl⟩
          | [], h5 => simp at h5; omega
          | [_], h5 => simp at h5; omega
        have HXY : Hid (LS s = 92 :: 120 :: x :: y :: t) := Lib.hid (by rw [HL.out, HC.out, hr])
        have HS2 : Hid (LS (s.extract 2 4) = [x, y]) := Lib.hid (by rw [LS_ext, HXY.out]; rfl)
        have hs2 : (s.extract 2 4).size = 2 := by rw [← LS_len, HS2.out]; rfl
        obtain ⟨b0, _, _⟩ := bt_LS (s.extract 2 4) 0 x (by rw [HS2.out]; rfl)
        obtain ⟨b1, _, _⟩ := bt_LS (s.extract 2 4) 1 y (by rw [HS2.out]; rfl)
        have HUX := Lib.hid (unhex_any (s.extract 2 4) wr (by rw [hs2]; decide))
        have kx := hexv_le (x.toNat : Int)
        have ky := hexv_le (y.toNat : Int)
        by_cases hv : 0 ≤ hexv (x.toNat : Int) ∧ 0 ≤ hexv (y.toNat : Int)
        · have HU : Hid (unhexR (s.extract 2 4) = .tuple #[.int .u8 (hexv (x.toNat : Int) * 16 + hexv (y.toNat : Int)), .bool true]) := Lib.hid (by
            unfold unhexR unhexN
            rw [b0, b1, if_pos ⟨hs2, hv.1, hv.2⟩])
          obtain ⟨b, hb⟩ : ∃ b : Nat, hexv (x.toNat : Int) * 16 + hexv (y.toNat : Int) = b := ⟨(hexv (x.toNat : Int) * 16 + hexv (y.toNat : Int)).toNat, by omega⟩
          have hb256 : b < 256 := by omega
          have HB := Lib.hid hb
          rw [HU.out, hb] at HUX
          have HS4 : Hid (s.extract 0 4 = BA [92, 120, x, y]) := Lib.hid (by
            have : LS (s.extract 0 4) = [92, 120, x, y] := by rw [LS_ext, HXY.out]; rfl
            rw [← this]; exact (BA_LS _).symm)
          obtain ⟨eq, heq⟩ : ∃ eq : Bool, ((BA (chL b)).toList == (BA [92, 120, x, y]).toList) = eq := ⟨_, rfl⟩
          have HEQ := Lib.hid heq
          have HCH : Hid (∀ q X, Onto (wr.drewN q).drew X → Calls Tryd.prog 7 #[.int .u8 (b : Int)] X fun e w' => e = .returned (.string (BA (chL b))) ∧ Below X.heap.size X w') := Lib.hid fun q X hX => char_any b X hb256 (HTR.out.below ((below_drewN wr q).trans (onto_drew hX)))
          have HE1 : Hid (eq = true → st = (b, 4, 0)) := Lib.hid fun h => by
            rw [h] at heq
            have h5 := beq_iff_eq.1 heq
            rw [toL, toL] at h5
            rw [← HST.out, HXY.out]
            exact slash_hex hb256 h5
          have HE2 : Hid (eq = false → st = (0, 0, 3)) := Lib.hid fun h => by
            rw [h] at heq
            rw [← HST.out, HXY.out]
            refine slash_hex_no fun b' hb' h6 => ?_
            have h7 : b' = b := by
              rcases code_cases b' hb' with ⟨h8, _⟩ | ⟨h8, _⟩ | ⟨_, h8⟩
              · rw [h6] at h8; simp at h8
              · rw [h6] at h8; simp at h8
              · rw [h6] at h8
                simp only [List.cons.injEq, and_true, true_and] at h8
                have e1 := hexv_nib (b' / 16) (by omega)
                have e2 := hexv_nib (b' % 16) (by omega)
                rw [← h8.1] at e1
                rw [← h8.2] at e2
                have := HB.out
                omega
            subst h7
            have : ((BA (chL b')).toList == (BA [92, 120, x, y]).toList) = true := by rw [h6]; exact beq_iff_eq.2 rfl
            rw [this] at heq; cases heq
          clear heq hb HB hv kx ky b0 b1 hr HU HS2
          go_wp2_with fail
          refine HUX.out.mono ?_
          rintro e w2 ⟨rfl, q, hw2⟩
          have hsz2 : wr.heap.size ≤ w2.heap.size := by rw [hw2]; exact Nat.le_refl _
          have HB2 : Hid (Below w.heap.size w w2) := Lib.hid (by rw [hw2]; exact HBR.out.trans ((below_drewN wr q).mono hsz))
          have HCH2 := Lib.hid (HCH.out q)
          rw [← hw2] at HCH2
          obtain ⟨s4, hs4⟩ : ∃ s4, BA [92, 120, x, y] = s4 := ⟨_, rfl⟩
          rw [hs4] at HS4 HEQ
          have q5 : (0 : Int) ≤ 4 := by omega
          clear HCH hw2 hs4
          have HCH := HCH2
          clear HCH2
          go_wp2
          refine wp_region_fam_lit (E := Onto)
            [isV (.bool true),
             isV (.bool true),
             isV (.int .u8 (b : Int)),
             isV (.string (BA (chL b))),
             isV (.string s),
             isV (.string s4),
             isV (.bool eq),
             isV (.bool eq)]
            [some 40, some 41, some 42, some 43, some 44, some 45, some 46, some 47] (by kernel_rfl) rfl (by kernel_rfl) rfl Onto.trans Onto.refl ?monoY ?obY ?qY
          case monoY => exact ⟨isV_mono _ _, isV_mono _ _, isV_mono _ _, isV_mono _ _, isV_mono _ _, isV_mono _ _, isV_mono _ _, isV_mono _ _, trivial⟩
          case obY =>
            refine Obs.cons (j := 1) rfl ?_ ?_
            · refine Ob.free [(7, none)] (by kernel_rfl) (isV (.bool true)) rfl rfl (fun a X hE hL => ?_)
              simp [Seen, slotAt] at hL
              have h7 := hL
              rw [relAt_eq]
              go_simp
              exact ⟨Onto.refl _, rfl⟩
            refine Obs.cons (j := 2) rfl ?_ ?_
            · refine Ob.free [(40, some 0)] (by kernel_rfl) (isV (.bool true)) rfl rfl (fun a X hE hL => ?_)
              simp [Seen, slotAt, famV, isV] at hL
              have h40 := hL
              rw [relAt_eq]
              go_simp
              exact ⟨Onto.refl _, rfl⟩
            refine Obs.cons (j := 3) rfl ?_ ?_
            · refine Ob.guarded [(6, none), (41, some 1)] (by kernel_rfl) (isV (.int .u8 (b : Int))) rfl 1 true 41 rfl rfl (fun a X hE hL => ?_)
              simp [Seen, slotAt, famV, isV] at hL
              obtain ⟨h6, h41⟩ := hL
              refine ⟨by simpa using h41, ?_⟩
              clear h41
              rw [relAt_eq]
              go_simp
              exact ⟨Onto.refl _, rfl⟩
            refine Obs.cons (j := 4) rfl ?_ ?_
            · refine Ob.guarded [(42, some 2), (41, some 1)] (by kernel_rfl) (isV (.string (BA (chL b)))) rfl 1 true 41 rfl rfl (fun a X hE hL => ?_)
              simp [Seen, slotAt, famV, isV] at hL
              obtain ⟨h42, h41⟩ := hL
              refine ⟨by simpa using h41, ?_⟩
              clear h41
              rw [relAt_eq]
              go_simp
              rw [relUpon_enter]
              go_at_call 7
              refine (HCH.out X hE).mono ?_
              rintro e Y ⟨rfl, hY⟩
              exact ⟨_, rfl, hY, rfl⟩
            refine Obs.cons (j := 5) rfl ?_ ?_
            · refine Ob.guarded [(0, none), (41, some 1)] (by kernel_rfl) (isV (.string s)) rfl 1 true 41 rfl rfl (fun a X hE hL => ?_)
              simp [Seen, slotAt, famV, isV] at hL
              obtain ⟨h0, h41⟩ := hL
              refine ⟨by simpa using h41, ?_⟩
              clear h41
              rw [relAt_eq]
              go_simp
              exact ⟨Onto.refl _, rfl⟩
            refine Obs.cons (j := 6) rfl ?_ ?_
            · refine Ob.guarded [(44, some 4), (41, some 1)] (by kernel_rfl) (isV (.string s4)) rfl 1 true 41 rfl rfl (fun a X hE hL => ?_)
              simp [Seen, slotAt, famV, isV] at hL
              obtain ⟨h44, h41⟩ := hL
              refine ⟨by simpa using h41, ?_⟩
              clear h41
              rw [relAt_eq]
              go_simp
              exact ⟨Onto.refl _, congrArg Value.string HS4.out⟩
            refine Obs.cons (j := 7) rfl ?_ ?_
            · refine Ob.guarded [(43, some 3), (45, some 5), (41, some 1)] (by kernel_rfl) (isV (.bool eq)) rfl 1 true 41 rfl rfl (fun a X hE hL => ?_)
              simp [Seen, slotAt, famV, isV] at hL
              obtain ⟨h43, h45, h41⟩ := hL
              refine ⟨by simpa using h41, ?_⟩
              clear h41
              rw [relAt_eq]
              have hq := HEQ.out
              go_simp
              exact ⟨Onto.refl _, rfl⟩
            refine Obs.cons (j := 8) rfl ?_ ?_
            · refine Ob.free [(41, some 1), (46, some 6)] (by kernel_rfl) (isV (.bool eq)) rfl rfl (fun a X hE hL => ?_)
              simp [Seen, slotAt, famV, isV] at hL
              obtain ⟨h41, h46⟩ := hL
              rw [relAt_eq]
              go_simp
              exact ⟨Onto.refl _, rfl⟩
            exact trivial
          case qY =>
            intro x wq hE hV
            simp [AllV, famV, isV] at hV
            obtain ⟨-, -, -, -, -, -, -, h47⟩ := hV
            simp only [puts, Act.put, List.setIfInBounds_toArray, List.set_cons_zero, List.set_cons_succ, h47]
            generalize x 40 = y40
            generalize x 41 = y41
            generalize x 42 = y42
            generalize x 43 = y43
            generalize x 44 = y44
            generalize x 45 = y45
            generalize x 46 = y46
            clear h47
            have HB3 := Lib.hid (HB2.out.trans ((onto_drew hE).mono (by omega)))
            clear hE
            cases eq with
            | true =>
              have HE := Lib.hid (HE1.out rfl)
              go_wp2
              go_ret3
              exact ⟨ret_sv HE.out, HB3.out⟩
            | false =>
              have HE := Lib.hid (HE2.out rfl)
              go_wp2
              go_ret3
              exact ⟨ret_sv HE.out, HB3.out⟩
        · have HU : Hid (unhexR (s.extract 2 4) = .tuple #[.int .u8 0, .bool false]) := Lib.hid (by
            unfold unhexR unhexN
            rw [b0, b1, if_neg (fun h => hv ⟨h.2.1, h.2.2⟩)])
          rw [HU.out] at HUX
          have HE : Hid (st = (0, 0, 3)) := Lib.hid (by
            rw [← HST.out, HXY.out]
            refine slash_hex_no fun b' hb' h6 => hv ?_
            rcases code_cases b' hb' with ⟨h8, _⟩ | ⟨h8, _⟩ | ⟨_, h8⟩
            · rw [h6] at h8; simp at h8
            · rw [h6] at h8; simp at h8
            · rw [h6] at h8
              simp only [List.cons.injEq, and_true, true_and] at h8
              have e1 := hexv_nib (b' / 16) (by omega)
              have e2 := hexv_nib (b' % 16) (by omega)
              rw [← h8.1] at e1
              rw [← h8.2] at e2
              omega)
          clear hv kx ky b0 b1 hr HU HS2
          go_wp2_with fail
          refine HUX.out.mono ?_
          rintro e w2 ⟨rfl, q, hw2⟩
          have hsz2 : wr.heap.size ≤ w2.heap.size := by rw [hw2]; exact Nat.le_refl _
          have HB2 : Hid (Below w.heap.size w w2) := Lib.hid (by rw [hw2]; exact HBR.out.trans ((below_drewN wr q).mono hsz))
          clear hw2
          go_wp2
          refine wp_region_fam_lit (E := Onto)
            [isV (.bool false),
             isV (.bool false),
             isV undef,
             isV undef,
             isV undef,
             isV undef,
             isV undef,
             isV (.bool false)]
            [some 40, some 41, some 42, some 43, some 44, some 45, some 46, some 47] (by kernel_rfl) rfl (by kernel_rfl) rfl Onto.trans Onto.refl ?monoN ?obN ?qN
          case monoN => exact ⟨isV_mono _ _, isV_mono _ _, isV_mono _ _, isV_mono _ _, isV_mono _ _, isV_mono _ _, isV_mono _ _, isV_mono _ _, trivial⟩
          case obN =>
            refine Obs.cons (j := 1) rfl ?_ ?_
            · refine Ob.free [(7, none)] (by kernel_rfl) (isV (.bool false)) rfl rfl (fun a X hE hL => ?_)
              simp [Seen, slotAt] at hL
              have h7 := hL
              rw [relAt_eq]
              go_simp
              exact ⟨Onto.refl _, rfl⟩
            refine Obs.cons (j := 2) rfl ?_ ?_
            · refine Ob.free [(40, some 0)] (by kernel_rfl) (isV (.bool false)) rfl rfl (fun a X hE hL => ?_)
              simp [Seen, slotAt, famV, isV] at hL
              have h40 := hL
              rw [relAt_eq]
              go_simp
              exact ⟨Onto.refl _, rfl⟩
            refine Obs.cons (j := 3) rfl ?_ ?_
            · refine Ob.skip [(6, none), (41, some 1)] (by kernel_rfl) rfl 1 true 41 rfl rfl (fun a X hE hL => ?_)
              simp [Seen, slotAt, famV, isV] at hL
              obtain ⟨h6, h41⟩ := hL
              simpa using h41
            refine Obs.cons (j := 4) rfl ?_ ?_
            · refine Ob.skip [(42, some 2), (41, some 1)] (by kernel_rfl) rfl 1 true 41 rfl rfl (fun a X hE hL => ?_)
              simp [Seen, slotAt, famV, isV] at hL
              obtain ⟨h42, h41⟩ := hL
              simpa using h41
            refine Obs.cons (j := 5) rfl ?_ ?_
            · refine Ob.skip [(0, none), (41, some 1)] (by kernel_rfl) rfl 1 true 41 rfl rfl (fun a X hE hL => ?_)
              simp [Seen, slotAt, famV, isV] at hL
              obtain ⟨h0, h41⟩ := hL
              simpa using h41
            refine Obs.cons (j := 6) rfl ?_ ?_
            · refine Ob.skip [(44, some 4), (41, some 1)] (by kernel_rfl) rfl 1 true 41 rfl rfl (fun a X hE hL => ?_)
              simp [Seen, slotAt, famV, isV] at hL
              obtain ⟨h44, h41⟩ := hL
              simpa using h41
            refine Obs.cons (j := 7) rfl ?_ ?_
            · refine Ob.skip [(43, some 3), (45, some 5), (41, some 1)] (by kernel_rfl) rfl 1 true 41 rfl rfl (fun a X hE hL => ?_)
              simp [Seen, slotAt, famV, isV] at hL
              obtain ⟨h43, h45, h41⟩ := hL
              simpa using h41
            refine Obs.cons (j := 8) rfl ?_ ?_
            · refine Ob.free [(41, some 1), (46, some 6)] (by kernel_rfl) (isV (.bool false)) rfl rfl (fun a X hE hL => ?_)
              simp [Seen, slotAt, famV, isV] at hL
              obtain ⟨h41, h46⟩ := hL
              rw [relAt_eq]
              go_simp
              exact ⟨Onto.refl _, rfl⟩
            exact trivial
          case qN =>
            intro x wq hE hV
            simp [AllV, famV, isV] at hV
            obtain ⟨-, -, -, -, -, -, -, h47⟩ := hV
            simp only [puts, Act.put, List.setIfInBounds_toArray, List.set_cons_zero, List.set_cons_succ, h47]
            generalize x 40 = y40
            generalize x 41 = y41
            generalize x 42 = y42
            generalize x 43 = y43
            generalize x 44 = y44
            generalize x 45 = y45
            generalize x 46 = y46
            clear h47
            have HB3 := Lib.hid (HB2.out.trans ((onto_drew hE).mono (by omega)))
            clear hE
            go_wp2
            go_ret3
            exact ⟨ret_sv HE.out, HB3.out⟩
      · have q4 : ¬ (4 : Int) ≤ (s.size : Int) := by omega
        have HR : Hid (LS s = 92 :: 120 :: r) := Lib.hid (by rw [HL.out, HC.out])
        have HRL : Hid (r.length ≤ 1) := Lib.hid (by have h5 := congrArg List.length HL.out; rw [hll] at h5; simp at h5; omega)
        have HYES := Lib.hid (slash_short (r := r) HRL.out)
        have HNO := Lib.hid (slash_short_no (r := r) HRL.out)
        clear h4 HA HT0
        go_wp2
        obtain ⟨wo, rfl⟩ : ∃ x, x = wr := ⟨_, rfl⟩
        go_loopw [49] (fun i wr => ∃ k : Nat, k ≤ 256 ∧ i = .int .i64 (k : Int) ∧ (∀ j, j < k → (chL j).length = 4 → ¬ (92 :: 120 :: r) <+: chL j) ∧ Below wo.heap.size wo wr) (fun i _ => 256 - (intOf i).toNat)
        case atStart => exact ⟨0, by omega, rfl, by omega, Below.refl _ _⟩
        case round =>
          obtain ⟨k, hk, rfl, hall, hbx⟩ := hrel
          have HA := Lib.hid hall
          have HBX := Lib.hid hbx
          have hgx := hbx.size
          clear hall hbx
          by_cases hlt : k < 256
          · have HCH := Lib.hid (char_any k wr hlt (HTR.out.below HBX.out))
            have HPF := Lib.hid fun w => strings_HasPrefix (BA (chL k)) s w
            have hkm : (k : Int) % 256 = (k : Int) := by omega
            have hkm2 : k % 256 = k := by omega
            have h1 : (k : Int) < 256 := by omega
            obtain ⟨hp, hhp⟩ : ∃ x, Lib.hasPrefix (BA (chL k)).data.toList s.data.toList = x := ⟨_, rfl⟩
            have HHP : Hid (hp = true ↔ (92 :: 120 :: r) <+: chL k) := Lib.hid (by
              rw [← hhp, ← HR.out]
              unfold Lib.hasPrefix
              rw [List.isPrefixOf_iff_prefix]; rfl)
            rw [hhp] at HPF
            have HSZ := Lib.hid (BA_size (chL k))
            obtain ⟨cs, hcs⟩ : ∃ x, BA (chL k) = x := ⟨_, rfl⟩
            rw [hcs] at HCH HPF HSZ
            clear hhp hcs
            go_wp2_with fail
            refine HCH.out.mono ?_
            rintro e w3 ⟨rfl, hb3⟩
            have HB3 := Lib.hid (HBX.out.trans (hb3.mono hgx))
            clear hb3 HCH
            by_cases hc4 : cs.size = 4
            · have c1 : ((cs.size : Int) == 4) = true := by simp; omega
              have c2 : (cs.size : Int) = 4 := by omega
              cases hp with
              | true =>
                have HE : Hid (st = (0, 0, 4)) := Lib.hid (by
                  rw [← HST.out, HR.out]
                  exact HYES.out ⟨k, hlt, by rw [← HSZ.out]; exact hc4, HHP.out.1 rfl⟩)
                clear hc4
                go_wp2_with fail
                refine (HPF.out _).mono ?_
                rintro e w4 ⟨rfl, rfl⟩
                go_wp2
                go_ret3
                exact ⟨ret_sv HE.out, HBR.out.trans (HB3.out.mono hsz)⟩
              | false =>
                have HNX : Hid (∀ j, j < k + 1 → (chL j).length = 4 → ¬ (92 :: 120 :: r) <+: chL j) := Lib.hid fun j hj h5 h6 => by
                  rcases Nat.lt_or_ge j k with h7 | h7
                  · exact HA.out j h7 h5 h6
                  · have : j = k := by omega
                    subst this
                    have := HHP.out.2 h6; cases this
                clear hc4
                go_wp2_with fail
                refine (HPF.out _).mono ?_
                rintro e w4 ⟨rfl, rfl⟩
                go_wp2
                go_roundw
                case rel => exact ⟨k + 1, by omega, by go_num, HNX.out, HB3.out⟩
                case measure => simp [intOf]; omega
            · have c1 : ((cs.size : Int) == 4) = false := by simp; omega
              have HNX : Hid (∀ j, j < k + 1 → (chL j).length = 4 → ¬ (92 :: 120 :: r) <+: chL j) := Lib.hid fun j hj h5 h6 => by
                rcases Nat.lt_or_ge j k with h7 | h7
                · exact HA.out j h7 h5 h6
                · have : j = k := by omega
                  subst this
                  exact hc4 (by rw [HSZ.out]; exact h5)
              clear hc4
              go_wp2
              go_roundw
              case rel => exact ⟨k + 1, by omega, by go_num, HNX.out, HB3.out⟩
              case measure => simp [intOf]; omega
          · have hk6 : k = 256 := by omega
            subst hk6
            have HE : Hid (st = (0, 0, 3)) := Lib.hid (by
              rw [← HST.out, HR.out]
              exact HNO.out HA.out)
            go_wp2
            go_ret3
            exact ⟨ret_sv HE.out, HBR.out.trans (HBX.out.mono hsz)⟩
end Go.Proofs.YtnlpahdjiddooaaDoor
