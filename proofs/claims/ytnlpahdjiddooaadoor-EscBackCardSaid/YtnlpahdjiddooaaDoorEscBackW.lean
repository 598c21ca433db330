/- esc: the stage's theorem. -/
import Derived.Test.YtnlpahdjiddooaaDoorEscLaid
namespace Go.Proofs.YtnlpahdjiddooaaDoor
open Go.RowKit Go.PlainAid
set_option linter.unusedVariables false

theorem LS_app (a b : ByteArray) : LS (a ++ b) = LS a ++ LS b := by
  show (a ++ b).data.toList = _
  rw [ByteArray.data_append, Array.toList_append]; rfl
theorem size_app (a b : ByteArray) : (a ++ b).size = a.size + b.size := ByteArray.size_append
theorem putL_size (s : ByteArray) : (BA (putL (LS s))).size ≤ 4 * s.size + 2 := by
  rw [BA_size, ← LS_len]; exact putL_len _
set_option maxHeartbeats 4000000 in
theorem back_any (s a b : ByteArray) (c : Nat) (w : World) (hc : c < 256) (hT : TabS w) :
    Calls Tryd.prog 5 #[.string s, .string a, .string b, .int .u8 (c : Int)] w fun e w' => e = .returned (.bool true) ∧ Below w.heap.size w w' := by
  have HT := Lib.hid hT
  have HK := Lib.hid fun w hT => knows_any w hT
  by_cases hl : 300 < s.size ∨ 100 < a.size ∨ 100 < b.size
  · have HK1 := Lib.hid (HK.out w hT)
    have hl3 : (300 : Int) < (s.size : Int) ∨ (¬ (300 : Int) < (s.size : Int) ∧ (100 : Int) < (a.size : Int)) ∨ (¬ (300 : Int) < (s.size : Int) ∧ ¬ (100 : Int) < (a.size : Int) ∧ (100 : Int) < (b.size : Int)) := by omega
    clear hT hl
    rcases hl3 with h1 | ⟨h1, h2⟩ | ⟨h1, h2, h3⟩
    all_goals
      go_enter Tryd.func5, Tryd.ntmps5
      go_wp2_with fail
      refine HK1.out.mono ?_
      rintro e w2 ⟨rfl, hb2⟩
      have HB2 := Lib.hid hb2
      clear hb2
      go_wp2
      go_ret
      exact ⟨rfl, HB2.out⟩
  have h1 : s.size ≤ 300 := by omega
  have h2 : a.size ≤ 100 := by omega
  have h3 : b.size ≤ 100 := by omega
  have z1 : ¬ (300 : Int) < (s.size : Int) := by omega
  have z2 : ¬ (100 : Int) < (a.size : Int) := by omega
  have z3 : ¬ (100 : Int) < (b.size : Int) := by omega
  clear hl
  have hq := putL_size s
  have hp := put_any s w (by omega) hT
  obtain ⟨qs, hqs⟩ : ∃ x, BA (putL (LS s)) = x := ⟨_, rfl⟩
  rw [hqs] at hq hp
  have hq2 : qs.size ≤ 1300 := by omega
  have HQS : Hid (LS qs = putL (LS s)) := Lib.hid (by rw [← hqs]; rfl)
  have HP := Lib.hid hp
  have hsz1 : (a ++ qs).size = a.size + qs.size := size_app a qs
  have hsz2 : (a ++ qs ++ b).size = a.size + qs.size + b.size := by rw [size_app, size_app]
  have HTA : Hid (∀ w, TabS w → Calls Tryd.prog 11 #[.string (a ++ qs ++ b), .int .i64 (a.size : Int)] w fun e w' => e = .returned (.tuple #[.string s, .int .i64 ((a.size : Int) + (qs.size : Int)), .int .i64 0]) ∧ Below w.heap.size w w') := Lib.hid fun w hT => by
    have h := take_any (a ++ qs ++ b) (a.size : Int) w (by rw [hsz2]; omega) hT
    have e : takeR (LS (a ++ qs ++ b)) (a.size : Int) = (LS s, (a.size : Int) + (qs.size : Int), 0) := by
      rw [LS_app, LS_app, HQS.out, ← LS_len a, take_put, ← HQS.out]
      simp only [LS_len]
    rw [e] at h
    exact h
  have HTB := Lib.hid fun w hT => take_any b 0 w (by omega) hT
  obtain ⟨tr, htr⟩ : ∃ x, takeR (LS b) 0 = x := ⟨_, rfl⟩
  rw [htr] at HTB
  obtain ⟨ol, n, f⟩ := tr
  have HTR := Lib.hid htr
  unfold tv at HTB
  dsimp only at HTB
  clear htr hqs hq hp hT
  generalize ho : BA ol = o at HTB
  have HO := Lib.hid ho
  clear ho
  have HS1 := Lib.hid hsz1
  have HS2 := Lib.hid hsz2
  have hb1 : (a ++ qs).size ≤ 1400 := by omega
  have hb2 : (a ++ qs ++ b).size ≤ 1500 := by omega
  clear hsz1 hsz2
  go_enter Tryd.func5, Tryd.ntmps5
  go_wp2_with fail
  refine HP.out.mono ?_
  rintro e w2 ⟨rfl, hb2⟩
  have HB2 := Lib.hid hb2
  clear hb2
  go_wp2_with fail
  refine (HTA.out _ (HT.out.below HB2.out)).mono ?_
  rintro e w3 ⟨rfl, hb3⟩
  have HB3 := Lib.hid (HB2.out.trans (hb3.mono HB2.out.size))
  clear hb3
  go_wp2_with fail
  refine (HTB.out _ (HT.out.below HB3.out)).mono ?_
  rintro e w4 ⟨rfl, hb4⟩
  have HB4a := Lib.hid (HB3.out.trans (hb4.mono HB3.out.size))
  clear hb4
  by_cases hf : f = 0
  · subst hf
    obtain ⟨k, rfl, hk2, hkb, hput⟩ := take_from HTR.out
    rw [LS_len] at hkb
    have HOL : Hid (LS o = ol) := Lib.hid (by rw [← HO.out]; rfl)
    have ho2 : o.size ≤ 100 := by
      have h5 := flat_len ol
      have h6 := congrArg List.length hput
      rw [List.length_take, LS_len] at h6
      have h7 : (putL ol).length = (flatC ol).length + 2 := by simp [putL]
      rw [← LS_len, HOL.out]
      omega
    obtain ⟨xs, hxs⟩ : ∃ x, BA (putL (LS o)) = x := ⟨_, rfl⟩
    obtain ⟨bs, hbs⟩ : ∃ x, b.extract 0 k = x := ⟨_, rfl⟩
    have HBS := Lib.hid hbs
    have HXB : Hid (xs = bs) := Lib.hid (by
      rw [← hxs, ← hbs, HOL.out, hput]
      have : LS (b.extract 0 k) = (LS b).take k := by rw [LS_ext]; simp
      rw [← this]; exact BA_LS _)
    have HNE : Hid ((xs.toList == bs.toList) = true) := Lib.hid (by rw [HXB.out]; exact beq_self_eq_true _)
    have HPX : Hid (∀ X, Onto w4.drew X → Calls Tryd.prog 9 #[.string o] X fun e w' => e = .returned (.string xs) ∧ Below X.heap.size X w') := Lib.hid fun X hX => by
      rw [← hxs]
      exact put_any o X (by omega) (HT.out.below (HB4a.out.trans ((onto_drew hX).mono HB4a.out.size)))
    have g1 : ¬ (k : Int) < 2 := by omega
    have g2 : ¬ (b.size : Int) < (k : Int) := by omega
    have g3 : (0 : Int) ≤ (k : Int) := by omega
    have g4 : (k : Int) ≤ (b.size : Int) := by omega
    obtain ⟨n, hn⟩ : ∃ n, k = n := ⟨_, rfl⟩
    rw [hn] at g1 g2 g3 g4 HBS ⊢
    clear hput hxs hbs hn hk2 hkb
    go_wp2
    refine wp_region_fam_lit (E := Onto)
      [isV (.int .i64 0),
       isV (.bool true),
       isV (.bool true),
       isV (.int .i64 (n : Int)),
       isV (.bool false),
       isV (.bool false),
       isV (.int .i64 (n : Int)),
       isV (.string b),
       isV (.int .i64 (b.size : Int)),
       isV (.bool false),
       isV (.bool false),
       isV (.bool false),
       isV (.string o),
       isV (.string xs),
       isV (.string b),
       isV (.int .i64 (n : Int)),
       isV (.string bs),
       isV (.bool false),
       isV (.bool false),
       isV (.bool false)]
      [some 69, some 70, some 71, some 72, some 73, some 74, some 75, some 76, some 77, some 78, some 79, some 80, some 81, some 82, some 83, some 84, some 85, some 86, some 87, some 88] (by kernel_rfl) rfl (by kernel_rfl) rfl Onto.trans Onto.refl ?monoE ?obE ?qE
    case monoE => exact ⟨isV_mono _ _, isV_mono _ _, isV_mono _ _, isV_mono _ _, isV_mono _ _, isV_mono _ _, isV_mono _ _, isV_mono _ _, isV_mono _ _, isV_mono _ _, isV_mono _ _, isV_mono _ _, isV_mono _ _, isV_mono _ _, isV_mono _ _, isV_mono _ _, isV_mono _ _, isV_mono _ _, isV_mono _ _, isV_mono _ _, trivial⟩
    case obE =>
      refine Obs.cons (j := 1) rfl ?_ ?_
      · refine Ob.free [(15, none)] (by kernel_rfl) (isV (.int .i64 0)) rfl rfl (fun a X hE hL => ?_)
        simp [Seen, slotAt] at hL
        have h15 := hL
        rw [relAt_eq]
        go_simp
        exact ⟨Onto.refl _, rfl⟩
      refine Obs.cons (j := 2) rfl ?_ ?_
      · refine Ob.free [(69, some 0)] (by kernel_rfl) (isV (.bool true)) rfl rfl (fun a X hE hL => ?_)
        simp [Seen, slotAt, famV, isV] at hL
        have h69 := hL
        rw [relAt_eq]
        go_simp
        exact ⟨Onto.refl _, rfl⟩
      refine Obs.cons (j := 3) rfl ?_ ?_
      · refine Ob.free [(70, some 1)] (by kernel_rfl) (isV (.bool true)) rfl rfl (fun a X hE hL => ?_)
        simp [Seen, slotAt, famV, isV] at hL
        have h70 := hL
        rw [relAt_eq]
        go_simp
        exact ⟨Onto.refl _, rfl⟩
      refine Obs.cons (j := 4) rfl ?_ ?_
      · refine Ob.guarded [(14, none), (71, some 2)] (by kernel_rfl) (isV (.int .i64 (n : Int))) rfl 2 true 71 rfl rfl (fun a X hE hL => ?_)
        simp [Seen, slotAt, famV, isV] at hL
        obtain ⟨h14, h71⟩ := hL
        refine ⟨by simpa using h71, ?_⟩
        clear h71
        rw [relAt_eq]
        go_simp
        exact ⟨Onto.refl _, rfl⟩
      refine Obs.cons (j := 5) rfl ?_ ?_
      · refine Ob.guarded [(72, some 3), (71, some 2)] (by kernel_rfl) (isV (.bool false)) rfl 2 true 71 rfl rfl (fun a X hE hL => ?_)
        simp [Seen, slotAt, famV, isV] at hL
        obtain ⟨h72, h71⟩ := hL
        refine ⟨by simpa using h71, ?_⟩
        clear h71
        rw [relAt_eq]
        go_simp
        exact ⟨Onto.refl _, congrArg Value.bool (decide_eq_false (by omega))⟩
      refine Obs.cons (j := 6) rfl ?_ ?_
      · refine Ob.guarded [(73, some 4), (71, some 2)] (by kernel_rfl) (isV (.bool false)) rfl 2 true 71 rfl rfl (fun a X hE hL => ?_)
        simp [Seen, slotAt, famV, isV] at hL
        obtain ⟨h73, h71⟩ := hL
        refine ⟨by simpa using h71, ?_⟩
        clear h71
        rw [relAt_eq]
        go_simp
        exact ⟨Onto.refl _, rfl⟩
      refine Obs.cons (j := 7) rfl ?_ ?_
      · refine Ob.guarded [(14, none), (74, some 5)] (by kernel_rfl) (isV (.int .i64 (n : Int))) rfl 5 false 74 rfl rfl (fun a X hE hL => ?_)
        simp [Seen, slotAt, famV, isV] at hL
        obtain ⟨h14, h74⟩ := hL
        refine ⟨by simpa using h74, ?_⟩
        clear h74
        rw [relAt_eq]
        go_simp
        exact ⟨Onto.refl _, rfl⟩
      refine Obs.cons (j := 8) rfl ?_ ?_
      · refine Ob.guarded [(2, none), (74, some 5)] (by kernel_rfl) (isV (.string b)) rfl 5 false 74 rfl rfl (fun a X hE hL => ?_)
        simp [Seen, slotAt, famV, isV] at hL
        obtain ⟨h2, h74⟩ := hL
        refine ⟨by simpa using h74, ?_⟩
        clear h74
        rw [relAt_eq]
        go_simp
        exact ⟨Onto.refl _, rfl⟩
      refine Obs.cons (j := 9) rfl ?_ ?_
      · refine Ob.guarded [(76, some 7), (74, some 5)] (by kernel_rfl) (isV (.int .i64 (b.size : Int))) rfl 5 false 74 rfl rfl (fun a X hE hL => ?_)
        simp [Seen, slotAt, famV, isV] at hL
        obtain ⟨h76, h74⟩ := hL
        refine ⟨by simpa using h74, ?_⟩
        clear h74
        rw [relAt_eq]
        go_simp
        exact ⟨Onto.refl _, rfl⟩
      refine Obs.cons (j := 10) rfl ?_ ?_
      · refine Ob.guarded [(75, some 6), (77, some 8), (74, some 5)] (by kernel_rfl) (isV (.bool false)) rfl 5 false 74 rfl rfl (fun a X hE hL => ?_)
        simp [Seen, slotAt, famV, isV] at hL
        obtain ⟨h75, h77, h74⟩ := hL
        refine ⟨by simpa using h74, ?_⟩
        clear h74
        rw [relAt_eq]
        go_simp
        exact ⟨Onto.refl _, congrArg Value.bool (decide_eq_false (by omega))⟩
      refine Obs.cons (j := 11) rfl ?_ ?_
      · refine Ob.guarded [(74, some 5), (78, some 9), (71, some 2)] (by kernel_rfl) (isV (.bool false)) rfl 2 true 71 rfl rfl (fun a X hE hL => ?_)
        simp [Seen, slotAt, famV, isV] at hL
        obtain ⟨h74, h78, h71⟩ := hL
        refine ⟨by simpa using h71, ?_⟩
        clear h71
        rw [relAt_eq]
        go_simp
        exact ⟨Onto.refl _, rfl⟩
      refine Obs.cons (j := 12) rfl ?_ ?_
      · refine Ob.guarded [(79, some 10), (71, some 2)] (by kernel_rfl) (isV (.bool false)) rfl 2 true 71 rfl rfl (fun a X hE hL => ?_)
        simp [Seen, slotAt, famV, isV] at hL
        obtain ⟨h79, h71⟩ := hL
        refine ⟨by simpa using h71, ?_⟩
        clear h71
        rw [relAt_eq]
        go_simp
        exact ⟨Onto.refl _, rfl⟩
      refine Obs.cons (j := 13) rfl ?_ ?_
      · refine Ob.guarded [(13, none), (80, some 11)] (by kernel_rfl) (isV (.string o)) rfl 11 false 80 rfl rfl (fun a X hE hL => ?_)
        simp [Seen, slotAt, famV, isV] at hL
        obtain ⟨h13, h80⟩ := hL
        refine ⟨by simpa using h80, ?_⟩
        clear h80
        rw [relAt_eq]
        go_simp
        exact ⟨Onto.refl _, rfl⟩
      refine Obs.cons (j := 14) rfl ?_ ?_
      · refine Ob.guarded [(81, some 12), (80, some 11)] (by kernel_rfl) (isV (.string xs)) rfl 11 false 80 rfl rfl (fun a X hE hL => ?_)
        simp [Seen, slotAt, famV, isV] at hL
        obtain ⟨h81, h80⟩ := hL
        refine ⟨by simpa using h80, ?_⟩
        clear h80
        rw [relAt_eq]
        go_simp
        rw [relUpon_enter]
        go_at_call 9
        refine (HPX.out X hE).mono ?_
        rintro e Y ⟨rfl, hY⟩
        exact ⟨_, rfl, hY, rfl⟩
      refine Obs.cons (j := 15) rfl ?_ ?_
      · refine Ob.guarded [(2, none), (80, some 11)] (by kernel_rfl) (isV (.string b)) rfl 11 false 80 rfl rfl (fun a X hE hL => ?_)
        simp [Seen, slotAt, famV, isV] at hL
        obtain ⟨h2, h80⟩ := hL
        refine ⟨by simpa using h80, ?_⟩
        clear h80
        rw [relAt_eq]
        go_simp
        exact ⟨Onto.refl _, rfl⟩
      refine Obs.cons (j := 16) rfl ?_ ?_
      · refine Ob.guarded [(14, none), (80, some 11)] (by kernel_rfl) (isV (.int .i64 (n : Int))) rfl 11 false 80 rfl rfl (fun a X hE hL => ?_)
        simp [Seen, slotAt, famV, isV] at hL
        obtain ⟨h14, h80⟩ := hL
        refine ⟨by simpa using h80, ?_⟩
        clear h80
        rw [relAt_eq]
        go_simp
        exact ⟨Onto.refl _, rfl⟩
      refine Obs.cons (j := 17) rfl ?_ ?_
      · refine Ob.guarded [(83, some 14), (84, some 15), (80, some 11)] (by kernel_rfl) (isV (.string bs)) rfl 11 false 80 rfl rfl (fun a X hE hL => ?_)
        simp [Seen, slotAt, famV, isV] at hL
        obtain ⟨h83, h84, h80⟩ := hL
        refine ⟨by simpa using h80, ?_⟩
        clear h80
        rw [relAt_eq]
        go_simp
        exact ⟨Onto.refl _, congrArg Value.string HBS.out⟩
      refine Obs.cons (j := 18) rfl ?_ ?_
      · refine Ob.guarded [(82, some 13), (85, some 16), (80, some 11)] (by kernel_rfl) (isV (.bool false)) rfl 11 false 80 rfl rfl (fun a X hE hL => ?_)
        simp [Seen, slotAt, famV, isV] at hL
        obtain ⟨h82, h85, h80⟩ := hL
        refine ⟨by simpa using h80, ?_⟩
        clear h80
        rw [relAt_eq]
        have hq := HNE.out
        go_simp
        exact ⟨Onto.refl _, rfl⟩
      refine Obs.cons (j := 19) rfl ?_ ?_
      · refine Ob.guarded [(80, some 11), (86, some 17), (71, some 2)] (by kernel_rfl) (isV (.bool false)) rfl 2 true 71 rfl rfl (fun a X hE hL => ?_)
        simp [Seen, slotAt, famV, isV] at hL
        obtain ⟨h80, h86, h71⟩ := hL
        refine ⟨by simpa using h71, ?_⟩
        clear h71
        rw [relAt_eq]
        go_simp
        exact ⟨Onto.refl _, rfl⟩
      refine Obs.cons (j := 20) rfl ?_ ?_
      · refine Ob.free [(71, some 2), (87, some 18)] (by kernel_rfl) (isV (.bool false)) rfl rfl (fun a X hE hL => ?_)
        simp [Seen, slotAt, famV, isV] at hL
        obtain ⟨h71, h87⟩ := hL
        rw [relAt_eq]
        go_simp
        exact ⟨Onto.refl _, rfl⟩
      exact trivial
    case qE =>
      intro x wq hE hV
      simp [AllV, famV, isV] at hV
      obtain ⟨-, -, -, -, -, -, -, -, -, -, -, -, -, -, -, -, -, -, -, h88⟩ := hV
      simp only [puts, Act.put, List.setIfInBounds_toArray, List.set_cons_zero, List.set_cons_succ, h88]
      generalize x 69 = y69
      generalize x 70 = y70
      generalize x 71 = y71
      generalize x 72 = y72
      generalize x 73 = y73
      generalize x 74 = y74
      generalize x 75 = y75
      generalize x 76 = y76
      generalize x 77 = y77
      generalize x 78 = y78
      generalize x 79 = y79
      generalize x 80 = y80
      generalize x 81 = y81
      generalize x 82 = y82
      generalize x 83 = y83
      generalize x 84 = y84
      generalize x 85 = y85
      generalize x 86 = y86
      generalize x 87 = y87
      clear h88
      have HB4 := Lib.hid (HB4a.out.trans ((onto_drew hE).mono HB4a.out.size))
      clear hE
      by_cases hk : 1 + (c : Int) < (qs.size : Int)
      · have HGT : Hid (∀ w, TabS w → Calls Tryd.prog 13 #[.string (qs.extract 0 (1 + c))] w fun e w' => e = .returned (.tuple #[.string ⟨#[]⟩, .int .i64 4]) ∧ Below w.heap.size w w') := Lib.hid fun w hT => by
          have h := get_any (qs.extract 0 (1 + c)) w (by rw [← LS_len, LS_ext]; simp only [List.length_take, List.length_drop, LS_len]; omega) hT
          have e : getR (LS (qs.extract 0 (1 + c))) = ([], 4) := by
            rw [LS_ext, HQS.out, List.drop_zero, Nat.sub_zero]
            exact get_cut (by omega) (by rw [← HQS.out, LS_len]; omega)
          rw [e] at h
          exact h
        go_wp2_with fail
        refine (HGT.out _ (HT.out.below HB4.out)).mono ?_
        rintro e w5 ⟨rfl, hb5⟩
        have HB5 := Lib.hid (HB4.out.trans (hb5.mono HB4.out.size))
        clear hb5 hk
        go_wp2_with fail
        refine (HK.out _ (HT.out.below HB5.out)).mono ?_
        rintro e w6 ⟨rfl, hb6⟩
        have HB6 := Lib.hid (HB5.out.trans (hb6.mono HB5.out.size))
        clear hb6
        go_wp2
        go_ret
        exact ⟨rfl, HB6.out⟩
      · go_wp2_with fail
        refine (HK.out _ (HT.out.below HB4.out)).mono ?_
        rintro e w6 ⟨rfl, hb6⟩
        have HB6 := Lib.hid (HB4.out.trans (hb6.mono HB4.out.size))
        clear hb6
        go_wp2
        go_ret
        exact ⟨rfl, HB6.out⟩
  · have q1 : ((f : Int) == 0) = false := by simp; omega
    clear hf
    go_wp2
    go_quiet (fail)
    have HB4 := Lib.hid (HB4a.out.trans ((below_drewN _ nq).mono HB4a.out.size))
    by_cases hk : 1 + (c : Int) < (qs.size : Int)
    · have HGT : Hid (∀ w, TabS w → Calls Tryd.prog 13 #[.string (qs.extract 0 (1 + c))] w fun e w' => e = .returned (.tuple #[.string ⟨#[]⟩, .int .i64 4]) ∧ Below w.heap.size w w') := Lib.hid fun w hT => by
        have h := get_any (qs.extract 0 (1 + c)) w (by rw [← LS_len, LS_ext]; simp only [List.length_take, List.length_drop, LS_len]; omega) hT
        have e : getR (LS (qs.extract 0 (1 + c))) = ([], 4) := by
          rw [LS_ext, HQS.out, List.drop_zero, Nat.sub_zero]
          exact get_cut (by omega) (by rw [← HQS.out, LS_len]; omega)
        rw [e] at h
        exact h
      go_wp2_with fail
      refine (HGT.out _ (HT.out.below HB4.out)).mono ?_
      rintro e w5 ⟨rfl, hb5⟩
      have HB5 := Lib.hid (HB4.out.trans (hb5.mono HB4.out.size))
      clear hb5 hk
      go_wp2_with fail
      refine (HK.out _ (HT.out.below HB5.out)).mono ?_
      rintro e w6 ⟨rfl, hb6⟩
      have HB6 := Lib.hid (HB5.out.trans (hb6.mono HB5.out.size))
      clear hb6
      go_wp2
      go_ret
      exact ⟨rfl, HB6.out⟩
    · go_wp2_with fail
      refine (HK.out _ (HT.out.below HB4.out)).mono ?_
      rintro e w6 ⟨rfl, hb6⟩
      have HB6 := Lib.hid (HB4.out.trans (hb6.mono HB4.out.size))
      clear hb6
      go_wp2
      go_ret
      exact ⟨rfl, HB6.out⟩
theorem back_walk (s a b : ByteArray) (c : Int) (w : World) (_ : s.size ≤ maxLen) (_ : a.size ≤ maxLen) (_ : b.size ≤ maxLen) (hb : (Lit.int .u8 c).wf = true) (hT : TabS w) :
    Calls Tryd.prog 5 #[.string s, .string a, .string b, .int .u8 c] w fun e w' => e = .returned (.bool true) ∧ Below w.heap.size w w' := by
  obtain ⟨n, rfl, hn⟩ := u8_nat' c hb
  exact back_any s a b n w hn hT
end Go.Proofs.YtnlpahdjiddooaaDoor
