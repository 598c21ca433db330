import Derived.Test.YtglagipkpdbhcaaKPartsLaw
namespace Go.Proofs.Ytglagipkpdbhcaa
open Go.RowKit Go.Sort

attribute [local go_sem ↓] loadA_eq storeA_eq eqA_eq eqA_eq'
set_option maxHeartbeats 2000000 in
set_option maxRecDepth 100000 in
theorem kindParts_any (ls : List (Nat → Bool)) (a : Option Addr) (len cap : Nat) (w : World) (h : SRow w a len ls) :
    Calls Try.prog 3 #[.slice a len cap] w fun e w' => e = .returned (.bool true) ∧ Below w.heap.size w w' := by
  have hal := run_zero_arr
  have hbu := run_build_arr
  have hl2 := h.2.1
  have Hl := Lib.hid h.1
  have HK := Lib.hid fun w' => knows_any w'
  by_cases h40 : (40 : Int) < len
  · go_enter Try.func3, Try.ntmps3
    go_wp2_with (first
      | (go_at_call 7; (with_reducible refine (HK.out _).mono ?_); rintro e w1 ⟨rfl, hb1⟩))
    go_ret
    exact ⟨rfl, hb1⟩
  · have HZ := Lib.hid (ArrAt.new w zeroC)
    go_enter Try.func3, Try.ntmps3
    go_wp2_with (first
      | ((with_reducible refine wpList_store_arr rfl _ _ rfl w.heap.size zeroC zeroC ?_ ?_ HZ.out ?_); rfl; rfl; intro w2 hR2 hB2 hO2 hS2; have hb0 : Below w.heap.size w w2 := ((Below.refl _ _).alloc (Nat.le_refl _) _).trans (hB2 _ (Nat.le_refl _)); have hs0 : w.heap.size < w2.heap.size := by rw [hS2]; simp
         have HR2 := Lib.hid hR2; clear hR2 hB2 hO2 hS2))
    go_loopw [4] (fun i wr => ∃ k : Nat, k ≤ len ∧ i = .int .i64 k ∧ ArrAt wr w.heap.size (clsL (ls.take k)) ∧ Below w.heap.size w wr ∧ w.heap.size < wr.heap.size) (fun i _ => len - (intOf i).toNat)
    case atStart =>
      refine ⟨0, by omega, rfl, HR2.out.congr fun i _ => (clsL_nil i).symm, hb0, hs0⟩
    case round =>
      obtain ⟨k, hk, rfl, hA, hb, hl⟩ := hrel
      by_cases hlt : k < len
      · obtain ⟨b, off, S, rfl, hbl, hS, c0, c1, c2, c3⟩ := (h.below hb).at_ hlt
        have hsp := fun w' => split_any (clsL (ls.take k)) S w'
        unfold setV at hsp
        have HSP := Lib.hid hsp
        have HC : Hid (ls.take (k + 1) = ls.take k ++ [S]) := by show _ = _; rw [List.take_add_one, hS]; rfl
        have HA := Lib.hid hA
        have HB := Lib.hid hb
        have HL := Lib.hid hl
        have hW1 := width_ge (ls.take k) S
        have hW2 := width_le2 (ls.take k) S
        have hW3 := width_256 (ls.take k)
        have hw1 := fun w' => width_any (clsL (ls.take k)) (clsL_lt _) w'
        have hw2 := fun w' => width_any (cls (pairC (clsL (ls.take k)) S)) (fun i hi => by have := cls_le_self (pairC (clsL (ls.take k)) S) i; omega) w'
        generalize widthC (clsL (ls.take k)) 256 = m1 at hW1 hW2 hW3 hw1
        generalize widthC (cls (pairC (clsL (ls.take k)) S)) 256 = m2 at hW1 hW2 hw2
        have HW1 := Lib.hid hw1
        have HW2 := Lib.hid hw2
        have hld0 := run_loadA wr.drew _ _ (show ArrAt wr.drew _ _ from hA)
        have hld := run_loadA (wr.alloc (.cells (arrC zeroC) 24)).drew _ _ (show ArrAt (wr.alloc (.cells (arrC zeroC) 24)).drew _ _ from hA.alloc _)
        clear hsp hS hA hb hw1 hw2 hl
        have i1 : (m1 : Int) ≤ (m2 : Int) := by omega
        have i2 : (m2 : Int) ≤ 2 * (m1 : Int) := by omega
        have i3 : IntKind.i64.wrap (2 * (m1 : Int)) = 2 * (m1 : Int) := by first | (unfold IntKind.wrap; simp [IntKind.signed, IntKind.bits]; omega) | (simp [IntKind.wrap]; omega) | (simp [IntKind.wrap, IntKind.min, IntKind.max]; omega) | (unfold IntKind.wrap; split <;> simp_all <;> omega)
        clear hW1 hW2 hW3
        generalize (m1 : Int) = z1 at HW1 i1 i2 i3
        generalize (m2 : Int) = z2 at HW2 i1 i2
        go_wp2_with fail
        go_region_with (first
          | (go_at_call 8; (with_reducible refine (HSP.out (wr.alloc (.cells (arrC zeroC) 24)).drew).mono ?_); rintro e w1 ⟨rfl, hb1⟩; have hsz1 := hb1.size; have hN := (show ArrAt (wr.alloc (.cells (arrC zeroC) 24)).drew wr.heap.size zeroC from ArrAt.new wr zeroC).below hb1 (by simp); have hO := (show ArrAt (wr.alloc (.cells (arrC zeroC) 24)).drew _ _ from HA.out.alloc _).below hb1 (by have := HL.out; simp; omega); have hst1 := run_storeA w1 wr.heap.size zeroC (cls (pairC (clsL (ls.take k)) S)) hN)
          | (go_at_call 8; (with_reducible refine (HSP.out wr.drew).mono ?_); rintro e w1 ⟨rfl, hb1⟩; have hsz1 := hb1.size; have hN := ArrAt.new w1 zeroC; have hO := ((show ArrAt wr.drew _ _ from HA.out).below hb1 HL.out); have hst1 := run_storeA (w1.alloc (.cells (arrC zeroC) 24)) w1.heap.size zeroC (cls (pairC (clsL (ls.take k)) S)) hN))
        all_goals
          clear c0 c1 c2 c3 hld hld0 hst1 hbl
          have hl0 := HL.out
          first
            | (have hX : ArrAt ((w1.alloc (.cells (arrC zeroC) 24)).setRow w1.heap.size (arrC (cls (pairC (clsL (ls.take k)) S)))) w1.heap.size (cls (pairC (clsL (ls.take k)) S)) := hN.row
               have hY : ArrAt ((w1.alloc (.cells (arrC zeroC) 24)).setRow w1.heap.size (arrC (cls (pairC (clsL (ls.take k)) S)))) w.heap.size _ := (hO.alloc (.cells (arrC zeroC) 24)).row_other (by have : wr.heap.size ≤ w1.heap.size := hsz1; omega) (arrC (cls (pairC (clsL (ls.take k)) S)))
               have hBX : Below w.heap.size w ((w1.alloc (.cells (arrC zeroC) 24)).setRow w1.heap.size (arrC (cls (pairC (clsL (ls.take k)) S)))) := below_setRow' ((HB.out.drew.trans (hb1.mono (by show w.heap.size ≤ wr.heap.size; omega))).alloc (by have : wr.heap.size ≤ w1.heap.size := hsz1; omega) _) (by have : wr.heap.size ≤ w1.heap.size := hsz1; omega) _
               have hg1 : w.heap.size < w1.heap.size := by have : wr.heap.size ≤ w1.heap.size := hsz1; omega
               have hg2 : w1.heap.size < ((w1.alloc (.cells (arrC zeroC) 24)).setRow w1.heap.size (arrC (cls (pairC (clsL (ls.take k)) S)))).heap.size := by simp
               generalize (w1.alloc (.cells (arrC zeroC) 24)).setRow w1.heap.size (arrC (cls (pairC (clsL (ls.take k)) S))) = X at hX hY hBX hg2 ⊢
               clear hN hO hb1 hsz1
               generalize w1.heap.size = g at hX hg1 hg2 ⊢)
            | (have hX : ArrAt (w1.setRow wr.heap.size (arrC (cls (pairC (clsL (ls.take k)) S)))) wr.heap.size (cls (pairC (clsL (ls.take k)) S)) := hN.row
               have hY : ArrAt (w1.setRow wr.heap.size (arrC (cls (pairC (clsL (ls.take k)) S)))) w.heap.size _ := hO.row_other (by omega) (arrC (cls (pairC (clsL (ls.take k)) S)))
               have hBX : Below w.heap.size w (w1.setRow wr.heap.size (arrC (cls (pairC (clsL (ls.take k)) S)))) := below_setRow' ((HB.out.alloc HB.out.size (.cells (arrC zeroC) 24)).drew.trans (hb1.mono (by simp; omega))) (by omega) _
               have hg1 : w.heap.size < wr.heap.size := hl0
               have hg2 : wr.heap.size < (w1.setRow wr.heap.size (arrC (cls (pairC (clsL (ls.take k)) S)))).heap.size := by have : (wr.alloc (.cells (arrC zeroC) 24)).heap.size ≤ w1.heap.size := hsz1; simp at this ⊢; omega
               generalize w1.setRow wr.heap.size (arrC (cls (pairC (clsL (ls.take k)) S))) = X at hX hY hBX hg2 ⊢
               clear hN hO hb1 hsz1 HA HB HL hl0
               generalize wr.heap.size = g at hX hg1 hg2 ⊢)
        all_goals
          have hl5 := fun d os => run_loadA (grow (redrawn X d) os) g _ (hX.below (below_regrown X d os) hg2)
          have hl3 := fun d os => run_loadA (grow (redrawn X d) os) w.heap.size _ (hY.below (below_regrown X d os) (by omega))
          have j1 : ¬ (z2 < z1) := by omega
          have j2 : ¬ (2 * z1 < z2) := by omega
          have j3 : decide (z2 < z1) = false := decide_eq_false j1
          have j4 : decide (2 * z1 < z2) = false := decide_eq_false j2
          go_wp2_with fail
          refine wp_region_quiet_below (by kernel_rfl) (by kernel_rfl) ?_
          repeat (go_big_quiet_step (first | (with_reducible exact regrown_call HW2.out _ _) | (with_reducible exact regrown_call HW1.out _ _)))
          refine wpQuiet_nil ?_
          intro _ hw'
          obtain ⟨⟨dq, osq⟩, hw''⟩ := hw'
          subst hw''
          have hX2 := hl5 dq osq
          have HY2 := Lib.hid (hY.below (below_regrown X dq osq) (show w.heap.size < X.heap.size by omega))
          clear hl5 hl3
          go_wp2_with (first | ((with_reducible refine wpList_store_arr rfl _ _ rfl w.heap.size (clsL (ls.take k)) (cls (pairC (clsL (ls.take k)) S)) ?_ ?_ HY2.out ?_); rfl; rfl; intro w9 hR9 hB9 hO9 hS9))
          go_roundw
          case rel =>
            refine ⟨k + 1, by omega, by go_num, ?_, (hBX.trans ((below_regrown X dq osq).mono (by omega))).trans (hB9 _ (Nat.le_refl _)), ?_⟩
            · rw [HC.out]; exact hR9.congr fun i hi => clsL_snoc _ S i hi
            · have h8 := (below_regrown X dq osq).size
              rw [hS9]; omega
          case measure => simp [intOf]; omega
      · have Hk : Hid (ls.take k = ls) := by
          show _ = _
          exact List.take_of_length_le (by rw [Hl.out]; omega)
        rw [Hk.out] at hA
        have HA := Lib.hid hA
        have HB := Lib.hid hb
        have HL := Lib.hid hl
        have HOF := Lib.hid (of_any ls a len cap wr (h.below hb))
        have HW := Lib.hid fun w' => width_any (clsL ls) (clsL_lt ls) w'
        generalize hW : widthC (clsL ls) 256 = W at *
        clear hA hb hl
        go_wp2_with (first
          | (go_at_call 10; (with_reducible refine HOF.out.mono ?_); rintro e w3 ⟨rfl, hb3⟩; have hs3 := hb3.size; have hl0 := HL.out; have HY := Lib.hid (ArrAt.new w3 zeroC); have HA3 := Lib.hid (HA.out.below hb3 HL.out); have hbb := HB.out.trans (hb3.mono HB.out.size))
          | ((with_reducible refine wpList_store_arr rfl _ _ rfl w3.heap.size zeroC (clsL ls) ?_ ?_ HY.out ?_); rfl; rfl; intro w4 hR4 hB4 hO4 hS4; have hA4 : ArrAt w4 w.heap.size (clsL ls) := (hO4 _ (by omega)).trans (HA3.out.alloc _); have HA4 := Lib.hid hA4; have HR4 := Lib.hid hR4; have hs4 : w3.heap.size + 1 ≤ w4.heap.size := by rw [hS4]; simp
             have hb4 := (hbb.alloc hbb.size (.cells (arrC zeroC) 24)).trans (hB4 _ hbb.size); clear hR4 hA4 hB4 hO4 hS4; have hl3 := run_loadA w4 _ _ HA4.out; have hl5 := run_loadA w4 _ _ HR4.out; have heq := run_eqA_refl (clsL ls) (clsL_lt ls) w4; have hgd := guard_arr)
          | (go_at_call 9; (with_reducible refine (HW.out _).mono ?_); rintro e w6 ⟨rfl, hb6⟩)
          | (go_at_call 7; (with_reducible refine (HK.out _).mono ?_); rintro e w7 ⟨rfl, hb7⟩))
        go_ret
        have hb6' := hb4.trans (hb6.mono hb4.size)
        exact ⟨rfl, hb6'.trans (hb7.mono hb6'.size)⟩
end Go.Proofs.Ytglagipkpdbhcaa
