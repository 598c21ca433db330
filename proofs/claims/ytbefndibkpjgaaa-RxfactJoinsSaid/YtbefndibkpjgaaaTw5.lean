/- Several texts in one: FactW. -/
import Derived.Test.YtbefndibkpjgaaaTw4
/- rxfact: what is known of one of two parts, of two one behind the other. -/
namespace Go.Proofs.Ytbefndibkpjgaaa
open Go.RowKit
set_option linter.unusedVariables false
set_option linter.unusedSimpArgs false
attribute [local go_sem ↓] loadF_eq

theorem ret_fact {A : Array Value} {F : Fact} (h : A = factA F) : Ending.returned (.agg A) = .returned (.agg (factA F)) := by rw [h]
set_option maxRecDepth 100000 in
set_option maxHeartbeats 4000000 in
theorem alt9_any (a b : Fact) (w : World) (ha : a.lo ≤ 100000 ∧ a.hi ≤ 100000) (hb : b.lo ≤ 100000 ∧ b.hi ≤ 100000) :
    Calls Try.prog 63 #[.agg (factA a), .agg (factA b)] w fun e w' => e = .returned (.agg (factA (altF a b))) ∧ Below w.heap.size w w' := by
  obtain ⟨g, hg⟩ : ∃ g, w.heap.size = g := ⟨_, rfl⟩
  have HG := Lib.hid hg
  obtain ⟨W1, hW1, h1, h2, h3, hb1, hs1⟩ := boxesF w a b
  rw [hg] at h1 h2 h3 hb1 hs1
  have HA := Lib.hid h1
  have HB := Lib.hid h2
  have HZ := Lib.hid h3
  have HBW := Lib.hid hb1
  have HS := Lib.hid hs1
  have HW1 := Lib.hid hW1
  obtain ⟨sa, la, xa, ma, fa, ua⟩ := a
  obtain ⟨sb, lb, xb, mb, fb, ub⟩ := b
  have e0 : W1.cell? ⟨g, 0, none⟩ = some (.bool sa) := h1.cell (j := 0) rfl
  have e1 : W1.cell? ⟨g + 1, 0, none⟩ = some (.bool sb) := h2.cell (j := 0) rfl
  have hlA := run_loadF0 W1 g _ h1
  have hlB := run_loadF0 W1 (g + 1) _ h2
  have hzf : ZF = .cells #[.bool false, .int .i64 0, .int .i64 0, .bool false, .int .u64 0, .int .u64 0, .int .u64 0, .int .u64 0, .int .u64 0, .int .u64 0, .int .u64 0, .int .u64 0] 61 := rfl
  dsimp only at ha hb
  rw [hW1] at e0 e1 hlA hlB
  rw [hzf] at e0 e1 hlA hlB hW1
  clear h1 h2 h3 hb1 hs1 hzf
  go_enter Try.func63, Try.ntmps63
  cases sa with
  | false =>
    have HE : Hid (altF ⟨false, la, xa, ma, fa, ua⟩ ⟨sb, lb, xb, mb, fb, ub⟩ = ⟨sb, lb, xb, mb, fb, ub⟩) := Lib.hid rfl
    go_wp2_with (refine wpList_store_fact rfl _ _ rfl (g + 2) f0 ⟨sb, lb, xb, mb, fb, ub⟩ rfl rfl (by rw [← hW1]; exact HZ.out) ?_; intro wB hR hBB hO hS; rw [← hW1] at hBB; have HR := Lib.hid hR; have HBB := Lib.hid (hBB g (by omega)); clear hR hBB hO hS)
    refine bodyPost_ret (results_cell_row rfl _ _ (g + 2) 61 _ (0, 0) _ rfl HR.out Try.underlying61 rfl (sizeFact _)) rfl ⟨rfl, ?_⟩
    first | exact HBW.out.trans HBB.out | (rw [HG.out]; exact HBW.out.trans HBB.out)
  | true =>
    cases sb with
    | false =>
      have HE : Hid (altF ⟨true, la, xa, ma, fa, ua⟩ ⟨false, lb, xb, mb, fb, ub⟩ = ⟨true, la, xa, ma, fa, ua⟩) := Lib.hid rfl
      go_wp2_with (refine wpList_store_fact rfl _ _ rfl (g + 2) f0 ⟨true, la, xa, ma, fa, ua⟩ rfl rfl (by rw [← hW1]; exact HZ.out) ?_; intro wB hR hBB hO hS; rw [← hW1] at hBB; have HR := Lib.hid hR; have HBB := Lib.hid (hBB g (by omega)); clear hR hBB hO hS)
      refine bodyPost_ret (results_cell_row rfl _ _ (g + 2) 61 _ (0, 0) _ rfl HR.out Try.underlying61 rfl (sizeFact _)) rfl ⟨rfl, ?_⟩
      first | exact HBW.out.trans HBB.out | (rw [HG.out]; exact HBW.out.trans HBB.out)
    | true =>
      have hd1 := HA.out
      have hd2 := HB.out
      have c0 : W1.drew.cell? ⟨g, 0, none⟩ = some _ := hd1.cell (j := 0) rfl
      have c1 : W1.drew.cell? ⟨g, 1, none⟩ = some _ := hd1.cell (j := 1) rfl
      have c2 : W1.drew.cell? ⟨g, 2, none⟩ = some _ := hd1.cell (j := 2) rfl
      have c3 : W1.drew.cell? ⟨g, 3, none⟩ = some _ := hd1.cell (j := 3) rfl
      have c4 : W1.drew.cell? ⟨g, 4, none⟩ = some _ := hd1.cell (j := 4) rfl
      have c5 : W1.drew.cell? ⟨g, 5, none⟩ = some _ := hd1.cell (j := 5) rfl
      have c6 : W1.drew.cell? ⟨g, 6, none⟩ = some _ := hd1.cell (j := 6) rfl
      have c7 : W1.drew.cell? ⟨g, 7, none⟩ = some _ := hd1.cell (j := 7) rfl
      have c8 : W1.drew.cell? ⟨g, 8, none⟩ = some _ := hd1.cell (j := 8) rfl
      have c9 : W1.drew.cell? ⟨g, 9, none⟩ = some _ := hd1.cell (j := 9) rfl
      have c10 : W1.drew.cell? ⟨g, 10, none⟩ = some _ := hd1.cell (j := 10) rfl
      have c11 : W1.drew.cell? ⟨g, 11, none⟩ = some _ := hd1.cell (j := 11) rfl
      have d0 : W1.drew.cell? ⟨g + 1, 0, none⟩ = some _ := hd2.cell (j := 0) rfl
      have d1 : W1.drew.cell? ⟨g + 1, 1, none⟩ = some _ := hd2.cell (j := 1) rfl
      have d2 : W1.drew.cell? ⟨g + 1, 2, none⟩ = some _ := hd2.cell (j := 2) rfl
      have d3 : W1.drew.cell? ⟨g + 1, 3, none⟩ = some _ := hd2.cell (j := 3) rfl
      have d4 : W1.drew.cell? ⟨g + 1, 4, none⟩ = some _ := hd2.cell (j := 4) rfl
      have d5 : W1.drew.cell? ⟨g + 1, 5, none⟩ = some _ := hd2.cell (j := 5) rfl
      have d6 : W1.drew.cell? ⟨g + 1, 6, none⟩ = some _ := hd2.cell (j := 6) rfl
      have d7 : W1.drew.cell? ⟨g + 1, 7, none⟩ = some _ := hd2.cell (j := 7) rfl
      have d8 : W1.drew.cell? ⟨g + 1, 8, none⟩ = some _ := hd2.cell (j := 8) rfl
      have d9 : W1.drew.cell? ⟨g + 1, 9, none⟩ = some _ := hd2.cell (j := 9) rfl
      have d10 : W1.drew.cell? ⟨g + 1, 10, none⟩ = some _ := hd2.cell (j := 10) rfl
      have d11 : W1.drew.cell? ⟨g + 1, 11, none⟩ = some _ := hd2.cell (j := 11) rfl
      have HMN : Hid ((if lb < la then (lb : Int) else (la : Int)) = ((min la lb : Nat) : Int)) := Lib.hid (by split <;> omega)
      have HMX : Hid ((if xa < xb then (xb : Int) else (xa : Int)) = ((max xa xb : Nat) : Int)) := Lib.hid (by split <;> omega)
      clear hd1 hd2 hlA hlB
      cases ma with
      | true =>
        have HE : Hid (altF ⟨true, la, xa, true, fa, ua⟩ ⟨true, lb, xb, mb, fb, ub⟩ = ⟨true, min la lb, max xa xb, true, orS fa fb, orS ua ub⟩) := Lib.hid rfl
        go_wp2_with fail
        rw [← hW1]
        clear hW1 e0 e1
        refine wp_region_fam_tail_lit (E := Onto) 29 1
          [isV (.pointer (some ⟨g, 1, none⟩)),
           isV (.int .i64 (la : Int)),
           isV (.pointer (some ⟨g + 1, 1, none⟩)),
           isV (.int .i64 (lb : Int)),
           isV (.int .i64 ((min la lb : Nat) : Int)),
           isV (.pointer (some ⟨g, 2, none⟩)),
           isV (.int .i64 (xa : Int)),
           isV (.pointer (some ⟨g + 1, 2, none⟩)),
           isV (.int .i64 (xb : Int)),
           isV (.int .i64 ((max xa xb : Nat) : Int)),
           isV (.pointer (some ⟨g, 3, none⟩)),
           isV (.bool true),
           isV (.bool true),
           isV undef,
           isV undef,
           isV (.bool true),
           isV (.pointer (some ⟨g, 4, none⟩)),
           isV (.agg #[.int .u64 (wd fa 0), .int .u64 (wd fa 1), .int .u64 (wd fa 2), .int .u64 (wd fa 3)]),
           isV (.pointer (some ⟨g + 1, 4, none⟩)),
           isV (.agg #[.int .u64 (wd fb 0), .int .u64 (wd fb 1), .int .u64 (wd fb 2), .int .u64 (wd fb 3)]),
           slST fa fb,
           isV (.agg #[.int .u64 (wd (orS fa fb) 0), .int .u64 (wd (orS fa fb) 1), .int .u64 (wd (orS fa fb) 2), .int .u64 (wd (orS fa fb) 3)]),
           isV (.pointer (some ⟨g, 8, none⟩)),
           isV (.agg #[.int .u64 (wd ua 0), .int .u64 (wd ua 1), .int .u64 (wd ua 2), .int .u64 (wd ua 3)]),
           isV (.pointer (some ⟨g + 1, 8, none⟩)),
           isV (.agg #[.int .u64 (wd ub 0), .int .u64 (wd ub 1), .int .u64 (wd ub 2), .int .u64 (wd ub 3)]),
           slST ua ub,
           isV (.agg #[.int .u64 (wd (orS ua ub) 0), .int .u64 (wd (orS ua ub) 1), .int .u64 (wd (orS ua ub) 2), .int .u64 (wd (orS ua ub) 3)]),
           isV (.agg (factA ⟨true, min la lb, max xa xb, true, orS fa fb, orS ua ub⟩))]
          [some 15, some 16, some 17, some 18, some 19, some 20, some 21, some 22, some 23, some 24, some 25, some 26, some 27, some 28, some 29, some 30, some 31, some 32, some 33, some 34, some 35, some 36, some 37, some 38, some 39, some 40, some 41, some 42, some 43] #[true, true, true, true, true, true, true, true, true, true, true, true, true, true, true, true, true, true, true, true, true, true, true, true, true, true, true, true, true, false] (by kernel_rfl) rfl (by kernel_rfl) (by kernel_rfl) rfl rfl rfl Onto.trans Onto.refl ?monoT ?obT ?qT
        case monoT => exact ⟨isV_mono _ _, isV_mono _ _, isV_mono _ _, isV_mono _ _, isV_mono _ _, isV_mono _ _, isV_mono _ _, isV_mono _ _, isV_mono _ _, isV_mono _ _, isV_mono _ _, isV_mono _ _, isV_mono _ _, isV_mono _ _, isV_mono _ _, isV_mono _ _, isV_mono _ _, isV_mono _ _, isV_mono _ _, isV_mono _ _, slST_mono _ _, isV_mono _ _, isV_mono _ _, isV_mono _ _, isV_mono _ _, isV_mono _ _, slST_mono _ _, isV_mono _ _, isV_mono _ _, trivial⟩
        case obT =>
          refine Obs.cons (j := 1) rfl ?_ ?_
          · refine Ob.free [(2, none)] (by kernel_rfl) (isV (.pointer (some ⟨g, 1, none⟩))) rfl rfl (fun a X hE hL => ?_)
            simp [Seen, slotAt] at hL
            have h2 := hL
            rw [relAt_eq]
            go_simp
            exact ⟨Onto.refl _, rfl⟩
          refine Obs.cons (j := 2) rfl ?_ ?_
          · refine Ob.free [(15, some 0)] (by kernel_rfl) (isV (.int .i64 (la : Int))) rfl rfl (fun a X hE hL => ?_)
            simp [Seen, slotAt, famV, isV] at hL
            have h15 := hL
            rw [relAt_eq]
            have f0 := keeps hE _ _ c1
            go_simp
            exact ⟨Onto.refl _, rfl⟩
          refine Obs.cons (j := 3) rfl ?_ ?_
          · refine Ob.free [(3, none)] (by kernel_rfl) (isV (.pointer (some ⟨g + 1, 1, none⟩))) rfl rfl (fun a X hE hL => ?_)
            simp [Seen, slotAt] at hL
            have h3 := hL
            rw [relAt_eq]
            go_simp
            exact ⟨Onto.refl _, rfl⟩
          refine Obs.cons (j := 4) rfl ?_ ?_
          · refine Ob.free [(17, some 2)] (by kernel_rfl) (isV (.int .i64 (lb : Int))) rfl rfl (fun a X hE hL => ?_)
            simp [Seen, slotAt, famV, isV] at hL
            have h17 := hL
            rw [relAt_eq]
            have f0 := keeps hE _ _ d1
            go_simp
            exact ⟨Onto.refl _, rfl⟩
          refine Obs.cons (j := 5) rfl ?_ ?_
          · refine Ob.free [(16, some 1), (18, some 3)] (by kernel_rfl) (isV (.int .i64 ((min la lb : Nat) : Int))) rfl rfl (fun a X hE hL => ?_)
            simp [Seen, slotAt, famV, isV] at hL
            obtain ⟨h16, h18⟩ := hL
            rw [relAt_eq]
            go_simp
            exact ⟨Onto.refl _, congrArg (Value.int .i64) HMN.out⟩
          refine Obs.cons (j := 6) rfl ?_ ?_
          · refine Ob.free [(2, none)] (by kernel_rfl) (isV (.pointer (some ⟨g, 2, none⟩))) rfl rfl (fun a X hE hL => ?_)
            simp [Seen, slotAt] at hL
            have h2 := hL
            rw [relAt_eq]
            go_simp
            exact ⟨Onto.refl _, rfl⟩
          refine Obs.cons (j := 7) rfl ?_ ?_
          · refine Ob.free [(20, some 5)] (by kernel_rfl) (isV (.int .i64 (xa : Int))) rfl rfl (fun a X hE hL => ?_)
            simp [Seen, slotAt, famV, isV] at hL
            have h20 := hL
            rw [relAt_eq]
            have f0 := keeps hE _ _ c2
            go_simp
            exact ⟨Onto.refl _, rfl⟩
          refine Obs.cons (j := 8) rfl ?_ ?_
          · refine Ob.free [(3, none)] (by kernel_rfl) (isV (.pointer (some ⟨g + 1, 2, none⟩))) rfl rfl (fun a X hE hL => ?_)
            simp [Seen, slotAt] at hL
            have h3 := hL
            rw [relAt_eq]
            go_simp
            exact ⟨Onto.refl _, rfl⟩
          refine Obs.cons (j := 9) rfl ?_ ?_
          · refine Ob.free [(22, some 7)] (by kernel_rfl) (isV (.int .i64 (xb : Int))) rfl rfl (fun a X hE hL => ?_)
            simp [Seen, slotAt, famV, isV] at hL
            have h22 := hL
            rw [relAt_eq]
            have f0 := keeps hE _ _ d2
            go_simp
            exact ⟨Onto.refl _, rfl⟩
          refine Obs.cons (j := 10) rfl ?_ ?_
          · refine Ob.free [(21, some 6), (23, some 8)] (by kernel_rfl) (isV (.int .i64 ((max xa xb : Nat) : Int))) rfl rfl (fun a X hE hL => ?_)
            simp [Seen, slotAt, famV, isV] at hL
            obtain ⟨h21, h23⟩ := hL
            rw [relAt_eq]
            go_simp
            exact ⟨Onto.refl _, congrArg (Value.int .i64) HMX.out⟩
          refine Obs.cons (j := 11) rfl ?_ ?_
          · refine Ob.free [(2, none)] (by kernel_rfl) (isV (.pointer (some ⟨g, 3, none⟩))) rfl rfl (fun a X hE hL => ?_)
            simp [Seen, slotAt] at hL
            have h2 := hL
            rw [relAt_eq]
            go_simp
            exact ⟨Onto.refl _, rfl⟩
          refine Obs.cons (j := 12) rfl ?_ ?_
          · refine Ob.free [(25, some 10)] (by kernel_rfl) (isV (.bool true)) rfl rfl (fun a X hE hL => ?_)
            simp [Seen, slotAt, famV, isV] at hL
            have h25 := hL
            rw [relAt_eq]
            have f0 := keeps hE _ _ c3
            go_simp
            exact ⟨Onto.refl _, rfl⟩
          refine Obs.cons (j := 13) rfl ?_ ?_
          · refine Ob.free [(26, some 11)] (by kernel_rfl) (isV (.bool true)) rfl rfl (fun a X hE hL => ?_)
            simp [Seen, slotAt, famV, isV] at hL
            have h26 := hL
            rw [relAt_eq]
            go_simp
            exact ⟨Onto.refl _, rfl⟩
          refine Obs.cons (j := 14) rfl ?_ ?_
          · refine Ob.skip [(3, none), (27, some 12)] (by kernel_rfl) rfl 12 false 27 rfl rfl (fun a X hE hL => ?_)
            simp [Seen, slotAt, famV, isV] at hL
            obtain ⟨h3, h27⟩ := hL
            simpa using h27
          refine Obs.cons (j := 15) rfl ?_ ?_
          · refine Ob.skip [(28, some 13), (27, some 12)] (by kernel_rfl) rfl 12 false 27 rfl rfl (fun a X hE hL => ?_)
            simp [Seen, slotAt, famV, isV] at hL
            obtain ⟨h28, h27⟩ := hL
            simpa using h27
          refine Obs.cons (j := 16) rfl ?_ ?_
          · refine Ob.free [(27, some 12), (29, some 14)] (by kernel_rfl) (isV (.bool true)) rfl rfl (fun a X hE hL => ?_)
            simp [Seen, slotAt, famV, isV] at hL
            obtain ⟨h27, h29⟩ := hL
            rw [relAt_eq]
            go_simp
            exact ⟨Onto.refl _, rfl⟩
          refine Obs.cons (j := 17) rfl ?_ ?_
          · refine Ob.free [(2, none)] (by kernel_rfl) (isV (.pointer (some ⟨g, 4, none⟩))) rfl rfl (fun a X hE hL => ?_)
            simp [Seen, slotAt] at hL
            have h2 := hL
            rw [relAt_eq]
            go_simp
            exact ⟨Onto.refl _, rfl⟩
          refine Obs.cons (j := 18) rfl ?_ ?_
          · refine Ob.free [(31, some 16)] (by kernel_rfl) (isV (.agg #[.int .u64 (wd fa 0), .int .u64 (wd fa 1), .int .u64 (wd fa 2), .int .u64 (wd fa 3)])) rfl rfl (fun a X hE hL => ?_)
            simp [Seen, slotAt, famV, isV] at hL
            have h31 := hL
            rw [relAt_eq]
            have f0 := keeps hE _ _ c4; have f1 := keeps hE _ _ c5; have f2 := keeps hE _ _ c6; have f3 := keeps hE _ _ c7
            go_simp
            exact ⟨Onto.refl _, rfl⟩
          refine Obs.cons (j := 19) rfl ?_ ?_
          · refine Ob.free [(3, none)] (by kernel_rfl) (isV (.pointer (some ⟨g + 1, 4, none⟩))) rfl rfl (fun a X hE hL => ?_)
            simp [Seen, slotAt] at hL
            have h3 := hL
            rw [relAt_eq]
            go_simp
            exact ⟨Onto.refl _, rfl⟩
          refine Obs.cons (j := 20) rfl ?_ ?_
          · refine Ob.free [(33, some 18)] (by kernel_rfl) (isV (.agg #[.int .u64 (wd fb 0), .int .u64 (wd fb 1), .int .u64 (wd fb 2), .int .u64 (wd fb 3)])) rfl rfl (fun a X hE hL => ?_)
            simp [Seen, slotAt, famV, isV] at hL
            have h33 := hL
            rw [relAt_eq]
            have f0 := keeps hE _ _ d4; have f1 := keeps hE _ _ d5; have f2 := keeps hE _ _ d6; have f3 := keeps hE _ _ d7
            go_simp
            exact ⟨Onto.refl _, rfl⟩
          refine Obs.cons (j := 21) rfl ?_ ?_
          · refine Ob.free [(32, some 17), (34, some 19)] (by kernel_rfl) (slST fa fb) rfl rfl (fun a X hE hL => ?_)
            simp [Seen, slotAt, famV, isV] at hL
            obtain ⟨h32, h34⟩ := hL
            rw [relAt_eq]
            go_simp
            exact ⟨(Below.refl _ _).alloc (Nat.le_refl _) _, X.heap.size, rfl, srow_two _ _ _⟩
          refine Obs.cons (j := 22) rfl ?_ ?_
          · refine Ob.free [(35, some 20)] (by kernel_rfl) (isV (.agg #[.int .u64 (wd (orS fa fb) 0), .int .u64 (wd (orS fa fb) 1), .int .u64 (wd (orS fa fb) 2), .int .u64 (wd (orS fa fb) 3)])) rfl rfl (fun a X hE hL => ?_)
            simp [Seen, slotAt, famV] at hL
            have h35 := hL
            rw [relAt_eq]
            obtain ⟨k9, e9, r9⟩ := h35
            go_simp
            rw [relUpon_enter]
            go_at_call 74
            refine (all2_any _ _ X k9 r9).mono ?_
            rintro e Y ⟨rfl, hY⟩
            exact ⟨_, rfl, hY, rfl⟩
          refine Obs.cons (j := 23) rfl ?_ ?_
          · refine Ob.free [(2, none)] (by kernel_rfl) (isV (.pointer (some ⟨g, 8, none⟩))) rfl rfl (fun a X hE hL => ?_)
            simp [Seen, slotAt] at hL
            have h2 := hL
            rw [relAt_eq]
            go_simp
            exact ⟨Onto.refl _, rfl⟩
          refine Obs.cons (j := 24) rfl ?_ ?_
          · refine Ob.free [(37, some 22)] (by kernel_rfl) (isV (.agg #[.int .u64 (wd ua 0), .int .u64 (wd ua 1), .int .u64 (wd ua 2), .int .u64 (wd ua 3)])) rfl rfl (fun a X hE hL => ?_)
            simp [Seen, slotAt, famV, isV] at hL
            have h37 := hL
            rw [relAt_eq]
            have f0 := keeps hE _ _ c8; have f1 := keeps hE _ _ c9; have f2 := keeps hE _ _ c10; have f3 := keeps hE _ _ c11
            go_simp
            exact ⟨Onto.refl _, rfl⟩
          refine Obs.cons (j := 25) rfl ?_ ?_
          · refine Ob.free [(3, none)] (by kernel_rfl) (isV (.pointer (some ⟨g + 1, 8, none⟩))) rfl rfl (fun a X hE hL => ?_)
            simp [Seen, slotAt] at hL
            have h3 := hL
            rw [relAt_eq]
            go_simp
            exact ⟨Onto.refl _, rfl⟩
          refine Obs.cons (j := 26) rfl ?_ ?_
          · refine Ob.free [(39, some 24)] (by kernel_rfl) (isV (.agg #[.int .u64 (wd ub 0), .int .u64 (wd ub 1), .int .u64 (wd ub 2), .int .u64 (wd ub 3)])) rfl rfl (fun a X hE hL => ?_)
            simp [Seen, slotAt, famV, isV] at hL
            have h39 := hL
            rw [relAt_eq]
            have f0 := keeps hE _ _ d8; have f1 := keeps hE _ _ d9; have f2 := keeps hE _ _ d10; have f3 := keeps hE _ _ d11
            go_simp
            exact ⟨Onto.refl _, rfl⟩
          refine Obs.cons (j := 27) rfl ?_ ?_
          · refine Ob.free [(38, some 23), (40, some 25)] (by kernel_rfl) (slST ua ub) rfl rfl (fun a X hE hL => ?_)
            simp [Seen, slotAt, famV, isV] at hL
            obtain ⟨h38, h40⟩ := hL
            rw [relAt_eq]
            go_simp
            exact ⟨(Below.refl _ _).alloc (Nat.le_refl _) _, X.heap.size, rfl, srow_two _ _ _⟩
          refine Obs.cons (j := 28) rfl ?_ ?_
          · refine Ob.free [(41, some 26)] (by kernel_rfl) (isV (.agg #[.int .u64 (wd (orS ua ub) 0), .int .u64 (wd (orS ua ub) 1), .int .u64 (wd (orS ua ub) 2), .int .u64 (wd (orS ua ub) 3)])) rfl rfl (fun a X hE hL => ?_)
            simp [Seen, slotAt, famV] at hL
            have h41 := hL
            rw [relAt_eq]
            obtain ⟨k9, e9, r9⟩ := h41
            go_simp
            rw [relUpon_enter]
            go_at_call 74
            refine (all2_any _ _ X k9 r9).mono ?_
            rintro e Y ⟨rfl, hY⟩
            exact ⟨_, rfl, hY, rfl⟩
          refine Obs.cons (j := 29) rfl ?_ ?_
          · refine Ob.free [(19, some 4), (24, some 9), (30, some 15), (36, some 21), (42, some 27)] (by kernel_rfl) (isV (.agg (factA ⟨true, min la lb, max xa xb, true, orS fa fb, orS ua ub⟩))) rfl rfl (fun a X hE hL => ?_)
            simp [Seen, slotAt, famV, isV] at hL
            obtain ⟨h19, h24, h30, h36, h42⟩ := hL
            rw [relAt_eq]
            go_simp
            exact ⟨Onto.refl _, rfl⟩
          exact trivial
        case qT =>
          intro x wA hE hV
          simp [AllV, famV, isV] at hV
          obtain ⟨-, -, -, -, -, -, -, -, -, -, -, -, -, -, -, -, -, -, -, -, -, -, -, -, -, -, -, -, h43⟩ := hV
          simp only [puts, Act.put, List.setIfInBounds_toArray, List.set_cons_zero, List.set_cons_succ, h43]
          generalize x 15 = y15
          generalize x 16 = y16
          generalize x 17 = y17
          generalize x 18 = y18
          generalize x 19 = y19
          generalize x 20 = y20
          generalize x 21 = y21
          generalize x 22 = y22
          generalize x 23 = y23
          generalize x 24 = y24
          generalize x 25 = y25
          generalize x 26 = y26
          generalize x 27 = y27
          generalize x 28 = y28
          generalize x 29 = y29
          generalize x 30 = y30
          generalize x 31 = y31
          generalize x 32 = y32
          generalize x 33 = y33
          generalize x 34 = y34
          generalize x 35 = y35
          generalize x 36 = y36
          generalize x 37 = y37
          generalize x 38 = y38
          generalize x 39 = y39
          generalize x 40 = y40
          generalize x 41 = y41
          generalize x 42 = y42
          clear h43
          have hbA := onto_drew hE
          have HBA := Lib.hid hbA
          have HZA := Lib.hid (HZ.out.onto hbA)
          clear hE hbA
          refine wpAny_ready (rs := [29]) (by kernel_rfl) (by simp) ?_
          refine AllReady.cons rfl (fun K hK => ?_) AllReady.nil
          rw [if_pos (by rfl)]
          refine wp_store_fact _ _ rfl (g + 2) f0 ⟨true, min la lb, max xa xb, true, orS fa fb, orS ua ub⟩ rfl rfl HZA.out ?_
          intro wB hR hBB hO hS
          have HR := Lib.hid hR
          have HBB := Lib.hid (hBB g (by omega))
          clear hR hBB hO hS
          refine hK _ _ ?_
          clear hK K
          try simp only [Act.put, List.getElem_toArray, List.getElem_cons_succ, List.getElem_cons_zero, List.setIfInBounds_toArray, List.set_cons_zero, List.set_cons_succ]
          refine wpAny_done (by kernel_rfl) ?_ _
          go_wp2
          refine bodyPost_ret (results_cell_row rfl _ _ (g + 2) 61 _ (0, 0) _ rfl HR.out Try.underlying61 rfl (sizeFact _)) rfl ⟨ret_fact (by rw [HE.out]), ?_⟩
          first | exact HBW.out.trans ((HBA.out.mono (by have := HS.out; omega)).trans HBB.out) | (rw [HG.out]; exact HBW.out.trans ((HBA.out.mono (by have := HS.out; omega)).trans HBB.out))
      | false =>
        have HE : Hid (altF ⟨true, la, xa, false, fa, ua⟩ ⟨true, lb, xb, mb, fb, ub⟩ = ⟨true, min la lb, max xa xb, mb, orS fa fb, orS ua ub⟩) := Lib.hid (by simp [altF])
        go_wp2_with fail
        rw [← hW1]
        clear hW1 e0 e1
        refine wp_region_fam_tail_lit (E := Onto) 29 1
          [isV (.pointer (some ⟨g, 1, none⟩)),
           isV (.int .i64 (la : Int)),
           isV (.pointer (some ⟨g + 1, 1, none⟩)),
           isV (.int .i64 (lb : Int)),
           isV (.int .i64 ((min la lb : Nat) : Int)),
           isV (.pointer (some ⟨g, 2, none⟩)),
           isV (.int .i64 (xa : Int)),
           isV (.pointer (some ⟨g + 1, 2, none⟩)),
           isV (.int .i64 (xb : Int)),
           isV (.int .i64 ((max xa xb : Nat) : Int)),
           isV (.pointer (some ⟨g, 3, none⟩)),
           isV (.bool false),
           isV (.bool false),
           isV (.pointer (some ⟨g + 1, 3, none⟩)),
           isV (.bool mb),
           isV (.bool mb),
           isV (.pointer (some ⟨g, 4, none⟩)),
           isV (.agg #[.int .u64 (wd fa 0), .int .u64 (wd fa 1), .int .u64 (wd fa 2), .int .u64 (wd fa 3)]),
           isV (.pointer (some ⟨g + 1, 4, none⟩)),
           isV (.agg #[.int .u64 (wd fb 0), .int .u64 (wd fb 1), .int .u64 (wd fb 2), .int .u64 (wd fb 3)]),
           slST fa fb,
           isV (.agg #[.int .u64 (wd (orS fa fb) 0), .int .u64 (wd (orS fa fb) 1), .int .u64 (wd (orS fa fb) 2), .int .u64 (wd (orS fa fb) 3)]),
           isV (.pointer (some ⟨g, 8, none⟩)),
           isV (.agg #[.int .u64 (wd ua 0), .int .u64 (wd ua 1), .int .u64 (wd ua 2), .int .u64 (wd ua 3)]),
           isV (.pointer (some ⟨g + 1, 8, none⟩)),
           isV (.agg #[.int .u64 (wd ub 0), .int .u64 (wd ub 1), .int .u64 (wd ub 2), .int .u64 (wd ub 3)]),
           slST ua ub,
           isV (.agg #[.int .u64 (wd (orS ua ub) 0), .int .u64 (wd (orS ua ub) 1), .int .u64 (wd (orS ua ub) 2), .int .u64 (wd (orS ua ub) 3)]),
           isV (.agg (factA ⟨true, min la lb, max xa xb, mb, orS fa fb, orS ua ub⟩))]
          [some 15, some 16, some 17, some 18, some 19, some 20, some 21, some 22, some 23, some 24, some 25, some 26, some 27, some 28, some 29, some 30, some 31, some 32, some 33, some 34, some 35, some 36, some 37, some 38, some 39, some 40, some 41, some 42, some 43] #[true, true, true, true, true, true, true, true, true, true, true, true, true, true, true, true, true, true, true, true, true, true, true, true, true, true, true, true, true, false] (by kernel_rfl) rfl (by kernel_rfl) (by kernel_rfl) rfl rfl rfl Onto.trans Onto.refl ?monoF ?obF ?qF
        case monoF => exact ⟨isV_mono _ _, isV_mono _ _, isV_mono _ _, isV_mono _ _, isV_mono _ _, isV_mono _ _, isV_mono _ _, isV_mono _ _, isV_mono _ _, isV_mono _ _, isV_mono _ _, isV_mono _ _, isV_mono _ _, isV_mono _ _, isV_mono _ _, isV_mono _ _, isV_mono _ _, isV_mono _ _, isV_mono _ _, isV_mono _ _, slST_mono _ _, isV_mono _ _, isV_mono _ _, isV_mono _ _, isV_mono _ _, isV_mono _ _, slST_mono _ _, isV_mono _ _, isV_mono _ _, trivial⟩
        case obF =>
          refine Obs.cons (j := 1) rfl ?_ ?_
          · refine Ob.free [(2, none)] (by kernel_rfl) (isV (.pointer (some ⟨g, 1, none⟩))) rfl rfl (fun a X hE hL => ?_)
            simp [Seen, slotAt] at hL
            have h2 := hL
            rw [relAt_eq]
            go_simp
            exact ⟨Onto.refl _, rfl⟩
          refine Obs.cons (j := 2) rfl ?_ ?_
          · refine Ob.free [(15, some 0)] (by kernel_rfl) (isV (.int .i64 (la : Int))) rfl rfl (fun a X hE hL => ?_)
            simp [Seen, slotAt, famV, isV] at hL
            have h15 := hL
            rw [relAt_eq]
            have f0 := keeps hE _ _ c1
            go_simp
            exact ⟨Onto.refl _, rfl⟩
          refine Obs.cons (j := 3) rfl ?_ ?_
          · refine Ob.free [(3, none)] (by kernel_rfl) (isV (.pointer (some ⟨g + 1, 1, none⟩))) rfl rfl (fun a X hE hL => ?_)
            simp [Seen, slotAt] at hL
            have h3 := hL
            rw [relAt_eq]
            go_simp
            exact ⟨Onto.refl _, rfl⟩
          refine Obs.cons (j := 4) rfl ?_ ?_
          · refine Ob.free [(17, some 2)] (by kernel_rfl) (isV (.int .i64 (lb : Int))) rfl rfl (fun a X hE hL => ?_)
            simp [Seen, slotAt, famV, isV] at hL
            have h17 := hL
            rw [relAt_eq]
            have f0 := keeps hE _ _ d1
            go_simp
            exact ⟨Onto.refl _, rfl⟩
          refine Obs.cons (j := 5) rfl ?_ ?_
          · refine Ob.free [(16, some 1), (18, some 3)] (by kernel_rfl) (isV (.int .i64 ((min la lb : Nat) : Int))) rfl rfl (fun a X hE hL => ?_)
            simp [Seen, slotAt, famV, isV] at hL
            obtain ⟨h16, h18⟩ := hL
            rw [relAt_eq]
            go_simp
            exact ⟨Onto.refl _, congrArg (Value.int .i64) HMN.out⟩
          refine Obs.cons (j := 6) rfl ?_ ?_
          · refine Ob.free [(2, none)] (by kernel_rfl) (isV (.pointer (some ⟨g, 2, none⟩))) rfl rfl (fun a X hE hL => ?_)
            simp [Seen, slotAt] at hL
            have h2 := hL
            rw [relAt_eq]
            go_simp
            exact ⟨Onto.refl _, rfl⟩
          refine Obs.cons (j := 7) rfl ?_ ?_
          · refine Ob.free [(20, some 5)] (by kernel_rfl) (isV (.int .i64 (xa : Int))) rfl rfl (fun a X hE hL => ?_)
            simp [Seen, slotAt, famV, isV] at hL
            have h20 := hL
            rw [relAt_eq]
            have f0 := keeps hE _ _ c2
            go_simp
            exact ⟨Onto.refl _, rfl⟩
          refine Obs.cons (j := 8) rfl ?_ ?_
          · refine Ob.free [(3, none)] (by kernel_rfl) (isV (.pointer (some ⟨g + 1, 2, none⟩))) rfl rfl (fun a X hE hL => ?_)
            simp [Seen, slotAt] at hL
            have h3 := hL
            rw [relAt_eq]
            go_simp
            exact ⟨Onto.refl _, rfl⟩
          refine Obs.cons (j := 9) rfl ?_ ?_
          · refine Ob.free [(22, some 7)] (by kernel_rfl) (isV (.int .i64 (xb : Int))) rfl rfl (fun a X hE hL => ?_)
            simp [Seen, slotAt, famV, isV] at hL
            have h22 := hL
            rw [relAt_eq]
            have f0 := keeps hE _ _ d2
            go_simp
            exact ⟨Onto.refl _, rfl⟩
          refine Obs.cons (j := 10) rfl ?_ ?_
          · refine Ob.free [(21, some 6), (23, some 8)] (by kernel_rfl) (isV (.int .i64 ((max xa xb : Nat) : Int))) rfl rfl (fun a X hE hL => ?_)
            simp [Seen, slotAt, famV, isV] at hL
            obtain ⟨h21, h23⟩ := hL
            rw [relAt_eq]
            go_simp
            exact ⟨Onto.refl _, congrArg (Value.int .i64) HMX.out⟩
          refine Obs.cons (j := 11) rfl ?_ ?_
          · refine Ob.free [(2, none)] (by kernel_rfl) (isV (.pointer (some ⟨g, 3, none⟩))) rfl rfl (fun a X hE hL => ?_)
            simp [Seen, slotAt] at hL
            have h2 := hL
            rw [relAt_eq]
            go_simp
            exact ⟨Onto.refl _, rfl⟩
          refine Obs.cons (j := 12) rfl ?_ ?_
          · refine Ob.free [(25, some 10)] (by kernel_rfl) (isV (.bool false)) rfl rfl (fun a X hE hL => ?_)
            simp [Seen, slotAt, famV, isV] at hL
            have h25 := hL
            rw [relAt_eq]
            have f0 := keeps hE _ _ c3
            go_simp
            exact ⟨Onto.refl _, rfl⟩
          refine Obs.cons (j := 13) rfl ?_ ?_
          · refine Ob.free [(26, some 11)] (by kernel_rfl) (isV (.bool false)) rfl rfl (fun a X hE hL => ?_)
            simp [Seen, slotAt, famV, isV] at hL
            have h26 := hL
            rw [relAt_eq]
            go_simp
            exact ⟨Onto.refl _, rfl⟩
          refine Obs.cons (j := 14) rfl ?_ ?_
          · refine Ob.guarded [(3, none), (27, some 12)] (by kernel_rfl) (isV (.pointer (some ⟨g + 1, 3, none⟩))) rfl 12 false 27 rfl rfl (fun a X hE hL => ?_)
            simp [Seen, slotAt, famV, isV] at hL
            obtain ⟨h3, h27⟩ := hL
            refine ⟨by simpa using h27, ?_⟩
            clear h27
            rw [relAt_eq]
            go_simp
            exact ⟨Onto.refl _, rfl⟩
          refine Obs.cons (j := 15) rfl ?_ ?_
          · refine Ob.guarded [(28, some 13), (27, some 12)] (by kernel_rfl) (isV (.bool mb)) rfl 12 false 27 rfl rfl (fun a X hE hL => ?_)
            simp [Seen, slotAt, famV, isV] at hL
            obtain ⟨h28, h27⟩ := hL
            refine ⟨by simpa using h27, ?_⟩
            clear h27
            rw [relAt_eq]
            have f0 := keeps hE _ _ d3
            go_simp
            exact ⟨Onto.refl _, rfl⟩
          refine Obs.cons (j := 16) rfl ?_ ?_
          · refine Ob.free [(27, some 12), (29, some 14)] (by kernel_rfl) (isV (.bool mb)) rfl rfl (fun a X hE hL => ?_)
            simp [Seen, slotAt, famV, isV] at hL
            obtain ⟨h27, h29⟩ := hL
            rw [relAt_eq]
            go_simp
            exact ⟨Onto.refl _, rfl⟩
          refine Obs.cons (j := 17) rfl ?_ ?_
          · refine Ob.free [(2, none)] (by kernel_rfl) (isV (.pointer (some ⟨g, 4, none⟩))) rfl rfl (fun a X hE hL => ?_)
            simp [Seen, slotAt] at hL
            have h2 := hL
            rw [relAt_eq]
            go_simp
            exact ⟨Onto.refl _, rfl⟩
          refine Obs.cons (j := 18) rfl ?_ ?_
          · refine Ob.free [(31, some 16)] (by kernel_rfl) (isV (.agg #[.int .u64 (wd fa 0), .int .u64 (wd fa 1), .int .u64 (wd fa 2), .int .u64 (wd fa 3)])) rfl rfl (fun a X hE hL => ?_)
            simp [Seen, slotAt, famV, isV] at hL
            have h31 := hL
            rw [relAt_eq]
            have f0 := keeps hE _ _ c4; have f1 := keeps hE _ _ c5; have f2 := keeps hE _ _ c6; have f3 := keeps hE _ _ c7
            go_simp
            exact ⟨Onto.refl _, rfl⟩
          refine Obs.cons (j := 19) rfl ?_ ?_
          · refine Ob.free [(3, none)] (by kernel_rfl) (isV (.pointer (some ⟨g + 1, 4, none⟩))) rfl rfl (fun a X hE hL => ?_)
            simp [Seen, slotAt] at hL
            have h3 := hL
            rw [relAt_eq]
            go_simp
            exact ⟨Onto.refl _, rfl⟩
          refine Obs.cons (j := 20) rfl ?_ ?_
          · refine Ob.free [(33, some 18)] (by kernel_rfl) (isV (.agg #[.int .u64 (wd fb 0), .int .u64 (wd fb 1), .int .u64 (wd fb 2), .int .u64 (wd fb 3)])) rfl rfl (fun a X hE hL => ?_)
            simp [Seen, slotAt, famV, isV] at hL
            have h33 := hL
            rw [relAt_eq]
            have f0 := keeps hE _ _ d4; have f1 := keeps hE _ _ d5; have f2 := keeps hE _ _ d6; have f3 := keeps hE _ _ d7
            go_simp
            exact ⟨Onto.refl _, rfl⟩
          refine Obs.cons (j := 21) rfl ?_ ?_
          · refine Ob.free [(32, some 17), (34, some 19)] (by kernel_rfl) (slST fa fb) rfl rfl (fun a X hE hL => ?_)
            simp [Seen, slotAt, famV, isV] at hL
            obtain ⟨h32, h34⟩ := hL
            rw [relAt_eq]
            go_simp
            exact ⟨(Below.refl _ _).alloc (Nat.le_refl _) _, X.heap.size, rfl, srow_two _ _ _⟩
          refine Obs.cons (j := 22) rfl ?_ ?_
          · refine Ob.free [(35, some 20)] (by kernel_rfl) (isV (.agg #[.int .u64 (wd (orS fa fb) 0), .int .u64 (wd (orS fa fb) 1), .int .u64 (wd (orS fa fb) 2), .int .u64 (wd (orS fa fb) 3)])) rfl rfl (fun a X hE hL => ?_)
            simp [Seen, slotAt, famV] at hL
            have h35 := hL
            rw [relAt_eq]
            obtain ⟨k9, e9, r9⟩ := h35
            go_simp
            rw [relUpon_enter]
            go_at_call 74
            refine (all2_any _ _ X k9 r9).mono ?_
            rintro e Y ⟨rfl, hY⟩
            exact ⟨_, rfl, hY, rfl⟩
          refine Obs.cons (j := 23) rfl ?_ ?_
          · refine Ob.free [(2, none)] (by kernel_rfl) (isV (.pointer (some ⟨g, 8, none⟩))) rfl rfl (fun a X hE hL => ?_)
            simp [Seen, slotAt] at hL
            have h2 := hL
            rw [relAt_eq]
            go_simp
            exact ⟨Onto.refl _, rfl⟩
          refine Obs.cons (j := 24) rfl ?_ ?_
          · refine Ob.free [(37, some 22)] (by kernel_rfl) (isV (.agg #[.int .u64 (wd ua 0), .int .u64 (wd ua 1), .int .u64 (wd ua 2), .int .u64 (wd ua 3)])) rfl rfl (fun a X hE hL => ?_)
            simp [Seen, slotAt, famV, isV] at hL
            have h37 := hL
            rw [relAt_eq]
            have f0 := keeps hE _ _ c8; have f1 := keeps hE _ _ c9; have f2 := keeps hE _ _ c10; have f3 := keeps hE _ _ c11
            go_simp
            exact ⟨Onto.refl _, rfl⟩
          refine Obs.cons (j := 25) rfl ?_ ?_
          · refine Ob.free [(3, none)] (by kernel_rfl) (isV (.pointer (some ⟨g + 1, 8, none⟩))) rfl rfl (fun a X hE hL => ?_)
            simp [Seen, slotAt] at hL
            have h3 := hL
            rw [relAt_eq]
            go_simp
            exact ⟨Onto.refl _, rfl⟩
          refine Obs.cons (j := 26) rfl ?_ ?_
          · refine Ob.free [(39, some 24)] (by kernel_rfl) (isV (.agg #[.int .u64 (wd ub 0), .int .u64 (wd ub 1), .int .u64 (wd ub 2), .int .u64 (wd ub 3)])) rfl rfl (fun a X hE hL => ?_)
            simp [Seen, slotAt, famV, isV] at hL
            have h39 := hL
            rw [relAt_eq]
            have f0 := keeps hE _ _ d8; have f1 := keeps hE _ _ d9; have f2 := keeps hE _ _ d10; have f3 := keeps hE _ _ d11
            go_simp
            exact ⟨Onto.refl _, rfl⟩
          refine Obs.cons (j := 27) rfl ?_ ?_
          · refine Ob.free [(38, some 23), (40, some 25)] (by kernel_rfl) (slST ua ub) rfl rfl (fun a X hE hL => ?_)
            simp [Seen, slotAt, famV, isV] at hL
            obtain ⟨h38, h40⟩ := hL
            rw [relAt_eq]
            go_simp
            exact ⟨(Below.refl _ _).alloc (Nat.le_refl _) _, X.heap.size, rfl, srow_two _ _ _⟩
          refine Obs.cons (j := 28) rfl ?_ ?_
          · refine Ob.free [(41, some 26)] (by kernel_rfl) (isV (.agg #[.int .u64 (wd (orS ua ub) 0), .int .u64 (wd (orS ua ub) 1), .int .u64 (wd (orS ua ub) 2), .int .u64 (wd (orS ua ub) 3)])) rfl rfl (fun a X hE hL => ?_)
            simp [Seen, slotAt, famV] at hL
            have h41 := hL
            rw [relAt_eq]
            obtain ⟨k9, e9, r9⟩ := h41
            go_simp
            rw [relUpon_enter]
            go_at_call 74
            refine (all2_any _ _ X k9 r9).mono ?_
            rintro e Y ⟨rfl, hY⟩
            exact ⟨_, rfl, hY, rfl⟩
          refine Obs.cons (j := 29) rfl ?_ ?_
          · refine Ob.free [(19, some 4), (24, some 9), (30, some 15), (36, some 21), (42, some 27)] (by kernel_rfl) (isV (.agg (factA ⟨true, min la lb, max xa xb, mb, orS fa fb, orS ua ub⟩))) rfl rfl (fun a X hE hL => ?_)
            simp [Seen, slotAt, famV, isV] at hL
            obtain ⟨h19, h24, h30, h36, h42⟩ := hL
            rw [relAt_eq]
            go_simp
            exact ⟨Onto.refl _, rfl⟩
          exact trivial
        case qF =>
          intro x wA hE hV
          simp [AllV, famV, isV] at hV
          obtain ⟨-, -, -, -, -, -, -, -, -, -, -, -, -, -, -, -, -, -, -, -, -, -, -, -, -, -, -, -, h43⟩ := hV
          simp only [puts, Act.put, List.setIfInBounds_toArray, List.set_cons_zero, List.set_cons_succ, h43]
          generalize x 15 = y15
          generalize x 16 = y16
          generalize x 17 = y17
          generalize x 18 = y18
          generalize x 19 = y19
          generalize x 20 = y20
          generalize x 21 = y21
          generalize x 22 = y22
          generalize x 23 = y23
          generalize x 24 = y24
          generalize x 25 = y25
          generalize x 26 = y26
          generalize x 27 = y27
          generalize x 28 = y28
          generalize x 29 = y29
          generalize x 30 = y30
          generalize x 31 = y31
          generalize x 32 = y32
          generalize x 33 = y33
          generalize x 34 = y34
          generalize x 35 = y35
          generalize x 36 = y36
          generalize x 37 = y37
          generalize x 38 = y38
          generalize x 39 = y39
          generalize x 40 = y40
          generalize x 41 = y41
          generalize x 42 = y42
          clear h43
          have hbA := onto_drew hE
          have HBA := Lib.hid hbA
          have HZA := Lib.hid (HZ.out.onto hbA)
          clear hE hbA
          refine wpAny_ready (rs := [29]) (by kernel_rfl) (by simp) ?_
          refine AllReady.cons rfl (fun K hK => ?_) AllReady.nil
          rw [if_pos (by rfl)]
          refine wp_store_fact _ _ rfl (g + 2) f0 ⟨true, min la lb, max xa xb, mb, orS fa fb, orS ua ub⟩ rfl rfl HZA.out ?_
          intro wB hR hBB hO hS
          have HR := Lib.hid hR
          have HBB := Lib.hid (hBB g (by omega))
          clear hR hBB hO hS
          refine hK _ _ ?_
          clear hK K
          try simp only [Act.put, List.getElem_toArray, List.getElem_cons_succ, List.getElem_cons_zero, List.setIfInBounds_toArray, List.set_cons_zero, List.set_cons_succ]
          refine wpAny_done (by kernel_rfl) ?_ _
          go_wp2
          refine bodyPost_ret (results_cell_row rfl _ _ (g + 2) 61 _ (0, 0) _ rfl HR.out Try.underlying61 rfl (sizeFact _)) rfl ⟨ret_fact (by rw [HE.out]), ?_⟩
          first | exact HBW.out.trans ((HBA.out.mono (by have := HS.out; omega)).trans HBB.out) | (rw [HG.out]; exact HBW.out.trans ((HBA.out.mono (by have := HS.out; omega)).trans HBB.out))
set_option maxRecDepth 100000 in
set_option maxHeartbeats 4000000 in
theorem cat9_any (a b : Fact) (w : World) (ha : a.lo ≤ 100000 ∧ a.hi ≤ 100000) (hb : b.lo ≤ 100000 ∧ b.hi ≤ 100000) :
    Calls Try.prog 62 #[.agg (factA a), .agg (factA b)] w fun e w' => e = .returned (.agg (factA (catF a b))) ∧ Below w.heap.size w w' := by
  obtain ⟨g, hg⟩ : ∃ g, w.heap.size = g := ⟨_, rfl⟩
  have HG := Lib.hid hg
  obtain ⟨W1, hW1, h1, h2, h3, hb1, hs1⟩ := boxesF w a b
  rw [hg] at h1 h2 h3 hb1 hs1
  have HA := Lib.hid h1
  have HB := Lib.hid h2
  have HZ := Lib.hid h3
  have HBW := Lib.hid hb1
  have HS := Lib.hid hs1
  have HW1 := Lib.hid hW1
  obtain ⟨sa, la, xa, ma, fa, ua⟩ := a
  obtain ⟨sb, lb, xb, mb, fb, ub⟩ := b
  have e0 : W1.cell? ⟨g, 0, none⟩ = some (.bool sa) := h1.cell (j := 0) rfl
  have e1 : W1.cell? ⟨g + 1, 0, none⟩ = some (.bool sb) := h2.cell (j := 0) rfl
  have hlA := run_loadF0 W1 g _ h1
  have hlB := run_loadF0 W1 (g + 1) _ h2
  have hzf : ZF = .cells #[.bool false, .int .i64 0, .int .i64 0, .bool false, .int .u64 0, .int .u64 0, .int .u64 0, .int .u64 0, .int .u64 0, .int .u64 0, .int .u64 0, .int .u64 0] 61 := rfl
  dsimp only at ha hb
  rw [hW1] at e0 e1 hlA hlB
  rw [hzf] at e0 e1 hlA hlB hW1
  clear h1 h2 h3 hb1 hs1 hzf
  go_enter Try.func62, Try.ntmps62
  by_cases hd : sa = false ∨ sb = false
  · have HE : Hid (catF ⟨sa, la, xa, ma, fa, ua⟩ ⟨sb, lb, xb, mb, fb, ub⟩ = f0) := Lib.hid (by rcases hd with rfl | rfl <;> simp [catF])
    cases sa with
    | false =>
      go_wp2_with (refine wpList_store_fact rfl _ _ rfl (g + 2) f0 f0 rfl (by rw [factA_f0]; rfl) (by rw [← hW1]; exact HZ.out) ?_; intro wB hR hBB hO hS; rw [← hW1] at hBB; have HR := Lib.hid hR; have HBB := Lib.hid (hBB g (by omega)); clear hR hBB hO hS)
      refine bodyPost_ret (results_cell_row rfl _ _ (g + 2) 61 _ (0, 0) _ rfl HR.out Try.underlying61 rfl (sizeFact _)) rfl ⟨ret_fact (by rw [HE.out]), ?_⟩
      first | exact HBW.out.trans HBB.out | (rw [HG.out]; exact HBW.out.trans HBB.out)
    | true =>
      have hsb : sb = false := by rcases hd with h | h; cases h; exact h
      subst hsb
      go_wp2_with (refine wpList_store_fact rfl _ _ rfl (g + 2) f0 f0 rfl (by rw [factA_f0]; rfl) (by rw [← hW1]; exact HZ.out) ?_; intro wB hR hBB hO hS; rw [← hW1] at hBB; have HR := Lib.hid hR; have HBB := Lib.hid (hBB g (by omega)); clear hR hBB hO hS)
      refine bodyPost_ret (results_cell_row rfl _ _ (g + 2) 61 _ (0, 0) _ rfl HR.out Try.underlying61 rfl (sizeFact _)) rfl ⟨ret_fact (by rw [HE.out]), ?_⟩
      first | exact HBW.out.trans HBB.out | (rw [HG.out]; exact HBW.out.trans HBB.out)
  · have hsa : sa = true := by cases sa <;> simp_all
    have hsb : sb = true := by cases sb <;> simp_all
    subst hsa hsb
    have hd1 := HA.out
    have hd2 := HB.out
    have c0 : W1.drew.cell? ⟨g, 0, none⟩ = some _ := hd1.cell (j := 0) rfl
    have c1 : W1.drew.cell? ⟨g, 1, none⟩ = some _ := hd1.cell (j := 1) rfl
    have c2 : W1.drew.cell? ⟨g, 2, none⟩ = some _ := hd1.cell (j := 2) rfl
    have c3 : W1.drew.cell? ⟨g, 3, none⟩ = some _ := hd1.cell (j := 3) rfl
    have c4 : W1.drew.cell? ⟨g, 4, none⟩ = some _ := hd1.cell (j := 4) rfl
    have c5 : W1.drew.cell? ⟨g, 5, none⟩ = some _ := hd1.cell (j := 5) rfl
    have c6 : W1.drew.cell? ⟨g, 6, none⟩ = some _ := hd1.cell (j := 6) rfl
    have c7 : W1.drew.cell? ⟨g, 7, none⟩ = some _ := hd1.cell (j := 7) rfl
    have c8 : W1.drew.cell? ⟨g, 8, none⟩ = some _ := hd1.cell (j := 8) rfl
    have c9 : W1.drew.cell? ⟨g, 9, none⟩ = some _ := hd1.cell (j := 9) rfl
    have c10 : W1.drew.cell? ⟨g, 10, none⟩ = some _ := hd1.cell (j := 10) rfl
    have c11 : W1.drew.cell? ⟨g, 11, none⟩ = some _ := hd1.cell (j := 11) rfl
    have d0 : W1.drew.cell? ⟨g + 1, 0, none⟩ = some _ := hd2.cell (j := 0) rfl
    have d1 : W1.drew.cell? ⟨g + 1, 1, none⟩ = some _ := hd2.cell (j := 1) rfl
    have d2 : W1.drew.cell? ⟨g + 1, 2, none⟩ = some _ := hd2.cell (j := 2) rfl
    have d3 : W1.drew.cell? ⟨g + 1, 3, none⟩ = some _ := hd2.cell (j := 3) rfl
    have d4 : W1.drew.cell? ⟨g + 1, 4, none⟩ = some _ := hd2.cell (j := 4) rfl
    have d5 : W1.drew.cell? ⟨g + 1, 5, none⟩ = some _ := hd2.cell (j := 5) rfl
    have d6 : W1.drew.cell? ⟨g + 1, 6, none⟩ = some _ := hd2.cell (j := 6) rfl
    have d7 : W1.drew.cell? ⟨g + 1, 7, none⟩ = some _ := hd2.cell (j := 7) rfl
    have d8 : W1.drew.cell? ⟨g + 1, 8, none⟩ = some _ := hd2.cell (j := 8) rfl
    have d9 : W1.drew.cell? ⟨g + 1, 9, none⟩ = some _ := hd2.cell (j := 9) rfl
    have d10 : W1.drew.cell? ⟨g + 1, 10, none⟩ = some _ := hd2.cell (j := 10) rfl
    have d11 : W1.drew.cell? ⟨g + 1, 11, none⟩ = some _ := hd2.cell (j := 11) rfl
    have HWA : Hid (IntKind.i64.wrap ((la : Int) + (lb : Int)) = ((la + lb : Nat) : Int)) := Lib.hid (by rw [IntWalk.i64_in _ ⟨by omega, by omega⟩]; omega)
    have HWB : Hid (IntKind.i64.wrap ((xa : Int) + (xb : Int)) = ((xa + xb : Nat) : Int)) := Lib.hid (by rw [IntWalk.i64_in _ ⟨by omega, by omega⟩]; omega)
    have HMA : Hid ((if (1099511627776 : Int) < (la : Int) + (lb : Int) then (1099511627776 : Int) else (la : Int) + (lb : Int)) = ((la : Int) + (lb : Int))) := Lib.hid (by rw [if_neg (by omega)])
    have HMB : Hid ((if (1099511627776 : Int) < (xa : Int) + (xb : Int) then (1099511627776 : Int) else (xa : Int) + (xb : Int)) = ((xa : Int) + (xb : Int))) := Lib.hid (by rw [if_neg (by omega)])
    clear hd1 hd2 hlA hlB hd
    cases ma with
    | true =>
      go_wp2_with fail
      rw [← hW1]
      clear hW1 e0 e1
      refine wp_region_fam_tail_lit (E := Onto) 28 1
        [isV (.pointer (some ⟨g, 1, none⟩)),
         isV (.int .i64 (la : Int)),
         isV (.pointer (some ⟨g + 1, 1, none⟩)),
         isV (.int .i64 (lb : Int)),
         isV (.int .i64 ((la + lb : Nat) : Int)),
         isV (.int .i64 ((la + lb : Nat) : Int)),
         isV (.pointer (some ⟨g, 2, none⟩)),
         isV (.int .i64 (xa : Int)),
         isV (.pointer (some ⟨g + 1, 2, none⟩)),
         isV (.int .i64 (xb : Int)),
         isV (.int .i64 ((xa + xb : Nat) : Int)),
         isV (.int .i64 ((xa + xb : Nat) : Int)),
         isV (.pointer (some ⟨g, 3, none⟩)),
         isV (.bool true),
         isV (.bool true),
         isV undef,
         isV undef,
         isV (.bool true),
         isV (.pointer (some ⟨g, 4, none⟩)),
         isV (.agg #[.int .u64 (wd fa 0), .int .u64 (wd fa 1), .int .u64 (wd fa 2), .int .u64 (wd fa 3)]),
         isV (.pointer (some ⟨g, 8, none⟩)),
         isV (.agg #[.int .u64 (wd ua 0), .int .u64 (wd ua 1), .int .u64 (wd ua 2), .int .u64 (wd ua 3)]),
         isV (.pointer (some ⟨g + 1, 8, none⟩)),
         isV (.agg #[.int .u64 (wd ub 0), .int .u64 (wd ub 1), .int .u64 (wd ub 2), .int .u64 (wd ub 3)]),
         slST ua ub,
         isV (.agg #[.int .u64 (wd (orS ua ub) 0), .int .u64 (wd (orS ua ub) 1), .int .u64 (wd (orS ua ub) 2), .int .u64 (wd (orS ua ub) 3)]),
         isV (.agg (factA ⟨true, la + lb, xa + xb, true, fa, orS ua ub⟩)),
         newF (g + 3)]
        [some 15, some 16, some 17, some 18, some 19, some 20, some 21, some 22, some 23, some 24, some 25, some 26, some 27, some 28, some 29, some 30, some 31, some 32, some 33, some 34, some 35, some 36, some 37, some 38, some 39, some 40, some 41, some 5] #[true, true, true, true, true, true, true, true, true, true, true, true, true, true, true, true, true, true, true, true, true, true, true, true, true, true, true, true, false] (by kernel_rfl) rfl (by kernel_rfl) (by kernel_rfl) rfl rfl rfl Onto.trans Onto.refl ?monoT ?obT ?qT
      case monoT => exact ⟨isV_mono _ _, isV_mono _ _, isV_mono _ _, isV_mono _ _, isV_mono _ _, isV_mono _ _, isV_mono _ _, isV_mono _ _, isV_mono _ _, isV_mono _ _, isV_mono _ _, isV_mono _ _, isV_mono _ _, isV_mono _ _, isV_mono _ _, isV_mono _ _, isV_mono _ _, isV_mono _ _, isV_mono _ _, isV_mono _ _, isV_mono _ _, isV_mono _ _, isV_mono _ _, isV_mono _ _, slST_mono _ _, isV_mono _ _, isV_mono _ _, newF_mono _, trivial⟩
      case obT =>
        refine Obs.cons (j := 1) rfl ?_ ?_
        · refine Ob.free [(2, none)] (by kernel_rfl) (isV (.pointer (some ⟨g, 1, none⟩))) rfl rfl (fun a X hE hL => ?_)
          simp [Seen, slotAt] at hL
          have h2 := hL
          rw [relAt_eq]
          go_simp
          exact ⟨Onto.refl _, rfl⟩
        refine Obs.cons (j := 2) rfl ?_ ?_
        · refine Ob.free [(15, some 0)] (by kernel_rfl) (isV (.int .i64 (la : Int))) rfl rfl (fun a X hE hL => ?_)
          simp [Seen, slotAt, famV, isV] at hL
          have h15 := hL
          rw [relAt_eq]
          have f0 := keeps hE _ _ c1
          go_simp
          exact ⟨Onto.refl _, rfl⟩
        refine Obs.cons (j := 3) rfl ?_ ?_
        · refine Ob.free [(3, none)] (by kernel_rfl) (isV (.pointer (some ⟨g + 1, 1, none⟩))) rfl rfl (fun a X hE hL => ?_)
          simp [Seen, slotAt] at hL
          have h3 := hL
          rw [relAt_eq]
          go_simp
          exact ⟨Onto.refl _, rfl⟩
        refine Obs.cons (j := 4) rfl ?_ ?_
        · refine Ob.free [(17, some 2)] (by kernel_rfl) (isV (.int .i64 (lb : Int))) rfl rfl (fun a X hE hL => ?_)
          simp [Seen, slotAt, famV, isV] at hL
          have h17 := hL
          rw [relAt_eq]
          have f0 := keeps hE _ _ d1
          go_simp
          exact ⟨Onto.refl _, rfl⟩
        refine Obs.cons (j := 5) rfl ?_ ?_
        · refine Ob.free [(16, some 1), (18, some 3)] (by kernel_rfl) (isV (.int .i64 ((la + lb : Nat) : Int))) rfl rfl (fun a X hE hL => ?_)
          simp [Seen, slotAt, famV, isV] at hL
          obtain ⟨h16, h18⟩ := hL
          rw [relAt_eq]
          go_simp
          exact ⟨Onto.refl _, congrArg (Value.int .i64) HWA.out⟩
        refine Obs.cons (j := 6) rfl ?_ ?_
        · refine Ob.free [(19, some 4)] (by kernel_rfl) (isV (.int .i64 ((la + lb : Nat) : Int))) rfl rfl (fun a X hE hL => ?_)
          simp [Seen, slotAt, famV, isV] at hL
          have h19 := hL
          rw [relAt_eq]
          go_simp
          exact ⟨Onto.refl _, congrArg (Value.int .i64) HMA.out⟩
        refine Obs.cons (j := 7) rfl ?_ ?_
        · refine Ob.free [(2, none)] (by kernel_rfl) (isV (.pointer (some ⟨g, 2, none⟩))) rfl rfl (fun a X hE hL => ?_)
          simp [Seen, slotAt] at hL
          have h2 := hL
          rw [relAt_eq]
          go_simp
          exact ⟨Onto.refl _, rfl⟩
        refine Obs.cons (j := 8) rfl ?_ ?_
        · refine Ob.free [(21, some 6)] (by kernel_rfl) (isV (.int .i64 (xa : Int))) rfl rfl (fun a X hE hL => ?_)
          simp [Seen, slotAt, famV, isV] at hL
          have h21 := hL
          rw [relAt_eq]
          have f0 := keeps hE _ _ c2
          go_simp
          exact ⟨Onto.refl _, rfl⟩
        refine Obs.cons (j := 9) rfl ?_ ?_
        · refine Ob.free [(3, none)] (by kernel_rfl) (isV (.pointer (some ⟨g + 1, 2, none⟩))) rfl rfl (fun a X hE hL => ?_)
          simp [Seen, slotAt] at hL
          have h3 := hL
          rw [relAt_eq]
          go_simp
          exact ⟨Onto.refl _, rfl⟩
        refine Obs.cons (j := 10) rfl ?_ ?_
        · refine Ob.free [(23, some 8)] (by kernel_rfl) (isV (.int .i64 (xb : Int))) rfl rfl (fun a X hE hL => ?_)
          simp [Seen, slotAt, famV, isV] at hL
          have h23 := hL
          rw [relAt_eq]
          have f0 := keeps hE _ _ d2
          go_simp
          exact ⟨Onto.refl _, rfl⟩
        refine Obs.cons (j := 11) rfl ?_ ?_
        · refine Ob.free [(22, some 7), (24, some 9)] (by kernel_rfl) (isV (.int .i64 ((xa + xb : Nat) : Int))) rfl rfl (fun a X hE hL => ?_)
          simp [Seen, slotAt, famV, isV] at hL
          obtain ⟨h22, h24⟩ := hL
          rw [relAt_eq]
          go_simp
          exact ⟨Onto.refl _, congrArg (Value.int .i64) HWB.out⟩
        refine Obs.cons (j := 12) rfl ?_ ?_
        · refine Ob.free [(25, some 10)] (by kernel_rfl) (isV (.int .i64 ((xa + xb : Nat) : Int))) rfl rfl (fun a X hE hL => ?_)
          simp [Seen, slotAt, famV, isV] at hL
          have h25 := hL
          rw [relAt_eq]
          go_simp
          exact ⟨Onto.refl _, congrArg (Value.int .i64) HMB.out⟩
        refine Obs.cons (j := 13) rfl ?_ ?_
        · refine Ob.free [(2, none)] (by kernel_rfl) (isV (.pointer (some ⟨g, 3, none⟩))) rfl rfl (fun a X hE hL => ?_)
          simp [Seen, slotAt] at hL
          have h2 := hL
          rw [relAt_eq]
          go_simp
          exact ⟨Onto.refl _, rfl⟩
        refine Obs.cons (j := 14) rfl ?_ ?_
        · refine Ob.free [(27, some 12)] (by kernel_rfl) (isV (.bool true)) rfl rfl (fun a X hE hL => ?_)
          simp [Seen, slotAt, famV, isV] at hL
          have h27 := hL
          rw [relAt_eq]
          have f0 := keeps hE _ _ c3
          go_simp
          exact ⟨Onto.refl _, rfl⟩
        refine Obs.cons (j := 15) rfl ?_ ?_
        · refine Ob.free [(28, some 13)] (by kernel_rfl) (isV (.bool true)) rfl rfl (fun a X hE hL => ?_)
          simp [Seen, slotAt, famV, isV] at hL
          have h28 := hL
          rw [relAt_eq]
          go_simp
          exact ⟨Onto.refl _, rfl⟩
        refine Obs.cons (j := 16) rfl ?_ ?_
        · refine Ob.skip [(3, none), (29, some 14)] (by kernel_rfl) rfl 14 false 29 rfl rfl (fun a X hE hL => ?_)
          simp [Seen, slotAt, famV, isV] at hL
          obtain ⟨h3, h29⟩ := hL
          simpa using h29
        refine Obs.cons (j := 17) rfl ?_ ?_
        · refine Ob.skip [(30, some 15), (29, some 14)] (by kernel_rfl) rfl 14 false 29 rfl rfl (fun a X hE hL => ?_)
          simp [Seen, slotAt, famV, isV] at hL
          obtain ⟨h30, h29⟩ := hL
          simpa using h29
        refine Obs.cons (j := 18) rfl ?_ ?_
        · refine Ob.free [(29, some 14), (31, some 16)] (by kernel_rfl) (isV (.bool true)) rfl rfl (fun a X hE hL => ?_)
          simp [Seen, slotAt, famV, isV] at hL
          obtain ⟨h29, h31⟩ := hL
          rw [relAt_eq]
          go_simp
          exact ⟨Onto.refl _, rfl⟩
        refine Obs.cons (j := 19) rfl ?_ ?_
        · refine Ob.free [(2, none)] (by kernel_rfl) (isV (.pointer (some ⟨g, 4, none⟩))) rfl rfl (fun a X hE hL => ?_)
          simp [Seen, slotAt] at hL
          have h2 := hL
          rw [relAt_eq]
          go_simp
          exact ⟨Onto.refl _, rfl⟩
        refine Obs.cons (j := 20) rfl ?_ ?_
        · refine Ob.free [(33, some 18)] (by kernel_rfl) (isV (.agg #[.int .u64 (wd fa 0), .int .u64 (wd fa 1), .int .u64 (wd fa 2), .int .u64 (wd fa 3)])) rfl rfl (fun a X hE hL => ?_)
          simp [Seen, slotAt, famV, isV] at hL
          have h33 := hL
          rw [relAt_eq]
          have f0 := keeps hE _ _ c4; have f1 := keeps hE _ _ c5; have f2 := keeps hE _ _ c6; have f3 := keeps hE _ _ c7
          go_simp
          exact ⟨Onto.refl _, rfl⟩
        refine Obs.cons (j := 21) rfl ?_ ?_
        · refine Ob.free [(2, none)] (by kernel_rfl) (isV (.pointer (some ⟨g, 8, none⟩))) rfl rfl (fun a X hE hL => ?_)
          simp [Seen, slotAt] at hL
          have h2 := hL
          rw [relAt_eq]
          go_simp
          exact ⟨Onto.refl _, rfl⟩
        refine Obs.cons (j := 22) rfl ?_ ?_
        · refine Ob.free [(35, some 20)] (by kernel_rfl) (isV (.agg #[.int .u64 (wd ua 0), .int .u64 (wd ua 1), .int .u64 (wd ua 2), .int .u64 (wd ua 3)])) rfl rfl (fun a X hE hL => ?_)
          simp [Seen, slotAt, famV, isV] at hL
          have h35 := hL
          rw [relAt_eq]
          have f0 := keeps hE _ _ c8; have f1 := keeps hE _ _ c9; have f2 := keeps hE _ _ c10; have f3 := keeps hE _ _ c11
          go_simp
          exact ⟨Onto.refl _, rfl⟩
        refine Obs.cons (j := 23) rfl ?_ ?_
        · refine Ob.free [(3, none)] (by kernel_rfl) (isV (.pointer (some ⟨g + 1, 8, none⟩))) rfl rfl (fun a X hE hL => ?_)
          simp [Seen, slotAt] at hL
          have h3 := hL
          rw [relAt_eq]
          go_simp
          exact ⟨Onto.refl _, rfl⟩
        refine Obs.cons (j := 24) rfl ?_ ?_
        · refine Ob.free [(37, some 22)] (by kernel_rfl) (isV (.agg #[.int .u64 (wd ub 0), .int .u64 (wd ub 1), .int .u64 (wd ub 2), .int .u64 (wd ub 3)])) rfl rfl (fun a X hE hL => ?_)
          simp [Seen, slotAt, famV, isV] at hL
          have h37 := hL
          rw [relAt_eq]
          have f0 := keeps hE _ _ d8; have f1 := keeps hE _ _ d9; have f2 := keeps hE _ _ d10; have f3 := keeps hE _ _ d11
          go_simp
          exact ⟨Onto.refl _, rfl⟩
        refine Obs.cons (j := 25) rfl ?_ ?_
        · refine Ob.free [(36, some 21), (38, some 23)] (by kernel_rfl) (slST ua ub) rfl rfl (fun a X hE hL => ?_)
          simp [Seen, slotAt, famV, isV] at hL
          obtain ⟨h36, h38⟩ := hL
          rw [relAt_eq]
          go_simp
          exact ⟨(Below.refl _ _).alloc (Nat.le_refl _) _, X.heap.size, rfl, srow_two _ _ _⟩
        refine Obs.cons (j := 26) rfl ?_ ?_
        · refine Ob.free [(39, some 24)] (by kernel_rfl) (isV (.agg #[.int .u64 (wd (orS ua ub) 0), .int .u64 (wd (orS ua ub) 1), .int .u64 (wd (orS ua ub) 2), .int .u64 (wd (orS ua ub) 3)])) rfl rfl (fun a X hE hL => ?_)
          simp [Seen, slotAt, famV] at hL
          have h39 := hL
          rw [relAt_eq]
          obtain ⟨k9, e9, r9⟩ := h39
          go_simp
          rw [relUpon_enter]
          go_at_call 74
          refine (all2_any _ _ X k9 r9).mono ?_
          rintro e Y ⟨rfl, hY⟩
          exact ⟨_, rfl, hY, rfl⟩
        refine Obs.cons (j := 27) rfl ?_ ?_
        · refine Ob.free [(20, some 5), (26, some 11), (32, some 17), (34, some 19), (40, some 25)] (by kernel_rfl) (isV (.agg (factA ⟨true, la + lb, xa + xb, true, fa, orS ua ub⟩))) rfl rfl (fun a X hE hL => ?_)
          simp [Seen, slotAt, famV, isV] at hL
          obtain ⟨h20, h26, h32, h34, h40⟩ := hL
          rw [relAt_eq]
          go_simp
          exact ⟨Onto.refl _, rfl⟩
        refine Obs.cons (j := 28) rfl ?_ ?_
        · refine Ob.free [] (by kernel_rfl) (newF (g + 3)) rfl rfl (fun a X hE hL => ?_)
          rw [relAt_eq]
          go_simp
          exact ⟨(Below.refl _ _).alloc (Nat.le_refl _) _, X.heap.size, rfl, by have := (onto_drew hE).size; have := HS.out; omega, FactAt.zero X _ rfl⟩
        exact trivial
      case qT =>
        intro x wA hE hV
        simp [AllV, famV, isV] at hV
        obtain ⟨-, -, -, -, -, -, -, -, -, -, -, -, -, -, -, -, -, -, -, -, -, -, -, -, -, -, h41, h5⟩ := hV
        simp only [puts, Act.put, List.setIfInBounds_toArray, List.set_cons_zero, List.set_cons_succ, h41]
        generalize x 15 = y15
        generalize x 16 = y16
        generalize x 17 = y17
        generalize x 18 = y18
        generalize x 19 = y19
        generalize x 20 = y20
        generalize x 21 = y21
        generalize x 22 = y22
        generalize x 23 = y23
        generalize x 24 = y24
        generalize x 25 = y25
        generalize x 26 = y26
        generalize x 27 = y27
        generalize x 28 = y28
        generalize x 29 = y29
        generalize x 30 = y30
        generalize x 31 = y31
        generalize x 32 = y32
        generalize x 33 = y33
        generalize x 34 = y34
        generalize x 35 = y35
        generalize x 36 = y36
        generalize x 37 = y37
        generalize x 38 = y38
        generalize x 39 = y39
        generalize x 40 = y40
        generalize x 5 = y5 at h5 ⊢
        clear h41
        have hbA := onto_drew hE
        obtain ⟨k, rfl, hgk, hk⟩ := h5
        have HK := Lib.hid hk
        have HBA := Lib.hid (HBW.out.trans (hbA.mono (by have := HS.out; omega)))
        have HZA := Lib.hid (HZ.out.onto hbA)
        have HAA := Lib.hid (HA.out.onto hbA)
        have HBB2 := Lib.hid (HB.out.onto hbA)
        clear hE hbA hk
        refine wpAny_ready (rs := [28]) (by kernel_rfl) (by simp) ?_
        refine AllReady.cons rfl (fun K hK => ?_) AllReady.nil
        rw [if_pos (by rfl)]
        refine wp_store_fact _ _ rfl k f0 ⟨true, la + lb, xa + xb, true, fa, orS ua ub⟩ rfl rfl HK.out ?_
        intro wB hR hBB hO hS
        have HR := Lib.hid hR
        have HBB := Lib.hid (HBA.out.trans (hBB g (by omega)))
        have HZB := Lib.hid (HZA.out.below (hBB (g + 3) (by omega)) (by omega))
        have hdA := HAA.out.below (hBB (g + 3) (by omega)) (by omega)
        have hdB := HBB2.out.below (hBB (g + 3) (by omega)) (by omega)
        have HBSZ : Hid (g + 3 ≤ wB.heap.size) := Lib.hid (by have := hR.lt; omega)
        clear hBB hO hS
        refine hK _ _ ?_
        clear hK K
        try simp only [Act.put, List.getElem_toArray, List.getElem_cons_succ, List.getElem_cons_zero, List.setIfInBounds_toArray, List.set_cons_zero, List.set_cons_succ]
        refine wpAny_done (by kernel_rfl) ?_ _
        have p1 : wB.cell? ⟨g, 1, none⟩ = some (.int .i64 (la : Int)) := hdA.cell (j := 1) rfl
        have q1 : wB.cell? ⟨g + 1, 1, none⟩ = some (.int .i64 (lb : Int)) := hdB.cell (j := 1) rfl
        have p4 : wB.cell? ⟨g, 4, none⟩ = some (.int .u64 (wd fa 0)) := hdA.cell (j := 4) rfl
        have q4 : wB.cell? ⟨g + 1, 4, none⟩ = some (.int .u64 (wd fb 0)) := hdB.cell (j := 4) rfl
        have p5 : wB.cell? ⟨g, 5, none⟩ = some (.int .u64 (wd fa 1)) := hdA.cell (j := 5) rfl
        have q5 : wB.cell? ⟨g + 1, 5, none⟩ = some (.int .u64 (wd fb 1)) := hdB.cell (j := 5) rfl
        have p6 : wB.cell? ⟨g, 6, none⟩ = some (.int .u64 (wd fa 2)) := hdA.cell (j := 6) rfl
        have q6 : wB.cell? ⟨g + 1, 6, none⟩ = some (.int .u64 (wd fb 2)) := hdB.cell (j := 6) rfl
        have p7 : wB.cell? ⟨g, 7, none⟩ = some (.int .u64 (wd fa 3)) := hdA.cell (j := 7) rfl
        have q7 : wB.cell? ⟨g + 1, 7, none⟩ = some (.int .u64 (wd fb 3)) := hdB.cell (j := 7) rfl
        clear c0 d0 c1 d1 c2 d2 c3 d3 c4 d4 c5 d5 c6 d6 c7 d7 c8 d8 c9 d9 c10 d10 c11 d11
        clear hdA hdB
        by_cases hl0 : la = 0
        · have HE : Hid (catF ⟨true, la, xa, true, fa, ua⟩ ⟨true, lb, xb, mb, fb, ub⟩ = ⟨true, la + lb, xa + xb, true, orS fa fb, orS ua ub⟩) := Lib.hid (by simp [catF, hl0])
          have hl1 : ((la : Int) == 0) = true := by rw [hl0]; rfl
          clear hl0
          go_wp2_with (first
            | (go_at_call 74
               refine (all2_any fa fb _ _ (srow_two _ _ _)).mono ?_
               rintro e wD ⟨rfl, hD⟩
               have hD' : Below wB.heap.size wB wD := ((Below.refl wB.heap.size wB).alloc (Nat.le_refl _) _).trans (hD.mono (by simp))
               have HKD := Lib.hid (hR.onto hD')
               have HZD := Lib.hid (HZB.out.onto hD')
               have HBD := Lib.hid (HBB.out.trans (hD'.mono (by have := HBSZ.out; omega)))
               clear hD hD')
            | (refine wpList_store_first rfl _ _ rfl k _ (orS fa fb) rfl rfl HKD.out ?_
               intro wE hR3 hBE hSE
               have HZE := Lib.hid (HZD.out.below (hBE (g + 3) (by omega)) (by omega))
               have HBE := Lib.hid (HBD.out.trans (hBE g (by omega)))
               have hlR := run_loadF0 wE k _ hR3
               clear hBE hSE)
            | (refine wpList_store_fact rfl _ _ rfl (g + 2) f0 ⟨true, la + lb, xa + xb, true, orS fa fb, orS ua ub⟩ rfl rfl HZE.out ?_; intro wC hR2 hBC hO2 hS2; have HR2 := Lib.hid hR2; have HBC := Lib.hid (HBE.out.trans (hBC g (by omega))); clear hR2 hBC hO2 hS2))
          refine bodyPost_ret (results_cell_row rfl _ _ (g + 2) 61 _ (0, 0) _ rfl HR2.out Try.underlying61 rfl (sizeFact _)) rfl ⟨ret_fact (by rw [HE.out]), ?_⟩
          first | exact HBC.out | (rw [HG.out]; exact HBC.out)
        · have HE : Hid (catF ⟨true, la, xa, true, fa, ua⟩ ⟨true, lb, xb, mb, fb, ub⟩ = ⟨true, la + lb, xa + xb, true, fa, orS ua ub⟩) := Lib.hid (by simp [catF, hl0])
          have hl1 : ((la : Int) == 0) = false := by rw [beq_eq_false_iff_ne]; omega
          have hlR := run_loadF0 wB k _ hR
          go_wp2_with (refine wpList_store_fact rfl _ _ rfl (g + 2) f0 ⟨true, la + lb, xa + xb, true, fa, orS ua ub⟩ rfl rfl HZB.out ?_; intro wC hR2 hBC hO2 hS2; have HR2 := Lib.hid hR2; have HBC := Lib.hid (HBB.out.trans (hBC g (by omega))); clear hR2 hBC hO2 hS2)
          refine bodyPost_ret (results_cell_row rfl _ _ (g + 2) 61 _ (0, 0) _ rfl HR2.out Try.underlying61 rfl (sizeFact _)) rfl ⟨ret_fact (by rw [HE.out]), ?_⟩
          first | exact HBC.out | (rw [HG.out]; exact HBC.out)
    | false =>
      go_wp2_with fail
      rw [← hW1]
      clear hW1 e0 e1
      refine wp_region_fam_tail_lit (E := Onto) 28 1
        [isV (.pointer (some ⟨g, 1, none⟩)),
         isV (.int .i64 (la : Int)),
         isV (.pointer (some ⟨g + 1, 1, none⟩)),
         isV (.int .i64 (lb : Int)),
         isV (.int .i64 ((la + lb : Nat) : Int)),
         isV (.int .i64 ((la + lb : Nat) : Int)),
         isV (.pointer (some ⟨g, 2, none⟩)),
         isV (.int .i64 (xa : Int)),
         isV (.pointer (some ⟨g + 1, 2, none⟩)),
         isV (.int .i64 (xb : Int)),
         isV (.int .i64 ((xa + xb : Nat) : Int)),
         isV (.int .i64 ((xa + xb : Nat) : Int)),
         isV (.pointer (some ⟨g, 3, none⟩)),
         isV (.bool false),
         isV (.bool false),
         isV (.pointer (some ⟨g + 1, 3, none⟩)),
         isV (.bool mb),
         isV (.bool mb),
         isV (.pointer (some ⟨g, 4, none⟩)),
         isV (.agg #[.int .u64 (wd fa 0), .int .u64 (wd fa 1), .int .u64 (wd fa 2), .int .u64 (wd fa 3)]),
         isV (.pointer (some ⟨g, 8, none⟩)),
         isV (.agg #[.int .u64 (wd ua 0), .int .u64 (wd ua 1), .int .u64 (wd ua 2), .int .u64 (wd ua 3)]),
         isV (.pointer (some ⟨g + 1, 8, none⟩)),
         isV (.agg #[.int .u64 (wd ub 0), .int .u64 (wd ub 1), .int .u64 (wd ub 2), .int .u64 (wd ub 3)]),
         slST ua ub,
         isV (.agg #[.int .u64 (wd (orS ua ub) 0), .int .u64 (wd (orS ua ub) 1), .int .u64 (wd (orS ua ub) 2), .int .u64 (wd (orS ua ub) 3)]),
         isV (.agg (factA ⟨true, la + lb, xa + xb, mb, fa, orS ua ub⟩)),
         newF (g + 3)]
        [some 15, some 16, some 17, some 18, some 19, some 20, some 21, some 22, some 23, some 24, some 25, some 26, some 27, some 28, some 29, some 30, some 31, some 32, some 33, some 34, some 35, some 36, some 37, some 38, some 39, some 40, some 41, some 5] #[true, true, true, true, true, true, true, true, true, true, true, true, true, true, true, true, true, true, true, true, true, true, true, true, true, true, true, true, false] (by kernel_rfl) rfl (by kernel_rfl) (by kernel_rfl) rfl rfl rfl Onto.trans Onto.refl ?monoF ?obF ?qF
      case monoF => exact ⟨isV_mono _ _, isV_mono _ _, isV_mono _ _, isV_mono _ _, isV_mono _ _, isV_mono _ _, isV_mono _ _, isV_mono _ _, isV_mono _ _, isV_mono _ _, isV_mono _ _, isV_mono _ _, isV_mono _ _, isV_mono _ _, isV_mono _ _, isV_mono _ _, isV_mono _ _, isV_mono _ _, isV_mono _ _, isV_mono _ _, isV_mono _ _, isV_mono _ _, isV_mono _ _, isV_mono _ _, slST_mono _ _, isV_mono _ _, isV_mono _ _, newF_mono _, trivial⟩
      case obF =>
        refine Obs.cons (j := 1) rfl ?_ ?_
        · refine Ob.free [(2, none)] (by kernel_rfl) (isV (.pointer (some ⟨g, 1, none⟩))) rfl rfl (fun a X hE hL => ?_)
          simp [Seen, slotAt] at hL
          have h2 := hL
          rw [relAt_eq]
          go_simp
          exact ⟨Onto.refl _, rfl⟩
        refine Obs.cons (j := 2) rfl ?_ ?_
        · refine Ob.free [(15, some 0)] (by kernel_rfl) (isV (.int .i64 (la : Int))) rfl rfl (fun a X hE hL => ?_)
          simp [Seen, slotAt, famV, isV] at hL
          have h15 := hL
          rw [relAt_eq]
          have f0 := keeps hE _ _ c1
          go_simp
          exact ⟨Onto.refl _, rfl⟩
        refine Obs.cons (j := 3) rfl ?_ ?_
        · refine Ob.free [(3, none)] (by kernel_rfl) (isV (.pointer (some ⟨g + 1, 1, none⟩))) rfl rfl (fun a X hE hL => ?_)
          simp [Seen, slotAt] at hL
          have h3 := hL
          rw [relAt_eq]
          go_simp
          exact ⟨Onto.refl _, rfl⟩
        refine Obs.cons (j := 4) rfl ?_ ?_
        · refine Ob.free [(17, some 2)] (by kernel_rfl) (isV (.int .i64 (lb : Int))) rfl rfl (fun a X hE hL => ?_)
          simp [Seen, slotAt, famV, isV] at hL
          have h17 := hL
          rw [relAt_eq]
          have f0 := keeps hE _ _ d1
          go_simp
          exact ⟨Onto.refl _, rfl⟩
        refine Obs.cons (j := 5) rfl ?_ ?_
        · refine Ob.free [(16, some 1), (18, some 3)] (by kernel_rfl) (isV (.int .i64 ((la + lb : Nat) : Int))) rfl rfl (fun a X hE hL => ?_)
          simp [Seen, slotAt, famV, isV] at hL
          obtain ⟨h16, h18⟩ := hL
          rw [relAt_eq]
          go_simp
          exact ⟨Onto.refl _, congrArg (Value.int .i64) HWA.out⟩
        refine Obs.cons (j := 6) rfl ?_ ?_
        · refine Ob.free [(19, some 4)] (by kernel_rfl) (isV (.int .i64 ((la + lb : Nat) : Int))) rfl rfl (fun a X hE hL => ?_)
          simp [Seen, slotAt, famV, isV] at hL
          have h19 := hL
          rw [relAt_eq]
          go_simp
          exact ⟨Onto.refl _, congrArg (Value.int .i64) HMA.out⟩
        refine Obs.cons (j := 7) rfl ?_ ?_
        · refine Ob.free [(2, none)] (by kernel_rfl) (isV (.pointer (some ⟨g, 2, none⟩))) rfl rfl (fun a X hE hL => ?_)
          simp [Seen, slotAt] at hL
          have h2 := hL
          rw [relAt_eq]
          go_simp
          exact ⟨Onto.refl _, rfl⟩
        refine Obs.cons (j := 8) rfl ?_ ?_
        · refine Ob.free [(21, some 6)] (by kernel_rfl) (isV (.int .i64 (xa : Int))) rfl rfl (fun a X hE hL => ?_)
          simp [Seen, slotAt, famV, isV] at hL
          have h21 := hL
          rw [relAt_eq]
          have f0 := keeps hE _ _ c2
          go_simp
          exact ⟨Onto.refl _, rfl⟩
        refine Obs.cons (j := 9) rfl ?_ ?_
        · refine Ob.free [(3, none)] (by kernel_rfl) (isV (.pointer (some ⟨g + 1, 2, none⟩))) rfl rfl (fun a X hE hL => ?_)
          simp [Seen, slotAt] at hL
          have h3 := hL
          rw [relAt_eq]
          go_simp
          exact ⟨Onto.refl _, rfl⟩
        refine Obs.cons (j := 10) rfl ?_ ?_
        · refine Ob.free [(23, some 8)] (by kernel_rfl) (isV (.int .i64 (xb : Int))) rfl rfl (fun a X hE hL => ?_)
          simp [Seen, slotAt, famV, isV] at hL
          have h23 := hL
          rw [relAt_eq]
          have f0 := keeps hE _ _ d2
          go_simp
          exact ⟨Onto.refl _, rfl⟩
        refine Obs.cons (j := 11) rfl ?_ ?_
        · refine Ob.free [(22, some 7), (24, some 9)] (by kernel_rfl) (isV (.int .i64 ((xa + xb : Nat) : Int))) rfl rfl (fun a X hE hL => ?_)
          simp [Seen, slotAt, famV, isV] at hL
          obtain ⟨h22, h24⟩ := hL
          rw [relAt_eq]
          go_simp
          exact ⟨Onto.refl _, congrArg (Value.int .i64) HWB.out⟩
        refine Obs.cons (j := 12) rfl ?_ ?_
        · refine Ob.free [(25, some 10)] (by kernel_rfl) (isV (.int .i64 ((xa + xb : Nat) : Int))) rfl rfl (fun a X hE hL => ?_)
          simp [Seen, slotAt, famV, isV] at hL
          have h25 := hL
          rw [relAt_eq]
          go_simp
          exact ⟨Onto.refl _, congrArg (Value.int .i64) HMB.out⟩
        refine Obs.cons (j := 13) rfl ?_ ?_
        · refine Ob.free [(2, none)] (by kernel_rfl) (isV (.pointer (some ⟨g, 3, none⟩))) rfl rfl (fun a X hE hL => ?_)
          simp [Seen, slotAt] at hL
          have h2 := hL
          rw [relAt_eq]
          go_simp
          exact ⟨Onto.refl _, rfl⟩
        refine Obs.cons (j := 14) rfl ?_ ?_
        · refine Ob.free [(27, some 12)] (by kernel_rfl) (isV (.bool false)) rfl rfl (fun a X hE hL => ?_)
          simp [Seen, slotAt, famV, isV] at hL
          have h27 := hL
          rw [relAt_eq]
          have f0 := keeps hE _ _ c3
          go_simp
          exact ⟨Onto.refl _, rfl⟩
        refine Obs.cons (j := 15) rfl ?_ ?_
        · refine Ob.free [(28, some 13)] (by kernel_rfl) (isV (.bool false)) rfl rfl (fun a X hE hL => ?_)
          simp [Seen, slotAt, famV, isV] at hL
          have h28 := hL
          rw [relAt_eq]
          go_simp
          exact ⟨Onto.refl _, rfl⟩
        refine Obs.cons (j := 16) rfl ?_ ?_
        · refine Ob.guarded [(3, none), (29, some 14)] (by kernel_rfl) (isV (.pointer (some ⟨g + 1, 3, none⟩))) rfl 14 false 29 rfl rfl (fun a X hE hL => ?_)
          simp [Seen, slotAt, famV, isV] at hL
          obtain ⟨h3, h29⟩ := hL
          refine ⟨by simpa using h29, ?_⟩
          clear h29
          rw [relAt_eq]
          go_simp
          exact ⟨Onto.refl _, rfl⟩
        refine Obs.cons (j := 17) rfl ?_ ?_
        · refine Ob.guarded [(30, some 15), (29, some 14)] (by kernel_rfl) (isV (.bool mb)) rfl 14 false 29 rfl rfl (fun a X hE hL => ?_)
          simp [Seen, slotAt, famV, isV] at hL
          obtain ⟨h30, h29⟩ := hL
          refine ⟨by simpa using h29, ?_⟩
          clear h29
          rw [relAt_eq]
          have f0 := keeps hE _ _ d3
          go_simp
          exact ⟨Onto.refl _, rfl⟩
        refine Obs.cons (j := 18) rfl ?_ ?_
        · refine Ob.free [(29, some 14), (31, some 16)] (by kernel_rfl) (isV (.bool mb)) rfl rfl (fun a X hE hL => ?_)
          simp [Seen, slotAt, famV, isV] at hL
          obtain ⟨h29, h31⟩ := hL
          rw [relAt_eq]
          go_simp
          exact ⟨Onto.refl _, rfl⟩
        refine Obs.cons (j := 19) rfl ?_ ?_
        · refine Ob.free [(2, none)] (by kernel_rfl) (isV (.pointer (some ⟨g, 4, none⟩))) rfl rfl (fun a X hE hL => ?_)
          simp [Seen, slotAt] at hL
          have h2 := hL
          rw [relAt_eq]
          go_simp
          exact ⟨Onto.refl _, rfl⟩
        refine Obs.cons (j := 20) rfl ?_ ?_
        · refine Ob.free [(33, some 18)] (by kernel_rfl) (isV (.agg #[.int .u64 (wd fa 0), .int .u64 (wd fa 1), .int .u64 (wd fa 2), .int .u64 (wd fa 3)])) rfl rfl (fun a X hE hL => ?_)
          simp [Seen, slotAt, famV, isV] at hL
          have h33 := hL
          rw [relAt_eq]
          have f0 := keeps hE _ _ c4; have f1 := keeps hE _ _ c5; have f2 := keeps hE _ _ c6; have f3 := keeps hE _ _ c7
          go_simp
          exact ⟨Onto.refl _, rfl⟩
        refine Obs.cons (j := 21) rfl ?_ ?_
        · refine Ob.free [(2, none)] (by kernel_rfl) (isV (.pointer (some ⟨g, 8, none⟩))) rfl rfl (fun a X hE hL => ?_)
          simp [Seen, slotAt] at hL
          have h2 := hL
          rw [relAt_eq]
          go_simp
          exact ⟨Onto.refl _, rfl⟩
        refine Obs.cons (j := 22) rfl ?_ ?_
        · refine Ob.free [(35, some 20)] (by kernel_rfl) (isV (.agg #[.int .u64 (wd ua 0), .int .u64 (wd ua 1), .int .u64 (wd ua 2), .int .u64 (wd ua 3)])) rfl rfl (fun a X hE hL => ?_)
          simp [Seen, slotAt, famV, isV] at hL
          have h35 := hL
          rw [relAt_eq]
          have f0 := keeps hE _ _ c8; have f1 := keeps hE _ _ c9; have f2 := keeps hE _ _ c10; have f3 := keeps hE _ _ c11
          go_simp
          exact ⟨Onto.refl _, rfl⟩
        refine Obs.cons (j := 23) rfl ?_ ?_
        · refine Ob.free [(3, none)] (by kernel_rfl) (isV (.pointer (some ⟨g + 1, 8, none⟩))) rfl rfl (fun a X hE hL => ?_)
          simp [Seen, slotAt] at hL
          have h3 := hL
          rw [relAt_eq]
          go_simp
          exact ⟨Onto.refl _, rfl⟩
        refine Obs.cons (j := 24) rfl ?_ ?_
        · refine Ob.free [(37, some 22)] (by kernel_rfl) (isV (.agg #[.int .u64 (wd ub 0), .int .u64 (wd ub 1), .int .u64 (wd ub 2), .int .u64 (wd ub 3)])) rfl rfl (fun a X hE hL => ?_)
          simp [Seen, slotAt, famV, isV] at hL
          have h37 := hL
          rw [relAt_eq]
          have f0 := keeps hE _ _ d8; have f1 := keeps hE _ _ d9; have f2 := keeps hE _ _ d10; have f3 := keeps hE _ _ d11
          go_simp
          exact ⟨Onto.refl _, rfl⟩
        refine Obs.cons (j := 25) rfl ?_ ?_
        · refine Ob.free [(36, some 21), (38, some 23)] (by kernel_rfl) (slST ua ub) rfl rfl (fun a X hE hL => ?_)
          simp [Seen, slotAt, famV, isV] at hL
          obtain ⟨h36, h38⟩ := hL
          rw [relAt_eq]
          go_simp
          exact ⟨(Below.refl _ _).alloc (Nat.le_refl _) _, X.heap.size, rfl, srow_two _ _ _⟩
        refine Obs.cons (j := 26) rfl ?_ ?_
        · refine Ob.free [(39, some 24)] (by kernel_rfl) (isV (.agg #[.int .u64 (wd (orS ua ub) 0), .int .u64 (wd (orS ua ub) 1), .int .u64 (wd (orS ua ub) 2), .int .u64 (wd (orS ua ub) 3)])) rfl rfl (fun a X hE hL => ?_)
          simp [Seen, slotAt, famV] at hL
          have h39 := hL
          rw [relAt_eq]
          obtain ⟨k9, e9, r9⟩ := h39
          go_simp
          rw [relUpon_enter]
          go_at_call 74
          refine (all2_any _ _ X k9 r9).mono ?_
          rintro e Y ⟨rfl, hY⟩
          exact ⟨_, rfl, hY, rfl⟩
        refine Obs.cons (j := 27) rfl ?_ ?_
        · refine Ob.free [(20, some 5), (26, some 11), (32, some 17), (34, some 19), (40, some 25)] (by kernel_rfl) (isV (.agg (factA ⟨true, la + lb, xa + xb, mb, fa, orS ua ub⟩))) rfl rfl (fun a X hE hL => ?_)
          simp [Seen, slotAt, famV, isV] at hL
          obtain ⟨h20, h26, h32, h34, h40⟩ := hL
          rw [relAt_eq]
          go_simp
          exact ⟨Onto.refl _, rfl⟩
        refine Obs.cons (j := 28) rfl ?_ ?_
        · refine Ob.free [] (by kernel_rfl) (newF (g + 3)) rfl rfl (fun a X hE hL => ?_)
          rw [relAt_eq]
          go_simp
          exact ⟨(Below.refl _ _).alloc (Nat.le_refl _) _, X.heap.size, rfl, by have := (onto_drew hE).size; have := HS.out; omega, FactAt.zero X _ rfl⟩
        exact trivial
      case qF =>
        intro x wA hE hV
        simp [AllV, famV, isV] at hV
        obtain ⟨-, -, -, -, -, -, -, -, -, -, -, -, -, -, -, -, -, -, -, -, -, -, -, -, -, -, h41, h5⟩ := hV
        simp only [puts, Act.put, List.setIfInBounds_toArray, List.set_cons_zero, List.set_cons_succ, h41]
        generalize x 15 = y15
        generalize x 16 = y16
        generalize x 17 = y17
        generalize x 18 = y18
        generalize x 19 = y19
        generalize x 20 = y20
        generalize x 21 = y21
        generalize x 22 = y22
        generalize x 23 = y23
        generalize x 24 = y24
        generalize x 25 = y25
        generalize x 26 = y26
        generalize x 27 = y27
        generalize x 28 = y28
        generalize x 29 = y29
        generalize x 30 = y30
        generalize x 31 = y31
        generalize x 32 = y32
        generalize x 33 = y33
        generalize x 34 = y34
        generalize x 35 = y35
        generalize x 36 = y36
        generalize x 37 = y37
        generalize x 38 = y38
        generalize x 39 = y39
        generalize x 40 = y40
        generalize x 5 = y5 at h5 ⊢
        clear h41
        have hbA := onto_drew hE
        obtain ⟨k, rfl, hgk, hk⟩ := h5
        have HK := Lib.hid hk
        have HBA := Lib.hid (HBW.out.trans (hbA.mono (by have := HS.out; omega)))
        have HZA := Lib.hid (HZ.out.onto hbA)
        have HAA := Lib.hid (HA.out.onto hbA)
        have HBB2 := Lib.hid (HB.out.onto hbA)
        clear hE hbA hk
        refine wpAny_ready (rs := [28]) (by kernel_rfl) (by simp) ?_
        refine AllReady.cons rfl (fun K hK => ?_) AllReady.nil
        rw [if_pos (by rfl)]
        refine wp_store_fact _ _ rfl k f0 ⟨true, la + lb, xa + xb, mb, fa, orS ua ub⟩ rfl rfl HK.out ?_
        intro wB hR hBB hO hS
        have HR := Lib.hid hR
        have HBB := Lib.hid (HBA.out.trans (hBB g (by omega)))
        have HZB := Lib.hid (HZA.out.below (hBB (g + 3) (by omega)) (by omega))
        have hdA := HAA.out.below (hBB (g + 3) (by omega)) (by omega)
        have hdB := HBB2.out.below (hBB (g + 3) (by omega)) (by omega)
        have HBSZ : Hid (g + 3 ≤ wB.heap.size) := Lib.hid (by have := hR.lt; omega)
        clear hBB hO hS
        refine hK _ _ ?_
        clear hK K
        try simp only [Act.put, List.getElem_toArray, List.getElem_cons_succ, List.getElem_cons_zero, List.setIfInBounds_toArray, List.set_cons_zero, List.set_cons_succ]
        refine wpAny_done (by kernel_rfl) ?_ _
        have p1 : wB.cell? ⟨g, 1, none⟩ = some (.int .i64 (la : Int)) := hdA.cell (j := 1) rfl
        have q1 : wB.cell? ⟨g + 1, 1, none⟩ = some (.int .i64 (lb : Int)) := hdB.cell (j := 1) rfl
        have p4 : wB.cell? ⟨g, 4, none⟩ = some (.int .u64 (wd fa 0)) := hdA.cell (j := 4) rfl
        have q4 : wB.cell? ⟨g + 1, 4, none⟩ = some (.int .u64 (wd fb 0)) := hdB.cell (j := 4) rfl
        have p5 : wB.cell? ⟨g, 5, none⟩ = some (.int .u64 (wd fa 1)) := hdA.cell (j := 5) rfl
        have q5 : wB.cell? ⟨g + 1, 5, none⟩ = some (.int .u64 (wd fb 1)) := hdB.cell (j := 5) rfl
        have p6 : wB.cell? ⟨g, 6, none⟩ = some (.int .u64 (wd fa 2)) := hdA.cell (j := 6) rfl
        have q6 : wB.cell? ⟨g + 1, 6, none⟩ = some (.int .u64 (wd fb 2)) := hdB.cell (j := 6) rfl
        have p7 : wB.cell? ⟨g, 7, none⟩ = some (.int .u64 (wd fa 3)) := hdA.cell (j := 7) rfl
        have q7 : wB.cell? ⟨g + 1, 7, none⟩ = some (.int .u64 (wd fb 3)) := hdB.cell (j := 7) rfl
        clear c0 d0 c1 d1 c2 d2 c3 d3 c4 d4 c5 d5 c6 d6 c7 d7 c8 d8 c9 d9 c10 d10 c11 d11
        clear hdA hdB
        by_cases hl0 : la = 0
        · have HE : Hid (catF ⟨true, la, xa, false, fa, ua⟩ ⟨true, lb, xb, mb, fb, ub⟩ = ⟨true, la + lb, xa + xb, mb, orS fa fb, orS ua ub⟩) := Lib.hid (by simp [catF, hl0])
          have hl1 : ((la : Int) == 0) = true := by rw [hl0]; rfl
          clear hl0
          go_wp2_with (first
            | (go_at_call 74
               refine (all2_any fa fb _ _ (srow_two _ _ _)).mono ?_
               rintro e wD ⟨rfl, hD⟩
               have hD' : Below wB.heap.size wB wD := ((Below.refl wB.heap.size wB).alloc (Nat.le_refl _) _).trans (hD.mono (by simp))
               have HKD := Lib.hid (hR.onto hD')
               have HZD := Lib.hid (HZB.out.onto hD')
               have HBD := Lib.hid (HBB.out.trans (hD'.mono (by have := HBSZ.out; omega)))
               clear hD hD')
            | (refine wpList_store_first rfl _ _ rfl k _ (orS fa fb) rfl rfl HKD.out ?_
               intro wE hR3 hBE hSE
               have HZE := Lib.hid (HZD.out.below (hBE (g + 3) (by omega)) (by omega))
               have HBE := Lib.hid (HBD.out.trans (hBE g (by omega)))
               have hlR := run_loadF0 wE k _ hR3
               clear hBE hSE)
            | (refine wpList_store_fact rfl _ _ rfl (g + 2) f0 ⟨true, la + lb, xa + xb, mb, orS fa fb, orS ua ub⟩ rfl rfl HZE.out ?_; intro wC hR2 hBC hO2 hS2; have HR2 := Lib.hid hR2; have HBC := Lib.hid (HBE.out.trans (hBC g (by omega))); clear hR2 hBC hO2 hS2))
          refine bodyPost_ret (results_cell_row rfl _ _ (g + 2) 61 _ (0, 0) _ rfl HR2.out Try.underlying61 rfl (sizeFact _)) rfl ⟨ret_fact (by rw [HE.out]), ?_⟩
          first | exact HBC.out | (rw [HG.out]; exact HBC.out)
        · have HE : Hid (catF ⟨true, la, xa, false, fa, ua⟩ ⟨true, lb, xb, mb, fb, ub⟩ = ⟨true, la + lb, xa + xb, mb, fa, orS ua ub⟩) := Lib.hid (by simp [catF, hl0])
          have hl1 : ((la : Int) == 0) = false := by rw [beq_eq_false_iff_ne]; omega
          have hlR := run_loadF0 wB k _ hR
          go_wp2_with (refine wpList_store_fact rfl _ _ rfl (g + 2) f0 ⟨true, la + lb, xa + xb, mb, fa, orS ua ub⟩ rfl rfl HZB.out ?_; intro wC hR2 hBC hO2 hS2; have HR2 := Lib.hid hR2; have HBC := Lib.hid (HBB.out.trans (hBC g (by omega))); clear hR2 hBC hO2 hS2)
          refine bodyPost_ret (results_cell_row rfl _ _ (g + 2) 61 _ (0, 0) _ rfl HR2.out Try.underlying61 rfl (sizeFact _)) rfl ⟨ret_fact (by rw [HE.out]), ?_⟩
          first | exact HBC.out | (rw [HG.out]; exact HBC.out)
end Go.Proofs.Ytbefndibkpjgaaa
