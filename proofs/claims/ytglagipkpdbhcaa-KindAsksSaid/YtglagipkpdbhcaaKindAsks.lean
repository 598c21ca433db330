import Derived.Test.YtglagipkpdbhcaaKindOf
import Derived.Test.YtglagipkpdbhcaaKBytes
import Derived.Lib.BufferRead
import Derived.Test.YtglagipkpdbhcaaFam
namespace Go.Proofs.Ytglagipkpdbhcaa
open Go.RowKit Go.Sort

def strC (l : List Nat) : ByteArray := strOfNums (l.map fun (n : Nat) => (n : Int))
theorem conv_own {W : World} {base : Nat} {v : Value} {l : List Nat} (h : W.ownsRow base 5 1 v l.length (vals l)) : (convert 34 9 v).run Try.prog W = .ok (.string (strC l)) W := by
  rcases h.2 with ⟨rfl, h0⟩ | ⟨g, cap, cur, rfl, hb, hg, hn, hm, hsz, htk⟩
  · have hl : l = [] := List.length_eq_zero_iff.1 h0
    subst hl
    exact Lib.run_convert_nil_bytes W 34 9 5 0 Try.underlying34 Try.underlying5 Try.underlying9
  · exact run_convert_bytes_arg (P := Try.prog) W 34 5 Try.underlying34 Try.underlying5 g 0 l.length cap (l.map fun (n : Nat) => (n : Int)) (by simp) (fun i hi => by
      rw [cell_of_row W g (0 + i) _ _ _ hg]
      have h1 : (cur.toList.take (l.length * 1))[i]? = (vals l)[i]? := by rw [htk]
      rw [List.getElem?_take_of_lt (by omega)] at h1
      simp only [Nat.zero_add]
      rw [← Array.getElem?_toList, h1]
      simp [vals, List.getD, hi]) 9 Try.underlying9
theorem own_below {W W' : World} {base : Nat} {v : Value} {n : Nat} {xs : List Value} (h : W.ownsRow base 5 1 v n xs) (hb : Below W.heap.size W W') : W'.ownsRow base 5 1 v n xs := by
  refine ⟨h.1, ?_⟩
  rcases h.2 with h2 | ⟨g, cap, cur, hv, hbg, hg, r⟩
  · exact Or.inl h2
  · refine Or.inr ⟨g, cap, cur, hv, hbg, ?_, r⟩
    have hlt : g < W.heap.size := by
      rcases Nat.lt_or_ge g W.heap.size with hl | hl
      · exact hl
      · rw [Array.getElem?_eq_none hl] at hg; cases hg
    exact (hb.block g hlt).trans hg
theorem step_ {N : Nat} {W0 X Y : World} (B : Below N W0 X) (n : N ≤ X.heap.size) (b : Below X.heap.size X Y) : Below N W0 Y ∧ N ≤ Y.heap.size := ⟨B.trans (b.mono n), Nat.le_trans n b.size⟩

attribute [local go_sem ↓] loadA_eq storeA_eq eqA_eq eqA_eq'
set_option maxHeartbeats 2000000 in
set_option maxRecDepth 100000 in
theorem kindAsks_any (C : Nat → Nat) (hC : ∀ i, i < 256 → C i < 256) (c : Int) (S : Nat → Bool) (w : World) :
    Calls Try.prog 6 #[.agg (arrC C), .int .i64 c, setV S] w fun e w' => e = .returned (.bool true) ∧ Below w.heap.size w w' := by
  have HK := Lib.hid fun w' => knows_any w'
  have HR := Lib.hid fun w' => right_any C hC w'
  have HRR := Lib.hid fun w' => refright_any C hC w'
  have HW := Lib.hid fun w' => width_any C hC w'
  have HRW := Lib.hid fun w' => refwidth_any C hC w'
  have HB := Lib.hid fun w' => bytes_any C hC c w'
  have HRB := Lib.hid fun w' => refbytes_any C hC c w'
  have HS := fun w' => split_any C S w'
  have HRS := fun w' => refsplit_any C S w'
  have hD : ∀ i, i < 256 → cls (pairC C S) i < 256 := fun i hi => by have := cls_le_self (pairC C S) i; omega
  generalize cls (pairC C S) = D at HS HRS hD
  generalize rightB C = r at HR HRR
  generalize widthC C 256 = m at HW HRW
  generalize bytesC C c 256 = l at HB HRB
  unfold setV at HS HRS ⊢
  have HS := Lib.hid HS
  have HRS := Lib.hid HRS
  have heq := fun w' => run_eqA_refl D hD w'
  have hgd := guard_arr
  obtain ⟨W0, hW0⟩ : ∃ W0, W0 = (w.alloc (.cells (arrC C) 24)).alloc (setO S) := ⟨_, rfl⟩
  have hs0 : W0.heap.size = w.heap.size + 2 := by rw [hW0]; simp
  have B0 : Below (w.heap.size + 2) W0 W0.drew := (Below.refl _ _).drew
  have n0 : w.heap.size + 2 ≤ W0.drew.heap.size := by show w.heap.size + 2 ≤ W0.heap.size; omega
  have bw : Below w.heap.size w W0 := by rw [hW0]; exact ((Below.refl _ _).alloc (Nat.le_refl _) _).alloc (by simp) _
  have FA : Hid (∀ X, Below (w.heap.size + 2) W0 X → ((loadA ⟨w.heap.size, 0, none⟩).run Try.prog X = .ok (.agg (arrC C)) X ∧ X.cell? ⟨w.heap.size + 1, 0, none⟩ = some (.int .u64 (wd S 0)) ∧ X.cell? ⟨w.heap.size + 1, 1, none⟩ = some (.int .u64 (wd S 1)) ∧ X.cell? ⟨w.heap.size + 1, 2, none⟩ = some (.int .u64 (wd S 2)) ∧ X.cell? ⟨w.heap.size + 1, 3, none⟩ = some (.int .u64 (wd S 3)))) := by
    show ∀ X, _
    intro X B
    have hA : ArrAt X w.heap.size C := ((show ArrAt W0 w.heap.size C by rw [hW0]; exact (ArrAt.new w C).alloc _)).below B (by omega)
    have hb := ((show BlkAt W0 (w.heap.size + 1) (setO S) by rw [hW0]; exact BlkAt.new _ _ _ (by simp))).below B (by omega)
    exact ⟨run_loadA X _ _ hA, setO_cell hb 0 (by decide), setO_cell hb 1 (by decide), setO_cell hb 2 (by decide), setO_cell hb 3 (by decide)⟩
  have BW := Lib.hid bw
  have HX : Hid (∀ X, Onto W0.drew X → Below (w.heap.size + 2) W0 X) := by
    show ∀ X, _
    intro X h
    exact B0.trans (h.mono n0)
  clear hD hs0 bw
  unfold setO at hW0
  go_enter Try.func6, Try.ntmps6
  go_wp2_with fail
  rw [← hW0]
  clear hW0
  refine wp_region_fam_lit (E := Onto)
    [isV (.agg (arrC C)),
     isV (.bool r),
     isV (.agg (arrC C)),
     isV (.bool r),
     isV (.bool true),
     isV (.bool true),
     isV (.agg (arrC C)),
     isV (.int .i64 m),
     isV (.agg (arrC C)),
     isV (.int .i64 m),
     isV (.bool true),
     isV (.bool true),
     isV (.bool true),
     isV (.agg (arrC C)),
     isV (.int .i64 c),
     fun u Y => Y.ownsRow W0.heap.size 5 1 u l.length (vals l),
     isV (.string (strC l)),
     isV (.agg (arrC C)),
     isV (.int .i64 c),
     fun u Y => Y.ownsRow W0.heap.size 5 1 u l.length (vals l),
     isV (.string (strC l)),
     isV (.bool true),
     isV (.bool true),
     isV (.bool true),
     isV (.agg (arrC C)),
     isV (.agg #[.int .u64 (wd S 0), .int .u64 (wd S 1), .int .u64 (wd S 2), .int .u64 (wd S 3)]),
     isV (.agg (arrC D)),
     isV (.agg (arrC C)),
     isV (.agg #[.int .u64 (wd S 0), .int .u64 (wd S 1), .int .u64 (wd S 2), .int .u64 (wd S 3)]),
     isV (.agg (arrC D)),
     isV (.bool true),
     isV (.bool true),
     isV (.bool true),
     isV (.bool true),
     isV (.bool true),
     isV (.bool true)]
    [some 7, some 8, some 9, some 10, some 11, some 12, some 13, some 14, some 15, some 16, some 17, some 18, some 19, some 20, some 21, some 22, some 23, some 24, some 25, some 26, some 27, some 28, some 29, some 30, some 31, some 32, some 33, some 34, some 35, some 36, some 37, some 38, some 39, some 40, some 41, some 6] (by kernel_rfl) rfl (by kernel_rfl) rfl Onto.trans Onto.refl ?mono ?ob ?q
  case mono => exact ⟨isV_mono _ _, isV_mono _ _, isV_mono _ _, isV_mono _ _, isV_mono _ _, isV_mono _ _, isV_mono _ _, isV_mono _ _, isV_mono _ _, isV_mono _ _, isV_mono _ _, isV_mono _ _, isV_mono _ _, isV_mono _ _, isV_mono _ _, fun _ _ _ h e => own_below h e, isV_mono _ _, isV_mono _ _, isV_mono _ _, fun _ _ _ h e => own_below h e, isV_mono _ _, isV_mono _ _, isV_mono _ _, isV_mono _ _, isV_mono _ _, isV_mono _ _, isV_mono _ _, isV_mono _ _, isV_mono _ _, isV_mono _ _, isV_mono _ _, isV_mono _ _, isV_mono _ _, isV_mono _ _, isV_mono _ _, isV_mono _ _, trivial⟩
  case ob =>
    refine Obs.cons (j := 1) rfl ?_ ?_
    · refine Ob.free [(3, none)] (by kernel_rfl) (isV (.agg (arrC C))) rfl rfl (fun a X hE hL => ?_)
      simp [Seen, slotAt, famV, isV] at hL
      have h3 := hL
      rw [relAt_eq]
      obtain ⟨g0, g1, g2, g3, g4⟩ := FA.out X (HX.out X hE)
      go_simp
      exact ⟨Onto.refl _, rfl⟩
    refine Obs.cons (j := 2) rfl ?_ ?_
    · refine Ob.free [(7, some 0)] (by kernel_rfl) (isV (.bool r)) rfl rfl (fun a X hE hL => ?_)
      simp [Seen, slotAt, famV, isV] at hL
      have h7 := hL
      rw [relAt_eq]
      go_simp
      rw [relUpon_enter]
      go_at_call 12
      refine (HR.out _).mono ?_
      rintro e Y ⟨rfl, hY⟩
      exact ⟨_, rfl, hY, rfl⟩
    refine Obs.cons (j := 3) rfl ?_ ?_
    · refine Ob.free [(3, none)] (by kernel_rfl) (isV (.agg (arrC C))) rfl rfl (fun a X hE hL => ?_)
      simp [Seen, slotAt, famV, isV] at hL
      have h3 := hL
      rw [relAt_eq]
      obtain ⟨g0, g1, g2, g3, g4⟩ := FA.out X (HX.out X hE)
      go_simp
      exact ⟨Onto.refl _, rfl⟩
    refine Obs.cons (j := 4) rfl ?_ ?_
    · refine Ob.free [(9, some 2)] (by kernel_rfl) (isV (.bool r)) rfl rfl (fun a X hE hL => ?_)
      simp [Seen, slotAt, famV, isV] at hL
      have h9 := hL
      rw [relAt_eq]
      go_simp
      rw [relUpon_enter]
      go_at_call 15
      refine (HRR.out _).mono ?_
      rintro e Y ⟨rfl, hY⟩
      exact ⟨_, rfl, hY, rfl⟩
    refine Obs.cons (j := 5) rfl ?_ ?_
    · refine Ob.free [(8, some 1), (10, some 3)] (by kernel_rfl) (isV (.bool true)) rfl rfl (fun a X hE hL => ?_)
      simp [Seen, slotAt, famV, isV] at hL
      obtain ⟨h8, h10⟩ := hL
      rw [relAt_eq]
      go_simp
      exact ⟨Onto.refl _, rfl⟩
    refine Obs.cons (j := 6) rfl ?_ ?_
    · refine Ob.free [(11, some 4)] (by kernel_rfl) (isV (.bool true)) rfl rfl (fun a X hE hL => ?_)
      simp [Seen, slotAt, famV, isV] at hL
      have h11 := hL
      rw [relAt_eq]
      go_simp
      exact ⟨Onto.refl _, rfl⟩
    refine Obs.cons (j := 7) rfl ?_ ?_
    · refine Ob.guarded [(3, none), (12, some 5)] (by kernel_rfl) (isV (.agg (arrC C))) rfl 5 true 12 rfl rfl (fun a X hE hL => ?_)
      simp [Seen, slotAt, famV, isV] at hL
      obtain ⟨h3, h12⟩ := hL
      refine ⟨by simpa using h12, ?_⟩
      clear h12
      rw [relAt_eq]
      obtain ⟨g0, g1, g2, g3, g4⟩ := FA.out X (HX.out X hE)
      go_simp
      exact ⟨Onto.refl _, rfl⟩
    refine Obs.cons (j := 8) rfl ?_ ?_
    · refine Ob.guarded [(13, some 6), (12, some 5)] (by kernel_rfl) (isV (.int .i64 m)) rfl 5 true 12 rfl rfl (fun a X hE hL => ?_)
      simp [Seen, slotAt, famV, isV] at hL
      obtain ⟨h13, h12⟩ := hL
      refine ⟨by simpa using h12, ?_⟩
      clear h12
      rw [relAt_eq]
      go_simp
      rw [relUpon_enter]
      go_at_call 9
      refine (HW.out _).mono ?_
      rintro e Y ⟨rfl, hY⟩
      exact ⟨_, rfl, hY, rfl⟩
    refine Obs.cons (j := 9) rfl ?_ ?_
    · refine Ob.guarded [(3, none), (12, some 5)] (by kernel_rfl) (isV (.agg (arrC C))) rfl 5 true 12 rfl rfl (fun a X hE hL => ?_)
      simp [Seen, slotAt, famV, isV] at hL
      obtain ⟨h3, h12⟩ := hL
      refine ⟨by simpa using h12, ?_⟩
      clear h12
      rw [relAt_eq]
      obtain ⟨g0, g1, g2, g3, g4⟩ := FA.out X (HX.out X hE)
      go_simp
      exact ⟨Onto.refl _, rfl⟩
    refine Obs.cons (j := 10) rfl ?_ ?_
    · refine Ob.guarded [(15, some 8), (12, some 5)] (by kernel_rfl) (isV (.int .i64 m)) rfl 5 true 12 rfl rfl (fun a X hE hL => ?_)
      simp [Seen, slotAt, famV, isV] at hL
      obtain ⟨h15, h12⟩ := hL
      refine ⟨by simpa using h12, ?_⟩
      clear h12
      rw [relAt_eq]
      go_simp
      rw [relUpon_enter]
      go_at_call 16
      refine (HRW.out _).mono ?_
      rintro e Y ⟨rfl, hY⟩
      exact ⟨_, rfl, hY, rfl⟩
    refine Obs.cons (j := 11) rfl ?_ ?_
    · refine Ob.guarded [(14, some 7), (16, some 9), (12, some 5)] (by kernel_rfl) (isV (.bool true)) rfl 5 true 12 rfl rfl (fun a X hE hL => ?_)
      simp [Seen, slotAt, famV, isV] at hL
      obtain ⟨h14, h16, h12⟩ := hL
      refine ⟨by simpa using h12, ?_⟩
      clear h12
      rw [relAt_eq]
      go_simp
      exact ⟨Onto.refl _, rfl⟩
    refine Obs.cons (j := 12) rfl ?_ ?_
    · refine Ob.free [(12, some 5), (17, some 10)] (by kernel_rfl) (isV (.bool true)) rfl rfl (fun a X hE hL => ?_)
      simp [Seen, slotAt, famV, isV] at hL
      obtain ⟨h12, h17⟩ := hL
      rw [relAt_eq]
      go_simp
      exact ⟨Onto.refl _, rfl⟩
    refine Obs.cons (j := 13) rfl ?_ ?_
    · refine Ob.free [(18, some 11)] (by kernel_rfl) (isV (.bool true)) rfl rfl (fun a X hE hL => ?_)
      simp [Seen, slotAt, famV, isV] at hL
      have h18 := hL
      rw [relAt_eq]
      go_simp
      exact ⟨Onto.refl _, rfl⟩
    refine Obs.cons (j := 14) rfl ?_ ?_
    · refine Ob.guarded [(3, none), (19, some 12)] (by kernel_rfl) (isV (.agg (arrC C))) rfl 12 true 19 rfl rfl (fun a X hE hL => ?_)
      simp [Seen, slotAt, famV, isV] at hL
      obtain ⟨h3, h19⟩ := hL
      refine ⟨by simpa using h19, ?_⟩
      clear h19
      rw [relAt_eq]
      obtain ⟨g0, g1, g2, g3, g4⟩ := FA.out X (HX.out X hE)
      go_simp
      exact ⟨Onto.refl _, rfl⟩
    refine Obs.cons (j := 15) rfl ?_ ?_
    · refine Ob.guarded [(1, none), (19, some 12)] (by kernel_rfl) (isV (.int .i64 c)) rfl 12 true 19 rfl rfl (fun a X hE hL => ?_)
      simp [Seen, slotAt, famV, isV] at hL
      obtain ⟨h1, h19⟩ := hL
      refine ⟨by simpa using h19, ?_⟩
      clear h19
      rw [relAt_eq]
      go_simp
      exact ⟨Onto.refl _, rfl⟩
    refine Obs.cons (j := 16) rfl ?_ ?_
    · refine Ob.guarded [(20, some 13), (21, some 14), (19, some 12)] (by kernel_rfl) (fun u Y => Y.ownsRow W0.heap.size 5 1 u l.length (vals l)) rfl 12 true 19 rfl rfl (fun a X hE hL => ?_)
      simp [Seen, slotAt, famV, isV] at hL
      obtain ⟨h20, h21, h19⟩ := hL
      refine ⟨by simpa using h19, ?_⟩
      clear h19
      rw [relAt_eq]
      go_simp
      rw [relUpon_enter]
      go_at_call 13
      refine (HB.out _).mono ?_
      rintro e Y ⟨u, rfl, ho, hY⟩
      exact ⟨_, rfl, hY, own_mono ho (HX.out X hE).size⟩
    refine Obs.cons (j := 17) rfl ?_ ?_
    · refine Ob.guarded [(22, some 15), (19, some 12)] (by kernel_rfl) (isV (.string (strC l))) rfl 12 true 19 rfl rfl (fun a X hE hL => ?_)
      simp [Seen, slotAt, famV, isV] at hL
      obtain ⟨h22, h19⟩ := hL
      refine ⟨by simpa using h19, ?_⟩
      clear h19
      rw [relAt_eq]
      have cv := conv_own h22
      go_simp
      exact ⟨Onto.refl _, rfl⟩
    refine Obs.cons (j := 18) rfl ?_ ?_
    · refine Ob.guarded [(3, none), (19, some 12)] (by kernel_rfl) (isV (.agg (arrC C))) rfl 12 true 19 rfl rfl (fun a X hE hL => ?_)
      simp [Seen, slotAt, famV, isV] at hL
      obtain ⟨h3, h19⟩ := hL
      refine ⟨by simpa using h19, ?_⟩
      clear h19
      rw [relAt_eq]
      obtain ⟨g0, g1, g2, g3, g4⟩ := FA.out X (HX.out X hE)
      go_simp
      exact ⟨Onto.refl _, rfl⟩
    refine Obs.cons (j := 19) rfl ?_ ?_
    · refine Ob.guarded [(1, none), (19, some 12)] (by kernel_rfl) (isV (.int .i64 c)) rfl 12 true 19 rfl rfl (fun a X hE hL => ?_)
      simp [Seen, slotAt, famV, isV] at hL
      obtain ⟨h1, h19⟩ := hL
      refine ⟨by simpa using h19, ?_⟩
      clear h19
      rw [relAt_eq]
      go_simp
      exact ⟨Onto.refl _, rfl⟩
    refine Obs.cons (j := 20) rfl ?_ ?_
    · refine Ob.guarded [(24, some 17), (25, some 18), (19, some 12)] (by kernel_rfl) (fun u Y => Y.ownsRow W0.heap.size 5 1 u l.length (vals l)) rfl 12 true 19 rfl rfl (fun a X hE hL => ?_)
      simp [Seen, slotAt, famV, isV] at hL
      obtain ⟨h24, h25, h19⟩ := hL
      refine ⟨by simpa using h19, ?_⟩
      clear h19
      rw [relAt_eq]
      go_simp
      rw [relUpon_enter]
      go_at_call 17
      refine (HRB.out _).mono ?_
      rintro e Y ⟨u, rfl, ho, hY⟩
      exact ⟨_, rfl, hY, own_mono ho (HX.out X hE).size⟩
    refine Obs.cons (j := 21) rfl ?_ ?_
    · refine Ob.guarded [(26, some 19), (19, some 12)] (by kernel_rfl) (isV (.string (strC l))) rfl 12 true 19 rfl rfl (fun a X hE hL => ?_)
      simp [Seen, slotAt, famV, isV] at hL
      obtain ⟨h26, h19⟩ := hL
      refine ⟨by simpa using h19, ?_⟩
      clear h19
      rw [relAt_eq]
      have cv := conv_own h26
      go_simp
      exact ⟨Onto.refl _, rfl⟩
    refine Obs.cons (j := 22) rfl ?_ ?_
    · refine Ob.guarded [(23, some 16), (27, some 20), (19, some 12)] (by kernel_rfl) (isV (.bool true)) rfl 12 true 19 rfl rfl (fun a X hE hL => ?_)
      simp [Seen, slotAt, famV, isV] at hL
      obtain ⟨h23, h27, h19⟩ := hL
      refine ⟨by simpa using h19, ?_⟩
      clear h19
      rw [relAt_eq]
      go_simp
      exact ⟨Onto.refl _, rfl⟩
    refine Obs.cons (j := 23) rfl ?_ ?_
    · refine Ob.free [(19, some 12), (28, some 21)] (by kernel_rfl) (isV (.bool true)) rfl rfl (fun a X hE hL => ?_)
      simp [Seen, slotAt, famV, isV] at hL
      obtain ⟨h19, h28⟩ := hL
      rw [relAt_eq]
      go_simp
      exact ⟨Onto.refl _, rfl⟩
    refine Obs.cons (j := 24) rfl ?_ ?_
    · refine Ob.free [(29, some 22)] (by kernel_rfl) (isV (.bool true)) rfl rfl (fun a X hE hL => ?_)
      simp [Seen, slotAt, famV, isV] at hL
      have h29 := hL
      rw [relAt_eq]
      go_simp
      exact ⟨Onto.refl _, rfl⟩
    refine Obs.cons (j := 25) rfl ?_ ?_
    · refine Ob.guarded [(3, none), (30, some 23)] (by kernel_rfl) (isV (.agg (arrC C))) rfl 23 true 30 rfl rfl (fun a X hE hL => ?_)
      simp [Seen, slotAt, famV, isV] at hL
      obtain ⟨h3, h30⟩ := hL
      refine ⟨by simpa using h30, ?_⟩
      clear h30
      rw [relAt_eq]
      obtain ⟨g0, g1, g2, g3, g4⟩ := FA.out X (HX.out X hE)
      go_simp
      exact ⟨Onto.refl _, rfl⟩
    refine Obs.cons (j := 26) rfl ?_ ?_
    · refine Ob.guarded [(5, none), (30, some 23)] (by kernel_rfl) (isV (.agg #[.int .u64 (wd S 0), .int .u64 (wd S 1), .int .u64 (wd S 2), .int .u64 (wd S 3)])) rfl 23 true 30 rfl rfl (fun a X hE hL => ?_)
      simp [Seen, slotAt, famV, isV] at hL
      obtain ⟨h5, h30⟩ := hL
      refine ⟨by simpa using h30, ?_⟩
      clear h30
      rw [relAt_eq]
      obtain ⟨g0, g1, g2, g3, g4⟩ := FA.out X (HX.out X hE)
      go_simp
      exact ⟨Onto.refl _, rfl⟩
    refine Obs.cons (j := 27) rfl ?_ ?_
    · refine Ob.guarded [(31, some 24), (32, some 25), (30, some 23)] (by kernel_rfl) (isV (.agg (arrC D))) rfl 23 true 30 rfl rfl (fun a X hE hL => ?_)
      simp [Seen, slotAt, famV, isV] at hL
      obtain ⟨h31, h32, h30⟩ := hL
      refine ⟨by simpa using h30, ?_⟩
      clear h30
      rw [relAt_eq]
      go_simp
      rw [relUpon_enter]
      go_at_call 8
      refine (HS.out _).mono ?_
      rintro e Y ⟨rfl, hY⟩
      exact ⟨_, rfl, hY, rfl⟩
    refine Obs.cons (j := 28) rfl ?_ ?_
    · refine Ob.guarded [(3, none), (30, some 23)] (by kernel_rfl) (isV (.agg (arrC C))) rfl 23 true 30 rfl rfl (fun a X hE hL => ?_)
      simp [Seen, slotAt, famV, isV] at hL
      obtain ⟨h3, h30⟩ := hL
      refine ⟨by simpa using h30, ?_⟩
      clear h30
      rw [relAt_eq]
      obtain ⟨g0, g1, g2, g3, g4⟩ := FA.out X (HX.out X hE)
      go_simp
      exact ⟨Onto.refl _, rfl⟩
    refine Obs.cons (j := 29) rfl ?_ ?_
    · refine Ob.guarded [(5, none), (30, some 23)] (by kernel_rfl) (isV (.agg #[.int .u64 (wd S 0), .int .u64 (wd S 1), .int .u64 (wd S 2), .int .u64 (wd S 3)])) rfl 23 true 30 rfl rfl (fun a X hE hL => ?_)
      simp [Seen, slotAt, famV, isV] at hL
      obtain ⟨h5, h30⟩ := hL
      refine ⟨by simpa using h30, ?_⟩
      clear h30
      rw [relAt_eq]
      obtain ⟨g0, g1, g2, g3, g4⟩ := FA.out X (HX.out X hE)
      go_simp
      exact ⟨Onto.refl _, rfl⟩
    refine Obs.cons (j := 30) rfl ?_ ?_
    · refine Ob.guarded [(34, some 27), (35, some 28), (30, some 23)] (by kernel_rfl) (isV (.agg (arrC D))) rfl 23 true 30 rfl rfl (fun a X hE hL => ?_)
      simp [Seen, slotAt, famV, isV] at hL
      obtain ⟨h34, h35, h30⟩ := hL
      refine ⟨by simpa using h30, ?_⟩
      clear h30
      rw [relAt_eq]
      go_simp
      rw [relUpon_enter]
      go_at_call 18
      refine (HRS.out _).mono ?_
      rintro e Y ⟨rfl, hY⟩
      exact ⟨_, rfl, hY, rfl⟩
    refine Obs.cons (j := 31) rfl ?_ ?_
    · refine Ob.guarded [(33, some 26), (36, some 29), (30, some 23)] (by kernel_rfl) (isV (.bool true)) rfl 23 true 30 rfl rfl (fun a X hE hL => ?_)
      simp [Seen, slotAt, famV, isV] at hL
      obtain ⟨h33, h36, h30⟩ := hL
      refine ⟨by simpa using h30, ?_⟩
      clear h30
      rw [relAt_eq]
      go_simp
      exact ⟨Onto.refl _, rfl⟩
    refine Obs.cons (j := 32) rfl ?_ ?_
    · refine Ob.free [(30, some 23), (37, some 30)] (by kernel_rfl) (isV (.bool true)) rfl rfl (fun a X hE hL => ?_)
      simp [Seen, slotAt, famV, isV] at hL
      obtain ⟨h30, h37⟩ := hL
      rw [relAt_eq]
      go_simp
      exact ⟨Onto.refl _, rfl⟩
    refine Obs.cons (j := 33) rfl ?_ ?_
    · refine Ob.free [(38, some 31)] (by kernel_rfl) (isV (.bool true)) rfl rfl (fun a X hE hL => ?_)
      simp [Seen, slotAt, famV, isV] at hL
      have h38 := hL
      rw [relAt_eq]
      go_simp
      exact ⟨Onto.refl _, rfl⟩
    refine Obs.cons (j := 34) rfl ?_ ?_
    · refine Ob.guarded [(39, some 32)] (by kernel_rfl) (isV (.bool true)) rfl 32 true 39 rfl rfl (fun a X hE hL => ?_)
      simp [Seen, slotAt, famV, isV] at hL
      have h39 := hL
      refine ⟨by simpa using h39, ?_⟩
      clear h39
      rw [relAt_eq]
      go_simp
      rw [relUpon_enter]
      go_at_call 7
      refine (HK.out _).mono ?_
      rintro e Y ⟨rfl, hY⟩
      exact ⟨_, rfl, hY, rfl⟩
    refine Obs.cons (j := 35) rfl ?_ ?_
    · refine Ob.free [(39, some 32), (40, some 33)] (by kernel_rfl) (isV (.bool true)) rfl rfl (fun a X hE hL => ?_)
      simp [Seen, slotAt, famV, isV] at hL
      obtain ⟨h39, h40⟩ := hL
      rw [relAt_eq]
      go_simp
      exact ⟨Onto.refl _, rfl⟩
    refine Obs.cons (j := 36) rfl ?_ ?_
    · refine Ob.free [(41, some 34)] (by kernel_rfl) (isV (.bool true)) rfl rfl (fun a X hE hL => ?_)
      simp [Seen, slotAt, famV, isV] at hL
      have h41 := hL
      rw [relAt_eq]
      go_simp
      exact ⟨Onto.refl _, rfl⟩
    exact trivial
  case q =>
    intro x w1 hE hV
    simp [AllV, famV, isV] at hV
    obtain ⟨-, -, -, -, -, -, -, -, -, -, -, -, -, -, -, -, -, -, -, -, -, -, -, -, -, -, -, -, -, -, -, -, -, -, -, h6⟩ := hV
    simp only [puts, Act.put, List.setIfInBounds_toArray, List.set_cons_zero, List.set_cons_succ, h6]
    generalize x 7 = y7
    generalize x 8 = y8
    generalize x 9 = y9
    generalize x 10 = y10
    generalize x 11 = y11
    generalize x 12 = y12
    generalize x 13 = y13
    generalize x 14 = y14
    generalize x 15 = y15
    generalize x 16 = y16
    generalize x 17 = y17
    generalize x 18 = y18
    generalize x 19 = y19
    generalize x 20 = y20
    generalize x 21 = y21
    generalize x 22 = y22
    generalize x 23 = y23
    generalize x 24 = y24
    generalize x 25 = y25
    generalize x 26 = y26
    generalize x 27 = y27
    generalize x 28 = y28
    generalize x 29 = y29
    generalize x 30 = y30
    generalize x 31 = y31
    generalize x 32 = y32
    generalize x 33 = y33
    generalize x 34 = y34
    generalize x 35 = y35
    generalize x 36 = y36
    generalize x 37 = y37
    generalize x 38 = y38
    generalize x 39 = y39
    generalize x 40 = y40
    generalize x 41 = y41
    clear h6
    go_wp2
    go_ret
    exact ⟨rfl, BW.out.trans ((HX.out w1 hE).mono (by omega))⟩
theorem kindAsks_walk (C : Nat → Nat) (hC : ∀ i, C i < 256) (c : Int) (S : Nat → Bool) (w : World) (_ : (Lit.int .i64 c).wf = true) :
    Calls Try.prog 6 #[.agg (arrC C), .int .i64 c, setV S] w fun e w' => e = .returned (.bool true) ∧ Below w.heap.size w w' := kindAsks_any C (fun i _ => hC i) c S w
end Go.Proofs.Ytglagipkpdbhcaa
