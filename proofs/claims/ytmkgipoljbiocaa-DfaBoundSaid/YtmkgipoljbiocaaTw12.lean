/- Several texts in one: Bound. -/
import Derived.Test.YtmkgipoljbiocaaTw10
import Derived.Test.YtmkgipoljbiocaaTw11
/- The law of the bound of states. -/
namespace Go.Proofs.Ytmkgipoljbiocaa
open Go.RowKit Go.Sort Go.PlainAid
set_option linter.unusedVariables false
set_option linter.unusedSimpArgs false

theorem fuse_sum {w : World} {a : Option Addr} {n : Nat} {ts : List TkN} (h : TkRow w a n ts) : ∀ k, k ≤ ts.length → (fuseUp (ts.map TkN.o) k).sets.length ≤ tsum (ts.take k) := by
  intro k
  induction k with
  | zero => intro _; simp [fuseUp, net0]
  | succ k ih =>
    intro hk
    have hkt : ts[k]? = some ts[k] := List.getElem?_eq_getElem (by omega)
    have h5 := h.2 ts[k] (List.getElem_mem _)
    have h6 := setsL_len _ _ _ _ h5.1
    have h7 := ih (by omega)
    have e : (fuseUp (ts.map TkN.o) (k + 1)).sets.length = (fuseUp (ts.map TkN.o) k).sets.length + (setsL ts[k].o).length := by
      show ((fuseUp (ts.map TkN.o) k).sets ++ (setsL (((ts.map TkN.o)[k]?).getD none)).take _).length = _
      rw [List.getElem?_map, hkt]
      simp
    rw [e, tsum_take hkt]
    omega
attribute [local go_sem ↓] loadA_eq storeA_eq loadD_eq
set_option maxHeartbeats 8000000 in
set_option maxRecDepth 100000 in
theorem lawBound_any (w : World) (A : Option Addr) (n d : Nat) (ts : List TkN) (less : Nat) (hl : less < 256) (hT : TkAny w A n ts) :
    Calls Try.prog 5 #[.slice A n d, .int .u8 (less : Int)] w fun e w' => e = .returned (.bool true) ∧ Below w.heap.size w w' := by
  have HFW := Lib.hid (few_any w A n d ts hT)
  have HTA := Lib.hid hT
  obtain ⟨g, hg⟩ : ∃ g, w.heap.size = g := ⟨_, rfl⟩
  have HG := Lib.hid hg
  have HKW := Lib.hid (knows_any w)
  obtain ⟨b, hb⟩ : ∃ b, fewT ts = b := ⟨_, rfl⟩
  have HBB := Lib.hid hb
  rw [hb] at HFW
  clear hT hb
  go_enter Try.func5, Try.ntmps5
  go_wp2_with fail
  refine HFW.out.mono ?_
  rintro e w2 ⟨rfl, hw2⟩
  subst w2
  cases b with
  | false =>
    go_wp2_with fail
    refine HKW.out.mono ?_
    rintro e w3 ⟨rfl, hb3⟩
    have HB3 : Hid (Below g w w3) := Lib.hid (by rw [← HG.out]; exact hb3)
    clear hb3
    go_wp2
    go_ret
    exact ⟨rfl, by first | exact HB3.out | (rw [HG.out]; exact HB3.out)⟩
  | true =>
    obtain ⟨htr, hn12⟩ := few_row HTA.out HBB.out
    have HFU := Lib.hid (fuse_cap w A n d ts htr (by omega))
    clear htr
    have HNR := Lib.hid (netR_fuse (ts.map TkN.o))
    obtain ⟨N, hN⟩ : ∃ N, fuseN (ts.map TkN.o) = N := ⟨_, rfl⟩
    rw [hN] at HFU HNR
    have HSZ : Hid (N.sets.length ≤ 1000 ∧ N.first.length ≤ 100000) := Lib.hid (by
      have h1 := fuse_sum (few_row HTA.out HBB.out).1 ts.length (Nat.le_refl _)
      have h7 := HBB.out
      unfold fewT at h7
      simp only [Bool.and_eq_true, decide_eq_true_eq] at h7
      rw [List.take_length] at h1
      have h2 : N.sets.length ≤ 90 := by
        rw [← hN]; unfold fuseN; rw [List.length_map]; omega
      have h3 := (netR_short HNR.out).1
      omega)
    clear hN
    have HBD := Lib.hid (build_bound HNR.out)
    go_wp2_with fail
    refine HFU.out.mono ?_
    rintro e w3 ⟨v, rfl, hn3, hc3, hb3⟩
    have HN_w3 := Lib.hid hn3
    have HC_w3 : Hid (FCap w3 v.fa v.fn) := Lib.hid hc3
    have HB_w3 : Hid (Below g w w3) := Lib.hid (by rw [← HG.out]; exact hb3)
    have HG_w3 : Hid (g ≤ w3.heap.size) := Lib.hid (by rw [← HG.out]; exact hb3.size)
    have HSV : Hid (netR N = true → v.sn ≤ 1000 ∧ v.rn ≤ 100000) := Lib.hid fun _ => by
      have h1 := hn3.s.1
      have h2 := hn3.r.1
      have h3 := HSZ.out
      omega
    have HBLD : Hid (∀ (X : World) (m : Int), NetAt X v N → FCap X v.fa v.fn → Calls Try.prog 9 #[.agg (netA v), .int .i64 m] X fun e w' => ∃ D, e = .returned (.tuple #[.agg (dfA D), .int .i64 (buildR N m).2.1, .int .i64 (buildR N m).2.2]) ∧ MAt w' D (buildR N m).1 ∧ Below X.heap.size X w') := Lib.hid fun X m h1 h2 => dbuild_if X v N m h1 h2 HSV.out
    obtain ⟨XN, hXN⟩ : ∃ X, w3.heap.size = X := ⟨_, rfl⟩
    have HXN := Lib.hid hXN
    have hz : (w3.alloc (.cells #[.slice none 0 0, .slice none 0 0, .slice none 0 0, .slice none 0 0, .slice none 0 0] 27)).heap[XN]? = some (.cells #[.slice none 0 0, .slice none 0 0, .slice none 0 0, .slice none 0 0, .slice none 0 0] 27 (0, 0)) := by rw [← hXN]; exact heap_alloc_new w3 _
    have HZ := Lib.hid hz
    have HBL4 := Lib.hid (HBLD.out)
    clear hn3 hc3 hb3 hz HKW HFW HFU
    go_wp2_with (refine wpList_store_row rfl 27 _ _ rfl XN (netA v) rfl rfl 27 _ HZ.out sizeNet rfl (by simp [netA, Value.oneCell']) ?_; have hx4 := setRow_heap _ XN _ (netA v) _ _ HZ.out; have hb4 := below_setRow' ((Below.refl w3.heap.size w3).alloc (Nat.le_refl _) (.cells #[.slice none 0 0, .slice none 0 0, .slice none 0 0, .slice none 0 0, .slice none 0 0] 27)) (show w3.heap.size ≤ XN by rw [HXN.out]; exact Nat.le_refl _) (netA v); have hl4 : XN < ((w3.alloc (.cells #[.slice none 0 0, .slice none 0 0, .slice none 0 0, .slice none 0 0, .slice none 0 0] 27)).setRow XN (netA v)).heap.size := (Array.getElem?_eq_some_iff.1 hx4).1; generalize (w3.alloc (.cells #[.slice none 0 0, .slice none 0 0, .slice none 0 0, .slice none 0 0, .slice none 0 0] 27)).setRow XN (netA v) = w4 at hx4 hb4 hl4 ⊢; have HX_w4 := Lib.hid hx4; have HL_w4 := Lib.hid hl4; have HB_w4 : Hid (Below g w w4) := Lib.hid (HB_w3.out.trans (hb4.mono HG_w3.out)); have HG_w4 : Hid (g ≤ w4.heap.size) := Lib.hid (Nat.le_trans HG_w3.out hb4.size); have HN_w4 := Lib.hid (HN_w3.out.below hb4); have HC_w4 := Lib.hid (HC_w3.out.below hb4); obtain ⟨n0, n1, n2, n3, n4⟩ := netC (W := w4) (g := XN) (v := v) hx4; clear hx4 hb4 hl4)
    have HB1 := Lib.hid (HBLD.out w4 60 HN_w4.out HC_w4.out)
    obtain ⟨r, hr⟩ : ∃ r, buildR N 60 = r := ⟨_, rfl⟩
    have HCL := Lib.hid (build_cl N 60)
    have HR1 := Lib.hid (HBD.out.1 r hr)
    have HR2 := Lib.hid HBD.out.2
    rw [hr] at HB1 HCL HR2
    clear hr
    obtain ⟨M, kk, ee⟩ := r
    simp only at HB1 HCL HR2 HR1
    refine HB1.out.mono ?_
    rintro e w5 ⟨D1, rfl, hM1, hb5⟩
    have HB_w5 : Hid (Below g w w5) := Lib.hid (HB_w4.out.trans (hb5.mono HG_w4.out))
    have HG_w5 : Hid (g ≤ w5.heap.size) := Lib.hid (Nat.le_trans HG_w4.out hb5.size)
    have HN_w5 := Lib.hid (HN_w4.out.below hb5)
    have HC_w5 := Lib.hid (HC_w4.out.below hb5)
    have HL_w5 : Hid (XN < w5.heap.size) := Lib.hid (Nat.lt_of_lt_of_le HL_w4.out hb5.size)
    have HX_w5 := Lib.hid ((hb5.block XN HL_w4.out).trans HX_w4.out)
    have HM1 := Lib.hid hM1
    clear hM1 hb5 n0 n1 n2 n3 n4
    by_cases he0 : ee = 0
    · subst he0
      obtain ⟨q, rfl, h1, h60, hnx, hsame, hless⟩ := HR1.out rfl
      have HSA := Lib.hid hsame
      have HNX := Lib.hid hnx
      have hb2 := HBLD.out
      obtain ⟨e4, he4⟩ : ∃ x : Int, (if q = 1 then (2 : Int) else 16) = x := ⟨_, rfl⟩
      rw [he4] at hless
      have HLE := Lib.hid hless
      have HE4 := Lib.hid he4
      clear hsame hless hnx HR1 HR2 hb2 he4
      obtain ⟨X1, hX1⟩ : ∃ X, w5.heap.size = X := ⟨_, rfl⟩
      have HS6 := Lib.hid hX1
      have hd6 : DfaAt (w5.alloc (.cells Try.zeroCells32 32)) X1 zeroD := by rw [zc_dfa]; exact DfaAt.new _ _ _ hX1
      have HD6 := Lib.hid hd6
      clear hd6
      go_wp2_with (refine wpList_store_dfa rfl _ _ rfl X1 zeroD D1 rfl rfl HD6.out ?_; intro w6 hD5 hB5 hO5 hS5; have hbz : Below w5.heap.size w5 w6 := ((Below.refl _ w5).alloc (Nat.le_refl _) _).trans (hB5 _ (by rw [HS6.out]; exact Nat.le_refl _)); have HZ6 := Lib.hid hbz; have HX6 := Lib.hid hD5; clear hD5 hB5 hO5 hS5 hbz; have HB_w6 : Hid (Below g w w6) := Lib.hid (HB_w5.out.trans (HZ6.out.mono HG_w5.out)); have HG_w6 : Hid (g ≤ w6.heap.size) := Lib.hid (Nat.le_trans HG_w5.out HZ6.out.size); have HN_w6 := Lib.hid (HN_w5.out.below HZ6.out); have HC_w6 := Lib.hid (HC_w5.out.below HZ6.out); have HL_w6 : Hid (XN < w6.heap.size) := Lib.hid (Nat.lt_of_lt_of_le HL_w5.out HZ6.out.size); have HX_w6 := Lib.hid ((HZ6.out.block XN HL_w5.out).trans HX_w5.out); have HM6 := Lib.hid (HM1.out.below HZ6.out); obtain ⟨n0, n1, n2, n3, n4⟩ := netC (W := w6) (g := XN) (v := v) HX_w6.out)
      have hb2 := HBLD.out w6 (q : Int) HN_w6.out HC_w6.out
      rw [HSA.out] at hb2
      simp only at hb2
      have HB2 := Lib.hid hb2
      clear hb2
      refine HB2.out.mono ?_
      rintro e w7 ⟨D3, rfl, hMb, hbb⟩
      have HB_w7 : Hid (Below g w w7) := Lib.hid (HB_w6.out.trans (hbb.mono HG_w6.out))
      have HG_w7 : Hid (g ≤ w7.heap.size) := Lib.hid (Nat.le_trans HG_w6.out hbb.size)
      have HN_w7 := Lib.hid (HN_w6.out.below hbb)
      have HC_w7 := Lib.hid (HC_w6.out.below hbb)
      have HL_w7 : Hid (XN < w7.heap.size) := Lib.hid (Nat.lt_of_lt_of_le HL_w6.out hbb.size)
      have HX_w7 := Lib.hid ((hbb.block XN HL_w6.out).trans HX_w6.out)
      have HMA_w7 := Lib.hid hMb
      have HXA_w7 := Lib.hid (HX6.out.below hbb HX6.out.lt)
      have HM1_w7 := Lib.hid (HM6.out.below hbb)
      have hb4 := fun X h1 h2 => HBLD.out X ((q : Int) - 1) h1 h2
      rw [HLE.out] at hb4
      obtain ⟨r4, hr4⟩ : ∃ r, buildR N ((q : Int) - 1) = r := ⟨_, rfl⟩
      rw [hr4] at hb4
      obtain ⟨M4, k4, e44⟩ := r4
      simp only at hb4
      have HB4 := Lib.hid hb4
      clear hMb hbb hb4 hr4 n0 n1 n2 n3 n4
      obtain ⟨X2, hX2⟩ : ∃ X, w7.heap.size = X := ⟨_, rfl⟩
      have HS8 := Lib.hid hX2
      have hd8 : DfaAt (w7.alloc (.cells Try.zeroCells32 32)) X2 zeroD := by rw [zc_dfa]; exact DfaAt.new _ _ _ hX2
      have HD8 := Lib.hid hd8
      clear hd8
      go_wp2_with (refine wpList_store_dfa rfl _ _ rfl X2 zeroD D3 rfl rfl HD8.out ?_; intro w8 hD5 hB5 hO5 hS5; have hbz : Below w7.heap.size w7 w8 := ((Below.refl _ w7).alloc (Nat.le_refl _) _).trans (hB5 _ (by rw [HS8.out]; exact Nat.le_refl _)); have HZ8 := Lib.hid hbz; have HX8 := Lib.hid hD5; clear hD5 hB5 hO5 hS5 hbz; have HB_w8 : Hid (Below g w w8) := Lib.hid (HB_w7.out.trans (HZ8.out.mono HG_w7.out)); have HG_w8 : Hid (g ≤ w8.heap.size) := Lib.hid (Nat.le_trans HG_w7.out HZ8.out.size); have HN_w8 := Lib.hid (HN_w7.out.below HZ8.out); have HC_w8 := Lib.hid (HC_w7.out.below HZ8.out); have HL_w8 : Hid (XN < w8.heap.size) := Lib.hid (Nat.lt_of_lt_of_le HL_w7.out HZ8.out.size); have HX_w8 := Lib.hid ((HZ8.out.block XN HL_w7.out).trans HX_w7.out); have HXA_w8 := Lib.hid (HXA_w7.out.below HZ8.out HXA_w7.out.lt); have HM1_w8 := Lib.hid (HM1_w7.out.below HZ8.out); have HM3_w8 := Lib.hid (HMA_w7.out.below HZ8.out); obtain ⟨n0, n1, n2, n3, n4⟩ := netC (W := w8) (g := XN) (v := v) HX_w8.out)
      have HB5 := Lib.hid (HB4.out w8 HN_w8.out HC_w8.out)
      refine HB5.out.mono ?_
      rintro e w9 ⟨D4, rfl, hMb, hbb⟩
      have HB_w9 : Hid (Below g w w9) := Lib.hid (HB_w8.out.trans (hbb.mono HG_w8.out))
      have HG_w9 : Hid (g ≤ w9.heap.size) := Lib.hid (Nat.le_trans HG_w8.out hbb.size)
      have HN_w9 := Lib.hid (HN_w8.out.below hbb)
      have HC_w9 := Lib.hid (HC_w8.out.below hbb)
      have HL_w9 : Hid (XN < w9.heap.size) := Lib.hid (Nat.lt_of_lt_of_le HL_w8.out hbb.size)
      have HX_w9 := Lib.hid ((hbb.block XN HL_w8.out).trans HX_w8.out)
      have HMA_w9 := Lib.hid hMb
      have HXA_w9 := Lib.hid (HXA_w8.out.below hbb HXA_w8.out.lt)
      have HXB_w9 := Lib.hid (HX8.out.below hbb HX8.out.lt)
      have HM1_w9 := Lib.hid (HM1_w8.out.below hbb)
      have HM3_w9 := Lib.hid (HM3_w8.out.below hbb)
      have hnl : D1.nl = q := by have h9 := HM1.out.nx.len.1; have h8 := HNX.out; omega
      have HNL := Lib.hid hnl
      clear hMb hbb hnl n0 n1 n2 n3 n4
      obtain ⟨X3, hX3⟩ : ∃ X, w9.heap.size = X := ⟨_, rfl⟩
      have HS10 := Lib.hid hX3
      have hd10 : DfaAt (w9.alloc (.cells Try.zeroCells32 32)) X3 zeroD := by rw [zc_dfa]; exact DfaAt.new _ _ _ hX3
      have HD10 := Lib.hid hd10
      clear hd10
      go_wp2_with (refine wpList_store_dfa rfl _ _ rfl X3 zeroD D4 rfl rfl HD10.out ?_; intro w10 hD5 hB5 hO5 hS5; have hbz : Below w9.heap.size w9 w10 := ((Below.refl _ w9).alloc (Nat.le_refl _) _).trans (hB5 _ (by rw [HS10.out]; exact Nat.le_refl _)); have HZ10 := Lib.hid hbz; have HX10 := Lib.hid hD5; clear hD5 hB5 hO5 hS5 hbz; have HB_w10 : Hid (Below g w w10) := Lib.hid (HB_w9.out.trans (HZ10.out.mono HG_w9.out)); have HG_w10 : Hid (g ≤ w10.heap.size) := Lib.hid (Nat.le_trans HG_w9.out HZ10.out.size); have HN_w10 := Lib.hid (HN_w9.out.below HZ10.out); have HC_w10 := Lib.hid (HC_w9.out.below HZ10.out); have HL_w10 : Hid (XN < w10.heap.size) := Lib.hid (Nat.lt_of_lt_of_le HL_w9.out HZ10.out.size); have HX_w10 := Lib.hid ((HZ10.out.block XN HL_w9.out).trans HX_w9.out); have hxa := HXA_w9.out.below HZ10.out HXA_w9.out.lt; have hxb := HXB_w9.out.below HZ10.out HXB_w9.out.lt; have c257 := hxa.nx; rw [HNL.out] at c257; have hl1 := run_loadD w10 X1 D1 hxa; have hl2 := run_loadD w10 X2 D3 hxb; have HSM := Lib.hid (rsameM_any w10 D1 D3 M (HM1_w9.out.below HZ10.out) (HM3_w9.out.below HZ10.out) HCL.out); clear hxa hxb)
      refine HSM.out.mono ?_
      rintro e w11 ⟨rfl, hbb⟩
      have HB_w11 : Hid (Below g w w11) := Lib.hid (HB_w10.out.trans (hbb.mono HG_w10.out))
      have HG_w11 : Hid (g ≤ w11.heap.size) := Lib.hid (Nat.le_trans HG_w10.out hbb.size)
      have HN_w11 := Lib.hid (HN_w10.out.below hbb)
      have HC_w11 := Lib.hid (HC_w10.out.below hbb)
      have HL_w11 : Hid (XN < w11.heap.size) := Lib.hid (Nat.lt_of_lt_of_le HL_w10.out hbb.size)
      have HX_w11 := Lib.hid ((hbb.block XN HL_w10.out).trans HX_w10.out)
      clear hbb hl1 hl2 c257
      by_cases hq : q = 1
      · have he : e4 = 2 := by rw [← HE4.out, if_pos hq]
        subst he
        have f1 : ¬ (1 : Int) < (q : Int) := by omega
        have f2 : ((q : Int) == 1) = true := by rw [hq]; rfl
        clear hq
        go_wp2_with fail
        refine (knows_any w11).mono ?_
        rintro e wz ⟨rfl, hbz⟩
        have HBN : Hid (Below g w wz) := Lib.hid (HB_w11.out.trans (hbz.mono HG_w11.out))
        clear hbz
        go_wp2
        go_ret
        exact ⟨rfl, by first | exact HBN.out | (rw [HG.out]; exact HBN.out)⟩
      · have he : e4 = 16 := by rw [← HE4.out, if_neg hq]
        subst he
        have f1 : (1 : Int) < (q : Int) := by omega
        clear hq
        go_wp2_with fail
        refine (knows_any w11).mono ?_
        rintro e wz ⟨rfl, hbz⟩
        have HBN : Hid (Below g w wz) := Lib.hid (HB_w11.out.trans (hbz.mono HG_w11.out))
        clear hbz
        go_wp2
        go_ret
        exact ⟨rfl, by first | exact HBN.out | (rw [HG.out]; exact HBN.out)⟩
    · obtain ⟨rfl, hall⟩ := HR2.out he0
      have HALL := Lib.hid hall
      clear hall HR1 HR2 he0
      obtain ⟨X1, hX1⟩ : ∃ X, w5.heap.size = X := ⟨_, rfl⟩
      have HS6 := Lib.hid hX1
      have hd6 : DfaAt (w5.alloc (.cells Try.zeroCells32 32)) X1 zeroD := by rw [zc_dfa]; exact DfaAt.new _ _ _ hX1
      have HD6 := Lib.hid hd6
      clear hd6
      go_wp2_with (refine wpList_store_dfa rfl _ _ rfl X1 zeroD D1 rfl rfl HD6.out ?_; intro w6 hD5 hB5 hO5 hS5; have hbz : Below w5.heap.size w5 w6 := ((Below.refl _ w5).alloc (Nat.le_refl _) _).trans (hB5 _ (by rw [HS6.out]; exact Nat.le_refl _)); have HZ6 := Lib.hid hbz; have HX6 := Lib.hid hD5; clear hD5 hB5 hO5 hS5 hbz; have HB_w6 : Hid (Below g w w6) := Lib.hid (HB_w5.out.trans (HZ6.out.mono HG_w5.out)); have HG_w6 : Hid (g ≤ w6.heap.size) := Lib.hid (Nat.le_trans HG_w5.out HZ6.out.size); have HN_w6 := Lib.hid (HN_w5.out.below HZ6.out); have HC_w6 := Lib.hid (HC_w5.out.below HZ6.out); have HL_w6 : Hid (XN < w6.heap.size) := Lib.hid (Nat.lt_of_lt_of_le HL_w5.out HZ6.out.size); have HX_w6 := Lib.hid ((HZ6.out.block XN HL_w5.out).trans HX_w5.out); have HM6 := Lib.hid (HM1.out.below HZ6.out); obtain ⟨n0, n1, n2, n3, n4⟩ := netC (W := w6) (g := XN) (v := v) HX_w6.out)
      have hm : (60 - (less : Int) % 60) = ((60 - less % 60 : Nat) : Int) := by omega
      have h16 : (buildR N (60 - (less : Int) % 60)).2.2 = 16 := by rw [hm]; exact HALL.out _ (by omega) (by omega)
      have hb2 := HBLD.out w6 (60 - (less : Int) % 60) HN_w6.out HC_w6.out
      rw [h16] at hb2
      generalize (buildR N (60 - (less : Int) % 60)).1 = M2 at hb2
      generalize (buildR N (60 - (less : Int) % 60)).2.1 = k2 at hb2
      have HB2 := Lib.hid hb2
      clear hb2 h16 hm
      refine HB2.out.mono ?_
      rintro e w7 ⟨D3, rfl, hMb, hbb⟩
      have HB_w7 : Hid (Below g w w7) := Lib.hid (HB_w6.out.trans (hbb.mono HG_w6.out))
      have HG_w7 : Hid (g ≤ w7.heap.size) := Lib.hid (Nat.le_trans HG_w6.out hbb.size)
      have HN_w7 := Lib.hid (HN_w6.out.below hbb)
      have HC_w7 := Lib.hid (HC_w6.out.below hbb)
      have HL_w7 : Hid (XN < w7.heap.size) := Lib.hid (Nat.lt_of_lt_of_le HL_w6.out hbb.size)
      have HX_w7 := Lib.hid ((hbb.block XN HL_w6.out).trans HX_w6.out)
      have HMA_w7 := Lib.hid hMb
      clear hMb hbb n0 n1 n2 n3 n4
      obtain ⟨X2, hX2⟩ : ∃ X, w7.heap.size = X := ⟨_, rfl⟩
      have HS8 := Lib.hid hX2
      have hd8 : DfaAt (w7.alloc (.cells Try.zeroCells32 32)) X2 zeroD := by rw [zc_dfa]; exact DfaAt.new _ _ _ hX2
      have HD8 := Lib.hid hd8
      clear hd8
      go_wp2_with (refine wpList_store_dfa rfl _ _ rfl X2 zeroD D3 rfl rfl HD8.out ?_; intro w8 hD5 hB5 hO5 hS5; have hbz : Below w7.heap.size w7 w8 := ((Below.refl _ w7).alloc (Nat.le_refl _) _).trans (hB5 _ (by rw [HS8.out]; exact Nat.le_refl _)); have HZ8 := Lib.hid hbz; have HX8 := Lib.hid hD5; clear hD5 hB5 hO5 hS5 hbz; have HB_w8 : Hid (Below g w w8) := Lib.hid (HB_w7.out.trans (HZ8.out.mono HG_w7.out)); have HG_w8 : Hid (g ≤ w8.heap.size) := Lib.hid (Nat.le_trans HG_w7.out HZ8.out.size); have HN_w8 := Lib.hid (HN_w7.out.below HZ8.out); have HC_w8 := Lib.hid (HC_w7.out.below HZ8.out); have HL_w8 : Hid (XN < w8.heap.size) := Lib.hid (Nat.lt_of_lt_of_le HL_w7.out HZ8.out.size); have HX_w8 := Lib.hid ((HZ8.out.block XN HL_w7.out).trans HX_w7.out))
      refine (knows_any w8).mono ?_
      rintro e wz ⟨rfl, hbz⟩
      have HBN : Hid (Below g w wz) := Lib.hid (HB_w8.out.trans (hbz.mono HG_w8.out))
      clear hbz
      go_wp2
      go_ret
      exact ⟨rfl, by first | exact HBN.out | (rw [HG.out]; exact HBN.out)⟩
end Go.Proofs.Ytmkgipoljbiocaa
