import Derived.Test.YtglagipkpdbhcaaPairMap
import Derived.Test.YtglagipkpdbhcaaRSplit
import Derived.Deep.RegionWith
import Derived.Deep.RegionHeld3
import Derived.Carry
namespace Go.Proofs.Ytglagipkpdbhcaa
open Go.RowKit Go.Sort

/-- The array as far as it has been written. -/
def mixC (q : Nat → Nat × Bool) (C : Nat → Nat) (n : Nat) : Nat → Nat := fun x => if x < n then cls q x else C x
theorem mixC_next (q : Nat → Nat × Bool) (C : Nat → Nat) (n v : Nat) (hv : v = cls q n) (i : Nat) (_h : i < 256) : upd (mixC q C n) n v i = mixC q C (n + 1) i := by
  unfold upd mixC
  by_cases e : i = n
  · subst e; rw [if_pos rfl, if_pos (by omega)]; exact hv
  · rw [if_neg e]
    by_cases h : i < n
    · rw [if_pos h, if_pos (by omega)]
    · rw [if_neg h, if_neg (by omega)]
set_option maxHeartbeats 1000000 in
set_option maxRecDepth 100000 in
theorem split_any (C : Nat → Nat) (S : Nat → Bool) (w : World) :
    Calls Try.prog 8 #[.agg (arrC C), setV S] w fun e w' => e = .returned (.agg (arrC (cls (pairC C S)))) ∧ Below w.heap.size w w' := by
  have hal := run_zero_arr
  have hmm := @run_makeMap Try.prog
  have a0 := BlkAt.new w (.cells (arrC C) 24) _ rfl
  have a1 := ((a0.alloc (setO S)).alloc (.cells (arrC zeroC) 24)).alloc (.map #[] 0)
  have b1 := ((BlkAt.new (w.alloc (.cells (arrC C) 24)) (setO S) (w.heap.size + 1) (by simp)).alloc (.cells (arrC zeroC) 24)).alloc (.map #[] 0)
  have c1 := (BlkAt.new ((w.alloc (.cells (arrC C) 24)).alloc (setO S)) (.cells (arrC zeroC) 24) (w.heap.size + 2) (by simp)).alloc (.map #[] 0)
  have d1 := BlkAt.new (((w.alloc (.cells (arrC C) 24)).alloc (setO S)).alloc (.cells (arrC zeroC) 24)) (.map #[] 0) (w.heap.size + 3) (by simp)
  have bel : Below w.heap.size w ((((w.alloc (.cells (arrC C) 24)).alloc (setO S)).alloc (.cells (arrC zeroC) 24)).alloc (.map #[] 0)) :=
    ((((Below.refl _ _).alloc (Nat.le_refl _) _).alloc (by simp) _).alloc (by simp; omega) _).alloc (by simp; omega) _
  have hs : ((((w.alloc (.cells (arrC C) 24)).alloc (setO S)).alloc (.cells (arrC zeroC) 24)).alloc (.map #[] 0)).heap.size = w.heap.size + 4 := by simp
  have A1 := Lib.hid a1
  have B1 := Lib.hid b1
  have C1 := Lib.hid c1
  have D1 := Lib.hid d1
  have BEL := Lib.hid bel
  have HS := Lib.hid hs
  clear a0 a1 b1 c1 d1 bel hs
  unfold setV
  go_enter Try.func8, Try.ntmps8
  go_wp2
  have x1 : w.heap.size + 2 = w.heap.size + 1 + 1 := rfl
  have x2 : w.heap.size + 3 = w.heap.size + 1 + 1 + 1 := rfl
  rw [x1] at C1
  rw [x2] at D1
  clear x1 x2
  generalize hg3 : w.heap.size + 1 + 1 + 1 = g3 at D1 ⊢
  generalize hg2 : w.heap.size + 1 + 1 = g2 at C1 ⊢
  generalize hg1 : w.heap.size + 1 = g1 at B1 ⊢
  have l0 : w.heap.size + 4 = g3 + 1 := by omega
  have HS2 := Lib.hid (HS.out.trans l0)
  have l1 : w.heap.size < g1 := by omega
  have l2 : g1 < g2 := by omega
  have l3 : g2 < g3 := by omega
  clear hg3 hg2 hg1 l0 HS
  go_loopw [11] (fun i wr => ∃ k : Nat, k ≤ 256 ∧ i = .int .i64 k ∧ ArrAt wr w.heap.size (mixC (pairC C S) C k) ∧ BlkAt wr g1 (setO S) ∧ ArrAt wr g2 zeroC ∧ PMap wr g3 (news (pairC C S) k) ∧ Below w.heap.size w wr ∧ g3 < wr.heap.size) (fun i _ => 256 - (intOf i).toNat)
  case atStart =>
    refine ⟨0, by omega, rfl, ?_, B1.out, C1.out, D1.out, BEL.out, ?_⟩
    · exact ArrAt.congr (C := C) A1.out fun i _ => by simp [mixC]
    · have := HS2.out
      show g3 < ((((w.alloc (.cells (arrC C) 24)).alloc (setO S)).alloc (.cells (arrC zeroC) 24)).alloc (.map #[] 0)).heap.size
      omega
  case round =>
    obtain ⟨k, hk, rfl, hA, hB, hZ, hM, hb, hl⟩ := hrel
    clear A1 B1 C1 D1 BEL HS2
    by_cases hlt : k < 256
    · have hck : mixC (pairC C S) C k k = C k := by simp [mixC]
      have hcell := hA.cell k hlt
      rw [hck] at hcell
      have c0 := setO_cell hB 0 (by omega)
      have c1 := setO_cell hB 1 (by omega)
      have c2 := setO_cell hB 2 (by omega)
      have c3 := setO_cell hB 3 (by omega)
      have lg1 : g1 < wr.heap.size := by omega
      have lg0 : w.heap.size < wr.heap.size := by omega
      have n0 := World.new_ne wr _ hcell
      have n1 := World.new_ne wr _ c0
      have lg1' : g1 < wr.heap.size + 1 := by omega
      have lg0' : w.heap.size < wr.heap.size + 1 := by omega
      have ng0 : ¬ w.heap.size = wr.heap.size := by omega
      have ng1 : ¬ g1 = wr.heap.size := by omega
      have h1 := fun w' => has_any S k w' hlt
      unfold setV at h1
      have H1 := Lib.hid h1
      have wy : IntKind.u8.wrap (k : Int) = k := IntWalk.u8_in _ ⟨by omega, by omega⟩
      have bk : (k : Int) < 256 := by omega
      clear h1 hck
      go_wp2
      go_region_held3 (fun w' => w'.cell? ⟨w.heap.size, k, none⟩ = some (.int .u8 (C k)) ∧ w'.cell? ⟨g1, 0, none⟩ = some (.int .u64 (wd S 0)) ∧ w'.cell? ⟨g1, 1, none⟩ = some (.int .u64 (wd S 1)) ∧ w'.cell? ⟨g1, 2, none⟩ = some (.int .u64 (wd S 2)) ∧ w'.cell? ⟨g1, 3, none⟩ = some (.int .u64 (wd S 3))) (first | go_keep | (go_split_ands; exact ⟨hk1 _ _ (by assumption), hk1 _ _ (by assumption), hk1 _ _ (by assumption), hk1 _ _ (by assumption), hk1 _ _ (by assumption)⟩))
        (first | (go_at_call 21; refine (H1.out _).mono ?_; rintro e w1 ⟨rfl, hb1⟩; have hk1 := keeps hb1; obtain ⟨hc1, hf1⟩ := bcell hb1))
      · have hbZ : Below wr.heap.size wr (w1.alloc (.cells #[.int .u8 (C k), .bool (S k)] 42)) := ((Below.refl _ wr).drew.trans hb1).alloc hb1.size _
        have f0 : (w1.alloc (.cells #[.int .u8 (C k), .bool (S k)] 42)).cell? ⟨w1.heap.size, 0, none⟩ = some (.int .u8 (C k)) := by rw [World.cell?_alloc_new]; rfl
        have f1 : (w1.alloc (.cells #[.int .u8 (C k), .bool (S k)] 42)).cell? ⟨w1.heap.size, 1, none⟩ = some (.bool (S k)) := by rw [World.cell?_alloc_new]; rfl
        have l7 : wr.heap.size ≤ w1.heap.size := hb1.size
        clear hb1 hc1 hf1 hk1
        generalize w1.alloc (.cells #[.int .u8 (C k), .bool (S k)] 42) = wZ at hbZ f0 f1 ⊢
        generalize w1.heap.size = g7 at f0 f1 l7 ⊢
        have hM2 := hM.below hbZ hl
        have hA2 := hA.below hbZ lg0
        have hB2 := hB.below hbZ lg1
        have hZ2 := hZ.below hbZ (by omega)
        have hb2 := hb.trans (hbZ.mono (by omega))
        have hl2 : g3 < wZ.heap.size := by have := hbZ.size; omega
        have hcn := cnt_le (pairC C S) k
        have hnl := news_len (pairC C S) k
        have hfp := findP_news (pairC C S) k k
        have hpk : pairC C S k = (C k, S k) := rfl
        rw [hpk] at hfp
        have hLen := run_len_pair 3 _ _ _ hM2
        have HNL := Lib.hid hnl
        have lg7a : g7 ≠ w.heap.size := by omega
        have lg7b : g7 ≠ g3 := by omega
        clear hA hB hZ hM hcell c0 c1 c2 c3 n0 n1 ng0 ng1 lg1' lg0' hnl hpk
        cases hnew : isNew (pairC C S) k
        · have hfk : fi (pairC C S) k < k := by
            have h1 := fi_le (pairC C S) k
            have h2 : fi (pairC C S) k ≠ k := by
              intro e; have : isNew (pairC C S) k = true := by unfold isNew; rw [e]; simp
              rw [this] at hnew; cases hnew
            omega
          rw [if_pos hfk] at hfp
          have HF := Lib.hid hfp
          have HN : Hid (news (pairC C S) (k + 1) = news (pairC C S) k) := by show _ = _; simp [news, hnew]
          have hcc := hA2.cell k hlt
          have hff := hA2.frozen k
          have HA := Lib.hid hA2
          have HM := Lib.hid hM2
          clear hfp hfk hnew hA2 hM2 hLen
          go_wp2_with (first
            | ((with_reducible refine wpList_lookup_hit rfl _ _ rfl (C k, S k) (news (pairC C S) k) g3 (cls (pairC C S) k) ?_ ?_ HM.out HF.out ?_); rfl; rfl)
            | ((with_reducible refine wpList_lookup_plain rfl _ _ rfl (C k, S k) (news (pairC C S) k) g3 (cls (pairC C S) k) ?_ ?_ HM.out HF.out ?_); rfl; rfl))
          go_roundw
          case rel =>
            refine ⟨k + 1, by omega, by go_num, (HA.out.set_ k _ hlt).congr (mixC_next _ _ k _ rfl), ?_, hZ2.far (by show g2 ≠ w.heap.size; omega) _, ?_, hb2.setCell (Nat.le_refl _) _, by simpa [World.setCell] using hl2⟩
            · exact (Below.heap_setCell _ _ _ g1 (by show g1 ≠ w.heap.size; omega)).trans hB2
            · rw [HN.out]; exact (Below.heap_setCell _ _ _ g3 (by show g3 ≠ w.heap.size; omega)).trans HM.out
          case measure => simp [intOf]; omega
        · have hfk : fi (pairC C S) k = k := beq_iff_eq.1 hnew
          have hfk2 : ¬ fi (pairC C S) k < k := by omega
          rw [if_neg hfk2] at hfp
          have HF := Lib.hid hfp
          have hfp2 := findP_news (pairC C S) k (k + 1)
          rw [if_pos (by omega)] at hfp2
          have HN : Hid (news (pairC C S) (k + 1) = news (pairC C S) k ++ [(C k, S k)]) := by show _ = _; simp [news, hnew, pairC]
          rw [HN.out] at hfp2
          have HF2 : Hid (findP (C k, S k) 0 (news (pairC C S) k ++ [(C k, S k)]) = some (cls (pairC C S) k)) := hfp2
          have HA := Lib.hid hA2
          have HM := Lib.hid hM2
          have wl : ((news (pairC C S) k).length : Int) ≤ 255 := by rw [HNL.out]; omega
          clear hfp hfp2 hfk hfk2 hnew hA2 hM2
          go_wp2_with (first
            | ((with_reducible refine wpList_lookup_miss rfl _ _ rfl (C k, S k) (news (pairC C S) k) g3 ?_ ?_ HM.out HF.out ?_); rfl; rfl)
            | ((with_reducible refine wpList_update_pair rfl _ _ _ rfl (C k, S k) (news (pairC C S) k) g3 ?_ ?_ ?_ HM.out HF.out ?_); rfl; rfl; rfl; intro wU hMU hBU hOU hSU; have f0' := (World.cell?_of_block (a := ⟨g7, 0, none⟩) (hOU g7 lg7b)).trans f0; have f1' := (World.cell?_of_block (a := ⟨g7, 1, none⟩) (hOU g7 lg7b)).trans f1; have HAU := Lib.hid (show ArrAt wU w.heap.size (mixC (pairC C S) C k) from (hOU w.heap.size (by omega)).trans HA.out); have hcU := HAU.out.cell k hlt; have hfU := HAU.out.frozen k; have HMU := Lib.hid hMU; have HOU := Lib.hid hOU; have HBU := Lib.hid hBU; have HSU := Lib.hid hSU; clear hMU hOU hBU hSU)
            | ((with_reducible refine wpList_lookup_plain rfl _ _ rfl (C k, S k) (news (pairC C S) k ++ [(C k, S k)]) g3 (cls (pairC C S) k) ?_ ?_ HMU.out HF2.out ?_); rfl; rfl))
          go_roundw
          case rel =>
            refine ⟨k + 1, by omega, by go_num, (HAU.out.set_ k _ hlt).congr (mixC_next _ _ k _ rfl), ?_, ?_, ?_, (hb2.trans (HBU.out _ (by omega))).setCell (Nat.le_refl _) _, ?_⟩
            · exact (Below.heap_setCell _ _ _ g1 (by show g1 ≠ w.heap.size; omega)).trans ((HOU.out g1 (by omega)).trans hB2)
            · exact (Below.heap_setCell _ _ _ g2 (by show g2 ≠ w.heap.size; omega)).trans ((HOU.out g2 (by omega)).trans hZ2)
            · rw [HN.out]; exact (Below.heap_setCell _ _ _ g3 (by show g3 ≠ w.heap.size; omega)).trans HMU.out
            · have := HSU.out
              show g3 < (wU.setCell _ _).heap.size
              simp only [World.setCell, Array.size_modify]
              omega
          case measure => simp [intOf]; omega
      · have hw0 : (wr.alloc (.cells #[.int .u8 0, .bool false] 42)).drew.heap.size = wr.heap.size + 1 := by simp
        have hbA : Below wr.heap.size wr w1 := (((Below.refl _ wr).alloc (Nat.le_refl _) _).drew).trans (hb1.mono (by rw [hw0]; omega))
        have c00 : w1.cell? ⟨wr.heap.size, 0, none⟩ = some (.int .u8 0) := (hb1.cell (p := ⟨wr.heap.size, 0, none⟩) (by rw [hw0]; show wr.heap.size < _; omega)).trans (by rw [World.cell?_drew, World.cell?_alloc_new]; rfl)
        have c01 : w1.cell? ⟨wr.heap.size, 1, none⟩ = some (.bool false) := (hb1.cell (p := ⟨wr.heap.size, 1, none⟩) (by rw [hw0]; show wr.heap.size < _; omega)).trans (by rw [World.cell?_drew, World.cell?_alloc_new]; rfl)
        have hbZ : Below wr.heap.size wr ((w1.setCell ⟨wr.heap.size, 0, none⟩ (.int .u8 (C k))).setCell ⟨wr.heap.size, 1, none⟩ (.bool (S k))) := (hbA.setCell (Nat.le_refl _) _).setCell (Nat.le_refl _) _
        have f0 : ((w1.setCell ⟨wr.heap.size, 0, none⟩ (.int .u8 (C k))).setCell ⟨wr.heap.size, 1, none⟩ (.bool (S k))).cell? ⟨wr.heap.size, 0, none⟩ = some (.int .u8 (C k)) := by
          rw [World.cell?_setCell_other _ _ _ _ (by simp)]
          exact World.cell?_setCell_same _ _ _ c00
        have f1 : ((w1.setCell ⟨wr.heap.size, 0, none⟩ (.int .u8 (C k))).setCell ⟨wr.heap.size, 1, none⟩ (.bool (S k))).cell? ⟨wr.heap.size, 1, none⟩ = some (.bool (S k)) := by
          refine World.cell?_setCell_same (u := .bool false) _ _ _ ?_
          rw [World.cell?_setCell_other _ _ _ _ (by simp)]
          exact c01
        have l7 : wr.heap.size ≤ wr.heap.size := Nat.le_refl _
        have lt7 : wr.heap.size < ((w1.setCell ⟨wr.heap.size, 0, none⟩ (.int .u8 (C k))).setCell ⟨wr.heap.size, 1, none⟩ (.bool (S k))).heap.size := by
          have := hb1.size; rw [hw0] at this; simp only [World.setCell, Array.size_modify]; omega
        clear hb1 hc1 hf1 hk1 c00 c01 hw0 hbA
        generalize (w1.setCell ⟨wr.heap.size, 0, none⟩ (.int .u8 (C k))).setCell ⟨wr.heap.size, 1, none⟩ (.bool (S k)) = wZ at hbZ f0 f1 lt7 ⊢
        generalize hg7 : wr.heap.size = g7 at f0 f1 l7 ⊢
        have hM2 := hM.below hbZ hl
        have hA2 := hA.below hbZ lg0
        have hB2 := hB.below hbZ lg1
        have hZ2 := hZ.below hbZ (by omega)
        have hb2 := hb.trans (hbZ.mono (by omega))
        have hl2 : g3 < wZ.heap.size := by have := hbZ.size; omega
        have hcn := cnt_le (pairC C S) k
        have hnl := news_len (pairC C S) k
        have hfp := findP_news (pairC C S) k k
        have hpk : pairC C S k = (C k, S k) := rfl
        rw [hpk] at hfp
        have hLen := run_len_pair 3 _ _ _ hM2
        have HNL := Lib.hid hnl
        have lg7a : g7 ≠ w.heap.size := by omega
        have lg7b : g7 ≠ g3 := by omega
        clear hA hB hZ hM hcell c0 c1 c2 c3 n0 n1 ng0 ng1 lg1' lg0' hnl hpk
        cases hnew : isNew (pairC C S) k
        · have hfk : fi (pairC C S) k < k := by
            have h1 := fi_le (pairC C S) k
            have h2 : fi (pairC C S) k ≠ k := by
              intro e; have : isNew (pairC C S) k = true := by unfold isNew; rw [e]; simp
              rw [this] at hnew; cases hnew
            omega
          rw [if_pos hfk] at hfp
          have HF := Lib.hid hfp
          have HN : Hid (news (pairC C S) (k + 1) = news (pairC C S) k) := by show _ = _; simp [news, hnew]
          have hcc := hA2.cell k hlt
          have hff := hA2.frozen k
          have HA := Lib.hid hA2
          have HM := Lib.hid hM2
          clear hfp hfk hnew hA2 hM2 hLen
          go_wp2_with (first
            | ((with_reducible refine wpList_lookup_hit rfl _ _ rfl (C k, S k) (news (pairC C S) k) g3 (cls (pairC C S) k) ?_ ?_ HM.out HF.out ?_); rfl; rfl)
            | ((with_reducible refine wpList_lookup_plain rfl _ _ rfl (C k, S k) (news (pairC C S) k) g3 (cls (pairC C S) k) ?_ ?_ HM.out HF.out ?_); rfl; rfl))
          go_roundw
          case rel =>
            refine ⟨k + 1, by omega, by go_num, (HA.out.set_ k _ hlt).congr (mixC_next _ _ k _ rfl), ?_, hZ2.far (by show g2 ≠ w.heap.size; omega) _, ?_, hb2.setCell (Nat.le_refl _) _, by simpa [World.setCell] using hl2⟩
            · exact (Below.heap_setCell _ _ _ g1 (by show g1 ≠ w.heap.size; omega)).trans hB2
            · rw [HN.out]; exact (Below.heap_setCell _ _ _ g3 (by show g3 ≠ w.heap.size; omega)).trans HM.out
          case measure => simp [intOf]; omega
        · have hfk : fi (pairC C S) k = k := beq_iff_eq.1 hnew
          have hfk2 : ¬ fi (pairC C S) k < k := by omega
          rw [if_neg hfk2] at hfp
          have HF := Lib.hid hfp
          have hfp2 := findP_news (pairC C S) k (k + 1)
          rw [if_pos (by omega)] at hfp2
          have HN : Hid (news (pairC C S) (k + 1) = news (pairC C S) k ++ [(C k, S k)]) := by show _ = _; simp [news, hnew, pairC]
          rw [HN.out] at hfp2
          have HF2 : Hid (findP (C k, S k) 0 (news (pairC C S) k ++ [(C k, S k)]) = some (cls (pairC C S) k)) := hfp2
          have HA := Lib.hid hA2
          have HM := Lib.hid hM2
          have wl : ((news (pairC C S) k).length : Int) ≤ 255 := by rw [HNL.out]; omega
          clear hfp hfp2 hfk hfk2 hnew hA2 hM2
          go_wp2_with (first
            | ((with_reducible refine wpList_lookup_miss rfl _ _ rfl (C k, S k) (news (pairC C S) k) g3 ?_ ?_ HM.out HF.out ?_); rfl; rfl)
            | ((with_reducible refine wpList_update_pair rfl _ _ _ rfl (C k, S k) (news (pairC C S) k) g3 ?_ ?_ ?_ HM.out HF.out ?_); rfl; rfl; rfl; intro wU hMU hBU hOU hSU; have f0' := (World.cell?_of_block (a := ⟨g7, 0, none⟩) (hOU g7 lg7b)).trans f0; have f1' := (World.cell?_of_block (a := ⟨g7, 1, none⟩) (hOU g7 lg7b)).trans f1; have HAU := Lib.hid (show ArrAt wU w.heap.size (mixC (pairC C S) C k) from (hOU w.heap.size (by omega)).trans HA.out); have hcU := HAU.out.cell k hlt; have hfU := HAU.out.frozen k; have HMU := Lib.hid hMU; have HOU := Lib.hid hOU; have HBU := Lib.hid hBU; have HSU := Lib.hid hSU; clear hMU hOU hBU hSU)
            | ((with_reducible refine wpList_lookup_plain rfl _ _ rfl (C k, S k) (news (pairC C S) k ++ [(C k, S k)]) g3 (cls (pairC C S) k) ?_ ?_ HMU.out HF2.out ?_); rfl; rfl))
          go_roundw
          case rel =>
            refine ⟨k + 1, by omega, by go_num, (HAU.out.set_ k _ hlt).congr (mixC_next _ _ k _ rfl), ?_, ?_, ?_, (hb2.trans (HBU.out _ (by omega))).setCell (Nat.le_refl _) _, ?_⟩
            · exact (Below.heap_setCell _ _ _ g1 (by show g1 ≠ w.heap.size; omega)).trans ((HOU.out g1 (by omega)).trans hB2)
            · exact (Below.heap_setCell _ _ _ g2 (by show g2 ≠ w.heap.size; omega)).trans ((HOU.out g2 (by omega)).trans hZ2)
            · rw [HN.out]; exact (Below.heap_setCell _ _ _ g3 (by show g3 ≠ w.heap.size; omega)).trans HMU.out
            · have := HSU.out
              show g3 < (wU.setCell _ _).heap.size
              simp only [World.setCell, Array.size_modify]
              omega
          case measure => simp [intOf]; omega
    · have hk2 : k = 256 := by omega
      have Hk := Lib.hid hk2
      clear hk2
      go_wp2_with (first | (refine wpList_load_arr rfl _ rfl w.heap.size (mixC (pairC C S) C k) rfl hA ?_) | (refine wpList_store_arr rfl _ _ rfl g2 zeroC (mixC (pairC C S) C k) rfl rfl hZ ?_; intro w9 hR hB9 hO9 hS9))
      have hR2 := hR
      rw [Hk.out] at hR2
      have hR3 := hR2.congr (D := cls (pairC C S)) fun i hi => if_pos hi
      refine bodyPost_ret (results_cell_row rfl _ _ g2 24 (arrC (cls (pairC C S))) (0, 0) _ rfl hR3 Try.underlying24 rfl (sizeArr _)) rfl ⟨rfl, ?_⟩
      exact hb.trans (hB9 _ (by omega))
end Go.Proofs.Ytglagipkpdbhcaa
