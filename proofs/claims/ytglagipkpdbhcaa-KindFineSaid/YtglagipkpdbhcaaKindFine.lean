
import Derived.Test.YtglagipkpdbhcaaKFineLaw
import Derived.Test.YtglagipkpdbhcaaKindParts
import Derived.Test.YtglagipkpdbhcaaFam
import Derived.Test.YtglagipkpdbhcaaOwn
namespace Go.Proofs.Ytglagipkpdbhcaa
open Go.RowKit Go.Sort

theorem fine_start (w3 : World) (C : Nat → Nat) : ∃ WA, WA = ((w3.alloc (.cells (arrC zeroC) 24)).setRow w3.heap.size (arrC C)).alloc (.cells #[] 5) ∧ ArrAt WA w3.heap.size C ∧ WA.heap.size = w3.heap.size + 2 ∧
    WA.ownsRow (w3.heap.size + 1) 5 1 (.slice (some ⟨w3.heap.size + 1, 0, none⟩) 0 0) 0 [] ∧ Below w3.heap.size w3 WA := by
  have h1 : ((w3.alloc (.cells (arrC zeroC) 24)).setRow w3.heap.size (arrC C)).heap.size = w3.heap.size + 1 := by simp
  refine ⟨_, rfl, ((ArrAt.new w3 zeroC).row).alloc _, by simp, ?_, ?_⟩
  · have hm := World.ownsRow_made (base := w3.heap.size + 1) (e := 5) (size := 1) ((w3.alloc (.cells (arrC zeroC) 24)).setRow w3.heap.size (arrC C)) #[] 0 (by omega) (by decide) rfl
    rw [h1] at hm
    exact hm
  · exact (below_setRow' ((Below.refl _ _).alloc (Nat.le_refl _) _) (Nat.le_refl _) _).alloc (by omega) _

attribute [local go_sem ↓] loadA_eq storeA_eq eqA_eq eqA_eq'
set_option maxHeartbeats 2000000 in
set_option maxRecDepth 100000 in
theorem kindFine_any (ls : List (Nat → Bool)) (a : Option Addr) (len cap : Nat) (w : World) (h : SRow w a len ls) :
    Calls Try.prog 5 #[.slice a len cap] w fun e w' => e = .returned (.bool true) ∧ Below w.heap.size w w' := by
  have hal := run_zero_arr
  have hbu := run_build_arr
  have hl2 := h.2.1
  have Hl := Lib.hid h.1
  have HK := Lib.hid fun w' => knows_any w'
  by_cases h20 : (20 : Int) < len
  · go_enter Try.func5, Try.ntmps5
    go_wp2_with (first
      | (go_at_call 7; (with_reducible refine (HK.out _).mono ?_); rintro e w1 ⟨rfl, hb1⟩))
    go_ret
    exact ⟨rfl, hb1⟩
  · have HOF := Lib.hid (of_any ls a len cap w h)
    have W1 := width_pos ls
    have W2 := width_256 ls
    obtain ⟨n, hn⟩ : ∃ n, widthC (clsL ls) 256 = n := ⟨_, rfl⟩
    have Hn := Lib.hid hn
    rw [hn] at HOF W1 W2
    clear hn
    have j1 : ¬ ((n : Int) < 1) := by omega
    have j2 : ¬ ((256 : Int) < n) := by omega
    have j3 : decide ((n : Int) < 1) = false := decide_eq_false j1
    have j4 : decide ((256 : Int) < n) = false := decide_eq_false j2
    obtain ⟨C, hC⟩ : ∃ C, clsL ls = C := ⟨_, rfl⟩
    have HC := Lib.hid hC
    rw [hC] at HOF
    clear hC
    have hC256 : Hid (∀ i, i < 256 → C i < 256) := by show ∀ i, _; intro i hi; rw [← HC.out]; exact clsL_lt ls i hi
    obtain ⟨i0, hi, hz0, hz1, hz2⟩ := info_parts infoU8
    go_enter Try.func5, Try.ntmps5
    go_wp2_with fail
    go_at_call 10; (with_reducible refine HOF.out.mono ?_); rintro e w3 ⟨rfl, hb3⟩; have hs3 := hb3.size; have HZ := Lib.hid (ArrAt.new w3 zeroC)
    have hst := run_storeA (w3.alloc (.cells (arrC zeroC) 24)) w3.heap.size zeroC C HZ.out
    go_wp2_with fail
    obtain ⟨WA, hWA, hAA, hSA, hOA, hBA⟩ := fine_start w3 C
    rw [← hWA]
    clear hWA hst
    have HB := Lib.hid (hb3.trans (hBA.mono hs3))
    have HO := Lib.hid hOA
    have HA := Lib.hid hAA
    obtain ⟨g, hg⟩ : ∃ g, w3.heap.size = g := ⟨_, rfl⟩
    rw [hg] at HO HA hSA hs3 ⊢
    have HS := Lib.hid hSA
    clear hg hb3 hAA hOA hBA hSA HZ j1 j2 j3 j4
    go_loopw [5, 6] (fun v i wr => ∃ c : Nat, c ≤ n ∧ i = .int .i64 c ∧ wr.ownsRow (g + 1) 5 1 v c (vals (leasts ls c)) ∧ ArrAt wr g C ∧ Below w.heap.size w wr ∧ g + 2 ≤ wr.heap.size) (fun _ i _ => n - (intOf i).toNat)
    case atStart => exact ⟨0, by omega, rfl, HO.out, HA.out, HB.out, by rw [HS.out]; omega⟩
    case round =>
      obtain ⟨c, hc, rfl, hown, hA, hb, hsz⟩ := hrel
      clear HB HO HA HS
      have HB := Lib.hid hb
      have HA := Lib.hid hA
      have HO := Lib.hid hown
      clear hb hA hown
      by_cases hlt : c < n
      · have HN := Lib.hid (lt_new ls c (by rw [Hn.out]; exact hlt))
        obtain ⟨l, hl, _, _, hx0⟩ := HN.out
        rw [HC.out] at hl hx0
        have hBY := fun w' => bytes_any C hC256.out c w'
        rw [hl] at hBY
        have hlen := bytesC_len C c 256
        rw [hl] at hlen
        obtain ⟨x0, hx0'⟩ : ∃ x0, ltC C c = x0 := ⟨_, rfl⟩
        have HX0 := Lib.hid hx0'
        rw [hx0'] at hBY hl hlen hx0
        have HL := Lib.hid hl
        clear hx0' hl
        obtain ⟨m, hm⟩ : ∃ m, (x0 :: l).length = m := ⟨_, rfl⟩
        have hmp : 1 ≤ m := by rw [← hm]; simp
        rw [hm] at hBY hlen
        have HM := Lib.hid hm
        have HBY := Lib.hid hBY
        clear hBY hm
        have hld := run_loadA wr g C HA.out
        have jm : ((m : Int) == 0) = false := by simp; omega
        go_wp2_with fail
        go_at_call 13
        refine (HBY.out _).mono ?_
        rintro e w5 ⟨v7, rfl, ho7, hb5⟩
        have hs5 := hb5.size
        obtain ⟨A7, cb, rfl⟩ := own_form ho7
        obtain ⟨gb, rfl, hgb, hgs, hcells⟩ := own_cells ho7 (by omega)
        have HCE := Lib.hid hcells
        have cx0 : w5.cell? ⟨gb, 0, none⟩ = some (.int .u8 (x0 : Nat)) := hcells 0 _ (by simp [vals])
        have hO5 := ownB HO.out hb5
        have hbl := fun k hk => HO.out.lt k hk
        have HBL := Lib.hid hbl
        have hA5 := HA.out.below hb5 (by omega)
        have HA5 := Lib.hid hA5
        have HAP := Lib.hid fun ops rest o a Q hg s x ho hs hx h => app1 (P := Try.prog) (T := 34) Try.underlying34 hi hz0 hz1 hz2 rfl hO5 (u := .int .u8 x0) rfl (by unfold maxLen; omega) (by omega) (by omega) ops rest o a Q hg s x ho hs hx h
        have HB5 := Lib.hid (HB.out.trans (hb5.mono HB.out.size))
        clear hcells hbl hA5 hld
        go_wp2_with (at_builtin; refine HAP.out _ _ _ _ _ rfl _ _ rfl rfl rfl ?_; intro v' w6 hown6 hg6)
        have ho76 := own_other ho7 hO5 (fun k hk e => by
          have h1 : gb = k := by simpa [Value.ownBlock] using hk
          have := (HBL.out k e).2
          omega) hg6
        obtain ⟨gb', hgb', _, hgs6, hcells6⟩ := own_cells ho76 (by omega)
        have hgg : gb = gb' := by simpa using hgb'
        subst hgg
        clear hgb'
        have HC6 := Lib.hid hcells6
        have hg2 : Below (g + 1) w5 w6 := ((Below.refl (g + 1) w5).alloc (by omega) _).grown hg6 (by simp; omega) (fun k hk => (HBL.out k hk).1)
        have HA6 := Lib.hid (HA5.out.below hg2 (by omega))
        have hs35 : w.heap.size ≤ g + 1 := by omega
        have HB6 := Lib.hid (HB5.out.trans (hg2.mono hs35))
        have hs6 : g + 2 ≤ w6.heap.size := by have := hg2.size; omega
        have cx0 : w6.cell? ⟨gb, 0, none⟩ = some (.int .u8 (x0 : Nat)) := hcells6 0 _ (by simp [vals])
        have HX := Lib.hid cx0
        have HO6 := Lib.hid hown6
        clear hcells6 cx0 hown6 hg6 hO5 ho7 ho76 hg2
        go_loopw [8] (fun i wx => ∃ j : Nat, j ≤ len ∧ i = .int .i64 j ∧ Below w6.heap.size w6 wx) (fun i _ => len - (intOf i).toNat)
        case atStart => exact ⟨0, by omega, rfl, Below.refl _ _⟩
        case round =>
          obtain ⟨i, hi2, rfl, hbx⟩ := hrel
          have HBX := Lib.hid hbx
          clear hbx
          by_cases hil : i < len
          · obtain ⟨wo, rfl⟩ : ∃ wo : World, wo = wr := ⟨_, rfl⟩
            go_wp2_with fail
            go_loopw [9] (fun i wx => ∃ j : Nat, j ≤ m ∧ i = .int .i64 j ∧ Below w6.heap.size w6 wx) (fun i _ => m - (intOf i).toNat)
            case atStart => exact ⟨0, by omega, rfl, HBX.out⟩
            case round =>
              obtain ⟨k, hk2, rfl, hby⟩ := hrel
              have HBY2 := Lib.hid hby
              by_cases hkm : k < m
              · obtain ⟨b, off, S, rfl, hbl, hS, c0, c1, c2, c3⟩ := (h.below (HB6.out.trans (hby.mono HB6.out.size))).at_ hil
                obtain ⟨x, hx⟩ : ∃ x, (x0 :: l)[k]? = some x := ⟨(x0 :: l)[k]'(by rw [HM.out]; exact hkm), List.getElem?_eq_getElem _⟩
                have hx256 : x < 256 ∧ S x = S x0 := by
                  have hm1 : x ∈ bytesC C c 256 := by rw [HL.out]; exact List.mem_of_getElem? hx
                  have hm0 : x0 ∈ bytesC C c 256 := by rw [HL.out]; simp
                  have e1 := (bytesC_mem C c x 256).1 hm1
                  have e0 := (bytesC_mem C c x0 256).1 hm0
                  refine ⟨e1.1, same_class ls x x0 ?_ S (List.mem_of_getElem? hS)⟩
                  rw [HC.out]
                  have := e1.2; have := e0.2; omega
                obtain ⟨hxl, hSx⟩ := hx256
                have cx : wr.cell? ⟨gb, k, none⟩ = some (.int .u8 (x : Nat)) := keeps hby _ _ (HC6.out k _ (by unfold vals; rw [List.getElem?_map, hx]; rfl))
                have cx0 : wr.cell? ⟨gb, 0, none⟩ = some (.int .u8 (x0 : Nat)) := keeps hby _ _ HX.out
                have HSX := Lib.hid hSx
                have HHAS : Hid (∀ (n : Nat) (w' : World), n < 256 → Calls Try.prog 14 #[setV S, .int .u8 n] w' fun e w'' => e = .returned (.bool (S n)) ∧ Below w'.heap.size w' w'') := by
                  show ∀ n w', _
                  intro n w' hn; exact refhas_any S n w' hn
                unfold setV at HHAS
                clear hx hS hSx hby
                go_wp2_with fail
                have hm0 : 0 < m := hmp
                have c0 : wr.drew.cell? _ = some _ := c0
                have c1 : wr.drew.cell? _ = some _ := c1
                have c2 : wr.drew.cell? _ = some _ := c2
                have c3 : wr.drew.cell? _ = some _ := c3
                have cx : wr.drew.cell? _ = some _ := cx
                have cx0 : wr.drew.cell? _ = some _ := cx0
                refine wp_region_fam_lit (E := Onto)
                  [isV (.slice (some ⟨b, off, none⟩) len cap),
                   isV (.int .i64 i),
                   isV (.pointer (some ⟨b, off + i * 4, none⟩)),
                   isV (.agg #[.int .u64 (wd S 0), .int .u64 (wd S 1), .int .u64 (wd S 2), .int .u64 (wd S 3)]),
                   isV (.slice (some ⟨gb, 0, none⟩) m cb),
                   isV (.int .i64 k),
                   isV (.pointer (some ⟨gb, k, none⟩)),
                   isV (.int .u8 ((x : Nat) : Int)),
                   isV (.bool (S (x))),
                   isV (.slice (some ⟨b, off, none⟩) len cap),
                   isV (.int .i64 i),
                   isV (.pointer (some ⟨b, off + i * 4, none⟩)),
                   isV (.agg #[.int .u64 (wd S 0), .int .u64 (wd S 1), .int .u64 (wd S 2), .int .u64 (wd S 3)]),
                   isV (.slice (some ⟨gb, 0, none⟩) m cb),
                   isV (.pointer (some ⟨gb, 0, none⟩)),
                   isV (.int .u8 ((x0 : Nat) : Int)),
                   isV (.bool (S (x0))),
                   isV (.bool false)]
                  [some 58, some 59, some 60, some 61, some 62, some 63, some 64, some 65, some 66, some 67, some 68, some 69, some 70, some 71, some 72, some 73, some 74, some 75] (by kernel_rfl) rfl (by kernel_rfl) rfl Onto.trans Onto.refl ?mono ?ob ?q
                case mono => exact ⟨isV_mono _ _, isV_mono _ _, isV_mono _ _, isV_mono _ _, isV_mono _ _, isV_mono _ _, isV_mono _ _, isV_mono _ _, isV_mono _ _, isV_mono _ _, isV_mono _ _, isV_mono _ _, isV_mono _ _, isV_mono _ _, isV_mono _ _, isV_mono _ _, isV_mono _ _, isV_mono _ _, trivial⟩
                case ob =>
                  refine Obs.cons (j := 1) rfl ?_ ?_
                  · refine Ob.free [(0, none)] (by kernel_rfl) (isV (.slice (some ⟨b, off, none⟩) len cap)) rfl rfl (fun a X hE hL => ?_)
                    simp [Seen, slotAt] at hL
                    have h0 := hL
                    rw [relAt_eq]
                    go_simp
                    exact ⟨Onto.refl _, rfl⟩
                  refine Obs.cons (j := 2) rfl ?_ ?_
                  · refine Ob.free [(8, none)] (by kernel_rfl) (isV (.int .i64 i)) rfl rfl (fun a X hE hL => ?_)
                    simp [Seen, slotAt] at hL
                    have h8 := hL
                    rw [relAt_eq]
                    go_simp
                    exact ⟨Onto.refl _, rfl⟩
                  refine Obs.cons (j := 3) rfl ?_ ?_
                  · refine Ob.free [(58, some 0), (59, some 1)] (by kernel_rfl) (isV (.pointer (some ⟨b, off + i * 4, none⟩))) rfl rfl (fun a X hE hL => ?_)
                    simp [Seen, slotAt, famV, isV] at hL
                    obtain ⟨h58, h59⟩ := hL
                    rw [relAt_eq]
                    go_simp
                    exact ⟨Onto.refl _, rfl⟩
                  refine Obs.cons (j := 4) rfl ?_ ?_
                  · refine Ob.free [(60, some 2)] (by kernel_rfl) (isV (.agg #[.int .u64 (wd S 0), .int .u64 (wd S 1), .int .u64 (wd S 2), .int .u64 (wd S 3)])) rfl rfl (fun a X hE hL => ?_)
                    simp [Seen, slotAt, famV, isV] at hL
                    have h60 := hL
                    rw [relAt_eq]
                    have f0 := keeps hE _ _ c0; have f1 := keeps hE _ _ c1; have f2 := keeps hE _ _ c2; have f3 := keeps hE _ _ c3; have f4 := keeps hE _ _ cx; have f5 := keeps hE _ _ cx0
                    go_simp
                    exact ⟨Onto.refl _, rfl⟩
                  refine Obs.cons (j := 5) rfl ?_ ?_
                  · refine Ob.free [(7, none)] (by kernel_rfl) (isV (.slice (some ⟨gb, 0, none⟩) m cb)) rfl rfl (fun a X hE hL => ?_)
                    simp [Seen, slotAt] at hL
                    have h7 := hL
                    rw [relAt_eq]
                    go_simp
                    exact ⟨Onto.refl _, rfl⟩
                  refine Obs.cons (j := 6) rfl ?_ ?_
                  · refine Ob.free [(9, none)] (by kernel_rfl) (isV (.int .i64 k)) rfl rfl (fun a X hE hL => ?_)
                    simp [Seen, slotAt] at hL
                    have h9 := hL
                    rw [relAt_eq]
                    go_simp
                    exact ⟨Onto.refl _, rfl⟩
                  refine Obs.cons (j := 7) rfl ?_ ?_
                  · refine Ob.free [(62, some 4), (63, some 5)] (by kernel_rfl) (isV (.pointer (some ⟨gb, k, none⟩))) rfl rfl (fun a X hE hL => ?_)
                    simp [Seen, slotAt, famV, isV] at hL
                    obtain ⟨h62, h63⟩ := hL
                    rw [relAt_eq]
                    go_simp
                    exact ⟨Onto.refl _, rfl⟩
                  refine Obs.cons (j := 8) rfl ?_ ?_
                  · refine Ob.free [(64, some 6)] (by kernel_rfl) (isV (.int .u8 ((x : Nat) : Int))) rfl rfl (fun a X hE hL => ?_)
                    simp [Seen, slotAt, famV, isV] at hL
                    have h64 := hL
                    rw [relAt_eq]
                    have f0 := keeps hE _ _ c0; have f1 := keeps hE _ _ c1; have f2 := keeps hE _ _ c2; have f3 := keeps hE _ _ c3; have f4 := keeps hE _ _ cx; have f5 := keeps hE _ _ cx0
                    go_simp
                    exact ⟨Onto.refl _, rfl⟩
                  refine Obs.cons (j := 9) rfl ?_ ?_
                  · refine Ob.free [(61, some 3), (65, some 7)] (by kernel_rfl) (isV (.bool (S (x)))) rfl rfl (fun a X hE hL => ?_)
                    simp [Seen, slotAt, famV, isV] at hL
                    obtain ⟨h61, h65⟩ := hL
                    rw [relAt_eq]
                    go_simp
                    rw [relUpon_enter]
                    go_at_call 14
                    refine (HHAS.out (x) _ (by omega)).mono ?_
                    rintro e Y ⟨rfl, hY⟩
                    exact ⟨_, rfl, hY, rfl⟩
                  refine Obs.cons (j := 10) rfl ?_ ?_
                  · refine Ob.free [(0, none)] (by kernel_rfl) (isV (.slice (some ⟨b, off, none⟩) len cap)) rfl rfl (fun a X hE hL => ?_)
                    simp [Seen, slotAt] at hL
                    have h0 := hL
                    rw [relAt_eq]
                    go_simp
                    exact ⟨Onto.refl _, rfl⟩
                  refine Obs.cons (j := 11) rfl ?_ ?_
                  · refine Ob.free [(8, none)] (by kernel_rfl) (isV (.int .i64 i)) rfl rfl (fun a X hE hL => ?_)
                    simp [Seen, slotAt] at hL
                    have h8 := hL
                    rw [relAt_eq]
                    go_simp
                    exact ⟨Onto.refl _, rfl⟩
                  refine Obs.cons (j := 12) rfl ?_ ?_
                  · refine Ob.free [(67, some 9), (68, some 10)] (by kernel_rfl) (isV (.pointer (some ⟨b, off + i * 4, none⟩))) rfl rfl (fun a X hE hL => ?_)
                    simp [Seen, slotAt, famV, isV] at hL
                    obtain ⟨h67, h68⟩ := hL
                    rw [relAt_eq]
                    go_simp
                    exact ⟨Onto.refl _, rfl⟩
                  refine Obs.cons (j := 13) rfl ?_ ?_
                  · refine Ob.free [(69, some 11)] (by kernel_rfl) (isV (.agg #[.int .u64 (wd S 0), .int .u64 (wd S 1), .int .u64 (wd S 2), .int .u64 (wd S 3)])) rfl rfl (fun a X hE hL => ?_)
                    simp [Seen, slotAt, famV, isV] at hL
                    have h69 := hL
                    rw [relAt_eq]
                    have f0 := keeps hE _ _ c0; have f1 := keeps hE _ _ c1; have f2 := keeps hE _ _ c2; have f3 := keeps hE _ _ c3; have f4 := keeps hE _ _ cx; have f5 := keeps hE _ _ cx0
                    go_simp
                    exact ⟨Onto.refl _, rfl⟩
                  refine Obs.cons (j := 14) rfl ?_ ?_
                  · refine Ob.free [(7, none)] (by kernel_rfl) (isV (.slice (some ⟨gb, 0, none⟩) m cb)) rfl rfl (fun a X hE hL => ?_)
                    simp [Seen, slotAt] at hL
                    have h7 := hL
                    rw [relAt_eq]
                    go_simp
                    exact ⟨Onto.refl _, rfl⟩
                  refine Obs.cons (j := 15) rfl ?_ ?_
                  · refine Ob.free [(71, some 13)] (by kernel_rfl) (isV (.pointer (some ⟨gb, 0, none⟩))) rfl rfl (fun a X hE hL => ?_)
                    simp [Seen, slotAt, famV, isV] at hL
                    have h71 := hL
                    rw [relAt_eq]
                    go_simp
                    exact ⟨Onto.refl _, rfl⟩
                  refine Obs.cons (j := 16) rfl ?_ ?_
                  · refine Ob.free [(72, some 14)] (by kernel_rfl) (isV (.int .u8 ((x0 : Nat) : Int))) rfl rfl (fun a X hE hL => ?_)
                    simp [Seen, slotAt, famV, isV] at hL
                    have h72 := hL
                    rw [relAt_eq]
                    have f0 := keeps hE _ _ c0; have f1 := keeps hE _ _ c1; have f2 := keeps hE _ _ c2; have f3 := keeps hE _ _ c3; have f4 := keeps hE _ _ cx; have f5 := keeps hE _ _ cx0
                    go_simp
                    exact ⟨Onto.refl _, rfl⟩
                  refine Obs.cons (j := 17) rfl ?_ ?_
                  · refine Ob.free [(70, some 12), (73, some 15)] (by kernel_rfl) (isV (.bool (S (x0)))) rfl rfl (fun a X hE hL => ?_)
                    simp [Seen, slotAt, famV, isV] at hL
                    obtain ⟨h70, h73⟩ := hL
                    rw [relAt_eq]
                    go_simp
                    rw [relUpon_enter]
                    go_at_call 14
                    refine (HHAS.out (x0) _ (by omega)).mono ?_
                    rintro e Y ⟨rfl, hY⟩
                    exact ⟨_, rfl, hY, rfl⟩
                  refine Obs.cons (j := 18) rfl ?_ ?_
                  · refine Ob.free [(66, some 8), (74, some 16)] (by kernel_rfl) (isV (.bool false)) rfl rfl (fun a X hE hL => ?_)
                    simp [Seen, slotAt, famV, isV] at hL
                    obtain ⟨h66, h74⟩ := hL
                    rw [relAt_eq]
                    have hSx := HSX.out
                    simp only [hSx] at h66
                    clear hSx
                    go_simp
                    exact ⟨Onto.refl _, rfl⟩
                  exact trivial
                case q =>
                  intro x wq hE hV
                  simp [AllV, famV, isV] at hV
                  obtain ⟨-, -, -, -, -, -, -, -, -, -, -, -, -, -, -, -, -, h75⟩ := hV
                  simp only [puts, Act.put, List.setIfInBounds_toArray, List.set_cons_zero, List.set_cons_succ, h75]
                  generalize x 58 = y58
                  generalize x 59 = y59
                  generalize x 60 = y60
                  generalize x 61 = y61
                  generalize x 62 = y62
                  generalize x 63 = y63
                  generalize x 64 = y64
                  generalize x 65 = y65
                  generalize x 66 = y66
                  generalize x 67 = y67
                  generalize x 68 = y68
                  generalize x 69 = y69
                  generalize x 70 = y70
                  generalize x 71 = y71
                  generalize x 72 = y72
                  generalize x 73 = y73
                  generalize x 74 = y74
                  clear h75
                  go_wp2_with fail
                  go_roundw
                  case rel => exact ⟨k + 1, by omega, by go_num, HBY2.out.trans ((onto_drew hE).mono HBY2.out.size)⟩
                  case measure => simp [intOf]; omega
              · go_wp2_with fail
                go_roundw
                case rel => exact ⟨i + 1, by omega, by go_num, HBY2.out⟩
                case measure => simp [intOf]; omega
          · go_wp2_with fail
            go_roundw
            case rel => exact ⟨c + 1, by omega, by go_num, by
              have e := leasts_succ ls c
              rw [HC.out, HX0.out] at e
              rw [e, ← vals_snoc]
              exact ownB HO6.out HBX.out, HA6.out.below HBX.out (by omega), HB6.out.trans (HBX.out.mono HB6.out.size), by have := HBX.out.size; omega⟩
            case measure => simp [intOf]; omega
      · have Hcn : Hid (c = n) := by show c = n; omega
        have hO := HO.out
        rw [Hcn.out] at hO
        obtain ⟨A5, c5, rfl⟩ := own_form hO
        obtain ⟨gl, rfl, _, hgl, hcl⟩ := own_cells hO (by omega)
        have HCL : Hid (∀ k, k < n → wr.cell? ⟨gl, k, none⟩ = some (.int .u8 (ltC C k : Nat))) := by
          show ∀ k, _
          intro k hk
          have := hcl k _ (leasts_at ls n k hk)
          rwa [HC.out] at this
        have HLT : Hid (∀ k, k < n → ltC C k < 256) := by
          show ∀ k, _
          intro k hk
          obtain ⟨_, _, _, _, h5⟩ := lt_new ls k (by rw [Hn.out]; exact hk)
          rwa [HC.out] at h5
        obtain ⟨wb, rfl⟩ : ∃ wb : World, wb = wr := ⟨_, rfl⟩
        clear hcl hO
        go_wp2_with fail
        go_loopw [10] (fun i wx => ∃ c : Nat, 1 ≤ c ∧ c ≤ n ∧ i = .int .i64 c ∧ Below wb.heap.size wb wx) (fun i _ => n - (intOf i).toNat)
        case atStart => exact ⟨1, by omega, by omega, rfl, Below.refl _ _⟩
        case round =>
          obtain ⟨c, hc1, hc2, rfl, hbx⟩ := hrel
          have HBX := Lib.hid hbx
          clear hbx
          by_cases hcn : c < n
          · obtain ⟨wo, rfl⟩ : ∃ wo : World, wo = wr := ⟨_, rfl⟩
            obtain ⟨c0, rfl⟩ : ∃ c0, c = c0 + 1 := ⟨c - 1, by omega⟩
            obtain ⟨y1, hy1⟩ : ∃ y1, ltC C (c0 + 1) = y1 := ⟨_, rfl⟩
            obtain ⟨y0, hy0⟩ : ∃ y0, ltC C c0 = y0 := ⟨_, rfl⟩
            have h1 := HLT.out (c0 + 1) hcn
            have h0 := HLT.out c0 (by omega)
            have hrise := lt_rise ls c0 (by rw [Hn.out]; exact hcn)
            have hall := apartB_all ls c0 (by rw [Hn.out]; exact hcn)
            have g1 := HCL.out (c0 + 1) hcn
            have g0 := HCL.out c0 (by omega)
            rw [HC.out] at hrise hall
            rw [hy1] at h1 hrise hall g1
            rw [hy0] at h0 hrise hall g0
            rw [Hl.out] at hall
            have HG1 := Lib.hid g1
            have HG0 := Lib.hid g0
            have HALL := Lib.hid hall
            obtain ⟨c, hcc⟩ : ∃ c, c0 + 1 = c := ⟨_, rfl⟩
            have hcc' : ((c0 : Int) + 1) = c := by omega
            have Hcc := Lib.hid hcc
            have Hcc' := Lib.hid hcc'
            rw [hcc] at HG1 hcn hc1 hc2 ⊢
            have hcp : c0 < n := by omega
            have hcc2 : IntKind.i64.wrap ((c : Int) - 1) = c0 := by rw [IntWalk.i64_in _ (by omega)]; omega
            have HC2 := Lib.hid hcc2
            clear hy1 hy0 hall g1 g0 hcc hcc' hcc2
            go_wp2_with fail
            go_loopw [11, 12] (fun p i wx => ∃ j : Nat, j ≤ len ∧ i = .int .i64 j ∧ p = .bool (apartB ls y1 y0 j) ∧ Below wb.heap.size wb wx) (fun _ i _ => len - (intOf i).toNat)
            case atStart => exact ⟨0, by omega, rfl, rfl, HBX.out⟩
            case round =>
              obtain ⟨k, hk2, rfl, rfl, hby⟩ := hrel
              have HBY := Lib.hid hby
              have cy1 : wr.cell? ⟨gl, c, none⟩ = some (.int .u8 (y1 : Nat)) := keeps hby _ _ HG1.out
              have cy0 : wr.cell? ⟨gl, c0, none⟩ = some (.int .u8 (y0 : Nat)) := keeps hby _ _ HG0.out
              by_cases hkl : k < len
              · obtain ⟨b, off, S, rfl, hbl, hS, c0', c1, c2, c3⟩ := (h.below (HB.out.trans (hby.mono HB.out.size))).at_ hkl
                have HNX := Lib.hid (apartB_next ls y1 y0 k S hS)
                have HHAS : Hid (∀ (n : Nat) (w' : World), n < 256 → Calls Try.prog 14 #[setV S, .int .u8 n] w' fun e w'' => e = .returned (.bool (S n)) ∧ Below w'.heap.size w' w'') := by
                  show ∀ n w', _
                  intro n w' hn; exact refhas_any S n w' hn
                unfold setV at HHAS
                obtain ⟨q1, hq1⟩ : ∃ q1, S y1 = q1 := ⟨_, rfl⟩
                obtain ⟨q0, hq0⟩ : ∃ q0, S y0 = q0 := ⟨_, rfl⟩
                rw [hq1, hq0] at HNX
                have HQ1 := Lib.hid hq1
                have HQ0 := Lib.hid hq0
                clear hS hby hq1 hq0
                obtain ⟨p, hp⟩ : ∃ p, apartB ls y1 y0 k = p := ⟨_, rfl⟩
                rw [hp] at HNX ⊢
                have HP := Lib.hid hp
                clear hp
                cases p
                · go_wp2_with fail
                  have c0' : wr.drew.cell? _ = some _ := c0'
                  have c1 : wr.drew.cell? _ = some _ := c1
                  have c2 : wr.drew.cell? _ = some _ := c2
                  have c3 : wr.drew.cell? _ = some _ := c3
                  have cy1 : wr.drew.cell? _ = some _ := cy1
                  have cy0 : wr.drew.cell? _ = some _ := cy0
                  refine wp_region_fam_lit (E := Onto)
                    [isV (.bool false),
                     isV (.bool false),
                     isV (.slice (some ⟨b, off, none⟩) len cap),
                     isV (.int .i64 k),
                     isV (.pointer (some ⟨b, off + k * 4, none⟩)),
                     isV (.agg #[.int .u64 (wd S 0), .int .u64 (wd S 1), .int .u64 (wd S 2), .int .u64 (wd S 3)]),
                     isV (.slice (some ⟨gl, 0, none⟩) n c5),
                     isV (.int .i64 c),
                     isV (.pointer (some ⟨gl, c, none⟩)),
                     isV (.int .u8 ((y1 : Nat) : Int)),
                     isV (.bool (S (y1))),
                     isV (.slice (some ⟨b, off, none⟩) len cap),
                     isV (.int .i64 k),
                     isV (.pointer (some ⟨b, off + k * 4, none⟩)),
                     isV (.agg #[.int .u64 (wd S 0), .int .u64 (wd S 1), .int .u64 (wd S 2), .int .u64 (wd S 3)]),
                     isV (.slice (some ⟨gl, 0, none⟩) n c5),
                     isV (.int .i64 c),
                     isV (.int .i64 ((c0 : Nat) : Int)),
                     isV (.pointer (some ⟨gl, c0, none⟩)),
                     isV (.int .u8 ((y0 : Nat) : Int)),
                     isV (.bool (S (y0))),
                     isV (.bool (q1 != q0)),
                     isV (.bool (q1 != q0)),
                     isV (.bool (q1 != q0))]
                    [some 88, some 89, some 90, some 91, some 92, some 93, some 94, some 95, some 96, some 97, some 98, some 99, some 100, some 101, some 102, some 103, some 104, some 105, some 106, some 107, some 108, some 109, some 110, some 11] (by kernel_rfl) rfl (by kernel_rfl) rfl Onto.trans Onto.refl ?mono ?ob ?q
                  case mono => exact ⟨isV_mono _ _, isV_mono _ _, isV_mono _ _, isV_mono _ _, isV_mono _ _, isV_mono _ _, isV_mono _ _, isV_mono _ _, isV_mono _ _, isV_mono _ _, isV_mono _ _, isV_mono _ _, isV_mono _ _, isV_mono _ _, isV_mono _ _, isV_mono _ _, isV_mono _ _, isV_mono _ _, isV_mono _ _, isV_mono _ _, isV_mono _ _, isV_mono _ _, isV_mono _ _, isV_mono _ _, trivial⟩
                  case ob =>
                    refine Obs.cons (j := 1) rfl ?_ ?_
                    · refine Ob.free [(11, none)] (by kernel_rfl) (isV (.bool false)) rfl rfl (fun a X hE hL => ?_)
                      simp [Seen, slotAt] at hL
                      have h11 := hL
                      rw [relAt_eq]
                      go_simp
                      exact ⟨Onto.refl _, rfl⟩
                    refine Obs.cons (j := 2) rfl ?_ ?_
                    · refine Ob.free [(88, some 0)] (by kernel_rfl) (isV (.bool false)) rfl rfl (fun a X hE hL => ?_)
                      simp [Seen, slotAt, famV, isV] at hL
                      have h88 := hL
                      rw [relAt_eq]
                      go_simp
                      exact ⟨Onto.refl _, rfl⟩
                    refine Obs.cons (j := 3) rfl ?_ ?_
                    · refine Ob.guarded [(0, none), (89, some 1)] (by kernel_rfl) (isV (.slice (some ⟨b, off, none⟩) len cap)) rfl 1 false 89 rfl rfl (fun a X hE hL => ?_)
                      simp [Seen, slotAt, famV, isV] at hL
                      obtain ⟨h0, h89⟩ := hL
                      refine ⟨by simpa using h89, ?_⟩
                      clear h89
                      rw [relAt_eq]
                      go_simp
                      exact ⟨Onto.refl _, rfl⟩
                    refine Obs.cons (j := 4) rfl ?_ ?_
                    · refine Ob.guarded [(12, none), (89, some 1)] (by kernel_rfl) (isV (.int .i64 k)) rfl 1 false 89 rfl rfl (fun a X hE hL => ?_)
                      simp [Seen, slotAt, famV, isV] at hL
                      obtain ⟨h12, h89⟩ := hL
                      refine ⟨by simpa using h89, ?_⟩
                      clear h89
                      rw [relAt_eq]
                      go_simp
                      exact ⟨Onto.refl _, rfl⟩
                    refine Obs.cons (j := 5) rfl ?_ ?_
                    · refine Ob.guarded [(90, some 2), (91, some 3), (89, some 1)] (by kernel_rfl) (isV (.pointer (some ⟨b, off + k * 4, none⟩))) rfl 1 false 89 rfl rfl (fun a X hE hL => ?_)
                      simp [Seen, slotAt, famV, isV] at hL
                      obtain ⟨h90, h91, h89⟩ := hL
                      refine ⟨by simpa using h89, ?_⟩
                      clear h89
                      rw [relAt_eq]
                      go_simp
                      exact ⟨Onto.refl _, rfl⟩
                    refine Obs.cons (j := 6) rfl ?_ ?_
                    · refine Ob.guarded [(92, some 4), (89, some 1)] (by kernel_rfl) (isV (.agg #[.int .u64 (wd S 0), .int .u64 (wd S 1), .int .u64 (wd S 2), .int .u64 (wd S 3)])) rfl 1 false 89 rfl rfl (fun a X hE hL => ?_)
                      simp [Seen, slotAt, famV, isV] at hL
                      obtain ⟨h92, h89⟩ := hL
                      refine ⟨by simpa using h89, ?_⟩
                      clear h89
                      rw [relAt_eq]
                      have f0 := keeps hE _ _ c0'; have f1 := keeps hE _ _ c1; have f2 := keeps hE _ _ c2; have f3 := keeps hE _ _ c3; have f4 := keeps hE _ _ cy1; have f5 := keeps hE _ _ cy0
                      go_simp
                      exact ⟨Onto.refl _, rfl⟩
                    refine Obs.cons (j := 7) rfl ?_ ?_
                    · refine Ob.guarded [(5, none), (89, some 1)] (by kernel_rfl) (isV (.slice (some ⟨gl, 0, none⟩) n c5)) rfl 1 false 89 rfl rfl (fun a X hE hL => ?_)
                      simp [Seen, slotAt, famV, isV] at hL
                      obtain ⟨h5, h89⟩ := hL
                      refine ⟨by simpa using h89, ?_⟩
                      clear h89
                      rw [relAt_eq]
                      go_simp
                      exact ⟨Onto.refl _, rfl⟩
                    refine Obs.cons (j := 8) rfl ?_ ?_
                    · refine Ob.guarded [(10, none), (89, some 1)] (by kernel_rfl) (isV (.int .i64 c)) rfl 1 false 89 rfl rfl (fun a X hE hL => ?_)
                      simp [Seen, slotAt, famV, isV] at hL
                      obtain ⟨h10, h89⟩ := hL
                      refine ⟨by simpa using h89, ?_⟩
                      clear h89
                      rw [relAt_eq]
                      go_simp
                      exact ⟨Onto.refl _, rfl⟩
                    refine Obs.cons (j := 9) rfl ?_ ?_
                    · refine Ob.guarded [(94, some 6), (95, some 7), (89, some 1)] (by kernel_rfl) (isV (.pointer (some ⟨gl, c, none⟩))) rfl 1 false 89 rfl rfl (fun a X hE hL => ?_)
                      simp [Seen, slotAt, famV, isV] at hL
                      obtain ⟨h94, h95, h89⟩ := hL
                      refine ⟨by simpa using h89, ?_⟩
                      clear h89
                      rw [relAt_eq]
                      go_simp
                      exact ⟨Onto.refl _, rfl⟩
                    refine Obs.cons (j := 10) rfl ?_ ?_
                    · refine Ob.guarded [(96, some 8), (89, some 1)] (by kernel_rfl) (isV (.int .u8 ((y1 : Nat) : Int))) rfl 1 false 89 rfl rfl (fun a X hE hL => ?_)
                      simp [Seen, slotAt, famV, isV] at hL
                      obtain ⟨h96, h89⟩ := hL
                      refine ⟨by simpa using h89, ?_⟩
                      clear h89
                      rw [relAt_eq]
                      have f0 := keeps hE _ _ c0'; have f1 := keeps hE _ _ c1; have f2 := keeps hE _ _ c2; have f3 := keeps hE _ _ c3; have f4 := keeps hE _ _ cy1; have f5 := keeps hE _ _ cy0
                      go_simp
                      exact ⟨Onto.refl _, rfl⟩
                    refine Obs.cons (j := 11) rfl ?_ ?_
                    · refine Ob.guarded [(93, some 5), (97, some 9), (89, some 1)] (by kernel_rfl) (isV (.bool (S (y1)))) rfl 1 false 89 rfl rfl (fun a X hE hL => ?_)
                      simp [Seen, slotAt, famV, isV] at hL
                      obtain ⟨h93, h97, h89⟩ := hL
                      refine ⟨by simpa using h89, ?_⟩
                      clear h89
                      rw [relAt_eq]
                      go_simp
                      rw [relUpon_enter]
                      go_at_call 14
                      refine (HHAS.out (y1) _ (by omega)).mono ?_
                      rintro e Y ⟨rfl, hY⟩
                      exact ⟨_, rfl, hY, rfl⟩
                    refine Obs.cons (j := 12) rfl ?_ ?_
                    · refine Ob.guarded [(0, none), (89, some 1)] (by kernel_rfl) (isV (.slice (some ⟨b, off, none⟩) len cap)) rfl 1 false 89 rfl rfl (fun a X hE hL => ?_)
                      simp [Seen, slotAt, famV, isV] at hL
                      obtain ⟨h0, h89⟩ := hL
                      refine ⟨by simpa using h89, ?_⟩
                      clear h89
                      rw [relAt_eq]
                      go_simp
                      exact ⟨Onto.refl _, rfl⟩
                    refine Obs.cons (j := 13) rfl ?_ ?_
                    · refine Ob.guarded [(12, none), (89, some 1)] (by kernel_rfl) (isV (.int .i64 k)) rfl 1 false 89 rfl rfl (fun a X hE hL => ?_)
                      simp [Seen, slotAt, famV, isV] at hL
                      obtain ⟨h12, h89⟩ := hL
                      refine ⟨by simpa using h89, ?_⟩
                      clear h89
                      rw [relAt_eq]
                      go_simp
                      exact ⟨Onto.refl _, rfl⟩
                    refine Obs.cons (j := 14) rfl ?_ ?_
                    · refine Ob.guarded [(99, some 11), (100, some 12), (89, some 1)] (by kernel_rfl) (isV (.pointer (some ⟨b, off + k * 4, none⟩))) rfl 1 false 89 rfl rfl (fun a X hE hL => ?_)
                      simp [Seen, slotAt, famV, isV] at hL
                      obtain ⟨h99, h100, h89⟩ := hL
                      refine ⟨by simpa using h89, ?_⟩
                      clear h89
                      rw [relAt_eq]
                      go_simp
                      exact ⟨Onto.refl _, rfl⟩
                    refine Obs.cons (j := 15) rfl ?_ ?_
                    · refine Ob.guarded [(101, some 13), (89, some 1)] (by kernel_rfl) (isV (.agg #[.int .u64 (wd S 0), .int .u64 (wd S 1), .int .u64 (wd S 2), .int .u64 (wd S 3)])) rfl 1 false 89 rfl rfl (fun a X hE hL => ?_)
                      simp [Seen, slotAt, famV, isV] at hL
                      obtain ⟨h101, h89⟩ := hL
                      refine ⟨by simpa using h89, ?_⟩
                      clear h89
                      rw [relAt_eq]
                      have f0 := keeps hE _ _ c0'; have f1 := keeps hE _ _ c1; have f2 := keeps hE _ _ c2; have f3 := keeps hE _ _ c3; have f4 := keeps hE _ _ cy1; have f5 := keeps hE _ _ cy0
                      go_simp
                      exact ⟨Onto.refl _, rfl⟩
                    refine Obs.cons (j := 16) rfl ?_ ?_
                    · refine Ob.guarded [(5, none), (89, some 1)] (by kernel_rfl) (isV (.slice (some ⟨gl, 0, none⟩) n c5)) rfl 1 false 89 rfl rfl (fun a X hE hL => ?_)
                      simp [Seen, slotAt, famV, isV] at hL
                      obtain ⟨h5, h89⟩ := hL
                      refine ⟨by simpa using h89, ?_⟩
                      clear h89
                      rw [relAt_eq]
                      go_simp
                      exact ⟨Onto.refl _, rfl⟩
                    refine Obs.cons (j := 17) rfl ?_ ?_
                    · refine Ob.guarded [(10, none), (89, some 1)] (by kernel_rfl) (isV (.int .i64 c)) rfl 1 false 89 rfl rfl (fun a X hE hL => ?_)
                      simp [Seen, slotAt, famV, isV] at hL
                      obtain ⟨h10, h89⟩ := hL
                      refine ⟨by simpa using h89, ?_⟩
                      clear h89
                      rw [relAt_eq]
                      go_simp
                      exact ⟨Onto.refl _, rfl⟩
                    refine Obs.cons (j := 18) rfl ?_ ?_
                    · refine Ob.guarded [(104, some 16), (89, some 1)] (by kernel_rfl) (isV (.int .i64 ((c0 : Nat) : Int))) rfl 1 false 89 rfl rfl (fun a X hE hL => ?_)
                      simp [Seen, slotAt, famV, isV] at hL
                      obtain ⟨h104, h89⟩ := hL
                      refine ⟨by simpa using h89, ?_⟩
                      clear h89
                      rw [relAt_eq]
                      go_simp
                      exact ⟨Onto.refl _, congrArg _ HC2.out⟩
                    refine Obs.cons (j := 19) rfl ?_ ?_
                    · refine Ob.guarded [(103, some 15), (105, some 17), (89, some 1)] (by kernel_rfl) (isV (.pointer (some ⟨gl, c0, none⟩))) rfl 1 false 89 rfl rfl (fun a X hE hL => ?_)
                      simp [Seen, slotAt, famV, isV] at hL
                      obtain ⟨h103, h105, h89⟩ := hL
                      refine ⟨by simpa using h89, ?_⟩
                      clear h89
                      rw [relAt_eq]
                      go_simp
                      exact ⟨Onto.refl _, rfl⟩
                    refine Obs.cons (j := 20) rfl ?_ ?_
                    · refine Ob.guarded [(106, some 18), (89, some 1)] (by kernel_rfl) (isV (.int .u8 ((y0 : Nat) : Int))) rfl 1 false 89 rfl rfl (fun a X hE hL => ?_)
                      simp [Seen, slotAt, famV, isV] at hL
                      obtain ⟨h106, h89⟩ := hL
                      refine ⟨by simpa using h89, ?_⟩
                      clear h89
                      rw [relAt_eq]
                      have f0 := keeps hE _ _ c0'; have f1 := keeps hE _ _ c1; have f2 := keeps hE _ _ c2; have f3 := keeps hE _ _ c3; have f4 := keeps hE _ _ cy1; have f5 := keeps hE _ _ cy0
                      go_simp
                      exact ⟨Onto.refl _, rfl⟩
                    refine Obs.cons (j := 21) rfl ?_ ?_
                    · refine Ob.guarded [(102, some 14), (107, some 19), (89, some 1)] (by kernel_rfl) (isV (.bool (S (y0)))) rfl 1 false 89 rfl rfl (fun a X hE hL => ?_)
                      simp [Seen, slotAt, famV, isV] at hL
                      obtain ⟨h102, h107, h89⟩ := hL
                      refine ⟨by simpa using h89, ?_⟩
                      clear h89
                      rw [relAt_eq]
                      go_simp
                      rw [relUpon_enter]
                      go_at_call 14
                      refine (HHAS.out (y0) _ (by omega)).mono ?_
                      rintro e Y ⟨rfl, hY⟩
                      exact ⟨_, rfl, hY, rfl⟩
                    refine Obs.cons (j := 22) rfl ?_ ?_
                    · refine Ob.guarded [(98, some 10), (108, some 20), (89, some 1)] (by kernel_rfl) (isV (.bool (q1 != q0))) rfl 1 false 89 rfl rfl (fun a X hE hL => ?_)
                      simp [Seen, slotAt, famV, isV] at hL
                      obtain ⟨h98, h108, h89⟩ := hL
                      refine ⟨by simpa using h89, ?_⟩
                      clear h89
                      rw [relAt_eq]
                      simp only [HQ1.out] at h98
                      simp only [HQ0.out] at h108
                      go_simp
                      exact ⟨Onto.refl _, congrArg Value.bool (by cases q1 <;> cases q0 <;> rfl)⟩
                    refine Obs.cons (j := 23) rfl ?_ ?_
                    · refine Ob.free [(89, some 1), (109, some 21)] (by kernel_rfl) (isV (.bool (q1 != q0))) rfl rfl (fun a X hE hL => ?_)
                      simp [Seen, slotAt, famV, isV] at hL
                      obtain ⟨h89, h109⟩ := hL
                      rw [relAt_eq]
                      go_simp
                      exact ⟨Onto.refl _, rfl⟩
                    refine Obs.cons (j := 24) rfl ?_ ?_
                    · refine Ob.free [(110, some 22)] (by kernel_rfl) (isV (.bool (q1 != q0))) rfl rfl (fun a X hE hL => ?_)
                      simp [Seen, slotAt, famV, isV] at hL
                      have h110 := hL
                      rw [relAt_eq]
                      go_simp
                      exact ⟨Onto.refl _, rfl⟩
                    exact trivial
                  case q =>
                    intro x wq hE hV
                    simp [AllV, famV, isV] at hV
                    obtain ⟨-, -, -, -, -, -, -, -, -, -, -, -, -, -, -, -, -, -, -, -, -, -, -, h11⟩ := hV
                    simp only [puts, Act.put, List.setIfInBounds_toArray, List.set_cons_zero, List.set_cons_succ, h11]
                    generalize x 88 = y88
                    generalize x 89 = y89
                    generalize x 90 = y90
                    generalize x 91 = y91
                    generalize x 92 = y92
                    generalize x 93 = y93
                    generalize x 94 = y94
                    generalize x 95 = y95
                    generalize x 96 = y96
                    generalize x 97 = y97
                    generalize x 98 = y98
                    generalize x 99 = y99
                    generalize x 100 = y100
                    generalize x 101 = y101
                    generalize x 102 = y102
                    generalize x 103 = y103
                    generalize x 104 = y104
                    generalize x 105 = y105
                    generalize x 106 = y106
                    generalize x 107 = y107
                    generalize x 108 = y108
                    generalize x 109 = y109
                    generalize x 110 = y110
                    clear h11
                    go_wp2_with fail
                    go_roundw
                    case rel => exact ⟨k + 1, by omega, by go_num, congrArg Value.bool (by rw [HNX.out]; cases q1 <;> cases q0 <;> rfl), HBY.out.trans ((onto_drew hE).mono HBY.out.size)⟩
                    case measure => simp [intOf]; omega
                · go_wp2_with fail
                  refine wp_region_fam_lit (E := Onto)
                    [isV (.bool true),
                     isV (.bool true),
                     isV undef,
                     isV undef,
                     isV undef,
                     isV undef,
                     isV undef,
                     isV undef,
                     isV undef,
                     isV undef,
                     isV undef,
                     isV undef,
                     isV undef,
                     isV undef,
                     isV undef,
                     isV undef,
                     isV undef,
                     isV undef,
                     isV undef,
                     isV undef,
                     isV undef,
                     isV undef,
                     isV (.bool true),
                     isV (.bool true)]
                    [some 88, some 89, some 90, some 91, some 92, some 93, some 94, some 95, some 96, some 97, some 98, some 99, some 100, some 101, some 102, some 103, some 104, some 105, some 106, some 107, some 108, some 109, some 110, some 11] (by kernel_rfl) rfl (by kernel_rfl) rfl Onto.trans Onto.refl ?mono ?ob ?q
                  case mono => exact ⟨isV_mono _ _, isV_mono _ _, isV_mono _ _, isV_mono _ _, isV_mono _ _, isV_mono _ _, isV_mono _ _, isV_mono _ _, isV_mono _ _, isV_mono _ _, isV_mono _ _, isV_mono _ _, isV_mono _ _, isV_mono _ _, isV_mono _ _, isV_mono _ _, isV_mono _ _, isV_mono _ _, isV_mono _ _, isV_mono _ _, isV_mono _ _, isV_mono _ _, isV_mono _ _, isV_mono _ _, trivial⟩
                  case ob =>
                    refine Obs.cons (j := 1) rfl ?_ ?_
                    · refine Ob.free [(11, none)] (by kernel_rfl) (isV (.bool true)) rfl rfl (fun a X hE hL => ?_)
                      simp [Seen, slotAt] at hL
                      have h11 := hL
                      rw [relAt_eq]
                      go_simp
                      exact ⟨Onto.refl _, rfl⟩
                    refine Obs.cons (j := 2) rfl ?_ ?_
                    · refine Ob.free [(88, some 0)] (by kernel_rfl) (isV (.bool true)) rfl rfl (fun a X hE hL => ?_)
                      simp [Seen, slotAt, famV, isV] at hL
                      have h88 := hL
                      rw [relAt_eq]
                      go_simp
                      exact ⟨Onto.refl _, rfl⟩
                    refine Obs.cons (j := 3) rfl ?_ ?_
                    · refine Ob.skip [(0, none), (89, some 1)] (by kernel_rfl) rfl 1 false 89 rfl rfl (fun a X hE hL => ?_)
                      simp [Seen, slotAt, famV, isV] at hL
                      obtain ⟨h0, h89⟩ := hL
                      simpa using h89
                    refine Obs.cons (j := 4) rfl ?_ ?_
                    · refine Ob.skip [(12, none), (89, some 1)] (by kernel_rfl) rfl 1 false 89 rfl rfl (fun a X hE hL => ?_)
                      simp [Seen, slotAt, famV, isV] at hL
                      obtain ⟨h12, h89⟩ := hL
                      simpa using h89
                    refine Obs.cons (j := 5) rfl ?_ ?_
                    · refine Ob.skip [(90, some 2), (91, some 3), (89, some 1)] (by kernel_rfl) rfl 1 false 89 rfl rfl (fun a X hE hL => ?_)
                      simp [Seen, slotAt, famV, isV] at hL
                      obtain ⟨h90, h91, h89⟩ := hL
                      simpa using h89
                    refine Obs.cons (j := 6) rfl ?_ ?_
                    · refine Ob.skip [(92, some 4), (89, some 1)] (by kernel_rfl) rfl 1 false 89 rfl rfl (fun a X hE hL => ?_)
                      simp [Seen, slotAt, famV, isV] at hL
                      obtain ⟨h92, h89⟩ := hL
                      simpa using h89
                    refine Obs.cons (j := 7) rfl ?_ ?_
                    · refine Ob.skip [(5, none), (89, some 1)] (by kernel_rfl) rfl 1 false 89 rfl rfl (fun a X hE hL => ?_)
                      simp [Seen, slotAt, famV, isV] at hL
                      obtain ⟨h5, h89⟩ := hL
                      simpa using h89
                    refine Obs.cons (j := 8) rfl ?_ ?_
                    · refine Ob.skip [(10, none), (89, some 1)] (by kernel_rfl) rfl 1 false 89 rfl rfl (fun a X hE hL => ?_)
                      simp [Seen, slotAt, famV, isV] at hL
                      obtain ⟨h10, h89⟩ := hL
                      simpa using h89
                    refine Obs.cons (j := 9) rfl ?_ ?_
                    · refine Ob.skip [(94, some 6), (95, some 7), (89, some 1)] (by kernel_rfl) rfl 1 false 89 rfl rfl (fun a X hE hL => ?_)
                      simp [Seen, slotAt, famV, isV] at hL
                      obtain ⟨h94, h95, h89⟩ := hL
                      simpa using h89
                    refine Obs.cons (j := 10) rfl ?_ ?_
                    · refine Ob.skip [(96, some 8), (89, some 1)] (by kernel_rfl) rfl 1 false 89 rfl rfl (fun a X hE hL => ?_)
                      simp [Seen, slotAt, famV, isV] at hL
                      obtain ⟨h96, h89⟩ := hL
                      simpa using h89
                    refine Obs.cons (j := 11) rfl ?_ ?_
                    · refine Ob.skip [(93, some 5), (97, some 9), (89, some 1)] (by kernel_rfl) rfl 1 false 89 rfl rfl (fun a X hE hL => ?_)
                      simp [Seen, slotAt, famV, isV] at hL
                      obtain ⟨h93, h97, h89⟩ := hL
                      simpa using h89
                    refine Obs.cons (j := 12) rfl ?_ ?_
                    · refine Ob.skip [(0, none), (89, some 1)] (by kernel_rfl) rfl 1 false 89 rfl rfl (fun a X hE hL => ?_)
                      simp [Seen, slotAt, famV, isV] at hL
                      obtain ⟨h0, h89⟩ := hL
                      simpa using h89
                    refine Obs.cons (j := 13) rfl ?_ ?_
                    · refine Ob.skip [(12, none), (89, some 1)] (by kernel_rfl) rfl 1 false 89 rfl rfl (fun a X hE hL => ?_)
                      simp [Seen, slotAt, famV, isV] at hL
                      obtain ⟨h12, h89⟩ := hL
                      simpa using h89
                    refine Obs.cons (j := 14) rfl ?_ ?_
                    · refine Ob.skip [(99, some 11), (100, some 12), (89, some 1)] (by kernel_rfl) rfl 1 false 89 rfl rfl (fun a X hE hL => ?_)
                      simp [Seen, slotAt, famV, isV] at hL
                      obtain ⟨h99, h100, h89⟩ := hL
                      simpa using h89
                    refine Obs.cons (j := 15) rfl ?_ ?_
                    · refine Ob.skip [(101, some 13), (89, some 1)] (by kernel_rfl) rfl 1 false 89 rfl rfl (fun a X hE hL => ?_)
                      simp [Seen, slotAt, famV, isV] at hL
                      obtain ⟨h101, h89⟩ := hL
                      simpa using h89
                    refine Obs.cons (j := 16) rfl ?_ ?_
                    · refine Ob.skip [(5, none), (89, some 1)] (by kernel_rfl) rfl 1 false 89 rfl rfl (fun a X hE hL => ?_)
                      simp [Seen, slotAt, famV, isV] at hL
                      obtain ⟨h5, h89⟩ := hL
                      simpa using h89
                    refine Obs.cons (j := 17) rfl ?_ ?_
                    · refine Ob.skip [(10, none), (89, some 1)] (by kernel_rfl) rfl 1 false 89 rfl rfl (fun a X hE hL => ?_)
                      simp [Seen, slotAt, famV, isV] at hL
                      obtain ⟨h10, h89⟩ := hL
                      simpa using h89
                    refine Obs.cons (j := 18) rfl ?_ ?_
                    · refine Ob.skip [(104, some 16), (89, some 1)] (by kernel_rfl) rfl 1 false 89 rfl rfl (fun a X hE hL => ?_)
                      simp [Seen, slotAt, famV, isV] at hL
                      obtain ⟨h104, h89⟩ := hL
                      simpa using h89
                    refine Obs.cons (j := 19) rfl ?_ ?_
                    · refine Ob.skip [(103, some 15), (105, some 17), (89, some 1)] (by kernel_rfl) rfl 1 false 89 rfl rfl (fun a X hE hL => ?_)
                      simp [Seen, slotAt, famV, isV] at hL
                      obtain ⟨h103, h105, h89⟩ := hL
                      simpa using h89
                    refine Obs.cons (j := 20) rfl ?_ ?_
                    · refine Ob.skip [(106, some 18), (89, some 1)] (by kernel_rfl) rfl 1 false 89 rfl rfl (fun a X hE hL => ?_)
                      simp [Seen, slotAt, famV, isV] at hL
                      obtain ⟨h106, h89⟩ := hL
                      simpa using h89
                    refine Obs.cons (j := 21) rfl ?_ ?_
                    · refine Ob.skip [(102, some 14), (107, some 19), (89, some 1)] (by kernel_rfl) rfl 1 false 89 rfl rfl (fun a X hE hL => ?_)
                      simp [Seen, slotAt, famV, isV] at hL
                      obtain ⟨h102, h107, h89⟩ := hL
                      simpa using h89
                    refine Obs.cons (j := 22) rfl ?_ ?_
                    · refine Ob.skip [(98, some 10), (108, some 20), (89, some 1)] (by kernel_rfl) rfl 1 false 89 rfl rfl (fun a X hE hL => ?_)
                      simp [Seen, slotAt, famV, isV] at hL
                      obtain ⟨h98, h108, h89⟩ := hL
                      simpa using h89
                    refine Obs.cons (j := 23) rfl ?_ ?_
                    · refine Ob.free [(89, some 1), (109, some 21)] (by kernel_rfl) (isV (.bool true)) rfl rfl (fun a X hE hL => ?_)
                      simp [Seen, slotAt, famV, isV] at hL
                      obtain ⟨h89, h109⟩ := hL
                      rw [relAt_eq]
                      go_simp
                      exact ⟨Onto.refl _, rfl⟩
                    refine Obs.cons (j := 24) rfl ?_ ?_
                    · refine Ob.free [(110, some 22)] (by kernel_rfl) (isV (.bool true)) rfl rfl (fun a X hE hL => ?_)
                      simp [Seen, slotAt, famV, isV] at hL
                      have h110 := hL
                      rw [relAt_eq]
                      go_simp
                      exact ⟨Onto.refl _, rfl⟩
                    exact trivial
                  case q =>
                    intro x wq hE hV
                    simp [AllV, famV, isV] at hV
                    obtain ⟨-, -, -, -, -, -, -, -, -, -, -, -, -, -, -, -, -, -, -, -, -, -, -, h11⟩ := hV
                    simp only [puts, Act.put, List.setIfInBounds_toArray, List.set_cons_zero, List.set_cons_succ, h11]
                    generalize x 88 = y88
                    generalize x 89 = y89
                    generalize x 90 = y90
                    generalize x 91 = y91
                    generalize x 92 = y92
                    generalize x 93 = y93
                    generalize x 94 = y94
                    generalize x 95 = y95
                    generalize x 96 = y96
                    generalize x 97 = y97
                    generalize x 98 = y98
                    generalize x 99 = y99
                    generalize x 100 = y100
                    generalize x 101 = y101
                    generalize x 102 = y102
                    generalize x 103 = y103
                    generalize x 104 = y104
                    generalize x 105 = y105
                    generalize x 106 = y106
                    generalize x 107 = y107
                    generalize x 108 = y108
                    generalize x 109 = y109
                    generalize x 110 = y110
                    clear h11
                    go_wp2_with fail
                    go_roundw
                    case rel => exact ⟨k + 1, by omega, by go_num, congrArg Value.bool (by rw [HNX.out]; rfl), HBY.out.trans ((onto_drew hE).mono HBY.out.size)⟩
                    case measure => simp [intOf]; omega
              · have Hk : Hid (k = len) := by show k = len; omega
                have HP : apartB ls y1 y0 k = true := by rw [Hk.out]; exact HALL.out
                rw [HP]
                clear HP hby
                go_wp2_with fail
                have cy1 : wr.drew.cell? _ = some _ := cy1
                have cy0 : wr.drew.cell? _ = some _ := cy0
                have hle : ((y1 : Int) ≤ y0) = False := eq_false (by omega)
                refine wp_region_fam_lit (E := Onto)
                  [isV (.bool true),
                   isV (.bool false),
                   isV (.bool false),
                   isV (.slice (some ⟨gl, 0, none⟩) n c5),
                   isV (.int .i64 c),
                   isV (.pointer (some ⟨gl, c, none⟩)),
                   isV (.int .u8 ((y1 : Nat) : Int)),
                   isV (.slice (some ⟨gl, 0, none⟩) n c5),
                   isV (.int .i64 c),
                   isV (.int .i64 ((c0 : Nat) : Int)),
                   isV (.pointer (some ⟨gl, c0, none⟩)),
                   isV (.int .u8 ((y0 : Nat) : Int)),
                   isV (.bool false),
                   isV (.bool false)]
                  [some 111, some 112, some 113, some 114, some 115, some 116, some 117, some 118, some 119, some 120, some 121, some 122, some 123, some 124] (by kernel_rfl) rfl (by kernel_rfl) rfl Onto.trans Onto.refl ?mono ?ob ?q
                case mono => exact ⟨isV_mono _ _, isV_mono _ _, isV_mono _ _, isV_mono _ _, isV_mono _ _, isV_mono _ _, isV_mono _ _, isV_mono _ _, isV_mono _ _, isV_mono _ _, isV_mono _ _, isV_mono _ _, isV_mono _ _, isV_mono _ _, trivial⟩
                case ob =>
                  refine Obs.cons (j := 1) rfl ?_ ?_
                  · refine Ob.free [(11, none)] (by kernel_rfl) (isV (.bool true)) rfl rfl (fun a X hE hL => ?_)
                    simp [Seen, slotAt] at hL
                    have h11 := hL
                    rw [relAt_eq]
                    go_simp
                    exact ⟨Onto.refl _, rfl⟩
                  refine Obs.cons (j := 2) rfl ?_ ?_
                  · refine Ob.free [(111, some 0)] (by kernel_rfl) (isV (.bool false)) rfl rfl (fun a X hE hL => ?_)
                    simp [Seen, slotAt, famV, isV] at hL
                    have h111 := hL
                    rw [relAt_eq]
                    go_simp
                    exact ⟨Onto.refl _, rfl⟩
                  refine Obs.cons (j := 3) rfl ?_ ?_
                  · refine Ob.free [(112, some 1)] (by kernel_rfl) (isV (.bool false)) rfl rfl (fun a X hE hL => ?_)
                    simp [Seen, slotAt, famV, isV] at hL
                    have h112 := hL
                    rw [relAt_eq]
                    go_simp
                    exact ⟨Onto.refl _, rfl⟩
                  refine Obs.cons (j := 4) rfl ?_ ?_
                  · refine Ob.guarded [(5, none), (113, some 2)] (by kernel_rfl) (isV (.slice (some ⟨gl, 0, none⟩) n c5)) rfl 2 false 113 rfl rfl (fun a X hE hL => ?_)
                    simp [Seen, slotAt, famV, isV] at hL
                    obtain ⟨h5, h113⟩ := hL
                    refine ⟨by simpa using h113, ?_⟩
                    clear h113
                    rw [relAt_eq]
                    go_simp
                    exact ⟨Onto.refl _, rfl⟩
                  refine Obs.cons (j := 5) rfl ?_ ?_
                  · refine Ob.guarded [(10, none), (113, some 2)] (by kernel_rfl) (isV (.int .i64 c)) rfl 2 false 113 rfl rfl (fun a X hE hL => ?_)
                    simp [Seen, slotAt, famV, isV] at hL
                    obtain ⟨h10, h113⟩ := hL
                    refine ⟨by simpa using h113, ?_⟩
                    clear h113
                    rw [relAt_eq]
                    go_simp
                    exact ⟨Onto.refl _, rfl⟩
                  refine Obs.cons (j := 6) rfl ?_ ?_
                  · refine Ob.guarded [(114, some 3), (115, some 4), (113, some 2)] (by kernel_rfl) (isV (.pointer (some ⟨gl, c, none⟩))) rfl 2 false 113 rfl rfl (fun a X hE hL => ?_)
                    simp [Seen, slotAt, famV, isV] at hL
                    obtain ⟨h114, h115, h113⟩ := hL
                    refine ⟨by simpa using h113, ?_⟩
                    clear h113
                    rw [relAt_eq]
                    go_simp
                    exact ⟨Onto.refl _, rfl⟩
                  refine Obs.cons (j := 7) rfl ?_ ?_
                  · refine Ob.guarded [(116, some 5), (113, some 2)] (by kernel_rfl) (isV (.int .u8 ((y1 : Nat) : Int))) rfl 2 false 113 rfl rfl (fun a X hE hL => ?_)
                    simp [Seen, slotAt, famV, isV] at hL
                    obtain ⟨h116, h113⟩ := hL
                    refine ⟨by simpa using h113, ?_⟩
                    clear h113
                    rw [relAt_eq]
                    have f4 := keeps hE _ _ cy1; have f5 := keeps hE _ _ cy0
                    go_simp
                    exact ⟨Onto.refl _, rfl⟩
                  refine Obs.cons (j := 8) rfl ?_ ?_
                  · refine Ob.guarded [(5, none), (113, some 2)] (by kernel_rfl) (isV (.slice (some ⟨gl, 0, none⟩) n c5)) rfl 2 false 113 rfl rfl (fun a X hE hL => ?_)
                    simp [Seen, slotAt, famV, isV] at hL
                    obtain ⟨h5, h113⟩ := hL
                    refine ⟨by simpa using h113, ?_⟩
                    clear h113
                    rw [relAt_eq]
                    go_simp
                    exact ⟨Onto.refl _, rfl⟩
                  refine Obs.cons (j := 9) rfl ?_ ?_
                  · refine Ob.guarded [(10, none), (113, some 2)] (by kernel_rfl) (isV (.int .i64 c)) rfl 2 false 113 rfl rfl (fun a X hE hL => ?_)
                    simp [Seen, slotAt, famV, isV] at hL
                    obtain ⟨h10, h113⟩ := hL
                    refine ⟨by simpa using h113, ?_⟩
                    clear h113
                    rw [relAt_eq]
                    go_simp
                    exact ⟨Onto.refl _, rfl⟩
                  refine Obs.cons (j := 10) rfl ?_ ?_
                  · refine Ob.guarded [(119, some 8), (113, some 2)] (by kernel_rfl) (isV (.int .i64 ((c0 : Nat) : Int))) rfl 2 false 113 rfl rfl (fun a X hE hL => ?_)
                    simp [Seen, slotAt, famV, isV] at hL
                    obtain ⟨h119, h113⟩ := hL
                    refine ⟨by simpa using h113, ?_⟩
                    clear h113
                    rw [relAt_eq]
                    go_simp
                    exact ⟨Onto.refl _, congrArg _ HC2.out⟩
                  refine Obs.cons (j := 11) rfl ?_ ?_
                  · refine Ob.guarded [(118, some 7), (120, some 9), (113, some 2)] (by kernel_rfl) (isV (.pointer (some ⟨gl, c0, none⟩))) rfl 2 false 113 rfl rfl (fun a X hE hL => ?_)
                    simp [Seen, slotAt, famV, isV] at hL
                    obtain ⟨h118, h120, h113⟩ := hL
                    refine ⟨by simpa using h113, ?_⟩
                    clear h113
                    rw [relAt_eq]
                    go_simp
                    exact ⟨Onto.refl _, rfl⟩
                  refine Obs.cons (j := 12) rfl ?_ ?_
                  · refine Ob.guarded [(121, some 10), (113, some 2)] (by kernel_rfl) (isV (.int .u8 ((y0 : Nat) : Int))) rfl 2 false 113 rfl rfl (fun a X hE hL => ?_)
                    simp [Seen, slotAt, famV, isV] at hL
                    obtain ⟨h121, h113⟩ := hL
                    refine ⟨by simpa using h113, ?_⟩
                    clear h113
                    rw [relAt_eq]
                    have f4 := keeps hE _ _ cy1; have f5 := keeps hE _ _ cy0
                    go_simp
                    exact ⟨Onto.refl _, rfl⟩
                  refine Obs.cons (j := 13) rfl ?_ ?_
                  · refine Ob.guarded [(117, some 6), (122, some 11), (113, some 2)] (by kernel_rfl) (isV (.bool false)) rfl 2 false 113 rfl rfl (fun a X hE hL => ?_)
                    simp [Seen, slotAt, famV, isV] at hL
                    obtain ⟨h117, h122, h113⟩ := hL
                    refine ⟨by simpa using h113, ?_⟩
                    clear h113
                    rw [relAt_eq]
                    go_simp
                    exact ⟨Onto.refl _, rfl⟩
                  refine Obs.cons (j := 14) rfl ?_ ?_
                  · refine Ob.free [(113, some 2), (123, some 12)] (by kernel_rfl) (isV (.bool false)) rfl rfl (fun a X hE hL => ?_)
                    simp [Seen, slotAt, famV, isV] at hL
                    obtain ⟨h113, h123⟩ := hL
                    rw [relAt_eq]
                    go_simp
                    exact ⟨Onto.refl _, rfl⟩
                  exact trivial
                case q =>
                  intro x wq hE hV
                  simp [AllV, famV, isV] at hV
                  obtain ⟨-, -, -, -, -, -, -, -, -, -, -, -, -, h124⟩ := hV
                  simp only [puts, Act.put, List.setIfInBounds_toArray, List.set_cons_zero, List.set_cons_succ, h124]
                  generalize x 111 = y111
                  generalize x 112 = y112
                  generalize x 113 = y113
                  generalize x 114 = y114
                  generalize x 115 = y115
                  generalize x 116 = y116
                  generalize x 117 = y117
                  generalize x 118 = y118
                  generalize x 119 = y119
                  generalize x 120 = y120
                  generalize x 121 = y121
                  generalize x 122 = y122
                  generalize x 123 = y123
                  clear h124
                  go_wp2_with fail
                  go_roundw
                  case rel => exact ⟨c + 1, by omega, by omega, by go_num, HBY.out.trans ((onto_drew hE).mono HBY.out.size)⟩
                  case measure => simp [intOf]; omega
          · go_wp2_with (first
              | (go_at_call 7; (with_reducible refine (HK.out _).mono ?_); rintro e w9 ⟨rfl, hb9⟩))
            go_ret
            have hb' := HB.out.trans (HBX.out.mono HB.out.size)
            exact ⟨rfl, hb'.trans (hb9.mono hb'.size)⟩
end Go.Proofs.Ytglagipkpdbhcaa

