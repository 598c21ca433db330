
import Derived.Test.YtajfnkboeaflnaaQSame
import Derived.Test.YtajfnkboeaflnaaQFew
import Derived.Test.YtajfnkboeaflnaaOutKnows
namespace Go.Proofs.Ytajfnkboeaflnaa
open Go.RowKit

theorem own_ne {w : World} {g X : Nat} {v : Value} {bs cs : List UInt8} {room room' : Nat} (h : OutAt w g v bs room) (hx : w.heap[X]? = some (refO room' cs)) : v.ownBlock ≠ some X := by
  rcases h.own.2 with ⟨rfl, _⟩ | ⟨k, cap, cur, rfl, _, hg, _⟩
  · simp [Value.ownBlock]
  · intro e
    have : k = X := by simpa [Value.ownBlock] using e
    subst this
    rw [hg] at hx
    unfold refO at hx
    have := Option.some.inj hx
    injection this with _ h2 _
    exact absurd h2 (by decide)
theorem none_or {w : World} {g : Nat} {v : Value} {bs : List UInt8} {room : Nat} (_ : OutAt w g v bs room) : v.ownBlock = none ∨ v.ownBlock ≠ none := Classical.em _
theorem keepsB {B : Nat} {w w' : World} (hb : Below B w w') {b : Nat} {o : Nat} {u : Value} (h : w.cell? ⟨b, o, none⟩ = some u) (hlt : b < B) : w'.cell? ⟨b, o, none⟩ = some u := (hb.cell (p := ⟨b, o, none⟩) hlt).trans h
theorem below_of_eq {w w' : World} (h : w' = w) : Below w.heap.size w w' := by subst h; exact Below.refl _ _
theorem few_of {os : List OpD} {i : Nat} {o : OpD} (hf : fewB os = true) (hi : os[i]? = some o) : few1 o = true := by
  unfold fewB at hf
  rw [Bool.and_eq_true, List.all_eq_true] at hf
  exact hf.1 o (List.mem_of_getElem? hi)
theorem flat_bound : ∀ (ls : List ByteArray), (ls.all fun s => decide (s.size ≤ 200)) = true → (flat ls).length ≤ 200 * ls.length
  | [], _ => by simp [flat]
  | s :: l, h => by
    simp only [List.all_cons, Bool.and_eq_true, decide_eq_true_eq] at h
    have ih := flat_bound l h.2
    have e : (flat (s :: l)).length = s.size + (flat l).length := by simp [flat]
    have h1 : s.size ≤ 200 := h.1
    rw [e]; simp; omega
theorem few_flat {o : OpD} (h : few1 o = true) (hl : o.ls.length = o.len) : (flat o.ls).length ≤ 4000 := by
  unfold few1 at h
  simp only [Bool.and_eq_true, Bool.not_eq_true', Bool.or_eq_false_iff, decide_eq_false_iff_not] at h
  have := flat_bound o.ls h.2
  have := h.1.1
  omega

set_option linter.unusedSimpArgs false in
set_option maxHeartbeats 4000000 in
set_option maxRecDepth 100000 in
theorem quotaDoes_any (r : Int) (A : Option Addr) (len cap : Nat) (os : List OpD) (w : World) (_ : (Lit.int .i64 r).wf = true) (h : OpRow w A len os) :
    Calls Try.prog 4 #[.int .i64 r, .slice A len cap] w fun e w' => e = .returned (.bool true) ∧ Below w.heap.size w w' := by
  have HK := Lib.hid fun w' => knows_any w'
  have hl2 := h.2.1
  by_cases hbad : r < 0 ∨ 1073741824 < r
  · have HN := Lib.hid (new_bad w r hbad)
    have HR := Lib.hid fun w' => rnew_bad w' r hbad
    unfold refV at HR
    clear hbad
    go_enter Try.func4, Try.ntmps4
    go_wp2_with (first
      | (go_at_call 6; (with_reducible refine HN.out.mono ?_); rintro e w1 ⟨rfl, rfl⟩)
      | (go_at_call 10; (with_reducible refine (HR.out _).mono ?_); rintro e w2 ⟨rfl, hb2⟩)
      | (go_at_call 9; (with_reducible refine (HK.out _).mono ?_); rintro e w3 ⟨rfl, hb3⟩))
    go_ret
    have hb4 := hb2.alloc hb2.size (.cells #[.int .i64 ((0 : Nat) : Int), .string (bstr [])] 33)
    exact ⟨rfl, hb4.trans (hb3.mono hb4.size)⟩
  · obtain ⟨room, rfl⟩ : ∃ room : Nat, r = room := ⟨r.toNat, by omega⟩
    have hr : room ≤ 1073741824 := by omega
    have HN := Lib.hid (new_good w room hr)
    have HR := Lib.hid fun w' => rnew_good w' room hr
    unfold refV at HR
    clear hbad
    go_enter Try.func4, Try.ntmps4
    go_wp2_with fail
    refine HN.out.mono ?_
    rintro e w1 ⟨rfl, ho1, hs1, hb1⟩
    go_wp2_with fail
    refine (HR.out _).mono ?_
    rintro e w2 ⟨rfl, hb2⟩
    have hs2 := hb2.size
    have HB2 := Lib.hid (hb1.trans (hb2.mono hb1.size))
    have HO2 := Lib.hid (ho1.below hb2)
    clear ho1 hb1 hb2
    go_wp2_with fail
    obtain ⟨WA, hWA⟩ : ∃ WA, WA = w2.alloc (.cells #[.int .i64 room, .string (bstr [])] 33) := ⟨_, rfl⟩
    have HX : Hid (WA.heap[w2.heap.size]? = some (refO room [])) := Lib.hid (by rw [hWA]; exact heap_alloc_new w2 _)
    have HB : Hid (Below w.heap.size w WA) := Lib.hid (by rw [hWA]; exact HB2.out.alloc HB2.out.size _)
    have HO : Hid (OutAt WA w.heap.size (.slice none 0 0) [] room) := Lib.hid (by rw [hWA]; exact HO2.out.below ((Below.refl _ _).alloc (Nat.le_refl _) _))
    rw [← hWA]
    clear hWA HB2 HO2
    have HGX0 : Hid (w.heap.size < w2.heap.size) := Lib.hid (by omega)
    obtain ⟨X0, hX0⟩ : ∃ X0, w2.heap.size = X0 := ⟨_, rfl⟩
    rw [hX0] at HX HGX0 ⊢
    clear hX0 hs2 hs1
    have HFW := Lib.hid (few_any WA A len cap os (h.below HB.out))
    cases hf : fewB os with
    | false =>
      rw [hf] at HFW
      clear hf
      go_wp2_with (first
        | (go_at_call 11; (with_reducible refine HFW.out.mono ?_); rintro e w3 ⟨rfl, hw3⟩; have HB3 := Lib.hid (HB.out.trans ((below_of_eq hw3).mono HB.out.size)); clear hw3)
        | (go_at_call 9; (with_reducible refine (HK.out _).mono ?_); rintro e w4 ⟨rfl, hb4⟩))
      go_ret
      exact ⟨rfl, HB3.out.trans (hb4.mono HB3.out.size)⟩
    | true =>
      rw [hf] at HFW
      have HFEW := Lib.hid hf
      clear hf
      go_wp2_with (go_at_call 11; (with_reducible refine HFW.out.mono ?_); rintro e w3 ⟨rfl, hw3⟩; have HB3 := Lib.hid (below_of_eq hw3); clear hw3)
      have HX := Lib.hid ((HB3.out.block X0 (blk_lt HX.out)).trans HX.out)
      have HO := Lib.hid (HO.out.below HB3.out)
      have HB := Lib.hid (HB.out.trans (HB3.out.mono HB.out.size))
      obtain ⟨g, hg⟩ : ∃ g, w.heap.size = g := ⟨_, rfl⟩
      have HG : Hid (w.heap.size ≤ g) := Lib.hid (by omega)
      have HO' : Hid (OutAt w3 g (.slice none 0 0) [] room) := Lib.hid (by rw [← hg]; exact HO.out)
      have HGX : Hid (g ≠ X0) := Lib.hid (by have := HGX0.out; omega)
      have HXB : Hid (w.heap.size ≤ X0) := Lib.hid (by have := HGX0.out; omega)
      rw [hg]
      clear hg HO HGX0 HB3
      go_loopw [9] (fun i wr => ∃ (k : Nat) (bs : List UInt8) (v : Value), k ≤ len ∧ i = .int .i64 k ∧ bs.length ≤ room ∧ OutAt wr g v bs room ∧ wr.heap[X0]? = some (refO room bs) ∧ Below w.heap.size w wr ∧ (∀ j, v.ownBlock = some j → w.heap.size ≤ j)) (fun i _ => len - (intOf i).toNat)
      case atStart => exact ⟨0, [], _, by omega, rfl, by simp, HO'.out, HX.out, HB.out, by simp [Value.ownBlock]⟩
      case round =>
        obtain ⟨i, bs, v, hi2, rfl, hle, ho, hx, hb, hv⟩ := hrel
        clear HX HB HO'
        have HO := Lib.hid ho
        have HX := Lib.hid hx
        have HB := Lib.hid hb
        have HV := Lib.hid hv
        clear ho hx hb hv
        by_cases hil : i < len
        · obtain ⟨b, off, o, rfl, hbl, hoi, hnb, hsr, c0, c1, c2, c3⟩ := h.at_ hil
          have hfo := few_of HFEW.out hoi
          have hfl := few_flat hfo hsr.1
          obtain ⟨kk, a2, l2, cq, ls2, nn, cb⟩ := o
          dsimp only at hnb hsr hfl c0 c1 c2 c3
          have HC1 := Lib.hid c1
          have HC2 := Lib.hid c2
          have HC3 := Lib.hid c3
          have HSR := Lib.hid hsr
          have HAPART : Hid (0 < l2 → ∀ p, a2 = some p → p.block ≠ g ∧ v.ownBlock ≠ some p.block) := by
            show 0 < l2 → ∀ p, a2 = some p → p.block ≠ g ∧ v.ownBlock ≠ some p.block
            intro hpos p hp
            obtain ⟨b', off', ha', hb', _⟩ := HSR.out.2.2.2 hpos
            rw [ha'] at hp
            have hpp : (⟨b', off', none⟩ : Addr) = p := Option.some.inj hp
            subst hpp
            refine ⟨?_, fun e => ?_⟩
            · have := HG.out; show b' ≠ g; omega
            · have : w.heap.size ≤ b' := HV.out b' e; omega
          have q0 : wr.cell? ⟨b, off + i * 4, none⟩ = some (.int .i64 kk) := keepsB HB.out c0 hbl
          have q1 : wr.cell? ⟨b, off + i * 4 + 1, none⟩ = some (.slice a2 l2 cq) := keepsB HB.out c1 hbl
          have q2 : wr.cell? ⟨b, off + i * 4 + 2, none⟩ = some (.int .i64 nn) := keepsB HB.out c2 hbl
          have q3 : wr.cell? ⟨b, off + i * 4 + 3, none⟩ = some (.int .u8 (cb.toNat : Nat)) := keepsB HB.out c3 hbl
          have hcb : cb.toNat < 256 := cb.toNat_lt
          obtain ⟨s, hs⟩ : ∃ s, bstr bs = s := ⟨_, rfl⟩
          have HS := Lib.hid hs
          clear hs hsr c0 c1 c2 c3 hoi hfo
          by_cases hk0 : kk = 0
          · obtain rfl := hk0
            by_cases hfit : bs.length + (flat ls2).length ≤ room
            · skip
              go_wp2_with fail
              go_at_call 7
              refine (put_yes _ g v bs room HO.out hr a2 l2 cq ls2 (HSR.out.below HB.out) HAPART.out hfit).mono ?_
              rintro e wo ⟨rfl, hkw, v2, hro2, ho2⟩
              have HV2 : Hid (∀ j, v2.ownBlock = some j → w.heap.size ≤ j) := Lib.hid (hro2.ge HV.out HB.out.size)
              have HX : Hid (wo.heap[X0]? = some (refO room bs)) := Lib.hid ((hkw.blk X0 (blk_lt HX.out) HGX.out.symm (own_ne HO.out HX.out)).trans HX.out)
              have HB := Lib.hid (hkw.below HB.out HB.out.size HG.out HV.out)
              have HV := HV2
              have HO := Lib.hid ho2
              clear hkw hro2 ho2 HV2
              obtain ⟨t, ht⟩ : ∃ t, bstr (bs ++ flat ls2) = t := ⟨_, rfl⟩
              have HT : Hid (bstr (bs ++ flat ls2) = t) := Lib.hid ht
              have HRF : Hid (∀ X, Onto wo.drew X → Calls Try.prog 12 #[refV room bs, .slice a2 l2 cq] X fun e w' => e = .returned (.tuple #[refV room (bs ++ flat ls2), .int .i64 0]) ∧ Below X.heap.size X w') := by
                show ∀ X, _
                intro X hX
                exact rput_yes X room bs a2 l2 cq ls2 (HSR.out.below (HB.out.trans ((onto_drew hX).mono HB.out.size))) (by omega) (by omega)
              unfold refV at HRF
              rw [ht, HS.out] at HRF
              clear ht
              obtain ⟨m0, m1⟩ := refO_c HX.out
              rw [HS.out] at m1
              have m0 : wo.drew.cell? _ = some _ := m0
              have m1 : wo.drew.cell? _ = some _ := m1
              have q1 : wo.drew.cell? _ = some _ := keepsB HB.out HC1.out hbl
              have q2 : wo.drew.cell? _ = some _ := keepsB HB.out HC2.out hbl
              have q3 : wo.drew.cell? _ = some _ := keepsB HB.out HC3.out hbl
              go_wp2_with fail
              refine wp_region_fam_tailP_lit (E := Onto) 10 2
                [isV (.agg #[.int .i64 room, .string s]),
                 isV (.slice (some ⟨b, off, none⟩) len cap),
                 isV (.int .i64 i),
                 isV (.pointer (some ⟨b, off + i * 4, none⟩)),
                 isV (.pointer (some ⟨b, off + i * 4 + 1, none⟩)),
                 isV (.slice a2 l2 cq),
                 isV (.tuple #[.agg #[.int .i64 room, .string t], .int .i64 0]),
                 isV (.tuple #[.agg #[.int .i64 room, .string t], .int .i64 0]),
                 isV (.agg #[.int .i64 room, .string t]),
                 isV (.int .i64 0)]
                [some 76, some 77, some 78, some 79, some 80, some 81, some 82, some 75, some 83, some 84] #[true, true, true, true, true, true, true, true, true, true, false, false] [9] (by kernel_rfl) rfl (by kernel_rfl) (by kernel_rfl) (by kernel_rfl) (fun _ _ _ _ h => h) rfl rfl rfl Onto.trans Onto.refl ?monoPY ?purePY ?obPY ?qPY
              case monoPY => exact ⟨isV_mono _ _, isV_mono _ _, isV_mono _ _, isV_mono _ _, isV_mono _ _, isV_mono _ _, isV_mono _ _, isV_mono _ _, isV_mono _ _, isV_mono _ _, trivial⟩
              case purePY =>
                intro j hj
                obtain rfl : j = 9 := by simpa using hj
                · refine ⟨by decide, at_of rfl (ObPure.mk' [(75, some 7)] (by kernel_rfl) (isV (.int .i64 0)) rfl rfl (fun a X hL => ?_))⟩
                  simp [Seen, slotAt, famV, isV] at hL
                  have h75 := hL
                  exact ⟨_, rfl, fun Y => by go_simp⟩
              case obPY =>
                refine Obs.cons (j := 1) rfl ?_ ?_
                · refine Ob.free [(7, none)] (by kernel_rfl) (isV (.agg #[.int .i64 room, .string s])) rfl rfl (fun a X hE hL => ?_)
                  simp [Seen, slotAt] at hL
                  have h7 := hL
                  rw [relAt_eq]
                  have f0 := keeps hE _ _ m0; have f1 := keeps hE _ _ m1; have f2 := keeps hE _ _ q1; have f3 := keeps hE _ _ q2; have f4 := keeps hE _ _ q3
                  go_simp
                  exact ⟨Onto.refl _, rfl⟩
                refine Obs.cons (j := 2) rfl ?_ ?_
                · refine Ob.free [(1, none)] (by kernel_rfl) (isV (.slice (some ⟨b, off, none⟩) len cap)) rfl rfl (fun a X hE hL => ?_)
                  simp [Seen, slotAt] at hL
                  have h1 := hL
                  rw [relAt_eq]
                  go_simp
                  exact ⟨Onto.refl _, rfl⟩
                refine Obs.cons (j := 3) rfl ?_ ?_
                · refine Ob.free [(9, none)] (by kernel_rfl) (isV (.int .i64 i)) rfl rfl (fun a X hE hL => ?_)
                  simp [Seen, slotAt] at hL
                  have h9 := hL
                  rw [relAt_eq]
                  go_simp
                  exact ⟨Onto.refl _, rfl⟩
                refine Obs.cons (j := 4) rfl ?_ ?_
                · refine Ob.free [(77, some 1), (78, some 2)] (by kernel_rfl) (isV (.pointer (some ⟨b, off + i * 4, none⟩))) rfl rfl (fun a X hE hL => ?_)
                  simp [Seen, slotAt, famV, isV] at hL
                  obtain ⟨h77, h78⟩ := hL
                  rw [relAt_eq]
                  go_simp
                  exact ⟨Onto.refl _, rfl⟩
                refine Obs.cons (j := 5) rfl ?_ ?_
                · refine Ob.free [(79, some 3)] (by kernel_rfl) (isV (.pointer (some ⟨b, off + i * 4 + 1, none⟩))) rfl rfl (fun a X hE hL => ?_)
                  simp [Seen, slotAt, famV, isV] at hL
                  have h79 := hL
                  rw [relAt_eq]
                  go_simp
                  exact ⟨Onto.refl _, rfl⟩
                refine Obs.cons (j := 6) rfl ?_ ?_
                · refine Ob.free [(80, some 4)] (by kernel_rfl) (isV (.slice a2 l2 cq)) rfl rfl (fun a X hE hL => ?_)
                  simp [Seen, slotAt, famV, isV] at hL
                  have h80 := hL
                  rw [relAt_eq]
                  have f0 := keeps hE _ _ m0; have f1 := keeps hE _ _ m1; have f2 := keeps hE _ _ q1; have f3 := keeps hE _ _ q2; have f4 := keeps hE _ _ q3
                  go_simp
                  exact ⟨Onto.refl _, rfl⟩
                refine Obs.cons (j := 7) rfl ?_ ?_
                · refine Ob.free [(76, some 0), (81, some 5)] (by kernel_rfl) (isV (.tuple #[.agg #[.int .i64 room, .string t], .int .i64 0])) rfl rfl (fun a X hE hL => ?_)
                  simp [Seen, slotAt, famV, isV] at hL
                  obtain ⟨h76, h81⟩ := hL
                  rw [relAt_eq]
                  go_simp
                  rw [relUpon_enter]
                  go_at_call 12
                  refine (HRF.out X hE).mono ?_
                  rintro e Y ⟨rfl, hY⟩
                  exact ⟨_, rfl, hY, rfl⟩
                refine Obs.cons (j := 8) rfl ?_ ?_
                · refine Ob.free [(82, some 6)] (by kernel_rfl) (isV (.tuple #[.agg #[.int .i64 room, .string t], .int .i64 0])) rfl rfl (fun a X hE hL => ?_)
                  simp [Seen, slotAt, famV, isV] at hL
                  have h82 := hL
                  rw [relAt_eq]
                  go_simp
                  exact ⟨Onto.refl _, rfl⟩
                refine Obs.cons (j := 9) rfl ?_ ?_
                · refine Ob.free [(75, some 7)] (by kernel_rfl) (isV (.agg #[.int .i64 room, .string t])) rfl rfl (fun a X hE hL => ?_)
                  simp [Seen, slotAt, famV, isV] at hL
                  have h75 := hL
                  rw [relAt_eq]
                  go_simp
                  exact ⟨Onto.refl _, rfl⟩
                refine Obs.cons (j := 10) rfl ?_ ?_
                · refine Ob.free [(75, some 7)] (by kernel_rfl) (isV (.int .i64 0)) rfl rfl (fun a X hE hL => ?_)
                  simp [Seen, slotAt, famV, isV] at hL
                  have h75 := hL
                  rw [relAt_eq]
                  go_simp
                  exact ⟨Onto.refl _, rfl⟩
                exact trivial
              case qPY =>
                intro x w7 hE hV
                simp [AllV, famV, isV] at hV
                obtain ⟨-, -, -, -, -, -, -, -, h83, h84⟩ := hV
                simp only [puts, Act.put, List.setIfInBounds_toArray, List.set_cons_zero, List.set_cons_succ, h83, h84]
                generalize x 76 = y76
                generalize x 77 = y77
                generalize x 78 = y78
                generalize x 79 = y79
                generalize x 80 = y80
                generalize x 81 = y81
                generalize x 82 = y82
                generalize x 75 = y75
                clear h83 h84
                have hX7 := (onto_drew hE).block X0 (blk_lt HX.out)
                have hX7 : w7.heap[X0]? = some (refO room bs) := hX7.trans HX.out
                obtain ⟨k0, k1⟩ := refO_c hX7
                have z0 := frozen_of_row w7 X0 0 _ _ hX7
                have z1 := frozen_of_row w7 X0 1 _ _ hX7
                have HX7 := Lib.hid hX7
                have HE := Lib.hid (onto_drew hE)
                clear hX7 hE
                refine wpAny_ready (rs := [10]) (by kernel_rfl) (by simp) ?_
                refine AllReady.cons rfl (fun K hK => ?_) AllReady.nil
                rw [if_pos (by rfl)]
                go_simp
                refine hK _ _ ?_
                clear hK K
                try simp only [List.setIfInBounds_toArray, List.set_cons_zero, List.set_cons_succ]
                refine wpAny_take (i := 11) (v := .int .i64 0) rfl (by kernel_rfl) (by kernel_rfl) (by kernel_rfl) (fun _ _ _ h => h) (Or.inl ⟨by rfl, fun X => ?_⟩) ?_
                · go_simp
                try simp only [Act.put, List.getElem_toArray, List.getElem_cons_succ, List.getElem_cons_zero, List.setIfInBounds_toArray, List.set_cons_zero, List.set_cons_succ]
                refine wpAny_done (by kernel_rfl) ?_ _
                have e1 := heap_setCell_same w7 X0 0 _ _ (.int .i64 room) HX7.out
                have e2 := heap_setCell_same _ X0 1 _ _ (.string t) e1
                have HX8 : Hid (((w7.setCell ⟨X0, 0, none⟩ (.int .i64 room)).setCell ⟨X0, 1, none⟩ (.string t)).heap[X0]? = some (refO room (bs ++ flat ls2))) := Lib.hid (by unfold refO; rw [HT.out]; exact e2)
                have HB8 := Lib.hid (((HB.out.trans (HE.out.mono HB.out.size)).setCell (p := ⟨X0, 0, none⟩) HXB.out (.int .i64 room)).setCell (p := ⟨X0, 1, none⟩) HXB.out (.string t))
                have ho8 : Kept X0 none wo ((w7.setCell ⟨X0, 0, none⟩ (.int .i64 room)).setCell ⟨X0, 1, none⟩ (.string t)) := ⟨HE.out.os, HE.out.tape, HE.out.output, by have := HE.out.size; simp; omega, fun k hk h1 _ => by rw [heap_setCell_other _ _ _ _ h1, heap_setCell_other _ _ _ _ h1]; exact HE.out.block k hk⟩
                have HO8 := Lib.hid (HO.out.kept ho8 HGX.out (by simp) (own_ne HO.out HX.out) (none_or HO.out))
                generalize (w7.setCell ⟨X0, 0, none⟩ (.int .i64 room)).setCell ⟨X0, 1, none⟩ (.string t) = w8 at HX8 HB8 HO8 ⊢
                clear e1 e2 ho8 k0 k1 z0 z1
                obtain ⟨u0, u1⟩ := refO_c HX8.out
                have HSM := Lib.hid (same_any w8 g _ _ room HO8.out hr (by simp; omega))
                unfold refV at HSM
                have HSL := Lib.hid (show (bs ++ flat ls2).length ≤ room from by simp; omega)
                go_wp2_with (go_at_call 17; (with_reducible refine HSM.out.mono ?_); rintro e w9 ⟨rfl, hb9⟩)
                go_roundw
                case rel => exact ⟨i + 1, _, _, by omega, by go_num, HSL.out, HO8.out.below hb9, (hb9.block X0 (blk_lt HX8.out)).trans HX8.out, HB8.out.trans (hb9.mono HB8.out.size), HV.out⟩
                case measure => simp [intOf]; omega
            · skip
              go_wp2_with fail
              go_at_call 7
              refine (put_no _ g v bs room HO.out hr hle a2 l2 cq ls2 (HSR.out.below HB.out) (by omega) (by omega)).mono ?_
              rintro e wo ⟨rfl, hbw⟩
              have HO := Lib.hid (HO.out.below hbw)
              have HX : Hid (wo.heap[X0]? = some (refO room bs)) := Lib.hid ((hbw.block X0 (blk_lt HX.out)).trans HX.out)
              have HB := Lib.hid (HB.out.trans (hbw.mono HB.out.size))
              clear hbw
              have HRF : Hid (∀ X, Onto wo.drew X → Calls Try.prog 12 #[refV room bs, .slice a2 l2 cq] X fun e w' => e = .returned (.tuple #[refV room (bs), .int .i64 6]) ∧ Below X.heap.size X w') := by
                show ∀ X, _
                intro X hX
                exact rput_no X room bs a2 l2 cq ls2 (HSR.out.below (HB.out.trans ((onto_drew hX).mono HB.out.size))) (by omega) (by omega)
              unfold refV at HRF
              rw [HS.out] at HRF
              obtain ⟨m0, m1⟩ := refO_c HX.out
              rw [HS.out] at m1
              have m0 : wo.drew.cell? _ = some _ := m0
              have m1 : wo.drew.cell? _ = some _ := m1
              have q1 : wo.drew.cell? _ = some _ := keepsB HB.out HC1.out hbl
              have q2 : wo.drew.cell? _ = some _ := keepsB HB.out HC2.out hbl
              have q3 : wo.drew.cell? _ = some _ := keepsB HB.out HC3.out hbl
              go_wp2_with fail
              refine wp_region_fam_tailP_lit (E := Onto) 10 2
                [isV (.agg #[.int .i64 room, .string s]),
                 isV (.slice (some ⟨b, off, none⟩) len cap),
                 isV (.int .i64 i),
                 isV (.pointer (some ⟨b, off + i * 4, none⟩)),
                 isV (.pointer (some ⟨b, off + i * 4 + 1, none⟩)),
                 isV (.slice a2 l2 cq),
                 isV (.tuple #[.agg #[.int .i64 room, .string s], .int .i64 6]),
                 isV (.tuple #[.agg #[.int .i64 room, .string s], .int .i64 6]),
                 isV (.agg #[.int .i64 room, .string s]),
                 isV (.int .i64 6)]
                [some 76, some 77, some 78, some 79, some 80, some 81, some 82, some 75, some 83, some 84] #[true, true, true, true, true, true, true, true, true, true, false, false] [9] (by kernel_rfl) rfl (by kernel_rfl) (by kernel_rfl) (by kernel_rfl) (fun _ _ _ _ h => h) rfl rfl rfl Onto.trans Onto.refl ?monoPN ?purePN ?obPN ?qPN
              case monoPN => exact ⟨isV_mono _ _, isV_mono _ _, isV_mono _ _, isV_mono _ _, isV_mono _ _, isV_mono _ _, isV_mono _ _, isV_mono _ _, isV_mono _ _, isV_mono _ _, trivial⟩
              case purePN =>
                intro j hj
                obtain rfl : j = 9 := by simpa using hj
                · refine ⟨by decide, at_of rfl (ObPure.mk' [(75, some 7)] (by kernel_rfl) (isV (.int .i64 6)) rfl rfl (fun a X hL => ?_))⟩
                  simp [Seen, slotAt, famV, isV] at hL
                  have h75 := hL
                  exact ⟨_, rfl, fun Y => by go_simp⟩
              case obPN =>
                refine Obs.cons (j := 1) rfl ?_ ?_
                · refine Ob.free [(7, none)] (by kernel_rfl) (isV (.agg #[.int .i64 room, .string s])) rfl rfl (fun a X hE hL => ?_)
                  simp [Seen, slotAt] at hL
                  have h7 := hL
                  rw [relAt_eq]
                  have f0 := keeps hE _ _ m0; have f1 := keeps hE _ _ m1; have f2 := keeps hE _ _ q1; have f3 := keeps hE _ _ q2; have f4 := keeps hE _ _ q3
                  go_simp
                  exact ⟨Onto.refl _, rfl⟩
                refine Obs.cons (j := 2) rfl ?_ ?_
                · refine Ob.free [(1, none)] (by kernel_rfl) (isV (.slice (some ⟨b, off, none⟩) len cap)) rfl rfl (fun a X hE hL => ?_)
                  simp [Seen, slotAt] at hL
                  have h1 := hL
                  rw [relAt_eq]
                  go_simp
                  exact ⟨Onto.refl _, rfl⟩
                refine Obs.cons (j := 3) rfl ?_ ?_
                · refine Ob.free [(9, none)] (by kernel_rfl) (isV (.int .i64 i)) rfl rfl (fun a X hE hL => ?_)
                  simp [Seen, slotAt] at hL
                  have h9 := hL
                  rw [relAt_eq]
                  go_simp
                  exact ⟨Onto.refl _, rfl⟩
                refine Obs.cons (j := 4) rfl ?_ ?_
                · refine Ob.free [(77, some 1), (78, some 2)] (by kernel_rfl) (isV (.pointer (some ⟨b, off + i * 4, none⟩))) rfl rfl (fun a X hE hL => ?_)
                  simp [Seen, slotAt, famV, isV] at hL
                  obtain ⟨h77, h78⟩ := hL
                  rw [relAt_eq]
                  go_simp
                  exact ⟨Onto.refl _, rfl⟩
                refine Obs.cons (j := 5) rfl ?_ ?_
                · refine Ob.free [(79, some 3)] (by kernel_rfl) (isV (.pointer (some ⟨b, off + i * 4 + 1, none⟩))) rfl rfl (fun a X hE hL => ?_)
                  simp [Seen, slotAt, famV, isV] at hL
                  have h79 := hL
                  rw [relAt_eq]
                  go_simp
                  exact ⟨Onto.refl _, rfl⟩
                refine Obs.cons (j := 6) rfl ?_ ?_
                · refine Ob.free [(80, some 4)] (by kernel_rfl) (isV (.slice a2 l2 cq)) rfl rfl (fun a X hE hL => ?_)
                  simp [Seen, slotAt, famV, isV] at hL
                  have h80 := hL
                  rw [relAt_eq]
                  have f0 := keeps hE _ _ m0; have f1 := keeps hE _ _ m1; have f2 := keeps hE _ _ q1; have f3 := keeps hE _ _ q2; have f4 := keeps hE _ _ q3
                  go_simp
                  exact ⟨Onto.refl _, rfl⟩
                refine Obs.cons (j := 7) rfl ?_ ?_
                · refine Ob.free [(76, some 0), (81, some 5)] (by kernel_rfl) (isV (.tuple #[.agg #[.int .i64 room, .string s], .int .i64 6])) rfl rfl (fun a X hE hL => ?_)
                  simp [Seen, slotAt, famV, isV] at hL
                  obtain ⟨h76, h81⟩ := hL
                  rw [relAt_eq]
                  go_simp
                  rw [relUpon_enter]
                  go_at_call 12
                  refine (HRF.out X hE).mono ?_
                  rintro e Y ⟨rfl, hY⟩
                  exact ⟨_, rfl, hY, rfl⟩
                refine Obs.cons (j := 8) rfl ?_ ?_
                · refine Ob.free [(82, some 6)] (by kernel_rfl) (isV (.tuple #[.agg #[.int .i64 room, .string s], .int .i64 6])) rfl rfl (fun a X hE hL => ?_)
                  simp [Seen, slotAt, famV, isV] at hL
                  have h82 := hL
                  rw [relAt_eq]
                  go_simp
                  exact ⟨Onto.refl _, rfl⟩
                refine Obs.cons (j := 9) rfl ?_ ?_
                · refine Ob.free [(75, some 7)] (by kernel_rfl) (isV (.agg #[.int .i64 room, .string s])) rfl rfl (fun a X hE hL => ?_)
                  simp [Seen, slotAt, famV, isV] at hL
                  have h75 := hL
                  rw [relAt_eq]
                  go_simp
                  exact ⟨Onto.refl _, rfl⟩
                refine Obs.cons (j := 10) rfl ?_ ?_
                · refine Ob.free [(75, some 7)] (by kernel_rfl) (isV (.int .i64 6)) rfl rfl (fun a X hE hL => ?_)
                  simp [Seen, slotAt, famV, isV] at hL
                  have h75 := hL
                  rw [relAt_eq]
                  go_simp
                  exact ⟨Onto.refl _, rfl⟩
                exact trivial
              case qPN =>
                intro x w7 hE hV
                simp [AllV, famV, isV] at hV
                obtain ⟨-, -, -, -, -, -, -, -, h83, h84⟩ := hV
                simp only [puts, Act.put, List.setIfInBounds_toArray, List.set_cons_zero, List.set_cons_succ, h83, h84]
                generalize x 76 = y76
                generalize x 77 = y77
                generalize x 78 = y78
                generalize x 79 = y79
                generalize x 80 = y80
                generalize x 81 = y81
                generalize x 82 = y82
                generalize x 75 = y75
                clear h83 h84
                have hX7 := (onto_drew hE).block X0 (blk_lt HX.out)
                have hX7 : w7.heap[X0]? = some (refO room bs) := hX7.trans HX.out
                obtain ⟨k0, k1⟩ := refO_c hX7
                have z0 := frozen_of_row w7 X0 0 _ _ hX7
                have z1 := frozen_of_row w7 X0 1 _ _ hX7
                have HX7 := Lib.hid hX7
                have HE := Lib.hid (onto_drew hE)
                clear hX7 hE
                refine wpAny_ready (rs := [10]) (by kernel_rfl) (by simp) ?_
                refine AllReady.cons rfl (fun K hK => ?_) AllReady.nil
                rw [if_pos (by rfl)]
                go_simp
                refine hK _ _ ?_
                clear hK K
                try simp only [List.setIfInBounds_toArray, List.set_cons_zero, List.set_cons_succ]
                refine wpAny_take (i := 11) (v := .int .i64 6) rfl (by kernel_rfl) (by kernel_rfl) (by kernel_rfl) (fun _ _ _ h => h) (Or.inl ⟨by rfl, fun X => ?_⟩) ?_
                · go_simp
                try simp only [Act.put, List.getElem_toArray, List.getElem_cons_succ, List.getElem_cons_zero, List.setIfInBounds_toArray, List.set_cons_zero, List.set_cons_succ]
                refine wpAny_done (by kernel_rfl) ?_ _
                have e1 := heap_setCell_same w7 X0 0 _ _ (.int .i64 room) HX7.out
                have e2 := heap_setCell_same _ X0 1 _ _ (.string s) e1
                have HX8 : Hid (((w7.setCell ⟨X0, 0, none⟩ (.int .i64 room)).setCell ⟨X0, 1, none⟩ (.string s)).heap[X0]? = some (refO room (bs))) := Lib.hid (by unfold refO; rw [HS.out]; exact e2)
                have HB8 := Lib.hid (((HB.out.trans (HE.out.mono HB.out.size)).setCell (p := ⟨X0, 0, none⟩) HXB.out (.int .i64 room)).setCell (p := ⟨X0, 1, none⟩) HXB.out (.string s))
                have ho8 : Kept X0 none wo ((w7.setCell ⟨X0, 0, none⟩ (.int .i64 room)).setCell ⟨X0, 1, none⟩ (.string s)) := ⟨HE.out.os, HE.out.tape, HE.out.output, by have := HE.out.size; simp; omega, fun k hk h1 _ => by rw [heap_setCell_other _ _ _ _ h1, heap_setCell_other _ _ _ _ h1]; exact HE.out.block k hk⟩
                have HO8 := Lib.hid (HO.out.kept ho8 HGX.out (by simp) (own_ne HO.out HX.out) (none_or HO.out))
                generalize (w7.setCell ⟨X0, 0, none⟩ (.int .i64 room)).setCell ⟨X0, 1, none⟩ (.string s) = w8 at HX8 HB8 HO8 ⊢
                clear e1 e2 ho8 k0 k1 z0 z1
                obtain ⟨u0, u1⟩ := refO_c HX8.out
                have HSM := Lib.hid (same_any w8 g _ _ room HO8.out hr (hle))
                unfold refV at HSM
                have HSL := Lib.hid (show (bs).length ≤ room from hle)
                go_wp2_with (go_at_call 17; (with_reducible refine HSM.out.mono ?_); rintro e w9 ⟨rfl, hb9⟩)
                go_roundw
                case rel => exact ⟨i + 1, _, _, by omega, by go_num, HSL.out, HO8.out.below hb9, (hb9.block X0 (blk_lt HX8.out)).trans HX8.out, HB8.out.trans (hb9.mono HB8.out.size), HV.out⟩
                case measure => simp [intOf]; omega
          · have j0 : (kk == 0) = false := beq_eq_false_iff_ne.2 hk0
            by_cases hk1 : kk = 1
            · obtain rfl := hk1
              clear hk0 j0
              by_cases hneg : nn < 0
              · skip
                have q2 : wr.drew.cell? _ = some _ := q2
                have q3 : wr.drew.cell? _ = some _ := q3
                go_wp2_with fail
                refine wp_region_fam_tail_lit (E := Onto) 11 2
                  [isV (.pointer (some ⟨g, 0, none⟩)),
                   isV (.slice (some ⟨b, off, none⟩) len cap),
                   isV (.int .i64 i),
                   isV (.pointer (some ⟨b, off + i * 4, none⟩)),
                   isV (.pointer (some ⟨b, off + i * 4 + 2, none⟩)),
                   isV (.int .i64 nn),
                   isV (.slice (some ⟨b, off, none⟩) len cap),
                   isV (.int .i64 i),
                   isV (.pointer (some ⟨b, off + i * 4, none⟩)),
                   isV (.pointer (some ⟨b, off + i * 4 + 3, none⟩)),
                   isV (.int .u8 (cb.toNat : Nat))]
                  [some 87, some 88, some 89, some 90, some 91, some 92, some 93, some 94, some 95, some 96, some 97] #[true, true, true, true, true, true, true, true, true, true, true, false, false] (by kernel_rfl) rfl (by kernel_rfl) (by kernel_rfl) rfl rfl rfl Onto.trans Onto.refl ?monoANp ?obANp ?qANp
                case monoANp => exact ⟨isV_mono _ _, isV_mono _ _, isV_mono _ _, isV_mono _ _, isV_mono _ _, isV_mono _ _, isV_mono _ _, isV_mono _ _, isV_mono _ _, isV_mono _ _, isV_mono _ _, trivial⟩
                case obANp =>
                  refine Obs.cons (j := 1) rfl ?_ ?_
                  · refine Ob.free [(5, none)] (by kernel_rfl) (isV (.pointer (some ⟨g, 0, none⟩))) rfl rfl (fun a X hE hL => ?_)
                    simp [Seen, slotAt] at hL
                    have h5 := hL
                    rw [relAt_eq]
                    go_simp
                    exact ⟨Onto.refl _, rfl⟩
                  refine Obs.cons (j := 2) rfl ?_ ?_
                  · refine Ob.free [(1, none)] (by kernel_rfl) (isV (.slice (some ⟨b, off, none⟩) len cap)) rfl rfl (fun a X hE hL => ?_)
                    simp [Seen, slotAt] at hL
                    have h1 := hL
                    rw [relAt_eq]
                    go_simp
                    exact ⟨Onto.refl _, rfl⟩
                  refine Obs.cons (j := 3) rfl ?_ ?_
                  · refine Ob.free [(9, none)] (by kernel_rfl) (isV (.int .i64 i)) rfl rfl (fun a X hE hL => ?_)
                    simp [Seen, slotAt] at hL
                    have h9 := hL
                    rw [relAt_eq]
                    go_simp
                    exact ⟨Onto.refl _, rfl⟩
                  refine Obs.cons (j := 4) rfl ?_ ?_
                  · refine Ob.free [(88, some 1), (89, some 2)] (by kernel_rfl) (isV (.pointer (some ⟨b, off + i * 4, none⟩))) rfl rfl (fun a X hE hL => ?_)
                    simp [Seen, slotAt, famV, isV] at hL
                    obtain ⟨h88, h89⟩ := hL
                    rw [relAt_eq]
                    go_simp
                    exact ⟨Onto.refl _, rfl⟩
                  refine Obs.cons (j := 5) rfl ?_ ?_
                  · refine Ob.free [(90, some 3)] (by kernel_rfl) (isV (.pointer (some ⟨b, off + i * 4 + 2, none⟩))) rfl rfl (fun a X hE hL => ?_)
                    simp [Seen, slotAt, famV, isV] at hL
                    have h90 := hL
                    rw [relAt_eq]
                    go_simp
                    exact ⟨Onto.refl _, rfl⟩
                  refine Obs.cons (j := 6) rfl ?_ ?_
                  · refine Ob.free [(91, some 4)] (by kernel_rfl) (isV (.int .i64 nn)) rfl rfl (fun a X hE hL => ?_)
                    simp [Seen, slotAt, famV, isV] at hL
                    have h91 := hL
                    rw [relAt_eq]
                    have f3 := keeps hE _ _ q2; have f4 := keeps hE _ _ q3
                    go_simp
                    exact ⟨Onto.refl _, rfl⟩
                  refine Obs.cons (j := 7) rfl ?_ ?_
                  · refine Ob.free [(1, none)] (by kernel_rfl) (isV (.slice (some ⟨b, off, none⟩) len cap)) rfl rfl (fun a X hE hL => ?_)
                    simp [Seen, slotAt] at hL
                    have h1 := hL
                    rw [relAt_eq]
                    go_simp
                    exact ⟨Onto.refl _, rfl⟩
                  refine Obs.cons (j := 8) rfl ?_ ?_
                  · refine Ob.free [(9, none)] (by kernel_rfl) (isV (.int .i64 i)) rfl rfl (fun a X hE hL => ?_)
                    simp [Seen, slotAt] at hL
                    have h9 := hL
                    rw [relAt_eq]
                    go_simp
                    exact ⟨Onto.refl _, rfl⟩
                  refine Obs.cons (j := 9) rfl ?_ ?_
                  · refine Ob.free [(93, some 6), (94, some 7)] (by kernel_rfl) (isV (.pointer (some ⟨b, off + i * 4, none⟩))) rfl rfl (fun a X hE hL => ?_)
                    simp [Seen, slotAt, famV, isV] at hL
                    obtain ⟨h93, h94⟩ := hL
                    rw [relAt_eq]
                    go_simp
                    exact ⟨Onto.refl _, rfl⟩
                  refine Obs.cons (j := 10) rfl ?_ ?_
                  · refine Ob.free [(95, some 8)] (by kernel_rfl) (isV (.pointer (some ⟨b, off + i * 4 + 3, none⟩))) rfl rfl (fun a X hE hL => ?_)
                    simp [Seen, slotAt, famV, isV] at hL
                    have h95 := hL
                    rw [relAt_eq]
                    go_simp
                    exact ⟨Onto.refl _, rfl⟩
                  refine Obs.cons (j := 11) rfl ?_ ?_
                  · refine Ob.free [(96, some 9)] (by kernel_rfl) (isV (.int .u8 (cb.toNat : Nat))) rfl rfl (fun a X hE hL => ?_)
                    simp [Seen, slotAt, famV, isV] at hL
                    have h96 := hL
                    rw [relAt_eq]
                    have f3 := keeps hE _ _ q2; have f4 := keeps hE _ _ q3
                    go_simp
                    exact ⟨Onto.refl _, rfl⟩
                  exact trivial
                case qANp =>
                  intro x wp hE hV
                  simp [AllV, famV, isV] at hV
                  obtain ⟨h87, -, -, -, -, h92, -, -, -, -, h97⟩ := hV
                  simp only [puts, Act.put, List.setIfInBounds_toArray, List.set_cons_zero, List.set_cons_succ, h87, h92, h97]
                  generalize x 88 = y88
                  generalize x 89 = y89
                  generalize x 90 = y90
                  generalize x 91 = y91
                  generalize x 93 = y93
                  generalize x 94 = y94
                  generalize x 95 = y95
                  generalize x 96 = y96
                  clear h87 h92 h97
                  have HO := Lib.hid (HO.out.below (onto_drew hE))
                  have HX : Hid (wp.heap[X0]? = some (refO room bs)) := Lib.hid (((onto_drew hE).block X0 (blk_lt HX.out)).trans HX.out)
                  have HB := Lib.hid (HB.out.trans ((onto_drew hE).mono HB.out.size))
                  clear hE
                  refine wpAny_ready (rs := [11]) (by kernel_rfl) (by simp) ?_
                  refine AllReady.cons rfl (fun K hK => ?_) AllReady.nil
                  rw [if_pos (by rfl)]
                  go_simp
                  go_at_call 13
                  refine (pad_neg _ g nn _ hneg).mono ?_
                  rintro e wo ⟨rfl, hwo⟩
                  have hbw := below_of_eq hwo
                  clear hwo
                  refine hK _ _ ?_
                  clear hK K
                  try simp only [Act.put, List.getElem_toArray, List.getElem_cons_succ, List.getElem_cons_zero, List.setIfInBounds_toArray, List.set_cons_zero, List.set_cons_succ]
                  refine wpAny_take (i := 12) (v := .int .i64 2) rfl (by kernel_rfl) (by kernel_rfl) (by kernel_rfl) (fun _ _ _ h => h) (Or.inl ⟨by rfl, fun X => ?_⟩) ?_
                  · go_simp
                  try simp only [Act.put, List.getElem_toArray, List.getElem_cons_succ, List.getElem_cons_zero, List.setIfInBounds_toArray, List.set_cons_zero, List.set_cons_succ]
                  refine wpAny_done (by kernel_rfl) ?_ _
                  have HO := Lib.hid (HO.out.below hbw)
                  have HX : Hid (wo.heap[X0]? = some (refO room bs)) := Lib.hid ((hbw.block X0 (blk_lt HX.out)).trans HX.out)
                  have HB := Lib.hid (HB.out.trans (hbw.mono HB.out.size))
                  clear hbw
                  have HRF : Hid (∀ X, Onto wo.drew X → Calls Try.prog 14 #[refV room bs, .int .i64 nn, .int .u8 (cb.toNat : Nat)] X fun e w' => e = .returned (.tuple #[refV room (bs), .int .i64 2]) ∧ Below X.heap.size X w') := by
                    show ∀ X, _
                    intro X hX
                    exact rpad_neg X room bs nn _ hneg
                  unfold refV at HRF
                  rw [HS.out] at HRF
                  obtain ⟨m0, m1⟩ := refO_c HX.out
                  rw [HS.out] at m1
                  have m0 : wo.drew.cell? _ = some _ := m0
                  have m1 : wo.drew.cell? _ = some _ := m1
                  have q1 : wo.drew.cell? _ = some _ := keepsB HB.out HC1.out hbl
                  have q2 : wo.drew.cell? _ = some _ := keepsB HB.out HC2.out hbl
                  have q3 : wo.drew.cell? _ = some _ := keepsB HB.out HC3.out hbl
                  go_wp2_with fail
                  refine wp_region_fam_tailP_lit (E := Onto) 15 2
                    [isV (.agg #[.int .i64 room, .string s]),
                     isV (.slice (some ⟨b, off, none⟩) len cap),
                     isV (.int .i64 i),
                     isV (.pointer (some ⟨b, off + i * 4, none⟩)),
                     isV (.pointer (some ⟨b, off + i * 4 + 2, none⟩)),
                     isV (.int .i64 nn),
                     isV (.slice (some ⟨b, off, none⟩) len cap),
                     isV (.int .i64 i),
                     isV (.pointer (some ⟨b, off + i * 4, none⟩)),
                     isV (.pointer (some ⟨b, off + i * 4 + 3, none⟩)),
                     isV (.int .u8 (cb.toNat : Nat)),
                     isV (.tuple #[.agg #[.int .i64 room, .string s], .int .i64 2]),
                     isV (.tuple #[.agg #[.int .i64 room, .string s], .int .i64 2]),
                     isV (.agg #[.int .i64 room, .string s]),
                     isV (.int .i64 2)]
                    [some 100, some 101, some 102, some 103, some 104, some 105, some 106, some 107, some 108, some 109, some 110, some 111, some 99, some 112, some 113] #[true, true, true, true, true, true, true, true, true, true, true, true, true, true, true, false, false] [14] (by kernel_rfl) rfl (by kernel_rfl) (by kernel_rfl) (by kernel_rfl) (fun _ _ _ _ h => h) rfl rfl rfl Onto.trans Onto.refl ?monoAN ?pureAN ?obAN ?qAN
                  case monoAN => exact ⟨isV_mono _ _, isV_mono _ _, isV_mono _ _, isV_mono _ _, isV_mono _ _, isV_mono _ _, isV_mono _ _, isV_mono _ _, isV_mono _ _, isV_mono _ _, isV_mono _ _, isV_mono _ _, isV_mono _ _, isV_mono _ _, isV_mono _ _, trivial⟩
                  case pureAN =>
                    intro j hj
                    obtain rfl : j = 14 := by simpa using hj
                    · refine ⟨by decide, at_of rfl (ObPure.mk' [(99, some 12)] (by kernel_rfl) (isV (.int .i64 2)) rfl rfl (fun a X hL => ?_))⟩
                      simp [Seen, slotAt, famV, isV] at hL
                      have h99 := hL
                      exact ⟨_, rfl, fun Y => by go_simp⟩
                  case obAN =>
                    refine Obs.cons (j := 1) rfl ?_ ?_
                    · refine Ob.free [(7, none)] (by kernel_rfl) (isV (.agg #[.int .i64 room, .string s])) rfl rfl (fun a X hE hL => ?_)
                      simp [Seen, slotAt] at hL
                      have h7 := hL
                      rw [relAt_eq]
                      have f0 := keeps hE _ _ m0; have f1 := keeps hE _ _ m1; have f2 := keeps hE _ _ q1; have f3 := keeps hE _ _ q2; have f4 := keeps hE _ _ q3
                      go_simp
                      exact ⟨Onto.refl _, rfl⟩
                    refine Obs.cons (j := 2) rfl ?_ ?_
                    · refine Ob.free [(1, none)] (by kernel_rfl) (isV (.slice (some ⟨b, off, none⟩) len cap)) rfl rfl (fun a X hE hL => ?_)
                      simp [Seen, slotAt] at hL
                      have h1 := hL
                      rw [relAt_eq]
                      go_simp
                      exact ⟨Onto.refl _, rfl⟩
                    refine Obs.cons (j := 3) rfl ?_ ?_
                    · refine Ob.free [(9, none)] (by kernel_rfl) (isV (.int .i64 i)) rfl rfl (fun a X hE hL => ?_)
                      simp [Seen, slotAt] at hL
                      have h9 := hL
                      rw [relAt_eq]
                      go_simp
                      exact ⟨Onto.refl _, rfl⟩
                    refine Obs.cons (j := 4) rfl ?_ ?_
                    · refine Ob.free [(101, some 1), (102, some 2)] (by kernel_rfl) (isV (.pointer (some ⟨b, off + i * 4, none⟩))) rfl rfl (fun a X hE hL => ?_)
                      simp [Seen, slotAt, famV, isV] at hL
                      obtain ⟨h101, h102⟩ := hL
                      rw [relAt_eq]
                      go_simp
                      exact ⟨Onto.refl _, rfl⟩
                    refine Obs.cons (j := 5) rfl ?_ ?_
                    · refine Ob.free [(103, some 3)] (by kernel_rfl) (isV (.pointer (some ⟨b, off + i * 4 + 2, none⟩))) rfl rfl (fun a X hE hL => ?_)
                      simp [Seen, slotAt, famV, isV] at hL
                      have h103 := hL
                      rw [relAt_eq]
                      go_simp
                      exact ⟨Onto.refl _, rfl⟩
                    refine Obs.cons (j := 6) rfl ?_ ?_
                    · refine Ob.free [(104, some 4)] (by kernel_rfl) (isV (.int .i64 nn)) rfl rfl (fun a X hE hL => ?_)
                      simp [Seen, slotAt, famV, isV] at hL
                      have h104 := hL
                      rw [relAt_eq]
                      have f0 := keeps hE _ _ m0; have f1 := keeps hE _ _ m1; have f2 := keeps hE _ _ q1; have f3 := keeps hE _ _ q2; have f4 := keeps hE _ _ q3
                      go_simp
                      exact ⟨Onto.refl _, rfl⟩
                    refine Obs.cons (j := 7) rfl ?_ ?_
                    · refine Ob.free [(1, none)] (by kernel_rfl) (isV (.slice (some ⟨b, off, none⟩) len cap)) rfl rfl (fun a X hE hL => ?_)
                      simp [Seen, slotAt] at hL
                      have h1 := hL
                      rw [relAt_eq]
                      go_simp
                      exact ⟨Onto.refl _, rfl⟩
                    refine Obs.cons (j := 8) rfl ?_ ?_
                    · refine Ob.free [(9, none)] (by kernel_rfl) (isV (.int .i64 i)) rfl rfl (fun a X hE hL => ?_)
                      simp [Seen, slotAt] at hL
                      have h9 := hL
                      rw [relAt_eq]
                      go_simp
                      exact ⟨Onto.refl _, rfl⟩
                    refine Obs.cons (j := 9) rfl ?_ ?_
                    · refine Ob.free [(106, some 6), (107, some 7)] (by kernel_rfl) (isV (.pointer (some ⟨b, off + i * 4, none⟩))) rfl rfl (fun a X hE hL => ?_)
                      simp [Seen, slotAt, famV, isV] at hL
                      obtain ⟨h106, h107⟩ := hL
                      rw [relAt_eq]
                      go_simp
                      exact ⟨Onto.refl _, rfl⟩
                    refine Obs.cons (j := 10) rfl ?_ ?_
                    · refine Ob.free [(108, some 8)] (by kernel_rfl) (isV (.pointer (some ⟨b, off + i * 4 + 3, none⟩))) rfl rfl (fun a X hE hL => ?_)
                      simp [Seen, slotAt, famV, isV] at hL
                      have h108 := hL
                      rw [relAt_eq]
                      go_simp
                      exact ⟨Onto.refl _, rfl⟩
                    refine Obs.cons (j := 11) rfl ?_ ?_
                    · refine Ob.free [(109, some 9)] (by kernel_rfl) (isV (.int .u8 (cb.toNat : Nat))) rfl rfl (fun a X hE hL => ?_)
                      simp [Seen, slotAt, famV, isV] at hL
                      have h109 := hL
                      rw [relAt_eq]
                      have f0 := keeps hE _ _ m0; have f1 := keeps hE _ _ m1; have f2 := keeps hE _ _ q1; have f3 := keeps hE _ _ q2; have f4 := keeps hE _ _ q3
                      go_simp
                      exact ⟨Onto.refl _, rfl⟩
                    refine Obs.cons (j := 12) rfl ?_ ?_
                    · refine Ob.free [(100, some 0), (105, some 5), (110, some 10)] (by kernel_rfl) (isV (.tuple #[.agg #[.int .i64 room, .string s], .int .i64 2])) rfl rfl (fun a X hE hL => ?_)
                      simp [Seen, slotAt, famV, isV] at hL
                      obtain ⟨h100, h105, h110⟩ := hL
                      rw [relAt_eq]
                      go_simp
                      rw [relUpon_enter]
                      go_at_call 14
                      refine (HRF.out X hE).mono ?_
                      rintro e Y ⟨rfl, hY⟩
                      exact ⟨_, rfl, hY, rfl⟩
                    refine Obs.cons (j := 13) rfl ?_ ?_
                    · refine Ob.free [(111, some 11)] (by kernel_rfl) (isV (.tuple #[.agg #[.int .i64 room, .string s], .int .i64 2])) rfl rfl (fun a X hE hL => ?_)
                      simp [Seen, slotAt, famV, isV] at hL
                      have h111 := hL
                      rw [relAt_eq]
                      go_simp
                      exact ⟨Onto.refl _, rfl⟩
                    refine Obs.cons (j := 14) rfl ?_ ?_
                    · refine Ob.free [(99, some 12)] (by kernel_rfl) (isV (.agg #[.int .i64 room, .string s])) rfl rfl (fun a X hE hL => ?_)
                      simp [Seen, slotAt, famV, isV] at hL
                      have h99 := hL
                      rw [relAt_eq]
                      go_simp
                      exact ⟨Onto.refl _, rfl⟩
                    refine Obs.cons (j := 15) rfl ?_ ?_
                    · refine Ob.free [(99, some 12)] (by kernel_rfl) (isV (.int .i64 2)) rfl rfl (fun a X hE hL => ?_)
                      simp [Seen, slotAt, famV, isV] at hL
                      have h99 := hL
                      rw [relAt_eq]
                      go_simp
                      exact ⟨Onto.refl _, rfl⟩
                    exact trivial
                  case qAN =>
                    intro x w7 hE hV
                    simp [AllV, famV, isV] at hV
                    obtain ⟨-, -, -, -, -, -, -, -, -, -, -, -, -, h112, h113⟩ := hV
                    simp only [puts, Act.put, List.setIfInBounds_toArray, List.set_cons_zero, List.set_cons_succ, h112, h113]
                    generalize x 100 = y100
                    generalize x 101 = y101
                    generalize x 102 = y102
                    generalize x 103 = y103
                    generalize x 104 = y104
                    generalize x 105 = y105
                    generalize x 106 = y106
                    generalize x 107 = y107
                    generalize x 108 = y108
                    generalize x 109 = y109
                    generalize x 110 = y110
                    generalize x 111 = y111
                    generalize x 99 = y99
                    clear h112 h113
                    have hX7 := (onto_drew hE).block X0 (blk_lt HX.out)
                    have hX7 : w7.heap[X0]? = some (refO room bs) := hX7.trans HX.out
                    obtain ⟨k0, k1⟩ := refO_c hX7
                    have z0 := frozen_of_row w7 X0 0 _ _ hX7
                    have z1 := frozen_of_row w7 X0 1 _ _ hX7
                    have HX7 := Lib.hid hX7
                    have HE := Lib.hid (onto_drew hE)
                    clear hX7 hE
                    refine wpAny_ready (rs := [15]) (by kernel_rfl) (by simp) ?_
                    refine AllReady.cons rfl (fun K hK => ?_) AllReady.nil
                    rw [if_pos (by rfl)]
                    go_simp
                    refine hK _ _ ?_
                    clear hK K
                    try simp only [List.setIfInBounds_toArray, List.set_cons_zero, List.set_cons_succ]
                    refine wpAny_take (i := 16) (v := .int .i64 2) rfl (by kernel_rfl) (by kernel_rfl) (by kernel_rfl) (fun _ _ _ h => h) (Or.inl ⟨by rfl, fun X => ?_⟩) ?_
                    · go_simp
                    try simp only [Act.put, List.getElem_toArray, List.getElem_cons_succ, List.getElem_cons_zero, List.setIfInBounds_toArray, List.set_cons_zero, List.set_cons_succ]
                    refine wpAny_done (by kernel_rfl) ?_ _
                    have e1 := heap_setCell_same w7 X0 0 _ _ (.int .i64 room) HX7.out
                    have e2 := heap_setCell_same _ X0 1 _ _ (.string s) e1
                    have HX8 : Hid (((w7.setCell ⟨X0, 0, none⟩ (.int .i64 room)).setCell ⟨X0, 1, none⟩ (.string s)).heap[X0]? = some (refO room (bs))) := Lib.hid (by unfold refO; rw [HS.out]; exact e2)
                    have HB8 := Lib.hid (((HB.out.trans (HE.out.mono HB.out.size)).setCell (p := ⟨X0, 0, none⟩) HXB.out (.int .i64 room)).setCell (p := ⟨X0, 1, none⟩) HXB.out (.string s))
                    have ho8 : Kept X0 none wo ((w7.setCell ⟨X0, 0, none⟩ (.int .i64 room)).setCell ⟨X0, 1, none⟩ (.string s)) := ⟨HE.out.os, HE.out.tape, HE.out.output, by have := HE.out.size; simp; omega, fun k hk h1 _ => by rw [heap_setCell_other _ _ _ _ h1, heap_setCell_other _ _ _ _ h1]; exact HE.out.block k hk⟩
                    have HO8 := Lib.hid (HO.out.kept ho8 HGX.out (by simp) (own_ne HO.out HX.out) (none_or HO.out))
                    generalize (w7.setCell ⟨X0, 0, none⟩ (.int .i64 room)).setCell ⟨X0, 1, none⟩ (.string s) = w8 at HX8 HB8 HO8 ⊢
                    clear e1 e2 ho8 k0 k1 z0 z1
                    obtain ⟨u0, u1⟩ := refO_c HX8.out
                    have HSM := Lib.hid (same_any w8 g _ _ room HO8.out hr (hle))
                    unfold refV at HSM
                    have HSL := Lib.hid (show (bs).length ≤ room from hle)
                    go_wp2_with (go_at_call 17; (with_reducible refine HSM.out.mono ?_); rintro e w9 ⟨rfl, hb9⟩)
                    go_roundw
                    case rel => exact ⟨i + 1, _, _, by omega, by go_num, HSL.out, HO8.out.below hb9, (hb9.block X0 (blk_lt HX8.out)).trans HX8.out, HB8.out.trans (hb9.mono HB8.out.size), HV.out⟩
                    case measure => simp [intOf]; omega
              · by_cases hno : (room : Int) - (bs.length : Nat) < nn
                · skip
                  have q2 : wr.drew.cell? _ = some _ := q2
                  have q3 : wr.drew.cell? _ = some _ := q3
                  go_wp2_with fail
                  refine wp_region_fam_tail_lit (E := Onto) 11 2
                    [isV (.pointer (some ⟨g, 0, none⟩)),
                     isV (.slice (some ⟨b, off, none⟩) len cap),
                     isV (.int .i64 i),
                     isV (.pointer (some ⟨b, off + i * 4, none⟩)),
                     isV (.pointer (some ⟨b, off + i * 4 + 2, none⟩)),
                     isV (.int .i64 nn),
                     isV (.slice (some ⟨b, off, none⟩) len cap),
                     isV (.int .i64 i),
                     isV (.pointer (some ⟨b, off + i * 4, none⟩)),
                     isV (.pointer (some ⟨b, off + i * 4 + 3, none⟩)),
                     isV (.int .u8 (cb.toNat : Nat))]
                    [some 87, some 88, some 89, some 90, some 91, some 92, some 93, some 94, some 95, some 96, some 97] #[true, true, true, true, true, true, true, true, true, true, true, false, false] (by kernel_rfl) rfl (by kernel_rfl) (by kernel_rfl) rfl rfl rfl Onto.trans Onto.refl ?monoAOp ?obAOp ?qAOp
                  case monoAOp => exact ⟨isV_mono _ _, isV_mono _ _, isV_mono _ _, isV_mono _ _, isV_mono _ _, isV_mono _ _, isV_mono _ _, isV_mono _ _, isV_mono _ _, isV_mono _ _, isV_mono _ _, trivial⟩
                  case obAOp =>
                    refine Obs.cons (j := 1) rfl ?_ ?_
                    · refine Ob.free [(5, none)] (by kernel_rfl) (isV (.pointer (some ⟨g, 0, none⟩))) rfl rfl (fun a X hE hL => ?_)
                      simp [Seen, slotAt] at hL
                      have h5 := hL
                      rw [relAt_eq]
                      go_simp
                      exact ⟨Onto.refl _, rfl⟩
                    refine Obs.cons (j := 2) rfl ?_ ?_
                    · refine Ob.free [(1, none)] (by kernel_rfl) (isV (.slice (some ⟨b, off, none⟩) len cap)) rfl rfl (fun a X hE hL => ?_)
                      simp [Seen, slotAt] at hL
                      have h1 := hL
                      rw [relAt_eq]
                      go_simp
                      exact ⟨Onto.refl _, rfl⟩
                    refine Obs.cons (j := 3) rfl ?_ ?_
                    · refine Ob.free [(9, none)] (by kernel_rfl) (isV (.int .i64 i)) rfl rfl (fun a X hE hL => ?_)
                      simp [Seen, slotAt] at hL
                      have h9 := hL
                      rw [relAt_eq]
                      go_simp
                      exact ⟨Onto.refl _, rfl⟩
                    refine Obs.cons (j := 4) rfl ?_ ?_
                    · refine Ob.free [(88, some 1), (89, some 2)] (by kernel_rfl) (isV (.pointer (some ⟨b, off + i * 4, none⟩))) rfl rfl (fun a X hE hL => ?_)
                      simp [Seen, slotAt, famV, isV] at hL
                      obtain ⟨h88, h89⟩ := hL
                      rw [relAt_eq]
                      go_simp
                      exact ⟨Onto.refl _, rfl⟩
                    refine Obs.cons (j := 5) rfl ?_ ?_
                    · refine Ob.free [(90, some 3)] (by kernel_rfl) (isV (.pointer (some ⟨b, off + i * 4 + 2, none⟩))) rfl rfl (fun a X hE hL => ?_)
                      simp [Seen, slotAt, famV, isV] at hL
                      have h90 := hL
                      rw [relAt_eq]
                      go_simp
                      exact ⟨Onto.refl _, rfl⟩
                    refine Obs.cons (j := 6) rfl ?_ ?_
                    · refine Ob.free [(91, some 4)] (by kernel_rfl) (isV (.int .i64 nn)) rfl rfl (fun a X hE hL => ?_)
                      simp [Seen, slotAt, famV, isV] at hL
                      have h91 := hL
                      rw [relAt_eq]
                      have f3 := keeps hE _ _ q2; have f4 := keeps hE _ _ q3
                      go_simp
                      exact ⟨Onto.refl _, rfl⟩
                    refine Obs.cons (j := 7) rfl ?_ ?_
                    · refine Ob.free [(1, none)] (by kernel_rfl) (isV (.slice (some ⟨b, off, none⟩) len cap)) rfl rfl (fun a X hE hL => ?_)
                      simp [Seen, slotAt] at hL
                      have h1 := hL
                      rw [relAt_eq]
                      go_simp
                      exact ⟨Onto.refl _, rfl⟩
                    refine Obs.cons (j := 8) rfl ?_ ?_
                    · refine Ob.free [(9, none)] (by kernel_rfl) (isV (.int .i64 i)) rfl rfl (fun a X hE hL => ?_)
                      simp [Seen, slotAt] at hL
                      have h9 := hL
                      rw [relAt_eq]
                      go_simp
                      exact ⟨Onto.refl _, rfl⟩
                    refine Obs.cons (j := 9) rfl ?_ ?_
                    · refine Ob.free [(93, some 6), (94, some 7)] (by kernel_rfl) (isV (.pointer (some ⟨b, off + i * 4, none⟩))) rfl rfl (fun a X hE hL => ?_)
                      simp [Seen, slotAt, famV, isV] at hL
                      obtain ⟨h93, h94⟩ := hL
                      rw [relAt_eq]
                      go_simp
                      exact ⟨Onto.refl _, rfl⟩
                    refine Obs.cons (j := 10) rfl ?_ ?_
                    · refine Ob.free [(95, some 8)] (by kernel_rfl) (isV (.pointer (some ⟨b, off + i * 4 + 3, none⟩))) rfl rfl (fun a X hE hL => ?_)
                      simp [Seen, slotAt, famV, isV] at hL
                      have h95 := hL
                      rw [relAt_eq]
                      go_simp
                      exact ⟨Onto.refl _, rfl⟩
                    refine Obs.cons (j := 11) rfl ?_ ?_
                    · refine Ob.free [(96, some 9)] (by kernel_rfl) (isV (.int .u8 (cb.toNat : Nat))) rfl rfl (fun a X hE hL => ?_)
                      simp [Seen, slotAt, famV, isV] at hL
                      have h96 := hL
                      rw [relAt_eq]
                      have f3 := keeps hE _ _ q2; have f4 := keeps hE _ _ q3
                      go_simp
                      exact ⟨Onto.refl _, rfl⟩
                    exact trivial
                  case qAOp =>
                    intro x wp hE hV
                    simp [AllV, famV, isV] at hV
                    obtain ⟨h87, -, -, -, -, h92, -, -, -, -, h97⟩ := hV
                    simp only [puts, Act.put, List.setIfInBounds_toArray, List.set_cons_zero, List.set_cons_succ, h87, h92, h97]
                    generalize x 88 = y88
                    generalize x 89 = y89
                    generalize x 90 = y90
                    generalize x 91 = y91
                    generalize x 93 = y93
                    generalize x 94 = y94
                    generalize x 95 = y95
                    generalize x 96 = y96
                    clear h87 h92 h97
                    have HO := Lib.hid (HO.out.below (onto_drew hE))
                    have HX : Hid (wp.heap[X0]? = some (refO room bs)) := Lib.hid (((onto_drew hE).block X0 (blk_lt HX.out)).trans HX.out)
                    have HB := Lib.hid (HB.out.trans ((onto_drew hE).mono HB.out.size))
                    clear hE
                    refine wpAny_ready (rs := [11]) (by kernel_rfl) (by simp) ?_
                    refine AllReady.cons rfl (fun K hK => ?_) AllReady.nil
                    rw [if_pos (by rfl)]
                    go_simp
                    go_at_call 13
                    refine (pad_no _ g v bs room HO.out hr hle nn _ (by omega) hno).mono ?_
                    rintro e wo ⟨rfl, hbw⟩
                    refine hK _ _ ?_
                    clear hK K
                    try simp only [Act.put, List.getElem_toArray, List.getElem_cons_succ, List.getElem_cons_zero, List.setIfInBounds_toArray, List.set_cons_zero, List.set_cons_succ]
                    refine wpAny_take (i := 12) (v := .int .i64 6) rfl (by kernel_rfl) (by kernel_rfl) (by kernel_rfl) (fun _ _ _ h => h) (Or.inl ⟨by rfl, fun X => ?_⟩) ?_
                    · go_simp
                    try simp only [Act.put, List.getElem_toArray, List.getElem_cons_succ, List.getElem_cons_zero, List.setIfInBounds_toArray, List.set_cons_zero, List.set_cons_succ]
                    refine wpAny_done (by kernel_rfl) ?_ _
                    have HO := Lib.hid (HO.out.below hbw)
                    have HX : Hid (wo.heap[X0]? = some (refO room bs)) := Lib.hid ((hbw.block X0 (blk_lt HX.out)).trans HX.out)
                    have HB := Lib.hid (HB.out.trans (hbw.mono HB.out.size))
                    clear hbw
                    have HRF : Hid (∀ X, Onto wo.drew X → Calls Try.prog 14 #[refV room bs, .int .i64 nn, .int .u8 (cb.toNat : Nat)] X fun e w' => e = .returned (.tuple #[refV room (bs), .int .i64 6]) ∧ Below X.heap.size X w') := by
                      show ∀ X, _
                      intro X hX
                      exact rpad_no X room bs nn _ (by omega) hr hle hno
                    unfold refV at HRF
                    rw [HS.out] at HRF
                    obtain ⟨m0, m1⟩ := refO_c HX.out
                    rw [HS.out] at m1
                    have m0 : wo.drew.cell? _ = some _ := m0
                    have m1 : wo.drew.cell? _ = some _ := m1
                    have q1 : wo.drew.cell? _ = some _ := keepsB HB.out HC1.out hbl
                    have q2 : wo.drew.cell? _ = some _ := keepsB HB.out HC2.out hbl
                    have q3 : wo.drew.cell? _ = some _ := keepsB HB.out HC3.out hbl
                    go_wp2_with fail
                    refine wp_region_fam_tailP_lit (E := Onto) 15 2
                      [isV (.agg #[.int .i64 room, .string s]),
                       isV (.slice (some ⟨b, off, none⟩) len cap),
                       isV (.int .i64 i),
                       isV (.pointer (some ⟨b, off + i * 4, none⟩)),
                       isV (.pointer (some ⟨b, off + i * 4 + 2, none⟩)),
                       isV (.int .i64 nn),
                       isV (.slice (some ⟨b, off, none⟩) len cap),
                       isV (.int .i64 i),
                       isV (.pointer (some ⟨b, off + i * 4, none⟩)),
                       isV (.pointer (some ⟨b, off + i * 4 + 3, none⟩)),
                       isV (.int .u8 (cb.toNat : Nat)),
                       isV (.tuple #[.agg #[.int .i64 room, .string s], .int .i64 6]),
                       isV (.tuple #[.agg #[.int .i64 room, .string s], .int .i64 6]),
                       isV (.agg #[.int .i64 room, .string s]),
                       isV (.int .i64 6)]
                      [some 100, some 101, some 102, some 103, some 104, some 105, some 106, some 107, some 108, some 109, some 110, some 111, some 99, some 112, some 113] #[true, true, true, true, true, true, true, true, true, true, true, true, true, true, true, false, false] [14] (by kernel_rfl) rfl (by kernel_rfl) (by kernel_rfl) (by kernel_rfl) (fun _ _ _ _ h => h) rfl rfl rfl Onto.trans Onto.refl ?monoAO ?pureAO ?obAO ?qAO
                    case monoAO => exact ⟨isV_mono _ _, isV_mono _ _, isV_mono _ _, isV_mono _ _, isV_mono _ _, isV_mono _ _, isV_mono _ _, isV_mono _ _, isV_mono _ _, isV_mono _ _, isV_mono _ _, isV_mono _ _, isV_mono _ _, isV_mono _ _, isV_mono _ _, trivial⟩
                    case pureAO =>
                      intro j hj
                      obtain rfl : j = 14 := by simpa using hj
                      · refine ⟨by decide, at_of rfl (ObPure.mk' [(99, some 12)] (by kernel_rfl) (isV (.int .i64 6)) rfl rfl (fun a X hL => ?_))⟩
                        simp [Seen, slotAt, famV, isV] at hL
                        have h99 := hL
                        exact ⟨_, rfl, fun Y => by go_simp⟩
                    case obAO =>
                      refine Obs.cons (j := 1) rfl ?_ ?_
                      · refine Ob.free [(7, none)] (by kernel_rfl) (isV (.agg #[.int .i64 room, .string s])) rfl rfl (fun a X hE hL => ?_)
                        simp [Seen, slotAt] at hL
                        have h7 := hL
                        rw [relAt_eq]
                        have f0 := keeps hE _ _ m0; have f1 := keeps hE _ _ m1; have f2 := keeps hE _ _ q1; have f3 := keeps hE _ _ q2; have f4 := keeps hE _ _ q3
                        go_simp
                        exact ⟨Onto.refl _, rfl⟩
                      refine Obs.cons (j := 2) rfl ?_ ?_
                      · refine Ob.free [(1, none)] (by kernel_rfl) (isV (.slice (some ⟨b, off, none⟩) len cap)) rfl rfl (fun a X hE hL => ?_)
                        simp [Seen, slotAt] at hL
                        have h1 := hL
                        rw [relAt_eq]
                        go_simp
                        exact ⟨Onto.refl _, rfl⟩
                      refine Obs.cons (j := 3) rfl ?_ ?_
                      · refine Ob.free [(9, none)] (by kernel_rfl) (isV (.int .i64 i)) rfl rfl (fun a X hE hL => ?_)
                        simp [Seen, slotAt] at hL
                        have h9 := hL
                        rw [relAt_eq]
                        go_simp
                        exact ⟨Onto.refl _, rfl⟩
                      refine Obs.cons (j := 4) rfl ?_ ?_
                      · refine Ob.free [(101, some 1), (102, some 2)] (by kernel_rfl) (isV (.pointer (some ⟨b, off + i * 4, none⟩))) rfl rfl (fun a X hE hL => ?_)
                        simp [Seen, slotAt, famV, isV] at hL
                        obtain ⟨h101, h102⟩ := hL
                        rw [relAt_eq]
                        go_simp
                        exact ⟨Onto.refl _, rfl⟩
                      refine Obs.cons (j := 5) rfl ?_ ?_
                      · refine Ob.free [(103, some 3)] (by kernel_rfl) (isV (.pointer (some ⟨b, off + i * 4 + 2, none⟩))) rfl rfl (fun a X hE hL => ?_)
                        simp [Seen, slotAt, famV, isV] at hL
                        have h103 := hL
                        rw [relAt_eq]
                        go_simp
                        exact ⟨Onto.refl _, rfl⟩
                      refine Obs.cons (j := 6) rfl ?_ ?_
                      · refine Ob.free [(104, some 4)] (by kernel_rfl) (isV (.int .i64 nn)) rfl rfl (fun a X hE hL => ?_)
                        simp [Seen, slotAt, famV, isV] at hL
                        have h104 := hL
                        rw [relAt_eq]
                        have f0 := keeps hE _ _ m0; have f1 := keeps hE _ _ m1; have f2 := keeps hE _ _ q1; have f3 := keeps hE _ _ q2; have f4 := keeps hE _ _ q3
                        go_simp
                        exact ⟨Onto.refl _, rfl⟩
                      refine Obs.cons (j := 7) rfl ?_ ?_
                      · refine Ob.free [(1, none)] (by kernel_rfl) (isV (.slice (some ⟨b, off, none⟩) len cap)) rfl rfl (fun a X hE hL => ?_)
                        simp [Seen, slotAt] at hL
                        have h1 := hL
                        rw [relAt_eq]
                        go_simp
                        exact ⟨Onto.refl _, rfl⟩
                      refine Obs.cons (j := 8) rfl ?_ ?_
                      · refine Ob.free [(9, none)] (by kernel_rfl) (isV (.int .i64 i)) rfl rfl (fun a X hE hL => ?_)
                        simp [Seen, slotAt] at hL
                        have h9 := hL
                        rw [relAt_eq]
                        go_simp
                        exact ⟨Onto.refl _, rfl⟩
                      refine Obs.cons (j := 9) rfl ?_ ?_
                      · refine Ob.free [(106, some 6), (107, some 7)] (by kernel_rfl) (isV (.pointer (some ⟨b, off + i * 4, none⟩))) rfl rfl (fun a X hE hL => ?_)
                        simp [Seen, slotAt, famV, isV] at hL
                        obtain ⟨h106, h107⟩ := hL
                        rw [relAt_eq]
                        go_simp
                        exact ⟨Onto.refl _, rfl⟩
                      refine Obs.cons (j := 10) rfl ?_ ?_
                      · refine Ob.free [(108, some 8)] (by kernel_rfl) (isV (.pointer (some ⟨b, off + i * 4 + 3, none⟩))) rfl rfl (fun a X hE hL => ?_)
                        simp [Seen, slotAt, famV, isV] at hL
                        have h108 := hL
                        rw [relAt_eq]
                        go_simp
                        exact ⟨Onto.refl _, rfl⟩
                      refine Obs.cons (j := 11) rfl ?_ ?_
                      · refine Ob.free [(109, some 9)] (by kernel_rfl) (isV (.int .u8 (cb.toNat : Nat))) rfl rfl (fun a X hE hL => ?_)
                        simp [Seen, slotAt, famV, isV] at hL
                        have h109 := hL
                        rw [relAt_eq]
                        have f0 := keeps hE _ _ m0; have f1 := keeps hE _ _ m1; have f2 := keeps hE _ _ q1; have f3 := keeps hE _ _ q2; have f4 := keeps hE _ _ q3
                        go_simp
                        exact ⟨Onto.refl _, rfl⟩
                      refine Obs.cons (j := 12) rfl ?_ ?_
                      · refine Ob.free [(100, some 0), (105, some 5), (110, some 10)] (by kernel_rfl) (isV (.tuple #[.agg #[.int .i64 room, .string s], .int .i64 6])) rfl rfl (fun a X hE hL => ?_)
                        simp [Seen, slotAt, famV, isV] at hL
                        obtain ⟨h100, h105, h110⟩ := hL
                        rw [relAt_eq]
                        go_simp
                        rw [relUpon_enter]
                        go_at_call 14
                        refine (HRF.out X hE).mono ?_
                        rintro e Y ⟨rfl, hY⟩
                        exact ⟨_, rfl, hY, rfl⟩
                      refine Obs.cons (j := 13) rfl ?_ ?_
                      · refine Ob.free [(111, some 11)] (by kernel_rfl) (isV (.tuple #[.agg #[.int .i64 room, .string s], .int .i64 6])) rfl rfl (fun a X hE hL => ?_)
                        simp [Seen, slotAt, famV, isV] at hL
                        have h111 := hL
                        rw [relAt_eq]
                        go_simp
                        exact ⟨Onto.refl _, rfl⟩
                      refine Obs.cons (j := 14) rfl ?_ ?_
                      · refine Ob.free [(99, some 12)] (by kernel_rfl) (isV (.agg #[.int .i64 room, .string s])) rfl rfl (fun a X hE hL => ?_)
                        simp [Seen, slotAt, famV, isV] at hL
                        have h99 := hL
                        rw [relAt_eq]
                        go_simp
                        exact ⟨Onto.refl _, rfl⟩
                      refine Obs.cons (j := 15) rfl ?_ ?_
                      · refine Ob.free [(99, some 12)] (by kernel_rfl) (isV (.int .i64 6)) rfl rfl (fun a X hE hL => ?_)
                        simp [Seen, slotAt, famV, isV] at hL
                        have h99 := hL
                        rw [relAt_eq]
                        go_simp
                        exact ⟨Onto.refl _, rfl⟩
                      exact trivial
                    case qAO =>
                      intro x w7 hE hV
                      simp [AllV, famV, isV] at hV
                      obtain ⟨-, -, -, -, -, -, -, -, -, -, -, -, -, h112, h113⟩ := hV
                      simp only [puts, Act.put, List.setIfInBounds_toArray, List.set_cons_zero, List.set_cons_succ, h112, h113]
                      generalize x 100 = y100
                      generalize x 101 = y101
                      generalize x 102 = y102
                      generalize x 103 = y103
                      generalize x 104 = y104
                      generalize x 105 = y105
                      generalize x 106 = y106
                      generalize x 107 = y107
                      generalize x 108 = y108
                      generalize x 109 = y109
                      generalize x 110 = y110
                      generalize x 111 = y111
                      generalize x 99 = y99
                      clear h112 h113
                      have hX7 := (onto_drew hE).block X0 (blk_lt HX.out)
                      have hX7 : w7.heap[X0]? = some (refO room bs) := hX7.trans HX.out
                      obtain ⟨k0, k1⟩ := refO_c hX7
                      have z0 := frozen_of_row w7 X0 0 _ _ hX7
                      have z1 := frozen_of_row w7 X0 1 _ _ hX7
                      have HX7 := Lib.hid hX7
                      have HE := Lib.hid (onto_drew hE)
                      clear hX7 hE
                      refine wpAny_ready (rs := [15]) (by kernel_rfl) (by simp) ?_
                      refine AllReady.cons rfl (fun K hK => ?_) AllReady.nil
                      rw [if_pos (by rfl)]
                      go_simp
                      refine hK _ _ ?_
                      clear hK K
                      try simp only [List.setIfInBounds_toArray, List.set_cons_zero, List.set_cons_succ]
                      refine wpAny_take (i := 16) (v := .int .i64 6) rfl (by kernel_rfl) (by kernel_rfl) (by kernel_rfl) (fun _ _ _ h => h) (Or.inl ⟨by rfl, fun X => ?_⟩) ?_
                      · go_simp
                      try simp only [Act.put, List.getElem_toArray, List.getElem_cons_succ, List.getElem_cons_zero, List.setIfInBounds_toArray, List.set_cons_zero, List.set_cons_succ]
                      refine wpAny_done (by kernel_rfl) ?_ _
                      have e1 := heap_setCell_same w7 X0 0 _ _ (.int .i64 room) HX7.out
                      have e2 := heap_setCell_same _ X0 1 _ _ (.string s) e1
                      have HX8 : Hid (((w7.setCell ⟨X0, 0, none⟩ (.int .i64 room)).setCell ⟨X0, 1, none⟩ (.string s)).heap[X0]? = some (refO room (bs))) := Lib.hid (by unfold refO; rw [HS.out]; exact e2)
                      have HB8 := Lib.hid (((HB.out.trans (HE.out.mono HB.out.size)).setCell (p := ⟨X0, 0, none⟩) HXB.out (.int .i64 room)).setCell (p := ⟨X0, 1, none⟩) HXB.out (.string s))
                      have ho8 : Kept X0 none wo ((w7.setCell ⟨X0, 0, none⟩ (.int .i64 room)).setCell ⟨X0, 1, none⟩ (.string s)) := ⟨HE.out.os, HE.out.tape, HE.out.output, by have := HE.out.size; simp; omega, fun k hk h1 _ => by rw [heap_setCell_other _ _ _ _ h1, heap_setCell_other _ _ _ _ h1]; exact HE.out.block k hk⟩
                      have HO8 := Lib.hid (HO.out.kept ho8 HGX.out (by simp) (own_ne HO.out HX.out) (none_or HO.out))
                      generalize (w7.setCell ⟨X0, 0, none⟩ (.int .i64 room)).setCell ⟨X0, 1, none⟩ (.string s) = w8 at HX8 HB8 HO8 ⊢
                      clear e1 e2 ho8 k0 k1 z0 z1
                      obtain ⟨u0, u1⟩ := refO_c HX8.out
                      have HSM := Lib.hid (same_any w8 g _ _ room HO8.out hr (hle))
                      unfold refV at HSM
                      have HSL := Lib.hid (show (bs).length ≤ room from hle)
                      go_wp2_with (go_at_call 17; (with_reducible refine HSM.out.mono ?_); rintro e w9 ⟨rfl, hb9⟩)
                      go_roundw
                      case rel => exact ⟨i + 1, _, _, by omega, by go_num, HSL.out, HO8.out.below hb9, (hb9.block X0 (blk_lt HX8.out)).trans HX8.out, HB8.out.trans (hb9.mono HB8.out.size), HV.out⟩
                      case measure => simp [intOf]; omega
                · obtain ⟨n0, rfl⟩ : ∃ n0 : Nat, nn = n0 := ⟨nn.toNat, by omega⟩
                  have q2 : wr.drew.cell? _ = some _ := q2
                  have q3 : wr.drew.cell? _ = some _ := q3
                  go_wp2_with fail
                  refine wp_region_fam_tail_lit (E := Onto) 11 2
                    [isV (.pointer (some ⟨g, 0, none⟩)),
                     isV (.slice (some ⟨b, off, none⟩) len cap),
                     isV (.int .i64 i),
                     isV (.pointer (some ⟨b, off + i * 4, none⟩)),
                     isV (.pointer (some ⟨b, off + i * 4 + 2, none⟩)),
                     isV (.int .i64 n0),
                     isV (.slice (some ⟨b, off, none⟩) len cap),
                     isV (.int .i64 i),
                     isV (.pointer (some ⟨b, off + i * 4, none⟩)),
                     isV (.pointer (some ⟨b, off + i * 4 + 3, none⟩)),
                     isV (.int .u8 (cb.toNat : Nat))]
                    [some 87, some 88, some 89, some 90, some 91, some 92, some 93, some 94, some 95, some 96, some 97] #[true, true, true, true, true, true, true, true, true, true, true, false, false] (by kernel_rfl) rfl (by kernel_rfl) (by kernel_rfl) rfl rfl rfl Onto.trans Onto.refl ?monoAYp ?obAYp ?qAYp
                  case monoAYp => exact ⟨isV_mono _ _, isV_mono _ _, isV_mono _ _, isV_mono _ _, isV_mono _ _, isV_mono _ _, isV_mono _ _, isV_mono _ _, isV_mono _ _, isV_mono _ _, isV_mono _ _, trivial⟩
                  case obAYp =>
                    refine Obs.cons (j := 1) rfl ?_ ?_
                    · refine Ob.free [(5, none)] (by kernel_rfl) (isV (.pointer (some ⟨g, 0, none⟩))) rfl rfl (fun a X hE hL => ?_)
                      simp [Seen, slotAt] at hL
                      have h5 := hL
                      rw [relAt_eq]
                      go_simp
                      exact ⟨Onto.refl _, rfl⟩
                    refine Obs.cons (j := 2) rfl ?_ ?_
                    · refine Ob.free [(1, none)] (by kernel_rfl) (isV (.slice (some ⟨b, off, none⟩) len cap)) rfl rfl (fun a X hE hL => ?_)
                      simp [Seen, slotAt] at hL
                      have h1 := hL
                      rw [relAt_eq]
                      go_simp
                      exact ⟨Onto.refl _, rfl⟩
                    refine Obs.cons (j := 3) rfl ?_ ?_
                    · refine Ob.free [(9, none)] (by kernel_rfl) (isV (.int .i64 i)) rfl rfl (fun a X hE hL => ?_)
                      simp [Seen, slotAt] at hL
                      have h9 := hL
                      rw [relAt_eq]
                      go_simp
                      exact ⟨Onto.refl _, rfl⟩
                    refine Obs.cons (j := 4) rfl ?_ ?_
                    · refine Ob.free [(88, some 1), (89, some 2)] (by kernel_rfl) (isV (.pointer (some ⟨b, off + i * 4, none⟩))) rfl rfl (fun a X hE hL => ?_)
                      simp [Seen, slotAt, famV, isV] at hL
                      obtain ⟨h88, h89⟩ := hL
                      rw [relAt_eq]
                      go_simp
                      exact ⟨Onto.refl _, rfl⟩
                    refine Obs.cons (j := 5) rfl ?_ ?_
                    · refine Ob.free [(90, some 3)] (by kernel_rfl) (isV (.pointer (some ⟨b, off + i * 4 + 2, none⟩))) rfl rfl (fun a X hE hL => ?_)
                      simp [Seen, slotAt, famV, isV] at hL
                      have h90 := hL
                      rw [relAt_eq]
                      go_simp
                      exact ⟨Onto.refl _, rfl⟩
                    refine Obs.cons (j := 6) rfl ?_ ?_
                    · refine Ob.free [(91, some 4)] (by kernel_rfl) (isV (.int .i64 n0)) rfl rfl (fun a X hE hL => ?_)
                      simp [Seen, slotAt, famV, isV] at hL
                      have h91 := hL
                      rw [relAt_eq]
                      have f3 := keeps hE _ _ q2; have f4 := keeps hE _ _ q3
                      go_simp
                      exact ⟨Onto.refl _, rfl⟩
                    refine Obs.cons (j := 7) rfl ?_ ?_
                    · refine Ob.free [(1, none)] (by kernel_rfl) (isV (.slice (some ⟨b, off, none⟩) len cap)) rfl rfl (fun a X hE hL => ?_)
                      simp [Seen, slotAt] at hL
                      have h1 := hL
                      rw [relAt_eq]
                      go_simp
                      exact ⟨Onto.refl _, rfl⟩
                    refine Obs.cons (j := 8) rfl ?_ ?_
                    · refine Ob.free [(9, none)] (by kernel_rfl) (isV (.int .i64 i)) rfl rfl (fun a X hE hL => ?_)
                      simp [Seen, slotAt] at hL
                      have h9 := hL
                      rw [relAt_eq]
                      go_simp
                      exact ⟨Onto.refl _, rfl⟩
                    refine Obs.cons (j := 9) rfl ?_ ?_
                    · refine Ob.free [(93, some 6), (94, some 7)] (by kernel_rfl) (isV (.pointer (some ⟨b, off + i * 4, none⟩))) rfl rfl (fun a X hE hL => ?_)
                      simp [Seen, slotAt, famV, isV] at hL
                      obtain ⟨h93, h94⟩ := hL
                      rw [relAt_eq]
                      go_simp
                      exact ⟨Onto.refl _, rfl⟩
                    refine Obs.cons (j := 10) rfl ?_ ?_
                    · refine Ob.free [(95, some 8)] (by kernel_rfl) (isV (.pointer (some ⟨b, off + i * 4 + 3, none⟩))) rfl rfl (fun a X hE hL => ?_)
                      simp [Seen, slotAt, famV, isV] at hL
                      have h95 := hL
                      rw [relAt_eq]
                      go_simp
                      exact ⟨Onto.refl _, rfl⟩
                    refine Obs.cons (j := 11) rfl ?_ ?_
                    · refine Ob.free [(96, some 9)] (by kernel_rfl) (isV (.int .u8 (cb.toNat : Nat))) rfl rfl (fun a X hE hL => ?_)
                      simp [Seen, slotAt, famV, isV] at hL
                      have h96 := hL
                      rw [relAt_eq]
                      have f3 := keeps hE _ _ q2; have f4 := keeps hE _ _ q3
                      go_simp
                      exact ⟨Onto.refl _, rfl⟩
                    exact trivial
                  case qAYp =>
                    intro x wp hE hV
                    simp [AllV, famV, isV] at hV
                    obtain ⟨h87, -, -, -, -, h92, -, -, -, -, h97⟩ := hV
                    simp only [puts, Act.put, List.setIfInBounds_toArray, List.set_cons_zero, List.set_cons_succ, h87, h92, h97]
                    generalize x 88 = y88
                    generalize x 89 = y89
                    generalize x 90 = y90
                    generalize x 91 = y91
                    generalize x 93 = y93
                    generalize x 94 = y94
                    generalize x 95 = y95
                    generalize x 96 = y96
                    clear h87 h92 h97
                    have HO := Lib.hid (HO.out.below (onto_drew hE))
                    have HX : Hid (wp.heap[X0]? = some (refO room bs)) := Lib.hid (((onto_drew hE).block X0 (blk_lt HX.out)).trans HX.out)
                    have HB := Lib.hid (HB.out.trans ((onto_drew hE).mono HB.out.size))
                    clear hE
                    refine wpAny_ready (rs := [11]) (by kernel_rfl) (by simp) ?_
                    refine AllReady.cons rfl (fun K hK => ?_) AllReady.nil
                    rw [if_pos (by rfl)]
                    go_simp
                    go_at_call 13
                    refine (pad_yes _ g v bs room HO.out hr n0 cb (by omega)).mono ?_
                    rintro e wo ⟨rfl, hkw, v2, hro2, ho2⟩
                    refine hK _ _ ?_
                    clear hK K
                    try simp only [Act.put, List.getElem_toArray, List.getElem_cons_succ, List.getElem_cons_zero, List.setIfInBounds_toArray, List.set_cons_zero, List.set_cons_succ]
                    refine wpAny_take (i := 12) (v := .int .i64 0) rfl (by kernel_rfl) (by kernel_rfl) (by kernel_rfl) (fun _ _ _ h => h) (Or.inl ⟨by rfl, fun X => ?_⟩) ?_
                    · go_simp
                    try simp only [Act.put, List.getElem_toArray, List.getElem_cons_succ, List.getElem_cons_zero, List.setIfInBounds_toArray, List.set_cons_zero, List.set_cons_succ]
                    refine wpAny_done (by kernel_rfl) ?_ _
                    have HV2 : Hid (∀ j, v2.ownBlock = some j → w.heap.size ≤ j) := Lib.hid (hro2.ge HV.out HB.out.size)
                    have HX : Hid (wo.heap[X0]? = some (refO room bs)) := Lib.hid ((hkw.blk X0 (blk_lt HX.out) HGX.out.symm (own_ne HO.out HX.out)).trans HX.out)
                    have HB := Lib.hid (hkw.below HB.out HB.out.size HG.out HV.out)
                    have HV := HV2
                    have HO := Lib.hid ho2
                    clear hkw hro2 ho2 HV2
                    obtain ⟨t, ht⟩ : ∃ t, bstr (bs ++ List.replicate n0 cb) = t := ⟨_, rfl⟩
                    have HT : Hid (bstr (bs ++ List.replicate n0 cb) = t) := Lib.hid ht
                    have HRF : Hid (∀ X, Onto wo.drew X → Calls Try.prog 14 #[refV room bs, .int .i64 n0, .int .u8 (cb.toNat : Nat)] X fun e w' => e = .returned (.tuple #[refV room (bs ++ List.replicate n0 cb), .int .i64 0]) ∧ Below X.heap.size X w') := by
                      show ∀ X, _
                      intro X hX
                      exact rpad_yes X room bs n0 cb hr (by omega)
                    unfold refV at HRF
                    rw [ht, HS.out] at HRF
                    clear ht
                    obtain ⟨m0, m1⟩ := refO_c HX.out
                    rw [HS.out] at m1
                    have m0 : wo.drew.cell? _ = some _ := m0
                    have m1 : wo.drew.cell? _ = some _ := m1
                    have q1 : wo.drew.cell? _ = some _ := keepsB HB.out HC1.out hbl
                    have q2 : wo.drew.cell? _ = some _ := keepsB HB.out HC2.out hbl
                    have q3 : wo.drew.cell? _ = some _ := keepsB HB.out HC3.out hbl
                    go_wp2_with fail
                    refine wp_region_fam_tailP_lit (E := Onto) 15 2
                      [isV (.agg #[.int .i64 room, .string s]),
                       isV (.slice (some ⟨b, off, none⟩) len cap),
                       isV (.int .i64 i),
                       isV (.pointer (some ⟨b, off + i * 4, none⟩)),
                       isV (.pointer (some ⟨b, off + i * 4 + 2, none⟩)),
                       isV (.int .i64 n0),
                       isV (.slice (some ⟨b, off, none⟩) len cap),
                       isV (.int .i64 i),
                       isV (.pointer (some ⟨b, off + i * 4, none⟩)),
                       isV (.pointer (some ⟨b, off + i * 4 + 3, none⟩)),
                       isV (.int .u8 (cb.toNat : Nat)),
                       isV (.tuple #[.agg #[.int .i64 room, .string t], .int .i64 0]),
                       isV (.tuple #[.agg #[.int .i64 room, .string t], .int .i64 0]),
                       isV (.agg #[.int .i64 room, .string t]),
                       isV (.int .i64 0)]
                      [some 100, some 101, some 102, some 103, some 104, some 105, some 106, some 107, some 108, some 109, some 110, some 111, some 99, some 112, some 113] #[true, true, true, true, true, true, true, true, true, true, true, true, true, true, true, false, false] [14] (by kernel_rfl) rfl (by kernel_rfl) (by kernel_rfl) (by kernel_rfl) (fun _ _ _ _ h => h) rfl rfl rfl Onto.trans Onto.refl ?monoAY ?pureAY ?obAY ?qAY
                    case monoAY => exact ⟨isV_mono _ _, isV_mono _ _, isV_mono _ _, isV_mono _ _, isV_mono _ _, isV_mono _ _, isV_mono _ _, isV_mono _ _, isV_mono _ _, isV_mono _ _, isV_mono _ _, isV_mono _ _, isV_mono _ _, isV_mono _ _, isV_mono _ _, trivial⟩
                    case pureAY =>
                      intro j hj
                      obtain rfl : j = 14 := by simpa using hj
                      · refine ⟨by decide, at_of rfl (ObPure.mk' [(99, some 12)] (by kernel_rfl) (isV (.int .i64 0)) rfl rfl (fun a X hL => ?_))⟩
                        simp [Seen, slotAt, famV, isV] at hL
                        have h99 := hL
                        exact ⟨_, rfl, fun Y => by go_simp⟩
                    case obAY =>
                      refine Obs.cons (j := 1) rfl ?_ ?_
                      · refine Ob.free [(7, none)] (by kernel_rfl) (isV (.agg #[.int .i64 room, .string s])) rfl rfl (fun a X hE hL => ?_)
                        simp [Seen, slotAt] at hL
                        have h7 := hL
                        rw [relAt_eq]
                        have f0 := keeps hE _ _ m0; have f1 := keeps hE _ _ m1; have f2 := keeps hE _ _ q1; have f3 := keeps hE _ _ q2; have f4 := keeps hE _ _ q3
                        go_simp
                        exact ⟨Onto.refl _, rfl⟩
                      refine Obs.cons (j := 2) rfl ?_ ?_
                      · refine Ob.free [(1, none)] (by kernel_rfl) (isV (.slice (some ⟨b, off, none⟩) len cap)) rfl rfl (fun a X hE hL => ?_)
                        simp [Seen, slotAt] at hL
                        have h1 := hL
                        rw [relAt_eq]
                        go_simp
                        exact ⟨Onto.refl _, rfl⟩
                      refine Obs.cons (j := 3) rfl ?_ ?_
                      · refine Ob.free [(9, none)] (by kernel_rfl) (isV (.int .i64 i)) rfl rfl (fun a X hE hL => ?_)
                        simp [Seen, slotAt] at hL
                        have h9 := hL
                        rw [relAt_eq]
                        go_simp
                        exact ⟨Onto.refl _, rfl⟩
                      refine Obs.cons (j := 4) rfl ?_ ?_
                      · refine Ob.free [(101, some 1), (102, some 2)] (by kernel_rfl) (isV (.pointer (some ⟨b, off + i * 4, none⟩))) rfl rfl (fun a X hE hL => ?_)
                        simp [Seen, slotAt, famV, isV] at hL
                        obtain ⟨h101, h102⟩ := hL
                        rw [relAt_eq]
                        go_simp
                        exact ⟨Onto.refl _, rfl⟩
                      refine Obs.cons (j := 5) rfl ?_ ?_
                      · refine Ob.free [(103, some 3)] (by kernel_rfl) (isV (.pointer (some ⟨b, off + i * 4 + 2, none⟩))) rfl rfl (fun a X hE hL => ?_)
                        simp [Seen, slotAt, famV, isV] at hL
                        have h103 := hL
                        rw [relAt_eq]
                        go_simp
                        exact ⟨Onto.refl _, rfl⟩
                      refine Obs.cons (j := 6) rfl ?_ ?_
                      · refine Ob.free [(104, some 4)] (by kernel_rfl) (isV (.int .i64 n0)) rfl rfl (fun a X hE hL => ?_)
                        simp [Seen, slotAt, famV, isV] at hL
                        have h104 := hL
                        rw [relAt_eq]
                        have f0 := keeps hE _ _ m0; have f1 := keeps hE _ _ m1; have f2 := keeps hE _ _ q1; have f3 := keeps hE _ _ q2; have f4 := keeps hE _ _ q3
                        go_simp
                        exact ⟨Onto.refl _, rfl⟩
                      refine Obs.cons (j := 7) rfl ?_ ?_
                      · refine Ob.free [(1, none)] (by kernel_rfl) (isV (.slice (some ⟨b, off, none⟩) len cap)) rfl rfl (fun a X hE hL => ?_)
                        simp [Seen, slotAt] at hL
                        have h1 := hL
                        rw [relAt_eq]
                        go_simp
                        exact ⟨Onto.refl _, rfl⟩
                      refine Obs.cons (j := 8) rfl ?_ ?_
                      · refine Ob.free [(9, none)] (by kernel_rfl) (isV (.int .i64 i)) rfl rfl (fun a X hE hL => ?_)
                        simp [Seen, slotAt] at hL
                        have h9 := hL
                        rw [relAt_eq]
                        go_simp
                        exact ⟨Onto.refl _, rfl⟩
                      refine Obs.cons (j := 9) rfl ?_ ?_
                      · refine Ob.free [(106, some 6), (107, some 7)] (by kernel_rfl) (isV (.pointer (some ⟨b, off + i * 4, none⟩))) rfl rfl (fun a X hE hL => ?_)
                        simp [Seen, slotAt, famV, isV] at hL
                        obtain ⟨h106, h107⟩ := hL
                        rw [relAt_eq]
                        go_simp
                        exact ⟨Onto.refl _, rfl⟩
                      refine Obs.cons (j := 10) rfl ?_ ?_
                      · refine Ob.free [(108, some 8)] (by kernel_rfl) (isV (.pointer (some ⟨b, off + i * 4 + 3, none⟩))) rfl rfl (fun a X hE hL => ?_)
                        simp [Seen, slotAt, famV, isV] at hL
                        have h108 := hL
                        rw [relAt_eq]
                        go_simp
                        exact ⟨Onto.refl _, rfl⟩
                      refine Obs.cons (j := 11) rfl ?_ ?_
                      · refine Ob.free [(109, some 9)] (by kernel_rfl) (isV (.int .u8 (cb.toNat : Nat))) rfl rfl (fun a X hE hL => ?_)
                        simp [Seen, slotAt, famV, isV] at hL
                        have h109 := hL
                        rw [relAt_eq]
                        have f0 := keeps hE _ _ m0; have f1 := keeps hE _ _ m1; have f2 := keeps hE _ _ q1; have f3 := keeps hE _ _ q2; have f4 := keeps hE _ _ q3
                        go_simp
                        exact ⟨Onto.refl _, rfl⟩
                      refine Obs.cons (j := 12) rfl ?_ ?_
                      · refine Ob.free [(100, some 0), (105, some 5), (110, some 10)] (by kernel_rfl) (isV (.tuple #[.agg #[.int .i64 room, .string t], .int .i64 0])) rfl rfl (fun a X hE hL => ?_)
                        simp [Seen, slotAt, famV, isV] at hL
                        obtain ⟨h100, h105, h110⟩ := hL
                        rw [relAt_eq]
                        go_simp
                        rw [relUpon_enter]
                        go_at_call 14
                        refine (HRF.out X hE).mono ?_
                        rintro e Y ⟨rfl, hY⟩
                        exact ⟨_, rfl, hY, rfl⟩
                      refine Obs.cons (j := 13) rfl ?_ ?_
                      · refine Ob.free [(111, some 11)] (by kernel_rfl) (isV (.tuple #[.agg #[.int .i64 room, .string t], .int .i64 0])) rfl rfl (fun a X hE hL => ?_)
                        simp [Seen, slotAt, famV, isV] at hL
                        have h111 := hL
                        rw [relAt_eq]
                        go_simp
                        exact ⟨Onto.refl _, rfl⟩
                      refine Obs.cons (j := 14) rfl ?_ ?_
                      · refine Ob.free [(99, some 12)] (by kernel_rfl) (isV (.agg #[.int .i64 room, .string t])) rfl rfl (fun a X hE hL => ?_)
                        simp [Seen, slotAt, famV, isV] at hL
                        have h99 := hL
                        rw [relAt_eq]
                        go_simp
                        exact ⟨Onto.refl _, rfl⟩
                      refine Obs.cons (j := 15) rfl ?_ ?_
                      · refine Ob.free [(99, some 12)] (by kernel_rfl) (isV (.int .i64 0)) rfl rfl (fun a X hE hL => ?_)
                        simp [Seen, slotAt, famV, isV] at hL
                        have h99 := hL
                        rw [relAt_eq]
                        go_simp
                        exact ⟨Onto.refl _, rfl⟩
                      exact trivial
                    case qAY =>
                      intro x w7 hE hV
                      simp [AllV, famV, isV] at hV
                      obtain ⟨-, -, -, -, -, -, -, -, -, -, -, -, -, h112, h113⟩ := hV
                      simp only [puts, Act.put, List.setIfInBounds_toArray, List.set_cons_zero, List.set_cons_succ, h112, h113]
                      generalize x 100 = y100
                      generalize x 101 = y101
                      generalize x 102 = y102
                      generalize x 103 = y103
                      generalize x 104 = y104
                      generalize x 105 = y105
                      generalize x 106 = y106
                      generalize x 107 = y107
                      generalize x 108 = y108
                      generalize x 109 = y109
                      generalize x 110 = y110
                      generalize x 111 = y111
                      generalize x 99 = y99
                      clear h112 h113
                      have hX7 := (onto_drew hE).block X0 (blk_lt HX.out)
                      have hX7 : w7.heap[X0]? = some (refO room bs) := hX7.trans HX.out
                      obtain ⟨k0, k1⟩ := refO_c hX7
                      have z0 := frozen_of_row w7 X0 0 _ _ hX7
                      have z1 := frozen_of_row w7 X0 1 _ _ hX7
                      have HX7 := Lib.hid hX7
                      have HE := Lib.hid (onto_drew hE)
                      clear hX7 hE
                      refine wpAny_ready (rs := [15]) (by kernel_rfl) (by simp) ?_
                      refine AllReady.cons rfl (fun K hK => ?_) AllReady.nil
                      rw [if_pos (by rfl)]
                      go_simp
                      refine hK _ _ ?_
                      clear hK K
                      try simp only [List.setIfInBounds_toArray, List.set_cons_zero, List.set_cons_succ]
                      refine wpAny_take (i := 16) (v := .int .i64 0) rfl (by kernel_rfl) (by kernel_rfl) (by kernel_rfl) (fun _ _ _ h => h) (Or.inl ⟨by rfl, fun X => ?_⟩) ?_
                      · go_simp
                      try simp only [Act.put, List.getElem_toArray, List.getElem_cons_succ, List.getElem_cons_zero, List.setIfInBounds_toArray, List.set_cons_zero, List.set_cons_succ]
                      refine wpAny_done (by kernel_rfl) ?_ _
                      have e1 := heap_setCell_same w7 X0 0 _ _ (.int .i64 room) HX7.out
                      have e2 := heap_setCell_same _ X0 1 _ _ (.string t) e1
                      have HX8 : Hid (((w7.setCell ⟨X0, 0, none⟩ (.int .i64 room)).setCell ⟨X0, 1, none⟩ (.string t)).heap[X0]? = some (refO room (bs ++ List.replicate n0 cb))) := Lib.hid (by unfold refO; rw [HT.out]; exact e2)
                      have HB8 := Lib.hid (((HB.out.trans (HE.out.mono HB.out.size)).setCell (p := ⟨X0, 0, none⟩) HXB.out (.int .i64 room)).setCell (p := ⟨X0, 1, none⟩) HXB.out (.string t))
                      have ho8 : Kept X0 none wo ((w7.setCell ⟨X0, 0, none⟩ (.int .i64 room)).setCell ⟨X0, 1, none⟩ (.string t)) := ⟨HE.out.os, HE.out.tape, HE.out.output, by have := HE.out.size; simp; omega, fun k hk h1 _ => by rw [heap_setCell_other _ _ _ _ h1, heap_setCell_other _ _ _ _ h1]; exact HE.out.block k hk⟩
                      have HO8 := Lib.hid (HO.out.kept ho8 HGX.out (by simp) (own_ne HO.out HX.out) (none_or HO.out))
                      generalize (w7.setCell ⟨X0, 0, none⟩ (.int .i64 room)).setCell ⟨X0, 1, none⟩ (.string t) = w8 at HX8 HB8 HO8 ⊢
                      clear e1 e2 ho8 k0 k1 z0 z1
                      obtain ⟨u0, u1⟩ := refO_c HX8.out
                      have HSM := Lib.hid (same_any w8 g _ _ room HO8.out hr (by simp; omega))
                      unfold refV at HSM
                      have HSL := Lib.hid (show (bs ++ List.replicate n0 cb).length ≤ room from by simp; omega)
                      go_wp2_with (go_at_call 17; (with_reducible refine HSM.out.mono ?_); rintro e w9 ⟨rfl, hb9⟩)
                      go_roundw
                      case rel => exact ⟨i + 1, _, _, by omega, by go_num, HSL.out, HO8.out.below hb9, (hb9.block X0 (blk_lt HX8.out)).trans HX8.out, HB8.out.trans (hb9.mono HB8.out.size), HV.out⟩
                      case measure => simp [intOf]; omega
            · have j1 : (kk == 1) = false := beq_eq_false_iff_ne.2 hk1
              clear hk0 hk1
              by_cases hbadc : nn < 0 ∨ (bs.length : Nat) < nn
              · skip
                go_wp2_with fail
                go_at_call 15
                refine (cut_bad _ g v bs room HO.out nn hbadc).mono ?_
                rintro e wo ⟨rfl, hwo⟩
                have hbw := below_of_eq hwo
                clear hwo
                have HO := Lib.hid (HO.out.below hbw)
                have HX : Hid (wo.heap[X0]? = some (refO room bs)) := Lib.hid ((hbw.block X0 (blk_lt HX.out)).trans HX.out)
                have HB := Lib.hid (HB.out.trans (hbw.mono HB.out.size))
                clear hbw
                have HRF : Hid (∀ X, Onto wo.drew X → Calls Try.prog 16 #[refV room bs, .int .i64 nn] X fun e w' => e = .returned (.tuple #[refV room (bs), .int .i64 2]) ∧ Below X.heap.size X w') := by
                  show ∀ X, _
                  intro X hX
                  exact rcut_bad X room bs nn hbadc
                unfold refV at HRF
                rw [HS.out] at HRF
                obtain ⟨m0, m1⟩ := refO_c HX.out
                rw [HS.out] at m1
                have m0 : wo.drew.cell? _ = some _ := m0
                have m1 : wo.drew.cell? _ = some _ := m1
                have q1 : wo.drew.cell? _ = some _ := keepsB HB.out HC1.out hbl
                have q2 : wo.drew.cell? _ = some _ := keepsB HB.out HC2.out hbl
                have q3 : wo.drew.cell? _ = some _ := keepsB HB.out HC3.out hbl
                go_wp2_with fail
                refine wp_region_fam_tailP_lit (E := Onto) 10 2
                  [isV (.agg #[.int .i64 room, .string s]),
                   isV (.slice (some ⟨b, off, none⟩) len cap),
                   isV (.int .i64 i),
                   isV (.pointer (some ⟨b, off + i * 4, none⟩)),
                   isV (.pointer (some ⟨b, off + i * 4 + 2, none⟩)),
                   isV (.int .i64 nn),
                   isV (.tuple #[.agg #[.int .i64 room, .string s], .int .i64 2]),
                   isV (.tuple #[.agg #[.int .i64 room, .string s], .int .i64 2]),
                   isV (.agg #[.int .i64 room, .string s]),
                   isV (.int .i64 2)]
                  [some 57, some 58, some 59, some 60, some 61, some 62, some 63, some 56, some 64, some 65] #[true, true, true, true, true, true, true, true, true, true, false, false] [9] (by kernel_rfl) rfl (by kernel_rfl) (by kernel_rfl) (by kernel_rfl) (fun _ _ _ _ h => h) rfl rfl rfl Onto.trans Onto.refl ?monoCN ?pureCN ?obCN ?qCN
                case monoCN => exact ⟨isV_mono _ _, isV_mono _ _, isV_mono _ _, isV_mono _ _, isV_mono _ _, isV_mono _ _, isV_mono _ _, isV_mono _ _, isV_mono _ _, isV_mono _ _, trivial⟩
                case pureCN =>
                  intro j hj
                  obtain rfl : j = 9 := by simpa using hj
                  · refine ⟨by decide, at_of rfl (ObPure.mk' [(56, some 7)] (by kernel_rfl) (isV (.int .i64 2)) rfl rfl (fun a X hL => ?_))⟩
                    simp [Seen, slotAt, famV, isV] at hL
                    have h56 := hL
                    exact ⟨_, rfl, fun Y => by go_simp⟩
                case obCN =>
                  refine Obs.cons (j := 1) rfl ?_ ?_
                  · refine Ob.free [(7, none)] (by kernel_rfl) (isV (.agg #[.int .i64 room, .string s])) rfl rfl (fun a X hE hL => ?_)
                    simp [Seen, slotAt] at hL
                    have h7 := hL
                    rw [relAt_eq]
                    have f0 := keeps hE _ _ m0; have f1 := keeps hE _ _ m1; have f2 := keeps hE _ _ q1; have f3 := keeps hE _ _ q2; have f4 := keeps hE _ _ q3
                    go_simp
                    exact ⟨Onto.refl _, rfl⟩
                  refine Obs.cons (j := 2) rfl ?_ ?_
                  · refine Ob.free [(1, none)] (by kernel_rfl) (isV (.slice (some ⟨b, off, none⟩) len cap)) rfl rfl (fun a X hE hL => ?_)
                    simp [Seen, slotAt] at hL
                    have h1 := hL
                    rw [relAt_eq]
                    go_simp
                    exact ⟨Onto.refl _, rfl⟩
                  refine Obs.cons (j := 3) rfl ?_ ?_
                  · refine Ob.free [(9, none)] (by kernel_rfl) (isV (.int .i64 i)) rfl rfl (fun a X hE hL => ?_)
                    simp [Seen, slotAt] at hL
                    have h9 := hL
                    rw [relAt_eq]
                    go_simp
                    exact ⟨Onto.refl _, rfl⟩
                  refine Obs.cons (j := 4) rfl ?_ ?_
                  · refine Ob.free [(58, some 1), (59, some 2)] (by kernel_rfl) (isV (.pointer (some ⟨b, off + i * 4, none⟩))) rfl rfl (fun a X hE hL => ?_)
                    simp [Seen, slotAt, famV, isV] at hL
                    obtain ⟨h58, h59⟩ := hL
                    rw [relAt_eq]
                    go_simp
                    exact ⟨Onto.refl _, rfl⟩
                  refine Obs.cons (j := 5) rfl ?_ ?_
                  · refine Ob.free [(60, some 3)] (by kernel_rfl) (isV (.pointer (some ⟨b, off + i * 4 + 2, none⟩))) rfl rfl (fun a X hE hL => ?_)
                    simp [Seen, slotAt, famV, isV] at hL
                    have h60 := hL
                    rw [relAt_eq]
                    go_simp
                    exact ⟨Onto.refl _, rfl⟩
                  refine Obs.cons (j := 6) rfl ?_ ?_
                  · refine Ob.free [(61, some 4)] (by kernel_rfl) (isV (.int .i64 nn)) rfl rfl (fun a X hE hL => ?_)
                    simp [Seen, slotAt, famV, isV] at hL
                    have h61 := hL
                    rw [relAt_eq]
                    have f0 := keeps hE _ _ m0; have f1 := keeps hE _ _ m1; have f2 := keeps hE _ _ q1; have f3 := keeps hE _ _ q2; have f4 := keeps hE _ _ q3
                    go_simp
                    exact ⟨Onto.refl _, rfl⟩
                  refine Obs.cons (j := 7) rfl ?_ ?_
                  · refine Ob.free [(57, some 0), (62, some 5)] (by kernel_rfl) (isV (.tuple #[.agg #[.int .i64 room, .string s], .int .i64 2])) rfl rfl (fun a X hE hL => ?_)
                    simp [Seen, slotAt, famV, isV] at hL
                    obtain ⟨h57, h62⟩ := hL
                    rw [relAt_eq]
                    go_simp
                    rw [relUpon_enter]
                    go_at_call 16
                    refine (HRF.out X hE).mono ?_
                    rintro e Y ⟨rfl, hY⟩
                    exact ⟨_, rfl, hY, rfl⟩
                  refine Obs.cons (j := 8) rfl ?_ ?_
                  · refine Ob.free [(63, some 6)] (by kernel_rfl) (isV (.tuple #[.agg #[.int .i64 room, .string s], .int .i64 2])) rfl rfl (fun a X hE hL => ?_)
                    simp [Seen, slotAt, famV, isV] at hL
                    have h63 := hL
                    rw [relAt_eq]
                    go_simp
                    exact ⟨Onto.refl _, rfl⟩
                  refine Obs.cons (j := 9) rfl ?_ ?_
                  · refine Ob.free [(56, some 7)] (by kernel_rfl) (isV (.agg #[.int .i64 room, .string s])) rfl rfl (fun a X hE hL => ?_)
                    simp [Seen, slotAt, famV, isV] at hL
                    have h56 := hL
                    rw [relAt_eq]
                    go_simp
                    exact ⟨Onto.refl _, rfl⟩
                  refine Obs.cons (j := 10) rfl ?_ ?_
                  · refine Ob.free [(56, some 7)] (by kernel_rfl) (isV (.int .i64 2)) rfl rfl (fun a X hE hL => ?_)
                    simp [Seen, slotAt, famV, isV] at hL
                    have h56 := hL
                    rw [relAt_eq]
                    go_simp
                    exact ⟨Onto.refl _, rfl⟩
                  exact trivial
                case qCN =>
                  intro x w7 hE hV
                  simp [AllV, famV, isV] at hV
                  obtain ⟨-, -, -, -, -, -, -, -, h64, h65⟩ := hV
                  simp only [puts, Act.put, List.setIfInBounds_toArray, List.set_cons_zero, List.set_cons_succ, h64, h65]
                  generalize x 57 = y57
                  generalize x 58 = y58
                  generalize x 59 = y59
                  generalize x 60 = y60
                  generalize x 61 = y61
                  generalize x 62 = y62
                  generalize x 63 = y63
                  generalize x 56 = y56
                  clear h64 h65
                  have hX7 := (onto_drew hE).block X0 (blk_lt HX.out)
                  have hX7 : w7.heap[X0]? = some (refO room bs) := hX7.trans HX.out
                  obtain ⟨k0, k1⟩ := refO_c hX7
                  have z0 := frozen_of_row w7 X0 0 _ _ hX7
                  have z1 := frozen_of_row w7 X0 1 _ _ hX7
                  have HX7 := Lib.hid hX7
                  have HE := Lib.hid (onto_drew hE)
                  clear hX7 hE
                  refine wpAny_ready (rs := [10]) (by kernel_rfl) (by simp) ?_
                  refine AllReady.cons rfl (fun K hK => ?_) AllReady.nil
                  rw [if_pos (by rfl)]
                  go_simp
                  refine hK _ _ ?_
                  clear hK K
                  try simp only [List.setIfInBounds_toArray, List.set_cons_zero, List.set_cons_succ]
                  refine wpAny_take (i := 11) (v := .int .i64 2) rfl (by kernel_rfl) (by kernel_rfl) (by kernel_rfl) (fun _ _ _ h => h) (Or.inl ⟨by rfl, fun X => ?_⟩) ?_
                  · go_simp
                  try simp only [Act.put, List.getElem_toArray, List.getElem_cons_succ, List.getElem_cons_zero, List.setIfInBounds_toArray, List.set_cons_zero, List.set_cons_succ]
                  refine wpAny_done (by kernel_rfl) ?_ _
                  have e1 := heap_setCell_same w7 X0 0 _ _ (.int .i64 room) HX7.out
                  have e2 := heap_setCell_same _ X0 1 _ _ (.string s) e1
                  have HX8 : Hid (((w7.setCell ⟨X0, 0, none⟩ (.int .i64 room)).setCell ⟨X0, 1, none⟩ (.string s)).heap[X0]? = some (refO room (bs))) := Lib.hid (by unfold refO; rw [HS.out]; exact e2)
                  have HB8 := Lib.hid (((HB.out.trans (HE.out.mono HB.out.size)).setCell (p := ⟨X0, 0, none⟩) HXB.out (.int .i64 room)).setCell (p := ⟨X0, 1, none⟩) HXB.out (.string s))
                  have ho8 : Kept X0 none wo ((w7.setCell ⟨X0, 0, none⟩ (.int .i64 room)).setCell ⟨X0, 1, none⟩ (.string s)) := ⟨HE.out.os, HE.out.tape, HE.out.output, by have := HE.out.size; simp; omega, fun k hk h1 _ => by rw [heap_setCell_other _ _ _ _ h1, heap_setCell_other _ _ _ _ h1]; exact HE.out.block k hk⟩
                  have HO8 := Lib.hid (HO.out.kept ho8 HGX.out (by simp) (own_ne HO.out HX.out) (none_or HO.out))
                  generalize (w7.setCell ⟨X0, 0, none⟩ (.int .i64 room)).setCell ⟨X0, 1, none⟩ (.string s) = w8 at HX8 HB8 HO8 ⊢
                  clear e1 e2 ho8 k0 k1 z0 z1
                  obtain ⟨u0, u1⟩ := refO_c HX8.out
                  have HSM := Lib.hid (same_any w8 g _ _ room HO8.out hr (hle))
                  unfold refV at HSM
                  have HSL := Lib.hid (show (bs).length ≤ room from hle)
                  go_wp2_with (go_at_call 17; (with_reducible refine HSM.out.mono ?_); rintro e w9 ⟨rfl, hb9⟩)
                  go_roundw
                  case rel => exact ⟨i + 1, _, _, by omega, by go_num, HSL.out, HO8.out.below hb9, (hb9.block X0 (blk_lt HX8.out)).trans HX8.out, HB8.out.trans (hb9.mono HB8.out.size), HV.out⟩
                  case measure => simp [intOf]; omega
              · obtain ⟨n0, rfl⟩ : ∃ n0 : Nat, nn = n0 := ⟨nn.toNat, by omega⟩
                go_wp2_with fail
                go_at_call 15
                refine (cut_good _ g v bs room HO.out n0 (by omega)).mono ?_
                rintro e wo ⟨rfl, hkw, v2, hro2, ho2⟩
                have HV2 : Hid (∀ j, v2.ownBlock = some j → w.heap.size ≤ j) := Lib.hid (by rw [hro2]; exact HV.out)
                have HX : Hid (wo.heap[X0]? = some (refO room bs)) := Lib.hid ((hkw.blk X0 (blk_lt HX.out) HGX.out.symm (own_ne HO.out HX.out)).trans HX.out)
                have HB := Lib.hid (hkw.below HB.out HB.out.size HG.out HV.out)
                have HV := HV2
                have HO := Lib.hid ho2
                clear hkw hro2 ho2 HV2
                obtain ⟨t, ht⟩ : ∃ t, bstr (bs.take n0) = t := ⟨_, rfl⟩
                have HT : Hid (bstr (bs.take n0) = t) := Lib.hid ht
                have HRF : Hid (∀ X, Onto wo.drew X → Calls Try.prog 16 #[refV room bs, .int .i64 n0] X fun e w' => e = .returned (.tuple #[refV room (bs.take n0), .int .i64 0]) ∧ Below X.heap.size X w') := by
                  show ∀ X, _
                  intro X hX
                  exact rcut_good X room bs n0 (by omega)
                unfold refV at HRF
                rw [ht, HS.out] at HRF
                clear ht
                obtain ⟨m0, m1⟩ := refO_c HX.out
                rw [HS.out] at m1
                have m0 : wo.drew.cell? _ = some _ := m0
                have m1 : wo.drew.cell? _ = some _ := m1
                have q1 : wo.drew.cell? _ = some _ := keepsB HB.out HC1.out hbl
                have q2 : wo.drew.cell? _ = some _ := keepsB HB.out HC2.out hbl
                have q3 : wo.drew.cell? _ = some _ := keepsB HB.out HC3.out hbl
                go_wp2_with fail
                refine wp_region_fam_tailP_lit (E := Onto) 10 2
                  [isV (.agg #[.int .i64 room, .string s]),
                   isV (.slice (some ⟨b, off, none⟩) len cap),
                   isV (.int .i64 i),
                   isV (.pointer (some ⟨b, off + i * 4, none⟩)),
                   isV (.pointer (some ⟨b, off + i * 4 + 2, none⟩)),
                   isV (.int .i64 n0),
                   isV (.tuple #[.agg #[.int .i64 room, .string t], .int .i64 0]),
                   isV (.tuple #[.agg #[.int .i64 room, .string t], .int .i64 0]),
                   isV (.agg #[.int .i64 room, .string t]),
                   isV (.int .i64 0)]
                  [some 57, some 58, some 59, some 60, some 61, some 62, some 63, some 56, some 64, some 65] #[true, true, true, true, true, true, true, true, true, true, false, false] [9] (by kernel_rfl) rfl (by kernel_rfl) (by kernel_rfl) (by kernel_rfl) (fun _ _ _ _ h => h) rfl rfl rfl Onto.trans Onto.refl ?monoCY ?pureCY ?obCY ?qCY
                case monoCY => exact ⟨isV_mono _ _, isV_mono _ _, isV_mono _ _, isV_mono _ _, isV_mono _ _, isV_mono _ _, isV_mono _ _, isV_mono _ _, isV_mono _ _, isV_mono _ _, trivial⟩
                case pureCY =>
                  intro j hj
                  obtain rfl : j = 9 := by simpa using hj
                  · refine ⟨by decide, at_of rfl (ObPure.mk' [(56, some 7)] (by kernel_rfl) (isV (.int .i64 0)) rfl rfl (fun a X hL => ?_))⟩
                    simp [Seen, slotAt, famV, isV] at hL
                    have h56 := hL
                    exact ⟨_, rfl, fun Y => by go_simp⟩
                case obCY =>
                  refine Obs.cons (j := 1) rfl ?_ ?_
                  · refine Ob.free [(7, none)] (by kernel_rfl) (isV (.agg #[.int .i64 room, .string s])) rfl rfl (fun a X hE hL => ?_)
                    simp [Seen, slotAt] at hL
                    have h7 := hL
                    rw [relAt_eq]
                    have f0 := keeps hE _ _ m0; have f1 := keeps hE _ _ m1; have f2 := keeps hE _ _ q1; have f3 := keeps hE _ _ q2; have f4 := keeps hE _ _ q3
                    go_simp
                    exact ⟨Onto.refl _, rfl⟩
                  refine Obs.cons (j := 2) rfl ?_ ?_
                  · refine Ob.free [(1, none)] (by kernel_rfl) (isV (.slice (some ⟨b, off, none⟩) len cap)) rfl rfl (fun a X hE hL => ?_)
                    simp [Seen, slotAt] at hL
                    have h1 := hL
                    rw [relAt_eq]
                    go_simp
                    exact ⟨Onto.refl _, rfl⟩
                  refine Obs.cons (j := 3) rfl ?_ ?_
                  · refine Ob.free [(9, none)] (by kernel_rfl) (isV (.int .i64 i)) rfl rfl (fun a X hE hL => ?_)
                    simp [Seen, slotAt] at hL
                    have h9 := hL
                    rw [relAt_eq]
                    go_simp
                    exact ⟨Onto.refl _, rfl⟩
                  refine Obs.cons (j := 4) rfl ?_ ?_
                  · refine Ob.free [(58, some 1), (59, some 2)] (by kernel_rfl) (isV (.pointer (some ⟨b, off + i * 4, none⟩))) rfl rfl (fun a X hE hL => ?_)
                    simp [Seen, slotAt, famV, isV] at hL
                    obtain ⟨h58, h59⟩ := hL
                    rw [relAt_eq]
                    go_simp
                    exact ⟨Onto.refl _, rfl⟩
                  refine Obs.cons (j := 5) rfl ?_ ?_
                  · refine Ob.free [(60, some 3)] (by kernel_rfl) (isV (.pointer (some ⟨b, off + i * 4 + 2, none⟩))) rfl rfl (fun a X hE hL => ?_)
                    simp [Seen, slotAt, famV, isV] at hL
                    have h60 := hL
                    rw [relAt_eq]
                    go_simp
                    exact ⟨Onto.refl _, rfl⟩
                  refine Obs.cons (j := 6) rfl ?_ ?_
                  · refine Ob.free [(61, some 4)] (by kernel_rfl) (isV (.int .i64 n0)) rfl rfl (fun a X hE hL => ?_)
                    simp [Seen, slotAt, famV, isV] at hL
                    have h61 := hL
                    rw [relAt_eq]
                    have f0 := keeps hE _ _ m0; have f1 := keeps hE _ _ m1; have f2 := keeps hE _ _ q1; have f3 := keeps hE _ _ q2; have f4 := keeps hE _ _ q3
                    go_simp
                    exact ⟨Onto.refl _, rfl⟩
                  refine Obs.cons (j := 7) rfl ?_ ?_
                  · refine Ob.free [(57, some 0), (62, some 5)] (by kernel_rfl) (isV (.tuple #[.agg #[.int .i64 room, .string t], .int .i64 0])) rfl rfl (fun a X hE hL => ?_)
                    simp [Seen, slotAt, famV, isV] at hL
                    obtain ⟨h57, h62⟩ := hL
                    rw [relAt_eq]
                    go_simp
                    rw [relUpon_enter]
                    go_at_call 16
                    refine (HRF.out X hE).mono ?_
                    rintro e Y ⟨rfl, hY⟩
                    exact ⟨_, rfl, hY, rfl⟩
                  refine Obs.cons (j := 8) rfl ?_ ?_
                  · refine Ob.free [(63, some 6)] (by kernel_rfl) (isV (.tuple #[.agg #[.int .i64 room, .string t], .int .i64 0])) rfl rfl (fun a X hE hL => ?_)
                    simp [Seen, slotAt, famV, isV] at hL
                    have h63 := hL
                    rw [relAt_eq]
                    go_simp
                    exact ⟨Onto.refl _, rfl⟩
                  refine Obs.cons (j := 9) rfl ?_ ?_
                  · refine Ob.free [(56, some 7)] (by kernel_rfl) (isV (.agg #[.int .i64 room, .string t])) rfl rfl (fun a X hE hL => ?_)
                    simp [Seen, slotAt, famV, isV] at hL
                    have h56 := hL
                    rw [relAt_eq]
                    go_simp
                    exact ⟨Onto.refl _, rfl⟩
                  refine Obs.cons (j := 10) rfl ?_ ?_
                  · refine Ob.free [(56, some 7)] (by kernel_rfl) (isV (.int .i64 0)) rfl rfl (fun a X hE hL => ?_)
                    simp [Seen, slotAt, famV, isV] at hL
                    have h56 := hL
                    rw [relAt_eq]
                    go_simp
                    exact ⟨Onto.refl _, rfl⟩
                  exact trivial
                case qCY =>
                  intro x w7 hE hV
                  simp [AllV, famV, isV] at hV
                  obtain ⟨-, -, -, -, -, -, -, -, h64, h65⟩ := hV
                  simp only [puts, Act.put, List.setIfInBounds_toArray, List.set_cons_zero, List.set_cons_succ, h64, h65]
                  generalize x 57 = y57
                  generalize x 58 = y58
                  generalize x 59 = y59
                  generalize x 60 = y60
                  generalize x 61 = y61
                  generalize x 62 = y62
                  generalize x 63 = y63
                  generalize x 56 = y56
                  clear h64 h65
                  have hX7 := (onto_drew hE).block X0 (blk_lt HX.out)
                  have hX7 : w7.heap[X0]? = some (refO room bs) := hX7.trans HX.out
                  obtain ⟨k0, k1⟩ := refO_c hX7
                  have z0 := frozen_of_row w7 X0 0 _ _ hX7
                  have z1 := frozen_of_row w7 X0 1 _ _ hX7
                  have HX7 := Lib.hid hX7
                  have HE := Lib.hid (onto_drew hE)
                  clear hX7 hE
                  refine wpAny_ready (rs := [10]) (by kernel_rfl) (by simp) ?_
                  refine AllReady.cons rfl (fun K hK => ?_) AllReady.nil
                  rw [if_pos (by rfl)]
                  go_simp
                  refine hK _ _ ?_
                  clear hK K
                  try simp only [List.setIfInBounds_toArray, List.set_cons_zero, List.set_cons_succ]
                  refine wpAny_take (i := 11) (v := .int .i64 0) rfl (by kernel_rfl) (by kernel_rfl) (by kernel_rfl) (fun _ _ _ h => h) (Or.inl ⟨by rfl, fun X => ?_⟩) ?_
                  · go_simp
                  try simp only [Act.put, List.getElem_toArray, List.getElem_cons_succ, List.getElem_cons_zero, List.setIfInBounds_toArray, List.set_cons_zero, List.set_cons_succ]
                  refine wpAny_done (by kernel_rfl) ?_ _
                  have e1 := heap_setCell_same w7 X0 0 _ _ (.int .i64 room) HX7.out
                  have e2 := heap_setCell_same _ X0 1 _ _ (.string t) e1
                  have HX8 : Hid (((w7.setCell ⟨X0, 0, none⟩ (.int .i64 room)).setCell ⟨X0, 1, none⟩ (.string t)).heap[X0]? = some (refO room (bs.take n0))) := Lib.hid (by unfold refO; rw [HT.out]; exact e2)
                  have HB8 := Lib.hid (((HB.out.trans (HE.out.mono HB.out.size)).setCell (p := ⟨X0, 0, none⟩) HXB.out (.int .i64 room)).setCell (p := ⟨X0, 1, none⟩) HXB.out (.string t))
                  have ho8 : Kept X0 none wo ((w7.setCell ⟨X0, 0, none⟩ (.int .i64 room)).setCell ⟨X0, 1, none⟩ (.string t)) := ⟨HE.out.os, HE.out.tape, HE.out.output, by have := HE.out.size; simp; omega, fun k hk h1 _ => by rw [heap_setCell_other _ _ _ _ h1, heap_setCell_other _ _ _ _ h1]; exact HE.out.block k hk⟩
                  have HO8 := Lib.hid (HO.out.kept ho8 HGX.out (by simp) (own_ne HO.out HX.out) (none_or HO.out))
                  generalize (w7.setCell ⟨X0, 0, none⟩ (.int .i64 room)).setCell ⟨X0, 1, none⟩ (.string t) = w8 at HX8 HB8 HO8 ⊢
                  clear e1 e2 ho8 k0 k1 z0 z1
                  obtain ⟨u0, u1⟩ := refO_c HX8.out
                  have HSM := Lib.hid (same_any w8 g _ _ room HO8.out hr (by simp; omega))
                  unfold refV at HSM
                  have HSL := Lib.hid (show (bs.take n0).length ≤ room from by simp; omega)
                  go_wp2_with (go_at_call 17; (with_reducible refine HSM.out.mono ?_); rintro e w9 ⟨rfl, hb9⟩)
                  go_roundw
                  case rel => exact ⟨i + 1, _, _, by omega, by go_num, HSL.out, HO8.out.below hb9, (hb9.block X0 (blk_lt HX8.out)).trans HX8.out, HB8.out.trans (hb9.mono HB8.out.size), HV.out⟩
                  case measure => simp [intOf]; omega
        · go_wp2_with (go_at_call 9; (with_reducible refine (HK.out _).mono ?_); rintro e w4 ⟨rfl, hb4⟩)
          go_ret
          exact ⟨rfl, HB.out.trans (hb4.mono HB.out.size)⟩
end Go.Proofs.Ytajfnkboeaflnaa

