
import Derived.Test.YtajfnkboeaflnaaQRef3
import Derived.Test.YtajfnkboeaflnaaFam
namespace Go.Proofs.Ytajfnkboeaflnaa
open Go.RowKit

theorem len_onto (w : World) (g : Nat) (v : Value) (bs : List UInt8) (room : Nat) (h : OutAt w g v bs room) :
    Calls Try.prog 19 #[.pointer (some ⟨g, 0, none⟩)] w fun e w' => e = .returned (.int .i64 (bs.length : Nat)) ∧ Below w.heap.size w w' :=
  (len_any w g v bs room h).mono fun e w' ⟨h1, h2⟩ => ⟨h1, by subst h2; exact Below.refl _ _⟩
theorem text_onto (w : World) (g : Nat) (v : Value) (bs : List UInt8) (room : Nat) (h : OutAt w g v bs room) :
    Calls Try.prog 8 #[.pointer (some ⟨g, 0, none⟩)] w fun e w' => e = .returned (.string (bstr bs)) ∧ Below w.heap.size w w' :=
  (text_any w g v bs room h).mono fun e w' ⟨h1, h2⟩ => ⟨h1, by subst h2; exact Below.refl _ _⟩
theorem bstr_get (l : List UInt8) (i : Nat) (h : i < (bstr l).size) (h' : i < l.length) : (bstr l)[i]'h = l[i]'h' := rfl
set_option maxHeartbeats 1000000 in
theorem same_any (w : World) (g : Nat) (v : Value) (bs : List UInt8) (room : Nat) (h : OutAt w g v bs room) (hr : room ≤ 1073741824) (hb : bs.length ≤ room) :
    Calls Try.prog 17 #[.pointer (some ⟨g, 0, none⟩), refV room bs] w fun e w' => e = .returned (.bool true) ∧ Below w.heap.size w w' := by
  have HL := Lib.hid fun X (h' : OutAt X g v bs room) => len_onto X g v bs room h'
  have HT := Lib.hid fun X (h' : OutAt X g v bs room) => text_onto X g v bs room h'
  have HLE := Lib.hid fun X (h' : OutAt X g v bs room) => leftO_any X g v bs room h' hr hb
  have HSZ0 := Lib.hid (bstr_size bs)
  have hlast : (bs = [] ∧ ∃ H : Hid (∀ X, OutAt X g v bs room → Calls Try.prog 18 #[.pointer (some ⟨g, 0, none⟩)] X fun e w' => e = .returned (.tuple #[.int .u8 0, .bool false]) ∧ Below X.heap.size X w'), True) ∨
      (∃ (b : UInt8) (hl : bs.length - 1 < (bstr bs).size), 0 < bs.length ∧ (bstr bs)[bs.length - 1]'hl = b ∧ ∃ H : Hid (∀ X, OutAt X g v bs room → Calls Try.prog 18 #[.pointer (some ⟨g, 0, none⟩)] X fun e w' => e = .returned (.tuple #[.int .u8 b.toNat, .bool true]) ∧ Below X.heap.size X w'), True) := by
    rcases List.eq_nil_or_concat bs with rfl | ⟨l, b, rfl⟩
    · exact .inl ⟨rfl, Lib.hid fun X h' => last_none X g v room h', trivial⟩
    · refine .inr ⟨b, by rw [bstr_size]; simp, by simp, ?_, Lib.hid fun X h' => by
        have := last_some X g v l b room (by simpa using h')
        exact this, trivial⟩
      rw [bstr_get _ _ _ (by simp)]
      simp
  have HO := Lib.hid h
  unfold refV
  clear h
  obtain ⟨d, hd⟩ : ∃ d : Int, (room : Int) - (bs.length : Nat) = d := ⟨_, rfl⟩
  have HD0 := Lib.hid hd
  rw [hd] at HLE
  have hmr : bs.length ≤ 1073741824 := by omega
  clear hd hb
  rcases hlast with ⟨hnil, HLA, _⟩ | ⟨b, hlb, hpos, hix, HLA, _⟩
  · have hm0 : bs.length = 0 := by rw [hnil]; rfl
    have HM0 := Lib.hid hm0
    obtain ⟨s, hs⟩ : ∃ s, bstr bs = s := ⟨_, rfl⟩
    rw [hs] at HSZ0 HT ⊢
    obtain ⟨m, hm⟩ : ∃ m, bs.length = m := ⟨_, rfl⟩
    rw [hm] at HL HSZ0 HD0 hmr HM0
    have hsz := HSZ0.out
    have HSZ : Hid ((s.size : Int) = (m : Int)) := by show _ = _; rw [HSZ0.out]
    have HD : Hid (IntKind.i64.wrap ((room : Int) - (m : Int)) = d) := by show _ = _; rw [← HD0.out]; exact IntWalk.i64_in _ (by omega)
    have hsz0 : (s.size : Int) = 0 := by rw [HSZ.out, HM0.out]; rfl
    have j1 : decide ((0 : Int) < (s.size : Int)) = false := decide_eq_false (by omega)
    have j2 : ((s.size : Int) == 0) = true := by simp only [hsz0]; rfl
    have j3 : decide (0 < s.size) = false := decide_eq_false (by omega)
    clear hs hnil hm0 hm hsz hsz0
    go_enter Try.func17, Try.ntmps17
    go_wp2_with (go_at_call 18; (with_reducible refine (HLA.out _ (HO.out.below ((Below.refl _ _).alloc (Nat.le_refl _) _))).mono ?_); rintro e w1 ⟨rfl, hb1⟩; have m0 : w1.cell? ⟨w.heap.size, 0, none⟩ = some (.int .i64 room) := keeps hb1 _ _ (by simp); have m1 : w1.cell? ⟨w.heap.size, 1, none⟩ = some (.string s) := keeps hb1 _ _ (by simp))
    have m0 : w1.drew.cell? _ = some _ := m0
    have m1 : w1.drew.cell? _ = some _ := m1
    have HB1 := Lib.hid (((Below.refl w.heap.size w).alloc (Nat.le_refl _) (.cells #[.int .i64 room, .string s] 33)).trans (hb1.mono (by simp)))
    have HO := Lib.hid ((HO.out.below ((Below.refl _ _).alloc (Nat.le_refl _) (.cells #[.int .i64 room, .string s] 33))).below hb1)
    obtain ⟨gs, hgs⟩ : ∃ gs, w.heap.size = gs := ⟨_, rfl⟩
    have HGS := Lib.hid hgs
    rw [hgs] at m0 m1 ⊢
    clear hb1 hgs
    refine wp_region_fam_lit (E := Onto)
      [isV (.pointer (some ⟨g, 0, none⟩)),
       isV (.string s),
       isV (.pointer (some ⟨gs, 1, none⟩)),
       isV (.string s),
       isV (.bool true),
       isV (.bool true),
       isV (.pointer (some ⟨g, 0, none⟩)),
       isV (.int .i64 (m : Nat)),
       isV (.pointer (some ⟨gs, 1, none⟩)),
       isV (.string s),
       isV (.int .i64 (m : Nat)),
       isV (.bool true),
       isV (.bool true),
       isV (.bool true),
       isV (.pointer (some ⟨g, 0, none⟩)),
       isV (.int .i64 d),
       isV (.pointer (some ⟨gs, 0, none⟩)),
       isV (.int .i64 room),
       isV (.pointer (some ⟨gs, 1, none⟩)),
       isV (.string s),
       isV (.int .i64 (m : Nat)),
       isV (.int .i64 d),
       isV (.bool true),
       isV (.bool true),
       isV (.bool true)]
      [some 44, some 45, some 46, some 47, some 48, some 49, some 50, some 51, some 52, some 53, some 54, some 55, some 56, some 57, some 58, some 59, some 60, some 61, some 62, some 63, some 64, some 65, some 66, some 67, some 4] (by kernel_rfl) rfl (by kernel_rfl) rfl Onto.trans Onto.refl ?monoA ?obA ?qA
    case monoA => exact ⟨isV_mono _ _, isV_mono _ _, isV_mono _ _, isV_mono _ _, isV_mono _ _, isV_mono _ _, isV_mono _ _, isV_mono _ _, isV_mono _ _, isV_mono _ _, isV_mono _ _, isV_mono _ _, isV_mono _ _, isV_mono _ _, isV_mono _ _, isV_mono _ _, isV_mono _ _, isV_mono _ _, isV_mono _ _, isV_mono _ _, isV_mono _ _, isV_mono _ _, isV_mono _ _, isV_mono _ _, isV_mono _ _, trivial⟩
    case obA =>
      refine Obs.cons (j := 1) rfl ?_ ?_
      · refine Ob.free [(0, none)] (by kernel_rfl) (isV (.pointer (some ⟨g, 0, none⟩))) rfl rfl (fun a X hE hL => ?_)
        simp [Seen, slotAt] at hL
        have h0 := hL
        rw [relAt_eq]
        go_simp
        exact ⟨Onto.refl _, rfl⟩
      refine Obs.cons (j := 2) rfl ?_ ?_
      · refine Ob.free [(44, some 0)] (by kernel_rfl) (isV (.string s)) rfl rfl (fun a X hE hL => ?_)
        simp [Seen, slotAt, famV, isV] at hL
        have h44 := hL
        rw [relAt_eq]
        go_simp
        rw [relUpon_enter]
        go_at_call 8
        refine (HT.out X (HO.out.below (onto_drew hE))).mono ?_
        rintro e Y ⟨rfl, hY⟩
        exact ⟨_, rfl, hY, rfl⟩
      refine Obs.cons (j := 3) rfl ?_ ?_
      · refine Ob.free [(3, none)] (by kernel_rfl) (isV (.pointer (some ⟨gs, 1, none⟩))) rfl rfl (fun a X hE hL => ?_)
        simp [Seen, slotAt] at hL
        have h3 := hL
        rw [relAt_eq]
        go_simp
        exact ⟨Onto.refl _, rfl⟩
      refine Obs.cons (j := 4) rfl ?_ ?_
      · refine Ob.free [(46, some 2)] (by kernel_rfl) (isV (.string s)) rfl rfl (fun a X hE hL => ?_)
        simp [Seen, slotAt, famV, isV] at hL
        have h46 := hL
        rw [relAt_eq]
        have f0 := keeps hE _ _ m0; have f1 := keeps hE _ _ m1
        go_simp
        exact ⟨Onto.refl _, rfl⟩
      refine Obs.cons (j := 5) rfl ?_ ?_
      · refine Ob.free [(45, some 1), (47, some 3)] (by kernel_rfl) (isV (.bool true)) rfl rfl (fun a X hE hL => ?_)
        simp [Seen, slotAt, famV, isV] at hL
        obtain ⟨h45, h47⟩ := hL
        rw [relAt_eq]
        go_simp
        exact ⟨Onto.refl _, rfl⟩
      refine Obs.cons (j := 6) rfl ?_ ?_
      · refine Ob.free [(48, some 4)] (by kernel_rfl) (isV (.bool true)) rfl rfl (fun a X hE hL => ?_)
        simp [Seen, slotAt, famV, isV] at hL
        have h48 := hL
        rw [relAt_eq]
        go_simp
        exact ⟨Onto.refl _, rfl⟩
      refine Obs.cons (j := 7) rfl ?_ ?_
      · refine Ob.guarded [(0, none), (49, some 5)] (by kernel_rfl) (isV (.pointer (some ⟨g, 0, none⟩))) rfl 5 true 49 rfl rfl (fun a X hE hL => ?_)
        simp [Seen, slotAt, famV, isV] at hL
        obtain ⟨h0, h49⟩ := hL
        refine ⟨by simpa using h49, ?_⟩
        clear h49
        rw [relAt_eq]
        go_simp
        exact ⟨Onto.refl _, rfl⟩
      refine Obs.cons (j := 8) rfl ?_ ?_
      · refine Ob.guarded [(50, some 6), (49, some 5)] (by kernel_rfl) (isV (.int .i64 (m : Nat))) rfl 5 true 49 rfl rfl (fun a X hE hL => ?_)
        simp [Seen, slotAt, famV, isV] at hL
        obtain ⟨h50, h49⟩ := hL
        refine ⟨by simpa using h49, ?_⟩
        clear h49
        rw [relAt_eq]
        go_simp
        rw [relUpon_enter]
        go_at_call 19
        refine (HL.out X (HO.out.below (onto_drew hE))).mono ?_
        rintro e Y ⟨rfl, hY⟩
        exact ⟨_, rfl, hY, rfl⟩
      refine Obs.cons (j := 9) rfl ?_ ?_
      · refine Ob.guarded [(3, none), (49, some 5)] (by kernel_rfl) (isV (.pointer (some ⟨gs, 1, none⟩))) rfl 5 true 49 rfl rfl (fun a X hE hL => ?_)
        simp [Seen, slotAt, famV, isV] at hL
        obtain ⟨h3, h49⟩ := hL
        refine ⟨by simpa using h49, ?_⟩
        clear h49
        rw [relAt_eq]
        go_simp
        exact ⟨Onto.refl _, rfl⟩
      refine Obs.cons (j := 10) rfl ?_ ?_
      · refine Ob.guarded [(52, some 8), (49, some 5)] (by kernel_rfl) (isV (.string s)) rfl 5 true 49 rfl rfl (fun a X hE hL => ?_)
        simp [Seen, slotAt, famV, isV] at hL
        obtain ⟨h52, h49⟩ := hL
        refine ⟨by simpa using h49, ?_⟩
        clear h49
        rw [relAt_eq]
        have f0 := keeps hE _ _ m0; have f1 := keeps hE _ _ m1
        go_simp
        exact ⟨Onto.refl _, rfl⟩
      refine Obs.cons (j := 11) rfl ?_ ?_
      · refine Ob.guarded [(53, some 9), (49, some 5)] (by kernel_rfl) (isV (.int .i64 (m : Nat))) rfl 5 true 49 rfl rfl (fun a X hE hL => ?_)
        simp [Seen, slotAt, famV, isV] at hL
        obtain ⟨h53, h49⟩ := hL
        refine ⟨by simpa using h49, ?_⟩
        clear h49
        rw [relAt_eq]
        go_simp
        exact ⟨Onto.refl _, congrArg _ HSZ.out⟩
      refine Obs.cons (j := 12) rfl ?_ ?_
      · refine Ob.guarded [(51, some 7), (54, some 10), (49, some 5)] (by kernel_rfl) (isV (.bool true)) rfl 5 true 49 rfl rfl (fun a X hE hL => ?_)
        simp [Seen, slotAt, famV, isV] at hL
        obtain ⟨h51, h54, h49⟩ := hL
        refine ⟨by simpa using h49, ?_⟩
        clear h49
        rw [relAt_eq]
        go_simp
        exact ⟨Onto.refl _, rfl⟩
      refine Obs.cons (j := 13) rfl ?_ ?_
      · refine Ob.free [(49, some 5), (55, some 11)] (by kernel_rfl) (isV (.bool true)) rfl rfl (fun a X hE hL => ?_)
        simp [Seen, slotAt, famV, isV] at hL
        obtain ⟨h49, h55⟩ := hL
        rw [relAt_eq]
        go_simp
        exact ⟨Onto.refl _, rfl⟩
      refine Obs.cons (j := 14) rfl ?_ ?_
      · refine Ob.free [(56, some 12)] (by kernel_rfl) (isV (.bool true)) rfl rfl (fun a X hE hL => ?_)
        simp [Seen, slotAt, famV, isV] at hL
        have h56 := hL
        rw [relAt_eq]
        go_simp
        exact ⟨Onto.refl _, rfl⟩
      refine Obs.cons (j := 15) rfl ?_ ?_
      · refine Ob.guarded [(0, none), (57, some 13)] (by kernel_rfl) (isV (.pointer (some ⟨g, 0, none⟩))) rfl 13 true 57 rfl rfl (fun a X hE hL => ?_)
        simp [Seen, slotAt, famV, isV] at hL
        obtain ⟨h0, h57⟩ := hL
        refine ⟨by simpa using h57, ?_⟩
        clear h57
        rw [relAt_eq]
        go_simp
        exact ⟨Onto.refl _, rfl⟩
      refine Obs.cons (j := 16) rfl ?_ ?_
      · refine Ob.guarded [(58, some 14), (57, some 13)] (by kernel_rfl) (isV (.int .i64 d)) rfl 13 true 57 rfl rfl (fun a X hE hL => ?_)
        simp [Seen, slotAt, famV, isV] at hL
        obtain ⟨h58, h57⟩ := hL
        refine ⟨by simpa using h57, ?_⟩
        clear h57
        rw [relAt_eq]
        go_simp
        rw [relUpon_enter]
        go_at_call 20
        refine (HLE.out X (HO.out.below (onto_drew hE))).mono ?_
        rintro e Y ⟨rfl, hY⟩
        exact ⟨_, rfl, hY, rfl⟩
      refine Obs.cons (j := 17) rfl ?_ ?_
      · refine Ob.guarded [(3, none), (57, some 13)] (by kernel_rfl) (isV (.pointer (some ⟨gs, 0, none⟩))) rfl 13 true 57 rfl rfl (fun a X hE hL => ?_)
        simp [Seen, slotAt, famV, isV] at hL
        obtain ⟨h3, h57⟩ := hL
        refine ⟨by simpa using h57, ?_⟩
        clear h57
        rw [relAt_eq]
        go_simp
        exact ⟨Onto.refl _, rfl⟩
      refine Obs.cons (j := 18) rfl ?_ ?_
      · refine Ob.guarded [(60, some 16), (57, some 13)] (by kernel_rfl) (isV (.int .i64 room)) rfl 13 true 57 rfl rfl (fun a X hE hL => ?_)
        simp [Seen, slotAt, famV, isV] at hL
        obtain ⟨h60, h57⟩ := hL
        refine ⟨by simpa using h57, ?_⟩
        clear h57
        rw [relAt_eq]
        have f0 := keeps hE _ _ m0; have f1 := keeps hE _ _ m1
        go_simp
        exact ⟨Onto.refl _, rfl⟩
      refine Obs.cons (j := 19) rfl ?_ ?_
      · refine Ob.guarded [(3, none), (57, some 13)] (by kernel_rfl) (isV (.pointer (some ⟨gs, 1, none⟩))) rfl 13 true 57 rfl rfl (fun a X hE hL => ?_)
        simp [Seen, slotAt, famV, isV] at hL
        obtain ⟨h3, h57⟩ := hL
        refine ⟨by simpa using h57, ?_⟩
        clear h57
        rw [relAt_eq]
        go_simp
        exact ⟨Onto.refl _, rfl⟩
      refine Obs.cons (j := 20) rfl ?_ ?_
      · refine Ob.guarded [(62, some 18), (57, some 13)] (by kernel_rfl) (isV (.string s)) rfl 13 true 57 rfl rfl (fun a X hE hL => ?_)
        simp [Seen, slotAt, famV, isV] at hL
        obtain ⟨h62, h57⟩ := hL
        refine ⟨by simpa using h57, ?_⟩
        clear h57
        rw [relAt_eq]
        have f0 := keeps hE _ _ m0; have f1 := keeps hE _ _ m1
        go_simp
        exact ⟨Onto.refl _, rfl⟩
      refine Obs.cons (j := 21) rfl ?_ ?_
      · refine Ob.guarded [(63, some 19), (57, some 13)] (by kernel_rfl) (isV (.int .i64 (m : Nat))) rfl 13 true 57 rfl rfl (fun a X hE hL => ?_)
        simp [Seen, slotAt, famV, isV] at hL
        obtain ⟨h63, h57⟩ := hL
        refine ⟨by simpa using h57, ?_⟩
        clear h57
        rw [relAt_eq]
        go_simp
        exact ⟨Onto.refl _, congrArg _ HSZ.out⟩
      refine Obs.cons (j := 22) rfl ?_ ?_
      · refine Ob.guarded [(61, some 17), (64, some 20), (57, some 13)] (by kernel_rfl) (isV (.int .i64 d)) rfl 13 true 57 rfl rfl (fun a X hE hL => ?_)
        simp [Seen, slotAt, famV, isV] at hL
        obtain ⟨h61, h64, h57⟩ := hL
        refine ⟨by simpa using h57, ?_⟩
        clear h57
        rw [relAt_eq]
        go_simp
        exact ⟨Onto.refl _, congrArg _ HD.out⟩
      refine Obs.cons (j := 23) rfl ?_ ?_
      · refine Ob.guarded [(59, some 15), (65, some 21), (57, some 13)] (by kernel_rfl) (isV (.bool true)) rfl 13 true 57 rfl rfl (fun a X hE hL => ?_)
        simp [Seen, slotAt, famV, isV] at hL
        obtain ⟨h59, h65, h57⟩ := hL
        refine ⟨by simpa using h57, ?_⟩
        clear h57
        rw [relAt_eq]
        go_simp
        exact ⟨Onto.refl _, rfl⟩
      refine Obs.cons (j := 24) rfl ?_ ?_
      · refine Ob.free [(57, some 13), (66, some 22)] (by kernel_rfl) (isV (.bool true)) rfl rfl (fun a X hE hL => ?_)
        simp [Seen, slotAt, famV, isV] at hL
        obtain ⟨h57, h66⟩ := hL
        rw [relAt_eq]
        go_simp
        exact ⟨Onto.refl _, rfl⟩
      refine Obs.cons (j := 25) rfl ?_ ?_
      · refine Ob.free [(67, some 23)] (by kernel_rfl) (isV (.bool true)) rfl rfl (fun a X hE hL => ?_)
        simp [Seen, slotAt, famV, isV] at hL
        have h67 := hL
        rw [relAt_eq]
        go_simp
        exact ⟨Onto.refl _, rfl⟩
      exact trivial
    case qA =>
      intro x w9 hE hV
      simp [AllV, famV, isV] at hV
      obtain ⟨-, -, -, -, -, -, -, -, -, -, -, -, -, -, -, -, -, -, -, -, -, -, -, h67, h4⟩ := hV
      simp only [puts, Act.put, List.setIfInBounds_toArray, List.set_cons_zero, List.set_cons_succ, h67, h4]
      generalize x 44 = y44
      generalize x 45 = y45
      generalize x 46 = y46
      generalize x 47 = y47
      generalize x 48 = y48
      generalize x 49 = y49
      generalize x 50 = y50
      generalize x 51 = y51
      generalize x 52 = y52
      generalize x 53 = y53
      generalize x 54 = y54
      generalize x 55 = y55
      generalize x 56 = y56
      generalize x 57 = y57
      generalize x 58 = y58
      generalize x 59 = y59
      generalize x 60 = y60
      generalize x 61 = y61
      generalize x 62 = y62
      generalize x 63 = y63
      generalize x 64 = y64
      generalize x 65 = y65
      generalize x 66 = y66
      clear h67 h4
      go_wp2
      go_ret
      exact ⟨rfl, HB1.out.trans ((onto_drew hE).mono HB1.out.size)⟩
  · have HPOS := Lib.hid hpos
    obtain ⟨s, hs⟩ : ∃ s, bstr bs = s := ⟨_, rfl⟩
    rw [hs] at HSZ0 HT ⊢
    have hix2 : ∀ (h2 : bs.length - 1 < s.size), s[bs.length - 1]'h2 = b := by subst hs; exact fun _ => hix
    have hlb2 : bs.length - 1 < s.size := by subst hs; exact hlb
    obtain ⟨m, hm⟩ : ∃ m, bs.length = m := ⟨_, rfl⟩
    rw [hm] at HL HSZ0 HD0 hmr HPOS hix2 hlb2
    have hsz := HSZ0.out
    have HSZ : Hid ((s.size : Int) = (m : Int)) := by show _ = _; rw [HSZ0.out]
    have HD : Hid (IntKind.i64.wrap ((room : Int) - (m : Int)) = d) := by show _ = _; rw [← HD0.out]; exact IntWalk.i64_in _ (by omega)
    have hsz0 : (0 : Int) < (s.size : Int) := by rw [HSZ.out]; have := HPOS.out; omega
    have j1 : decide ((0 : Int) < (s.size : Int)) = true := decide_eq_true hsz0
    have j2 : ((s.size : Int) == 0) = false := beq_eq_false_iff_ne.2 (by omega)
    have hsm : s.size - 1 < s.size := by omega
    have hix3 : s[s.size - 1]'hsm = b := by have e : s.size - 1 = m - 1 := by omega
                                            simp only [e]; exact hix2 hlb2
    have hs3 : (s.size : Int) - 1 = ((s.size - 1 : Nat) : Int) := by omega
    have hs4 : s.size ≤ 1073741824 := by omega
    clear hs hpos hix hlb hix2 hlb2 hm hsz
    go_enter Try.func17, Try.ntmps17
    go_wp2_with (go_at_call 18; (with_reducible refine (HLA.out _ (HO.out.below ((Below.refl _ _).alloc (Nat.le_refl _) _))).mono ?_); rintro e w1 ⟨rfl, hb1⟩; have m0 : w1.cell? ⟨w.heap.size, 0, none⟩ = some (.int .i64 room) := keeps hb1 _ _ (by simp); have m1 : w1.cell? ⟨w.heap.size, 1, none⟩ = some (.string s) := keeps hb1 _ _ (by simp))
    have m0 : w1.drew.cell? _ = some _ := m0
    have m1 : w1.drew.cell? _ = some _ := m1
    have HB1 := Lib.hid (((Below.refl w.heap.size w).alloc (Nat.le_refl _) (.cells #[.int .i64 room, .string s] 33)).trans (hb1.mono (by simp)))
    have HO := Lib.hid ((HO.out.below ((Below.refl _ _).alloc (Nat.le_refl _) (.cells #[.int .i64 room, .string s] 33))).below hb1)
    obtain ⟨gs, hgs⟩ : ∃ gs, w.heap.size = gs := ⟨_, rfl⟩
    have HGS := Lib.hid hgs
    rw [hgs] at m0 m1 ⊢
    clear hb1 hgs
    refine wp_region_fam_lit (E := Onto)
      [isV (.pointer (some ⟨g, 0, none⟩)),
       isV (.string s),
       isV (.pointer (some ⟨gs, 1, none⟩)),
       isV (.string s),
       isV (.bool true),
       isV (.bool true),
       isV (.pointer (some ⟨g, 0, none⟩)),
       isV (.int .i64 (m : Nat)),
       isV (.pointer (some ⟨gs, 1, none⟩)),
       isV (.string s),
       isV (.int .i64 (m : Nat)),
       isV (.bool true),
       isV (.bool true),
       isV (.bool true),
       isV (.pointer (some ⟨g, 0, none⟩)),
       isV (.int .i64 d),
       isV (.pointer (some ⟨gs, 0, none⟩)),
       isV (.int .i64 room),
       isV (.pointer (some ⟨gs, 1, none⟩)),
       isV (.string s),
       isV (.int .i64 (m : Nat)),
       isV (.int .i64 d),
       isV (.bool true),
       isV (.bool true),
       isV (.bool true)]
      [some 44, some 45, some 46, some 47, some 48, some 49, some 50, some 51, some 52, some 53, some 54, some 55, some 56, some 57, some 58, some 59, some 60, some 61, some 62, some 63, some 64, some 65, some 66, some 67, some 4] (by kernel_rfl) rfl (by kernel_rfl) rfl Onto.trans Onto.refl ?monoB ?obB ?qB
    case monoB => exact ⟨isV_mono _ _, isV_mono _ _, isV_mono _ _, isV_mono _ _, isV_mono _ _, isV_mono _ _, isV_mono _ _, isV_mono _ _, isV_mono _ _, isV_mono _ _, isV_mono _ _, isV_mono _ _, isV_mono _ _, isV_mono _ _, isV_mono _ _, isV_mono _ _, isV_mono _ _, isV_mono _ _, isV_mono _ _, isV_mono _ _, isV_mono _ _, isV_mono _ _, isV_mono _ _, isV_mono _ _, isV_mono _ _, trivial⟩
    case obB =>
      refine Obs.cons (j := 1) rfl ?_ ?_
      · refine Ob.free [(0, none)] (by kernel_rfl) (isV (.pointer (some ⟨g, 0, none⟩))) rfl rfl (fun a X hE hL => ?_)
        simp [Seen, slotAt] at hL
        have h0 := hL
        rw [relAt_eq]
        go_simp
        exact ⟨Onto.refl _, rfl⟩
      refine Obs.cons (j := 2) rfl ?_ ?_
      · refine Ob.free [(44, some 0)] (by kernel_rfl) (isV (.string s)) rfl rfl (fun a X hE hL => ?_)
        simp [Seen, slotAt, famV, isV] at hL
        have h44 := hL
        rw [relAt_eq]
        go_simp
        rw [relUpon_enter]
        go_at_call 8
        refine (HT.out X (HO.out.below (onto_drew hE))).mono ?_
        rintro e Y ⟨rfl, hY⟩
        exact ⟨_, rfl, hY, rfl⟩
      refine Obs.cons (j := 3) rfl ?_ ?_
      · refine Ob.free [(3, none)] (by kernel_rfl) (isV (.pointer (some ⟨gs, 1, none⟩))) rfl rfl (fun a X hE hL => ?_)
        simp [Seen, slotAt] at hL
        have h3 := hL
        rw [relAt_eq]
        go_simp
        exact ⟨Onto.refl _, rfl⟩
      refine Obs.cons (j := 4) rfl ?_ ?_
      · refine Ob.free [(46, some 2)] (by kernel_rfl) (isV (.string s)) rfl rfl (fun a X hE hL => ?_)
        simp [Seen, slotAt, famV, isV] at hL
        have h46 := hL
        rw [relAt_eq]
        have f0 := keeps hE _ _ m0; have f1 := keeps hE _ _ m1
        go_simp
        exact ⟨Onto.refl _, rfl⟩
      refine Obs.cons (j := 5) rfl ?_ ?_
      · refine Ob.free [(45, some 1), (47, some 3)] (by kernel_rfl) (isV (.bool true)) rfl rfl (fun a X hE hL => ?_)
        simp [Seen, slotAt, famV, isV] at hL
        obtain ⟨h45, h47⟩ := hL
        rw [relAt_eq]
        go_simp
        exact ⟨Onto.refl _, rfl⟩
      refine Obs.cons (j := 6) rfl ?_ ?_
      · refine Ob.free [(48, some 4)] (by kernel_rfl) (isV (.bool true)) rfl rfl (fun a X hE hL => ?_)
        simp [Seen, slotAt, famV, isV] at hL
        have h48 := hL
        rw [relAt_eq]
        go_simp
        exact ⟨Onto.refl _, rfl⟩
      refine Obs.cons (j := 7) rfl ?_ ?_
      · refine Ob.guarded [(0, none), (49, some 5)] (by kernel_rfl) (isV (.pointer (some ⟨g, 0, none⟩))) rfl 5 true 49 rfl rfl (fun a X hE hL => ?_)
        simp [Seen, slotAt, famV, isV] at hL
        obtain ⟨h0, h49⟩ := hL
        refine ⟨by simpa using h49, ?_⟩
        clear h49
        rw [relAt_eq]
        go_simp
        exact ⟨Onto.refl _, rfl⟩
      refine Obs.cons (j := 8) rfl ?_ ?_
      · refine Ob.guarded [(50, some 6), (49, some 5)] (by kernel_rfl) (isV (.int .i64 (m : Nat))) rfl 5 true 49 rfl rfl (fun a X hE hL => ?_)
        simp [Seen, slotAt, famV, isV] at hL
        obtain ⟨h50, h49⟩ := hL
        refine ⟨by simpa using h49, ?_⟩
        clear h49
        rw [relAt_eq]
        go_simp
        rw [relUpon_enter]
        go_at_call 19
        refine (HL.out X (HO.out.below (onto_drew hE))).mono ?_
        rintro e Y ⟨rfl, hY⟩
        exact ⟨_, rfl, hY, rfl⟩
      refine Obs.cons (j := 9) rfl ?_ ?_
      · refine Ob.guarded [(3, none), (49, some 5)] (by kernel_rfl) (isV (.pointer (some ⟨gs, 1, none⟩))) rfl 5 true 49 rfl rfl (fun a X hE hL => ?_)
        simp [Seen, slotAt, famV, isV] at hL
        obtain ⟨h3, h49⟩ := hL
        refine ⟨by simpa using h49, ?_⟩
        clear h49
        rw [relAt_eq]
        go_simp
        exact ⟨Onto.refl _, rfl⟩
      refine Obs.cons (j := 10) rfl ?_ ?_
      · refine Ob.guarded [(52, some 8), (49, some 5)] (by kernel_rfl) (isV (.string s)) rfl 5 true 49 rfl rfl (fun a X hE hL => ?_)
        simp [Seen, slotAt, famV, isV] at hL
        obtain ⟨h52, h49⟩ := hL
        refine ⟨by simpa using h49, ?_⟩
        clear h49
        rw [relAt_eq]
        have f0 := keeps hE _ _ m0; have f1 := keeps hE _ _ m1
        go_simp
        exact ⟨Onto.refl _, rfl⟩
      refine Obs.cons (j := 11) rfl ?_ ?_
      · refine Ob.guarded [(53, some 9), (49, some 5)] (by kernel_rfl) (isV (.int .i64 (m : Nat))) rfl 5 true 49 rfl rfl (fun a X hE hL => ?_)
        simp [Seen, slotAt, famV, isV] at hL
        obtain ⟨h53, h49⟩ := hL
        refine ⟨by simpa using h49, ?_⟩
        clear h49
        rw [relAt_eq]
        go_simp
        exact ⟨Onto.refl _, congrArg _ HSZ.out⟩
      refine Obs.cons (j := 12) rfl ?_ ?_
      · refine Ob.guarded [(51, some 7), (54, some 10), (49, some 5)] (by kernel_rfl) (isV (.bool true)) rfl 5 true 49 rfl rfl (fun a X hE hL => ?_)
        simp [Seen, slotAt, famV, isV] at hL
        obtain ⟨h51, h54, h49⟩ := hL
        refine ⟨by simpa using h49, ?_⟩
        clear h49
        rw [relAt_eq]
        go_simp
        exact ⟨Onto.refl _, rfl⟩
      refine Obs.cons (j := 13) rfl ?_ ?_
      · refine Ob.free [(49, some 5), (55, some 11)] (by kernel_rfl) (isV (.bool true)) rfl rfl (fun a X hE hL => ?_)
        simp [Seen, slotAt, famV, isV] at hL
        obtain ⟨h49, h55⟩ := hL
        rw [relAt_eq]
        go_simp
        exact ⟨Onto.refl _, rfl⟩
      refine Obs.cons (j := 14) rfl ?_ ?_
      · refine Ob.free [(56, some 12)] (by kernel_rfl) (isV (.bool true)) rfl rfl (fun a X hE hL => ?_)
        simp [Seen, slotAt, famV, isV] at hL
        have h56 := hL
        rw [relAt_eq]
        go_simp
        exact ⟨Onto.refl _, rfl⟩
      refine Obs.cons (j := 15) rfl ?_ ?_
      · refine Ob.guarded [(0, none), (57, some 13)] (by kernel_rfl) (isV (.pointer (some ⟨g, 0, none⟩))) rfl 13 true 57 rfl rfl (fun a X hE hL => ?_)
        simp [Seen, slotAt, famV, isV] at hL
        obtain ⟨h0, h57⟩ := hL
        refine ⟨by simpa using h57, ?_⟩
        clear h57
        rw [relAt_eq]
        go_simp
        exact ⟨Onto.refl _, rfl⟩
      refine Obs.cons (j := 16) rfl ?_ ?_
      · refine Ob.guarded [(58, some 14), (57, some 13)] (by kernel_rfl) (isV (.int .i64 d)) rfl 13 true 57 rfl rfl (fun a X hE hL => ?_)
        simp [Seen, slotAt, famV, isV] at hL
        obtain ⟨h58, h57⟩ := hL
        refine ⟨by simpa using h57, ?_⟩
        clear h57
        rw [relAt_eq]
        go_simp
        rw [relUpon_enter]
        go_at_call 20
        refine (HLE.out X (HO.out.below (onto_drew hE))).mono ?_
        rintro e Y ⟨rfl, hY⟩
        exact ⟨_, rfl, hY, rfl⟩
      refine Obs.cons (j := 17) rfl ?_ ?_
      · refine Ob.guarded [(3, none), (57, some 13)] (by kernel_rfl) (isV (.pointer (some ⟨gs, 0, none⟩))) rfl 13 true 57 rfl rfl (fun a X hE hL => ?_)
        simp [Seen, slotAt, famV, isV] at hL
        obtain ⟨h3, h57⟩ := hL
        refine ⟨by simpa using h57, ?_⟩
        clear h57
        rw [relAt_eq]
        go_simp
        exact ⟨Onto.refl _, rfl⟩
      refine Obs.cons (j := 18) rfl ?_ ?_
      · refine Ob.guarded [(60, some 16), (57, some 13)] (by kernel_rfl) (isV (.int .i64 room)) rfl 13 true 57 rfl rfl (fun a X hE hL => ?_)
        simp [Seen, slotAt, famV, isV] at hL
        obtain ⟨h60, h57⟩ := hL
        refine ⟨by simpa using h57, ?_⟩
        clear h57
        rw [relAt_eq]
        have f0 := keeps hE _ _ m0; have f1 := keeps hE _ _ m1
        go_simp
        exact ⟨Onto.refl _, rfl⟩
      refine Obs.cons (j := 19) rfl ?_ ?_
      · refine Ob.guarded [(3, none), (57, some 13)] (by kernel_rfl) (isV (.pointer (some ⟨gs, 1, none⟩))) rfl 13 true 57 rfl rfl (fun a X hE hL => ?_)
        simp [Seen, slotAt, famV, isV] at hL
        obtain ⟨h3, h57⟩ := hL
        refine ⟨by simpa using h57, ?_⟩
        clear h57
        rw [relAt_eq]
        go_simp
        exact ⟨Onto.refl _, rfl⟩
      refine Obs.cons (j := 20) rfl ?_ ?_
      · refine Ob.guarded [(62, some 18), (57, some 13)] (by kernel_rfl) (isV (.string s)) rfl 13 true 57 rfl rfl (fun a X hE hL => ?_)
        simp [Seen, slotAt, famV, isV] at hL
        obtain ⟨h62, h57⟩ := hL
        refine ⟨by simpa using h57, ?_⟩
        clear h57
        rw [relAt_eq]
        have f0 := keeps hE _ _ m0; have f1 := keeps hE _ _ m1
        go_simp
        exact ⟨Onto.refl _, rfl⟩
      refine Obs.cons (j := 21) rfl ?_ ?_
      · refine Ob.guarded [(63, some 19), (57, some 13)] (by kernel_rfl) (isV (.int .i64 (m : Nat))) rfl 13 true 57 rfl rfl (fun a X hE hL => ?_)
        simp [Seen, slotAt, famV, isV] at hL
        obtain ⟨h63, h57⟩ := hL
        refine ⟨by simpa using h57, ?_⟩
        clear h57
        rw [relAt_eq]
        go_simp
        exact ⟨Onto.refl _, congrArg _ HSZ.out⟩
      refine Obs.cons (j := 22) rfl ?_ ?_
      · refine Ob.guarded [(61, some 17), (64, some 20), (57, some 13)] (by kernel_rfl) (isV (.int .i64 d)) rfl 13 true 57 rfl rfl (fun a X hE hL => ?_)
        simp [Seen, slotAt, famV, isV] at hL
        obtain ⟨h61, h64, h57⟩ := hL
        refine ⟨by simpa using h57, ?_⟩
        clear h57
        rw [relAt_eq]
        go_simp
        exact ⟨Onto.refl _, congrArg _ HD.out⟩
      refine Obs.cons (j := 23) rfl ?_ ?_
      · refine Ob.guarded [(59, some 15), (65, some 21), (57, some 13)] (by kernel_rfl) (isV (.bool true)) rfl 13 true 57 rfl rfl (fun a X hE hL => ?_)
        simp [Seen, slotAt, famV, isV] at hL
        obtain ⟨h59, h65, h57⟩ := hL
        refine ⟨by simpa using h57, ?_⟩
        clear h57
        rw [relAt_eq]
        go_simp
        exact ⟨Onto.refl _, rfl⟩
      refine Obs.cons (j := 24) rfl ?_ ?_
      · refine Ob.free [(57, some 13), (66, some 22)] (by kernel_rfl) (isV (.bool true)) rfl rfl (fun a X hE hL => ?_)
        simp [Seen, slotAt, famV, isV] at hL
        obtain ⟨h57, h66⟩ := hL
        rw [relAt_eq]
        go_simp
        exact ⟨Onto.refl _, rfl⟩
      refine Obs.cons (j := 25) rfl ?_ ?_
      · refine Ob.free [(67, some 23)] (by kernel_rfl) (isV (.bool true)) rfl rfl (fun a X hE hL => ?_)
        simp [Seen, slotAt, famV, isV] at hL
        have h67 := hL
        rw [relAt_eq]
        go_simp
        exact ⟨Onto.refl _, rfl⟩
      exact trivial
    case qB =>
      intro x w9 hE hV
      simp [AllV, famV, isV] at hV
      obtain ⟨-, -, -, -, -, -, -, -, -, -, -, -, -, -, -, -, -, -, -, -, -, -, -, h67, h4⟩ := hV
      simp only [puts, Act.put, List.setIfInBounds_toArray, List.set_cons_zero, List.set_cons_succ, h67, h4]
      generalize x 44 = y44
      generalize x 45 = y45
      generalize x 46 = y46
      generalize x 47 = y47
      generalize x 48 = y48
      generalize x 49 = y49
      generalize x 50 = y50
      generalize x 51 = y51
      generalize x 52 = y52
      generalize x 53 = y53
      generalize x 54 = y54
      generalize x 55 = y55
      generalize x 56 = y56
      generalize x 57 = y57
      generalize x 58 = y58
      generalize x 59 = y59
      generalize x 60 = y60
      generalize x 61 = y61
      generalize x 62 = y62
      generalize x 63 = y63
      generalize x 64 = y64
      generalize x 65 = y65
      generalize x 66 = y66
      clear h67 h4
      go_wp2
      go_ret
      exact ⟨rfl, HB1.out.trans ((onto_drew hE).mono HB1.out.size)⟩
end Go.Proofs.Ytajfnkboeaflnaa

