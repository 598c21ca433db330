/- bset: the document's Runs; SameRuns; First. -/
import Derived.Test.YtglgmnhfpemfeaaDoorBRuns
namespace Go.Proofs.YtglgmnhfpemfeaaDoor
open Go.RowKit
set_option linter.unusedVariables false

/-- Where the document's walk stands at k: its stretches are those of the bytes below m. -/
structure AtRun (S : Nat → Bool) (k m : Nat) : Prop where
  le : k ≤ m
  top : m ≤ 256
  full : ∀ j, k ≤ j → j < m → S j = true
  back : k < m → 0 < k ∧ S (k - 1) = true
  stop : 0 < k → S (k - 1) = true → m = 256 ∨ S m = false
theorem at_zero (S : Nat → Bool) : AtRun S 0 0 := ⟨by omega, by omega, fun j h1 h2 => by omega, fun h => by omega, fun h => by omega⟩
theorem at_no {S : Nat → Bool} {k m : Nat} (h : AtRun S k m) (hk : k < 256) (hS : S k = false) : m = k ∧ AtRun S (k + 1) (k + 1) ∧ bytesL S (k + 1) = bytesL S k := by
  have hm : m = k := by
    rcases Nat.lt_or_ge k m with h1 | h1
    · have := h.full k (by omega) h1; rw [hS] at this; cases this
    · have := h.le; omega
  refine ⟨hm, ⟨by omega, by omega, fun j h1 h2 => by omega, fun h => by omega, fun _ h2 => ?_⟩, bytesL_no hS⟩
  simp at h2; rw [hS] at h2; cases h2
theorem at_mid {S : Nat → Bool} {k m : Nat} (h : AtRun S k m) (hk : k < 256) (hS : S k = true) (h0 : 0 < k) (hb : S (k - 1) = true) : AtRun S (k + 1) m := by
  have hkm : k < m := by
    rcases Nat.lt_or_ge k m with h1 | h1
    · exact h1
    · have hm : m = k := by have := h.le; omega
      rcases h.stop h0 hb with h2 | h2
      · omega
      · rw [hm, hS] at h2; cases h2
  exact ⟨by omega, h.top, fun j h1 h2 => h.full j (by omega) h2, fun _ => ⟨by omega, by simpa using hS⟩, fun _ _ => h.stop h0 hb⟩
theorem at_start {S : Nat → Bool} {k m e : Nat} (h : AtRun S k m) (hk : k < 256) (hb : k = 0 ∨ S (k - 1) = false) (hke : k ≤ e) (he : e ≤ 255) (hf : ∀ j, k ≤ j → j ≤ e → S j = true) (hst : e = 255 ∨ S (e + 1) = false) :
    m = k ∧ AtRun S (k + 1) (e + 1) ∧ runsF (bytesL S (e + 1)) = runsF (bytesL S k) ++ [(k, e)] := by
  have hm : m = k := by
    rcases Nat.lt_or_ge k m with h1 | h1
    · obtain ⟨h2, h3⟩ := h.back h1
      rcases hb with hb | hb
      · omega
      · rw [hb] at h3; cases h3
    · have := h.le; omega
  refine ⟨hm, ⟨by omega, by omega, fun j h1 h2 => hf j (by omega) (by omega), fun _ => ⟨by omega, by simpa using hf k (by omega) hke⟩, fun _ _ => ?_⟩, ?_⟩
  · rcases hst with h2 | h2
    · left; omega
    · right; exact h2
  · have := F_run hb (e - k) (fun j h1 h2 => hf j h1 (by omega))
    rw [show k + (e - k) = e by omega] at this
    exact this
theorem at_end {S : Nat → Bool} {m : Nat} (h : AtRun S 256 m) : m = 256 := by have := h.le; have := h.top; omega
theorem runs_le (S : Nat → Bool) (m : Nat) : (runsF (bytesL S m)).length ≤ m := by
  have h1 := runs_len (bytesL S m) (bytesL S m).length
  rw [List.take_length] at h1
  have := bytesL_len S m
  omega
set_option maxHeartbeats 4000000 in
set_option maxRecDepth 100000 in
theorem rruns_any (S : Nat → Bool) (w : World) :
    Calls Tryd.prog 21 #[setV S] w fun e w' => ∃ v, e = .returned v ∧ w'.ownsRow w.heap.size 32 2 v (runsF (bytesL S 256)).length ((runsF (bytesL S 256)).flatMap rn2) ∧ Below w.heap.size w w' := by
  have hy : SetAt ((w.alloc (.cells #[.int .u64 (wd S 0), .int .u64 (wd S 1), .int .u64 (wd S 2), .int .u64 (wd S 3)] 24)).alloc (.cells #[] 32)) w.heap.size S := heap_alloc2_old w _ _
  have hb0 : Below w.heap.size w ((w.alloc (.cells #[.int .u64 (wd S 0), .int .u64 (wd S 1), .int .u64 (wd S 2), .int .u64 (wd S 3)] 24)).alloc (.cells #[] 32)) := ((Below.refl _ _).alloc (Nat.le_refl _) _).alloc (by simp) _
  have ho0 : ((w.alloc (.cells #[.int .u64 (wd S 0), .int .u64 (wd S 1), .int .u64 (wd S 2), .int .u64 (wd S 3)] 24)).alloc (.cells #[] 32)).ownsRow (w.heap.size + 1) 32 2 (.slice (some ⟨w.heap.size + 1, 0, none⟩) 0 0) 0 [] := by
    have h := World.ownsRow_made (base := w.heap.size + 1) (e := 32) (size := 2) (w.alloc (.cells #[.int .u64 (wd S 0), .int .u64 (wd S 1), .int .u64 (wd S 2), .int .u64 (wd S 3)] 24)) #[] 0 (by simp) (by decide) (by simp)
    simpa using h
  obtain ⟨W1, hW1⟩ : ∃ W1, (w.alloc (.cells #[.int .u64 (wd S 0), .int .u64 (wd S 1), .int .u64 (wd S 2), .int .u64 (wd S 3)] 24)).alloc (.cells #[] 32) = W1 := ⟨_, rfl⟩
  have hs1 : W1.heap.size = w.heap.size + 2 := by rw [← hW1]; simp
  rw [hW1] at hy hb0 ho0
  have HY := Lib.hid hy
  have HB0 := Lib.hid hb0
  have HO0 := Lib.hid ho0
  have HS1 := Lib.hid hs1
  clear hy hb0 ho0 hs1
  have hhas := fun k (hk : k < 256) w' => refhas_any S k w' hk
  unfold setV at hhas ⊢
  have HHAS := Lib.hid hhas
  clear hhas
  go_enter Tryd.func21, Tryd.ntmps21
  go_wp2
  try rw [hW1]
  clear hW1
  go_loopw [3, 4] (fun v i wr => ∃ k m : Nat, k ≤ 256 ∧ i = .int .i64 k ∧ AtRun S k m ∧ wr.ownsRow (w.heap.size + 1) 32 2 v (runsF (bytesL S m)).length ((runsF (bytesL S m)).flatMap rn2) ∧ SetAt wr w.heap.size S ∧ Below w.heap.size w wr ∧ w.heap.size + 2 ≤ wr.heap.size) (fun _ i _ => 256 - (intOf i).toNat)
  case atStart => exact ⟨0, 0, by omega, rfl, at_zero S, HO0.out, HY.out, HB0.out, by rw [HS1.out]; omega⟩
  case round =>
    obtain ⟨k, m, hk, rfl, hat, hown, hy, hb, hsz⟩ := hrel
    clear HO0 HY HB0 HS1
    have HO := Lib.hid hown
    have HY := Lib.hid hy
    have HB := Lib.hid hb
    have HAT := Lib.hid hat
    by_cases hlt : k < 256
    · have c0 := hy.cell 0 (by omega)
      have c1 := hy.cell 1 (by omega)
      have c2 := hy.cell 2 (by omega)
      have c3 := hy.cell 3 (by omega)
      have hwk : IntKind.u8.wrap (k : Int) = (k : Int) := IntWalk.u8_in _ ⟨by omega, by omega⟩
      have HH := Lib.hid (HHAS.out k hlt)
      have HNO := Lib.hid (at_no hat hlt)
      have HMID := Lib.hid (at_mid hat hlt)
      have HSTART := Lib.hid fun e => at_start (e := e) hat hlt
      clear hat hown hy hb
      cases hs : S k with
      | false =>
        rw [hs] at HH
        obtain ⟨e1, h2, h3⟩ := HNO.out hs
        have H2 := Lib.hid h2
        rw [e1, ← h3] at HO
        clear hs h2 h3 e1 HMID HSTART HNO
        go_wp2_with fail
        refine (HH.out _).mono ?_
        rintro e w2 ⟨rfl, hb2⟩
        have HO2 := Lib.hid (ownB HO.out hb2)
        have HY2 : Hid (SetAt w2 w.heap.size S) := Lib.hid (HY.out.below hb2 (by omega))
        have HB2 := Lib.hid (HB.out.trans (hb2.mono (by omega)))
        have hsz2 : w.heap.size + 2 ≤ w2.heap.size := by have := hb2.size; omega
        clear hb2
        go_wp2
        go_roundw
        case rel => exact ⟨k + 1, _, by omega, by go_num, H2.out, HO2.out, HY2.out, HB2.out, hsz2⟩
        case measure => simp [intOf]; omega
      | true =>
        rw [hs] at HH
        have HS := Lib.hid hs
        clear hs
        have HK1 : Hid (∀ q : Nat, q = k - 1 → 0 < k → IntKind.u8.wrap ((k : Int) - 1) = (q : Int)) := Lib.hid (by
          intro q hq h0; rw [show ((k : Int) - 1) = (q : Int) by omega]; exact IntWalk.u8_in _ ⟨by omega, by omega⟩)
        have HGO : Hid (∀ (w2 : World), Below wr.heap.size wr w2 → SetAt w2 w.heap.size S ∧ w2.ownsRow (w.heap.size + 1) 32 2 u3 (runsF (bytesL S m)).length ((runsF (bytesL S m)).flatMap rn2) ∧ Below w.heap.size w w2 ∧ w.heap.size + 2 ≤ w2.heap.size) := Lib.hid (fun w2 hb2 => ⟨HY.out.below hb2 (by omega), ownB HO.out hb2, HB.out.trans (hb2.mono (by omega)), by have := hb2.size; omega⟩)
        have HKK : Hid (∀ j, k ≤ j → j ≤ k → S j = true) := Lib.hid (fun j h1 h2 => (show k = j by omega) ▸ HS.out)
        clear HNO
        by_cases hst : k = 0 ∨ S (k - 1) = false
        · have HSTT := Lib.hid (fun e => HSTART.out e hst)
          clear HSTART HMID
          have hmk : m = k := by
            rcases hst with h | h
            · exact (HSTT.out 255 |> fun _ => by
                have hat := HAT.out
                rcases Nat.lt_or_ge k m with h1 | h1
                · have := hat.back h1; omega
                · have := hat.le; omega)
            · have hat := HAT.out
              rcases Nat.lt_or_ge k m with h1 | h1
              · have := (hat.back h1).2; rw [h] at this; cases this
              · have := hat.le; omega
          rw [hmk] at HGO HO
          clear hmk
          by_cases hk0 : k = 0
          case' pos =>
            have j0 : decide ((0 : Int) < (k : Int)) = false := decide_eq_false (by omega)
            have j1 : decide (0 < k) = false := decide_eq_false (by omega)
            have j2 : ¬ 0 < k := by omega
            clear hst hk0
            go_wp2_with fail
            refine (HH.out _).mono ?_
            rintro e w2 ⟨rfl, hb2⟩
            obtain ⟨hy2, ho2, hbb2, hsz2⟩ := HGO.out w2 hb2
            have HY2 := Lib.hid hy2
            have HO2 := Lib.hid ho2
            have HB2 := Lib.hid hbb2
            clear hb2 hy2 ho2 hbb2 HGO
            go_wp2
          case' neg =>
            have j0 : decide ((0 : Int) < (k : Int)) = true := decide_eq_true (by omega)
            have j1 : decide (0 < k) = true := decide_eq_true (by omega)
            have j2 : 0 < k := by omega
            have hsk : S (k - 1) = false := by
              rcases hst with h | h
              · omega
              · exact h
            have hwk1 := HK1.out (k - 1) rfl (by omega)
            have HH1 := Lib.hid (HHAS.out (k - 1) (by omega))
            rw [hsk] at HH1
            clear hst hk0 hsk
            generalize k - 1 = kp at hwk1 HH1
            go_wp2_with fail
            refine (HH.out _).mono ?_
            rintro e wa ⟨rfl, hba⟩
            obtain ⟨hya, _, _, hsza⟩ := HGO.out wa hba
            have d0 := hya.cell 0 (by omega)
            have d1 := hya.cell 1 (by omega)
            have d2 := hya.cell 2 (by omega)
            have d3 := hya.cell 3 (by omega)
            clear hya
            go_wp2_with fail
            refine (HH1.out _).mono ?_
            rintro e w2 ⟨rfl, hb2⟩
            obtain ⟨hy2, ho2, hbb2, hsz2⟩ := HGO.out w2 (hba.trans (hb2.mono (by have := hba.size; omega)))
            have HY2 := Lib.hid hy2
            have HO2 := Lib.hid ho2
            have HB2 := Lib.hid hbb2
            clear hb2 hy2 ho2 hbb2 HGO hba
            go_wp2
          all_goals
            go_loopw [5] (fun i wi => ∃ e : Nat, k ≤ e ∧ e ≤ 255 ∧ i = .int .i64 e ∧ (∀ j, k ≤ j → j ≤ e → S j = true) ∧ SetAt wi w.heap.size S ∧ wi.ownsRow (w.heap.size + 1) 32 2 u3 (runsF (bytesL S k)).length ((runsF (bytesL S k)).flatMap rn2) ∧ Below w.heap.size w wi ∧ w.heap.size + 2 ≤ wi.heap.size) (fun i _ => 255 - (intOf i).toNat)
            case atStart => exact ⟨k, by omega, by omega, rfl, HKK.out, HY2.out, HO2.out, HB2.out, hsz2⟩
            case round =>
              obtain ⟨e, hke, he, rfl, hf, hyi, hoi, hbi, hszi⟩ := hrel
              have HF := Lib.hid hf
              have HYI := Lib.hid hyi
              have HOI := Lib.hid hoi
              have HBI := Lib.hid hbi
              have HHH := Lib.hid HHAS.out
              have e0 := hyi.cell 0 (by omega)
              have e1 := hyi.cell 1 (by omega)
              have e2 := hyi.cell 2 (by omega)
              have e3 := hyi.cell 3 (by omega)
              clear hf hyi hoi hbi HY2 HO2 HB2
              by_cases he5 : e < 255
              · have hwe : IntKind.u8.wrap ((e : Int) + 1) = ((e + 1 : Nat) : Int) := by
                  rw [show ((e : Int) + 1) = ((e + 1 : Nat) : Int) by omega]; exact IntWalk.u8_in _ ⟨by omega, by omega⟩
                have HHE := Lib.hid (HHH.out (e + 1) (by omega))
                cases hse : S (e + 1) with
                | true =>
                  rw [hse] at HHE
                  have HF2 : Hid (∀ j, k ≤ j → j ≤ e + 1 → S j = true) := Lib.hid (fun j h1 h2 => by
                    by_cases hj : j = e + 1
                    · subst hj; exact hse
                    · exact HF.out j h1 (by omega))
                  obtain ⟨e', he'⟩ : ∃ e', e + 1 = e' := ⟨_, rfl⟩
                  have HE' := Lib.hid he'
                  rw [he'] at hwe HHE HF2
                  clear he' hse
                  go_wp2_with fail
                  refine (HHE.out _).mono ?_
                  rintro ee w5 ⟨rfl, hb5⟩
                  have HY5 : Hid (SetAt w5 w.heap.size S) := Lib.hid (HYI.out.below hb5 (by omega))
                  have HO5 := Lib.hid (ownB HOI.out hb5)
                  have HB5 := Lib.hid (HBI.out.trans (hb5.mono (by omega)))
                  have hsz5 : w.heap.size + 2 ≤ w5.heap.size := by have := hb5.size; omega
                  clear hb5
                  go_wp2
                  go_roundw
                  case rel => exact ⟨e', by have := HE'.out; omega, by have := HE'.out; omega, by have := HE'.out; subst this; go_num, HF2.out, HY5.out, HO5.out, HB5.out, hsz5⟩
                  case measure => simp [intOf]; omega
                | false =>
                  rw [hse] at HHE
                  have HE := Lib.hid (HSTT.out e hke he HF.out (.inr hse)).2
                  obtain ⟨e', he'⟩ : ∃ e', e + 1 = e' := ⟨_, rfl⟩
                  rw [he'] at hwe HHE
                  clear he' hse
                  go_wp2_with fail
                  refine (HHE.out _).mono ?_
                  rintro ee w5 ⟨rfl, hb5⟩
                  have HY5 : Hid (SetAt w5 w.heap.size S) := Lib.hid (HYI.out.below hb5 (by omega))
                  have HO5 := Lib.hid (ownB HOI.out hb5)
                  have HB5 := Lib.hid (HBI.out.trans (hb5.mono (by omega)))
                  have hsz5 : w.heap.size + 2 ≤ w5.heap.size := by have := hb5.size; omega
                  clear hb5
                  have hle := runs_le S k
                  have HAP := Lib.hid (app_el (P := Tryd.prog) (C := rn2) (T := 29) (by decide) rn2_len rn2_one Tryd.underlying29 infoRun rfl HO5.out (k, e) (by unfold maxLen; omega) (by omega) (by omega) w5.heap.size rfl #[.int .i64 (k : Int), .int .i64 (e : Int)] rfl)
                  go_wp2_with (at_builtin; refine HAP.out _ _ _ _ _ rfl _ _ rfl rfl rfl ?_; intro gg cap w6 hown1 hgrow hat2; have HW := Lib.hid hown1; have HBW := Lib.hid (below_grown (HB5.out.alloc (by omega) (.cells #[.int .i64 (k : Int), .int .i64 (e : Int)] 32)) (by simp; omega) hgrow (fun j hj => by have := (own_ge HO5.out hj).1; omega)); have HYW : Hid (SetAt w6 w.heap.size S) := Lib.hid ((hgrow.block _ (by simp; omega) (fun e => by have := (own_ge HO5.out e.symm).1; omega)).trans ((HY5.out.below ((Below.refl _ _).alloc (Nat.le_refl _) (.cells #[.int .i64 (k : Int), .int .i64 (e : Int)] 32)) (by omega)))); have hsz6 := hgrow.size; clear hown1 hgrow hat2)
                  go_roundw
                  case rel => exact ⟨k + 1, e + 1, by omega, by go_num, HE.out.1, by rw [HE.out.2, List.length_append]; exact HW.out, HYW.out, HBW.out, by simp at hsz6; omega⟩
                  case measure => simp [intOf]; omega
              · have HE := Lib.hid (HSTT.out e hke he HF.out (.inl (by omega))).2
                have hle := runs_le S k
                have HAP := Lib.hid (app_el (P := Tryd.prog) (C := rn2) (T := 29) (by decide) rn2_len rn2_one Tryd.underlying29 infoRun rfl HOI.out (k, e) (by unfold maxLen; omega) (by omega) (by omega) wr.heap.size rfl #[.int .i64 (k : Int), .int .i64 (e : Int)] rfl)
                go_wp2_with (at_builtin; refine HAP.out _ _ _ _ _ rfl _ _ rfl rfl rfl ?_; intro gg cap w6 hown1 hgrow hat2; have HW := Lib.hid hown1; have HBW := Lib.hid (below_grown (HBI.out.alloc (by omega) (.cells #[.int .i64 (k : Int), .int .i64 (e : Int)] 32)) (by simp; omega) hgrow (fun j hj => by have := (own_ge HOI.out hj).1; omega)); have HYW : Hid (SetAt w6 w.heap.size S) := Lib.hid ((hgrow.block _ (by simp; omega) (fun e => by have := (own_ge HOI.out e.symm).1; omega)).trans ((HYI.out.below ((Below.refl _ _).alloc (Nat.le_refl _) (.cells #[.int .i64 (k : Int), .int .i64 (e : Int)] 32)) (by omega)))); have hsz6 := hgrow.size; clear hown1 hgrow hat2)
                go_roundw
                case rel => exact ⟨k + 1, e + 1, by omega, by go_num, HE.out.1, by rw [HE.out.2, List.length_append]; exact HW.out, HYW.out, HBW.out, by simp at hsz6; omega⟩
                case measure => simp [intOf]; omega
        · have hk0 : 0 < k := by
            rcases Nat.eq_zero_or_pos k with h | h
            · exact absurd (.inl h) hst
            · exact h
          have hsk : S (k - 1) = true := by
            cases h : S (k - 1) with
            | true => rfl
            | false => exact absurd (.inr h) hst
          have HM := Lib.hid (HMID.out HS.out hk0 hsk)
          have j0 : decide ((0 : Int) < (k : Int)) = true := decide_eq_true (by omega)
          have j1 : decide (0 < k) = true := decide_eq_true (by omega)
          have j2 : 0 < k := by omega
          have hwk1 := HK1.out (k - 1) rfl hk0
          have HH1 := Lib.hid (HHAS.out (k - 1) (by omega))
          rw [hsk] at HH1
          clear hst hsk
          generalize k - 1 = kp at hwk1 HH1
          go_wp2_with fail
          refine (HH.out _).mono ?_
          rintro e wa ⟨rfl, hba⟩
          obtain ⟨hya, _, _, hsza⟩ := HGO.out wa hba
          have d0 := hya.cell 0 (by omega)
          have d1 := hya.cell 1 (by omega)
          have d2 := hya.cell 2 (by omega)
          have d3 := hya.cell 3 (by omega)
          clear hya
          go_wp2_with fail
          refine (HH1.out _).mono ?_
          rintro e w2 ⟨rfl, hb2⟩
          obtain ⟨hy2, ho2, hbb2, hsz2⟩ := HGO.out w2 (hba.trans (hb2.mono (by have := hba.size; omega)))
          have HY2 := Lib.hid hy2
          have HO2 := Lib.hid ho2
          have HB2 := Lib.hid hbb2
          clear hb2 hy2 ho2 hbb2 HGO hba
          go_wp2
          go_roundw
          case rel => exact ⟨k + 1, m, by omega, by go_num, HM.out, HO2.out, HY2.out, HB2.out, hsz2⟩
          case measure => simp [intOf]; omega
    · have hk2 : k = 256 := by omega
      subst hk2
      have hm := at_end hat
      subst hm
      clear hown hy hb hk hat
      go_wp2
      go_ret
      exact ⟨_, rfl, own_mono HO.out (by omega), HB.out⟩
end Go.Proofs.YtglgmnhfpemfeaaDoor
