/- Taking a text from between quotes: the program's walk. -/
import Derived.Test.YtnlpahdjiddooaaDoorEscTake
import Derived.Deep.LoopGhost
namespace Go.Proofs.YtnlpahdjiddooaaDoor
open Go.RowKit Go.PlainAid
set_option linter.unusedVariables false

theorem step_ok {r : List UInt8} (h : (stepS r).2.2 = 0) : (stepS r).1 < 256 ∧ 1 ≤ (stepS r).2.1 ∧ (stepS r).2.1 ≤ r.length := by
  unfold stepS at h ⊢
  cases hf : fB r 256 with
  | some b =>
    obtain ⟨h1, h2⟩ := fB_some hf
    exact ⟨h1, (chL_len b).1, h2.length_le⟩
  | none =>
    rw [hf] at h
    simp only at h
    split at h <;> simp at h
theorem step_err (r : List UInt8) : (stepS r).2.2 = 0 ∨ (stepS r).2.2 = 3 ∨ (stepS r).2.2 = 4 := by
  unfold stepS
  cases hf : fB r 256 with
  | some b => exact .inl rfl
  | none =>
    simp only
    split
    · exact .inr (.inr rfl)
    · exact .inr (.inl rfl)
theorem tk_nil {f : Nat} {out : List UInt8} : tkF f [] out = ([], 0, 4) := by cases f <;> rfl
theorem tk_end {f : Nat} {r out : List UInt8} : tkF (f + 1) (34 :: r) out = (out, r.length + 1, 0) := by simp [tkF]
theorem tk_err {f : Nat} {c : UInt8} {r out : List UInt8} (h : c ≠ 34) (h2 : (stepS (c :: r)).2.2 ≠ 0) : tkF (f + 1) (c :: r) out = ([], 0, (stepS (c :: r)).2.2) := by simp [tkF, h, h2]
theorem tk_next {f : Nat} {c : UInt8} {r out : List UInt8} (h : c ≠ 34) (h2 : (stepS (c :: r)).2.2 = 0) : tkF (f + 1) (c :: r) out = tkF f ((c :: r).drop (stepS (c :: r)).2.1) (out ++ [cu8 (stepS (c :: r)).1]) := by simp [tkF, h, h2]
theorem take_low {s : List UInt8} {at_ : Int} (h : at_ < 0 ∨ (s.length : Int) < at_) : takeR s at_ = ([], 0, 2) := by unfold takeR; rw [if_pos h]
theorem take_none {s : List UInt8} {k : Nat} (h : k ≤ s.length) (h2 : s[k]? ≠ some 34) : takeR s (k : Int) = ([], 0, 5) := by
  unfold takeR; rw [if_neg (by omega), Int.toNat_natCast, if_neg h2]
theorem take_go {s : List UInt8} {k : Nat} (h2 : s[k]? = some 34) : takeR s (k : Int) = (match tkF (s.length + 1) (s.drop (k + 1)) [] with | (o, m, e) => if e = 0 then (o, (s.length : Int) - m + 1, 0) else ([], 0, e)) := by
  have h := (List.getElem?_eq_some_iff.1 h2).1
  unfold takeR; rw [if_neg (by omega), Int.toNat_natCast, if_pos h2]
/-- What is known of the state: some fuel that serves, and what was taken. -/
def TkI (L : List UInt8) (at_ : Nat) (k : Nat) (out : List UInt8) : Prop := at_ + 1 ≤ k ∧ k ≤ L.length ∧ out.length ≤ k ∧ ∃ f, L.length - k < f ∧ tkF (L.length + 1) (L.drop (at_ + 1)) [] = tkF f (L.drop k) out
theorem TkI.start {L : List UInt8} {k : Nat} (h : L[k]? = some 34) : TkI L k (k + 1) [] := by
  have h := (List.getElem?_eq_some_iff.1 h).1
  exact ⟨Nat.le_refl _, by omega, by simp, L.length + 1, by omega, rfl⟩
theorem drop_at {L : List UInt8} {k : Nat} {c : UInt8} (h : L[k]? = some c) : L.drop k = c :: L.drop (k + 1) := by
  obtain ⟨h1, h2⟩ := List.getElem?_eq_some_iff.1 h
  rw [List.drop_eq_getElem_cons h1, h2]
theorem TkI.short {L : List UInt8} {a : Nat} {out : List UInt8} (h : TkI L a L.length out) (h2 : L[a]? = some 34) : takeR L (a : Int) = ([], 0, 4) := by
  obtain ⟨_, _, _, f, hf, he⟩ := h
  rw [take_go h2, he, List.drop_length, tk_nil]; rfl
theorem TkI.quote {L : List UInt8} {a k : Nat} {out : List UInt8} (h : TkI L a k out) (h2 : L[a]? = some 34) (h3 : L[k]? = some 34) : takeR L (a : Int) = (out, (k : Int) + 1, 0) := by
  obtain ⟨_, _, _, f, hf, he⟩ := h
  have hl := (List.getElem?_eq_some_iff.1 h3).1
  obtain ⟨f, rfl⟩ : ∃ g, f = g + 1 := ⟨f - 1, by omega⟩
  rw [take_go h2, he, drop_at h3, tk_end]
  simp only [if_true, List.length_drop]
  congr 2; omega
theorem TkI.err {L : List UInt8} {a k b n e : Nat} {c : UInt8} {out : List UInt8} (h : TkI L a k out) (h2 : L[a]? = some 34) (h3 : L[k]? = some c) (hc : c ≠ 34) (hs : stepS (L.drop k) = (b, n, e)) (he0 : e ≠ 0) : takeR L (a : Int) = ([], 0, e) := by
  obtain ⟨_, _, _, f, hf, he⟩ := h
  have hl := (List.getElem?_eq_some_iff.1 h3).1
  obtain ⟨f, rfl⟩ : ∃ g, f = g + 1 := ⟨f - 1, by omega⟩
  have hd := drop_at h3
  rw [hd] at hs
  rw [take_go h2, he, hd, tk_err hc (by rw [hs]; exact he0), hs]
  simp only [if_neg he0]
theorem TkI.next {L : List UInt8} {a k b n : Nat} {c : UInt8} {out : List UInt8} (h : TkI L a k out) (h3 : L[k]? = some c) (hc : c ≠ 34) (hs : stepS (L.drop k) = (b, n, 0)) : TkI L a (k + n) (out ++ [cu8 b]) ∧ b < 256 ∧ 1 ≤ n ∧ k + n ≤ L.length := by
  obtain ⟨h1, h4, h5, f, hf, he⟩ := h
  have hl := (List.getElem?_eq_some_iff.1 h3).1
  obtain ⟨f, rfl⟩ : ∃ g, f = g + 1 := ⟨f - 1, by omega⟩
  have hok := step_ok (r := L.drop k) (by rw [hs])
  rw [hs] at hok
  simp only [List.length_drop] at hok
  have hd := drop_at h3
  refine ⟨⟨by omega, by omega, by simp; omega, f, by omega, ?_⟩, hok.1, hok.2.1, by omega⟩
  rw [hd] at hs
  rw [he, hd, tk_next hc (by rw [hs]), hs, ← hd, List.drop_drop]
theorem TkI.len {L : List UInt8} {a k : Nat} {out : List UInt8} (h : TkI L a k out) : k ≤ L.length ∧ out.length ≤ k ∧ 1 ≤ k := ⟨h.2.1, h.2.2.1, by have := h.1; omega⟩
set_option maxHeartbeats 4000000 in
theorem take_any (s : ByteArray) (at_ : Int) (w : World) (hs : s.size ≤ 100000) (hT : TabS w) :
    Calls Tryd.prog 11 #[.string s, .int .i64 at_] w fun e w' => e = .returned (tv (takeR (LS s) at_)) ∧ Below w.heap.size w w' := by
  have hll := LS_len s
  obtain ⟨tr, htr⟩ : ∃ x, takeR (LS s) at_ = x := ⟨_, rfl⟩
  have HTR := Lib.hid htr
  rw [htr]
  clear htr
  have HT := Lib.hid hT
  have HLL := Lib.hid hll
  clear hT hll
  obtain ⟨g, hg⟩ : ∃ g, w.heap.size = g := ⟨_, rfl⟩
  have HG := Lib.hid hg
  by_cases hlow : at_ < 0
  · have HE : Hid (tr = ([], 0, 2)) := Lib.hid (by rw [← HTR.out]; exact take_low (.inl hlow))
    clear hg
    go_enter Tryd.func11, Tryd.ntmps11
    go_wp2
    go_step3
    go_wp2
    rw [Exit.noGoto_ret]
    go_ret3
    exact ⟨ret_tv HE.out, Below.refl _ _⟩
  by_cases hhigh : (s.size : Int) < at_
  · have HE : Hid (tr = ([], 0, 2)) := Lib.hid (by rw [← HTR.out]; exact take_low (.inr (by rw [HLL.out]; exact hhigh)))
    clear hg
    go_enter Tryd.func11, Tryd.ntmps11
    go_wp2
    go_step3
    go_wp2
    rw [Exit.noGoto_ret]
    go_ret3
    exact ⟨ret_tv HE.out, Below.refl _ _⟩
  obtain ⟨a, rfl⟩ : ∃ a : Nat, at_ = (a : Int) := ⟨at_.toNat, by omega⟩
  have ha : a ≤ s.size := by omega
  clear hlow hhigh
  by_cases hq : (LS s)[a]? = some 34
  case neg =>
    have HE : Hid (tr = ([], 0, 5)) := Lib.hid (by rw [← HTR.out]; exact take_none (by rw [HLL.out]; exact ha) hq)
    by_cases hend : a = s.size
    · subst hend
      clear hg hq
      go_enter Tryd.func11, Tryd.ntmps11
      go_wp2
      go_step3
      go_wp2
      rw [Exit.noGoto_ret]
      go_ret3
      exact ⟨ret_tv HE.out, Below.refl _ _⟩
    · have hlt : a < s.size := by omega
      have q1 : ((a : Int) == (s.size : Int)) = false := by simp; omega
      have q2 : (((s[a]'hlt).toNat : Int) != 34) = true := by
        rw [bne_iff_ne]
        intro h
        refine hq ?_
        rw [LS_at s a hlt]
        exact congrArg some (UInt8.toNat_inj.1 (by show (s[a]'hlt).toNat = 34; omega))
      clear hg hq hend
      go_enter Tryd.func11, Tryd.ntmps11
      go_wp2
      go_step3
      go_wp2
      rw [Exit.noGoto_ret]
      go_ret3
      exact ⟨ret_tv HE.out, Below.refl _ _⟩
  have hlt : a < s.size := by rw [← HLL.out]; exact (List.getElem?_eq_some_iff.1 hq).1
  have q1 : ((a : Int) == (s.size : Int)) = false := by simp; omega
  have q2 : (((s[a]'hlt).toNat : Int) != 34) = false := by
    rw [LS_at s a hlt] at hq
    rw [Option.some.inj hq]; rfl
  have HQ := Lib.hid hq
  have HI0 := Lib.hid (TkI.start hq)
  have d1 : decide ((a : Int) < 0) = false := decide_eq_false (by omega)
  have d2 : decide (s.size < a) = false := decide_eq_false (by omega)
  have HB0 := Lib.hid (show Below g w w by rw [← hg]; exact Below.refl _ _)
  clear hg hq
  go_enter Tryd.func11, Tryd.ntmps11
  go_wp2
  go_step3
  go_wp2
  go_step3
  go_wp2
  go_loopg [7, 8] (s.size - (a + 1)) (fun gk v i wr => ∃ (k : Nat) (xs : List UInt8), k + gk = s.size ∧ i = .int .i64 (k : Int) ∧ TkI (LS s) a k xs ∧ wr.ownsRow g 5 1 v xs.length (xs.flatMap by1) ∧ Below g w wr)
  case atStart => exact ⟨a + 1, [], by omega, by go_num, HI0.out, own_new _ _ _ _, HB0.out⟩
  case round =>
    obtain ⟨k, xs, hk, rfl, hti, hown, hb⟩ := hrel
    have HTI := Lib.hid hti
    have HOW := Lib.hid hown
    have HB := Lib.hid hb
    have hgl : g ≤ wr.heap.size := by have := HG.out; have := hb.size; omega
    have HTW : Hid (TabS wr) := Lib.hid (HT.out.below (by rw [HG.out]; exact hb))
    have hkl := hti.len
    rw [HLL.out] at hkl
    have HF := Lib.hid (own_form hown)
    clear hti hown hb
    obtain ⟨A, cc, rfl, hle, hcc⟩ := HF.out
    clear HF
    by_cases hlt2 : k < s.size
    · obtain ⟨c, hc⟩ : ∃ c, s[k]'hlt2 = c := ⟨_, rfl⟩
      have HC : Hid ((LS s)[k]? = some c) := Lib.hid (by rw [LS_at s k hlt2, hc])
      obtain ⟨n, hn⟩ : ∃ n : Nat, c.toNat = n := ⟨_, rfl⟩
      have HN := Lib.hid hn
      have hcn : (s[k]'hlt2).toNat = n := by rw [hc, hn]
      have hcn2 : ((s[k]'hlt2).toNat : Int) = (n : Int) := by rw [hcn]
      have hn256 : n < 256 := by rw [← hn]; exact c.toNat_lt
      clear hc hn
      have z1 : (k : Int) < (s.size : Int) := by omega
      by_cases h34 : n = 34
      · subst h34
        have HE : Hid (tr = (xs, (k : Int) + 1, 0)) := Lib.hid (by rw [← HTR.out]; exact HTI.out.quote HQ.out (by rw [HC.out]; exact congrArg some (UInt8.toNat_inj.1 (HN.out.trans rfl))))
        have HCV := Lib.hid (conv_row (l := xs) (by rw [← by1_flat]; exact HOW.out))
        have hcv := HCV.out
        clear HCV
        go_wp2
        rw [Exit.noGoto_ret]
        go_ret3
        exact ⟨ret_tv HE.out, by rw [HG.out]; exact HB.out⟩
      · have HNE : Hid (c ≠ 34) := Lib.hid fun h => h34 (by rw [← HN.out, h]; rfl)
        have e34 : ((n : Int) == 34) = false := by simp; omega
        by_cases h92 : n = 92
        · subst h92
          have HC92 : Hid (c = 92) := Lib.hid (UInt8.toNat_inj.1 HN.out)
          have HX : Hid (LS (s.extract k s.size) = (LS s).drop k) := Lib.hid (by rw [LS_ext, List.take_of_length_le (by rw [List.length_drop, HLL.out]; exact Nat.le_refl _)])
          have hxs : (s.extract k s.size).size ≤ 100000 := by rw [← LS_len, HX.out, List.length_drop, HLL.out]; omega
          have HBE := Lib.hid (behind_any (s.extract k s.size) wr hxs HTW.out (by rw [HX.out, List.getElem?_drop, Nat.add_zero, HC.out, HC92.out]))
          obtain ⟨st, hst⟩ : ∃ x, stepS (LS (s.extract k s.size)) = x := ⟨_, rfl⟩
          have HST : Hid (stepS ((LS s).drop k) = st) := Lib.hid (by rw [← HX.out]; exact hst)
          have HSE := Lib.hid (step_err ((LS s).drop k))
          rw [HST.out] at HSE
          rw [hst] at HBE
          obtain ⟨b, m, e⟩ := st
          unfold sv at HBE
          dsimp only at HBE HSE
          clear hst h34
          by_cases he : e = 0
          · subst he
            have hnx := HTI.out.next HC.out HNE.out HST.out
            have HNX := Lib.hid hnx.1
            obtain ⟨hb256, hm1, hm2⟩ := hnx.2
            rw [HLL.out] at hm2
            clear hnx
            go_wp2_with fail
            refine HBE.out.mono ?_
            rintro e w2 ⟨rfl, hb2⟩
            have HB2 := Lib.hid (HB.out.trans (hb2.mono hgl))
            have hg2 : g ≤ w2.heap.size := by have := hb2.size; omega
            have HOW2 := Lib.hid (ownB HOW.out hb2)
            have HAP := Lib.hid (app_el (P := Tryd.prog) (C := by1) (T := 35) (by decide) by1_len by1_one Tryd.underlying35 infoU8 rfl HOW2.out (cu8 b) (by unfold maxLen; omega) (by omega) hg2 w2.heap.size rfl #[.int .u8 b] (by simp only [by1]; rw [u8_nat hb256]))
            clear hb2 HBE
            go_wp2_with (at_builtin; refine HAP.out _ _ _ _ _ rfl _ _ rfl rfl rfl ?_; intro gg cap w3 hown1 hgrow hat; have HW := Lib.hid hown1; have HB3 := Lib.hid (below_grown (HB2.out.alloc (by omega) _) (by simp; omega) hgrow (fun j hj => (own_ge HOW2.out hj).1)); clear hown1 hgrow hat)
            have HLN : Hid ((xs ++ [cu8 b]).length = xs.length + 1) := Lib.hid (by simp)
            go_roundg (s.size - (k + m))
            case measure => omega
            case rel => exact ⟨k + m, xs ++ [cu8 b], by omega, by go_num, HNX.out, by rw [HLN.out]; exact HW.out, HB3.out⟩
          · have HE : Hid (tr = ([], 0, e)) := Lib.hid (by rw [← HTR.out]; exact HTI.out.err HQ.out HC.out HNE.out HST.out he)
            have q5 : ((e : Int) != 0) = true := by rw [bne_iff_ne]; omega
            clear he HSE
            go_wp2_with fail
            refine HBE.out.mono ?_
            rintro ee w2 ⟨rfl, hb2⟩
            have HB2 := Lib.hid (HB.out.trans (hb2.mono hgl))
            clear hb2 HBE
            go_wp2
            rw [Exit.noGoto_ret]
            go_ret3
            exact ⟨ret_tv HE.out, by rw [HG.out]; exact HB2.out⟩
        · have e92 : ((n : Int) == 92) = false := by simp; omega
          have HC92 : Hid (c ≠ 92) := Lib.hid fun h => h92 (by rw [← HN.out, h]; rfl)
          have HDA := Lib.hid (drop_at HC.out)
          by_cases hp : 32 ≤ n ∧ n ≤ 126
          · have p1 : ¬ (n : Int) < 32 := by omega
            have p2 : ¬ (126 : Int) < (n : Int) := by omega
            have hnx := HTI.out.next HC.out HNE.out (b := n) (n := 1) (by rw [HDA.out, ← HN.out]; exact plain_code (by rw [HN.out]; exact hp.1) (by rw [HN.out]; exact hp.2) HNE.out HC92.out)
            have HNX := Lib.hid hnx.1
            have HAP := Lib.hid (app_el (P := Tryd.prog) (C := by1) (T := 35) (by decide) by1_len by1_one Tryd.underlying35 infoU8 rfl HOW.out (cu8 n) (by unfold maxLen; omega) (by omega) hgl wr.heap.size rfl #[.int .u8 n] (by simp only [by1]; rw [u8_nat hn256]))
            clear hnx hp h34 h92
            go_wp2_with (at_builtin; refine HAP.out _ _ _ _ _ rfl _ _ rfl rfl rfl ?_; intro gg cap w3 hown1 hgrow hat; have HW := Lib.hid hown1; have HB3 := Lib.hid (below_grown (HB.out.alloc (by omega) _) (by simp; omega) hgrow (fun j hj => (own_ge HOW.out hj).1)); clear hown1 hgrow hat)
            have HLN : Hid ((xs ++ [cu8 n]).length = xs.length + 1) := Lib.hid (by simp)
            go_roundg (s.size - (k + 1))
            case measure => omega
            case rel => exact ⟨k + 1, xs ++ [cu8 n], by omega, by go_num, HNX.out, by rw [HLN.out]; exact HW.out, HB3.out⟩
          · have HE : Hid (tr = ([], 0, 3)) := Lib.hid (by rw [← HTR.out]; exact HTI.out.err HQ.out HC.out HNE.out (b := 0) (n := 0) (by rw [HDA.out]; exact bad_code (by rw [HN.out]; omega)) (by decide))
            have p1 : (n : Int) < 32 ∨ (¬ (n : Int) < 32 ∧ (126 : Int) < (n : Int)) := by omega
            clear hp h34 h92
            rcases p1 with p1 | ⟨p1, p2⟩
            all_goals
              go_wp2
              try rw [Exit.noGoto_ret]
              go_ret3
              exact ⟨ret_tv HE.out, by rw [HG.out]; exact HB.out⟩
    · have hks : k = s.size := by omega
      subst hks
      have HE : Hid (tr = ([], 0, 4)) := Lib.hid (by
        rw [← HTR.out]
        have h := HTI.out
        rw [← HLL.out] at h
        exact h.short HQ.out)
      go_wp2
      rw [Exit.noGoto_ret]
      go_ret3
      exact ⟨ret_tv HE.out, by rw [HG.out]; exact HB.out⟩

theorem step_of (r : List UInt8) : (∃ b n, cvR r = (b, n) ∧ 1 ≤ n ∧ stepS r = (b, n, 0)) ∨ (cvR r = (0, 0) ∧ gB r 256 = true ∧ stepS r = (0, 0, 4)) ∨ (cvR r = (0, 0) ∧ gB r 256 = false ∧ stepS r = (0, 0, 3)) := by
  unfold cvR stepS
  cases fB r 256 with
  | some b => exact .inl ⟨b, _, rfl, (chL_len b).1, rfl⟩
  | none =>
    cases gB r 256 with
    | true => exact .inr (.inl ⟨rfl, rfl, rfl⟩)
    | false => exact .inr (.inr ⟨rfl, rfl, rfl⟩)
theorem own_zero (w : World) (base : Nat) (e : TypeId) (h : base ≤ w.heap.size) : (w.alloc (.cells #[] e)).ownsRow base e 1 (.slice (some ⟨w.heap.size, 0, none⟩) 0 0) 0 [] := by
  refine ⟨rfl, .inr ⟨w.heap.size, 0, #[], rfl, h, heap_alloc_new w _, Nat.le_refl _, by decide, rfl, rfl⟩⟩
set_option maxHeartbeats 4000000 in
theorem rtake_any (s : ByteArray) (at_ : Int) (w : World) (hs : s.size ≤ 100000) :
    Calls Tryd.prog 12 #[.string s, .int .i64 at_] w fun e w' => e = .returned (tv (takeR (LS s) at_)) ∧ Below w.heap.size w w' := by
  have hll := LS_len s
  obtain ⟨tr, htr⟩ : ∃ x, takeR (LS s) at_ = x := ⟨_, rfl⟩
  have HTR := Lib.hid htr
  rw [htr]
  clear htr
  have HLL := Lib.hid hll
  clear hll
  obtain ⟨g, hg⟩ : ∃ g, w.heap.size = g := ⟨_, rfl⟩
  have HG := Lib.hid hg
  by_cases hlow : at_ < 0
  · have HE : Hid (tr = ([], 0, 2)) := Lib.hid (by rw [← HTR.out]; exact take_low (.inl hlow))
    clear hg
    go_enter Tryd.func12, Tryd.ntmps12
    go_wp2
    go_ret3
    exact ⟨ret_tv HE.out, Below.refl _ _⟩
  by_cases hhigh : (s.size : Int) < at_
  · have HE : Hid (tr = ([], 0, 2)) := Lib.hid (by rw [← HTR.out]; exact take_low (.inr (by rw [HLL.out]; exact hhigh)))
    clear hg
    go_enter Tryd.func12, Tryd.ntmps12
    go_wp2
    go_ret3
    exact ⟨ret_tv HE.out, Below.refl _ _⟩
  obtain ⟨a, rfl⟩ : ∃ a : Nat, at_ = (a : Int) := ⟨at_.toNat, by omega⟩
  have ha : a ≤ s.size := by omega
  clear hlow hhigh
  by_cases hq : (LS s)[a]? = some 34
  case neg =>
    have HE : Hid (tr = ([], 0, 5)) := Lib.hid (by rw [← HTR.out]; exact take_none (by rw [HLL.out]; exact ha) hq)
    by_cases hend : a = s.size
    · subst hend
      clear hg hq
      go_enter Tryd.func12, Tryd.ntmps12
      go_wp2
      go_ret3
      exact ⟨ret_tv HE.out, Below.refl _ _⟩
    · have hlt : a < s.size := by omega
      have q1 : ((a : Int) == (s.size : Int)) = false := by simp; omega
      have q2 : (((s[a]'hlt).toNat : Int) != 34) = true := by
        rw [bne_iff_ne]
        intro h
        refine hq ?_
        rw [LS_at s a hlt]
        exact congrArg some (UInt8.toNat_inj.1 (by show (s[a]'hlt).toNat = 34; omega))
      clear hg hq hend
      go_enter Tryd.func12, Tryd.ntmps12
      go_wp2
      go_ret3
      exact ⟨ret_tv HE.out, Below.refl _ _⟩
  have hlt : a < s.size := by rw [← HLL.out]; exact (List.getElem?_eq_some_iff.1 hq).1
  have q1 : ((a : Int) == (s.size : Int)) = false := by simp; omega
  have q2 : (((s[a]'hlt).toNat : Int) != 34) = false := by
    rw [LS_at s a hlt] at hq
    rw [Option.some.inj hq]; rfl
  have HQ := Lib.hid hq
  have HI0 := Lib.hid (TkI.start hq)
  have d1 : decide ((a : Int) < 0) = false := decide_eq_false (by omega)
  have d2 : decide (s.size < a) = false := decide_eq_false (by omega)
  have HB0 := Lib.hid (show Below g w (w.alloc (.cells #[] 5)) by rw [← hg]; exact (Below.refl _ _).alloc (Nat.le_refl _) _)
  have HO0 := Lib.hid (own_zero w g 5 (by omega))
  clear hg hq
  go_enter Tryd.func12, Tryd.ntmps12
  go_wp2
  go_loopg [7, 8] (s.size - (a + 1)) (fun gk v i wr => ∃ (k : Nat) (xs : List UInt8), k + gk = s.size ∧ i = .int .i64 (k : Int) ∧ TkI (LS s) a k xs ∧ wr.ownsRow g 5 1 v xs.length (xs.flatMap by1) ∧ Below g w wr)
  case atStart => exact ⟨a + 1, [], by omega, by go_num, HI0.out, HO0.out, HB0.out⟩
  case round =>
    obtain ⟨k, xs, hk, rfl, hti, hown, hb⟩ := hrel
    clear HB0 HO0 HI0
    have HTI := Lib.hid hti
    have HOW := Lib.hid hown
    have HB := Lib.hid hb
    have hgl : g ≤ wr.heap.size := by have := HG.out; have := hb.size; omega
    have hkl := hti.len
    rw [HLL.out] at hkl
    have HF := Lib.hid (own_form hown)
    clear hti hown hb
    obtain ⟨A, cc, rfl, hle, hcc⟩ := HF.out
    clear HF
    by_cases hlt2 : k < s.size
    · obtain ⟨c, hc⟩ : ∃ c, s[k]'hlt2 = c := ⟨_, rfl⟩
      have HC : Hid ((LS s)[k]? = some c) := Lib.hid (by rw [LS_at s k hlt2, hc])
      obtain ⟨n, hn⟩ : ∃ n : Nat, c.toNat = n := ⟨_, rfl⟩
      have HN := Lib.hid hn
      have hcn : (s[k]'hlt2).toNat = n := by rw [hc, hn]
      have hcn2 : ((s[k]'hlt2).toNat : Int) = (n : Int) := by rw [hcn]
      have hn256 : n < 256 := by rw [← hn]; exact c.toNat_lt
      clear hc hn
      have z1 : (k : Int) < (s.size : Int) := by omega
      have z2 : decide (k < s.size) = true := decide_eq_true hlt2
      by_cases h34 : n = 34
      · subst h34
        have HE : Hid (tr = (xs, (k : Int) + 1, 0)) := Lib.hid (by rw [← HTR.out]; exact HTI.out.quote HQ.out (by rw [HC.out]; exact congrArg some (UInt8.toNat_inj.1 (HN.out.trans rfl))))
        have HCV := Lib.hid (conv_row (l := xs) (by rw [← by1_flat]; exact HOW.out))
        have hcv := HCV.out
        clear HCV
        go_wp2
        go_ret3
        exact ⟨ret_tv HE.out, by rw [HG.out]; exact HB.out⟩
      · have HNE : Hid (c ≠ 34) := Lib.hid fun h => h34 (by rw [← HN.out, h]; rfl)
        have e34 : ((n : Int) != 34) = true := by rw [bne_iff_ne]; omega
        have HX : Hid (LS (s.extract k s.size) = (LS s).drop k) := Lib.hid (by rw [LS_ext, List.take_of_length_le (by rw [List.length_drop, HLL.out]; exact Nat.le_refl _)])
        have hxs : (s.extract k s.size).size ≤ 100000 := by rw [← LS_len, HX.out, List.length_drop, HLL.out]; omega
        have HCA := Lib.hid (rchar_any (s.extract k s.size) wr hxs)
        have HBA := Lib.hid fun w => begins_any (s.extract k s.size) w hxs
        have hso := step_of ((LS s).drop k)
        rw [← HX.out] at hso
        clear h34
        rcases hso with ⟨b, m, h1, h2, h3⟩ | ⟨h1, h2, h3⟩ | ⟨h1, h2, h3⟩
        · rw [h1] at HCA
          dsimp only at HCA
          have hnx := HTI.out.next HC.out HNE.out (by rw [← HX.out]; exact h3)
          have HNX := Lib.hid hnx.1
          obtain ⟨hb256, hm1, hm2⟩ := hnx.2
          rw [HLL.out] at hm2
          have q6 : ((m : Int) == 0) = false := by simp; omega
          clear hnx h1 h2 h3
          go_wp2_with fail
          refine HCA.out.mono ?_
          rintro e w2 ⟨rfl, hb2⟩
          have HB2 := Lib.hid (HB.out.trans (hb2.mono hgl))
          have hg2 : g ≤ w2.heap.size := by have := hb2.size; omega
          have HOW2 := Lib.hid (ownB HOW.out hb2)
          have HAP := Lib.hid (app_el (P := Tryd.prog) (C := by1) (T := 35) (by decide) by1_len by1_one Tryd.underlying35 infoU8 rfl HOW2.out (cu8 b) (by unfold maxLen; omega) (by omega) hg2 w2.heap.size rfl #[.int .u8 b] (by simp only [by1]; rw [u8_nat hb256]))
          clear hb2 HCA
          go_wp2_with (at_builtin; refine HAP.out _ _ _ _ _ rfl _ _ rfl rfl rfl ?_; intro gg cap w3 hown1 hgrow hat; have HW := Lib.hid hown1; have HB3 := Lib.hid (below_grown (HB2.out.alloc (by omega) _) (by simp; omega) hgrow (fun j hj => (own_ge HOW2.out hj).1)); clear hown1 hgrow hat)
          have HLN : Hid ((xs ++ [cu8 b]).length = xs.length + 1) := Lib.hid (by simp)
          go_roundg (s.size - (k + m))
          case measure => omega
          case rel => exact ⟨k + m, xs ++ [cu8 b], by omega, by go_num, HNX.out, by rw [HLN.out]; exact HW.out, HB3.out⟩
        · rw [h1] at HCA
          dsimp only at HCA
          rw [h2] at HBA
          have HE : Hid (tr = ([], 0, 4)) := Lib.hid (by rw [← HTR.out]; exact HTI.out.err HQ.out HC.out HNE.out (by rw [← HX.out]; exact h3) (by decide))
          clear h1 h2 h3
          go_wp2_with fail
          refine HCA.out.mono ?_
          rintro e w2 ⟨rfl, hb2⟩
          have HB2 := Lib.hid (HB.out.trans (hb2.mono hgl))
          have hg2 : g ≤ w2.heap.size := by have := hb2.size; omega
          clear hb2 HCA
          go_wp2_with fail
          refine (HBA.out _).mono ?_
          rintro e w3 ⟨rfl, hb3⟩
          have HB3 := Lib.hid (HB2.out.trans (hb3.mono hg2))
          clear hb3
          go_wp2
          go_ret3
          exact ⟨ret_tv HE.out, by rw [HG.out]; exact HB3.out⟩
        · rw [h1] at HCA
          dsimp only at HCA
          rw [h2] at HBA
          have HE : Hid (tr = ([], 0, 3)) := Lib.hid (by rw [← HTR.out]; exact HTI.out.err HQ.out HC.out HNE.out (by rw [← HX.out]; exact h3) (by decide))
          clear h1 h2 h3
          go_wp2_with fail
          refine HCA.out.mono ?_
          rintro e w2 ⟨rfl, hb2⟩
          have HB2 := Lib.hid (HB.out.trans (hb2.mono hgl))
          have hg2 : g ≤ w2.heap.size := by have := hb2.size; omega
          clear hb2 HCA
          go_wp2_with fail
          refine (HBA.out _).mono ?_
          rintro e w3 ⟨rfl, hb3⟩
          have HB3 := Lib.hid (HB2.out.trans (hb3.mono hg2))
          clear hb3
          go_wp2
          go_ret3
          exact ⟨ret_tv HE.out, by rw [HG.out]; exact HB3.out⟩
    · have hks : k = s.size := by omega
      subst hks
      have HE : Hid (tr = ([], 0, 4)) := Lib.hid (by
        rw [← HTR.out]
        have h := HTI.out
        rw [← HLL.out] at h
        exact h.short HQ.out)
      go_wp2
      go_ret3
      exact ⟨ret_tv HE.out, by rw [HG.out]; exact HB.out⟩
end Go.Proofs.YtnlpahdjiddooaaDoor
