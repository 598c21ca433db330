/- Several texts in one: Leads, Says9, EndsP, Ends, SaysP. -/
import Derived.Test.YtbefndibkpjgaaaTw12
import Derived.Test.YtbefndibkpjgaaaTw3
import Derived.Test.YtbefndibkpjgaaaTw2
import Derived.Test.YtbefndibkpjgaaaTw11
/- From place to place of a word: the document's leads. -/
namespace Go.Proofs.Ytbefndibkpjgaaa
open Go.RowKit
set_option linter.unusedVariables false
set_option linter.unusedSimpArgs false

theorem infoMats : (Try.prog.info? 58).map (fun i => (i.zero, i.size, i.bytes)) = some (some (.slice none 0 0), 1, 24) := by kernel_rfl
/-- A matrix on the stack, and what part it is of. -/
structure MEl where
  a : Option Addr
  c : Nat
  f : Mx
  T : RxT
instance : Inhabited MEl := ⟨⟨none, 0, fun _ _ => false, .empty⟩⟩
def meC (m : Nat) (x : MEl) : List Value := [.slice x.a m x.c]
theorem meC_len (m : Nat) (x : MEl) : (meC m x).length = 1 := rfl
theorem meC_one (m : Nat) (x : MEl) : ∀ u ∈ meC m x, u.oneCell' = true := fun u hu => by simp [meC] at hu; subst hu; rfl
def MEl.ok (x : MEl) (w : World) (m : Nat) (s : ByteArray) : Prop := MatR w x.a m x.f ∧ LM (inT x.T) (LS s) x.f
theorem app_mats {m : Nat} {w : World} {base n : Nat} {v : Value} {xs : List MEl} (hown : w.ownsRow base 58 1 v n (xs.flatMap (meC m))) {a : Option Addr} {k c : Nat} {os : List MEl} (hr : CRow (meC m) 1 w a k os) (hn : n + k ≤ 100000) (hbase : base ≤ w.heap.size)
    (ops : Array Oper) (rest : List Oper) (o : Oper) (act : Act) (Q : Exit → Act → World → Prop) (hg : o.guard = none) (s x : Operand) (ho : o.op = .call { callee := .builtin .append, args := #[s, x], argTypes := #[83, 83] })
    (hs : act.eval s = v) (hx : act.eval x = .slice a k c)
    (h : ∀ v' w', w'.ownsRow base 58 1 v' (n + k) ((xs ++ os).flatMap (meC m)) → w.grownBy w' v.ownBlock → (v'.ownBlock = v.ownBlock ∨ v'.ownBlock = some w.heap.size) →
      wpList Try.prog ops Q rest (act.put o.dst v') w') : wpList Try.prog ops Q (o :: rest) act w := by
  obtain ⟨i0, hii, hz0, hz1, hz2⟩ := info_parts infoMats
  exact wpList_append_row w hg s x 83 ho base 58 i0 _ 24 Try.underlying83 hii hz0 hz1 hz2 rfl (by omega) (meC_len m) (meC_one m) v n (xs.flatMap (meC m)) hs hown a k c os hx hr (by unfold maxLen; omega) (by omega) hbase
    fun v' w' h1 h2 h3 => h v' w' (by rw [List.flatMap_append]; exact h1) h2 h3
theorem app_mat {m : Nat} {w : World} {base n : Nat} {v : Value} {os : List MEl} (hown : w.ownsRow base 58 1 v n (os.flatMap (meC m))) (z : MEl) (hn : n ≤ 100000) (hbase : base ≤ w.heap.size) (H : Nat) (hH : w.heap.size = H)
    (ops : Array Oper) (rest : List Oper) (o : Oper) (a : Act) (Q : Exit → Act → World → Prop) (hg : o.guard = none) (s x : Operand) (ho : o.op = .call { callee := .builtin .append, args := #[s, x], argTypes := #[83, 83] })
    (hs : a.eval s = v) (hx : a.eval x = .slice (some ⟨H, 0, none⟩) 1 1)
    (h : ∀ g cap w', w'.ownsRow base 58 1 (.slice (some ⟨g, 0, none⟩) (n + 1) cap) (n + 1) ((os ++ [z]).flatMap (meC m)) → (w.alloc (.cells #[.slice z.a m z.c] 58)).grownBy w' v.ownBlock → (v.ownBlock = some g ∨ g = H + 1) →
      wpList Try.prog ops Q rest (a.put o.dst (.slice (some ⟨g, 0, none⟩) (n + 1) cap)) w') : wpList Try.prog ops Q (o :: rest) a (w.alloc (.cells #[.slice z.a m z.c] 58)) :=
  app_el (P := Try.prog) (C := meC m) (T := 83) (by decide) (meC_len m) (meC_one m) Try.underlying83 infoMats rfl hown z (by unfold maxLen; omega) (by omega) hbase H hH #[.slice z.a m z.c] rfl ops rest o a Q hg s x ho hs hx h
theorem crow_take {α : Type} {C : α → List Value} {k : Nat} {w : World} {a : Option Addr} {n : Nat} {os : List α} (h : CRow C k w a n os) {d : Nat} (hd : d ≤ n) : CRow C k w a d (os.take d) := by
  obtain ⟨h1, h2, h3⟩ := h
  refine ⟨by rw [List.length_take]; omega, by omega, fun hp => ?_⟩
  obtain ⟨b, off, ha, hb, hc⟩ := h3 (by omega)
  refine ⟨b, off, ha, hb, fun i o hi j v hv => hc i o ?_ j v hv⟩
  rw [List.getElem?_take] at hi
  split at hi
  · exact hi
  · cases hi
/-- The matrix of a call, whatever of it lies where. -/
def mxV (m : Nat) (f : Mx) (v : Value) (x : World) : Prop := ∃ A c, v = .slice A m c ∧ MatR x A m f
theorem mxV_mono (m : Nat) (f : Mx) : ∀ v x y, mxV m f v x → Onto x y → mxV m f v y := fun v x y ⟨A, c, e, h⟩ hE => ⟨A, c, e, h.below hE⟩
theorem st_top {es : List MEl} {b : RxT} {st : List RxT} (h : (es.map MEl.T).reverse = b :: st) : ∃ es' x, es = es' ++ [x] ∧ x.T = b ∧ (es'.map MEl.T).reverse = st := by
  have hne : es ≠ [] := fun e => by rw [e] at h; simp at h
  refine ⟨es.dropLast, es.getLast hne, (List.dropLast_concat_getLast hne).symm, ?_⟩
  have e : es = es.dropLast ++ [es.getLast hne] := (List.dropLast_concat_getLast hne).symm
  rw [e] at h
  simpa using h
def GivL (w : World) (m : Nat) (L : List UInt8 → Prop) (s : ByteArray) (e : Ending) (w' : World) : Prop := ∃ A c f, e = .returned (.slice A m c) ∧ MatR w' A m f ∧ LM L (LS s) f ∧ Below w.heap.size w w'
theorem GivL.mk {w w' : World} {m : Nat} {L : List UInt8 → Prop} {s : ByteArray} {A : Option Addr} {c : Nat} {f : Mx} (h : MatR w' A m f) (hl : LM L (LS s) f) (hb : Below w.heap.size w w') : GivL w m L s (.returned (.slice A m c)) w' := ⟨A, c, f, rfl, h, hl, hb⟩
theorem ev_len {l : List Rx} {st : List RxT} {T : RxT} (h : evT l st = some [T]) : st.length ≤ l.length + 1 := by
  induction l generalizing st with
  | nil => simp only [evT, Option.some.injEq] at h; rw [h]; simp
  | cons r l ih =>
    obtain ⟨st', hw, h2⟩ := ev_cons h
    have := ih h2
    cases hw <;> simp at this ⊢ <;> omega
set_option maxRecDepth 100000 in
set_option maxHeartbeats 8000000 in
theorem leads9_any (w : World) (a : Option Addr) (n c : Nat) (T : RxT) (s : ByteArray) (m : Nat) (hm : (s.size : Int) + 1 = (m : Int)) (hn : s.size ≤ 1000) (h : CRow rxC 5 w a n (post T)) (hnl : n ≤ 600) :
    Calls Try.prog 38 #[.slice a n c, .string s] w fun e w' => GivL w m (inT T) s e w' := by
  have HL := Lib.hid h.1
  have hl2 := h.2.1
  have HH := Lib.hid h
  have HEV := Lib.hid (ev_all T)
  obtain ⟨g, hg⟩ : ∃ g, w.heap.size = g := ⟨_, rfl⟩
  have HG := Lib.hid hg
  have HB0 := Lib.hid (show Below g w (w.alloc (.cells #[] 58)) by rw [← hg]; exact (Below.refl _ _).alloc (Nat.le_refl _) _)
  have HO0 := Lib.hid (own_zero w g 58 1 (by omega))
  have HSA := Lib.hid (fun X => same9_any X s m hm hn)
  have HLS := Lib.hid (LS_len s)
  clear hg h
  go_enter Try.func38, Try.ntmps38
  go_wp2
  go_loopw [5, 6] (fun u i wr => ∃ (j : Nat) (es : List MEl) (gs cap : Nat), j ≤ n ∧ i = .int .i64 (j : Int) ∧ u = .slice (some ⟨gs, 0, none⟩) es.length cap ∧ es.length ≤ cap ∧ wr.ownsRow g 58 1 u es.length (es.flatMap (meC m)) ∧ (∀ x ∈ es, x.ok wr m s) ∧ evT ((post T).drop j) (es.map MEl.T).reverse = some [T] ∧ Below g w wr) (fun _ i _ => n - (intOf i).toNat)
  case atStart => exact ⟨0, [], _, 0, by omega, rfl, rfl, Nat.le_refl _, HO0.out, fun x hx => by simp at hx, by simpa using HEV.out, HB0.out⟩
  case round =>
    obtain ⟨j, es, gs, cap, hj, rfl, rfl, hcap, hown, hok, hev, hb⟩ := hrel
    have HB := Lib.hid hb
    have HOW := Lib.hid hown
    have HOK := Lib.hid hok
    have hgl : g ≤ wr.heap.size := by have := HG.out; have := hb.size; omega
    have hcm : cap ≤ 9223372036854775807 := by
      obtain ⟨A', c', e, _, h9⟩ := own_form hown
      injection e with _ _ e3
      omega
    have hrow := own_row (meC_len m) hown
    have HROW := Lib.hid hrow
    clear hb hown hok HO0 HB0
    by_cases hlt : j < n
    · obtain ⟨b1, o1, r, rfl, hbl, hr, hc⟩ := (HH.out.below (w' := wr) (by rw [HG.out]; exact HB.out)).at_ hlt
      rw [drop_at hr] at hev
      obtain ⟨st', hstep, hev2⟩ := ev_cons hev
      have HEV2 := Lib.hid hev2
      have hlen := ev_len hev
      simp only [List.length_cons, List.length_drop, List.length_reverse, List.length_map] at hlen
      have hle : es.length ≤ 1000 := by have := HL.out; omega
      have HCX : Hid (∀ X, Below wr.heap.size wr X → X.cell? ⟨b1, o1 + j * 5, none⟩ = some (.int .i64 r.k) ∧ X.cell? ⟨b1, o1 + j * 5 + 1, none⟩ = some (.int .u64 (wd r.s 0)) ∧ X.cell? ⟨b1, o1 + j * 5 + 2, none⟩ = some (.int .u64 (wd r.s 1)) ∧ X.cell? ⟨b1, o1 + j * 5 + 3, none⟩ = some (.int .u64 (wd r.s 2)) ∧ X.cell? ⟨b1, o1 + j * 5 + 4, none⟩ = some (.int .u64 (wd r.s 3))) := Lib.hid fun X hX => by
        have kp : ∀ i u, wr.cell? ⟨b1, i, none⟩ = some u → X.cell? ⟨b1, i, none⟩ = some u := fun i u h => (hX.cell (p := ⟨b1, i, none⟩) hbl).trans h
        exact ⟨kp _ _ (hc 0 _ rfl), kp _ _ (hc 1 _ rfl), kp _ _ (hc 2 _ rfl), kp _ _ (hc 3 _ rfl), kp _ _ (hc 4 _ rfl)⟩
      have z0 : (0 : Int) ≤ (j : Int) := by omega
      have z1 : (j : Int) < (n : Int) := by omega
      have c0 := (HCX.out wr (Below.refl _ _)).1
      clear hev hev2 hr hc hlen
      obtain ⟨st0, hst⟩ : ∃ x, (es.map MEl.T).reverse = x := ⟨_, rfl⟩
      rw [hst] at hstep
      cases hstep with
      | set S st =>
        subst hst
        obtain ⟨d, hd⟩ : ∃ d, es.length = d := ⟨_, rfl⟩
        have HD := Lib.hid hd
        rw [hd] at hcap hle HOW HROW ⊢
        have y0 : (d : Int) - 0 = (d : Int) := by omega
        clear hd
        have HOF := Lib.hid (fun X => rof_any 1 X)
        rw [show ofZ 1 = 0 from rfl] at HOF
        dsimp only at HCX c0
        go_wp2_with fail
        refine (HOF.out _).mono ?_
        rintro e w2 ⟨rfl, hw2⟩
        subst hw2
        go_wp2_with fail
        refine (HSA.out _).mono ?_
        rintro e w2 ⟨A2, c2, rfl, hM2, hb2⟩
        have HM2 := Lib.hid hM2
        have HB2 := Lib.hid hb2
        obtain ⟨x0, x1, x2, x3, x4⟩ := HCX.out w2 hb2
        clear hM2 hb2 c0
        have HST := Lib.hid (set9_any w2 S s m hm hn)
        unfold setV at HST
        go_wp2_with fail
        refine HST.out.mono ?_
        rintro e w3 ⟨A3, c3, rfl, hM3, hb3⟩
        have HM3 := Lib.hid hM3
        have HBT := Lib.hid (HB2.out.trans (hb3.mono HB2.out.size))
        clear hM3 hb3 x0 x1 x2 x3 x4
        have hsz3 : wr.heap.size ≤ w3.heap.size := HBT.out.size
        have HR3 := Lib.hid (crow_take (HROW.out.below HBT.out) (d := d) (by omega))
        have HTK : Hid (es.take d = es) := Lib.hid (by rw [← HD.out]; simp)
        rw [HTK.out] at HR3
        have HO3 := Lib.hid (own_zero w3 w3.heap.size 58 1 (Nat.le_refl _))
        have HA3 := Lib.hid (app_mats (m := m) (c := cap) (xs := []) HO3.out (HR3.out.below ((Below.refl w3.heap.size w3).alloc (Nat.le_refl _) (.cells #[] 58))) (by omega) (by simp))
        have z8 : (d : Int) ≤ (cap : Int) := by omega
        have z9 : (0 : Int) ≤ (d : Int) := by omega
        go_wp2_with (first
          | (at_builtin
             refine HA3.out _ _ _ _ _ rfl _ _ rfl rfl rfl ?_
             intro v' w5 hown1 hgrow1 hat1
             rw [List.nil_append, Nat.zero_add] at hown1
             have HO5 := Lib.hid hown1
             have hb5 : Below w3.heap.size w3 w5 := below_grown ((Below.refl w3.heap.size w3).alloc (Nat.le_refl _) (.cells #[] 58)) (by simp) hgrow1 (fun q hq => (own_ge HO3.out hq).1)
             have HB5 := Lib.hid hb5
             have h5s := hb5.size
             obtain ⟨A5, c5, rfl, _, _⟩ := own_form hown1
             have HA5 := Lib.hid (app_mat HO5.out (⟨A3, c3, setM S (LS s), .set S⟩ : MEl) (by omega) hb5.size w5.heap.size rfl)
             clear hown1 hgrow1 hat1 hb5)
          | (at_builtin
             refine HA5.out _ _ _ _ _ rfl _ _ rfl rfl rfl ?_
             intro gg cc w6 hown2 hgrow2 hat2
             have HO6 := Lib.hid hown2
             have HB6 := Lib.hid (below_grown (HB5.out.alloc h5s (.cells #[.slice (A3) m (c3)] 58)) (by simp; omega) hgrow2 (fun q hq => (own_ge HO5.out hq).1))
             clear hown2 hgrow2 hat2))
        go_roundw
        case rel =>
          have hbt : Below wr.heap.size wr w6 := HBT.out.trans (HB6.out.mono hsz3)
          obtain ⟨A', c', e', hle', _⟩ := own_form HO6.out
          injection e' with _ _ e3
          refine ⟨j + 1, es ++ [⟨A3, c3, setM S (LS s), .set S⟩], gg, cc, by omega, by go_num, by simp [HD.out], by simp [HD.out]; omega, by rw [List.length_append, HD.out]; exact own_mono HO6.out (by omega), fun x hx => ?_, ?_, HB.out.trans (hbt.mono hgl)⟩
          · rcases List.mem_append.1 hx with hx | hx
            · obtain ⟨h1, h2⟩ := HOK.out x (hx)
              exact ⟨h1.below hbt, h2⟩
            · rw [List.mem_singleton] at hx
              subst hx
              exact ⟨HM3.out.below HB6.out, lm_set S (LS s)⟩
          · have h9 := HEV2.out
            simpa [HD.out] using h9
        case measure => simp [intOf]; omega
      | empty S st =>
        subst hst
        obtain ⟨d, hd⟩ : ∃ d, es.length = d := ⟨_, rfl⟩
        have HD := Lib.hid hd
        rw [hd] at hcap hle HOW HROW ⊢
        have y0 : (d : Int) - 0 = (d : Int) := by omega
        clear hd
        have HOF := Lib.hid (fun X => rof_any 2 X)
        rw [show ofZ 2 = 0 from rfl] at HOF
        dsimp only at HCX c0
        go_wp2_with fail
        refine (HOF.out _).mono ?_
        rintro e w2 ⟨rfl, hw2⟩
        subst hw2
        go_wp2_with fail
        refine (HSA.out _).mono ?_
        rintro e w2 ⟨A2, c2, rfl, hM2, hb2⟩
        have HM2 := Lib.hid hM2
        have HB2 := Lib.hid hb2
        obtain ⟨x0, x1, x2, x3, x4⟩ := HCX.out w2 hb2
        clear hM2 hb2 c0
        have HBT := Lib.hid HB2.out
        have hsz3 : wr.heap.size ≤ w2.heap.size := HBT.out.size
        have HR3 := Lib.hid (crow_take (HROW.out.below HBT.out) (d := d) (by omega))
        have HTK : Hid (es.take d = es) := Lib.hid (by rw [← HD.out]; simp)
        rw [HTK.out] at HR3
        have HO3 := Lib.hid (own_zero w2 w2.heap.size 58 1 (Nat.le_refl _))
        have HA3 := Lib.hid (app_mats (m := m) (c := cap) (xs := []) HO3.out (HR3.out.below ((Below.refl w2.heap.size w2).alloc (Nat.le_refl _) (.cells #[] 58))) (by omega) (by simp))
        have z8 : (d : Int) ≤ (cap : Int) := by omega
        have z9 : (0 : Int) ≤ (d : Int) := by omega
        go_wp2_with (first
          | (at_builtin
             refine HA3.out _ _ _ _ _ rfl _ _ rfl rfl rfl ?_
             intro v' w5 hown1 hgrow1 hat1
             rw [List.nil_append, Nat.zero_add] at hown1
             have HO5 := Lib.hid hown1
             have hb5 : Below w2.heap.size w2 w5 := below_grown ((Below.refl w2.heap.size w2).alloc (Nat.le_refl _) (.cells #[] 58)) (by simp) hgrow1 (fun q hq => (own_ge HO3.out hq).1)
             have HB5 := Lib.hid hb5
             have h5s := hb5.size
             obtain ⟨A5, c5, rfl, _, _⟩ := own_form hown1
             have HA5 := Lib.hid (app_mat HO5.out (⟨A2, c2, sameM, .empty⟩ : MEl) (by omega) hb5.size w5.heap.size rfl)
             clear hown1 hgrow1 hat1 hb5)
          | (at_builtin
             refine HA5.out _ _ _ _ _ rfl _ _ rfl rfl rfl ?_
             intro gg cc w6 hown2 hgrow2 hat2
             have HO6 := Lib.hid hown2
             have HB6 := Lib.hid (below_grown (HB5.out.alloc h5s (.cells #[.slice (A2) m (c2)] 58)) (by simp; omega) hgrow2 (fun q hq => (own_ge HO5.out hq).1))
             clear hown2 hgrow2 hat2))
        go_roundw
        case rel =>
          have hbt : Below wr.heap.size wr w6 := HBT.out.trans (HB6.out.mono hsz3)
          obtain ⟨A', c', e', hle', _⟩ := own_form HO6.out
          injection e' with _ _ e3
          refine ⟨j + 1, es ++ [⟨A2, c2, sameM, .empty⟩], gg, cc, by omega, by go_num, by simp [HD.out], by simp [HD.out]; omega, by rw [List.length_append, HD.out]; exact own_mono HO6.out (by omega), fun x hx => ?_, ?_, HB.out.trans (hbt.mono hgl)⟩
          · rcases List.mem_append.1 hx with hx | hx
            · obtain ⟨h1, h2⟩ := HOK.out x (hx)
              exact ⟨h1.below hbt, h2⟩
            · rw [List.mem_singleton] at hx
              subst hx
              exact ⟨HM2.out.below HB6.out, lm_empty (LS s)⟩
          · have h9 := HEV2.out
            simpa [HD.out] using h9
        case measure => simp [intOf]; omega
      | cat S a' b' st =>
        obtain ⟨es1, eb, rfl, hTb, hst1⟩ := st_top hst
        obtain ⟨es0, ea, rfl, hTa, hst0⟩ := st_top hst1
        subst hTb hTa hst0
        obtain ⟨d, hd⟩ : ∃ d, es0.length = d := ⟨_, rfl⟩
        have HD := Lib.hid hd
        have e0 : (es0 ++ [ea] ++ [eb]).length = d + 2 := by simp [hd]
        rw [e0] at hcap hle HOW HROW ⊢
        have hOA := HOK.out ea (by simp)
        have hOB := HOK.out eb (by simp)
        have HOA := Lib.hid hOA
        have HOB := Lib.hid hOB
        have HEA : Hid ((es0 ++ [ea] ++ [eb])[d]? = some ea) := Lib.hid (by rw [List.append_assoc, List.getElem?_append_right (by omega), hd, Nat.sub_self]; rfl)
        have HEB : Hid ((es0 ++ [ea] ++ [eb])[d + 1]? = some eb) := Lib.hid (by rw [List.getElem?_append_right (by simp [hd])]; simp [hd])
        have y0 : ((d + 2 : Nat) : Int) - 2 = (d : Int) := by omega
        have y1 : (d : Int) < ((d + 2 : Nat) : Int) := by omega
        have y2 : (d : Int) + 1 < ((d + 2 : Nat) : Int) := by omega
        have y3 : (0 : Int) ≤ (d : Int) := by omega
        have y4 : (d : Int) + 2 - 2 = (d : Int) := by omega
        have y5 : (d : Int) < (d : Int) + 2 := by omega
        have y6 : (d : Int) + 1 < (d : Int) + 2 := by omega
        clear hd e0 hst1 hOA hOB
        have HOF := Lib.hid (fun X => rof_any 3 X)
        rw [show ofZ 3 = 2 from rfl] at HOF
        dsimp only at HCX c0
        go_wp2_with fail
        refine (HOF.out _).mono ?_
        rintro e w2 ⟨rfl, hw2⟩
        subst hw2
        go_wp2_with fail
        refine (HSA.out _).mono ?_
        rintro e w2 ⟨A2, c2, rfl, hM2, hb2⟩
        have HM2 := Lib.hid hM2
        have HB2 := Lib.hid hb2
        obtain ⟨x0, x1, x2, x3, x4⟩ := HCX.out w2 hb2
        clear hM2 hb2 c0
        have cA : w2.cell? ⟨gs, d, none⟩ = some (.slice ea.a m ea.c) := by
          have h9 := ((HROW.out.below HB2.out).2.2 (by omega))
          obtain ⟨b9, o9, e9, _, hc9⟩ := h9
          have h8 := hc9 _ _ HEA.out 0 _ rfl
          simp only [Option.some.injEq, Addr.mk.injEq, and_true] at e9
          obtain ⟨rfl, rfl⟩ := e9
          simpa using h8
        have cB : w2.cell? ⟨gs, d + 1, none⟩ = some (.slice eb.a m eb.c) := by
          have h9 := ((HROW.out.below HB2.out).2.2 (by omega))
          obtain ⟨b9, o9, e9, _, hc9⟩ := h9
          have h8 := hc9 _ _ HEB.out 0 _ rfl
          simp only [Option.some.injEq, Addr.mk.injEq, and_true] at e9
          obtain ⟨rfl, rfl⟩ := e9
          simpa using h8
        have HCL : Hid (∀ X, Onto w2.drew X → Calls Try.prog 57 #[.slice ea.a m ea.c, .slice eb.a m eb.c, .string s] X fun e w' => GivM X m (behM s.size ea.f eb.f) e w') := Lib.hid fun X hX => behind9_any X ea.a eb.a ea.c eb.c ea.f eb.f s m hm hn (HOA.out.1.below (HB2.out.trans ((onto_drew hX).mono HB2.out.size))) (HOB.out.1.below (HB2.out.trans ((onto_drew hX).mono HB2.out.size)))
        have HWK : Hid (IntKind.i64.wrap ((d : Int) + 1) = (d : Int) + 1) := Lib.hid (IntWalk.i64_in _ ⟨by omega, by omega⟩)
        go_wp2_with fail
        refine wp_region_fam_tail_lit (E := Onto) 11 1
          [isV (.slice (some ⟨gs, 0, none⟩) (d + 2) cap),
           isV (.int .i64 (d : Int)),
           isV (.pointer (some ⟨gs, d, none⟩)),
           isV (.slice ea.a m ea.c),
           isV (.slice (some ⟨gs, 0, none⟩) (d + 2) cap),
           isV (.int .i64 (d : Int)),
           isV (.int .i64 ((d : Int) + 1)),
           isV (.pointer (some ⟨gs, d + 1, none⟩)),
           isV (.slice eb.a m eb.c),
           isV (.string s),
           mxV m (behM s.size ea.f eb.f)]
          [some 43, some 44, some 45, some 46, some 47, some 48, some 49, some 50, some 51, some 52, some 53] #[true, true, true, true, true, true, true, true, true, true, true, false] (by kernel_rfl) rfl (by kernel_rfl) (by kernel_rfl) rfl rfl rfl Onto.trans Onto.refl ?monoC ?obC ?qC
        case monoC => exact ⟨isV_mono _ _, isV_mono _ _, isV_mono _ _, isV_mono _ _, isV_mono _ _, isV_mono _ _, isV_mono _ _, isV_mono _ _, isV_mono _ _, isV_mono _ _, mxV_mono _ _, trivial⟩
        case obC =>
          refine Obs.cons (j := 1) rfl ?_ ?_
          · refine Ob.free [(5, none)] (by kernel_rfl) (isV (.slice (some ⟨gs, 0, none⟩) (d + 2) cap)) rfl rfl (fun a X hE hL => ?_)
            simp [Seen, slotAt] at hL
            have h5 := hL
            rw [relAt_eq]
            go_simp
            exact ⟨Onto.refl _, rfl⟩
          refine Obs.cons (j := 2) rfl ?_ ?_
          · refine Ob.free [(7, none)] (by kernel_rfl) (isV (.int .i64 (d : Int))) rfl rfl (fun a X hE hL => ?_)
            simp [Seen, slotAt] at hL
            have h7 := hL
            rw [relAt_eq]
            go_simp
            exact ⟨Onto.refl _, rfl⟩
          refine Obs.cons (j := 3) rfl ?_ ?_
          · refine Ob.free [(43, some 0), (44, some 1)] (by kernel_rfl) (isV (.pointer (some ⟨gs, d, none⟩))) rfl rfl (fun a X hE hL => ?_)
            simp [Seen, slotAt, famV, isV] at hL
            obtain ⟨h43, h44⟩ := hL
            rw [relAt_eq]
            go_simp
            exact ⟨Onto.refl _, rfl⟩
          refine Obs.cons (j := 4) rfl ?_ ?_
          · refine Ob.free [(45, some 2)] (by kernel_rfl) (isV (.slice ea.a m ea.c)) rfl rfl (fun a X hE hL => ?_)
            simp [Seen, slotAt, famV, isV] at hL
            have h45 := hL
            rw [relAt_eq]
            have f0 := keeps hE _ _ cA
            go_simp
            exact ⟨Onto.refl _, rfl⟩
          refine Obs.cons (j := 5) rfl ?_ ?_
          · refine Ob.free [(5, none)] (by kernel_rfl) (isV (.slice (some ⟨gs, 0, none⟩) (d + 2) cap)) rfl rfl (fun a X hE hL => ?_)
            simp [Seen, slotAt] at hL
            have h5 := hL
            rw [relAt_eq]
            go_simp
            exact ⟨Onto.refl _, rfl⟩
          refine Obs.cons (j := 6) rfl ?_ ?_
          · refine Ob.free [(7, none)] (by kernel_rfl) (isV (.int .i64 (d : Int))) rfl rfl (fun a X hE hL => ?_)
            simp [Seen, slotAt] at hL
            have h7 := hL
            rw [relAt_eq]
            go_simp
            exact ⟨Onto.refl _, rfl⟩
          refine Obs.cons (j := 7) rfl ?_ ?_
          · refine Ob.free [(48, some 5)] (by kernel_rfl) (isV (.int .i64 ((d : Int) + 1))) rfl rfl (fun a X hE hL => ?_)
            simp [Seen, slotAt, famV, isV] at hL
            have h48 := hL
            rw [relAt_eq]
            go_simp
            exact ⟨Onto.refl _, congrArg (Value.int .i64) HWK.out⟩
          refine Obs.cons (j := 8) rfl ?_ ?_
          · refine Ob.free [(47, some 4), (49, some 6)] (by kernel_rfl) (isV (.pointer (some ⟨gs, d + 1, none⟩))) rfl rfl (fun a X hE hL => ?_)
            simp [Seen, slotAt, famV, isV] at hL
            obtain ⟨h47, h49⟩ := hL
            rw [relAt_eq]
            go_simp
            exact ⟨Onto.refl _, rfl⟩
          refine Obs.cons (j := 9) rfl ?_ ?_
          · refine Ob.free [(50, some 7)] (by kernel_rfl) (isV (.slice eb.a m eb.c)) rfl rfl (fun a X hE hL => ?_)
            simp [Seen, slotAt, famV, isV] at hL
            have h50 := hL
            rw [relAt_eq]
            have f0 := keeps hE _ _ cB
            go_simp
            exact ⟨Onto.refl _, rfl⟩
          refine Obs.cons (j := 10) rfl ?_ ?_
          · refine Ob.free [(1, none)] (by kernel_rfl) (isV (.string s)) rfl rfl (fun a X hE hL => ?_)
            simp [Seen, slotAt] at hL
            have h1 := hL
            rw [relAt_eq]
            go_simp
            exact ⟨Onto.refl _, rfl⟩
          refine Obs.cons (j := 11) rfl ?_ ?_
          · refine Ob.free [(46, some 3), (51, some 8), (52, some 9)] (by kernel_rfl) (mxV m (behM s.size ea.f eb.f)) rfl rfl (fun a X hE hL => ?_)
            simp [Seen, slotAt, famV, isV] at hL
            obtain ⟨h46, h51, h52⟩ := hL
            rw [relAt_eq]
            go_simp
            rw [relUpon_enter]
            go_at_call 57
            refine (HCL.out X hE).mono ?_
            rintro e Y ⟨A, c, rfl, hM, hY⟩
            exact ⟨_, rfl, hY, A, c, rfl, hM⟩
          exact trivial
        case qC =>
          intro x w3 hE hV
          simp [AllV, famV, isV] at hV
          obtain ⟨-, -, -, -, -, -, -, -, -, -, h53⟩ := hV
          simp only [puts, Act.put, List.setIfInBounds_toArray, List.set_cons_zero, List.set_cons_succ]
          generalize x 43 = y43
          generalize x 44 = y44
          generalize x 45 = y45
          generalize x 46 = y46
          generalize x 47 = y47
          generalize x 48 = y48
          generalize x 49 = y49
          generalize x 50 = y50
          generalize x 51 = y51
          generalize x 52 = y52
          generalize x 53 = y53 at h53 ⊢
          have hb3 := onto_drew hE
          obtain ⟨A3, c3, rfl, hM3⟩ := h53
          have HM3 := Lib.hid hM3
          have HBT := Lib.hid (HB2.out.trans (hb3.mono HB2.out.size))
          clear hE hM3 hb3
          refine wpAny_take (i := 11) (v := .slice A3 m c3) rfl (by kernel_rfl) (by kernel_rfl) (by kernel_rfl) (fun _ _ _ h => h) (Or.inl ⟨by rfl, fun X => ?_⟩) ?_
          · go_simp
          try simp only [Act.put, List.getElem_toArray, List.getElem_cons_succ, List.getElem_cons_zero, List.setIfInBounds_toArray, List.set_cons_zero, List.set_cons_succ]
          refine wpAny_done (by kernel_rfl) ?_ _
          have hsz3 : wr.heap.size ≤ w3.heap.size := HBT.out.size
          have HR3 := Lib.hid (crow_take (HROW.out.below HBT.out) (d := d) (by omega))
          have HTK : Hid ((es0 ++ [ea] ++ [eb]).take d = es0) := Lib.hid (by rw [← HD.out]; simp)
          rw [HTK.out] at HR3
          have HO3 := Lib.hid (own_zero w3 w3.heap.size 58 1 (Nat.le_refl _))
          have HA3 := Lib.hid (app_mats (m := m) (c := cap) (xs := []) HO3.out (HR3.out.below ((Below.refl w3.heap.size w3).alloc (Nat.le_refl _) (.cells #[] 58))) (by omega) (by simp))
          have z8 : (d : Int) ≤ (cap : Int) := by omega
          have z9 : (0 : Int) ≤ (d : Int) := by omega
          go_wp2_with (first
            | (at_builtin
               refine HA3.out _ _ _ _ _ rfl _ _ rfl rfl rfl ?_
               intro v' w5 hown1 hgrow1 hat1
               rw [List.nil_append, Nat.zero_add] at hown1
               have HO5 := Lib.hid hown1
               have hb5 : Below w3.heap.size w3 w5 := below_grown ((Below.refl w3.heap.size w3).alloc (Nat.le_refl _) (.cells #[] 58)) (by simp) hgrow1 (fun q hq => (own_ge HO3.out hq).1)
               have HB5 := Lib.hid hb5
               have h5s := hb5.size
               obtain ⟨A5, c5, rfl, _, _⟩ := own_form hown1
               have HA5 := Lib.hid (app_mat HO5.out (⟨A3, c3, behM s.size ea.f eb.f, .cat ea.T eb.T⟩ : MEl) (by omega) hb5.size w5.heap.size rfl)
               clear hown1 hgrow1 hat1 hb5)
            | (at_builtin
               refine HA5.out _ _ _ _ _ rfl _ _ rfl rfl rfl ?_
               intro gg cc w6 hown2 hgrow2 hat2
               have HO6 := Lib.hid hown2
               have HB6 := Lib.hid (below_grown (HB5.out.alloc h5s (.cells #[.slice (A3) m (c3)] 58)) (by simp; omega) hgrow2 (fun q hq => (own_ge HO5.out hq).1))
               clear hown2 hgrow2 hat2))
          go_roundw
          case rel =>
            have hbt : Below wr.heap.size wr w6 := HBT.out.trans (HB6.out.mono hsz3)
            obtain ⟨A', c', e', hle', _⟩ := own_form HO6.out
            injection e' with _ _ e3
            refine ⟨j + 1, es0 ++ [⟨A3, c3, behM s.size ea.f eb.f, .cat ea.T eb.T⟩], gg, cc, by omega, by go_num, by simp [HD.out], by simp [HD.out]; omega, by rw [List.length_append, HD.out]; exact own_mono HO6.out (by omega), fun x hx => ?_, ?_, HB.out.trans (hbt.mono hgl)⟩
            · rcases List.mem_append.1 hx with hx | hx
              · obtain ⟨h1, h2⟩ := HOK.out x (List.mem_append_left _ (List.mem_append_left _ hx))
                exact ⟨h1.below hbt, h2⟩
              · rw [List.mem_singleton] at hx
                subst hx
                exact ⟨HM3.out.below HB6.out, by have h9 := lm_cat HOA.out.2 HOB.out.2; rwa [HLS.out] at h9⟩
            · have h9 := HEV2.out
              simpa [HD.out] using h9
          case measure => simp [intOf]; omega
      | alt S a' b' st =>
        obtain ⟨es1, eb, rfl, hTb, hst1⟩ := st_top hst
        obtain ⟨es0, ea, rfl, hTa, hst0⟩ := st_top hst1
        subst hTb hTa hst0
        obtain ⟨d, hd⟩ : ∃ d, es0.length = d := ⟨_, rfl⟩
        have HD := Lib.hid hd
        have e0 : (es0 ++ [ea] ++ [eb]).length = d + 2 := by simp [hd]
        rw [e0] at hcap hle HOW HROW ⊢
        have hOA := HOK.out ea (by simp)
        have hOB := HOK.out eb (by simp)
        have HOA := Lib.hid hOA
        have HOB := Lib.hid hOB
        have HEA : Hid ((es0 ++ [ea] ++ [eb])[d]? = some ea) := Lib.hid (by rw [List.append_assoc, List.getElem?_append_right (by omega), hd, Nat.sub_self]; rfl)
        have HEB : Hid ((es0 ++ [ea] ++ [eb])[d + 1]? = some eb) := Lib.hid (by rw [List.getElem?_append_right (by simp [hd])]; simp [hd])
        have y0 : ((d + 2 : Nat) : Int) - 2 = (d : Int) := by omega
        have y1 : (d : Int) < ((d + 2 : Nat) : Int) := by omega
        have y2 : (d : Int) + 1 < ((d + 2 : Nat) : Int) := by omega
        have y3 : (0 : Int) ≤ (d : Int) := by omega
        have y4 : (d : Int) + 2 - 2 = (d : Int) := by omega
        have y5 : (d : Int) < (d : Int) + 2 := by omega
        have y6 : (d : Int) + 1 < (d : Int) + 2 := by omega
        clear hd e0 hst1 hOA hOB
        have HOF := Lib.hid (fun X => rof_any 4 X)
        rw [show ofZ 4 = 2 from rfl] at HOF
        dsimp only at HCX c0
        go_wp2_with fail
        refine (HOF.out _).mono ?_
        rintro e w2 ⟨rfl, hw2⟩
        subst hw2
        go_wp2_with fail
        refine (HSA.out _).mono ?_
        rintro e w2 ⟨A2, c2, rfl, hM2, hb2⟩
        have HM2 := Lib.hid hM2
        have HB2 := Lib.hid hb2
        obtain ⟨x0, x1, x2, x3, x4⟩ := HCX.out w2 hb2
        clear hM2 hb2 c0
        have cA : w2.cell? ⟨gs, d, none⟩ = some (.slice ea.a m ea.c) := by
          have h9 := ((HROW.out.below HB2.out).2.2 (by omega))
          obtain ⟨b9, o9, e9, _, hc9⟩ := h9
          have h8 := hc9 _ _ HEA.out 0 _ rfl
          simp only [Option.some.injEq, Addr.mk.injEq, and_true] at e9
          obtain ⟨rfl, rfl⟩ := e9
          simpa using h8
        have cB : w2.cell? ⟨gs, d + 1, none⟩ = some (.slice eb.a m eb.c) := by
          have h9 := ((HROW.out.below HB2.out).2.2 (by omega))
          obtain ⟨b9, o9, e9, _, hc9⟩ := h9
          have h8 := hc9 _ _ HEB.out 0 _ rfl
          simp only [Option.some.injEq, Addr.mk.injEq, and_true] at e9
          obtain ⟨rfl, rfl⟩ := e9
          simpa using h8
        have HCL : Hid (∀ X, Onto w2.drew X → Calls Try.prog 58 #[.slice ea.a m ea.c, .slice eb.a m eb.c, .string s] X fun e w' => GivM X m (bothM ea.f eb.f) e w') := Lib.hid fun X hX => both9_any X ea.a eb.a ea.c eb.c ea.f eb.f s m hm hn (HOA.out.1.below (HB2.out.trans ((onto_drew hX).mono HB2.out.size))) (HOB.out.1.below (HB2.out.trans ((onto_drew hX).mono HB2.out.size)))
        have HWK : Hid (IntKind.i64.wrap ((d : Int) + 1) = (d : Int) + 1) := Lib.hid (IntWalk.i64_in _ ⟨by omega, by omega⟩)
        go_wp2_with fail
        refine wp_region_fam_tail_lit (E := Onto) 11 1
          [isV (.slice (some ⟨gs, 0, none⟩) (d + 2) cap),
           isV (.int .i64 (d : Int)),
           isV (.pointer (some ⟨gs, d, none⟩)),
           isV (.slice ea.a m ea.c),
           isV (.slice (some ⟨gs, 0, none⟩) (d + 2) cap),
           isV (.int .i64 (d : Int)),
           isV (.int .i64 ((d : Int) + 1)),
           isV (.pointer (some ⟨gs, d + 1, none⟩)),
           isV (.slice eb.a m eb.c),
           isV (.string s),
           mxV m (bothM ea.f eb.f)]
          [some 56, some 57, some 58, some 59, some 60, some 61, some 62, some 63, some 64, some 65, some 66] #[true, true, true, true, true, true, true, true, true, true, true, false] (by kernel_rfl) rfl (by kernel_rfl) (by kernel_rfl) rfl rfl rfl Onto.trans Onto.refl ?monoD ?obD ?qD
        case monoD => exact ⟨isV_mono _ _, isV_mono _ _, isV_mono _ _, isV_mono _ _, isV_mono _ _, isV_mono _ _, isV_mono _ _, isV_mono _ _, isV_mono _ _, isV_mono _ _, mxV_mono _ _, trivial⟩
        case obD =>
          refine Obs.cons (j := 1) rfl ?_ ?_
          · refine Ob.free [(5, none)] (by kernel_rfl) (isV (.slice (some ⟨gs, 0, none⟩) (d + 2) cap)) rfl rfl (fun a X hE hL => ?_)
            simp [Seen, slotAt] at hL
            have h5 := hL
            rw [relAt_eq]
            go_simp
            exact ⟨Onto.refl _, rfl⟩
          refine Obs.cons (j := 2) rfl ?_ ?_
          · refine Ob.free [(7, none)] (by kernel_rfl) (isV (.int .i64 (d : Int))) rfl rfl (fun a X hE hL => ?_)
            simp [Seen, slotAt] at hL
            have h7 := hL
            rw [relAt_eq]
            go_simp
            exact ⟨Onto.refl _, rfl⟩
          refine Obs.cons (j := 3) rfl ?_ ?_
          · refine Ob.free [(56, some 0), (57, some 1)] (by kernel_rfl) (isV (.pointer (some ⟨gs, d, none⟩))) rfl rfl (fun a X hE hL => ?_)
            simp [Seen, slotAt, famV, isV] at hL
            obtain ⟨h56, h57⟩ := hL
            rw [relAt_eq]
            go_simp
            exact ⟨Onto.refl _, rfl⟩
          refine Obs.cons (j := 4) rfl ?_ ?_
          · refine Ob.free [(58, some 2)] (by kernel_rfl) (isV (.slice ea.a m ea.c)) rfl rfl (fun a X hE hL => ?_)
            simp [Seen, slotAt, famV, isV] at hL
            have h58 := hL
            rw [relAt_eq]
            have f0 := keeps hE _ _ cA
            go_simp
            exact ⟨Onto.refl _, rfl⟩
          refine Obs.cons (j := 5) rfl ?_ ?_
          · refine Ob.free [(5, none)] (by kernel_rfl) (isV (.slice (some ⟨gs, 0, none⟩) (d + 2) cap)) rfl rfl (fun a X hE hL => ?_)
            simp [Seen, slotAt] at hL
            have h5 := hL
            rw [relAt_eq]
            go_simp
            exact ⟨Onto.refl _, rfl⟩
          refine Obs.cons (j := 6) rfl ?_ ?_
          · refine Ob.free [(7, none)] (by kernel_rfl) (isV (.int .i64 (d : Int))) rfl rfl (fun a X hE hL => ?_)
            simp [Seen, slotAt] at hL
            have h7 := hL
            rw [relAt_eq]
            go_simp
            exact ⟨Onto.refl _, rfl⟩
          refine Obs.cons (j := 7) rfl ?_ ?_
          · refine Ob.free [(61, some 5)] (by kernel_rfl) (isV (.int .i64 ((d : Int) + 1))) rfl rfl (fun a X hE hL => ?_)
            simp [Seen, slotAt, famV, isV] at hL
            have h61 := hL
            rw [relAt_eq]
            go_simp
            exact ⟨Onto.refl _, congrArg (Value.int .i64) HWK.out⟩
          refine Obs.cons (j := 8) rfl ?_ ?_
          · refine Ob.free [(60, some 4), (62, some 6)] (by kernel_rfl) (isV (.pointer (some ⟨gs, d + 1, none⟩))) rfl rfl (fun a X hE hL => ?_)
            simp [Seen, slotAt, famV, isV] at hL
            obtain ⟨h60, h62⟩ := hL
            rw [relAt_eq]
            go_simp
            exact ⟨Onto.refl _, rfl⟩
          refine Obs.cons (j := 9) rfl ?_ ?_
          · refine Ob.free [(63, some 7)] (by kernel_rfl) (isV (.slice eb.a m eb.c)) rfl rfl (fun a X hE hL => ?_)
            simp [Seen, slotAt, famV, isV] at hL
            have h63 := hL
            rw [relAt_eq]
            have f0 := keeps hE _ _ cB
            go_simp
            exact ⟨Onto.refl _, rfl⟩
          refine Obs.cons (j := 10) rfl ?_ ?_
          · refine Ob.free [(1, none)] (by kernel_rfl) (isV (.string s)) rfl rfl (fun a X hE hL => ?_)
            simp [Seen, slotAt] at hL
            have h1 := hL
            rw [relAt_eq]
            go_simp
            exact ⟨Onto.refl _, rfl⟩
          refine Obs.cons (j := 11) rfl ?_ ?_
          · refine Ob.free [(59, some 3), (64, some 8), (65, some 9)] (by kernel_rfl) (mxV m (bothM ea.f eb.f)) rfl rfl (fun a X hE hL => ?_)
            simp [Seen, slotAt, famV, isV] at hL
            obtain ⟨h59, h64, h65⟩ := hL
            rw [relAt_eq]
            go_simp
            rw [relUpon_enter]
            go_at_call 58
            refine (HCL.out X hE).mono ?_
            rintro e Y ⟨A, c, rfl, hM, hY⟩
            exact ⟨_, rfl, hY, A, c, rfl, hM⟩
          exact trivial
        case qD =>
          intro x w3 hE hV
          simp [AllV, famV, isV] at hV
          obtain ⟨-, -, -, -, -, -, -, -, -, -, h66⟩ := hV
          simp only [puts, Act.put, List.setIfInBounds_toArray, List.set_cons_zero, List.set_cons_succ]
          generalize x 56 = y56
          generalize x 57 = y57
          generalize x 58 = y58
          generalize x 59 = y59
          generalize x 60 = y60
          generalize x 61 = y61
          generalize x 62 = y62
          generalize x 63 = y63
          generalize x 64 = y64
          generalize x 65 = y65
          generalize x 66 = y66 at h66 ⊢
          have hb3 := onto_drew hE
          obtain ⟨A3, c3, rfl, hM3⟩ := h66
          have HM3 := Lib.hid hM3
          have HBT := Lib.hid (HB2.out.trans (hb3.mono HB2.out.size))
          clear hE hM3 hb3
          refine wpAny_take (i := 11) (v := .slice A3 m c3) rfl (by kernel_rfl) (by kernel_rfl) (by kernel_rfl) (fun _ _ _ h => h) (Or.inl ⟨by rfl, fun X => ?_⟩) ?_
          · go_simp
          try simp only [Act.put, List.getElem_toArray, List.getElem_cons_succ, List.getElem_cons_zero, List.setIfInBounds_toArray, List.set_cons_zero, List.set_cons_succ]
          refine wpAny_done (by kernel_rfl) ?_ _
          have hsz3 : wr.heap.size ≤ w3.heap.size := HBT.out.size
          have HR3 := Lib.hid (crow_take (HROW.out.below HBT.out) (d := d) (by omega))
          have HTK : Hid ((es0 ++ [ea] ++ [eb]).take d = es0) := Lib.hid (by rw [← HD.out]; simp)
          rw [HTK.out] at HR3
          have HO3 := Lib.hid (own_zero w3 w3.heap.size 58 1 (Nat.le_refl _))
          have HA3 := Lib.hid (app_mats (m := m) (c := cap) (xs := []) HO3.out (HR3.out.below ((Below.refl w3.heap.size w3).alloc (Nat.le_refl _) (.cells #[] 58))) (by omega) (by simp))
          have z8 : (d : Int) ≤ (cap : Int) := by omega
          have z9 : (0 : Int) ≤ (d : Int) := by omega
          go_wp2_with (first
            | (at_builtin
               refine HA3.out _ _ _ _ _ rfl _ _ rfl rfl rfl ?_
               intro v' w5 hown1 hgrow1 hat1
               rw [List.nil_append, Nat.zero_add] at hown1
               have HO5 := Lib.hid hown1
               have hb5 : Below w3.heap.size w3 w5 := below_grown ((Below.refl w3.heap.size w3).alloc (Nat.le_refl _) (.cells #[] 58)) (by simp) hgrow1 (fun q hq => (own_ge HO3.out hq).1)
               have HB5 := Lib.hid hb5
               have h5s := hb5.size
               obtain ⟨A5, c5, rfl, _, _⟩ := own_form hown1
               have HA5 := Lib.hid (app_mat HO5.out (⟨A3, c3, bothM ea.f eb.f, .alt ea.T eb.T⟩ : MEl) (by omega) hb5.size w5.heap.size rfl)
               clear hown1 hgrow1 hat1 hb5)
            | (at_builtin
               refine HA5.out _ _ _ _ _ rfl _ _ rfl rfl rfl ?_
               intro gg cc w6 hown2 hgrow2 hat2
               have HO6 := Lib.hid hown2
               have HB6 := Lib.hid (below_grown (HB5.out.alloc h5s (.cells #[.slice (A3) m (c3)] 58)) (by simp; omega) hgrow2 (fun q hq => (own_ge HO5.out hq).1))
               clear hown2 hgrow2 hat2))
          go_roundw
          case rel =>
            have hbt : Below wr.heap.size wr w6 := HBT.out.trans (HB6.out.mono hsz3)
            obtain ⟨A', c', e', hle', _⟩ := own_form HO6.out
            injection e' with _ _ e3
            refine ⟨j + 1, es0 ++ [⟨A3, c3, bothM ea.f eb.f, .alt ea.T eb.T⟩], gg, cc, by omega, by go_num, by simp [HD.out], by simp [HD.out]; omega, by rw [List.length_append, HD.out]; exact own_mono HO6.out (by omega), fun x hx => ?_, ?_, HB.out.trans (hbt.mono hgl)⟩
            · rcases List.mem_append.1 hx with hx | hx
              · obtain ⟨h1, h2⟩ := HOK.out x (List.mem_append_left _ (List.mem_append_left _ hx))
                exact ⟨h1.below hbt, h2⟩
              · rw [List.mem_singleton] at hx
                subst hx
                exact ⟨HM3.out.below HB6.out, lm_alt HOA.out.2 HOB.out.2⟩
            · have h9 := HEV2.out
              simpa [HD.out] using h9
          case measure => simp [intOf]; omega
      | star S a' st =>
        obtain ⟨es0, ea, rfl, hTa, hst0⟩ := st_top hst
        subst hTa hst0
        obtain ⟨d, hd⟩ : ∃ d, es0.length = d := ⟨_, rfl⟩
        have HD := Lib.hid hd
        have e0 : (es0 ++ [ea]).length = d + 1 := by simp [hd]
        rw [e0] at hcap hle HOW HROW ⊢
        have hOA := HOK.out ea (by simp)
        have HOA := Lib.hid hOA
        have HEA : Hid ((es0 ++ [ea])[d]? = some ea) := Lib.hid (by rw [List.getElem?_append_right (by omega), hd, Nat.sub_self]; rfl)
        have y0 : ((d + 1 : Nat) : Int) - 1 = (d : Int) := by omega
        have y1 : (d : Int) < ((d + 1 : Nat) : Int) := by omega
        have y3 : (0 : Int) ≤ (d : Int) := by omega
        have y4 : (d : Int) + 1 - 1 = (d : Int) := by omega
        have y5 : (d : Int) < (d : Int) + 1 := by omega
        clear hd e0 hOA
        have HOF := Lib.hid (fun X => rof_any 5 X)
        rw [show ofZ 5 = 1 from rfl] at HOF
        dsimp only at HCX c0
        go_wp2_with fail
        refine (HOF.out _).mono ?_
        rintro e w2 ⟨rfl, hw2⟩
        subst hw2
        go_wp2_with fail
        refine (HSA.out _).mono ?_
        rintro e w2 ⟨A2, c2, rfl, hM2, hb2⟩
        have HM2 := Lib.hid hM2
        have HB2 := Lib.hid hb2
        obtain ⟨x0, x1, x2, x3, x4⟩ := HCX.out w2 hb2
        clear hM2 hb2 c0
        have cA : w2.cell? ⟨gs, d, none⟩ = some (.slice ea.a m ea.c) := by
          have h9 := ((HROW.out.below HB2.out).2.2 (by omega))
          obtain ⟨b9, o9, e9, _, hc9⟩ := h9
          have h8 := hc9 _ _ HEA.out 0 _ rfl
          simp only [Option.some.injEq, Addr.mk.injEq, and_true] at e9
          obtain ⟨rfl, rfl⟩ := e9
          simpa using h8
        have HMA := Lib.hid (HOA.out.1.below HB2.out)
        have HAG := Lib.hid (again9_any w2 ea.a ea.c ea.f s m hm hn HMA.out)
        go_wp2_with fail
        refine HAG.out.mono ?_
        rintro e w3 ⟨r9, hr9, A4, c4, rfl, hM4, hb3⟩
        have HR9 := Lib.hid hr9
        have HM4 := Lib.hid hM4
        have HB3 := Lib.hid (HB2.out.trans (hb3.mono HB2.out.size))
        have HBO := Lib.hid (both9_any w3 A2 A4 c2 c4 sameM (agM s.size ea.f r9) s m hm hn (HM2.out.below hb3) hM4)
        clear hr9 hM4 hb3
        go_wp2_with fail
        refine HBO.out.mono ?_
        rintro e w9 ⟨A3, c3, rfl, hM3, hb9⟩
        have HM3 := Lib.hid hM3
        have HBT := Lib.hid (HB3.out.trans (hb9.mono HB3.out.size))
        clear hM3 hb9 cA
        have hsz3 : wr.heap.size ≤ w9.heap.size := HBT.out.size
        have HR3 := Lib.hid (crow_take (HROW.out.below HBT.out) (d := d) (by omega))
        have HTK : Hid ((es0 ++ [ea]).take d = es0) := Lib.hid (by rw [← HD.out]; simp)
        rw [HTK.out] at HR3
        have HO3 := Lib.hid (own_zero w9 w9.heap.size 58 1 (Nat.le_refl _))
        have HA3 := Lib.hid (app_mats (m := m) (c := cap) (xs := []) HO3.out (HR3.out.below ((Below.refl w9.heap.size w9).alloc (Nat.le_refl _) (.cells #[] 58))) (by omega) (by simp))
        have z8 : (d : Int) ≤ (cap : Int) := by omega
        have z9 : (0 : Int) ≤ (d : Int) := by omega
        go_wp2_with (first
          | (at_builtin
             refine HA3.out _ _ _ _ _ rfl _ _ rfl rfl rfl ?_
             intro v' w5 hown1 hgrow1 hat1
             rw [List.nil_append, Nat.zero_add] at hown1
             have HO5 := Lib.hid hown1
             have hb5 : Below w9.heap.size w9 w5 := below_grown ((Below.refl w9.heap.size w9).alloc (Nat.le_refl _) (.cells #[] 58)) (by simp) hgrow1 (fun q hq => (own_ge HO3.out hq).1)
             have HB5 := Lib.hid hb5
             have h5s := hb5.size
             obtain ⟨A5, c5, rfl, _, _⟩ := own_form hown1
             have HA5 := Lib.hid (app_mat HO5.out (⟨A3, c3, bothM sameM (agM s.size ea.f r9), .star ea.T⟩ : MEl) (by omega) hb5.size w5.heap.size rfl)
             clear hown1 hgrow1 hat1 hb5)
          | (at_builtin
             refine HA5.out _ _ _ _ _ rfl _ _ rfl rfl rfl ?_
             intro gg cc w6 hown2 hgrow2 hat2
             have HO6 := Lib.hid hown2
             have HB6 := Lib.hid (below_grown (HB5.out.alloc h5s (.cells #[.slice (A3) m (c3)] 58)) (by simp; omega) hgrow2 (fun q hq => (own_ge HO5.out hq).1))
             clear hown2 hgrow2 hat2))
        go_roundw
        case rel =>
          have hbt : Below wr.heap.size wr w6 := HBT.out.trans (HB6.out.mono hsz3)
          obtain ⟨A', c', e', hle', _⟩ := own_form HO6.out
          injection e' with _ _ e3
          refine ⟨j + 1, es0 ++ [⟨A3, c3, bothM sameM (agM s.size ea.f r9), .star ea.T⟩], gg, cc, by omega, by go_num, by simp [HD.out], by simp [HD.out]; omega, by rw [List.length_append, HD.out]; exact own_mono HO6.out (by omega), fun x hx => ?_, ?_, HB.out.trans (hbt.mono hgl)⟩
          · rcases List.mem_append.1 hx with hx | hx
            · obtain ⟨h1, h2⟩ := HOK.out x (List.mem_append_left _ hx)
              exact ⟨h1.below hbt, h2⟩
            · rw [List.mem_singleton] at hx
              subst hx
              exact ⟨HM3.out.below HB6.out, by have h9 := lm_star HOA.out.2 (r := r9) (by rw [HLS.out]; exact HR9.out); rwa [HLS.out] at h9⟩
          · have h9 := HEV2.out
            simpa [HD.out] using h9
        case measure => simp [intOf]; omega
      | plus S a' st =>
        obtain ⟨es0, ea, rfl, hTa, hst0⟩ := st_top hst
        subst hTa hst0
        obtain ⟨d, hd⟩ : ∃ d, es0.length = d := ⟨_, rfl⟩
        have HD := Lib.hid hd
        have e0 : (es0 ++ [ea]).length = d + 1 := by simp [hd]
        rw [e0] at hcap hle HOW HROW ⊢
        have hOA := HOK.out ea (by simp)
        have HOA := Lib.hid hOA
        have HEA : Hid ((es0 ++ [ea])[d]? = some ea) := Lib.hid (by rw [List.getElem?_append_right (by omega), hd, Nat.sub_self]; rfl)
        have y0 : ((d + 1 : Nat) : Int) - 1 = (d : Int) := by omega
        have y1 : (d : Int) < ((d + 1 : Nat) : Int) := by omega
        have y3 : (0 : Int) ≤ (d : Int) := by omega
        have y4 : (d : Int) + 1 - 1 = (d : Int) := by omega
        have y5 : (d : Int) < (d : Int) + 1 := by omega
        clear hd e0 hOA
        have HOF := Lib.hid (fun X => rof_any 6 X)
        rw [show ofZ 6 = 1 from rfl] at HOF
        dsimp only at HCX c0
        go_wp2_with fail
        refine (HOF.out _).mono ?_
        rintro e w2 ⟨rfl, hw2⟩
        subst hw2
        go_wp2_with fail
        refine (HSA.out _).mono ?_
        rintro e w2 ⟨A2, c2, rfl, hM2, hb2⟩
        have HM2 := Lib.hid hM2
        have HB2 := Lib.hid hb2
        obtain ⟨x0, x1, x2, x3, x4⟩ := HCX.out w2 hb2
        clear hM2 hb2 c0
        have cA : w2.cell? ⟨gs, d, none⟩ = some (.slice ea.a m ea.c) := by
          have h9 := ((HROW.out.below HB2.out).2.2 (by omega))
          obtain ⟨b9, o9, e9, _, hc9⟩ := h9
          have h8 := hc9 _ _ HEA.out 0 _ rfl
          simp only [Option.some.injEq, Addr.mk.injEq, and_true] at e9
          obtain ⟨rfl, rfl⟩ := e9
          simpa using h8
        have HMA := Lib.hid (HOA.out.1.below HB2.out)
        have HAG := Lib.hid (again9_any w2 ea.a ea.c ea.f s m hm hn HMA.out)
        go_wp2_with fail
        refine HAG.out.mono ?_
        rintro e w9 ⟨r9, hr9, A3, c3, rfl, hM3, hb3⟩
        have HR9 := Lib.hid hr9
        have HM3 := Lib.hid hM3
        have HBT := Lib.hid (HB2.out.trans (hb3.mono HB2.out.size))
        clear hr9 hM3 hb3 cA
        have hsz3 : wr.heap.size ≤ w9.heap.size := HBT.out.size
        have HR3 := Lib.hid (crow_take (HROW.out.below HBT.out) (d := d) (by omega))
        have HTK : Hid ((es0 ++ [ea]).take d = es0) := Lib.hid (by rw [← HD.out]; simp)
        rw [HTK.out] at HR3
        have HO3 := Lib.hid (own_zero w9 w9.heap.size 58 1 (Nat.le_refl _))
        have HA3 := Lib.hid (app_mats (m := m) (c := cap) (xs := []) HO3.out (HR3.out.below ((Below.refl w9.heap.size w9).alloc (Nat.le_refl _) (.cells #[] 58))) (by omega) (by simp))
        have z8 : (d : Int) ≤ (cap : Int) := by omega
        have z9 : (0 : Int) ≤ (d : Int) := by omega
        go_wp2_with (first
          | (at_builtin
             refine HA3.out _ _ _ _ _ rfl _ _ rfl rfl rfl ?_
             intro v' w5 hown1 hgrow1 hat1
             rw [List.nil_append, Nat.zero_add] at hown1
             have HO5 := Lib.hid hown1
             have hb5 : Below w9.heap.size w9 w5 := below_grown ((Below.refl w9.heap.size w9).alloc (Nat.le_refl _) (.cells #[] 58)) (by simp) hgrow1 (fun q hq => (own_ge HO3.out hq).1)
             have HB5 := Lib.hid hb5
             have h5s := hb5.size
             obtain ⟨A5, c5, rfl, _, _⟩ := own_form hown1
             have HA5 := Lib.hid (app_mat HO5.out (⟨A3, c3, agM s.size ea.f r9, .plus ea.T⟩ : MEl) (by omega) hb5.size w5.heap.size rfl)
             clear hown1 hgrow1 hat1 hb5)
          | (at_builtin
             refine HA5.out _ _ _ _ _ rfl _ _ rfl rfl rfl ?_
             intro gg cc w6 hown2 hgrow2 hat2
             have HO6 := Lib.hid hown2
             have HB6 := Lib.hid (below_grown (HB5.out.alloc h5s (.cells #[.slice (A3) m (c3)] 58)) (by simp; omega) hgrow2 (fun q hq => (own_ge HO5.out hq).1))
             clear hown2 hgrow2 hat2))
        go_roundw
        case rel =>
          have hbt : Below wr.heap.size wr w6 := HBT.out.trans (HB6.out.mono hsz3)
          obtain ⟨A', c', e', hle', _⟩ := own_form HO6.out
          injection e' with _ _ e3
          refine ⟨j + 1, es0 ++ [⟨A3, c3, agM s.size ea.f r9, .plus ea.T⟩], gg, cc, by omega, by go_num, by simp [HD.out], by simp [HD.out]; omega, by rw [List.length_append, HD.out]; exact own_mono HO6.out (by omega), fun x hx => ?_, ?_, HB.out.trans (hbt.mono hgl)⟩
          · rcases List.mem_append.1 hx with hx | hx
            · obtain ⟨h1, h2⟩ := HOK.out x (List.mem_append_left _ hx)
              exact ⟨h1.below hbt, h2⟩
            · rw [List.mem_singleton] at hx
              subst hx
              exact ⟨HM3.out.below HB6.out, by have h9 := lm_plus HOA.out.2 (r := r9) (by rw [HLS.out]; exact HR9.out); rwa [HLS.out] at h9⟩
          · have h9 := HEV2.out
            simpa [HD.out] using h9
        case measure => simp [intOf]; omega
      | opt S a' st =>
        obtain ⟨es0, ea, rfl, hTa, hst0⟩ := st_top hst
        subst hTa hst0
        obtain ⟨d, hd⟩ : ∃ d, es0.length = d := ⟨_, rfl⟩
        have HD := Lib.hid hd
        have e0 : (es0 ++ [ea]).length = d + 1 := by simp [hd]
        rw [e0] at hcap hle HOW HROW ⊢
        have hOA := HOK.out ea (by simp)
        have HOA := Lib.hid hOA
        have HEA : Hid ((es0 ++ [ea])[d]? = some ea) := Lib.hid (by rw [List.getElem?_append_right (by omega), hd, Nat.sub_self]; rfl)
        have y0 : ((d + 1 : Nat) : Int) - 1 = (d : Int) := by omega
        have y1 : (d : Int) < ((d + 1 : Nat) : Int) := by omega
        have y3 : (0 : Int) ≤ (d : Int) := by omega
        have y4 : (d : Int) + 1 - 1 = (d : Int) := by omega
        have y5 : (d : Int) < (d : Int) + 1 := by omega
        clear hd e0 hOA
        have HOF := Lib.hid (fun X => rof_any 7 X)
        rw [show ofZ 7 = 1 from rfl] at HOF
        dsimp only at HCX c0
        go_wp2_with fail
        refine (HOF.out _).mono ?_
        rintro e w2 ⟨rfl, hw2⟩
        subst hw2
        go_wp2_with fail
        refine (HSA.out _).mono ?_
        rintro e w2 ⟨A2, c2, rfl, hM2, hb2⟩
        have HM2 := Lib.hid hM2
        have HB2 := Lib.hid hb2
        obtain ⟨x0, x1, x2, x3, x4⟩ := HCX.out w2 hb2
        clear hM2 hb2 c0
        have cA : w2.cell? ⟨gs, d, none⟩ = some (.slice ea.a m ea.c) := by
          have h9 := ((HROW.out.below HB2.out).2.2 (by omega))
          obtain ⟨b9, o9, e9, _, hc9⟩ := h9
          have h8 := hc9 _ _ HEA.out 0 _ rfl
          simp only [Option.some.injEq, Addr.mk.injEq, and_true] at e9
          obtain ⟨rfl, rfl⟩ := e9
          simpa using h8
        have HMA := Lib.hid (HOA.out.1.below HB2.out)
        have HBO := Lib.hid (both9_any w2 A2 ea.a c2 ea.c sameM ea.f s m hm hn HM2.out HMA.out)
        go_wp2_with fail
        refine HBO.out.mono ?_
        rintro e w9 ⟨A3, c3, rfl, hM3, hb9⟩
        have HM3 := Lib.hid hM3
        have HBT := Lib.hid (HB2.out.trans (hb9.mono HB2.out.size))
        clear hM3 hb9 cA
        have hsz3 : wr.heap.size ≤ w9.heap.size := HBT.out.size
        have HR3 := Lib.hid (crow_take (HROW.out.below HBT.out) (d := d) (by omega))
        have HTK : Hid ((es0 ++ [ea]).take d = es0) := Lib.hid (by rw [← HD.out]; simp)
        rw [HTK.out] at HR3
        have HO3 := Lib.hid (own_zero w9 w9.heap.size 58 1 (Nat.le_refl _))
        have HA3 := Lib.hid (app_mats (m := m) (c := cap) (xs := []) HO3.out (HR3.out.below ((Below.refl w9.heap.size w9).alloc (Nat.le_refl _) (.cells #[] 58))) (by omega) (by simp))
        have z8 : (d : Int) ≤ (cap : Int) := by omega
        have z9 : (0 : Int) ≤ (d : Int) := by omega
        go_wp2_with (first
          | (at_builtin
             refine HA3.out _ _ _ _ _ rfl _ _ rfl rfl rfl ?_
             intro v' w5 hown1 hgrow1 hat1
             rw [List.nil_append, Nat.zero_add] at hown1
             have HO5 := Lib.hid hown1
             have hb5 : Below w9.heap.size w9 w5 := below_grown ((Below.refl w9.heap.size w9).alloc (Nat.le_refl _) (.cells #[] 58)) (by simp) hgrow1 (fun q hq => (own_ge HO3.out hq).1)
             have HB5 := Lib.hid hb5
             have h5s := hb5.size
             obtain ⟨A5, c5, rfl, _, _⟩ := own_form hown1
             have HA5 := Lib.hid (app_mat HO5.out (⟨A3, c3, bothM sameM ea.f, .opt ea.T⟩ : MEl) (by omega) hb5.size w5.heap.size rfl)
             clear hown1 hgrow1 hat1 hb5)
          | (at_builtin
             refine HA5.out _ _ _ _ _ rfl _ _ rfl rfl rfl ?_
             intro gg cc w6 hown2 hgrow2 hat2
             have HO6 := Lib.hid hown2
             have HB6 := Lib.hid (below_grown (HB5.out.alloc h5s (.cells #[.slice (A3) m (c3)] 58)) (by simp; omega) hgrow2 (fun q hq => (own_ge HO5.out hq).1))
             clear hown2 hgrow2 hat2))
        go_roundw
        case rel =>
          have hbt : Below wr.heap.size wr w6 := HBT.out.trans (HB6.out.mono hsz3)
          obtain ⟨A', c', e', hle', _⟩ := own_form HO6.out
          injection e' with _ _ e3
          refine ⟨j + 1, es0 ++ [⟨A3, c3, bothM sameM ea.f, .opt ea.T⟩], gg, cc, by omega, by go_num, by simp [HD.out], by simp [HD.out]; omega, by rw [List.length_append, HD.out]; exact own_mono HO6.out (by omega), fun x hx => ?_, ?_, HB.out.trans (hbt.mono hgl)⟩
          · rcases List.mem_append.1 hx with hx | hx
            · obtain ⟨h1, h2⟩ := HOK.out x (List.mem_append_left _ hx)
              exact ⟨h1.below hbt, h2⟩
            · rw [List.mem_singleton] at hx
              subst hx
              exact ⟨HM3.out.below HB6.out, lm_opt HOA.out.2⟩
          · have h9 := HEV2.out
            simpa [HD.out] using h9
        case measure => simp [intOf]; omega
    · have hjn : j = n := by omega
      subst hjn
      rw [List.drop_of_length_le (by rw [HL.out]; exact Nat.le_refl _)] at hev
      simp only [evT, Option.some.injEq] at hev
      obtain ⟨es0, x, rfl, hT, h0⟩ := st_top hev
      have h00 : es0 = [] := by simpa using h0
      subst h00
      subst hT
      obtain ⟨hM, hLM⟩ := HOK.out x (by simp)
      have HM := Lib.hid hM
      have HLM := Lib.hid hLM
      have cS : wr.cell? ⟨gs, 0, none⟩ = some (.slice x.a m x.c) := by
        obtain ⟨b9, o9, e9, _, hc9⟩ := HROW.out.2.2 (by simp)
        have h8 := hc9 0 x rfl 0 _ rfl
        simp only [Option.some.injEq, Addr.mk.injEq, and_true] at e9
        obtain ⟨rfl, rfl⟩ := e9
        simpa using h8
      have z1 : ¬ (j : Int) < (j : Int) := by omega
      clear hM hLM hev h0
      go_wp2
      go_ret
      exact GivL.mk HM.out HLM.out (by rw [HG.out]; exact HB.out)
end Go.Proofs.Ytbefndibkpjgaaa
/- Where words end, and whether a word is said: the document's. -/
namespace Go.Proofs.Ytbefndibkpjgaaa
open Go.RowKit
set_option linter.unusedVariables false
set_option linter.unusedSimpArgs false

/-- The places where words end that begin at a place. -/
def EndsOf (o : Option RxT) (s : ByteArray) (z : Int) (xs : List Int) : Prop :=
  xs.Pairwise (· < ·) ∧ ∀ p : Int, p ∈ xs ↔ ∃ T, o = some T ∧ 0 ≤ z ∧ z ≤ (s.size : Int) ∧ ∃ q : Nat, p = (q : Int) ∧ q ≤ s.size ∧ z.toNat ≤ q ∧ inT T (seg (LS s) z.toNat q)
def upE (f : Mx) (at_ k : Nat) : List Int := ((List.range k).filter fun q => f at_ q).map fun (q : Nat) => (q : Int)
theorem upE_succ (f : Mx) (at_ k : Nat) : upE f at_ (k + 1) = upE f at_ k ++ if f at_ k = true then [(k : Int)] else [] := by
  unfold upE
  rw [List.range_succ, List.filter_append, List.map_append]
  by_cases h : f at_ k = true
  · rw [if_pos h, List.filter_cons, if_pos h]; rfl
  · rw [if_neg h, List.filter_cons, if_neg h]; rfl
theorem upE_len (f : Mx) (at_ k : Nat) : (upE f at_ k).length ≤ k := by
  unfold upE
  rw [List.length_map]
  exact Nat.le_trans (List.length_filter_le _ _) (by simp)
theorem upE_ends {T : RxT} {s : ByteArray} {f : Mx} {p m : Nat} (hm : s.size + 1 = m) (hp : p < m) (h : LM (inT T) (LS s) f) : EndsOf (some T) s (p : Int) (upE f p m) := by
  constructor
  · unfold upE
    rw [List.pairwise_map]
    exact (List.Pairwise.filter _ List.pairwise_lt_range).imp fun h => by omega
  · intro x
    unfold upE
    rw [List.mem_map]
    constructor
    · rintro ⟨q, hq, rfl⟩
      obtain ⟨h1, h2⟩ := List.mem_filter.1 hq
      have h1 := List.mem_range.1 h1
      obtain ⟨h3, h4⟩ := (h p q (by rw [LS_len]; omega) (by rw [LS_len]; omega)).1 h2
      exact ⟨T, rfl, by omega, by omega, q, rfl, by omega, by omega, by rw [Int.toNat_natCast]; exact h4⟩
    · rintro ⟨T', e, _, _, q, rfl, hq, hpq, hT⟩
      cases e
      rw [Int.toNat_natCast] at hT hpq
      exact ⟨q, List.mem_filter.2 ⟨List.mem_range.2 (by omega), (h p q (by rw [LS_len]; omega) (by rw [LS_len]; omega)).2 ⟨hpq, hT⟩⟩, rfl⟩
theorem ends_none (s : ByteArray) (z : Int) : EndsOf none s z [] := ⟨List.Pairwise.nil, fun p => ⟨fun h => by simp at h, fun ⟨T, e, _⟩ => by cases e⟩⟩
theorem ends_out {o : Option RxT} {s : ByteArray} {z : Int} (h : z < 0 ∨ (s.size : Int) < z) : EndsOf o s z [] := ⟨List.Pairwise.nil, fun p => ⟨fun h => by simp at h, fun ⟨T, e, h1, h2, _⟩ => by omega⟩⟩
/-- Such a list is handed out. -/
def GivE (o : Option RxT) (s : ByteArray) (z : Int) (w : World) (e : Ending) (w' : World) : Prop := ∃ xs, EndsOf o s z xs ∧ Giv 3 1 intC w xs e w'
theorem GivE.mk {o : Option RxT} {s : ByteArray} {z : Int} {w w' : World} {e : Ending} {xs : List Int} (h : EndsOf o s z xs) (hg : Giv 3 1 intC w xs e w') : GivE o s z w e w' := ⟨xs, h, hg⟩
set_option maxRecDepth 100000 in
set_option maxHeartbeats 4000000 in
theorem rends9_any (w : World) (a : Option Addr) (n c : Nat) (o : Option RxT) (s : ByteArray) (z : Int) (h : IsRx w a n o) (hn : s.size ≤ 1000) (hnl : n ≤ 600) :
    Calls Try.prog 13 #[.slice a n c, .string s, .int .i64 z] w fun e w' => GivE o s z w e w' := by
  obtain ⟨g, hg⟩ : ∃ g, w.heap.size = g := ⟨_, rfl⟩
  have HG := Lib.hid hg
  have hb0 : Below w.heap.size w (w.alloc (.cells #[] 3)) := (Below.refl _ _).alloc (Nat.le_refl _) _
  have HB0 : Hid (Below g w (w.alloc (.cells #[] 3))) := Lib.hid (by rw [← hg]; exact hb0)
  have HO0 := Lib.hid (by have h9 := own_zero w g 3 1 (by omega); rw [hg] at h9; exact h9)
  have hs0 : (w.alloc (.cells #[] 3)).heap.size = g + 1 := by simp [hg]
  have HS0 := Lib.hid hs0
  obtain ⟨e, hck, hek⟩ := (h.below hb0).check c
  have HCK := Lib.hid hck
  have HEK := Lib.hid hek
  have HH := Lib.hid h
  clear hck hek hb0 h hg hs0
  by_cases hbad : o = none ∨ z < 0 ∨ (s.size : Int) < z
  · have HE : Hid (EndsOf o s z []) := Lib.hid (by
      rcases hbad with rfl | h
      · exact ends_none _ _
      · exact ends_out h)
    cases o with
    | none =>
      have he : ((e : Int) != 0) = true := by rw [bne_iff_ne]; intro h; have := HEK.out.1 (by omega); simp at this
      clear hbad
      go_enter Try.func13, Try.ntmps13
      go_wp2_with fail
      refine HCK.out.mono ?_
      rintro e w' ⟨rfl, rfl⟩
      go_wp2_with fail
      go_ret
      exact GivE.mk HE.out (Giv.mk rfl (by rw [HG.out]; exact HO0.out) (by rw [HG.out]; exact HB0.out))
    | some T =>
      have he : e = 0 := HEK.out.2 rfl
      subst he
      by_cases hz0 : z < 0
      · clear hbad
        go_enter Try.func13, Try.ntmps13
        go_wp2_with fail
        refine HCK.out.mono ?_
        rintro e w' ⟨rfl, rfl⟩
        go_wp2_with fail
        go_ret
        exact GivE.mk HE.out (Giv.mk rfl (by rw [HG.out]; exact HO0.out) (by rw [HG.out]; exact HB0.out))
      · have hz1 : (s.size : Int) < z := by
          rcases hbad with h | h | h
          · cases h
          · omega
          · exact h
        have hz2 : ¬ z ≤ (s.size : Int) := by omega
        clear hbad
        go_enter Try.func13, Try.ntmps13
        go_wp2_with fail
        refine HCK.out.mono ?_
        rintro e w' ⟨rfl, rfl⟩
        go_wp2_with fail
        go_ret
        exact GivE.mk HE.out (Giv.mk rfl (by rw [HG.out]; exact HO0.out) (by rw [HG.out]; exact HB0.out))
  · cases o with
    | none => exact absurd (.inl rfl) hbad
    | some T =>
      have he : e = 0 := HEK.out.2 rfl
      subst he
      have hz0 : ¬ z < 0 := fun h => hbad (.inr (.inl h))
      have hz1 : ¬ (s.size : Int) < z := fun h => hbad (.inr (.inr h))
      obtain ⟨p, rfl⟩ : ∃ p : Nat, z = (p : Int) := ⟨z.toNat, by omega⟩
      obtain ⟨m, hm⟩ : ∃ m : Nat, s.size + 1 = m := ⟨_, rfl⟩
      have HMN := Lib.hid hm
      have hmI : (s.size : Int) + 1 = (m : Int) := by omega
      have hp : p < m := by omega
      have hm1 : m ≤ 1001 := by omega
      have HLD := Lib.hid (fun X hX => leads9_any X a n c T s m hmI hn (HH.out.1.below (w' := X) hX) hnl)
      have p0 : (0 : Int) ≤ (p : Int) := by omega
      have p1 : (p : Int) < (m : Int) := by omega
      have p2 : ¬ s.size < p := by omega
      clear hbad hm hmI
      go_enter Try.func13, Try.ntmps13
      go_wp2_with fail
      refine HCK.out.mono ?_
      rintro e w' ⟨rfl, rfl⟩
      go_wp2_with fail
      refine (HLD.out _ (by rw [HG.out]; exact HB0.out)).mono ?_
      rintro e w2 ⟨A, cA, f, rfl, hM, hlm, hb2⟩
      have HO2 := Lib.hid (ownB HO0.out hb2)
      rw [HS0.out] at hb2
      have HB2 := Lib.hid hb2
      have HM := Lib.hid hM
      have HLM := Lib.hid hlm
      obtain ⟨b1, o1, rb, ro, cr, rfl, hbl, d0, hrb, d1⟩ := hM p hp
      have HD1 := Lib.hid d1
      have hs2 : g + 1 ≤ w2.heap.size := by have h9 := hb2.size; have h8 := HS0.out; omega
      clear hM hlm hb2 d1 HLD HCK
      go_wp2
      have hrg : rb ≠ g := fun e => by
        have h9 := HD1.out 0 (by omega)
        subst e
        have h8 : w2.heap[w.heap.size]? = some (.cells #[] 3 (0, 0)) := (HB2.out.block w.heap.size (by have := HG.out; omega)).trans (by have := heap_alloc_new w (.cells #[] 3); exact this)
        rw [HG.out] at h8
        rw [cell_of_row w2 rb _ _ _ _ h8] at h9
        simp at h9
      go_loopw [7, 9] (fun u i wr => ∃ k : Nat, k ≤ m ∧ i = .int .i64 (k : Int) ∧ wr.ownsRow g 3 1 u (upE f p k).length ((upE f p k).flatMap intC) ∧ (∀ r, u.ownBlock = some r → r = g ∨ w2.heap.size ≤ r) ∧ (∀ r, r < w2.heap.size → r ≠ g → wr.heap[r]? = w2.heap[r]?) ∧ Below g w wr ∧ w2.heap.size ≤ wr.heap.size) (fun _ i _ => m - (intOf i).toNat)
      case atStart => exact ⟨0, by omega, rfl, by have h9 := HO2.out; rw [← HG.out] at h9 ⊢; simpa [upE] using h9, fun r hr => .inl (by have h9 := HG.out; simp [Value.ownBlock] at hr; omega), fun r _ _ => rfl, HB0.out.trans (HB2.out.mono (by omega)), Nat.le_refl _⟩
      case round =>
        obtain ⟨k, hk, rfl, hown, hob, hkp, hb, hsz⟩ := hrel
        have HF := Lib.hid (own_form hown)
        have HOW := Lib.hid hown
        have HB := Lib.hid hb
        have HOB := Lib.hid hob
        have HKP := Lib.hid hkp
        have hgl : g ≤ wr.heap.size := by have := HG.out; have := hb.size; omega
        have hul := upE_len f p k
        clear hown hb hob hkp
        obtain ⟨A, cc, rfl, hle, hcc⟩ := HF.out
        clear HF
        by_cases hlt : k < m
        · have hc : wr.cell? ⟨rb, ro + k, none⟩ = some (.bool (f p k)) := (World.cell?_of_block (HKP.out rb hrb hrg)).trans (HD1.out k hlt)
          have h0 : (0 : Int) ≤ (k : Int) := by omega
          have h1 : (k : Int) < (m : Int) := by omega
          have HU := Lib.hid (upE_succ f p k)
          obtain ⟨v, hv⟩ : ∃ v, f p k = v := ⟨_, rfl⟩
          rw [hv] at hc HU
          obtain ⟨xs, hxs⟩ : ∃ xs, upE f p k = xs := ⟨_, rfl⟩
          rw [hxs] at HU HOW hul hle HOB ⊢
          clear hv hxs
          cases v with
          | true =>
            have HE : Hid (upE f p (k + 1) = xs ++ [(k : Int)]) := Lib.hid (by rw [HU.out]; rfl)
            have HAP := Lib.hid (app_int HOW.out (k : Int) (by omega) hgl wr.heap.size rfl)
            go_wp2_with (at_builtin; refine HAP.out _ _ _ _ _ rfl _ _ rfl rfl rfl ?_; intro gg cap w3 hown1 hgrow hat; have HW := Lib.hid hown1; have HGR := Lib.hid hgrow; have HAT := Lib.hid hat; have HB3 := Lib.hid (below_grown (HB.out.alloc (by omega) _) (by simp; omega) hgrow (fun j hj => (own_ge HOW.out hj).1)); clear hown1 hgrow hat)
            go_roundw
            case rel =>
              refine ⟨k + 1, by omega, by go_num, by rw [HE.out, List.length_append]; exact HW.out, fun r hr => ?_, fun r hr hrg' => ?_, HB3.out, by have := HGR.out.size; simp at this; omega⟩
              · have e : gg = r := by simpa [Value.ownBlock] using hr
                subst e
                rcases HAT.out with h9 | h9
                · exact HOB.out gg h9
                · exact .inr (by omega)
              · rw [HGR.out.block r (by simp; omega) (fun e => by rcases HOB.out r e.symm with h9 | h9 <;> omega), Below.heap_alloc _ _ _ (by omega)]
                exact HKP.out r hr hrg'
            case measure => simp [intOf]; omega
          | false =>
            have HE : Hid (upE f p (k + 1) = xs) := Lib.hid (by rw [HU.out]; simp)
            go_wp2
            go_roundw
            case rel => exact ⟨k + 1, by omega, by go_num, by rw [HE.out]; exact HOW.out, HOB.out, HKP.out, HB.out, hsz⟩
            case measure => simp [intOf]; omega
        · have hk2 : k = m := by omega
          subst hk2
          have HE := Lib.hid (upE_ends HMN.out hp HLM.out)
          go_wp2
          go_ret
          exact GivE.mk HE.out (Giv.mk rfl (by rw [HG.out]; exact HOW.out) (by rw [HG.out]; exact HB.out))
/-- Is a word said? -/
def saysW (o : Option RxT) (s : ByteArray) : Prop := ∃ T, o = some T ∧ inT T (LS s)
theorem ends_says {o : Option RxT} {s : ByteArray} {xs : List Int} (h : EndsOf o s 0 xs) : (s.size : Int) ∈ xs ↔ saysW o s := by
  rw [h.2]
  unfold saysW
  constructor
  · rintro ⟨T, rfl, _, _, q, e, hq, _, hT⟩
    have : q = s.size := by omega
    subst this
    refine ⟨T, rfl, ?_⟩
    have e2 := seg_all (LS s)
    rw [LS_len] at e2
    rwa [Int.toNat_zero, e2] at hT
  · rintro ⟨T, rfl, hT⟩
    have e2 := seg_all (LS s)
    rw [LS_len] at e2
    exact ⟨T, rfl, by omega, by omega, s.size, rfl, Nat.le_refl _, by omega, by rw [Int.toNat_zero, e2]; exact hT⟩
theorem pw_last {xs : List Int} (h : xs.Pairwise (· < ·)) {k : Nat} {z : Int} (hk : xs.length = k + 1) (hz : xs[k]? = some z) : ∀ x ∈ xs, x ≤ z := by
  intro x hx
  obtain ⟨i, hi⟩ := List.getElem?_of_mem hx
  obtain ⟨hil, rfl⟩ := List.getElem?_eq_some_iff.1 hi
  obtain ⟨hkl, rfl⟩ := List.getElem?_eq_some_iff.1 hz
  by_cases e : i = k
  · subst e; exact Int.le_refl _
  · exact Int.le_of_lt (List.pairwise_iff_getElem.1 h i k hil hkl (by omega))
theorem ends_le {o : Option RxT} {s : ByteArray} {z : Int} {xs : List Int} (h : EndsOf o s z xs) : ∀ x ∈ xs, x ≤ (s.size : Int) := fun x hx => by
  obtain ⟨T, _, _, _, q, rfl, hq, _⟩ := (h.2 x).1 hx
  omega
def GivS (o : Option RxT) (s : ByteArray) (w : World) (e : Ending) (w' : World) : Prop := ∃ r : Bool, (r = true ↔ saysW o s) ∧ e = .returned (.bool r) ∧ Below w.heap.size w w'
theorem GivS.mk {o : Option RxT} {s : ByteArray} {w w' : World} {r : Bool} (h : r = true ↔ saysW o s) (hb : Below w.heap.size w w') : GivS o s w (.returned (.bool r)) w' := ⟨r, h, rfl, hb⟩
set_option maxRecDepth 100000 in
theorem rsays9_any (w : World) (a : Option Addr) (n c : Nat) (o : Option RxT) (s : ByteArray) (h : IsRx w a n o) (hn : s.size ≤ 1000) (hnl : n ≤ 600) :
    Calls Try.prog 10 #[.slice a n c, .string s] w fun e w' => GivS o s w e w' := by
  have HE := Lib.hid (rends9_any w a n c o s 0 h hn hnl)
  clear h
  go_enter Try.func10, Try.ntmps10
  go_wp2_with fail
  refine HE.out.mono ?_
  rintro e w2 ⟨xs, hxs, A, cc, rfl, ho, hb⟩
  have HX := Lib.hid hxs
  have HB := Lib.hid hb
  have HR := Lib.hid (own_row intC_len ho)
  obtain ⟨A', c', e', hle, hcc⟩ := own_form ho
  simp only [Value.slice.injEq, true_and] at e'
  obtain ⟨rfl, rfl⟩ := e'
  clear hxs ho hb HE
  obtain ⟨k, hk⟩ : ∃ k, xs.length = k := ⟨_, rfl⟩
  have HK := Lib.hid hk
  rw [hk] at hle HR ⊢
  clear hk
  cases k with
  | zero =>
    have HS : Hid ((false = true) ↔ saysW o s) := Lib.hid (by
      rw [← ends_says HX.out, List.length_eq_zero_iff.1 HK.out]; simp)
    go_wp2
    go_ret
    exact GivS.mk HS.out HB.out
  | succ k =>
    obtain ⟨b, off, z, rfl, hbl, hz, hc⟩ := HR.out.int (k := k) (by omega)
    have z1 : (0 : Int) < ((k + 1 : Nat) : Int) := by omega
    have z2 : ((k + 1 : Nat) : Int) - 1 = (k : Int) := by omega
    have z3 : (k : Int) + 1 - 1 = (k : Int) := by omega
    have z4 : (0 : Int) < (k : Int) + 1 := by omega
    have z5 : (0 : Int) ≤ (k : Int) := by omega
    have z6 : (k : Int) < (k : Int) + 1 := by omega
    have HS : Hid ((z == (s.size : Int)) = true ↔ saysW o s) := Lib.hid (by
      rw [← ends_says HX.out, beq_iff_eq]
      constructor
      · rintro rfl; exact List.mem_of_getElem? hz
      · intro h
        have h1 := pw_last HX.out.1 HK.out hz _ h
        have h2 := ends_le HX.out z (List.mem_of_getElem? hz)
        omega)
    clear hz
    go_wp2
    go_ret
    exact GivS.mk HS.out HB.out
end Go.Proofs.Ytbefndibkpjgaaa
/- rxfact.Ends: what stands in its rounds. -/
namespace Go.Proofs.Ytbefndibkpjgaaa
open Go.RowKit
set_option linter.unusedVariables false
set_option linter.unusedSimpArgs false

/-- The places behind which a word has ended so far. -/
def OutOf (T : RxT) (L : List UInt8) (p q : Nat) (xs : List Int) : Prop :=
  xs.Pairwise (· < ·) ∧ (∀ z : Int, z ∈ xs ↔ ∃ j : Nat, z = (j : Int) ∧ p ≤ j ∧ j < q ∧ inT T (seg L p j)) ∧ xs.length ≤ q - p
theorem OutOf.zero (T : RxT) (L : List UInt8) (p : Nat) : OutOf T L p p [] := ⟨List.Pairwise.nil, (fun z => ⟨(fun h => by cases h), (fun ⟨j, _, h1, h2, _⟩ => by omega)⟩), by simp⟩
theorem OutOf.yes {T : RxT} {L : List UInt8} {p q : Nat} {xs : List Int} (h : OutOf T L p q xs) (hpq : p ≤ q) (hi : inT T (seg L p q)) : OutOf T L p (q + 1) (xs ++ [(q : Int)]) := by
  refine ⟨?_, fun z => ?_, by have := h.2.2; rw [List.length_append, List.length_singleton]; omega⟩
  · rw [List.pairwise_append]
    refine ⟨h.1, List.pairwise_singleton _ _, fun a ha b hb => ?_⟩
    obtain ⟨j, rfl, _, hj, _⟩ := (h.2.1 a).1 ha
    rw [List.mem_singleton] at hb
    subst hb; omega
  · rw [List.mem_append, h.2.1, List.mem_singleton]
    constructor
    · rintro (⟨j, e, h1, h2, h3⟩ | rfl)
      · exact ⟨j, e, h1, by omega, h3⟩
      · exact ⟨q, rfl, hpq, by omega, hi⟩
    · rintro ⟨j, rfl, h1, h2, h3⟩
      by_cases hj : j = q
      · subst hj; exact .inr rfl
      · exact .inl ⟨j, rfl, h1, by omega, h3⟩
theorem OutOf.no {T : RxT} {L : List UInt8} {p q : Nat} {xs : List Int} (h : OutOf T L p q xs) (hi : ¬ inT T (seg L p q)) : OutOf T L p (q + 1) xs := by
  refine ⟨h.1, fun z => ?_, by have := h.2.2; omega⟩
  rw [h.2.1]
  constructor
  · rintro ⟨j, e, h1, h2, h3⟩; exact ⟨j, e, h1, by omega, h3⟩
  · rintro ⟨j, rfl, h1, h2, h3⟩
    by_cases hj : j = q
    · subst hj; exact absurd h3 hi
    · exact ⟨j, rfl, h1, by omega, h3⟩
theorem OutOf.ends {T : RxT} {s : ByteArray} {p q : Nat} {xs : List Int} (h : OutOf T (LS s) p q xs) (hp : p ≤ s.size) (hq : q ≤ s.size + 1) (hn : ∀ j, q ≤ j → j ≤ s.size → ¬ inT T (seg (LS s) p j)) : EndsOf (some T) s (p : Int) xs := by
  refine ⟨h.1, fun z => ?_⟩
  rw [h.2.1]
  constructor
  · rintro ⟨j, rfl, h1, h2, h3⟩
    exact ⟨T, rfl, by omega, by omega, j, rfl, by omega, by omega, by rw [Int.toNat_natCast]; exact h3⟩
  · rintro ⟨T', e, h1, h2, j, rfl, h3, h4, h5⟩
    obtain rfl := Option.some.inj e
    rw [Int.toNat_natCast] at h4 h5
    refine ⟨j, rfl, h4, ?_, h5⟩
    rcases Nat.lt_or_ge j q with h6 | h6
    · exact h6
    · exact absurd h5 (hn j h6 h3)
/-- The states that are led to by what has been read. -/
def RI (T : RxT) (M : Mc) (L : List UInt8) (p q : Nat) (xs : List Nat) : Prop := ∀ y, (∃ x ∈ xs, Pa (FE M) (BE M) x [] y) ↔ Pa (FE M) (BE M) (inS T 0) (seg L p q) y
theorem RI.zero (T : RxT) (M : Mc) (L : List UInt8) (p : Nat) : RI T M L p p [inS T 0] := fun y => by rw [seg_self]; simp
theorem seg_snoc {L : List UInt8} {p q : Nat} {c : UInt8} (hpq : p ≤ q) (hc : L[q]? = some c) : seg L p (q + 1) = seg L p q ++ [c] := by
  rw [← seg_cat hpq (Nat.le_succ q), seg_one hc]
theorem RI.next {T : RxT} {M : Mc} {L : List UInt8} {p q : Nat} {xs : List Nat} {bs : List Bool} {c : UInt8} (h : RI T M L p q xs) (hpq : p ≤ q) (hc : L[q]? = some c) (hb : ∀ i : Nat, bs[i]? = some true ↔ ∃ x ∈ xs, Pa (FE M) (BE M) x [] i) : RI T M L p (q + 1) (onL M bs c.toNat bs.length) := fun y => by
  rw [seg_snoc hpq hc, Pa.snoc]
  constructor
  · rintro ⟨x, hx, hp⟩
    obtain ⟨s, rfl, h1, h2⟩ := (onL_mem M bs c bs.length x rfl).1 hx
    exact ⟨s, (h s).1 ((hb s).1 h1), h2, hp⟩
  · rintro ⟨s, h1, h2, h3⟩
    exact ⟨s + 1, (onL_mem M bs c bs.length _ rfl).2 ⟨s, rfl, (hb s).2 ((h s).2 h1), h2⟩, h3⟩
theorem MOK.thom {M : Mc} {T : RxT} (h : MOK M [T]) (w : List UInt8) : Pa (FE M) (BE M) (inS T 0) w (outS T 0) ↔ inT T w := by
  have hF : ∀ x y, FE M x y ↔ fE T 0 x y := fun x y => by rw [h.fr, fEL_one]
  have hB : ∀ x c, BE M x c ↔ bE T 0 x c := fun x c => by rw [h.by_, bEL_one]
  rw [← Go.Proofs.Ytbefndibkpjgaaa.thom T 0 w]
  exact ⟨fun hp => hp.mono (fun x y => (hF x y).1) (fun x c => (hB x c).1), fun hp => hp.mono (fun x y => (hF x y).2) (fun x c => (hB x c).2)⟩
theorem RI.word {T : RxT} {M : Mc} {L : List UInt8} {p q : Nat} {xs : List Nat} {bs : List Bool} (h : RI T M L p q xs) (hM : MOK M [T]) (hb : ∀ i : Nat, bs[i]? = some true ↔ ∃ x ∈ xs, Pa (FE M) (BE M) x [] i) : bs[outS T 0]? = some true ↔ inT T (seg L p q) := by
  rw [hb, h, hM.thom]
theorem RI.stop {T : RxT} {M : Mc} {L : List UInt8} {p q : Nat} (h : RI T M L p q []) (hM : MOK M [T]) (hpq : p ≤ q) : ∀ j, q ≤ j → j ≤ L.length → ¬ inT T (seg L p j) := by
  have key : ∀ d, q + d ≤ L.length → ∀ y, ¬ Pa (FE M) (BE M) (inS T 0) (seg L p (q + d)) y := by
    intro d
    induction d with
    | zero => intro _ y hy; obtain ⟨x, hx, _⟩ := (h y).2 hy; cases hx
    | succ d ih =>
      intro hd y hy
      have hc : L[q + d]? = some L[q + d] := List.getElem?_eq_getElem (by omega)
      rw [show q + (d + 1) = (q + d) + 1 by omega, seg_snoc (by omega) hc, Pa.snoc] at hy
      obtain ⟨x, hx, _⟩ := hy
      exact ih (by omega) x hx
  intro j hj hjl hi
  have := key (j - q) (by omega) (outS T 0)
  rw [show q + (j - q) = j by omega] at this
  exact this (hM.thom _ |>.2 hi)
theorem onL_lt {M : Mc} {T : RxT} (hM : MOK M [T]) {bs : List Bool} {c : UInt8} {x : Nat} (hx : x ∈ onL M bs c.toNat bs.length) : x < M.fr.length := by
  obtain ⟨s, rfl, _, h2⟩ := (onL_mem M bs c bs.length x rfl).1 hx
  have h3 := (hM.by_ s c).1 h2
  rw [bEL_one] at h3
  have := (bE_range T 0 s c h3).2.1
  unfold RT at this
  rw [hM.len, szL_one]
  omega
theorem own_mono9 {w : World} {base base' : Nat} {e : TypeId} {k n : Nat} {v : Value} {xs : List Value} (h : w.ownsRow base e k v n xs) (hb : base' ≤ base) : w.ownsRow base' e k v n xs := by
  obtain ⟨h1, h2⟩ := h
  refine ⟨h1, ?_⟩
  rcases h2 with h2 | ⟨g, cap, cur, hv, hb2, r⟩
  · exact .inl h2
  · exact .inr ⟨g, cap, cur, hv, by omega, r⟩
/-- What stands at the head of a round of Ends. -/
structure EV (X bp N : Nat) (T : RxT) (s : ByteArray) (p q : Nat) (w : World) (M : Mc) (xs : List Nat) (nv ov : Value) (out : List Int) (wr : World) : Prop where
  mx : MX X wr M []
  nown : wr.ownsRow (X + 1) 3 1 nv xs.length ((castL xs).flatMap intC)
  nfree : ∀ k, nv.ownBlock = some k → FreeB X wr k ∧ k ≠ bp ∧ ov.ownBlock ≠ some k
  oown : wr.ownsRow (X + 1) 3 1 ov out.length (out.flatMap intC)
  ofree : ∀ k, ov.ownBlock = some k → FreeB X wr k ∧ k ≠ bp
  pf : FreeB X wr bp
  pt : PtAt wr bp (inS T 0) (outS T 0)
  bw : Below X w wr
  lt : ∀ x ∈ xs, x < N
  nl : xs.length ≤ 3000
  ri : RI T M (LS s) p q xs
  oo : OutOf T (LS s) p q out
/-- .. and behind the marks. -/
structure ES (X bp gi N : Nat) (T : RxT) (w : World) (M : Mc) (bs : List Bool) (ov : Value) (out : List Int) (wr : World) : Prop where
  mx : MX X wr M []
  oown : wr.ownsRow (X + 1) 3 1 ov out.length (out.flatMap intC)
  ofree : ∀ k, ov.ownBlock = some k → FreeB X wr k ∧ k ≠ bp ∧ k ≠ gi
  pf : FreeB X wr bp
  pt : PtAt wr bp (inS T 0) (outS T 0)
  bw : Below X w wr
  irow : CRow bolC 1 wr (some ⟨gi, 0, none⟩) N bs
  ilt : gi < wr.heap.size
section
variable {X bp gi N : Nat} {T : RxT} {s : ByteArray} {p q : Nat} {w : World} {M : Mc} {xs : List Nat} {bs : List Bool} {nv ov : Value} {out : List Int} {wr w2 : World}
theorem EV.spread (h : EV X bp N T s p q w M xs nv ov out wr) (hN : 0 < N) {e : Ending} (hg : GivB9 X N M xs nv wr e w2) : ∃ gi bs, e = .returned (.slice (some ⟨gi, 0, none⟩) N N) ∧ bs.length = N ∧ (∀ i : Nat, bs[i]? = some true ↔ ∃ x ∈ xs, Pa (FE M) (BE M) x [] i) ∧ ES X bp gi N T w M bs ov out w2 := by
  obtain ⟨gi, bs, hgi, he, hrow, hlen, hmk, hmx, hfg, hbw, hkp, hsz⟩ := hg
  refine ⟨gi, bs, he, hlen, hmk, ?_⟩
  obtain ⟨_, hO⟩ := h.mx.wider (w' := w2) (fun k hk ho => hkp k hk fun e => by
    have hf := (h.nfree k e).1
    rcases ho with rfl | ho
    · exact hf.2.1 rfl
    · exact hf.2.2 ho) hsz
  have hfr : ∀ k, FreeB X wr k → FreeB X w2 k := fun k hf => ⟨by have := hf.1; omega, hf.2.1, fun ho => hf.2.2 ((hO k).1 ho)⟩
  have hr := hrow
  subst hlen
  refine ⟨hmx, own_kept h.oown fun k hk => hkp k (h.ofree k hk).1.1 fun e => (h.nfree k e).2.2 hk, fun k hk => ⟨hfr k (h.ofree k hk).1, (h.ofree k hk).2, by have := (h.ofree k hk).1.1; omega⟩, hfr bp h.pf, h.pt.same (hkp bp h.pf.1 fun e => (h.nfree bp e).2.1 rfl), h.bw.trans hbw, own_row (C := bolC) (k := 1) (fun _ => rfl) hrow, hfg.1⟩
theorem ES.mark (h : ES X bp gi N T w M bs ov out wr) {i : Nat} {b : Bool} (hb : bs[i]? = some b) : wr.cell? ⟨gi, i, none⟩ = some (.bool b) := by
  obtain ⟨h1, h2, h3⟩ := h.irow
  have hi := (List.getElem?_eq_some_iff.1 hb).1
  obtain ⟨b9, o9, ha, hb9, hc⟩ := h3 (by omega)
  simp only [Option.some.injEq, Addr.mk.injEq, and_true] at ha
  obtain ⟨rfl, rfl⟩ := ha
  have := hc i b hb 0 (.bool b) rfl
  simpa using this
/-- One more place. -/
theorem ES.app (h : ES X bp gi N T w M bs ov out wr) {ob : Obj} {z : Int} {v' : Value} (hg : (wr.alloc ob).grownBy w2 ov.ownBlock) (ho : w2.ownsRow (X + 1) 3 1 v' (out.length + 1) ((out ++ [z]).flatMap intC)) (hat : v'.ownBlock = ov.ownBlock ∨ v'.ownBlock = some (wr.heap.size + 1)) :
    ES X bp gi N T w M bs v' (out ++ [z]) w2 := by
  have hX := h.mx.le
  have hb1 : Below wr.heap.size wr (wr.alloc ob) := (Below.refl _ _).alloc (Nat.le_refl _) _
  have hm1 := h.mx.below hb1
  have hk1 := h.mx.onto hb1
  have hs1 : (wr.alloc ob).heap.size = wr.heap.size + 1 := by simp
  obtain ⟨hm2, hO⟩ := hm1.wider (w' := w2) (fun k hk ho' => hg.block k hk fun e => by
    have hf := ((h.ofree k e.symm).1.keeps hk1).1
    rcases ho' with rfl | ho'
    · exact hf.2.1 rfl
    · exact hf.2.2 ho') hg.size
  have hfr : ∀ k, FreeB X wr k → FreeB X w2 k := fun k hf => by
    have hf1 := (hf.keeps hk1).1
    exact ⟨by have := hf1.1; have := hg.size; omega, hf1.2.1, fun ho => hf1.2.2 ((hO k).1 ho)⟩
  have hold : ∀ k, k < wr.heap.size → ov.ownBlock ≠ some k → w2.heap[k]? = wr.heap[k]? := fun k hk hne => (hg.block k (by omega) fun e => hne e.symm).trans (hb1.block k hk)
  refine ⟨hm2, by rw [List.length_append, List.length_singleton]; exact ho, fun k hk => ?_, hfr bp h.pf, h.pt.same (hold bp h.pf.1 fun e => (h.ofree bp e).2.1 rfl), ?_, ?_, by have := h.ilt; have := hg.size; omega⟩
  · have hkl := (own_ge ho hk).2
    rcases hat with hat | hat
    · rw [hat] at hk
      have hf := h.ofree k hk
      exact ⟨hfr k hf.1, hf.2.1, hf.2.2⟩
    · rw [hat] at hk
      obtain rfl := Option.some.inj hk
      refine ⟨⟨hkl, by omega, fun ho' => ?_⟩, by have := h.pf.1; omega, by have := h.ilt; omega⟩
      obtain ⟨os, fv, sv, bv, hmb, _⟩ := hm1
      exact hmb.fresh (by omega) ((hO _).1 ho')
  · exact below_grown (h.bw.alloc (by omega) _) (by omega) hg (fun k hk => by have := (own_ge h.oown hk).1; omega)
  · have hne : ov.ownBlock ≠ some gi := fun e => (h.ofree gi e).2.2 rfl
    exact h.irow.same (fun b off e ha => by
      simp only [Option.some.injEq, Addr.mk.injEq] at ha
      obtain ⟨rfl, _, _⟩ := ha
      exact hold _ h.ilt hne) (by have := hg.size; omega)
/-- A byte on. -/
theorem ES.on (h : ES X bp gi N T w M bs ov out wr) (hM : MOK M [T]) (hN : M.fr.length = N) (hNN : N ≤ 3000) (hl : bs.length = N) {c : UInt8} (hpq : p ≤ q) (hc : (LS s)[q]? = some c) (hri : RI T M (LS s) p q xs) (hb : ∀ i : Nat, bs[i]? = some true ↔ ∃ x ∈ xs, Pa (FE M) (BE M) x [] i)
    (hoo : OutOf T (LS s) p (q + 1) out) {e : Ending} (hg : GivL9 (onL M bs c.toNat N) wr e w2) : ∃ v xs', e = .returned v ∧ EV X bp N T s p (q + 1) w M xs' v ov out w2 := by
  obtain ⟨v, rfl, hown, hbw⟩ := hg
  have hX := h.mx.le
  have hk := h.mx.onto hbw
  subst hl
  refine ⟨v, _, rfl, h.mx.below hbw, own_mono9 hown hX, fun k hk' => ?_, ownB h.oown hbw, fun k hk' => ⟨((h.ofree k hk').1.keeps hk).1, (h.ofree k hk').2.1⟩, (h.pf.keeps hk).1, h.pt.onto hbw, h.bw.trans (hbw.mono (by omega)), fun x hx => ?_, Nat.le_trans (onL_len _ _ _ _) hNN, hri.next hpq hc hb, hoo⟩
  · obtain ⟨g1, g2⟩ := own_ge hown hk'
    exact ⟨h.mx.free hbw g1 g2, by have := h.pf.1; omega, fun e => by have := (h.ofree k e).1.1; omega⟩
  · have := onL_lt hM hx; omega
end
/-- A machine of no state. -/
theorem MX.zero (w : World) : MX w.heap.size (w.alloc (.cells #[.slice none 0 0, .slice none 0 0, .slice none 0 0] 50)) mc0 [] := by
  refine ⟨[], .slice none 0 0, .slice none 0 0, .slice none 0 0, ⟨heap_alloc_new w _, ⟨fun r hr => ?_, fun i j r t hr ht hne k hk => ?_⟩, (fun o ho => by cases ho), by simp⟩, rfl, rfl, rfl⟩
  · simp only [base3, List.map_nil, List.append_nil, List.nil_append, mc0, List.mem_cons, List.not_mem_nil, or_false] at hr
    rcases hr with rfl | rfl | rfl <;> exact own_none _ _ _ _
  · have hm := List.mem_of_getElem? hr
    simp only [base3, List.map_nil, List.append_nil, List.nil_append, mc0, List.mem_cons, List.not_mem_nil, or_false] at hm
    rcases hm with rfl | rfl | rfl <;> cases hk
end Go.Proofs.Ytbefndibkpjgaaa
/- rxfact: where words end, by the machine; whether a word is said. -/
namespace Go.Proofs.Ytbefndibkpjgaaa
open Go.RowKit
set_option linter.unusedVariables false
set_option linter.unusedSimpArgs false
attribute [local go_sem ↓] loadP_eq

set_option maxRecDepth 100000 in
set_option maxHeartbeats 16000000 in
theorem ends9_any (w : World) (a : Option Addr) (n c : Nat) (o : Option RxT) (s : ByteArray) (z : Int) (h : IsRx w a n o) (hn : s.size ≤ 1000) (hnl : n ≤ 300) :
    Calls Try.prog 12 #[.slice a n c, .string s, .int .i64 z] w fun e w' => GivE o s z w e w' := by
  obtain ⟨g, hg⟩ : ∃ g, w.heap.size = g := ⟨_, rfl⟩
  have HG := Lib.hid hg
  have hmf : ∀ (fn : Fn) (first cap : Array Value) (w : World), (Instr.makeFunc fn first cap).run Try.prog w = .ok (.func fn first cap) w := fun _ _ _ _ => rfl
  obtain ⟨W1, hW1⟩ : ∃ W, W = w.alloc (.cells #[.slice none 0 0, .slice none 0 0, .slice none 0 0] 50) := ⟨_, rfl⟩
  have hb1 : Below g w W1 := by rw [hW1, ← hg]; exact (Below.refl _ _).alloc (Nat.le_refl _) _
  have hm1 : MX g W1 mc0 [] := by rw [hW1, ← hg]; exact MX.zero w
  have HOV := Lib.hid (overP_any g w W1 hg hb1 hm1 a n c o h hnl)
  have HB1 := Lib.hid hb1
  have HW1 := Lib.hid hW1
  have HSZ : Hid (∀ T, o = some T → szT T ≤ 600) := Lib.hid fun T e => by
    subst e
    have := h.1.1
    unfold szT; omega
  rw [hW1] at HOV
  clear hb1 hm1 h
  go_enter Try.func12, Try.ntmps12
  go_wp2_with fail
  refine HOV.out.mono ?_
  rintro e w2 hgo
  rw [← hW1] at hgo
  obtain ⟨hb2, M, hmx, hgo⟩ := hgo
  have HB2 := Lib.hid (HB1.out.trans hb2)
  have HMX := Lib.hid hmx
  clear hb2 hmx HOV hW1
  cases o with
  | none =>
    dsimp only at hgo
    subst hgo
    have HE : Hid (EndsOf none s z []) := Lib.hid (ends_none s z)
    go_wp2
    go_ret
    exact GivE.mk HE.out (Giv.mk rfl (own_new _ _ _ _) (by rw [HG.out]; exact HB2.out.alloc (by have := HMX.out.le; omega) _))
  | some T =>
    dsimp only at hgo
    obtain ⟨hok, hsm, rfl⟩ := hgo
    by_cases hbad : z < 0 ∨ (s.size : Int) < z
    · have HE : Hid (EndsOf (some T) s z []) := Lib.hid (ends_out hbad)
      rcases hbad with hb | hb
      · go_wp2
        go_ret
        exact GivE.mk HE.out (Giv.mk rfl (own_new _ _ _ _) (by rw [HG.out]; exact HB2.out.alloc (by have := HMX.out.le; omega) _))
      · have hz0 : ¬ z < 0 := by omega
        go_wp2
        go_ret
        exact GivE.mk HE.out (Giv.mk rfl (own_new _ _ _ _) (by rw [HG.out]; exact HB2.out.alloc (by have := HMX.out.le; omega) _))
    · have hz0 : ¬ z < 0 := fun h => hbad (.inl h)
      have hz1 : ¬ (s.size : Int) < z := fun h => hbad (.inr h)
      obtain ⟨p, rfl⟩ : ∃ p : Nat, z = (p : Int) := ⟨z.toNat, by omega⟩
      obtain ⟨N, hN⟩ : ∃ N, szT T = N := ⟨_, rfl⟩
      have hNN := HSZ.out T rfl
      have hN2 := szT_pos T
      have hI : inS T 0 < N ∧ outS T 0 < N ∧ 0 < N := by unfold inS outS; omega
      have hMN : M.fr.length = N := by rw [hok.len, szL_one, hN]
      have HOK := Lib.hid hok
      have HMN := Lib.hid hMN
      have HLL : Hid (∀ l ∈ M.fr, l.length ≤ 9000) := Lib.hid fun l hl => Nat.le_trans (hsm.2 l hl) (by omega)
      rw [hN] at hNN
      obtain ⟨bp, hbp⟩ : ∃ b, w2.heap.size = b := ⟨_, rfl⟩
      have hgb : g < bp := by have := HMX.out.le; omega
      obtain ⟨W3, hW3⟩ : ∃ W, W = w2.alloc (.cells #[.int .i64 (inS T 0 : Nat), .int .i64 (outS T 0 : Nat)] 52) := ⟨_, rfl⟩
      obtain ⟨W4, hW4⟩ : ∃ W, W = W3.alloc (.cells #[.int .i64 (inS T 0 : Nat)] 3) := ⟨_, rfl⟩
      have hb3 : Below w2.heap.size w2 W3 := by rw [hW3]; exact (Below.refl _ _).alloc (Nat.le_refl _) _
      have hs3 : W3.heap.size = bp + 1 := by rw [hW3, ← hbp]; simp
      have hb4 : Below W3.heap.size W3 W4 := by rw [hW4]; exact (Below.refl _ _).alloc (Nat.le_refl _) _
      have hs4 : W4.heap.size = bp + 2 := by rw [hW4]; simp [hs3]
      have hpt3 : PtAt W3 bp (inS T 0) (outS T 0) := by rw [hW3, ← hbp]; exact heap_alloc_new w2 _
      have hm3 := HMX.out.below hb3
      have hf3 : FreeB g W3 bp := HMX.out.free hb3 (by omega) (by omega)
      have hm4 := hm3.below hb4
      have hf4 := (hf3.keeps (hm3.onto hb4)).1
      have hfn : FreeB g W4 (bp + 1) := hm3.free hb4 (by omega) (by omega)
      have hnew : W4.heap[bp + 1]? = some (.cells #[.int .i64 (inS T 0 : Nat)] 3 (0, 0)) := by rw [hW4, ← hs3]; exact heap_alloc_new W3 _
      have hev : EV g bp N T s p p w M [inS T 0] (.slice (some ⟨bp + 1, 0, none⟩) 1 1) (.slice none 0 0) [] W4 := by
        refine ⟨hm4, ⟨rfl, .inr ⟨bp + 1, 1, _, rfl, by omega, hnew, Nat.le_refl _, by decide, rfl, rfl⟩⟩, fun k hk => ?_, own_new _ _ _ _, (fun k hk => by cases hk), hf4, hpt3.onto hb4, HB2.out.trans ((hb3.mono (by omega)).trans (hb4.mono (by omega))), fun x hx => ?_, by rw [List.length_singleton]; decide, RI.zero T M (LS s) p, OutOf.zero T (LS s) p⟩
        · have : k = bp + 1 := by injection hk with hk; exact hk.symm
          subst this
          exact ⟨hfn, by omega, fun e => by cases e⟩
        · rw [List.mem_singleton] at hx; subst hx; exact hI.1
      have HEV := Lib.hid hev
      have p0 := hpt3.c0
      rw [hW3] at hW4 p0
      obtain ⟨I9, hI9⟩ : ∃ x, inS T 0 = x := ⟨_, rfl⟩
      obtain ⟨O9, hO9⟩ : ∃ x, outS T 0 = x := ⟨_, rfl⟩
      have HIO := Lib.hid (show inS T 0 = I9 ∧ outS T 0 = O9 from ⟨hI9, hO9⟩)
      obtain ⟨hI1, hO1, hN0⟩ := hI
      have hpS : p ≤ s.size := by omega
      rw [hI9, hO9] at hW4 p0
      rw [hO9] at hO1
      have hd0 : decide ((p : Int) < 0) = false := decide_eq_false hz0
      have hd1 : decide (s.size < p) = false := decide_eq_false (by omega)
      have hd2 : decide ((s.size : Int) < (p : Int)) = false := decide_eq_false (by omega)
      rw [hI9, hO9]
      clear hb3 hs3 hb4 hs4 hpt3 hm3 hf3 hm4 hf4 hfn hnew hev hbad hok hsm hMN hN hN2 hW3 hI9 hO9 hI1
      go_wp2
      rw [← hW4]
      clear p0 hW4 hbp
      go_loopw [10, 11, 12] (fun ov nv iv wr => ∃ (q : Nat) (xs : List Nat) (out : List Int), p ≤ q ∧ q ≤ s.size ∧ iv = .int .i64 (q : Int) ∧ EV g bp N T s p q w M xs nv ov out wr) (fun _ _ iv _ => s.size - (intOf iv).toNat)
      case atStart => exact ⟨p, _, _, Nat.le_refl _, hpS, rfl, HEV.out⟩
      case round =>
        obtain ⟨q, xs, out, hpq, hqs, rfl, hev⟩ := hrel
        have HE := Lib.hid hev
        obtain ⟨A, cA, rfl, hle, hcm⟩ := own_form hev.nown
        obtain ⟨Ao, co, rfl, hleo, hcmo⟩ := own_form hev.oown
        have hol : out.length ≤ 2000 := Nat.le_trans hev.oo.2.2 (by omega)
        rcases Nat.eq_zero_or_pos xs.length with hx0 | hx0
        · have hxe : xs = [] := List.length_eq_zero_iff.1 hx0
          subst hxe
          have HEN : Hid (EndsOf (some T) s (p : Int) out) := Lib.hid (hev.oo.ends hpS (by omega) (by have h9 := hev.ri.stop HOK.out hpq; rw [LS_len] at h9; exact h9))
          clear hev
          rw [List.length_nil]
          go_wp2
          go_ret
          exact GivE.mk HEN.out (Giv.mk rfl (by rw [HG.out]; exact own_mono9 HE.out.oown (Nat.le_succ _)) (by rw [HG.out]; exact HE.out.bw))
        · have hx1 : (0 : Int) < (xs.length : Int) := by omega
          have HSP := Lib.hid (spread_any g wr M N hev.mx HOK.out.nat HMN.out (by omega) HLL.out (.slice A xs.length cA) xs hev.lt (by have := hev.nl; omega) hev.nown (fun k hk => (hev.nfree k hk).1))
          clear hev
          go_wp2_with fail
          refine HSP.out.mono ?_
          rintro e w5 hgb
          obtain ⟨gi, bs, rfl, hlen, hmk, hes⟩ := HE.out.spread hN0 hgb
          have HES := Lib.hid hes
          have HMK := Lib.hid hmk
          have HLEN := Lib.hid hlen
          have e8 := hes.pt.c1
          rw [HIO.out.2] at e8
          obtain ⟨b, hb⟩ : ∃ b, bs[O9]? = some b := ⟨_, List.getElem?_eq_getElem (by omega)⟩
          have e9 := hes.mark hb
          have HWD : Hid (b = true ↔ inT T (seg (LS s) p q)) := Lib.hid (by
            have h9 := HE.out.ri.word HOK.out hmk
            rw [HIO.out.2, hb] at h9
            rw [← h9]; simp)
          have z0 : (0 : Int) ≤ (O9 : Int) := by omega
          have z1 : (O9 : Int) < (N : Int) := by omega
          have HAP := Lib.hid (app_int hes.oown (q : Int) (by omega) hes.mx.le w5.heap.size rfl)
          have hXs := hes.mx.le
          clear hgb hmk hlen hes hb HSP
          obtain ⟨cb, hcb⟩ : ∃ cb : Nat → UInt8, ∀ h : q < s.size, s[q]'h = cb q := ⟨fun _ => if h : q < s.size then s[q]'h else 0, fun h => by simp [h]⟩
          cases b with
          | true =>
            have HOO : Hid (OutOf T (LS s) p (q + 1) (out ++ [(q : Int)])) := Lib.hid (HE.out.oo.yes hpq (HWD.out.1 rfl))
            rcases Nat.lt_or_ge q s.size with hq1 | hq1
            · have k0 : (0 : Int) ≤ (q : Int) := by omega
              have k1 : (q : Int) < (s.size : Int) := by omega
              have k2 : decide (q < s.size) = true := decide_eq_true hq1
              have k3 : ((q : Int) == (s.size : Int)) = false := by rw [beq_eq_false_iff_ne]; omega
              have HCQ : Hid ((LS s)[q]? = some (cb q)) := Lib.hid (by rw [LS_at s q hq1, hcb])
              go_wp2_with (at_builtin; refine HAP.out _ _ _ _ _ rfl _ _ rfl rfl rfl ?_; intro gg cap w6 hown1 hgrow hat; have HES6 := Lib.hid (HES.out.app hgrow hown1 (by rcases hat with h | h; exact .inl h.symm; exact .inr (by rw [h]; rfl))); clear hown1 hgrow hat)
              refine (on_any g w6 M N HES6.out.mx HMN.out (by omega) (some ⟨gi, 0, none⟩) N bs HES6.out.irow (cb q).toNat (cb q).toNat_lt).mono ?_
              rintro e w7 hgl
              obtain ⟨v7, xs7, rfl, hev7⟩ := HES6.out.on HOK.out HMN.out (by omega) HLEN.out hpq HCQ.out HE.out.ri HMK.out HOO.out hgl
              have HE7 := Lib.hid hev7
              clear hgl hev7
              go_wp2
              go_roundw
              case rel => first | exact ⟨q + 1, xs7, out ++ [(q : Int)], by omega, by omega, by go_num, HE7.out⟩ | ((repeat apply Exists.intro); exact ⟨⟨q + 1, xs7, out ++ [(q : Int)], by omega, by omega, by go_num, HE7.out⟩, rfl⟩)
              case measure => simp [intOf]; omega
            · have hq2 : q = s.size := by omega
              have HEN : Hid (EndsOf (some T) s (p : Int) (out ++ [(q : Int)])) := Lib.hid (HOO.out.ends hpS (by omega) (fun j h1 h2 => by omega))
              have k3 : ((q : Int) == (s.size : Int)) = true := by rw [beq_iff_eq]; omega
              clear hq2
              go_wp2_with (at_builtin; refine HAP.out _ _ _ _ _ rfl _ _ rfl rfl rfl ?_; intro gg cap w6 hown1 hgrow hat; have HES6 := Lib.hid (HES.out.app hgrow hown1 (by rcases hat with h | h; exact .inl h.symm; exact .inr (by rw [h]; rfl))); clear hown1 hgrow hat)
              go_ret
              exact GivE.mk HEN.out (Giv.mk (by simp) (by rw [HG.out]; have h9 := own_mono9 HES6.out.oown (Nat.le_succ _); first | exact h9 | (rw [List.length_append, List.length_singleton] at h9; exact h9)) (by rw [HG.out]; exact HES6.out.bw))
          | false =>
            have HOO : Hid (OutOf T (LS s) p (q + 1) (out)) := Lib.hid (HE.out.oo.no (fun h => by have h9 := HWD.out.2 h; cases h9))
            rcases Nat.lt_or_ge q s.size with hq1 | hq1
            · have k0 : (0 : Int) ≤ (q : Int) := by omega
              have k1 : (q : Int) < (s.size : Int) := by omega
              have k2 : decide (q < s.size) = true := decide_eq_true hq1
              have k3 : ((q : Int) == (s.size : Int)) = false := by rw [beq_eq_false_iff_ne]; omega
              have HCQ : Hid ((LS s)[q]? = some (cb q)) := Lib.hid (by rw [LS_at s q hq1, hcb])
              go_wp2_with fail
              refine (on_any g w5 M N HES.out.mx HMN.out (by omega) (some ⟨gi, 0, none⟩) N bs HES.out.irow (cb q).toNat (cb q).toNat_lt).mono ?_
              rintro e w7 hgl
              obtain ⟨v7, xs7, rfl, hev7⟩ := HES.out.on HOK.out HMN.out (by omega) HLEN.out hpq HCQ.out HE.out.ri HMK.out HOO.out hgl
              have HE7 := Lib.hid hev7
              clear hgl hev7
              go_wp2
              go_roundw
              case rel => first | exact ⟨q + 1, xs7, out, by omega, by omega, by go_num, HE7.out⟩ | ((repeat apply Exists.intro); exact ⟨⟨q + 1, xs7, out, by omega, by omega, by go_num, HE7.out⟩, rfl⟩)
              case measure => simp [intOf]; omega
            · have hq2 : q = s.size := by omega
              have HEN : Hid (EndsOf (some T) s (p : Int) (out)) := Lib.hid (HOO.out.ends hpS (by omega) (fun j h1 h2 => by omega))
              have k3 : ((q : Int) == (s.size : Int)) = true := by rw [beq_iff_eq]; omega
              clear hq2
              go_wp2_with fail
              go_ret
              exact GivE.mk HEN.out (Giv.mk (by simp) (by rw [HG.out]; have h9 := own_mono9 HES.out.oown (Nat.le_succ _); first | exact h9 | (rw [List.length_append, List.length_singleton] at h9; exact h9)) (by rw [HG.out]; exact HES.out.bw))
end Go.Proofs.Ytbefndibkpjgaaa
/- rxfact: whether a word is said. -/
namespace Go.Proofs.Ytbefndibkpjgaaa
open Go.RowKit
set_option linter.unusedVariables false
set_option linter.unusedSimpArgs false

def GivI (z : Int) (xs : List Int) (w : World) (e : Ending) (w' : World) : Prop := ∃ r : Int, e = .returned (.int .i64 r) ∧ (0 ≤ r ↔ z ∈ xs) ∧ w' = w
set_option maxRecDepth 100000 in
set_option maxHeartbeats 4000000 in
theorem index9_any (w : World) (a : Option Addr) (n c : Nat) (xs : List Int) (z : Int) (h : CRow intC 1 w a n xs) :
    Calls Try.prog 50 #[.slice a n c, .int .i64 z] w fun e w' => GivI z xs w e w' := by
  have HH := Lib.hid h
  have HL := Lib.hid h.1
  have hnb := h.2.1
  clear h
  go_enter Try.func50, Try.ntmps50
  go_wp2
  go_loopw [8] (fun i wr => ∃ k : Nat, k ≤ n ∧ i = .int .i64 (k : Int) ∧ z ∉ xs.take k ∧ wr = w) (fun i _ => n - (intOf i).toNat)
  case atStart => exact ⟨0, by omega, rfl, by simp, rfl⟩
  case round =>
    obtain ⟨k, hk, rfl, hno, rfl⟩ := hrel
    have HNO := Lib.hid hno
    clear hno
    by_cases hlt : k < n
    · have h0 : (0 : Int) ≤ (k : Int) := by omega
      have h1 : (k : Int) < (n : Int) := by omega
      obtain ⟨b, off, y, rfl, hbl, hy, d⟩ := HH.out.int hlt
      by_cases hzy : z = y
      · subst hzy
        have e1 : (z == z) = true := by simp
        have HM : Hid (z ∈ xs) := Lib.hid (List.mem_of_getElem? hy)
        clear hy
        go_wp2
        go_ret
        exact ⟨_, rfl, ⟨fun _ => HM.out, fun _ => h0⟩, rfl⟩
      · have e1 : (z == y) = false := by rw [beq_eq_false_iff_ne]; exact hzy
        have HN : Hid (z ∉ xs.take (k + 1)) := Lib.hid (by
          rw [List.take_add_one, hy, Option.toList_some, List.mem_append, List.mem_singleton]
          rintro (h | h)
          · exact HNO.out h
          · exact hzy h)
        clear hy hzy
        go_wp2
        go_roundw
        case rel => exact ⟨k + 1, by omega, by go_num, HN.out, trivial⟩
        case measure => simp [intOf]; omega
    · have hk2 : k = n := by omega
      subst hk2
      have HN : Hid (z ∉ xs) := Lib.hid (by have h9 := HNO.out; rw [List.take_of_length_le (by rw [HL.out]; exact Nat.le_refl _)] at h9; exact h9)
      go_wp2
      go_ret
      exact ⟨-1, rfl, ⟨fun h => by omega, fun h => absurd h HN.out⟩, rfl⟩
theorem contains9_any (w : World) (a : Option Addr) (n c : Nat) (xs : List Int) (z : Int) (h : CRow intC 1 w a n xs) :
    Calls Try.prog 32 #[.slice a n c, .int .i64 z] w fun e w' => ∃ r : Bool, e = .returned (.bool r) ∧ (r = true ↔ z ∈ xs) ∧ w' = w := by
  have HI := Lib.hid (index9_any w a n c xs z h)
  clear h
  go_enter Try.func32, Try.ntmps32
  go_wp2_with fail
  refine HI.out.mono ?_
  rintro e w2 ⟨r, rfl, hr, rfl⟩
  have HR := Lib.hid hr
  clear hr
  go_wp2
  go_ret
  exact ⟨_, rfl, by rw [decide_eq_true_iff]; exact HR.out, rfl⟩
theorem says9p_any (w : World) (a : Option Addr) (n c : Nat) (o : Option RxT) (s : ByteArray) (h : IsRx w a n o) (hn : s.size ≤ 1000) (hnl : n ≤ 300) :
    Calls Try.prog 9 #[.slice a n c, .string s] w fun e w' => GivS o s w e w' := by
  have HE := Lib.hid (ends9_any w a n c o s 0 h hn hnl)
  clear h
  go_enter Try.func9, Try.ntmps9
  go_wp2_with fail
  refine HE.out.mono ?_
  rintro e w2 ⟨xs, hxs, A, cc, rfl, ho, hb⟩
  have HX := Lib.hid hxs
  have HB := Lib.hid hb
  have HI := Lib.hid (contains9_any w2 A xs.length cc xs (s.size : Int) (own_row intC_len ho))
  clear hxs ho hb HE
  go_wp2_with fail
  refine HI.out.mono ?_
  rintro e w3 ⟨r, rfl, hr, rfl⟩
  have HR := Lib.hid hr
  clear hr HI
  go_wp2
  go_ret
  exact GivS.mk (by rw [HR.out, ends_says HX.out]) HB.out
end Go.Proofs.Ytbefndibkpjgaaa
