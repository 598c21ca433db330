/- Several texts in one: Leads, Says9, Reads. -/
import Derived.Test.YtmkgipoljbiocaaTw13
import Derived.Test.YtmkgipoljbiocaaTw5
import Derived.Test.YtmkgipoljbiocaaTw1
import Derived.Test.YtmkgipoljbiocaaTw11
import Derived.Test.YtmkgipoljbiocaaTw10
/- From place to place of a word: the document's leads. -/
namespace Go.Proofs.Ytmkgipoljbiocaa
open Go.RowKit
set_option linter.unusedVariables false
set_option linter.unusedSimpArgs false

theorem infoMats : (Try.prog.info? 91).map (fun i => (i.zero, i.size, i.bytes)) = some (some (.slice none 0 0), 1, 24) := by kernel_rfl
/-- A matrix on the stack, and what part it is of. -/
structure MEl where
  a : Option Addr
  c : Nat
  f : Mx
  T : RxT
instance : Inhabited MEl := ⟨⟨none, 0, fun _ _ => false, .empty⟩⟩
def meC (m : Nat) (x : MEl) : List Value := [.slice x.a m x.c]
theorem meC_len (m : Nat) (x : MEl) : (meC m x).length = 1 := rfl
theorem meC_one (m : Nat) (x : MEl) : ∀ u ∈ meC m x, u.oneCell' = true := fun u hu => by simp [meC] at hu; subst hu; rfl
def MEl.ok (x : MEl) (w : World) (m : Nat) (s : ByteArray) : Prop := MatR w x.a m x.f ∧ LM (inT x.T) (LS s) x.f
theorem app_mats {m : Nat} {w : World} {base n : Nat} {v : Value} {xs : List MEl} (hown : w.ownsRow base 91 1 v n (xs.flatMap (meC m))) {a : Option Addr} {k c : Nat} {os : List MEl} (hr : CRow (meC m) 1 w a k os) (hn : n + k ≤ 100000) (hbase : base ≤ w.heap.size)
    (ops : Array Oper) (rest : List Oper) (o : Oper) (act : Act) (Q : Exit → Act → World → Prop) (hg : o.guard = none) (s x : Operand) (ho : o.op = .call { callee := .builtin .append, args := #[s, x], argTypes := #[105, 105] })
    (hs : act.eval s = v) (hx : act.eval x = .slice a k c)
    (h : ∀ v' w', w'.ownsRow base 91 1 v' (n + k) ((xs ++ os).flatMap (meC m)) → w.grownBy w' v.ownBlock → (v'.ownBlock = v.ownBlock ∨ v'.ownBlock = some w.heap.size) →
      wpList Try.prog ops Q rest (act.put o.dst v') w') : wpList Try.prog ops Q (o :: rest) act w := by
  obtain ⟨i0, hii, hz0, hz1, hz2⟩ := info_parts infoMats
  exact wpList_append_row w hg s x 105 ho base 91 i0 _ 24 Try.underlying105 hii hz0 hz1 hz2 rfl (by omega) (meC_len m) (meC_one m) v n (xs.flatMap (meC m)) hs hown a k c os hx hr (by unfold maxLen; omega) (by omega) hbase
    fun v' w' h1 h2 h3 => h v' w' (by rw [List.flatMap_append]; exact h1) h2 h3
theorem app_mat {m : Nat} {w : World} {base n : Nat} {v : Value} {os : List MEl} (hown : w.ownsRow base 91 1 v n (os.flatMap (meC m))) (z : MEl) (hn : n ≤ 100000) (hbase : base ≤ w.heap.size) (H : Nat) (hH : w.heap.size = H)
    (ops : Array Oper) (rest : List Oper) (o : Oper) (a : Act) (Q : Exit → Act → World → Prop) (hg : o.guard = none) (s x : Operand) (ho : o.op = .call { callee := .builtin .append, args := #[s, x], argTypes := #[105, 105] })
    (hs : a.eval s = v) (hx : a.eval x = .slice (some ⟨H, 0, none⟩) 1 1)
    (h : ∀ g cap w', w'.ownsRow base 91 1 (.slice (some ⟨g, 0, none⟩) (n + 1) cap) (n + 1) ((os ++ [z]).flatMap (meC m)) → (w.alloc (.cells #[.slice z.a m z.c] 91)).grownBy w' v.ownBlock → (v.ownBlock = some g ∨ g = H + 1) →
      wpList Try.prog ops Q rest (a.put o.dst (.slice (some ⟨g, 0, none⟩) (n + 1) cap)) w') : wpList Try.prog ops Q (o :: rest) a (w.alloc (.cells #[.slice z.a m z.c] 91)) :=
  app_el (P := Try.prog) (C := meC m) (T := 105) (by decide) (meC_len m) (meC_one m) Try.underlying105 infoMats rfl hown z (by unfold maxLen; omega) (by omega) hbase H hH #[.slice z.a m z.c] rfl ops rest o a Q hg s x ho hs hx h
theorem crow_take {α : Type} {C : α → List Value} {k : Nat} {w : World} {a : Option Addr} {n : Nat} {os : List α} (h : CRow C k w a n os) {d : Nat} (hd : d ≤ n) : CRow C k w a d (os.take d) := by
  obtain ⟨h1, h2, h3⟩ := h
  refine ⟨by rw [List.length_take]; omega, by omega, fun hp => ?_⟩
  obtain ⟨b, off, ha, hb, hc⟩ := h3 (by omega)
  refine ⟨b, off, ha, hb, fun i o hi j v hv => hc i o ?_ j v hv⟩
  rw [List.getElem?_take] at hi
  split at hi
  · exact hi
  · cases hi
/-- The matrix of a call, whatever of it lies where. -/
def mxV (m : Nat) (f : Mx) (v : Value) (x : World) : Prop := ∃ A c, v = .slice A m c ∧ MatR x A m f
theorem mxV_mono (m : Nat) (f : Mx) : ∀ v x y, mxV m f v x → Onto x y → mxV m f v y := fun v x y ⟨A, c, e, h⟩ hE => ⟨A, c, e, h.below hE⟩
theorem st_top {es : List MEl} {b : RxT} {st : List RxT} (h : (es.map MEl.T).reverse = b :: st) : ∃ es' x, es = es' ++ [x] ∧ x.T = b ∧ (es'.map MEl.T).reverse = st := by
  have hne : es ≠ [] := fun e => by rw [e] at h; simp at h
  refine ⟨es.dropLast, es.getLast hne, (List.dropLast_concat_getLast hne).symm, ?_⟩
  have e : es = es.dropLast ++ [es.getLast hne] := (List.dropLast_concat_getLast hne).symm
  rw [e] at h
  simpa using h
def GivL (w : World) (m : Nat) (L : List UInt8 → Prop) (s : ByteArray) (e : Ending) (w' : World) : Prop := ∃ A c f, e = .returned (.slice A m c) ∧ MatR w' A m f ∧ LM L (LS s) f ∧ Below w.heap.size w w'
theorem GivL.mk {w w' : World} {m : Nat} {L : List UInt8 → Prop} {s : ByteArray} {A : Option Addr} {c : Nat} {f : Mx} (h : MatR w' A m f) (hl : LM L (LS s) f) (hb : Below w.heap.size w w') : GivL w m L s (.returned (.slice A m c)) w' := ⟨A, c, f, rfl, h, hl, hb⟩
theorem ev_len {l : List Rx} {st : List RxT} {T : RxT} (h : evT l st = some [T]) : st.length ≤ l.length + 1 := by
  induction l generalizing st with
  | nil => simp only [evT, Option.some.injEq] at h; rw [h]; simp
  | cons r l ih =>
    obtain ⟨st', hw, h2⟩ := ev_cons h
    have := ih h2
    cases hw <;> simp at this ⊢ <;> omega
set_option maxRecDepth 100000 in
set_option maxHeartbeats 8000000 in
theorem leads9_any (w : World) (a : Option Addr) (n c : Nat) (T : RxT) (s : ByteArray) (m : Nat) (hm : (s.size : Int) + 1 = (m : Int)) (hn : s.size ≤ 1000) (h : CRow rxC 5 w a n (post T)) (hnl : n ≤ 600) :
    Calls Try.prog 63 #[.slice a n c, .string s] w fun e w' => GivL w m (inT T) s e w' := by
  have HL := Lib.hid h.1
  have hl2 := h.2.1
  have HH := Lib.hid h
  have HEV := Lib.hid (ev_all T)
  obtain ⟨g, hg⟩ : ∃ g, w.heap.size = g := ⟨_, rfl⟩
  have HG := Lib.hid hg
  have HB0 := Lib.hid (show Below g w (w.alloc (.cells #[] 91)) by rw [← hg]; exact (Below.refl _ _).alloc (Nat.le_refl _) _)
  have HO0 := Lib.hid (own_zero w g 91 1 (by omega))
  have HSA := Lib.hid (fun X => same9_any X s m hm hn)
  have HLS := Lib.hid (LS_len s)
  clear hg h
  go_enter Try.func63, Try.ntmps63
  go_wp2
  go_loopw [5, 6] (fun u i wr => ∃ (j : Nat) (es : List MEl) (gs cap : Nat), j ≤ n ∧ i = .int .i64 (j : Int) ∧ u = .slice (some ⟨gs, 0, none⟩) es.length cap ∧ es.length ≤ cap ∧ wr.ownsRow g 91 1 u es.length (es.flatMap (meC m)) ∧ (∀ x ∈ es, x.ok wr m s) ∧ evT ((post T).drop j) (es.map MEl.T).reverse = some [T] ∧ Below g w wr) (fun _ i _ => n - (intOf i).toNat)
  case atStart => exact ⟨0, [], _, 0, by omega, rfl, rfl, Nat.le_refl _, HO0.out, fun x hx => by simp at hx, by simpa using HEV.out, HB0.out⟩
  case round =>
    obtain ⟨j, es, gs, cap, hj, rfl, rfl, hcap, hown, hok, hev, hb⟩ := hrel
    have HB := Lib.hid hb
    have HOW := Lib.hid hown
    have HOK := Lib.hid hok
    have hgl : g ≤ wr.heap.size := by have := HG.out; have := hb.size; omega
    have hcm : cap ≤ 9223372036854775807 := by
      obtain ⟨A', c', e, _, h9⟩ := own_form hown
      injection e with _ _ e3
      omega
    have hrow := own_row (meC_len m) hown
    have HROW := Lib.hid hrow
    clear hb hown hok HO0 HB0
    by_cases hlt : j < n
    · obtain ⟨b1, o1, r, rfl, hbl, hr, hc⟩ := (HH.out.below (w' := wr) (by rw [HG.out]; exact HB.out)).at_ hlt
      rw [drop_at hr] at hev
      obtain ⟨st', hstep, hev2⟩ := ev_cons hev
      have HEV2 := Lib.hid hev2
      have hlen := ev_len hev
      simp only [List.length_cons, List.length_drop, List.length_reverse, List.length_map] at hlen
      have hle : es.length ≤ 1000 := by have := HL.out; omega
      have HCX : Hid (∀ X, Below wr.heap.size wr X → X.cell? ⟨b1, o1 + j * 5, none⟩ = some (.int .i64 r.k) ∧ X.cell? ⟨b1, o1 + j * 5 + 1, none⟩ = some (.int .u64 (wd r.s 0)) ∧ X.cell? ⟨b1, o1 + j * 5 + 2, none⟩ = some (.int .u64 (wd r.s 1)) ∧ X.cell? ⟨b1, o1 + j * 5 + 3, none⟩ = some (.int .u64 (wd r.s 2)) ∧ X.cell? ⟨b1, o1 + j * 5 + 4, none⟩ = some (.int .u64 (wd r.s 3))) := Lib.hid fun X hX => by
        have kp : ∀ i u, wr.cell? ⟨b1, i, none⟩ = some u → X.cell? ⟨b1, i, none⟩ = some u := fun i u h => (hX.cell (p := ⟨b1, i, none⟩) hbl).trans h
        exact ⟨kp _ _ (hc 0 _ rfl), kp _ _ (hc 1 _ rfl), kp _ _ (hc 2 _ rfl), kp _ _ (hc 3 _ rfl), kp _ _ (hc 4 _ rfl)⟩
      have z0 : (0 : Int) ≤ (j : Int) := by omega
      have z1 : (j : Int) < (n : Int) := by omega
      have c0 := (HCX.out wr (Below.refl _ _)).1
      clear hev hev2 hr hc hlen
      obtain ⟨st0, hst⟩ : ∃ x, (es.map MEl.T).reverse = x := ⟨_, rfl⟩
      rw [hst] at hstep
      cases hstep with
      | set S st =>
        subst hst
        obtain ⟨d, hd⟩ : ∃ d, es.length = d := ⟨_, rfl⟩
        have HD := Lib.hid hd
        rw [hd] at hcap hle HOW HROW ⊢
        have y0 : (d : Int) - 0 = (d : Int) := by omega
        clear hd
        have HOF := Lib.hid (fun X => rof_any 1 X)
        rw [show ofZ 1 = 0 from rfl] at HOF
        dsimp only at HCX c0
        go_wp2_with fail
        refine (HOF.out _).mono ?_
        rintro e w2 ⟨rfl, hw2⟩
        subst hw2
        go_wp2_with fail
        refine (HSA.out _).mono ?_
        rintro e w2 ⟨A2, c2, rfl, hM2, hb2⟩
        have HM2 := Lib.hid hM2
        have HB2 := Lib.hid hb2
        obtain ⟨x0, x1, x2, x3, x4⟩ := HCX.out w2 hb2
        clear hM2 hb2 c0
        have HST := Lib.hid (set9_any w2 S s m hm hn)
        unfold setV at HST
        go_wp2_with fail
        refine HST.out.mono ?_
        rintro e w3 ⟨A3, c3, rfl, hM3, hb3⟩
        have HM3 := Lib.hid hM3
        have HBT := Lib.hid (HB2.out.trans (hb3.mono HB2.out.size))
        clear hM3 hb3 x0 x1 x2 x3 x4
        have hsz3 : wr.heap.size ≤ w3.heap.size := HBT.out.size
        have HR3 := Lib.hid (crow_take (HROW.out.below HBT.out) (d := d) (by omega))
        have HTK : Hid (es.take d = es) := Lib.hid (by rw [← HD.out]; simp)
        rw [HTK.out] at HR3
        have HO3 := Lib.hid (own_zero w3 w3.heap.size 91 1 (Nat.le_refl _))
        have HA3 := Lib.hid (app_mats (m := m) (c := cap) (xs := []) HO3.out (HR3.out.below ((Below.refl w3.heap.size w3).alloc (Nat.le_refl _) (.cells #[] 91))) (by omega) (by simp))
        have z8 : (d : Int) ≤ (cap : Int) := by omega
        have z9 : (0 : Int) ≤ (d : Int) := by omega
        go_wp2_with (first
          | (at_builtin
             refine HA3.out _ _ _ _ _ rfl _ _ rfl rfl rfl ?_
             intro v' w5 hown1 hgrow1 hat1
             rw [List.nil_append, Nat.zero_add] at hown1
             have HO5 := Lib.hid hown1
             have hb5 : Below w3.heap.size w3 w5 := below_grown ((Below.refl w3.heap.size w3).alloc (Nat.le_refl _) (.cells #[] 91)) (by simp) hgrow1 (fun q hq => (own_ge HO3.out hq).1)
             have HB5 := Lib.hid hb5
             have h5s := hb5.size
             obtain ⟨A5, c5, rfl, _, _⟩ := own_form hown1
             have HA5 := Lib.hid (app_mat HO5.out (⟨A3, c3, setM S (LS s), .set S⟩ : MEl) (by omega) hb5.size w5.heap.size rfl)
             clear hown1 hgrow1 hat1 hb5)
          | (at_builtin
             refine HA5.out _ _ _ _ _ rfl _ _ rfl rfl rfl ?_
             intro gg cc w6 hown2 hgrow2 hat2
             have HO6 := Lib.hid hown2
             have HB6 := Lib.hid (below_grown (HB5.out.alloc h5s (.cells #[.slice (A3) m (c3)] 91)) (by simp; omega) hgrow2 (fun q hq => (own_ge HO5.out hq).1))
             clear hown2 hgrow2 hat2))
        go_roundw
        case rel =>
          have hbt : Below wr.heap.size wr w6 := HBT.out.trans (HB6.out.mono hsz3)
          obtain ⟨A', c', e', hle', _⟩ := own_form HO6.out
          injection e' with _ _ e3
          refine ⟨j + 1, es ++ [⟨A3, c3, setM S (LS s), .set S⟩], gg, cc, by omega, by go_num, by simp [HD.out], by simp [HD.out]; omega, by rw [List.length_append, HD.out]; exact own_mono HO6.out (by omega), fun x hx => ?_, ?_, HB.out.trans (hbt.mono hgl)⟩
          · rcases List.mem_append.1 hx with hx | hx
            · obtain ⟨h1, h2⟩ := HOK.out x (hx)
              exact ⟨h1.below hbt, h2⟩
            · rw [List.mem_singleton] at hx
              subst hx
              exact ⟨HM3.out.below HB6.out, lm_set S (LS s)⟩
          · have h9 := HEV2.out
            simpa [HD.out] using h9
        case measure => simp [intOf]; omega
      | empty S st =>
        subst hst
        obtain ⟨d, hd⟩ : ∃ d, es.length = d := ⟨_, rfl⟩
        have HD := Lib.hid hd
        rw [hd] at hcap hle HOW HROW ⊢
        have y0 : (d : Int) - 0 = (d : Int) := by omega
        clear hd
        have HOF := Lib.hid (fun X => rof_any 2 X)
        rw [show ofZ 2 = 0 from rfl] at HOF
        dsimp only at HCX c0
        go_wp2_with fail
        refine (HOF.out _).mono ?_
        rintro e w2 ⟨rfl, hw2⟩
        subst hw2
        go_wp2_with fail
        refine (HSA.out _).mono ?_
        rintro e w2 ⟨A2, c2, rfl, hM2, hb2⟩
        have HM2 := Lib.hid hM2
        have HB2 := Lib.hid hb2
        obtain ⟨x0, x1, x2, x3, x4⟩ := HCX.out w2 hb2
        clear hM2 hb2 c0
        have HBT := Lib.hid HB2.out
        have hsz3 : wr.heap.size ≤ w2.heap.size := HBT.out.size
        have HR3 := Lib.hid (crow_take (HROW.out.below HBT.out) (d := d) (by omega))
        have HTK : Hid (es.take d = es) := Lib.hid (by rw [← HD.out]; simp)
        rw [HTK.out] at HR3
        have HO3 := Lib.hid (own_zero w2 w2.heap.size 91 1 (Nat.le_refl _))
        have HA3 := Lib.hid (app_mats (m := m) (c := cap) (xs := []) HO3.out (HR3.out.below ((Below.refl w2.heap.size w2).alloc (Nat.le_refl _) (.cells #[] 91))) (by omega) (by simp))
        have z8 : (d : Int) ≤ (cap : Int) := by omega
        have z9 : (0 : Int) ≤ (d : Int) := by omega
        go_wp2_with (first
          | (at_builtin
             refine HA3.out _ _ _ _ _ rfl _ _ rfl rfl rfl ?_
             intro v' w5 hown1 hgrow1 hat1
             rw [List.nil_append, Nat.zero_add] at hown1
             have HO5 := Lib.hid hown1
             have hb5 : Below w2.heap.size w2 w5 := below_grown ((Below.refl w2.heap.size w2).alloc (Nat.le_refl _) (.cells #[] 91)) (by simp) hgrow1 (fun q hq => (own_ge HO3.out hq).1)
             have HB5 := Lib.hid hb5
             have h5s := hb5.size
             obtain ⟨A5, c5, rfl, _, _⟩ := own_form hown1
             have HA5 := Lib.hid (app_mat HO5.out (⟨A2, c2, sameM, .empty⟩ : MEl) (by omega) hb5.size w5.heap.size rfl)
             clear hown1 hgrow1 hat1 hb5)
          | (at_builtin
             refine HA5.out _ _ _ _ _ rfl _ _ rfl rfl rfl ?_
             intro gg cc w6 hown2 hgrow2 hat2
             have HO6 := Lib.hid hown2
             have HB6 := Lib.hid (below_grown (HB5.out.alloc h5s (.cells #[.slice (A2) m (c2)] 91)) (by simp; omega) hgrow2 (fun q hq => (own_ge HO5.out hq).1))
             clear hown2 hgrow2 hat2))
        go_roundw
        case rel =>
          have hbt : Below wr.heap.size wr w6 := HBT.out.trans (HB6.out.mono hsz3)
          obtain ⟨A', c', e', hle', _⟩ := own_form HO6.out
          injection e' with _ _ e3
          refine ⟨j + 1, es ++ [⟨A2, c2, sameM, .empty⟩], gg, cc, by omega, by go_num, by simp [HD.out], by simp [HD.out]; omega, by rw [List.length_append, HD.out]; exact own_mono HO6.out (by omega), fun x hx => ?_, ?_, HB.out.trans (hbt.mono hgl)⟩
          · rcases List.mem_append.1 hx with hx | hx
            · obtain ⟨h1, h2⟩ := HOK.out x (hx)
              exact ⟨h1.below hbt, h2⟩
            · rw [List.mem_singleton] at hx
              subst hx
              exact ⟨HM2.out.below HB6.out, lm_empty (LS s)⟩
          · have h9 := HEV2.out
            simpa [HD.out] using h9
        case measure => simp [intOf]; omega
      | cat S a' b' st =>
        obtain ⟨es1, eb, rfl, hTb, hst1⟩ := st_top hst
        obtain ⟨es0, ea, rfl, hTa, hst0⟩ := st_top hst1
        subst hTb hTa hst0
        obtain ⟨d, hd⟩ : ∃ d, es0.length = d := ⟨_, rfl⟩
        have HD := Lib.hid hd
        have e0 : (es0 ++ [ea] ++ [eb]).length = d + 2 := by simp [hd]
        rw [e0] at hcap hle HOW HROW ⊢
        have hOA := HOK.out ea (by simp)
        have hOB := HOK.out eb (by simp)
        have HOA := Lib.hid hOA
        have HOB := Lib.hid hOB
        have HEA : Hid ((es0 ++ [ea] ++ [eb])[d]? = some ea) := Lib.hid (by rw [List.append_assoc, List.getElem?_append_right (by omega), hd, Nat.sub_self]; rfl)
        have HEB : Hid ((es0 ++ [ea] ++ [eb])[d + 1]? = some eb) := Lib.hid (by rw [List.getElem?_append_right (by simp [hd])]; simp [hd])
        have y0 : ((d + 2 : Nat) : Int) - 2 = (d : Int) := by omega
        have y1 : (d : Int) < ((d + 2 : Nat) : Int) := by omega
        have y2 : (d : Int) + 1 < ((d + 2 : Nat) : Int) := by omega
        have y3 : (0 : Int) ≤ (d : Int) := by omega
        have y4 : (d : Int) + 2 - 2 = (d : Int) := by omega
        have y5 : (d : Int) < (d : Int) + 2 := by omega
        have y6 : (d : Int) + 1 < (d : Int) + 2 := by omega
        clear hd e0 hst1 hOA hOB
        have HOF := Lib.hid (fun X => rof_any 3 X)
        rw [show ofZ 3 = 2 from rfl] at HOF
        dsimp only at HCX c0
        go_wp2_with fail
        refine (HOF.out _).mono ?_
        rintro e w2 ⟨rfl, hw2⟩
        subst hw2
        go_wp2_with fail
        refine (HSA.out _).mono ?_
        rintro e w2 ⟨A2, c2, rfl, hM2, hb2⟩
        have HM2 := Lib.hid hM2
        have HB2 := Lib.hid hb2
        obtain ⟨x0, x1, x2, x3, x4⟩ := HCX.out w2 hb2
        clear hM2 hb2 c0
        have cA : w2.cell? ⟨gs, d, none⟩ = some (.slice ea.a m ea.c) := by
          have h9 := ((HROW.out.below HB2.out).2.2 (by omega))
          obtain ⟨b9, o9, e9, _, hc9⟩ := h9
          have h8 := hc9 _ _ HEA.out 0 _ rfl
          simp only [Option.some.injEq, Addr.mk.injEq, and_true] at e9
          obtain ⟨rfl, rfl⟩ := e9
          simpa using h8
        have cB : w2.cell? ⟨gs, d + 1, none⟩ = some (.slice eb.a m eb.c) := by
          have h9 := ((HROW.out.below HB2.out).2.2 (by omega))
          obtain ⟨b9, o9, e9, _, hc9⟩ := h9
          have h8 := hc9 _ _ HEB.out 0 _ rfl
          simp only [Option.some.injEq, Addr.mk.injEq, and_true] at e9
          obtain ⟨rfl, rfl⟩ := e9
          simpa using h8
        have HCL : Hid (∀ X, Onto w2.drew X → Calls Try.prog 78 #[.slice ea.a m ea.c, .slice eb.a m eb.c, .string s] X fun e w' => GivM X m (behM s.size ea.f eb.f) e w') := Lib.hid fun X hX => behind9_any X ea.a eb.a ea.c eb.c ea.f eb.f s m hm hn (HOA.out.1.below (HB2.out.trans ((onto_drew hX).mono HB2.out.size))) (HOB.out.1.below (HB2.out.trans ((onto_drew hX).mono HB2.out.size)))
        have HWK : Hid (IntKind.i64.wrap ((d : Int) + 1) = (d : Int) + 1) := Lib.hid (IntWalk.i64_in _ ⟨by omega, by omega⟩)
        go_wp2_with fail
        refine wp_region_fam_tail_lit (E := Onto) 11 1
          [isV (.slice (some ⟨gs, 0, none⟩) (d + 2) cap),
           isV (.int .i64 (d : Int)),
           isV (.pointer (some ⟨gs, d, none⟩)),
           isV (.slice ea.a m ea.c),
           isV (.slice (some ⟨gs, 0, none⟩) (d + 2) cap),
           isV (.int .i64 (d : Int)),
           isV (.int .i64 ((d : Int) + 1)),
           isV (.pointer (some ⟨gs, d + 1, none⟩)),
           isV (.slice eb.a m eb.c),
           isV (.string s),
           mxV m (behM s.size ea.f eb.f)]
          [some 43, some 44, some 45, some 46, some 47, some 48, some 49, some 50, some 51, some 52, some 53] #[true, true, true, true, true, true, true, true, true, true, true, false] (by kernel_rfl) rfl (by kernel_rfl) (by kernel_rfl) rfl rfl rfl Onto.trans Onto.refl ?monoC ?obC ?qC
        case monoC => exact ⟨isV_mono _ _, isV_mono _ _, isV_mono _ _, isV_mono _ _, isV_mono _ _, isV_mono _ _, isV_mono _ _, isV_mono _ _, isV_mono _ _, isV_mono _ _, mxV_mono _ _, trivial⟩
        case obC =>
          refine Obs.cons (j := 1) rfl ?_ ?_
          · refine Ob.free [(5, none)] (by kernel_rfl) (isV (.slice (some ⟨gs, 0, none⟩) (d + 2) cap)) rfl rfl (fun a X hE hL => ?_)
            simp [Seen, slotAt] at hL
            have h5 := hL
            rw [relAt_eq]
            go_simp
            exact ⟨Onto.refl _, rfl⟩
          refine Obs.cons (j := 2) rfl ?_ ?_
          · refine Ob.free [(7, none)] (by kernel_rfl) (isV (.int .i64 (d : Int))) rfl rfl (fun a X hE hL => ?_)
            simp [Seen, slotAt] at hL
            have h7 := hL
            rw [relAt_eq]
            go_simp
            exact ⟨Onto.refl _, rfl⟩
          refine Obs.cons (j := 3) rfl ?_ ?_
          · refine Ob.free [(43, some 0), (44, some 1)] (by kernel_rfl) (isV (.pointer (some ⟨gs, d, none⟩))) rfl rfl (fun a X hE hL => ?_)
            simp [Seen, slotAt, famV, isV] at hL
            obtain ⟨h43, h44⟩ := hL
            rw [relAt_eq]
            go_simp
            exact ⟨Onto.refl _, rfl⟩
          refine Obs.cons (j := 4) rfl ?_ ?_
          · refine Ob.free [(45, some 2)] (by kernel_rfl) (isV (.slice ea.a m ea.c)) rfl rfl (fun a X hE hL => ?_)
            simp [Seen, slotAt, famV, isV] at hL
            have h45 := hL
            rw [relAt_eq]
            have f0 := keeps hE _ _ cA
            go_simp
            exact ⟨Onto.refl _, rfl⟩
          refine Obs.cons (j := 5) rfl ?_ ?_
          · refine Ob.free [(5, none)] (by kernel_rfl) (isV (.slice (some ⟨gs, 0, none⟩) (d + 2) cap)) rfl rfl (fun a X hE hL => ?_)
            simp [Seen, slotAt] at hL
            have h5 := hL
            rw [relAt_eq]
            go_simp
            exact ⟨Onto.refl _, rfl⟩
          refine Obs.cons (j := 6) rfl ?_ ?_
          · refine Ob.free [(7, none)] (by kernel_rfl) (isV (.int .i64 (d : Int))) rfl rfl (fun a X hE hL => ?_)
            simp [Seen, slotAt] at hL
            have h7 := hL
            rw [relAt_eq]
            go_simp
            exact ⟨Onto.refl _, rfl⟩
          refine Obs.cons (j := 7) rfl ?_ ?_
          · refine Ob.free [(48, some 5)] (by kernel_rfl) (isV (.int .i64 ((d : Int) + 1))) rfl rfl (fun a X hE hL => ?_)
            simp [Seen, slotAt, famV, isV] at hL
            have h48 := hL
            rw [relAt_eq]
            go_simp
            exact ⟨Onto.refl _, congrArg (Value.int .i64) HWK.out⟩
          refine Obs.cons (j := 8) rfl ?_ ?_
          · refine Ob.free [(47, some 4), (49, some 6)] (by kernel_rfl) (isV (.pointer (some ⟨gs, d + 1, none⟩))) rfl rfl (fun a X hE hL => ?_)
            simp [Seen, slotAt, famV, isV] at hL
            obtain ⟨h47, h49⟩ := hL
            rw [relAt_eq]
            go_simp
            exact ⟨Onto.refl _, rfl⟩
          refine Obs.cons (j := 9) rfl ?_ ?_
          · refine Ob.free [(50, some 7)] (by kernel_rfl) (isV (.slice eb.a m eb.c)) rfl rfl (fun a X hE hL => ?_)
            simp [Seen, slotAt, famV, isV] at hL
            have h50 := hL
            rw [relAt_eq]
            have f0 := keeps hE _ _ cB
            go_simp
            exact ⟨Onto.refl _, rfl⟩
          refine Obs.cons (j := 10) rfl ?_ ?_
          · refine Ob.free [(1, none)] (by kernel_rfl) (isV (.string s)) rfl rfl (fun a X hE hL => ?_)
            simp [Seen, slotAt] at hL
            have h1 := hL
            rw [relAt_eq]
            go_simp
            exact ⟨Onto.refl _, rfl⟩
          refine Obs.cons (j := 11) rfl ?_ ?_
          · refine Ob.free [(46, some 3), (51, some 8), (52, some 9)] (by kernel_rfl) (mxV m (behM s.size ea.f eb.f)) rfl rfl (fun a X hE hL => ?_)
            simp [Seen, slotAt, famV, isV] at hL
            obtain ⟨h46, h51, h52⟩ := hL
            rw [relAt_eq]
            go_simp
            rw [relUpon_enter]
            go_at_call 78
            refine (HCL.out X hE).mono ?_
            rintro e Y ⟨A, c, rfl, hM, hY⟩
            exact ⟨_, rfl, hY, A, c, rfl, hM⟩
          exact trivial
        case qC =>
          intro x w3 hE hV
          simp [AllV, famV, isV] at hV
          obtain ⟨-, -, -, -, -, -, -, -, -, -, h53⟩ := hV
          simp only [puts, Act.put, List.setIfInBounds_toArray, List.set_cons_zero, List.set_cons_succ]
          generalize x 43 = y43
          generalize x 44 = y44
          generalize x 45 = y45
          generalize x 46 = y46
          generalize x 47 = y47
          generalize x 48 = y48
          generalize x 49 = y49
          generalize x 50 = y50
          generalize x 51 = y51
          generalize x 52 = y52
          generalize x 53 = y53 at h53 ⊢
          have hb3 := onto_drew hE
          obtain ⟨A3, c3, rfl, hM3⟩ := h53
          have HM3 := Lib.hid hM3
          have HBT := Lib.hid (HB2.out.trans (hb3.mono HB2.out.size))
          clear hE hM3 hb3
          refine wpAny_take (i := 11) (v := .slice A3 m c3) rfl (by kernel_rfl) (by kernel_rfl) (by kernel_rfl) (fun _ _ _ h => h) (Or.inl ⟨by rfl, fun X => ?_⟩) ?_
          · go_simp
          try simp only [Act.put, List.getElem_toArray, List.getElem_cons_succ, List.getElem_cons_zero, List.setIfInBounds_toArray, List.set_cons_zero, List.set_cons_succ]
          refine wpAny_done (by kernel_rfl) ?_ _
          have hsz3 : wr.heap.size ≤ w3.heap.size := HBT.out.size
          have HR3 := Lib.hid (crow_take (HROW.out.below HBT.out) (d := d) (by omega))
          have HTK : Hid ((es0 ++ [ea] ++ [eb]).take d = es0) := Lib.hid (by rw [← HD.out]; simp)
          rw [HTK.out] at HR3
          have HO3 := Lib.hid (own_zero w3 w3.heap.size 91 1 (Nat.le_refl _))
          have HA3 := Lib.hid (app_mats (m := m) (c := cap) (xs := []) HO3.out (HR3.out.below ((Below.refl w3.heap.size w3).alloc (Nat.le_refl _) (.cells #[] 91))) (by omega) (by simp))
          have z8 : (d : Int) ≤ (cap : Int) := by omega
          have z9 : (0 : Int) ≤ (d : Int) := by omega
          go_wp2_with (first
            | (at_builtin
               refine HA3.out _ _ _ _ _ rfl _ _ rfl rfl rfl ?_
               intro v' w5 hown1 hgrow1 hat1
               rw [List.nil_append, Nat.zero_add] at hown1
               have HO5 := Lib.hid hown1
               have hb5 : Below w3.heap.size w3 w5 := below_grown ((Below.refl w3.heap.size w3).alloc (Nat.le_refl _) (.cells #[] 91)) (by simp) hgrow1 (fun q hq => (own_ge HO3.out hq).1)
               have HB5 := Lib.hid hb5
               have h5s := hb5.size
               obtain ⟨A5, c5, rfl, _, _⟩ := own_form hown1
               have HA5 := Lib.hid (app_mat HO5.out (⟨A3, c3, behM s.size ea.f eb.f, .cat ea.T eb.T⟩ : MEl) (by omega) hb5.size w5.heap.size rfl)
               clear hown1 hgrow1 hat1 hb5)
            | (at_builtin
               refine HA5.out _ _ _ _ _ rfl _ _ rfl rfl rfl ?_
               intro gg cc w6 hown2 hgrow2 hat2
               have HO6 := Lib.hid hown2
               have HB6 := Lib.hid (below_grown (HB5.out.alloc h5s (.cells #[.slice (A3) m (c3)] 91)) (by simp; omega) hgrow2 (fun q hq => (own_ge HO5.out hq).1))
               clear hown2 hgrow2 hat2))
          go_roundw
          case rel =>
            have hbt : Below wr.heap.size wr w6 := HBT.out.trans (HB6.out.mono hsz3)
            obtain ⟨A', c', e', hle', _⟩ := own_form HO6.out
            injection e' with _ _ e3
            refine ⟨j + 1, es0 ++ [⟨A3, c3, behM s.size ea.f eb.f, .cat ea.T eb.T⟩], gg, cc, by omega, by go_num, by simp [HD.out], by simp [HD.out]; omega, by rw [List.length_append, HD.out]; exact own_mono HO6.out (by omega), fun x hx => ?_, ?_, HB.out.trans (hbt.mono hgl)⟩
            · rcases List.mem_append.1 hx with hx | hx
              · obtain ⟨h1, h2⟩ := HOK.out x (List.mem_append_left _ (List.mem_append_left _ hx))
                exact ⟨h1.below hbt, h2⟩
              · rw [List.mem_singleton] at hx
                subst hx
                exact ⟨HM3.out.below HB6.out, by have h9 := lm_cat HOA.out.2 HOB.out.2; rwa [HLS.out] at h9⟩
            · have h9 := HEV2.out
              simpa [HD.out] using h9
          case measure => simp [intOf]; omega
      | alt S a' b' st =>
        obtain ⟨es1, eb, rfl, hTb, hst1⟩ := st_top hst
        obtain ⟨es0, ea, rfl, hTa, hst0⟩ := st_top hst1
        subst hTb hTa hst0
        obtain ⟨d, hd⟩ : ∃ d, es0.length = d := ⟨_, rfl⟩
        have HD := Lib.hid hd
        have e0 : (es0 ++ [ea] ++ [eb]).length = d + 2 := by simp [hd]
        rw [e0] at hcap hle HOW HROW ⊢
        have hOA := HOK.out ea (by simp)
        have hOB := HOK.out eb (by simp)
        have HOA := Lib.hid hOA
        have HOB := Lib.hid hOB
        have HEA : Hid ((es0 ++ [ea] ++ [eb])[d]? = some ea) := Lib.hid (by rw [List.append_assoc, List.getElem?_append_right (by omega), hd, Nat.sub_self]; rfl)
        have HEB : Hid ((es0 ++ [ea] ++ [eb])[d + 1]? = some eb) := Lib.hid (by rw [List.getElem?_append_right (by simp [hd])]; simp [hd])
        have y0 : ((d + 2 : Nat) : Int) - 2 = (d : Int) := by omega
        have y1 : (d : Int) < ((d + 2 : Nat) : Int) := by omega
        have y2 : (d : Int) + 1 < ((d + 2 : Nat) : Int) := by omega
        have y3 : (0 : Int) ≤ (d : Int) := by omega
        have y4 : (d : Int) + 2 - 2 = (d : Int) := by omega
        have y5 : (d : Int) < (d : Int) + 2 := by omega
        have y6 : (d : Int) + 1 < (d : Int) + 2 := by omega
        clear hd e0 hst1 hOA hOB
        have HOF := Lib.hid (fun X => rof_any 4 X)
        rw [show ofZ 4 = 2 from rfl] at HOF
        dsimp only at HCX c0
        go_wp2_with fail
        refine (HOF.out _).mono ?_
        rintro e w2 ⟨rfl, hw2⟩
        subst hw2
        go_wp2_with fail
        refine (HSA.out _).mono ?_
        rintro e w2 ⟨A2, c2, rfl, hM2, hb2⟩
        have HM2 := Lib.hid hM2
        have HB2 := Lib.hid hb2
        obtain ⟨x0, x1, x2, x3, x4⟩ := HCX.out w2 hb2
        clear hM2 hb2 c0
        have cA : w2.cell? ⟨gs, d, none⟩ = some (.slice ea.a m ea.c) := by
          have h9 := ((HROW.out.below HB2.out).2.2 (by omega))
          obtain ⟨b9, o9, e9, _, hc9⟩ := h9
          have h8 := hc9 _ _ HEA.out 0 _ rfl
          simp only [Option.some.injEq, Addr.mk.injEq, and_true] at e9
          obtain ⟨rfl, rfl⟩ := e9
          simpa using h8
        have cB : w2.cell? ⟨gs, d + 1, none⟩ = some (.slice eb.a m eb.c) := by
          have h9 := ((HROW.out.below HB2.out).2.2 (by omega))
          obtain ⟨b9, o9, e9, _, hc9⟩ := h9
          have h8 := hc9 _ _ HEB.out 0 _ rfl
          simp only [Option.some.injEq, Addr.mk.injEq, and_true] at e9
          obtain ⟨rfl, rfl⟩ := e9
          simpa using h8
        have HCL : Hid (∀ X, Onto w2.drew X → Calls Try.prog 79 #[.slice ea.a m ea.c, .slice eb.a m eb.c, .string s] X fun e w' => GivM X m (bothM ea.f eb.f) e w') := Lib.hid fun X hX => both9_any X ea.a eb.a ea.c eb.c ea.f eb.f s m hm hn (HOA.out.1.below (HB2.out.trans ((onto_drew hX).mono HB2.out.size))) (HOB.out.1.below (HB2.out.trans ((onto_drew hX).mono HB2.out.size)))
        have HWK : Hid (IntKind.i64.wrap ((d : Int) + 1) = (d : Int) + 1) := Lib.hid (IntWalk.i64_in _ ⟨by omega, by omega⟩)
        go_wp2_with fail
        refine wp_region_fam_tail_lit (E := Onto) 11 1
          [isV (.slice (some ⟨gs, 0, none⟩) (d + 2) cap),
           isV (.int .i64 (d : Int)),
           isV (.pointer (some ⟨gs, d, none⟩)),
           isV (.slice ea.a m ea.c),
           isV (.slice (some ⟨gs, 0, none⟩) (d + 2) cap),
           isV (.int .i64 (d : Int)),
           isV (.int .i64 ((d : Int) + 1)),
           isV (.pointer (some ⟨gs, d + 1, none⟩)),
           isV (.slice eb.a m eb.c),
           isV (.string s),
           mxV m (bothM ea.f eb.f)]
          [some 56, some 57, some 58, some 59, some 60, some 61, some 62, some 63, some 64, some 65, some 66] #[true, true, true, true, true, true, true, true, true, true, true, false] (by kernel_rfl) rfl (by kernel_rfl) (by kernel_rfl) rfl rfl rfl Onto.trans Onto.refl ?monoD ?obD ?qD
        case monoD => exact ⟨isV_mono _ _, isV_mono _ _, isV_mono _ _, isV_mono _ _, isV_mono _ _, isV_mono _ _, isV_mono _ _, isV_mono _ _, isV_mono _ _, isV_mono _ _, mxV_mono _ _, trivial⟩
        case obD =>
          refine Obs.cons (j := 1) rfl ?_ ?_
          · refine Ob.free [(5, none)] (by kernel_rfl) (isV (.slice (some ⟨gs, 0, none⟩) (d + 2) cap)) rfl rfl (fun a X hE hL => ?_)
            simp [Seen, slotAt] at hL
            have h5 := hL
            rw [relAt_eq]
            go_simp
            exact ⟨Onto.refl _, rfl⟩
          refine Obs.cons (j := 2) rfl ?_ ?_
          · refine Ob.free [(7, none)] (by kernel_rfl) (isV (.int .i64 (d : Int))) rfl rfl (fun a X hE hL => ?_)
            simp [Seen, slotAt] at hL
            have h7 := hL
            rw [relAt_eq]
            go_simp
            exact ⟨Onto.refl _, rfl⟩
          refine Obs.cons (j := 3) rfl ?_ ?_
          · refine Ob.free [(56, some 0), (57, some 1)] (by kernel_rfl) (isV (.pointer (some ⟨gs, d, none⟩))) rfl rfl (fun a X hE hL => ?_)
            simp [Seen, slotAt, famV, isV] at hL
            obtain ⟨h56, h57⟩ := hL
            rw [relAt_eq]
            go_simp
            exact ⟨Onto.refl _, rfl⟩
          refine Obs.cons (j := 4) rfl ?_ ?_
          · refine Ob.free [(58, some 2)] (by kernel_rfl) (isV (.slice ea.a m ea.c)) rfl rfl (fun a X hE hL => ?_)
            simp [Seen, slotAt, famV, isV] at hL
            have h58 := hL
            rw [relAt_eq]
            have f0 := keeps hE _ _ cA
            go_simp
            exact ⟨Onto.refl _, rfl⟩
          refine Obs.cons (j := 5) rfl ?_ ?_
          · refine Ob.free [(5, none)] (by kernel_rfl) (isV (.slice (some ⟨gs, 0, none⟩) (d + 2) cap)) rfl rfl (fun a X hE hL => ?_)
            simp [Seen, slotAt] at hL
            have h5 := hL
            rw [relAt_eq]
            go_simp
            exact ⟨Onto.refl _, rfl⟩
          refine Obs.cons (j := 6) rfl ?_ ?_
          · refine Ob.free [(7, none)] (by kernel_rfl) (isV (.int .i64 (d : Int))) rfl rfl (fun a X hE hL => ?_)
            simp [Seen, slotAt] at hL
            have h7 := hL
            rw [relAt_eq]
            go_simp
            exact ⟨Onto.refl _, rfl⟩
          refine Obs.cons (j := 7) rfl ?_ ?_
          · refine Ob.free [(61, some 5)] (by kernel_rfl) (isV (.int .i64 ((d : Int) + 1))) rfl rfl (fun a X hE hL => ?_)
            simp [Seen, slotAt, famV, isV] at hL
            have h61 := hL
            rw [relAt_eq]
            go_simp
            exact ⟨Onto.refl _, congrArg (Value.int .i64) HWK.out⟩
          refine Obs.cons (j := 8) rfl ?_ ?_
          · refine Ob.free [(60, some 4), (62, some 6)] (by kernel_rfl) (isV (.pointer (some ⟨gs, d + 1, none⟩))) rfl rfl (fun a X hE hL => ?_)
            simp [Seen, slotAt, famV, isV] at hL
            obtain ⟨h60, h62⟩ := hL
            rw [relAt_eq]
            go_simp
            exact ⟨Onto.refl _, rfl⟩
          refine Obs.cons (j := 9) rfl ?_ ?_
          · refine Ob.free [(63, some 7)] (by kernel_rfl) (isV (.slice eb.a m eb.c)) rfl rfl (fun a X hE hL => ?_)
            simp [Seen, slotAt, famV, isV] at hL
            have h63 := hL
            rw [relAt_eq]
            have f0 := keeps hE _ _ cB
            go_simp
            exact ⟨Onto.refl _, rfl⟩
          refine Obs.cons (j := 10) rfl ?_ ?_
          · refine Ob.free [(1, none)] (by kernel_rfl) (isV (.string s)) rfl rfl (fun a X hE hL => ?_)
            simp [Seen, slotAt] at hL
            have h1 := hL
            rw [relAt_eq]
            go_simp
            exact ⟨Onto.refl _, rfl⟩
          refine Obs.cons (j := 11) rfl ?_ ?_
          · refine Ob.free [(59, some 3), (64, some 8), (65, some 9)] (by kernel_rfl) (mxV m (bothM ea.f eb.f)) rfl rfl (fun a X hE hL => ?_)
            simp [Seen, slotAt, famV, isV] at hL
            obtain ⟨h59, h64, h65⟩ := hL
            rw [relAt_eq]
            go_simp
            rw [relUpon_enter]
            go_at_call 79
            refine (HCL.out X hE).mono ?_
            rintro e Y ⟨A, c, rfl, hM, hY⟩
            exact ⟨_, rfl, hY, A, c, rfl, hM⟩
          exact trivial
        case qD =>
          intro x w3 hE hV
          simp [AllV, famV, isV] at hV
          obtain ⟨-, -, -, -, -, -, -, -, -, -, h66⟩ := hV
          simp only [puts, Act.put, List.setIfInBounds_toArray, List.set_cons_zero, List.set_cons_succ]
          generalize x 56 = y56
          generalize x 57 = y57
          generalize x 58 = y58
          generalize x 59 = y59
          generalize x 60 = y60
          generalize x 61 = y61
          generalize x 62 = y62
          generalize x 63 = y63
          generalize x 64 = y64
          generalize x 65 = y65
          generalize x 66 = y66 at h66 ⊢
          have hb3 := onto_drew hE
          obtain ⟨A3, c3, rfl, hM3⟩ := h66
          have HM3 := Lib.hid hM3
          have HBT := Lib.hid (HB2.out.trans (hb3.mono HB2.out.size))
          clear hE hM3 hb3
          refine wpAny_take (i := 11) (v := .slice A3 m c3) rfl (by kernel_rfl) (by kernel_rfl) (by kernel_rfl) (fun _ _ _ h => h) (Or.inl ⟨by rfl, fun X => ?_⟩) ?_
          · go_simp
          try simp only [Act.put, List.getElem_toArray, List.getElem_cons_succ, List.getElem_cons_zero, List.setIfInBounds_toArray, List.set_cons_zero, List.set_cons_succ]
          refine wpAny_done (by kernel_rfl) ?_ _
          have hsz3 : wr.heap.size ≤ w3.heap.size := HBT.out.size
          have HR3 := Lib.hid (crow_take (HROW.out.below HBT.out) (d := d) (by omega))
          have HTK : Hid ((es0 ++ [ea] ++ [eb]).take d = es0) := Lib.hid (by rw [← HD.out]; simp)
          rw [HTK.out] at HR3
          have HO3 := Lib.hid (own_zero w3 w3.heap.size 91 1 (Nat.le_refl _))
          have HA3 := Lib.hid (app_mats (m := m) (c := cap) (xs := []) HO3.out (HR3.out.below ((Below.refl w3.heap.size w3).alloc (Nat.le_refl _) (.cells #[] 91))) (by omega) (by simp))
          have z8 : (d : Int) ≤ (cap : Int) := by omega
          have z9 : (0 : Int) ≤ (d : Int) := by omega
          go_wp2_with (first
            | (at_builtin
               refine HA3.out _ _ _ _ _ rfl _ _ rfl rfl rfl ?_
               intro v' w5 hown1 hgrow1 hat1
               rw [List.nil_append, Nat.zero_add] at hown1
               have HO5 := Lib.hid hown1
               have hb5 : Below w3.heap.size w3 w5 := below_grown ((Below.refl w3.heap.size w3).alloc (Nat.le_refl _) (.cells #[] 91)) (by simp) hgrow1 (fun q hq => (own_ge HO3.out hq).1)
               have HB5 := Lib.hid hb5
               have h5s := hb5.size
               obtain ⟨A5, c5, rfl, _, _⟩ := own_form hown1
               have HA5 := Lib.hid (app_mat HO5.out (⟨A3, c3, bothM ea.f eb.f, .alt ea.T eb.T⟩ : MEl) (by omega) hb5.size w5.heap.size rfl)
               clear hown1 hgrow1 hat1 hb5)
            | (at_builtin
               refine HA5.out _ _ _ _ _ rfl _ _ rfl rfl rfl ?_
               intro gg cc w6 hown2 hgrow2 hat2
               have HO6 := Lib.hid hown2
               have HB6 := Lib.hid (below_grown (HB5.out.alloc h5s (.cells #[.slice (A3) m (c3)] 91)) (by simp; omega) hgrow2 (fun q hq => (own_ge HO5.out hq).1))
               clear hown2 hgrow2 hat2))
          go_roundw
          case rel =>
            have hbt : Below wr.heap.size wr w6 := HBT.out.trans (HB6.out.mono hsz3)
            obtain ⟨A', c', e', hle', _⟩ := own_form HO6.out
            injection e' with _ _ e3
            refine ⟨j + 1, es0 ++ [⟨A3, c3, bothM ea.f eb.f, .alt ea.T eb.T⟩], gg, cc, by omega, by go_num, by simp [HD.out], by simp [HD.out]; omega, by rw [List.length_append, HD.out]; exact own_mono HO6.out (by omega), fun x hx => ?_, ?_, HB.out.trans (hbt.mono hgl)⟩
            · rcases List.mem_append.1 hx with hx | hx
              · obtain ⟨h1, h2⟩ := HOK.out x (List.mem_append_left _ (List.mem_append_left _ hx))
                exact ⟨h1.below hbt, h2⟩
              · rw [List.mem_singleton] at hx
                subst hx
                exact ⟨HM3.out.below HB6.out, lm_alt HOA.out.2 HOB.out.2⟩
            · have h9 := HEV2.out
              simpa [HD.out] using h9
          case measure => simp [intOf]; omega
      | star S a' st =>
        obtain ⟨es0, ea, rfl, hTa, hst0⟩ := st_top hst
        subst hTa hst0
        obtain ⟨d, hd⟩ : ∃ d, es0.length = d := ⟨_, rfl⟩
        have HD := Lib.hid hd
        have e0 : (es0 ++ [ea]).length = d + 1 := by simp [hd]
        rw [e0] at hcap hle HOW HROW ⊢
        have hOA := HOK.out ea (by simp)
        have HOA := Lib.hid hOA
        have HEA : Hid ((es0 ++ [ea])[d]? = some ea) := Lib.hid (by rw [List.getElem?_append_right (by omega), hd, Nat.sub_self]; rfl)
        have y0 : ((d + 1 : Nat) : Int) - 1 = (d : Int) := by omega
        have y1 : (d : Int) < ((d + 1 : Nat) : Int) := by omega
        have y3 : (0 : Int) ≤ (d : Int) := by omega
        have y4 : (d : Int) + 1 - 1 = (d : Int) := by omega
        have y5 : (d : Int) < (d : Int) + 1 := by omega
        clear hd e0 hOA
        have HOF := Lib.hid (fun X => rof_any 5 X)
        rw [show ofZ 5 = 1 from rfl] at HOF
        dsimp only at HCX c0
        go_wp2_with fail
        refine (HOF.out _).mono ?_
        rintro e w2 ⟨rfl, hw2⟩
        subst hw2
        go_wp2_with fail
        refine (HSA.out _).mono ?_
        rintro e w2 ⟨A2, c2, rfl, hM2, hb2⟩
        have HM2 := Lib.hid hM2
        have HB2 := Lib.hid hb2
        obtain ⟨x0, x1, x2, x3, x4⟩ := HCX.out w2 hb2
        clear hM2 hb2 c0
        have cA : w2.cell? ⟨gs, d, none⟩ = some (.slice ea.a m ea.c) := by
          have h9 := ((HROW.out.below HB2.out).2.2 (by omega))
          obtain ⟨b9, o9, e9, _, hc9⟩ := h9
          have h8 := hc9 _ _ HEA.out 0 _ rfl
          simp only [Option.some.injEq, Addr.mk.injEq, and_true] at e9
          obtain ⟨rfl, rfl⟩ := e9
          simpa using h8
        have HMA := Lib.hid (HOA.out.1.below HB2.out)
        have HAG := Lib.hid (again9_any w2 ea.a ea.c ea.f s m hm hn HMA.out)
        go_wp2_with fail
        refine HAG.out.mono ?_
        rintro e w3 ⟨r9, hr9, A4, c4, rfl, hM4, hb3⟩
        have HR9 := Lib.hid hr9
        have HM4 := Lib.hid hM4
        have HB3 := Lib.hid (HB2.out.trans (hb3.mono HB2.out.size))
        have HBO := Lib.hid (both9_any w3 A2 A4 c2 c4 sameM (agM s.size ea.f r9) s m hm hn (HM2.out.below hb3) hM4)
        clear hr9 hM4 hb3
        go_wp2_with fail
        refine HBO.out.mono ?_
        rintro e w9 ⟨A3, c3, rfl, hM3, hb9⟩
        have HM3 := Lib.hid hM3
        have HBT := Lib.hid (HB3.out.trans (hb9.mono HB3.out.size))
        clear hM3 hb9 cA
        have hsz3 : wr.heap.size ≤ w9.heap.size := HBT.out.size
        have HR3 := Lib.hid (crow_take (HROW.out.below HBT.out) (d := d) (by omega))
        have HTK : Hid ((es0 ++ [ea]).take d = es0) := Lib.hid (by rw [← HD.out]; simp)
        rw [HTK.out] at HR3
        have HO3 := Lib.hid (own_zero w9 w9.heap.size 91 1 (Nat.le_refl _))
        have HA3 := Lib.hid (app_mats (m := m) (c := cap) (xs := []) HO3.out (HR3.out.below ((Below.refl w9.heap.size w9).alloc (Nat.le_refl _) (.cells #[] 91))) (by omega) (by simp))
        have z8 : (d : Int) ≤ (cap : Int) := by omega
        have z9 : (0 : Int) ≤ (d : Int) := by omega
        go_wp2_with (first
          | (at_builtin
             refine HA3.out _ _ _ _ _ rfl _ _ rfl rfl rfl ?_
             intro v' w5 hown1 hgrow1 hat1
             rw [List.nil_append, Nat.zero_add] at hown1
             have HO5 := Lib.hid hown1
             have hb5 : Below w9.heap.size w9 w5 := below_grown ((Below.refl w9.heap.size w9).alloc (Nat.le_refl _) (.cells #[] 91)) (by simp) hgrow1 (fun q hq => (own_ge HO3.out hq).1)
             have HB5 := Lib.hid hb5
             have h5s := hb5.size
             obtain ⟨A5, c5, rfl, _, _⟩ := own_form hown1
             have HA5 := Lib.hid (app_mat HO5.out (⟨A3, c3, bothM sameM (agM s.size ea.f r9), .star ea.T⟩ : MEl) (by omega) hb5.size w5.heap.size rfl)
             clear hown1 hgrow1 hat1 hb5)
          | (at_builtin
             refine HA5.out _ _ _ _ _ rfl _ _ rfl rfl rfl ?_
             intro gg cc w6 hown2 hgrow2 hat2
             have HO6 := Lib.hid hown2
             have HB6 := Lib.hid (below_grown (HB5.out.alloc h5s (.cells #[.slice (A3) m (c3)] 91)) (by simp; omega) hgrow2 (fun q hq => (own_ge HO5.out hq).1))
             clear hown2 hgrow2 hat2))
        go_roundw
        case rel =>
          have hbt : Below wr.heap.size wr w6 := HBT.out.trans (HB6.out.mono hsz3)
          obtain ⟨A', c', e', hle', _⟩ := own_form HO6.out
          injection e' with _ _ e3
          refine ⟨j + 1, es0 ++ [⟨A3, c3, bothM sameM (agM s.size ea.f r9), .star ea.T⟩], gg, cc, by omega, by go_num, by simp [HD.out], by simp [HD.out]; omega, by rw [List.length_append, HD.out]; exact own_mono HO6.out (by omega), fun x hx => ?_, ?_, HB.out.trans (hbt.mono hgl)⟩
          · rcases List.mem_append.1 hx with hx | hx
            · obtain ⟨h1, h2⟩ := HOK.out x (List.mem_append_left _ hx)
              exact ⟨h1.below hbt, h2⟩
            · rw [List.mem_singleton] at hx
              subst hx
              exact ⟨HM3.out.below HB6.out, by have h9 := lm_star HOA.out.2 (r := r9) (by rw [HLS.out]; exact HR9.out); rwa [HLS.out] at h9⟩
          · have h9 := HEV2.out
            simpa [HD.out] using h9
        case measure => simp [intOf]; omega
      | plus S a' st =>
        obtain ⟨es0, ea, rfl, hTa, hst0⟩ := st_top hst
        subst hTa hst0
        obtain ⟨d, hd⟩ : ∃ d, es0.length = d := ⟨_, rfl⟩
        have HD := Lib.hid hd
        have e0 : (es0 ++ [ea]).length = d + 1 := by simp [hd]
        rw [e0] at hcap hle HOW HROW ⊢
        have hOA := HOK.out ea (by simp)
        have HOA := Lib.hid hOA
        have HEA : Hid ((es0 ++ [ea])[d]? = some ea) := Lib.hid (by rw [List.getElem?_append_right (by omega), hd, Nat.sub_self]; rfl)
        have y0 : ((d + 1 : Nat) : Int) - 1 = (d : Int) := by omega
        have y1 : (d : Int) < ((d + 1 : Nat) : Int) := by omega
        have y3 : (0 : Int) ≤ (d : Int) := by omega
        have y4 : (d : Int) + 1 - 1 = (d : Int) := by omega
        have y5 : (d : Int) < (d : Int) + 1 := by omega
        clear hd e0 hOA
        have HOF := Lib.hid (fun X => rof_any 6 X)
        rw [show ofZ 6 = 1 from rfl] at HOF
        dsimp only at HCX c0
        go_wp2_with fail
        refine (HOF.out _).mono ?_
        rintro e w2 ⟨rfl, hw2⟩
        subst hw2
        go_wp2_with fail
        refine (HSA.out _).mono ?_
        rintro e w2 ⟨A2, c2, rfl, hM2, hb2⟩
        have HM2 := Lib.hid hM2
        have HB2 := Lib.hid hb2
        obtain ⟨x0, x1, x2, x3, x4⟩ := HCX.out w2 hb2
        clear hM2 hb2 c0
        have cA : w2.cell? ⟨gs, d, none⟩ = some (.slice ea.a m ea.c) := by
          have h9 := ((HROW.out.below HB2.out).2.2 (by omega))
          obtain ⟨b9, o9, e9, _, hc9⟩ := h9
          have h8 := hc9 _ _ HEA.out 0 _ rfl
          simp only [Option.some.injEq, Addr.mk.injEq, and_true] at e9
          obtain ⟨rfl, rfl⟩ := e9
          simpa using h8
        have HMA := Lib.hid (HOA.out.1.below HB2.out)
        have HAG := Lib.hid (again9_any w2 ea.a ea.c ea.f s m hm hn HMA.out)
        go_wp2_with fail
        refine HAG.out.mono ?_
        rintro e w9 ⟨r9, hr9, A3, c3, rfl, hM3, hb3⟩
        have HR9 := Lib.hid hr9
        have HM3 := Lib.hid hM3
        have HBT := Lib.hid (HB2.out.trans (hb3.mono HB2.out.size))
        clear hr9 hM3 hb3 cA
        have hsz3 : wr.heap.size ≤ w9.heap.size := HBT.out.size
        have HR3 := Lib.hid (crow_take (HROW.out.below HBT.out) (d := d) (by omega))
        have HTK : Hid ((es0 ++ [ea]).take d = es0) := Lib.hid (by rw [← HD.out]; simp)
        rw [HTK.out] at HR3
        have HO3 := Lib.hid (own_zero w9 w9.heap.size 91 1 (Nat.le_refl _))
        have HA3 := Lib.hid (app_mats (m := m) (c := cap) (xs := []) HO3.out (HR3.out.below ((Below.refl w9.heap.size w9).alloc (Nat.le_refl _) (.cells #[] 91))) (by omega) (by simp))
        have z8 : (d : Int) ≤ (cap : Int) := by omega
        have z9 : (0 : Int) ≤ (d : Int) := by omega
        go_wp2_with (first
          | (at_builtin
             refine HA3.out _ _ _ _ _ rfl _ _ rfl rfl rfl ?_
             intro v' w5 hown1 hgrow1 hat1
             rw [List.nil_append, Nat.zero_add] at hown1
             have HO5 := Lib.hid hown1
             have hb5 : Below w9.heap.size w9 w5 := below_grown ((Below.refl w9.heap.size w9).alloc (Nat.le_refl _) (.cells #[] 91)) (by simp) hgrow1 (fun q hq => (own_ge HO3.out hq).1)
             have HB5 := Lib.hid hb5
             have h5s := hb5.size
             obtain ⟨A5, c5, rfl, _, _⟩ := own_form hown1
             have HA5 := Lib.hid (app_mat HO5.out (⟨A3, c3, agM s.size ea.f r9, .plus ea.T⟩ : MEl) (by omega) hb5.size w5.heap.size rfl)
             clear hown1 hgrow1 hat1 hb5)
          | (at_builtin
             refine HA5.out _ _ _ _ _ rfl _ _ rfl rfl rfl ?_
             intro gg cc w6 hown2 hgrow2 hat2
             have HO6 := Lib.hid hown2
             have HB6 := Lib.hid (below_grown (HB5.out.alloc h5s (.cells #[.slice (A3) m (c3)] 91)) (by simp; omega) hgrow2 (fun q hq => (own_ge HO5.out hq).1))
             clear hown2 hgrow2 hat2))
        go_roundw
        case rel =>
          have hbt : Below wr.heap.size wr w6 := HBT.out.trans (HB6.out.mono hsz3)
          obtain ⟨A', c', e', hle', _⟩ := own_form HO6.out
          injection e' with _ _ e3
          refine ⟨j + 1, es0 ++ [⟨A3, c3, agM s.size ea.f r9, .plus ea.T⟩], gg, cc, by omega, by go_num, by simp [HD.out], by simp [HD.out]; omega, by rw [List.length_append, HD.out]; exact own_mono HO6.out (by omega), fun x hx => ?_, ?_, HB.out.trans (hbt.mono hgl)⟩
          · rcases List.mem_append.1 hx with hx | hx
            · obtain ⟨h1, h2⟩ := HOK.out x (List.mem_append_left _ hx)
              exact ⟨h1.below hbt, h2⟩
            · rw [List.mem_singleton] at hx
              subst hx
              exact ⟨HM3.out.below HB6.out, by have h9 := lm_plus HOA.out.2 (r := r9) (by rw [HLS.out]; exact HR9.out); rwa [HLS.out] at h9⟩
          · have h9 := HEV2.out
            simpa [HD.out] using h9
        case measure => simp [intOf]; omega
      | opt S a' st =>
        obtain ⟨es0, ea, rfl, hTa, hst0⟩ := st_top hst
        subst hTa hst0
        obtain ⟨d, hd⟩ : ∃ d, es0.length = d := ⟨_, rfl⟩
        have HD := Lib.hid hd
        have e0 : (es0 ++ [ea]).length = d + 1 := by simp [hd]
        rw [e0] at hcap hle HOW HROW ⊢
        have hOA := HOK.out ea (by simp)
        have HOA := Lib.hid hOA
        have HEA : Hid ((es0 ++ [ea])[d]? = some ea) := Lib.hid (by rw [List.getElem?_append_right (by omega), hd, Nat.sub_self]; rfl)
        have y0 : ((d + 1 : Nat) : Int) - 1 = (d : Int) := by omega
        have y1 : (d : Int) < ((d + 1 : Nat) : Int) := by omega
        have y3 : (0 : Int) ≤ (d : Int) := by omega
        have y4 : (d : Int) + 1 - 1 = (d : Int) := by omega
        have y5 : (d : Int) < (d : Int) + 1 := by omega
        clear hd e0 hOA
        have HOF := Lib.hid (fun X => rof_any 7 X)
        rw [show ofZ 7 = 1 from rfl] at HOF
        dsimp only at HCX c0
        go_wp2_with fail
        refine (HOF.out _).mono ?_
        rintro e w2 ⟨rfl, hw2⟩
        subst hw2
        go_wp2_with fail
        refine (HSA.out _).mono ?_
        rintro e w2 ⟨A2, c2, rfl, hM2, hb2⟩
        have HM2 := Lib.hid hM2
        have HB2 := Lib.hid hb2
        obtain ⟨x0, x1, x2, x3, x4⟩ := HCX.out w2 hb2
        clear hM2 hb2 c0
        have cA : w2.cell? ⟨gs, d, none⟩ = some (.slice ea.a m ea.c) := by
          have h9 := ((HROW.out.below HB2.out).2.2 (by omega))
          obtain ⟨b9, o9, e9, _, hc9⟩ := h9
          have h8 := hc9 _ _ HEA.out 0 _ rfl
          simp only [Option.some.injEq, Addr.mk.injEq, and_true] at e9
          obtain ⟨rfl, rfl⟩ := e9
          simpa using h8
        have HMA := Lib.hid (HOA.out.1.below HB2.out)
        have HBO := Lib.hid (both9_any w2 A2 ea.a c2 ea.c sameM ea.f s m hm hn HM2.out HMA.out)
        go_wp2_with fail
        refine HBO.out.mono ?_
        rintro e w9 ⟨A3, c3, rfl, hM3, hb9⟩
        have HM3 := Lib.hid hM3
        have HBT := Lib.hid (HB2.out.trans (hb9.mono HB2.out.size))
        clear hM3 hb9 cA
        have hsz3 : wr.heap.size ≤ w9.heap.size := HBT.out.size
        have HR3 := Lib.hid (crow_take (HROW.out.below HBT.out) (d := d) (by omega))
        have HTK : Hid ((es0 ++ [ea]).take d = es0) := Lib.hid (by rw [← HD.out]; simp)
        rw [HTK.out] at HR3
        have HO3 := Lib.hid (own_zero w9 w9.heap.size 91 1 (Nat.le_refl _))
        have HA3 := Lib.hid (app_mats (m := m) (c := cap) (xs := []) HO3.out (HR3.out.below ((Below.refl w9.heap.size w9).alloc (Nat.le_refl _) (.cells #[] 91))) (by omega) (by simp))
        have z8 : (d : Int) ≤ (cap : Int) := by omega
        have z9 : (0 : Int) ≤ (d : Int) := by omega
        go_wp2_with (first
          | (at_builtin
             refine HA3.out _ _ _ _ _ rfl _ _ rfl rfl rfl ?_
             intro v' w5 hown1 hgrow1 hat1
             rw [List.nil_append, Nat.zero_add] at hown1
             have HO5 := Lib.hid hown1
             have hb5 : Below w9.heap.size w9 w5 := below_grown ((Below.refl w9.heap.size w9).alloc (Nat.le_refl _) (.cells #[] 91)) (by simp) hgrow1 (fun q hq => (own_ge HO3.out hq).1)
             have HB5 := Lib.hid hb5
             have h5s := hb5.size
             obtain ⟨A5, c5, rfl, _, _⟩ := own_form hown1
             have HA5 := Lib.hid (app_mat HO5.out (⟨A3, c3, bothM sameM ea.f, .opt ea.T⟩ : MEl) (by omega) hb5.size w5.heap.size rfl)
             clear hown1 hgrow1 hat1 hb5)
          | (at_builtin
             refine HA5.out _ _ _ _ _ rfl _ _ rfl rfl rfl ?_
             intro gg cc w6 hown2 hgrow2 hat2
             have HO6 := Lib.hid hown2
             have HB6 := Lib.hid (below_grown (HB5.out.alloc h5s (.cells #[.slice (A3) m (c3)] 91)) (by simp; omega) hgrow2 (fun q hq => (own_ge HO5.out hq).1))
             clear hown2 hgrow2 hat2))
        go_roundw
        case rel =>
          have hbt : Below wr.heap.size wr w6 := HBT.out.trans (HB6.out.mono hsz3)
          obtain ⟨A', c', e', hle', _⟩ := own_form HO6.out
          injection e' with _ _ e3
          refine ⟨j + 1, es0 ++ [⟨A3, c3, bothM sameM ea.f, .opt ea.T⟩], gg, cc, by omega, by go_num, by simp [HD.out], by simp [HD.out]; omega, by rw [List.length_append, HD.out]; exact own_mono HO6.out (by omega), fun x hx => ?_, ?_, HB.out.trans (hbt.mono hgl)⟩
          · rcases List.mem_append.1 hx with hx | hx
            · obtain ⟨h1, h2⟩ := HOK.out x (List.mem_append_left _ hx)
              exact ⟨h1.below hbt, h2⟩
            · rw [List.mem_singleton] at hx
              subst hx
              exact ⟨HM3.out.below HB6.out, lm_opt HOA.out.2⟩
          · have h9 := HEV2.out
            simpa [HD.out] using h9
        case measure => simp [intOf]; omega
    · have hjn : j = n := by omega
      subst hjn
      rw [List.drop_of_length_le (by rw [HL.out]; exact Nat.le_refl _)] at hev
      simp only [evT, Option.some.injEq] at hev
      obtain ⟨es0, x, rfl, hT, h0⟩ := st_top hev
      have h00 : es0 = [] := by simpa using h0
      subst h00
      subst hT
      obtain ⟨hM, hLM⟩ := HOK.out x (by simp)
      have HM := Lib.hid hM
      have HLM := Lib.hid hLM
      have cS : wr.cell? ⟨gs, 0, none⟩ = some (.slice x.a m x.c) := by
        obtain ⟨b9, o9, e9, _, hc9⟩ := HROW.out.2.2 (by simp)
        have h8 := hc9 0 x rfl 0 _ rfl
        simp only [Option.some.injEq, Addr.mk.injEq, and_true] at e9
        obtain ⟨rfl, rfl⟩ := e9
        simpa using h8
      have z1 : ¬ (j : Int) < (j : Int) := by omega
      clear hM hLM hev h0
      go_wp2
      go_ret
      exact GivL.mk HM.out HLM.out (by rw [HG.out]; exact HB.out)
end Go.Proofs.Ytmkgipoljbiocaa
/- Where words end, and whether a word is said: the document's. -/
namespace Go.Proofs.Ytmkgipoljbiocaa
open Go.RowKit
set_option linter.unusedVariables false
set_option linter.unusedSimpArgs false

/-- The places where words end that begin at a place. -/
def EndsOf (o : Option RxT) (s : ByteArray) (z : Int) (xs : List Int) : Prop :=
  xs.Pairwise (· < ·) ∧ ∀ p : Int, p ∈ xs ↔ ∃ T, o = some T ∧ 0 ≤ z ∧ z ≤ (s.size : Int) ∧ ∃ q : Nat, p = (q : Int) ∧ q ≤ s.size ∧ z.toNat ≤ q ∧ inT T (seg (LS s) z.toNat q)
def upE (f : Mx) (at_ k : Nat) : List Int := ((List.range k).filter fun q => f at_ q).map fun (q : Nat) => (q : Int)
theorem upE_succ (f : Mx) (at_ k : Nat) : upE f at_ (k + 1) = upE f at_ k ++ if f at_ k = true then [(k : Int)] else [] := by
  unfold upE
  rw [List.range_succ, List.filter_append, List.map_append]
  by_cases h : f at_ k = true
  · rw [if_pos h, List.filter_cons, if_pos h]; rfl
  · rw [if_neg h, List.filter_cons, if_neg h]; rfl
theorem upE_len (f : Mx) (at_ k : Nat) : (upE f at_ k).length ≤ k := by
  unfold upE
  rw [List.length_map]
  exact Nat.le_trans (List.length_filter_le _ _) (by simp)
theorem upE_ends {T : RxT} {s : ByteArray} {f : Mx} {p m : Nat} (hm : s.size + 1 = m) (hp : p < m) (h : LM (inT T) (LS s) f) : EndsOf (some T) s (p : Int) (upE f p m) := by
  constructor
  · unfold upE
    rw [List.pairwise_map]
    exact (List.Pairwise.filter _ List.pairwise_lt_range).imp fun h => by omega
  · intro x
    unfold upE
    rw [List.mem_map]
    constructor
    · rintro ⟨q, hq, rfl⟩
      obtain ⟨h1, h2⟩ := List.mem_filter.1 hq
      have h1 := List.mem_range.1 h1
      obtain ⟨h3, h4⟩ := (h p q (by rw [LS_len]; omega) (by rw [LS_len]; omega)).1 h2
      exact ⟨T, rfl, by omega, by omega, q, rfl, by omega, by omega, by rw [Int.toNat_natCast]; exact h4⟩
    · rintro ⟨T', e, _, _, q, rfl, hq, hpq, hT⟩
      cases e
      rw [Int.toNat_natCast] at hT hpq
      exact ⟨q, List.mem_filter.2 ⟨List.mem_range.2 (by omega), (h p q (by rw [LS_len]; omega) (by rw [LS_len]; omega)).2 ⟨hpq, hT⟩⟩, rfl⟩
theorem ends_none (s : ByteArray) (z : Int) : EndsOf none s z [] := ⟨List.Pairwise.nil, fun p => ⟨fun h => by simp at h, fun ⟨T, e, _⟩ => by cases e⟩⟩
theorem ends_out {o : Option RxT} {s : ByteArray} {z : Int} (h : z < 0 ∨ (s.size : Int) < z) : EndsOf o s z [] := ⟨List.Pairwise.nil, fun p => ⟨fun h => by simp at h, fun ⟨T, e, h1, h2, _⟩ => by omega⟩⟩
/-- Such a list is handed out. -/
def GivE (o : Option RxT) (s : ByteArray) (z : Int) (w : World) (e : Ending) (w' : World) : Prop := ∃ xs, EndsOf o s z xs ∧ Giv 3 1 intC w xs e w'
theorem GivE.mk {o : Option RxT} {s : ByteArray} {z : Int} {w w' : World} {e : Ending} {xs : List Int} (h : EndsOf o s z xs) (hg : Giv 3 1 intC w xs e w') : GivE o s z w e w' := ⟨xs, h, hg⟩
set_option maxRecDepth 100000 in
set_option maxHeartbeats 4000000 in
theorem rends9_any (w : World) (a : Option Addr) (n c : Nat) (o : Option RxT) (s : ByteArray) (z : Int) (h : IsRx w a n o) (hn : s.size ≤ 1000) (hnl : n ≤ 600) :
    Calls Try.prog 49 #[.slice a n c, .string s, .int .i64 z] w fun e w' => GivE o s z w e w' := by
  obtain ⟨g, hg⟩ : ∃ g, w.heap.size = g := ⟨_, rfl⟩
  have HG := Lib.hid hg
  have hb0 : Below w.heap.size w (w.alloc (.cells #[] 3)) := (Below.refl _ _).alloc (Nat.le_refl _) _
  have HB0 : Hid (Below g w (w.alloc (.cells #[] 3))) := Lib.hid (by rw [← hg]; exact hb0)
  have HO0 := Lib.hid (by have h9 := own_zero w g 3 1 (by omega); rw [hg] at h9; exact h9)
  have hs0 : (w.alloc (.cells #[] 3)).heap.size = g + 1 := by simp [hg]
  have HS0 := Lib.hid hs0
  obtain ⟨e, hck, hek⟩ := (h.below hb0).check c
  have HCK := Lib.hid hck
  have HEK := Lib.hid hek
  have HH := Lib.hid h
  clear hck hek hb0 h hg hs0
  by_cases hbad : o = none ∨ z < 0 ∨ (s.size : Int) < z
  · have HE : Hid (EndsOf o s z []) := Lib.hid (by
      rcases hbad with rfl | h
      · exact ends_none _ _
      · exact ends_out h)
    cases o with
    | none =>
      have he : ((e : Int) != 0) = true := by rw [bne_iff_ne]; intro h; have := HEK.out.1 (by omega); simp at this
      clear hbad
      go_enter Try.func49, Try.ntmps49
      go_wp2_with fail
      refine HCK.out.mono ?_
      rintro e w' ⟨rfl, rfl⟩
      go_wp2_with fail
      go_ret
      exact GivE.mk HE.out (Giv.mk rfl (by rw [HG.out]; exact HO0.out) (by rw [HG.out]; exact HB0.out))
    | some T =>
      have he : e = 0 := HEK.out.2 rfl
      subst he
      by_cases hz0 : z < 0
      · clear hbad
        go_enter Try.func49, Try.ntmps49
        go_wp2_with fail
        refine HCK.out.mono ?_
        rintro e w' ⟨rfl, rfl⟩
        go_wp2_with fail
        go_ret
        exact GivE.mk HE.out (Giv.mk rfl (by rw [HG.out]; exact HO0.out) (by rw [HG.out]; exact HB0.out))
      · have hz1 : (s.size : Int) < z := by
          rcases hbad with h | h | h
          · cases h
          · omega
          · exact h
        have hz2 : ¬ z ≤ (s.size : Int) := by omega
        clear hbad
        go_enter Try.func49, Try.ntmps49
        go_wp2_with fail
        refine HCK.out.mono ?_
        rintro e w' ⟨rfl, rfl⟩
        go_wp2_with fail
        go_ret
        exact GivE.mk HE.out (Giv.mk rfl (by rw [HG.out]; exact HO0.out) (by rw [HG.out]; exact HB0.out))
  · cases o with
    | none => exact absurd (.inl rfl) hbad
    | some T =>
      have he : e = 0 := HEK.out.2 rfl
      subst he
      have hz0 : ¬ z < 0 := fun h => hbad (.inr (.inl h))
      have hz1 : ¬ (s.size : Int) < z := fun h => hbad (.inr (.inr h))
      obtain ⟨p, rfl⟩ : ∃ p : Nat, z = (p : Int) := ⟨z.toNat, by omega⟩
      obtain ⟨m, hm⟩ : ∃ m : Nat, s.size + 1 = m := ⟨_, rfl⟩
      have HMN := Lib.hid hm
      have hmI : (s.size : Int) + 1 = (m : Int) := by omega
      have hp : p < m := by omega
      have hm1 : m ≤ 1001 := by omega
      have HLD := Lib.hid (fun X hX => leads9_any X a n c T s m hmI hn (HH.out.1.below (w' := X) hX) hnl)
      have p0 : (0 : Int) ≤ (p : Int) := by omega
      have p1 : (p : Int) < (m : Int) := by omega
      have p2 : ¬ s.size < p := by omega
      clear hbad hm hmI
      go_enter Try.func49, Try.ntmps49
      go_wp2_with fail
      refine HCK.out.mono ?_
      rintro e w' ⟨rfl, rfl⟩
      go_wp2_with fail
      refine (HLD.out _ (by rw [HG.out]; exact HB0.out)).mono ?_
      rintro e w2 ⟨A, cA, f, rfl, hM, hlm, hb2⟩
      have HO2 := Lib.hid (ownB HO0.out hb2)
      rw [HS0.out] at hb2
      have HB2 := Lib.hid hb2
      have HM := Lib.hid hM
      have HLM := Lib.hid hlm
      obtain ⟨b1, o1, rb, ro, cr, rfl, hbl, d0, hrb, d1⟩ := hM p hp
      have HD1 := Lib.hid d1
      have hs2 : g + 1 ≤ w2.heap.size := by have h9 := hb2.size; have h8 := HS0.out; omega
      clear hM hlm hb2 d1 HLD HCK
      go_wp2
      have hrg : rb ≠ g := fun e => by
        have h9 := HD1.out 0 (by omega)
        subst e
        have h8 : w2.heap[w.heap.size]? = some (.cells #[] 3 (0, 0)) := (HB2.out.block w.heap.size (by have := HG.out; omega)).trans (by have := heap_alloc_new w (.cells #[] 3); exact this)
        rw [HG.out] at h8
        rw [cell_of_row w2 rb _ _ _ _ h8] at h9
        simp at h9
      go_loopw [7, 9] (fun u i wr => ∃ k : Nat, k ≤ m ∧ i = .int .i64 (k : Int) ∧ wr.ownsRow g 3 1 u (upE f p k).length ((upE f p k).flatMap intC) ∧ (∀ r, u.ownBlock = some r → r = g ∨ w2.heap.size ≤ r) ∧ (∀ r, r < w2.heap.size → r ≠ g → wr.heap[r]? = w2.heap[r]?) ∧ Below g w wr ∧ w2.heap.size ≤ wr.heap.size) (fun _ i _ => m - (intOf i).toNat)
      case atStart => exact ⟨0, by omega, rfl, by have h9 := HO2.out; rw [← HG.out] at h9 ⊢; simpa [upE] using h9, fun r hr => .inl (by have h9 := HG.out; simp [Value.ownBlock] at hr; omega), fun r _ _ => rfl, HB0.out.trans (HB2.out.mono (by omega)), Nat.le_refl _⟩
      case round =>
        obtain ⟨k, hk, rfl, hown, hob, hkp, hb, hsz⟩ := hrel
        have HF := Lib.hid (own_form hown)
        have HOW := Lib.hid hown
        have HB := Lib.hid hb
        have HOB := Lib.hid hob
        have HKP := Lib.hid hkp
        have hgl : g ≤ wr.heap.size := by have := HG.out; have := hb.size; omega
        have hul := upE_len f p k
        clear hown hb hob hkp
        obtain ⟨A, cc, rfl, hle, hcc⟩ := HF.out
        clear HF
        by_cases hlt : k < m
        · have hc : wr.cell? ⟨rb, ro + k, none⟩ = some (.bool (f p k)) := (World.cell?_of_block (HKP.out rb hrb hrg)).trans (HD1.out k hlt)
          have h0 : (0 : Int) ≤ (k : Int) := by omega
          have h1 : (k : Int) < (m : Int) := by omega
          have HU := Lib.hid (upE_succ f p k)
          obtain ⟨v, hv⟩ : ∃ v, f p k = v := ⟨_, rfl⟩
          rw [hv] at hc HU
          obtain ⟨xs, hxs⟩ : ∃ xs, upE f p k = xs := ⟨_, rfl⟩
          rw [hxs] at HU HOW hul hle HOB ⊢
          clear hv hxs
          cases v with
          | true =>
            have HE : Hid (upE f p (k + 1) = xs ++ [(k : Int)]) := Lib.hid (by rw [HU.out]; rfl)
            have HAP := Lib.hid (app_int HOW.out (k : Int) (by omega) hgl wr.heap.size rfl)
            go_wp2_with (at_builtin; refine HAP.out _ _ _ _ _ rfl _ _ rfl rfl rfl ?_; intro gg cap w3 hown1 hgrow hat; have HW := Lib.hid hown1; have HGR := Lib.hid hgrow; have HAT := Lib.hid hat; have HB3 := Lib.hid (below_grown (HB.out.alloc (by omega) _) (by simp; omega) hgrow (fun j hj => (own_ge HOW.out hj).1)); clear hown1 hgrow hat)
            go_roundw
            case rel =>
              refine ⟨k + 1, by omega, by go_num, by rw [HE.out, List.length_append]; exact HW.out, fun r hr => ?_, fun r hr hrg' => ?_, HB3.out, by have := HGR.out.size; simp at this; omega⟩
              · have e : gg = r := by simpa [Value.ownBlock] using hr
                subst e
                rcases HAT.out with h9 | h9
                · exact HOB.out gg h9
                · exact .inr (by omega)
              · rw [HGR.out.block r (by simp; omega) (fun e => by rcases HOB.out r e.symm with h9 | h9 <;> omega), Below.heap_alloc _ _ _ (by omega)]
                exact HKP.out r hr hrg'
            case measure => simp [intOf]; omega
          | false =>
            have HE : Hid (upE f p (k + 1) = xs) := Lib.hid (by rw [HU.out]; simp)
            go_wp2
            go_roundw
            case rel => exact ⟨k + 1, by omega, by go_num, by rw [HE.out]; exact HOW.out, HOB.out, HKP.out, HB.out, hsz⟩
            case measure => simp [intOf]; omega
        · have hk2 : k = m := by omega
          subst hk2
          have HE := Lib.hid (upE_ends HMN.out hp HLM.out)
          go_wp2
          go_ret
          exact GivE.mk HE.out (Giv.mk rfl (by rw [HG.out]; exact HOW.out) (by rw [HG.out]; exact HB.out))
/-- Is a word said? -/
def saysW (o : Option RxT) (s : ByteArray) : Prop := ∃ T, o = some T ∧ inT T (LS s)
theorem ends_says {o : Option RxT} {s : ByteArray} {xs : List Int} (h : EndsOf o s 0 xs) : (s.size : Int) ∈ xs ↔ saysW o s := by
  rw [h.2]
  unfold saysW
  constructor
  · rintro ⟨T, rfl, _, _, q, e, hq, _, hT⟩
    have : q = s.size := by omega
    subst this
    refine ⟨T, rfl, ?_⟩
    have e2 := seg_all (LS s)
    rw [LS_len] at e2
    rwa [Int.toNat_zero, e2] at hT
  · rintro ⟨T, rfl, hT⟩
    have e2 := seg_all (LS s)
    rw [LS_len] at e2
    exact ⟨T, rfl, by omega, by omega, s.size, rfl, Nat.le_refl _, by omega, by rw [Int.toNat_zero, e2]; exact hT⟩
theorem pw_last {xs : List Int} (h : xs.Pairwise (· < ·)) {k : Nat} {z : Int} (hk : xs.length = k + 1) (hz : xs[k]? = some z) : ∀ x ∈ xs, x ≤ z := by
  intro x hx
  obtain ⟨i, hi⟩ := List.getElem?_of_mem hx
  obtain ⟨hil, rfl⟩ := List.getElem?_eq_some_iff.1 hi
  obtain ⟨hkl, rfl⟩ := List.getElem?_eq_some_iff.1 hz
  by_cases e : i = k
  · subst e; exact Int.le_refl _
  · exact Int.le_of_lt (List.pairwise_iff_getElem.1 h i k hil hkl (by omega))
theorem ends_le {o : Option RxT} {s : ByteArray} {z : Int} {xs : List Int} (h : EndsOf o s z xs) : ∀ x ∈ xs, x ≤ (s.size : Int) := fun x hx => by
  obtain ⟨T, _, _, _, q, rfl, hq, _⟩ := (h.2 x).1 hx
  omega
def GivS (o : Option RxT) (s : ByteArray) (w : World) (e : Ending) (w' : World) : Prop := ∃ r : Bool, (r = true ↔ saysW o s) ∧ e = .returned (.bool r) ∧ Below w.heap.size w w'
theorem GivS.mk {o : Option RxT} {s : ByteArray} {w w' : World} {r : Bool} (h : r = true ↔ saysW o s) (hb : Below w.heap.size w w') : GivS o s w (.returned (.bool r)) w' := ⟨r, h, rfl, hb⟩
set_option maxRecDepth 100000 in
theorem rsays9_any (w : World) (a : Option Addr) (n c : Nat) (o : Option RxT) (s : ByteArray) (h : IsRx w a n o) (hn : s.size ≤ 1000) (hnl : n ≤ 600) :
    Calls Try.prog 15 #[.slice a n c, .string s] w fun e w' => GivS o s w e w' := by
  have HE := Lib.hid (rends9_any w a n c o s 0 h hn hnl)
  clear h
  go_enter Try.func15, Try.ntmps15
  go_wp2_with fail
  refine HE.out.mono ?_
  rintro e w2 ⟨xs, hxs, A, cc, rfl, ho, hb⟩
  have HX := Lib.hid hxs
  have HB := Lib.hid hb
  have HR := Lib.hid (own_row intC_len ho)
  obtain ⟨A', c', e', hle, hcc⟩ := own_form ho
  simp only [Value.slice.injEq, true_and] at e'
  obtain ⟨rfl, rfl⟩ := e'
  clear hxs ho hb HE
  obtain ⟨k, hk⟩ : ∃ k, xs.length = k := ⟨_, rfl⟩
  have HK := Lib.hid hk
  rw [hk] at hle HR ⊢
  clear hk
  cases k with
  | zero =>
    have HS : Hid ((false = true) ↔ saysW o s) := Lib.hid (by
      rw [← ends_says HX.out, List.length_eq_zero_iff.1 HK.out]; simp)
    go_wp2
    go_ret
    exact GivS.mk HS.out HB.out
  | succ k =>
    obtain ⟨b, off, z, rfl, hbl, hz, hc⟩ := HR.out.int (k := k) (by omega)
    have z1 : (0 : Int) < ((k + 1 : Nat) : Int) := by omega
    have z2 : ((k + 1 : Nat) : Int) - 1 = (k : Int) := by omega
    have z3 : (k : Int) + 1 - 1 = (k : Int) := by omega
    have z4 : (0 : Int) < (k : Int) + 1 := by omega
    have z5 : (0 : Int) ≤ (k : Int) := by omega
    have z6 : (k : Int) < (k : Int) + 1 := by omega
    have HS : Hid ((z == (s.size : Int)) = true ↔ saysW o s) := Lib.hid (by
      rw [← ends_says HX.out, beq_iff_eq]
      constructor
      · rintro rfl; exact List.mem_of_getElem? hz
      · intro h
        have h1 := pw_last HX.out.1 HK.out hz _ h
        have h2 := ends_le HX.out z (List.mem_of_getElem? hz)
        omega)
    clear hz
    go_wp2
    go_ret
    exact GivS.mk HS.out HB.out
end Go.Proofs.Ytmkgipoljbiocaa
/- The law of what a machine reads. -/
namespace Go.Proofs.Ytmkgipoljbiocaa
open Go.RowKit Go.Sort Go.PlainAid
set_option linter.unusedVariables false
set_option linter.unusedSimpArgs false

theorem fuse_sumR {w : World} {a : Option Addr} {n : Nat} {ts : List TkN} (h : TkRow w a n ts) : ∀ k, k ≤ ts.length → (fuseUp (ts.map TkN.o) k).sets.length ≤ tsum (ts.take k) := by
  intro k
  induction k with
  | zero => intro _; simp [fuseUp, net0]
  | succ k ih =>
    intro hk
    have hkt : ts[k]? = some ts[k] := List.getElem?_eq_getElem (by omega)
    have h5 := h.2 ts[k] (List.getElem_mem _)
    have h6 := setsL_len _ _ _ _ h5.1
    have h7 := ih (by omega)
    have e : (fuseUp (ts.map TkN.o) (k + 1)).sets.length = (fuseUp (ts.map TkN.o) k).sets.length + (setsL ts[k].o).length := by
      show ((fuseUp (ts.map TkN.o) k).sets ++ (setsL (((ts.map TkN.o)[k]?).getD none)).take _).length = _
      rw [List.getElem?_map, hkt]
      simp
    rw [e, tsum_take hkt]
    omega
/-- The least token from a place on. -/
def DownT (os : List (Option RxT)) (w : List UInt8) (k : Nat) (r : Int) : Prop :=
  (r = -1 ∧ ∀ (t : Nat) (T : RxT), k ≤ t → os[t]? = some (some T) → ¬ inT T w) ∨ ∃ j : Nat, r = (j : Int) ∧ k ≤ j ∧ (∃ T, os[j]? = some (some T) ∧ inT T w) ∧ ∀ (t : Nat) (T : RxT), k ≤ t → t < j → os[t]? = some (some T) → ¬ inT T w
theorem down_least {os : List (Option RxT)} {w : List UInt8} {r r' : Int} (h : DownT os w 0 r) (h' : LeastT os w r') : r' = r := by
  rcases h with ⟨rfl, h⟩ | ⟨j, rfl, _, ⟨T, ho, hT⟩, h⟩
  · rcases h' with ⟨rfl, _⟩ | ⟨k, rfl, ⟨T, ho, hT⟩, _⟩
    · rfl
    · exact absurd hT (h k T (Nat.zero_le _) ho)
  · rcases h' with ⟨rfl, h'⟩ | ⟨k, rfl, ⟨T', ho', hT'⟩, h'⟩
    · exact absurd hT (h' j T ho)
    · have h1 : ¬ j < k := fun hlt => h' j T hlt ho hT
      have h2 : ¬ k < j := fun hlt => h k T' (Nat.zero_le _) hlt ho' hT'
      omega
theorem down_start (os : List (Option RxT)) (w : List UInt8) : DownT os w os.length (-1) := .inl ⟨rfl, fun t T ht ho => by
  have := (List.getElem?_eq_some_iff.1 ho).1; omega⟩
theorem down_yes {os : List (Option RxT)} {s : ByteArray} {k : Nat} {o : Option RxT} (ho : os[k]? = some o) (h : saysW o s) : DownT os (LS s) k (k : Int) := by
  obtain ⟨T, rfl, hT⟩ := h
  exact .inr ⟨k, rfl, Nat.le_refl _, ⟨T, ho, hT⟩, fun t T' h1 h2 => by omega⟩
theorem down_no {os : List (Option RxT)} {s : ByteArray} {k : Nat} {o : Option RxT} {r : Int} (ho : os[k]? = some o) (h : ¬ saysW o s) (hd : DownT os (LS s) (k + 1) r) : DownT os (LS s) k r := by
  have hk : ∀ T, os[k]? = some (some T) → ¬ inT T (LS s) := fun T h1 hT => by
    rw [ho] at h1
    exact h ⟨T, Option.some.inj h1, hT⟩
  rcases hd with ⟨rfl, hd⟩ | ⟨j, rfl, hj, he, hd⟩
  · refine .inl ⟨rfl, fun t T ht h1 => ?_⟩
    by_cases e : t = k
    · subst e; exact hk T h1
    · exact hd t T (by omega) h1
  · refine .inr ⟨j, rfl, by omega, he, fun t T ht htj h1 => ?_⟩
    by_cases e : t = k
    · subst e; exact hk T h1
    · exact hd t T (by omega) htj h1
theorem LS_app (s t : ByteArray) : LS (s ++ t) = LS s ++ LS t := by
  unfold LS
  rw [ByteArray.data_append, Array.toList_append]
attribute [local go_sem ↓] loadA_eq storeA_eq loadD_eq
set_option maxHeartbeats 8000000 in
set_option maxRecDepth 100000 in
theorem lawReads_any (w : World) (A : Option Addr) (n d : Nat) (ts : List TkN) (s : ByteArray) (hT : TkAny w A n ts) :
    Calls Try.prog 4 #[.slice A n d, .string s] w fun e w' => e = .returned (.bool true) ∧ Below w.heap.size w w' := by
  have HFW := Lib.hid (few_any w A n d ts hT)
  have HTA := Lib.hid hT
  have hnm := hT.1.2.1
  obtain ⟨g, hg⟩ : ∃ g, w.heap.size = g := ⟨_, rfl⟩
  have HG := Lib.hid hg
  have HKW := Lib.hid (knows_any w)
  obtain ⟨b, hb⟩ : ∃ b, fewT ts = b := ⟨_, rfl⟩
  have HBB := Lib.hid hb
  rw [hb] at HFW
  clear hT hb
  go_enter Try.func4, Try.ntmps4
  go_wp2_with fail
  refine HFW.out.mono ?_
  rintro e w2 ⟨rfl, hw2⟩
  subst w2
  cases b with
  | false =>
    go_wp2_with fail
    refine HKW.out.mono ?_
    rintro e w3 ⟨rfl, hb3⟩
    have HB3 : Hid (Below g w w3) := Lib.hid (by rw [← HG.out]; exact hb3)
    clear hb3
    go_wp2
    go_ret
    exact ⟨rfl, by first | exact HB3.out | (rw [HG.out]; exact HB3.out)⟩
  | true =>
    by_cases hsz : 24 < s.size
    · have z1 : (24 : Int) < (s.size : Int) := by omega
      go_wp2_with fail
      refine HKW.out.mono ?_
      rintro e w3 ⟨rfl, hb3⟩
      have HB3 : Hid (Below g w w3) := Lib.hid (by rw [← HG.out]; exact hb3)
      clear hb3
      go_wp2
      go_ret
      exact ⟨rfl, by first | exact HB3.out | (rw [HG.out]; exact HB3.out)⟩
    · have z1 : ¬ (24 : Int) < (s.size : Int) := by omega
      have z2 : decide ((24 : Int) < (s.size : Int)) = false := decide_eq_false z1
      by_cases hemp : s.toList.isEmpty = true
      · go_wp2_with fail
        refine HKW.out.mono ?_
        rintro e w3 ⟨rfl, hb3⟩
        have HB3 : Hid (Below g w w3) := Lib.hid (by rw [← HG.out]; exact hb3)
        clear hb3
        go_wp2
        go_ret
        exact ⟨rfl, by first | exact HB3.out | (rw [HG.out]; exact HB3.out)⟩
      · have e1 : s.toList.isEmpty = false := by simpa using hemp
        obtain ⟨htr, hn12⟩ := few_row HTA.out HBB.out
        have HTR := Lib.hid htr
        have HFU := Lib.hid (fuse_cap w A n d ts htr (by omega))
        have HOL : Hid ((ts.map TkN.o).length = n) := Lib.hid (by rw [List.length_map]; exact htr.1.1)
        clear htr
        have HNR := Lib.hid (netR_fuse (ts.map TkN.o))
        have HPL := Lib.hid (fun (M : MS) (k : Int) (h : buildR (fuseN (ts.map TkN.o)) 60 = (M, k, 0)) c v => tab_reads (ts.map TkN.o) h c v)
        obtain ⟨N, hN⟩ : ∃ N, fuseN (ts.map TkN.o) = N := ⟨_, rfl⟩
        rw [hN] at HFU HNR HPL
        have HSZ : Hid (N.sets.length ≤ 1000 ∧ N.first.length ≤ 100000) := Lib.hid (by
          have h1 := fuse_sumR HTR.out ts.length (Nat.le_refl _)
          have h7 := HBB.out
          unfold fewT at h7
          simp only [Bool.and_eq_true, decide_eq_true_eq] at h7
          rw [List.take_length] at h1
          have h2 : N.sets.length ≤ 90 := by
            rw [← hN]; unfold fuseN; rw [List.length_map]; omega
          have h3 := (netR_short HNR.out).1
          omega)
        clear hN
        have HBD := Lib.hid (build_bound HNR.out).2
        go_wp2_with fail
        refine HFU.out.mono ?_
        rintro e w3 ⟨v, rfl, hn3, hc3, hb3⟩
        have HB_w3 : Hid (Below g w w3) := Lib.hid (by rw [← HG.out]; exact hb3)
        have hg3 : g ≤ w3.heap.size := by rw [← HG.out]; exact hb3.size
        have HBLD := Lib.hid (dbuild_if w3 v N 60 hn3 hc3 (fun _ => by
          have h1 := hn3.s.1
          have h2 := hn3.r.1
          have h3 := HSZ.out
          omega))
        have HER := Lib.hid (build_errs N 60)
        have HCL := Lib.hid (build_cl N 60)
        obtain ⟨r, hr⟩ : ∃ r, buildR N 60 = r := ⟨_, rfl⟩
        rw [hr] at HBLD HCL HBD HER HPL
        clear hr hn3 hc3 hb3 HKW HFW HFU
        obtain ⟨M, kk, ee⟩ := r
        simp only at HBLD HCL HBD HER
        go_wp2_with fail
        refine HBLD.out.mono ?_
        rintro e w5 ⟨D1, rfl, hM1, hb5⟩
        have HB_w5 : Hid (Below g w w5) := Lib.hid (HB_w3.out.trans (hb5.mono hg3))
        have hg5 : g ≤ w5.heap.size := by have := hb5.size; omega
        have HM1 := Lib.hid hM1
        clear hM1 hb5
        obtain ⟨X1, hX1⟩ : ∃ X, w5.heap.size = X := ⟨_, rfl⟩
        have HS6 := Lib.hid hX1
        have hd6 : DfaAt (w5.alloc (.cells Try.zeroCells32 32)) X1 zeroD := by rw [zc_dfa]; exact DfaAt.new _ _ _ hX1
        have HD6 := Lib.hid hd6
        clear hd6
        by_cases he0 : ee = 0
        case neg =>
          have h16 := (HBD.out he0).1
          have hms : M = ms0 := by
            rcases HER.out with h | h
            · exact absurd h he0
            · exact h.1
          have HNL : Hid (D1.nl = 0) := Lib.hid (by have h1 := HM1.out.nx.len.1; rw [hms] at h1; have h2 : ms0.nx.length = 0 := rfl; omega)
          subst h16
          clear he0 hms
          go_wp2_with (refine wpList_store_dfa rfl _ _ rfl X1 zeroD D1 rfl rfl HD6.out ?_; intro w6 hD5 hB5 hO5 hS5; have hbz : Below w5.heap.size w5 w6 := ((Below.refl _ w5).alloc (Nat.le_refl _) _).trans (hB5 _ (by rw [HS6.out]; exact Nat.le_refl _)); have HB_w6 : Hid (Below g w w6) := Lib.hid (HB_w5.out.trans (hbz.mono hg5)); have hg6 : g ≤ w6.heap.size := Nat.le_trans hg5 hbz.size; have c257 := hD5.nx; rw [HNL.out] at c257; clear hD5 hB5 hO5 hS5 hbz)
          refine (knows_any w6).mono ?_
          rintro e w7 ⟨rfl, hb7⟩
          have HBN : Hid (Below g w w7) := Lib.hid (HB_w6.out.trans (hb7.mono hg6))
          clear hb7
          go_wp2
          go_ret
          exact ⟨rfl, by first | exact HBN.out | (rw [HG.out]; exact HBN.out)⟩
        case pos =>
          subst he0
          have hsl : 0 < (LS s).length := by
            rw [LS_len]
            rcases Nat.eq_zero_or_pos s.size with h | h
            · exact absurd (by rw [show s = ⟨#[]⟩ from ByteArray.ext (Array.eq_empty_of_size_eq_zero h)]; decide +kernel) hemp
            · exact h
          have HPR : Hid (LeastT (ts.map TkN.o) (LS s) (labM M (runM M (LS s))) ∧ (runM M (LS s) < 0 → ∀ v, runM M (LS s ++ v) = -1)) := Lib.hid (by
            cases hl : LS s with
            | nil => rw [hl] at hsl; simp at hsl
            | cons c v => exact HPL.out M kk rfl c v)
          have HS24 : Hid (s.size ≤ 24) := Lib.hid (by omega)
          clear hsl e1 z1 z2 hemp hsz
          go_wp2_with (refine wpList_store_dfa rfl _ _ rfl X1 zeroD D1 rfl rfl HD6.out ?_; intro w6 hD5 hB5 hO5 hS5; have hbz : Below w5.heap.size w5 w6 := ((Below.refl _ w5).alloc (Nat.le_refl _) _).trans (hB5 _ (by rw [HS6.out]; exact Nat.le_refl _)); have HZ6 := Lib.hid hbz; have HX6 := Lib.hid hD5; have HB_w6 : Hid (Below g w w6) := Lib.hid (HB_w5.out.trans (hbz.mono hg5)); have hg6 : g ≤ w6.heap.size := Nat.le_trans hg5 hbz.size; clear hD5 hB5 hO5 hS5 hbz)
          have HM6 := Lib.hid (HM1.out.below HZ6.out)
          go_loopw [8, 9] (fun f i wr => ∃ (k : Nat) (r z : Int), k ≤ n ∧ z = (k : Int) - 1 ∧ i = .int .i64 z ∧ f = .int .i64 r ∧ DownT (ts.map TkN.o) (LS s) k r ∧ Below w6.heap.size w6 wr) (fun _ i _ => (intOf i + 1).toNat)
          case atStart => exact ⟨n, -1, (n : Int) - 1, Nat.le_refl _, rfl, by first | rfl | go_num, rfl, by have h9 := down_start (ts.map TkN.o) (LS s); rw [HOL.out] at h9; exact h9, Below.refl _ _⟩
          case round =>
            obtain ⟨k, r, z, hk, hz, rfl, rfl, hd, hb⟩ := hrel
            have HD := Lib.hid hd
            have HB := Lib.hid hb
            have hg7 : g ≤ wr.heap.size := by have := hb.size; omega
            have HBW := Lib.hid (HB_w6.out.trans (hb.mono hg6))
            clear hd hb
            cases k with
            | succ k =>
              obtain rfl : z = (k : Int) := by omega
              clear hz
              have hkn : k < n := by omega
              obtain ⟨b1, o1, t, rfl, hbl, ht, hc, hrx, hrl⟩ := (HTR.out.below (w' := wr) (by rw [HG.out]; exact HBW.out)).at_ hkn
              have HOT : Hid ((ts.map TkN.o)[k]? = some t.o) := Lib.hid (by rw [List.getElem?_map, ht]; rfl)
              have HSY := Lib.hid (rsays9_any wr t.ra t.rl t.rc t.o s hrx (by have := HS24.out; omega) hrl)
              have z0 : (0 : Int) ≤ (k : Int) := by omega
              have z2 : (k : Int) < (n : Int) := by omega
              clear ht hrx
              go_wp2_with fail
              refine HSY.out.mono ?_
              rintro e w7 ⟨r8, hr8, rfl, hb7⟩
              have HB7 := Lib.hid (HB.out.trans (hb7.mono HB.out.size))
              have HR8 := Lib.hid hr8
              clear hb7 hr8
              cases r8 with
              | true =>
                go_wp2
                go_roundw
                case rel => exact ⟨k, (k : Int), (k : Int) - 1, by omega, rfl, by first | rfl | go_num, rfl, down_yes HOT.out (HR8.out.1 (by first | rfl | trivial)), HB7.out⟩
                case measure => first | (simp [intOf]; done) | (simp [intOf]; omega)
              | false =>
                go_wp2
                go_roundw
                case rel => exact ⟨k, r, (k : Int) - 1, by omega, rfl, by first | rfl | go_num, rfl, down_no HOT.out (fun h => by have := HR8.out.2 h; cases this) HD.out, HB7.out⟩
                case measure => first | (simp [intOf]; done) | (simp [intOf]; omega)
            | zero =>
              obtain rfl : z = -1 := by omega
              clear hz
              have HLE : Hid (labM M (runM M (LS s)) = r) := Lib.hid (down_least HD.out HPR.out.1)
              have hxr := HX6.out.below HB.out HX6.out.lt
              have hl1 := run_loadD wr X1 D1 hxr
              have HMR := Lib.hid (HM6.out.below HB.out)
              have HRUN := Lib.hid (drun_any wr D1 M s HMR.out HCL.out (by have := HS24.out; omega))
              obtain ⟨y, hy⟩ : ∃ y, runM M (LS s) = y := ⟨_, rfl⟩
              have HY := Lib.hid hy
              rw [hy] at HRUN HLE
              clear hy hxr
              go_wp2_with fail
              refine HRUN.out.mono ?_
              rintro e w7 ⟨rfl, hb7⟩
              have HB7 := Lib.hid (HB.out.trans (hb7.mono HB.out.size))
              have HMR7 := Lib.hid (HMR.out.below hb7)
              have hg8 : g ≤ w7.heap.size := by have := hb7.size; omega
              have hx7 := HX6.out.below HB7.out HX6.out.lt
              have hl2 := run_loadD w7 X1 D1 hx7
              have HLB := Lib.hid (dlabel_any w7 D1 M y HMR7.out HCL.out)
              rw [HLE.out] at HLB
              clear hb7 hx7 hl1
              go_wp2_with fail
              refine HLB.out.mono ?_
              rintro e w8 ⟨rfl, hb8⟩
              have HB8 := Lib.hid (HB7.out.trans (hb8.mono HB7.out.size))
              have HMR8 := Lib.hid (HMR7.out.below hb8)
              have hg9 : g ≤ w8.heap.size := by have := hb8.size; omega
              have hx8 := HX6.out.below HB8.out HX6.out.lt
              have hl3 := run_loadD w8 X1 D1 hx8
              clear hb8 hx8 hl2
              by_cases hy0 : 0 ≤ y
              · go_wp2_with fail
                refine (knows_any w8).mono ?_
                rintro e w9 ⟨rfl, hb9⟩
                have HBN : Hid (Below g w w9) := Lib.hid ((HB_w6.out.trans (HB8.out.mono hg6)).trans (hb9.mono hg9))
                clear hb9
                go_wp2
                go_ret
                exact ⟨rfl, by first | exact HBN.out | (rw [HG.out]; exact HBN.out)⟩
              · have HR2 : Hid (runM M (LS (s ++ ⟨#[97]⟩)) = -1) := Lib.hid (by rw [LS_app]; exact HPR.out.2 (by rw [HY.out]; omega) _)
                have HRUN2 := Lib.hid (drun_any w8 D1 M (s ++ ⟨#[97]⟩) HMR8.out HCL.out (by have := HS24.out; rw [ByteArray.size_append, show (⟨#[97]⟩ : ByteArray).size = 1 from rfl]; omega))
                rw [HR2.out] at HRUN2
                have h24 := HS24.out
                have h1s : (⟨#[97]⟩ : ByteArray).size = 1 := rfl
                have hno : ¬ 9223372036854775807 < s.size + (⟨#[97]⟩ : ByteArray).size := by rw [h1s]; omega
                have hcat : ∀ w, (Op.stringOp .add s ⟨#[97]⟩).run Try.prog w = .ok (.string (s ++ ⟨#[97]⟩)) w := fun w => run_string_add_sum w s ⟨#[97]⟩ (by omega)
                go_wp2_with fail
                refine HRUN2.out.mono ?_
                rintro e w9 ⟨rfl, hb9⟩
                have HB9 := Lib.hid ((HB_w6.out.trans (HB8.out.mono hg6)).trans (hb9.mono hg9))
                have hg10 : g ≤ w9.heap.size := by have := hb9.size; omega
                clear hb9
                go_wp2_with fail
                refine (knows_any w9).mono ?_
                rintro e w10 ⟨rfl, hb10⟩
                have HBN : Hid (Below g w w10) := Lib.hid (HB9.out.trans (hb10.mono hg10))
                clear hb10
                go_wp2
                go_ret
                exact ⟨rfl, by first | exact HBN.out | (rw [HG.out]; exact HBN.out)⟩
end Go.Proofs.Ytmkgipoljbiocaa
