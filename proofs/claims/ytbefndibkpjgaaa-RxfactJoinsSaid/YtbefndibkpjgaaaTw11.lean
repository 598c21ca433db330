/- Several texts in one: Spread, On, MatS. -/
import Derived.Test.YtbefndibkpjgaaaTw7
import Derived.Test.YtbefndibkpjgaaaTw10
import Derived.Deep.LoopGhost
import Derived.Deep.CutRange
import Derived.Test.YtbefndibkpjgaaaTw3
import Derived.Test.YtbefndibkpjgaaaTw1
/- rxfact: all states to which some lead without a byte. -/
namespace Go.Proofs.Ytbefndibkpjgaaa
open Go.RowKit
set_option linter.unusedVariables false
set_option linter.unusedSimpArgs false

theorem app_ints9 {w : World} {base n : Nat} {v : Value} {xs : List Int} (hown : w.ownsRow base 3 1 v n (xs.flatMap intC)) {a : Option Addr} {m c : Nat} {os : List Int} (hr : CRow intC 1 w a m os) (hn : n + m ≤ 100000000) (hbase : base ≤ w.heap.size)
    (ops : Array Oper) (rest : List Oper) (o : Oper) (act : Act) (Q : Exit → Act → World → Prop) (hg : o.guard = none) (s x : Operand) (ho : o.op = .call { callee := .builtin .append, args := #[s, x], argTypes := #[27, 27] })
    (hs : act.eval s = v) (hx : act.eval x = .slice a m c)
    (h : ∀ v' w', w'.ownsRow base 3 1 v' (n + m) ((xs ++ os).flatMap intC) → w.grownBy w' v.ownBlock → (v'.ownBlock = v.ownBlock ∨ v'.ownBlock = some w.heap.size) →
      wpList Try.prog ops Q rest (act.put o.dst v') w') : wpList Try.prog ops Q (o :: rest) act w := by
  obtain ⟨i0, hii, hz0, hz1, hz2⟩ := info_parts infoInt
  exact wpList_append_row w hg s x 27 ho base 3 i0 _ 8 Try.underlying27 hii hz0 hz1 hz2 rfl (by omega) intC_len intC_one v n (xs.flatMap intC) hs hown a m c os hx hr (by unfold maxLen; omega) (by omega) hbase
    fun v' w' h1 h2 h3 => h v' w' (by rw [List.flatMap_append]; exact h1) h2 h3
theorem infoBoolS : (Try.prog.info? 4).map (fun i => (i.zero, i.size, i.bytes)) = some (some (.bool false), 1, 1) := by kernel_rfl
theorem rep_bools (n : Nat) : (madeCells (Value.bool false).cells (n * 1)).toList = (List.replicate n false).flatMap bolC := by
  show (madeCells #[Value.bool false] (n * 1)).toList = _
  rw [toList_madeCells_one, Nat.mul_one]
  induction n with
  | zero => rfl
  | succ n ih => rw [List.replicate_succ, List.replicate_succ, List.flatMap_cons, ← ih]; rfl
/-- How a state's row lies. -/
theorem MX.rowAt {X : Nat} {w : World} {M : Mc} (h : MX X w M []) {s : Nat} {xs : List Int} (hs : M.fr[s]? = some xs) : ∃ bF fc A c, w.cell? ⟨X, 0, none⟩ = some (.slice (some ⟨bF, 0, none⟩) M.fr.length fc) ∧ M.fr.length ≤ fc ∧ w.cell? ⟨bF, s, none⟩ = some (.slice A xs.length c) ∧ CRow intC 1 w A xs.length xs ∧ OwnS X w bF := by
  obtain ⟨os, fv, sv, bv, hm, q1, q2, q3⟩ := h
  obtain ⟨⟨fa, fc, rfl, hf1, hf2⟩, _, _⟩ := hm.forms
  have hol : os.length = M.fr.length := by rw [q1]; simp
  have hsl : s < M.fr.length := (List.getElem?_eq_some_iff.1 hs).1
  obtain ⟨bF, rfl, h1, h2, hc⟩ := own_at hm.own.1 (by omega)
  obtain ⟨o, ho⟩ : ∃ o, os[s]? = some o := ⟨_, List.getElem?_eq_getElem (by omega)⟩
  have hx : o.xs = xs := by rw [q1, List.getElem?_map, ho] at hs; exact Option.some.inj hs
  have hl := hm.len o (List.mem_of_getElem? ho)
  rw [hx] at hl
  have hi := hm.inner ho
  rw [hx, hl] at hi
  refine ⟨bF, fc, o.a, o.c, by rw [hm.cell.1, hol], by omega, ?_, own_row intC_len hi, (hm.ownS bF).2 ⟨⟨27, 1, .slice (some ⟨bF, 0, none⟩) os.length fc, os.length, os.flatMap seC⟩, List.mem_append_left _ (.head _), rfl⟩⟩
  have := hc s (.slice o.a o.l o.c) (by have := flat_get seC_len os s o ho 0 (.slice o.a o.l o.c) rfl; simpa using this)
  rw [this, hl]
/-- What stands in a round of spread. -/
structure SV (X g N : Nat) (w : World) (M : Mc) (xs : List Nat) (v : Value) (bs : List Bool) (l : List Nat) (lv : Value) (wr : World) : Prop where
  mx : MX X wr M []
  own : wr.ownsRow (X + 1) 3 1 lv l.length ((castL l).flatMap intC)
  free : ∀ k, lv.ownBlock = some k → FreeB X wr k ∧ k ≠ g ∧ (k < w.heap.size → v.ownBlock = some k)
  fl : wr.ownsRow g 4 1 (.slice (some ⟨g, 0, none⟩) N N) N (bs.flatMap bolC)
  flf : FreeB X wr g
  si : SI (FE M) (BE M) N xs bs l
  bw : Below X w wr
  kp : ∀ k, k < w.heap.size → v.ownBlock ≠ some k → wr.heap[k]? = w.heap[k]?
  sz : w.heap.size ≤ wr.heap.size
section
variable {X g N : Nat} {w : World} {M : Mc} {xs : List Nat} {v lv : Value} {bs : List Bool} {l : List Nat} {wr wd : World} {s : Nat}
/-- The cell of a mark. -/
theorem SV.mark (h : SV X g N w M xs v bs l lv wr) {b : Bool} (hb : bs[s]? = some b) : wr.cell? ⟨g, s, none⟩ = some (.bool b) := by
  have hN : 0 < N := by have := h.si.len; have := (List.getElem?_eq_some_iff.1 hb).1; omega
  obtain ⟨g', e, _, _, hc⟩ := own_at h.fl hN
  injection e with e
  injection e with e
  subst e
  have := flat_get (C := bolC) (fun _ => rfl) bs s b hb 0 (.bool b) rfl
  exact hc s _ (by simpa using this)
/-- The last one is taken off. -/
theorem SV.pop {A : Option Addr} {m c : Nat} (h : SV X g N w M xs v bs (l ++ [s]) (.slice A (m + 1) c) wr) (hm : l.length = m) : wr.ownsRow (X + 1) 3 1 (.slice A m c) l.length ((castL l).flatMap intC) ∧ ∃ b, A = some ⟨b, 0, none⟩ ∧ wr.cell? ⟨b, m, none⟩ = some (.int .i64 (s : Int)) := by
  subst hm
  have ho := h.own
  rw [List.length_append, List.length_singleton] at ho
  obtain ⟨b, rfl, _, _, hc⟩ := own_at ho (by omega)
  refine ⟨?_, b, rfl, ?_⟩
  · have := own_prefix (d := l.length) ho (by omega) (by simp)
    rw [flat_take_c intC_len, castL_app, List.take_append_of_le_length (by rw [castL_len]; exact Nat.le_refl _), List.take_of_length_le (by rw [castL_len]; exact Nat.le_refl _)] at this
    exact this
  · have := flat_get intC_len (castL (l ++ [s])) l.length (s : Int) (by rw [castL_app, List.getElem?_append_right (by rw [castL_len]; exact Nat.le_refl _)]; simp [castL]) 0 (.int .i64 (s : Int)) rfl
    exact hc _ _ (by simpa using this)
/-- A state that is marked already. -/
theorem SV.old {A : Option Addr} {m c : Nat} (h : SV X g N w M xs v bs (l ++ [s]) (.slice A (m + 1) c) wr) (hm : l.length = m) (hs : bs[s]? = some true) : SV X g N w M xs v bs l (.slice A m c) wr :=
  ⟨h.mx, (h.pop hm).1, fun k hk => h.free k (by obtain ⟨b, rfl, _⟩ := (h.pop hm).2; exact hk), h.fl, h.flf, h.si.old hs, h.bw, h.kp, h.sz⟩
/-- A state that is marked now: what waits is read off its row. -/
theorem SV.new {A : Option Addr} {m c : Nat} (h : SV X g N w M xs v bs (l ++ [s]) (.slice A (m + 1) c) wr) (hg : w.heap.size = g) (hX : X < g) (hm : l.length = m) {ts : List Nat} (hts : ∀ t, FE M s t ↔ t ∈ ts) (hl : ∀ t ∈ ts, t < N)
    (hgr : (wr.setCell ⟨g, s, none⟩ (.bool true)).grownBy wd (Value.slice A m c).ownBlock) (ho : wd.ownsRow (X + 1) 3 1 lv (l.length + ts.length) ((castL l ++ castL ts).flatMap intC))
    (hat : lv.ownBlock = (Value.slice A m c).ownBlock ∨ lv.ownBlock = some (wr.setCell ⟨g, s, none⟩ (.bool true)).heap.size) : SV X g N w M xs v (bs.set s true) (l ++ ts) lv wd := by
  obtain ⟨h0, b, rfl, hcell⟩ := h.pop hm
  have hb : (Value.slice (some ⟨b, 0, none⟩) m c).ownBlock = some b := rfl
  rw [hb] at hgr hat
  obtain ⟨f1, f2, f3⟩ := h.free b rfl
  have hsz : (wr.setCell ⟨g, s, none⟩ (.bool true)).heap.size = wr.heap.size := by simp
  have hk0 : ∀ k, k ≠ g → (wr.setCell ⟨g, s, none⟩ (.bool true)).heap[k]? = wr.heap[k]? := fun k hk => heap_setCell_other _ _ _ _ hk
  have hm1 := h.mx.kept h.flf hk0 hsz
  have hO1 := fun k => MX.kept_own h.mx h.flf hk0 hsz k
  have hfb1 : FreeB X (wr.setCell ⟨g, s, none⟩ (.bool true)) b := ⟨by rw [hsz]; exact f1.1, f1.2.1, fun ho => f1.2.2 ((hO1 b).1 ho)⟩
  have hfg1 : FreeB X (wr.setCell ⟨g, s, none⟩ (.bool true)) g := ⟨by rw [hsz]; exact h.flf.1, h.flf.2.1, fun ho => h.flf.2.2 ((hO1 g).1 ho)⟩
  obtain ⟨hm2, hO2⟩ := hm1.wider (w' := wd) (fun k hk ho => hgr.block k hk fun e => by
    have e := Option.some.inj e
    subst e
    rcases ho with rfl | ho
    · exact hfb1.2.1 rfl
    · exact hfb1.2.2 ho) hgr.size
  have hgw : g < wr.heap.size := h.flf.1
  have hbs : b ≠ g := f2
  have hfl := (own_set h.fl s (.bool true)).1
  rw [← flat_set1 (C := bolC) (fun _ => rfl) bs s true (.bool true) rfl] at hfl
  refine ⟨hm2, by rw [List.length_append, castL_app]; exact ho, fun k hk => ?_, own_kept hfl fun k hk => ?_, ⟨by have := hgr.size; rw [hsz] at this; omega, h.flf.2.1, fun ho => hfg1.2.2 ((hO2 g).1 ho)⟩, h.si.new hts hl, ?_, fun k hk hv => ?_, by have := hgr.size; rw [hsz] at this; have := h.sz; omega⟩
  · have hkl := (own_ge ho hk).2
    rcases hat with hat | hat
    · rw [hat] at hk
      obtain rfl := Option.some.inj hk
      exact ⟨⟨hkl, hfb1.2.1, fun ho => hfb1.2.2 ((hO2 b).1 ho)⟩, f2, f3⟩
    · rw [hat, hsz] at hk
      obtain rfl := Option.some.inj hk
      refine ⟨⟨hkl, by have := h.mx.le; omega, fun ho => ?_⟩, by omega, fun hlt => by have := h.sz; omega⟩
      obtain ⟨os, fv, sv, bv, hmb, _⟩ := hm1
      exact hmb.fresh (by rw [hsz]; exact Nat.le_refl _) ((hO2 _).1 ho)
  · have : k = g := by injection hk with hk; exact hk.symm
    subst this
    exact hgr.block k (by rw [hsz]; exact hgw) fun e => hbs (Option.some.inj e).symm
  · have hb1 : Below X w (wr.setCell ⟨g, s, none⟩ (.bool true)) := h.bw.setCell (p := ⟨g, s, none⟩) (by show X ≤ g; omega) _
    exact below_grown (v := .slice (some ⟨b, 0, none⟩) m c) hb1 (by rw [hsz]; have := h.mx.le; omega) hgr (fun k hk => by
      have : b = k := Option.some.inj hk
      subst this
      have := (own_ge h.own (k := b) rfl).1; omega)
  · refine (hgr.block k (by rw [hsz]; have := h.sz; omega) fun e => ?_).trans ((hk0 k (by omega)).trans (h.kp k hk hv))
    have e := Option.some.inj e
    subst e
    exact hv (f3 hk)
end
/-- What spread gives: the marks. -/
def GivB9 (X N : Nat) (M : Mc) (xs : List Nat) (v : Value) (w : World) (e : Ending) (w' : World) : Prop := ∃ (g : Nat) (bs : List Bool), w.heap.size = g ∧ e = .returned (.slice (some ⟨g, 0, none⟩) N N) ∧ w'.ownsRow g 4 1 (.slice (some ⟨g, 0, none⟩) N N) N (bs.flatMap bolC) ∧ bs.length = N ∧ (∀ i : Nat, bs[i]? = some true ↔ ∃ x ∈ xs, Pa (FE M) (BE M) x [] i) ∧ MX X w' M [] ∧ FreeB X w' g ∧ Below X w w' ∧ (∀ k, k < w.heap.size → v.ownBlock ≠ some k → w'.heap[k]? = w.heap[k]?) ∧ w.heap.size ≤ w'.heap.size
set_option maxRecDepth 100000 in
set_option maxHeartbeats 8000000 in
theorem spread_any (X : Nat) (w : World) (M : Mc) (N : Nat) (h : MX X w M []) (hnat : NatM M) (hN : M.fr.length = N) (hNN : N ≤ 3000) (hL : ∀ l ∈ M.fr, l.length ≤ 9000) (v : Value) (xs : List Nat) (hx : ∀ x ∈ xs, x < N) (hxl : xs.length ≤ 4000)
    (hown : w.ownsRow (X + 1) 3 1 v xs.length ((castL xs).flatMap intC)) (hfree : ∀ k, v.ownBlock = some k → FreeB X w k) :
    Calls Try.prog 35 #[.pointer (some ⟨X, 0, none⟩), v] w fun e w' => GivB9 X N M xs v w e w' := by
  obtain ⟨g, hg⟩ : ∃ g, w.heap.size = g := ⟨_, rfl⟩
  have HG := Lib.hid hg
  have HX : Hid (X < g) := Lib.hid (by have := h.le; omega)
  have hc0 : ∃ fa fc, w.cell? ⟨X, 0, none⟩ = some (.slice fa N fc) ∧ N ≤ fc := by
    obtain ⟨os, fv, sv, bv, hm, q1, q2, q3⟩ := h
    obtain ⟨⟨fa, fc, rfl, hf1, hf2⟩, _, _⟩ := hm.forms
    have hol : os.length = M.fr.length := by rw [q1]; simp
    exact ⟨fa, fc, by rw [hm.cell.1, hol, hN], by omega⟩
  obtain ⟨fa, fc, e0, hfc⟩ := hc0
  obtain ⟨i0, hi, hz0, hz1, hz2⟩ := info_parts infoBoolS
  have HH := Lib.hid h
  have HNAT := Lib.hid hnat
  have HN := Lib.hid hN
  have HLL := Lib.hid hL
  have HXS := Lib.hid hx
  have HOW := Lib.hid hown
  have HFR := Lib.hid hfree
  have hun : Hid (unS (List.replicate N false) M.fr ≤ 27000000) := Lib.hid (by
    have h9 := unS_le (List.replicate N false) M.fr 9000 hL
    rw [hN] at h9
    have : N * 9000 ≤ 3000 * 9000 := Nat.mul_le_mul_right _ hNN
    omega)
  clear h hnat hN hL hx hown hfree
  go_enter Try.func35, Try.ntmps35
  go_wp2_with (at_make; refine wpList_make_full w rfl _ _ 48 rfl w.heap.size 4 i0 (.bool false) 1 Try.underlying48 hi hz0 hz1 .i64 .i64 (N : Int) (N : Int) N rfl rfl rfl rfl (by rw [hz2]; omega) (by unfold maxLen; omega) (Nat.le_refl _) ?_; intro w1 hown1 hg1; have HO1 := Lib.hid hown1; have HG1 := Lib.hid hg1; clear hown1 hg1)
  have HB1 : Hid (Below g w w1) := Lib.hid (by rw [← hg]; exact below_grown (v := .slice none 0 0) (Below.refl _ _) (Nat.le_refl _) HG1.out (fun k hk => by cases hk))
  have HSV : Hid (SV X g N w M xs v (List.replicate N false) xs v w1) := Lib.hid (by
    have hbw : Below w.heap.size w w1 := by rw [hg]; exact HB1.out
    have hgs : g < w1.heap.size := by
      have h9 := own_ge HO1.out (k := w.heap.size) rfl
      omega
    have h9 := HO1.out
    rw [rep_bools, hg] at h9
    refine ⟨HH.out.below hbw, ownB HOW.out hbw, fun k hk => ?_, h9, HH.out.free hbw (by omega) hgs, SI.start HXS.out, HB1.out.mono (by have := HX.out; omega), fun k hk _ => hbw.block k hk, hbw.size⟩
    have hf := HFR.out k hk
    exact ⟨(hf.keeps (HH.out.onto hbw)).1, by have := hf.1; omega, fun _ => hk⟩)
  clear HO1 HG1
  go_loopg [1] (unS (List.replicate N false) M.fr + xs.length) (fun gk lv wr => ∃ (bs : List Bool) (l : List Nat), unS bs M.fr + l.length = gk ∧ gk ≤ 27004000 ∧ SV X g N w M xs v bs l lv wr)
  case atStart => exact ⟨_, xs, rfl, by have := hun.out; omega, HSV.out⟩
  case round =>
    obtain ⟨bs, l, hgk, hgm, hsv⟩ := hrel
    have HSVR := Lib.hid hsv
    obtain ⟨A, c, rfl, hle, hcm⟩ := own_form hsv.own
    have hcat : l = [] ∨ ∃ l' s, l = l' ++ [s] := by
      rcases List.eq_nil_or_concat l with h | ⟨l', s, h⟩
      · exact .inl h
      · exact .inr ⟨l', s, by rw [h, List.concat_eq_append]⟩
    rcases hcat with rfl | ⟨l', s, rfl⟩
    · clear hsv
      rw [List.length_nil]
      go_wp2
      go_ret
      have h9 := HSVR.out
      exact ⟨g, bs, HG.out, rfl, h9.fl, h9.si.len, h9.si.done, h9.mx, h9.flf, h9.bw, h9.kp, h9.sz⟩
    · obtain ⟨m, hm⟩ : ∃ m, l'.length = m := ⟨_, rfl⟩
      have HM := Lib.hid hm
      have hll : (l' ++ [s]).length = m + 1 := by rw [List.length_append, List.length_singleton, hm]
      rw [hll] at HSVR hsv hle hgk ⊢
      obtain ⟨b, rfl, cs⟩ := (hsv.pop hm).2
      have HPO := Lib.hid (hsv.pop hm).1
      rw [hm] at HPO
      have hsN : s < N := (hsv.si.wait s (by simp)).1
      have z0 : (0 : Int) ≤ (m : Int) := by omega
      have z1 : (m : Int) < (m : Int) + 1 := by omega
      have z2 : (m : Int) ≤ (c : Int) := by omega
      have z3 : (0 : Int) ≤ (s : Int) := by omega
      have z4 : (s : Int) < (N : Int) := by omega
      have z5 : m < c := by omega
      obtain ⟨bo, hbo⟩ : ∃ bo, bs[s]? = some bo := ⟨_, List.getElem?_eq_getElem (by rw [hsv.si.len]; exact hsN)⟩
      have cm := hsv.mark hbo
      have HBO := Lib.hid hbo
      cases bo with
      | true =>
        clear hsv hll hm hbo
        go_wp2
        go_roundg (unS bs M.fr + m)
        case measure => omega
        case rel => exact ⟨bs, l', by rw [HM.out], by omega, HSVR.out.old HM.out HBO.out⟩
      | false =>
        obtain ⟨ls, hls⟩ : ∃ ls, M.fr[s]? = some ls := ⟨_, List.getElem?_eq_getElem (by rw [HN.out]; exact hsN)⟩
        have hk0 : ∀ k, k ≠ g → (wr.setCell ⟨g, s, none⟩ (.bool true)).heap[k]? = wr.heap[k]? := fun k hk => heap_setCell_other _ _ _ _ hk
        have hm5 := hsv.mx.kept hsv.flf hk0 (by simp)
        obtain ⟨bF, fc9, A9, c9, d0, d1, d2, d3, d4⟩ := hm5.rowAt hls
        have hXg : X ≠ g := by have := HX.out; omega
        have hgX : g ≠ X := fun e => hXg e.symm
        have hd5 := (MX.kept_own hsv.mx hsv.flf hk0 (by simp) bF).1 d4
        have hgF : g ≠ bF := fun e => hsv.flf.2.2 (by rw [e]; exact hd5)
        have hFg : bF ≠ g := fun e => hgF e.symm
        rw [cell_block _ wr X 0 (hk0 X hXg), HN.out] at d0
        rw [cell_block _ wr bF s (hk0 bF hFg)] at d2
        rw [HN.out] at d1
        have fm := fz_own hsv.fl s
        obtain ⟨ts, e9, ht1, ht2⟩ := HNAT.out.row hls
        rw [HN.out] at ht1
        have HT1 := Lib.hid ht1
        have HT2 := Lib.hid ht2
        have htl : ls.length = ts.length := by rw [e9, castL_len]
        have hlen9 := HLL.out ls (List.mem_of_getElem? hls)
        have HUS := Lib.hid (unS_set bs M.fr s ls hbo hls)
        have HOV : Hid ((wr.setCell ⟨g, s, none⟩ (.bool true)).ownsRow (X + 1) 3 1 (.slice (some ⟨b, 0, none⟩) m c) m ((castL l').flatMap intC)) := Lib.hid (own_kept HPO.out fun k hk => hk0 k (by
          have : k = b := by injection hk with hk; exact hk.symm
          subst this
          exact (hsv.free k rfl).2.1))
        have hmm : m ≤ 27004000 := by omega
        have hXs : X + 1 ≤ (wr.setCell ⟨g, s, none⟩ (.bool true)).heap.size := hm5.le
        rw [htl, e9] at d3
        have HAP := Lib.hid (app_ints9 HOV.out d3 (c := c9) (by omega) hXs)
        have HTL := Lib.hid htl
        rw [htl] at d2 HUS hlen9
        clear hsv hll hm hbo hk0 hm5 d3 d4 hd5 e9 ht1 ht2 htl hls hXs
        go_wp2_with (at_builtin; refine HAP.out _ _ _ _ _ rfl _ _ rfl rfl rfl ?_; intro v' w6 hown6 hgrow6 hat6; have HO6 := Lib.hid hown6; have HG6 := Lib.hid hgrow6; have HA6 := Lib.hid hat6; clear hown6 hgrow6 hat6)
        go_roundg (unS (bs.set s true) M.fr + (m + ts.length))
        case measure => have := HUS.out; omega
        case rel => exact ⟨bs.set s true, l' ++ ts, by rw [List.length_append, HM.out], by have := HUS.out; omega, HSVR.out.new HG.out HX.out HM.out HT2.out HT1.out HG6.out (by rw [HM.out]; exact HO6.out) HA6.out⟩
end Go.Proofs.Ytbefndibkpjgaaa
/- rxfact: the states to which a byte leads. -/
namespace Go.Proofs.Ytbefndibkpjgaaa
open Go.RowKit
set_option linter.unusedVariables false
set_option linter.unusedSimpArgs false

def onB (M : Mc) (c : Nat) (s : Nat) : Bool := (M.by_[s]?.getD false) && (match M.se[s]? with | some S => S c | none => false)
def onL (M : Mc) (bs : List Bool) (c : Nat) (k : Nat) : List Nat := ((List.range k).filter fun s => (bs[s]?.getD false) && onB M c s).map (· + 1)
theorem onL_succ (M : Mc) (bs : List Bool) (c k : Nat) : onL M bs c (k + 1) = onL M bs c k ++ if ((bs[k]?.getD false) && onB M c k) = true then [k + 1] else [] := by
  unfold onL
  rw [List.range_succ, List.filter_append, List.map_append]
  by_cases h : ((bs[k]?.getD false) && onB M c k) = true
  · rw [if_pos h, List.filter_cons, if_pos h]; rfl
  · rw [if_neg h, List.filter_cons, if_neg h]; rfl
theorem onL_len (M : Mc) (bs : List Bool) (c k : Nat) : (onL M bs c k).length ≤ k := by
  unfold onL
  rw [List.length_map]
  exact Nat.le_trans (List.length_filter_le _ _) (by simp)
theorem onL_mem (M : Mc) (bs : List Bool) (c : UInt8) (k y : Nat) (hb : bs.length = k) : y ∈ onL M bs c.toNat k ↔ ∃ s, y = s + 1 ∧ bs[s]? = some true ∧ BE M s c := by
  unfold onL
  rw [List.mem_map]
  have key : ∀ s, onB M c.toNat s = true ↔ BE M s c := fun s => by
    unfold onB BE
    cases hby : M.by_[s]? with
    | none => simp
    | some b =>
      cases hse : M.se[s]? with
      | none => simp
      | some S => simp
  constructor
  · rintro ⟨s, hs, rfl⟩
    obtain ⟨h1, h2⟩ := List.mem_filter.1 hs
    rw [Bool.and_eq_true] at h2
    refine ⟨s, rfl, ?_, (key s).1 h2.2⟩
    have h3 := h2.1
    cases hb : bs[s]? with
    | none => rw [hb] at h3; cases h3
    | some b => rw [hb] at h3; simp at h3; rw [h3]
  · rintro ⟨s, rfl, h1, h2⟩
    exact ⟨s, List.mem_filter.2 ⟨List.mem_range.2 (by have := (List.getElem?_eq_some_iff.1 h1).1; omega), by rw [h1, (key s).2 h2]; rfl⟩, rfl⟩
def GivL9 (l : List Nat) (w : World) (e : Ending) (w' : World) : Prop := ∃ v, e = .returned v ∧ w'.ownsRow w.heap.size 3 1 v l.length ((castL l).flatMap intC) ∧ Below w.heap.size w w'
theorem castL_snoc (l : List Nat) (k : Nat) : castL (l ++ [k + 1]) = castL l ++ [((k : Int) + 1)] := by simp [castL]
set_option maxRecDepth 100000 in
set_option maxHeartbeats 8000000 in
theorem on_any (X : Nat) (w : World) (M : Mc) (N : Nat) (h : MX X w M []) (hN : M.fr.length = N) (hNN : N ≤ 3000) (a : Option Addr) (cc : Nat) (bs : List Bool) (hr : CRow bolC 1 w a N bs) (c : Nat) (hc : c < 256) :
    Calls Try.prog 36 #[.pointer (some ⟨X, 0, none⟩), .slice a N cc, .int .u8 (c : Int)] w fun e w' => GivL9 (onL M bs c N) w e w' := by
  have HH := Lib.hid h
  have HR := Lib.hid hr
  have HN := Lib.hid hN
  have HX : Hid (X + 1 ≤ w.heap.size) := Lib.hid h.le
  clear h hr hN
  go_enter Try.func36, Try.ntmps36
  go_wp2
  go_loopw [7, 12] (fun u i wr => ∃ k : Nat, k ≤ N ∧ i = .int .i64 (k : Int) ∧ wr.ownsRow w.heap.size 3 1 u (onL M bs c k).length ((castL (onL M bs c k)).flatMap intC) ∧ Below w.heap.size w wr) (fun _ i _ => N - (intOf i).toNat)
  case atStart => exact ⟨0, by omega, rfl, own_new _ _ _ _, Below.refl _ _⟩
  case round =>
    obtain ⟨k, hk, rfl, hown, hb⟩ := hrel
    have HF := Lib.hid (own_form hown)
    have HOW := Lib.hid hown
    have HB := Lib.hid hb
    have hgl : w.heap.size ≤ wr.heap.size := hb.size
    have hul := onL_len M bs c k
    clear hown hb
    obtain ⟨A, cA, rfl, hle, hcc⟩ := HF.out
    clear HF
    by_cases hlt : k < N
    · have h0 : (0 : Int) ≤ (k : Int) := by omega
      have h1 : (k : Int) < (N : Int) := by omega
      obtain ⟨b1, o1, b0, rfl, hbl, hb0, hcb⟩ := (HR.out.below HB.out).at_ hlt
      have y0 : wr.cell? ⟨b1, o1 + k, none⟩ = some (.bool b0) := by have := hcb 0 (.bool b0) rfl; simpa using this
      have HU := Lib.hid (onL_succ M bs c k)
      rw [hb0, Option.getD_some] at HU
      obtain ⟨xs, hxs⟩ : ∃ xs, onL M bs c k = xs := ⟨_, rfl⟩
      rw [hxs] at HU HOW hul hle ⊢
      clear hxs hcb hb0
      cases b0 with
      | false =>
        have HE : Hid (onL M bs c (k + 1) = xs) := Lib.hid (by rw [HU.out]; simp)
        go_wp2
        go_roundw
        case rel => exact ⟨k + 1, by omega, by go_num, by rw [HE.out]; exact HOW.out, HB.out⟩
        case measure => simp [intOf]; omega
      | true =>
        obtain ⟨os, fv, sv, bv, hm, q1, q2, q3⟩ := HH.out.below HB.out
        obtain ⟨_, ⟨sa, sc, rfl, hs1, hs2⟩, ⟨ba, bc, rfl, hb1, hb2⟩⟩ := hm.forms
        have hl2 := HN.out
        have g2 : M.se.length = N := by omega
        have g3 : M.by_.length = N := by omega
        obtain ⟨bS, rfl, s1, s2, _⟩ := own_at hm.own.2.1 (by omega)
        obtain ⟨bB, rfl, t1, t2, _⟩ := own_at hm.own.2.2 (by omega)
        rw [g2, g3] at hm
        rw [g2] at hs1
        rw [g3] at hb1
        have c1 : wr.cell? ⟨X, 1, none⟩ = some (.slice (some ⟨bS, 0, none⟩) N sc) := hm.cell.2.1
        have c2 : wr.cell? ⟨X, 2, none⟩ = some (.slice (some ⟨bB, 0, none⟩) N bc) := hm.cell.2.2
        obtain ⟨S0, hS0⟩ : ∃ S0, M.se[k]? = some S0 := ⟨_, List.getElem?_eq_getElem (by omega)⟩
        obtain ⟨z9, hz9⟩ : ∃ z9, M.by_[k]? = some z9 := ⟨_, List.getElem?_eq_getElem (by omega)⟩
        have d4 := hm.cellB rfl hz9
        have d0 := hm.cellS rfl hS0 0 _ rfl
        have d1 := hm.cellS rfl hS0 1 _ rfl
        have d2 := hm.cellS rfl hS0 2 _ rfl
        have d3 := hm.cellS rfl hS0 3 _ rfl
        simp only [Nat.add_zero] at d0
        have HQ : Hid (onB M c k = (z9 && S0 c)) := Lib.hid (by unfold onB; rw [hz9, hS0]; rfl)
        rw [HQ.out] at HU
        clear hm q1 q2 q3 hl2 g2 g3 s1 s2 t1 t2 hS0 hz9 HQ
        cases z9 with
        | false =>
          have HE : Hid (onL M bs c (k + 1) = xs) := Lib.hid (by rw [HU.out]; simp)
          go_wp2
          go_roundw
          case rel => exact ⟨k + 1, by omega, by go_num, by rw [HE.out]; exact HOW.out, HB.out⟩
          case measure => simp [intOf]; omega
        | true =>
          have HC := Lib.hid (has_any S0 c wr hc)
          unfold setV at HC
          obtain ⟨r, hr9⟩ : ∃ r, S0 c = r := ⟨_, rfl⟩
          rw [hr9] at HC HU
          clear hr9
          cases r with
          | false =>
            have HE : Hid (onL M bs c (k + 1) = xs) := Lib.hid (by rw [HU.out]; simp)
            go_wp2_with (go_at_call 23; refine HC.out.mono ?_; rintro e w2 ⟨rfl, hb9⟩; have HO2 := Lib.hid (ownB HOW.out hb9); have HB2 := Lib.hid (HB.out.trans (hb9.mono hgl)); have hgl2 : w.heap.size ≤ w2.heap.size := Nat.le_trans hgl hb9.size; clear hb9)
            go_roundw
            case rel => exact ⟨k + 1, by omega, by go_num, by rw [HE.out]; exact HO2.out, HB2.out⟩
            case measure => simp [intOf]; omega
          | true =>
            have HE : Hid (onL M bs c (k + 1) = xs ++ [k + 1]) := Lib.hid (by rw [HU.out]; rfl)
            have hx9 : xs.length ≤ 1000000 := by omega
            go_wp2_with (first
              | (go_at_call 23; refine HC.out.mono ?_; rintro e w2 ⟨rfl, hb9⟩; have HO2 := Lib.hid (ownB HOW.out hb9); have HB2 := Lib.hid (HB.out.trans (hb9.mono hgl)); have hgl2 : w.heap.size ≤ w2.heap.size := Nat.le_trans hgl hb9.size; have HAP := Lib.hid (app_int HO2.out ((k : Int) + 1) hx9 hgl2 w2.heap.size rfl); clear hb9)
              | (at_builtin; refine HAP.out _ _ _ _ _ rfl _ _ rfl rfl rfl ?_; intro gg cap w3 hown1 hgrow hat; have HW := Lib.hid hown1; have HB3 := Lib.hid (below_grown (HB2.out.alloc hgl2 _) (by simp; omega) hgrow (fun j hj => (own_ge HO2.out hj).1)); clear hown1 hgrow hat))
            go_roundw
            case rel => exact ⟨k + 1, by omega, by go_num, by rw [HE.out, List.length_append, castL_snoc]; exact HW.out, HB3.out⟩
            case measure => simp [intOf]; omega
    · have hk2 : k = N := by omega
      subst hk2
      go_wp2
      go_ret
      exact ⟨_, rfl, HOW.out, HB.out⟩
end Go.Proofs.Ytbefndibkpjgaaa
/- Matrices of truths: the document's same, set, both, behind, again. -/
namespace Go.Proofs.Ytbefndibkpjgaaa
open Go.RowKit
set_option linter.unusedVariables false
set_option linter.unusedSimpArgs false

theorem wp_store1 {o : Oper} {a : Act} {w : World} {K : Act → World → Prop} {Q : Exit → Act → World → Prop} (x y : Operand) (ho : o.op = .store 4 x y) (p : Addr) (v : Bool) (u : Value)
    (hx : a.eval x = .pointer (some p)) (hy : a.eval y = .bool v) (hc : w.cell? p = some u) (hf : w.frozen? p = false) (h : K (a.put o.dst undef) (w.setCell p (.bool v))) : o.wp Try.prog a w K Q := by
  have cS := hc
  have fS := hf
  unfold Oper.wp execOp
  simp only [ho, hx, hy]
  go_simp
  exact h
set_option maxRecDepth 100000 in
set_option maxHeartbeats 1000000 in
theorem same9_any (w : World) (s : ByteArray) (m : Nat) (hm : (s.size : Int) + 1 = (m : Int)) (hn : s.size ≤ 1000) :
    Calls Try.prog 55 #[.string s] w fun e w' => GivM w m sameM e w' := by
  have HN := Lib.hid (none9_any w s m hm hn)
  obtain ⟨g, hg⟩ : ∃ g, w.heap.size = g := ⟨_, rfl⟩
  have HG := Lib.hid hg
  clear hg
  go_enter Try.func55, Try.ntmps55
  go_wp2_with fail
  refine HN.out.mono ?_
  rintro e w1 ⟨A, c, bs, rfl, hM, hb1⟩
  rw [HG.out] at hM hb1
  have HM := Lib.hid hM
  have HB1 := Lib.hid hb1
  clear hM hb1 HN
  go_wp2
  go_loopw [4] (fun i wr => ∃ k : Nat, k ≤ m ∧ i = .int .i64 (k : Int) ∧ MatO wr g m A c bs (fun p q => decide (p = q) && decide (p < k)) ∧ Below g w wr) (fun i _ => m - (intOf i).toNat)
  case atStart => exact ⟨0, by omega, rfl, HM.out.congr (fun p q _ _ => by simp), HB1.out⟩
  case round =>
    obtain ⟨k, hk, rfl, hM, hb⟩ := hrel
    have HM2 := Lib.hid hM
    have HB := Lib.hid hb
    clear hM hb
    by_cases hlt : k < m
    · obtain ⟨g0, b, rfl, hbk, hg0, _, hb0, hbs, c0, c1, hfz⟩ := HM2.out.cells hlt
      have c1 := c1 k hlt
      have hfz := hfz k
      have HBK := Lib.hid hbk
      have z0 : (0 : Int) ≤ (k : Int) := by omega
      have z1 : (k : Int) < (m : Int) := by omega
      have z2 : (k : Int) ≤ (s.size : Int) := by omega
      clear hbk
      go_wp2
      go_roundw
      case rel => exact ⟨k + 1, by omega, by go_num, (HM2.out.set HBK.out hlt true).congr (fun p q hp hq => by
        unfold updM
        by_cases h1 : p = k ∧ q = k
        · rw [if_pos h1, h1.1, h1.2]; simp
        · rw [if_neg h1]
          by_cases h2 : p = q
          · subst h2
            have : p ≠ k := fun e => h1 ⟨e, e⟩
            have e : (p < k) = (p < k + 1) := by rw [eq_iff_iff]; omega
            simp only [e]
          · simp [h2]), HB.out.trans (HM2.out.set_below HBK.out k _)⟩
      case measure => simp [intOf]; omega
    · have hk2 : k = m := by omega
      have z2 : ¬ (k : Int) ≤ (s.size : Int) := by omega
      subst hk2
      go_wp2
      go_ret
      exact GivM.mk (HM2.out.read.congr (fun p q hp hq => by unfold sameM; simp [hp])) (by rw [HG.out]; exact HB.out)
set_option maxRecDepth 100000 in
set_option maxHeartbeats 1000000 in
theorem set9_any (w : World) (S : Nat → Bool) (s : ByteArray) (m : Nat) (hm : (s.size : Int) + 1 = (m : Int)) (hn : s.size ≤ 1000) :
    Calls Try.prog 56 #[setV S, .string s] w fun e w' => GivM w m (setM S (LS s)) e w' := by
  obtain ⟨g, hg⟩ : ∃ g, w.heap.size = g := ⟨_, rfl⟩
  have HG := Lib.hid hg
  have hhs := fun (x : UInt8) w' => refhas_any S x.toNat w' x.toNat_lt
  obtain ⟨W1, hW1⟩ : ∃ W, W = w.alloc (.cells #[.int .u64 (wd S 0), .int .u64 (wd S 1), .int .u64 (wd S 2), .int .u64 (wd S 3)] 33) := ⟨_, rfl⟩
  have hb1 : Below g w W1 := by rw [hW1, ← hg]; exact (Below.refl _ _).alloc (Nat.le_refl _) _
  have hs1 : W1.heap.size = g + 1 := by rw [hW1]; simp [hg]
  have hx1 : W1.heap[g]? = some (.cells #[.int .u64 (wd S 0), .int .u64 (wd S 1), .int .u64 (wd S 2), .int .u64 (wd S 3)] 33 (0, 0)) := by rw [hW1, ← hg]; exact heap_alloc_new w _
  have HN := Lib.hid (none9_any W1 s m hm hn)
  rw [hW1] at HN
  have HB1 := Lib.hid hb1
  have HS1 := Lib.hid hs1
  have HX1 := Lib.hid hx1
  unfold setV at hhs ⊢
  have HHAS := Lib.hid hhs
  clear hb1 hs1 hx1 hhs
  go_enter Try.func56, Try.ntmps56
  go_wp2_with fail
  refine HN.out.mono ?_
  rintro e w1 ⟨A, c, bs, rfl, hM, hb2⟩
  rw [← hW1, HS1.out] at hb2 hM
  have HM := Lib.hid hM
  have HB2 := Lib.hid hb2
  clear hM hb2 HN hW1 hg
  go_wp2
  go_loopw [6] (fun i wr => ∃ (k : Nat) (f : Mx), k < m ∧ i = .int .i64 (k : Int) ∧ MatO wr (g + 1) m A c bs f ∧ (∀ p q, p < m → q < m → f p q = (setM S (LS s) p q && decide (p < k))) ∧ Below (g + 1) W1 wr) (fun i _ => m - (intOf i).toNat)
  case atStart => exact ⟨0, _, by omega, rfl, HM.out, fun p q _ _ => by simp, HB2.out⟩
  case round =>
    obtain ⟨k, f, hk, rfl, hM, hf, hb⟩ := hrel
    have HM2 := Lib.hid hM
    have HF := Lib.hid hf
    have HB := Lib.hid hb
    clear hM hb hf
    by_cases hlt : k < s.size
    · obtain ⟨g0, b, rfl, hbk, hg0, hg0l, hb0, hbl, c0, c1, hfz⟩ := HM2.out.cells hk
      have z0 : (0 : Int) ≤ (k : Int) := by omega
      have z1 : (k : Int) < (m : Int) := by omega
      have z2 : (k : Int) < (s.size : Int) := by omega
      have z3 : (k : Int) + 1 < (m : Int) := by omega
      have c1 := c1 (k + 1) (by omega)
      have hfz := hfz (k + 1)
      have HBK := Lib.hid hbk
      have hxb := (HB.out.block g (by omega)).trans HX1.out
      have s0 : wr.cell? ⟨g, 0, none⟩ = some (.int .u64 (wd S 0)) := by rw [cell_of_row wr g _ _ _ _ hxb]; rfl
      have s1 : wr.cell? ⟨g, 1, none⟩ = some (.int .u64 (wd S 1)) := by rw [cell_of_row wr g _ _ _ _ hxb]; rfl
      have s2 : wr.cell? ⟨g, 2, none⟩ = some (.int .u64 (wd S 2)) := by rw [cell_of_row wr g _ _ _ _ hxb]; rfl
      have s3 : wr.cell? ⟨g, 3, none⟩ = some (.int .u64 (wd S 3)) := by rw [cell_of_row wr g _ _ _ _ hxb]; rfl
      have HHS := Lib.hid (HHAS.out (s[k]'hlt))
      have HSV : Hid (setM S (LS s) k (k + 1) = S (s[k]'hlt).toNat) := Lib.hid (by unfold setM; rw [LS_at s k hlt]; simp)
      obtain ⟨x8, hx8⟩ : ∃ b : Nat, (s[k]'hlt).toNat = b := ⟨_, rfl⟩
      have hbI : ((s[k]'hlt).toNat : Int) = (x8 : Int) := by rw [hx8]
      rw [hx8] at HHS HSV
      obtain ⟨v, hv⟩ : ∃ v, S x8 = v := ⟨_, rfl⟩
      rw [hv] at HHS HSV
      have z4 : decide (k < s.size) = true := decide_eq_true hlt
      have HWK : Hid (IntKind.i64.wrap ((k : Int) + 1) = (k : Int) + 1) := Lib.hid (IntWalk.i64_in _ ⟨by omega, by omega⟩)
      clear hbk hv hxb
      go_wp2_with fail
      refine wp_region_fam_tail_lit (E := Onto) 12 1
        [isV (.slice (some ⟨g0, 0, none⟩) m c),
         isV (.int .i64 (k : Int)),
         isV (.pointer (some ⟨g0, k, none⟩)),
         isV (.slice (some ⟨b, 0, none⟩) m m),
         isV (.int .i64 (k : Int)),
         isV (.int .i64 ((k : Int) + 1)),
         isV (.agg #[.int .u64 (wd S 0), .int .u64 (wd S 1), .int .u64 (wd S 2), .int .u64 (wd S 3)]),
         isV (.string s),
         isV (.int .i64 (k : Int)),
         isV (.int .u8 (x8 : Int)),
         isV (.bool v),
         isV (.pointer (some ⟨b, k + 1, none⟩))]
        [some 15, some 16, some 17, some 18, some 19, some 20, some 21, some 22, some 23, some 24, some 25, some 26] #[true, true, true, true, true, true, true, true, true, true, true, true, false] (by kernel_rfl) rfl (by kernel_rfl) (by kernel_rfl) rfl rfl rfl Onto.trans Onto.refl ?monoA ?obA ?qA
      case monoA => exact ⟨isV_mono _ _, isV_mono _ _, isV_mono _ _, isV_mono _ _, isV_mono _ _, isV_mono _ _, isV_mono _ _, isV_mono _ _, isV_mono _ _, isV_mono _ _, isV_mono _ _, isV_mono _ _, trivial⟩
      case obA =>
        refine Obs.cons (j := 1) rfl ?_ ?_
        · refine Ob.free [(5, none)] (by kernel_rfl) (isV (.slice (some ⟨g0, 0, none⟩) m c)) rfl rfl (fun a X hE hL => ?_)
          simp [Seen, slotAt] at hL
          have h5 := hL
          rw [relAt_eq]
          go_simp
          exact ⟨Onto.refl _, rfl⟩
        refine Obs.cons (j := 2) rfl ?_ ?_
        · refine Ob.free [(6, none)] (by kernel_rfl) (isV (.int .i64 (k : Int))) rfl rfl (fun a X hE hL => ?_)
          simp [Seen, slotAt] at hL
          have h6 := hL
          rw [relAt_eq]
          go_simp
          exact ⟨Onto.refl _, rfl⟩
        refine Obs.cons (j := 3) rfl ?_ ?_
        · refine Ob.free [(15, some 0), (16, some 1)] (by kernel_rfl) (isV (.pointer (some ⟨g0, k, none⟩))) rfl rfl (fun a X hE hL => ?_)
          simp [Seen, slotAt, famV, isV] at hL
          obtain ⟨h15, h16⟩ := hL
          rw [relAt_eq]
          go_simp
          exact ⟨Onto.refl _, rfl⟩
        refine Obs.cons (j := 4) rfl ?_ ?_
        · refine Ob.free [(17, some 2)] (by kernel_rfl) (isV (.slice (some ⟨b, 0, none⟩) m m)) rfl rfl (fun a X hE hL => ?_)
          simp [Seen, slotAt, famV, isV] at hL
          have h17 := hL
          rw [relAt_eq]
          have f0 := keeps hE _ _ c0
          go_simp
          exact ⟨Onto.refl _, rfl⟩
        refine Obs.cons (j := 5) rfl ?_ ?_
        · refine Ob.free [(6, none)] (by kernel_rfl) (isV (.int .i64 (k : Int))) rfl rfl (fun a X hE hL => ?_)
          simp [Seen, slotAt] at hL
          have h6 := hL
          rw [relAt_eq]
          go_simp
          exact ⟨Onto.refl _, rfl⟩
        refine Obs.cons (j := 6) rfl ?_ ?_
        · refine Ob.free [(19, some 4)] (by kernel_rfl) (isV (.int .i64 ((k : Int) + 1))) rfl rfl (fun a X hE hL => ?_)
          simp [Seen, slotAt, famV, isV] at hL
          have h19 := hL
          rw [relAt_eq]
          go_simp
          exact ⟨Onto.refl _, congrArg (Value.int .i64) HWK.out⟩
        refine Obs.cons (j := 7) rfl ?_ ?_
        · refine Ob.free [(2, none)] (by kernel_rfl) (isV (.agg #[.int .u64 (wd S 0), .int .u64 (wd S 1), .int .u64 (wd S 2), .int .u64 (wd S 3)])) rfl rfl (fun a X hE hL => ?_)
          simp [Seen, slotAt] at hL
          have h2 := hL
          rw [relAt_eq]
          have f0 := keeps hE _ _ s0; have f1 := keeps hE _ _ s1; have f2 := keeps hE _ _ s2; have f3 := keeps hE _ _ s3
          go_simp
          exact ⟨Onto.refl _, rfl⟩
        refine Obs.cons (j := 8) rfl ?_ ?_
        · refine Ob.free [(1, none)] (by kernel_rfl) (isV (.string s)) rfl rfl (fun a X hE hL => ?_)
          simp [Seen, slotAt] at hL
          have h1 := hL
          rw [relAt_eq]
          go_simp
          exact ⟨Onto.refl _, rfl⟩
        refine Obs.cons (j := 9) rfl ?_ ?_
        · refine Ob.free [(6, none)] (by kernel_rfl) (isV (.int .i64 (k : Int))) rfl rfl (fun a X hE hL => ?_)
          simp [Seen, slotAt] at hL
          have h6 := hL
          rw [relAt_eq]
          go_simp
          exact ⟨Onto.refl _, rfl⟩
        refine Obs.cons (j := 10) rfl ?_ ?_
        · refine Ob.free [(22, some 7), (23, some 8)] (by kernel_rfl) (isV (.int .u8 (x8 : Int))) rfl rfl (fun a X hE hL => ?_)
          simp [Seen, slotAt, famV, isV] at hL
          obtain ⟨h22, h23⟩ := hL
          rw [relAt_eq]
          go_simp
          exact ⟨Onto.refl _, rfl⟩
        refine Obs.cons (j := 11) rfl ?_ ?_
        · refine Ob.free [(21, some 6), (24, some 9)] (by kernel_rfl) (isV (.bool v)) rfl rfl (fun a X hE hL => ?_)
          simp [Seen, slotAt, famV, isV] at hL
          obtain ⟨h21, h24⟩ := hL
          rw [relAt_eq]
          go_simp
          rw [relUpon_enter]
          go_at_call 72
          refine (HHS.out X).mono ?_
          rintro e Y ⟨rfl, hY⟩
          exact ⟨_, rfl, hY, rfl⟩
        refine Obs.cons (j := 12) rfl ?_ ?_
        · refine Ob.free [(18, some 3), (20, some 5)] (by kernel_rfl) (isV (.pointer (some ⟨b, k + 1, none⟩))) rfl rfl (fun a X hE hL => ?_)
          simp [Seen, slotAt, famV, isV] at hL
          obtain ⟨h18, h20⟩ := hL
          rw [relAt_eq]
          go_simp
          exact ⟨Onto.refl _, rfl⟩
        exact trivial
      case qA =>
        intro x wA hE hV
        simp [AllV, famV, isV] at hV
        obtain ⟨-, -, -, -, -, -, -, -, -, -, h25, h26⟩ := hV
        simp only [puts, Act.put, List.setIfInBounds_toArray, List.set_cons_zero, List.set_cons_succ, h25, h26]
        generalize x 15 = y15
        generalize x 16 = y16
        generalize x 17 = y17
        generalize x 18 = y18
        generalize x 19 = y19
        generalize x 20 = y20
        generalize x 21 = y21
        generalize x 22 = y22
        generalize x 23 = y23
        generalize x 24 = y24
        clear h25 h26
        have hbA := onto_drew hE
        have HBA := Lib.hid hbA
        have HMA := Lib.hid (HM2.out.below hbA)
        have cA := (hbA.cell (p := ⟨b, k + 1, none⟩) hbl).trans c1
        have fA := (HMA.out.rows.at_ k b HBK.out).2.2
        clear hE hbA
        refine wpAny_ready (rs := [12]) (by kernel_rfl) (by simp) ?_
        refine AllReady.cons rfl (fun K hK => ?_) AllReady.nil
        rw [if_pos (by rfl)]
        refine wp_store1 _ _ rfl ⟨b, k + 1, none⟩ v _ rfl rfl cA (frozen_of_row wA b (k + 1) _ _ fA) ?_
        refine hK _ _ ?_
        clear hK K
        try simp only [Act.put, List.getElem_toArray, List.getElem_cons_succ, List.getElem_cons_zero, List.setIfInBounds_toArray, List.set_cons_zero, List.set_cons_succ]
        refine wpAny_done (by kernel_rfl) ?_ _
        go_wp2
        go_roundw
        case rel => exact ⟨k + 1, _, by omega, by go_num, HMA.out.set HBK.out (by omega) v, fun p q hp hq => by
          unfold updM
          by_cases h1 : p = k ∧ q = k + 1
          · rw [if_pos h1, h1.1, h1.2, HSV.out]; simp
          · rw [if_neg h1, HF.out p q hp hq]
            by_cases h2 : p = k
            · subst h2
              have : setM S (LS s) p q = false := by
                unfold setM
                have : ¬ q = p + 1 := fun e => h1 ⟨rfl, e⟩
                simp [this]
              rw [this]; rfl
            · have e : (p < k) = (p < k + 1) := by rw [eq_iff_iff]; omega
              simp only [e], (HB.out.trans (HBA.out.mono (by omega))).trans (HMA.out.set_below HBK.out _ _)⟩
        case measure => simp [intOf]; omega
    · have z2 : ¬ (k : Int) < (s.size : Int) := by omega
      have z4 : decide (k < s.size) = false := decide_eq_false hlt
      go_wp2
      go_ret
      exact GivM.mk (HM2.out.read.congr (fun p q hp hq => by
        rw [HF.out p q hp hq]
        by_cases h : p < k
        · simp [h]
        · have h2 : setM S (LS s) p q = false := by
            unfold setM
            have : ¬ q = p + 1 := by omega
            simp [this]
          rw [h2]; rfl)) (by rw [HG.out]; exact HB1.out.trans (HB.out.mono (by omega)))
end Go.Proofs.Ytbefndibkpjgaaa
