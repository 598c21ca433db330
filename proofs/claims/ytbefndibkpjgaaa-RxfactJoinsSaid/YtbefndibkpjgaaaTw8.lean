/- Several texts in one: OverF. -/
import Derived.Test.YtbefndibkpjgaaaTw6
import Derived.Test.YtbefndibkpjgaaaTw3
import Derived.Test.YtbefndibkpjgaaaTw1
import Derived.Deep.AppendLies
/- rxfact: over the steps, with what is known of each part. -/
namespace Go.Proofs.Ytbefndibkpjgaaa
open Go.RowKit
set_option linter.unusedVariables false
set_option linter.unusedSimpArgs false
attribute [local go_sem ↓] loadF_eq

theorem infoFact : (Try.prog.info? 61).map (fun i => (i.zero, i.size, i.bytes)) = some (some (.agg #[.bool false, .int .i64 0, .int .i64 0, .bool false, .int .u64 0, .int .u64 0, .int .u64 0, .int .u64 0, .int .u64 0, .int .u64 0, .int .u64 0, .int .u64 0]), 12, 96) := by kernel_rfl
/-- The first elements of a row of the call's own. -/
theorem own_prefix {w : World} {base : Nat} {e : TypeId} {k n c : Nat} {A : Option Addr} {xs : List Value} (h : w.ownsRow base e k (.slice A n c) n xs) {d : Nat} (hd : d ≤ n) (hA : A ≠ none) : w.ownsRow base e k (.slice A d c) d (xs.take (d * k)) := by
  obtain ⟨h1, h2⟩ := h
  have hle : d * k ≤ n * k := Nat.mul_le_mul_right k hd
  refine ⟨by rw [List.length_take, h1, Nat.min_eq_left hle], ?_⟩
  rcases h2 with ⟨hv, _⟩ | ⟨g, cap, cur, hv, hb, hg, r1, r2, r3, r4⟩
  · injection hv with h9 _ _; exact absurd h9 hA
  · injection hv with h9 h8 h7
    subst h9 h7
    refine .inr ⟨g, c, cur, rfl, hb, hg, by omega, r2, r3, ?_⟩
    rw [← r4, List.take_take, Nat.min_eq_left hle]
theorem flat_take_c {α : Type} {C : α → List Value} {k : Nat} (hk : ∀ o, (C o).length = k) : ∀ (os : List α) (d : Nat), (os.flatMap C).take (d * k) = (os.take d).flatMap C
  | [], d => by simp
  | o :: os, 0 => by simp
  | o :: os, d + 1 => by
    rw [List.take_succ_cons, List.flatMap_cons, List.flatMap_cons, Nat.succ_mul, List.take_append, hk, show d * k + k - k = d * k by omega, flat_take_c hk os d, List.take_of_length_le (by rw [hk]; omega)]
theorem crow_dropd {α : Type} {C : α → List Value} {k : Nat} {w : World} {b off n d : Nat} {xs : List α} (h : CRow C k w (some ⟨b, off, none⟩) n xs) : CRow C k w (some ⟨b, off + d * k, none⟩) (n - d) (xs.drop d) := by
  obtain ⟨h1, h2, h3⟩ := h
  refine ⟨by rw [List.length_drop, h1], by omega, fun hp => ?_⟩
  obtain ⟨b', o', ha, hb, hc⟩ := h3 (by omega)
  simp only [Option.some.injEq, Addr.mk.injEq, and_true] at ha
  obtain ⟨rfl, rfl⟩ := ha
  refine ⟨b, off + d * k, rfl, hb, fun i o hi j v hv => ?_⟩
  rw [List.getElem?_drop] at hi
  have := hc (d + i) o hi j v hv
  rwa [show off + (d + i) * k + j = off + d * k + i * k + j by rw [Nat.add_mul]; omega] at this
theorem crow_nil' {α : Type} {C : α → List Value} {k : Nat} (w : World) (A : Option Addr) {xs : List α} (h : xs = []) : CRow C k w A 0 xs := by subst h; exact CRow.nil w A
/-- A row of facts, whatever of it lies where. -/
def rowV (es : List Fact) (n : Nat) (v : Value) (x : World) : Prop := ∃ A c, v = .slice A n c ∧ CRow factC 12 x A n es
theorem rowV_mono (es : List Fact) (n : Nat) : ∀ v x y, rowV es n v x → Onto x y → rowV es n v y := fun v x y ⟨A, c, e, h⟩ hE => ⟨A, c, e, h.below hE⟩
theorem app_facts {w : World} {base n : Nat} {v : Value} {xs : List Fact} (hown : w.ownsRow base 61 12 v n (xs.flatMap factC)) {a : Option Addr} {m c : Nat} {os : List Fact} (hr : CRow factC 12 w a m os) (hn : n + m ≤ 100000) (hbase : base ≤ w.heap.size)
    (ops : Array Oper) (rest : List Oper) (o : Oper) (act : Act) (Q : Exit → Act → World → Prop) (hg : o.guard = none) (s x : Operand) (ho : o.op = .call { callee := .builtin .append, args := #[s, x], argTypes := #[90, 90] })
    (hs : act.eval s = v) (hx : act.eval x = .slice a m c)
    (h : ∀ v' w', w'.ownsRow base 61 12 v' (n + m) ((xs ++ os).flatMap factC) → w.grownBy w' v.ownBlock → (v'.ownBlock = v.ownBlock ∨ v'.ownBlock = some w.heap.size) →
      wpList Try.prog ops Q rest (act.put o.dst v') w') : wpList Try.prog ops Q (o :: rest) act w := by
  obtain ⟨i0, hii, hz0, hz1, hz2⟩ := info_parts infoFact
  exact wpList_append_row w hg s x 90 ho base 61 i0 _ 96 Try.underlying90 hii hz0 hz1 hz2 rfl (by omega) factC_len factC_one v n (xs.flatMap factC) hs hown a m c os hx hr (by unfold maxLen; omega) (by omega) hbase
    fun v' w' h1 h2 h3 => h v' w' (by rw [List.flatMap_append]; exact h1) h2 h3
/-- A copy of a row of facts. -/
def GivR (w : World) (es : List Fact) (n : Nat) (e : Ending) (w' : World) : Prop := ∃ A c, e = .returned (.slice A n c) ∧ CRow factC 12 w' A n es ∧ Below w.heap.size w w'
theorem cloneF_any (w : World) (a : Option Addr) (n c : Nat) (rs : List Fact) (h : CRow factC 12 w a n rs) (hn : n ≤ 90000) :
    Calls Try.prog 73 #[.slice a n c] w fun e w' => GivR w rs n e w' := by
  cases a with
  | none =>
    have h0 : n = 0 := by
      rcases Nat.eq_zero_or_pos n with h0 | h0
      · exact h0
      · obtain ⟨_, _, ha, _⟩ := h.2.2 h0; cases ha
    subst h0
    have hr : rs = [] := List.length_eq_zero_iff.1 h.1
    subst hr
    clear h
    have heq : (binOp .eql 90 (.slice none 0 c) (.slice none 0 0)).run Try.prog w = .ok (.bool true) w := Lib.run_eql_slice_nil w 90 61 none 0 c 0 0 Try.underlying90
    go_enter Try.func73, Try.ntmps73
    go_wp2
    go_ret
    exact ⟨_, _, rfl, CRow.nil _ _, Below.refl _ _⟩
  | some ad =>
    have HO0 := Lib.hid (World.ownsRow_made (base := w.heap.size) (e := 61) (size := 12) w #[] 0 (Nat.le_refl _) (by decide) (by simp))
    have HB0 := Lib.hid ((Below.refl w.heap.size w).alloc (Nat.le_refl _) (.cells #[] 61))
    have HAP := Lib.hid (app_facts (xs := []) HO0.out (h.below HB0.out) (c := c) (by omega) (by simp))
    have HL := Lib.hid h.1
    clear h
    have heq : (binOp .eql 90 (.slice (some ad) n c) (.slice none 0 0)).run Try.prog w = .ok (.bool false) w := Lib.run_eql_slice_nil w 90 61 (some ad) n c 0 0 Try.underlying90
    go_enter Try.func73, Try.ntmps73
    go_wp2_with (at_builtin; refine HAP.out _ _ _ _ _ rfl _ _ rfl rfl rfl ?_; intro v2 w2 hown1 hgrow hat; have HW := Lib.hid hown1; have HBW := Lib.hid (below_grown HB0.out (by simp) hgrow (fun j hj => (own_ge HO0.out hj).1)); clear hown1 hgrow hat)
    go_ret
    have h9 := HW.out
    rw [List.nil_append, Nat.zero_add] at h9
    obtain ⟨A2, c2, rfl, _, _⟩ := own_form h9
    obtain ⟨rl, hrl⟩ : ∃ x, rs.length = x := ⟨_, rfl⟩
    have hl9 := HL.out
    subst hl9
    exact ⟨A2, c2, rfl, own_row factC_len h9, HBW.out⟩
/-- Two results: a fact in its block, a truth. -/
theorem results_fact {fn : Func} {p t : Tmp} (h : fn.results = #[.cell p 61, .tmp t]) (tmps : Array Value) (w : World) (g : Nat) (D : Fact) (v : Value)
    (hp : tmps.getD p undef = .pointer (some ⟨g, 0, none⟩)) (hv : tmps.getD t undef = v) (hg : FactAt w g D) :
    (results fn tmps).run Try.prog w = .ok (.tuple #[.agg (factA D), v]) w := by
  have hp' : tmps[p]?.getD undef = .pointer (some ⟨g, 0, none⟩) := by simpa using hp
  have hv' : tmps[t]?.getD undef = v := by simpa using hv
  have hl := run_loadF0 w g D hg
  simp [results, h, hp', hv', asAddr, loadF_eq, hl]
def factO : Option RxT → Fact | some T => factT T | none => f0
/-- A new block of such cells. -/
def newB9 (A : Array Value) (v : Value) (x : World) : Prop := ∃ g, v = .slice (some ⟨g, 0, none⟩) 1 1 ∧ x.heap[g]? = some (.cells A 61 (0, 0))
theorem newB9_mono (A : Array Value) : ∀ v x y, newB9 A v x → Onto x y → newB9 A v y := fun v x y ⟨g, e, h⟩ hE => ⟨g, e, (hE.block g (Array.getElem?_eq_some_iff.1 h).1).trans h⟩
def GivK (G : Fact) (w : World) (e : Ending) (w' : World) : Prop := ∃ b, e = .returned (.tuple #[.agg (factA G), .bool b]) ∧ Below w.heap.size w w'
theorem GivK.mk {G : Fact} {w w' : World} (b : Bool) (hb : Below w.heap.size w w') : GivK G w (.returned (.tuple #[.agg (factA G), .bool b])) w' := ⟨b, rfl, hb⟩
theorem own_two {w : World} {base : Nat} {e : TypeId} {k n : Nat} {v : Value} {xs : List Value} (h : w.ownsRow base e k v n xs) : (v = .slice none 0 0 ∧ n = 0) ∨ ∃ gs cap, v = .slice (some ⟨gs, 0, none⟩) n cap ∧ n ≤ cap ∧ cap ≤ 9223372036854775807 := by
  have hm : maxLen ≤ 9223372036854775807 := by decide
  rcases h.2 with h2 | ⟨g, cap, cur, rfl, _, _, h1, h2, _⟩
  · exact .inl h2
  · exact .inr ⟨g, cap, rfl, h1, by omega⟩
theorem rv_top {es : List RxT} {b : RxT} {st : List RxT} (h : es.reverse = b :: st) : ∃ es', es = es' ++ [b] ∧ es'.reverse = st := by
  have hne : es ≠ [] := fun e => by rw [e] at h; simp at h
  have e : es = es.dropLast ++ [es.getLast hne] := (List.dropLast_concat_getLast hne).symm
  rw [e] at h
  simp only [List.reverse_append, List.reverse_cons, List.reverse_nil, List.nil_append, List.singleton_append, List.cons.injEq] at h
  obtain ⟨h1, h2⟩ := h
  exact ⟨es.dropLast, by rw [← h1]; exact e, h2⟩
theorem sum_len : ∀ l : List RxT, l.length ≤ (l.map fun T => (post T).length).sum := fun l => by
  induction l with
  | nil => simp
  | cons a l ih => simp only [List.length_cons, List.map_cons, List.sum_cons]; have := post_pos a; omega
def sumP (st : List RxT) : Nat := (st.map fun T => (post T).length).sum
theorem sumP_mem {st : List RxT} {T : RxT} (h : T ∈ st) : (post T).length ≤ sumP st := by
  induction st with
  | nil => cases h
  | cons a st ih =>
    have e : sumP (a :: st) = (post a).length + sumP st := by simp [sumP]
    rcases List.mem_cons.1 h with rfl | h
    · omega
    · have := ih h; omega
theorem sumP_step {r : Rx} {st st' : List RxT} (h : StepW r st st') : sumP st' = sumP st + 1 := by
  cases h <;> simp [sumP, post] <;> omega
set_option maxRecDepth 100000 in
set_option maxHeartbeats 8000000 in
theorem overF_any (w : World) (a : Option Addr) (n c : Nat) (o : Option RxT) (h : IsRx w a n o) (hn : n ≤ 600) :
    Calls Try.prog 60 #[.slice a n c, .func (.func 61) #[] #[]] w fun e w' => GivK (factO o) w e w' := by
  obtain ⟨g, hg⟩ : ∃ g, w.heap.size = g := ⟨_, rfl⟩
  have HG := Lib.hid hg
  obtain ⟨W0, hW0⟩ : ∃ W, W = (w.alloc ZF).alloc ZF := ⟨_, rfl⟩
  have hs0 : W0.heap.size = g + 2 := by rw [hW0]; simp [hg]
  have hb0 : Below g w W0 := by rw [hW0, ← hg]; exact ((Below.refl _ _).alloc (Nat.le_refl _) _).alloc (by simp) _
  have hz1 : FactAt W0 g f0 := by rw [hW0]; exact (FactAt.zero w g hg).onto (Below.alloc (Below.refl _ _) (Nat.le_refl _) _)
  have hz2 : FactAt W0 (g + 1) f0 := by rw [hW0]; exact FactAt.zero _ _ (by simp [hg])
  have HZ1 := Lib.hid hz1
  have HZ2 := Lib.hid hz2
  have HB0 := Lib.hid hb0
  have HS0 := Lib.hid hs0
  have HW0 := Lib.hid hW0
  have HCK : Hid (∃ q : Nat, (q = 0 ↔ o.isSome = true) ∧ Calls Try.prog 24 #[.slice a n c] W0 fun e w' => e = .returned (.int .i64 (q : Nat)) ∧ Below W0.heap.size W0 w') := Lib.hid (by
    cases o with
    | some T => exact ⟨chkR (post T), by rw [h.2]; simp, check_any W0 a n c _ (h.1.below (by rw [hg]; exact hb0))⟩
    | none =>
      obtain ⟨rs, h1, h2⟩ := h
      exact ⟨chkR rs, by simp [h2], check_any W0 a n c _ (h1.below (by rw [hg]; exact hb0))⟩)
  obtain ⟨q, hq, hck⟩ := HCK.out
  have HQ := Lib.hid hq
  rw [hW0] at hck
  unfold ZF at hW0 hck
  have HCC := Lib.hid hck
  have HH := Lib.hid h
  clear hs0 hb0 hz1 hz2 hq hck h HCK
  go_enter Try.func60, Try.ntmps60
  go_wp2_with fail
  refine HCC.out.mono ?_
  rintro e w1 ⟨rfl, hb1⟩
  rw [← hW0] at hb1
  have HB1 := Lib.hid (HB0.out.trans (hb1.mono (by have := HS0.out; omega)))
  have HZ11 := Lib.hid (HZ1.out.onto hb1)
  have HZ21 := Lib.hid (HZ2.out.onto hb1)
  have hs1 : g + 2 ≤ w1.heap.size := by have := hb1.size; have := HS0.out; omega
  clear hb1 HCC
  cases o with
  | none =>
    have he : ((q : Int) != 0) = true := by rw [bne_iff_ne]; intro h; have := HQ.out.1 (by omega); simp at this
    have hl6 := run_loadF0 w1 (g + 1) f0 HZ21.out
    go_wp2_with (refine wpList_store_fact rfl _ _ rfl g f0 f0 rfl rfl HZ11.out ?_; intro wR hR hBR hOR hSR; have HR := Lib.hid hR; have HBR := Lib.hid (HB1.out.trans (hBR g (Nat.le_refl _))); clear hR hBR hOR hSR)
    refine bodyPost_ret (results_fact rfl _ _ g f0 _ rfl rfl HR.out) rfl (GivK.mk _ (by first | exact HBR.out | (rw [HG.out]; exact HBR.out)))
  | some T =>
    have hq0 : q = 0 := HQ.out.2 rfl
    subst hq0
    have HL := Lib.hid HH.out.1.1
    have HEV := Lib.hid (ev_all T)
    go_wp2
    go_loopw [7, 19] (fun u i wr => ∃ (j : Nat) (es : List RxT), j ≤ n ∧ i = .int .i64 (j : Int) ∧ wr.ownsRow (g + 2) 61 12 u es.length ((es.map factT).flatMap factC) ∧ evT ((post T).drop j) es.reverse = some [T] ∧ sumP es.reverse = j ∧ Below (g + 2) w1 wr) (fun _ i _ => n - (intOf i).toNat)
    case atStart => exact ⟨0, [], by omega, rfl, own_new _ _ _ _, by simpa using HEV.out, rfl, Below.refl _ _⟩
    case round =>
      obtain ⟨j, es, hj, rfl, hown, hev, hsum, hb⟩ := hrel
      have HB := Lib.hid (HB1.out.trans (hb.mono (by omega)))
      have HBW := Lib.hid hb
      have HOW := Lib.hid hown
      have HZ1R := Lib.hid (HZ11.out.below hb (by omega))
      have hgl : g + 2 ≤ wr.heap.size := by have := hb.size; omega
      have HF := Lib.hid (own_form hown)
      have HSUM := Lib.hid hsum
      have hsl : es.length ≤ j := by rw [← hsum]; have h9 := sum_len es.reverse; rw [List.length_reverse] at h9; exact h9
      clear hb hown hsum
      by_cases hlt : j < n
      · obtain ⟨b1, o1, r, rfl, hbl, hr, hc⟩ := (HH.out.1.below (w' := wr) (by rw [HG.out]; exact HB.out)).at_ hlt
        rw [drop_at hr] at hev
        obtain ⟨st', hstep, hev2⟩ := ev_cons hev
        have HEV2 := Lib.hid hev2
        have HSTEP := Lib.hid hstep
        have c0 : wr.cell? ⟨b1, o1 + j * 5, none⟩ = some (.int .i64 r.k) := hc 0 _ rfl
        have c1 : wr.cell? ⟨b1, o1 + j * 5 + 1, none⟩ = some (.int .u64 (wd r.s 0)) := hc 1 _ rfl
        have c2 : wr.cell? ⟨b1, o1 + j * 5 + 2, none⟩ = some (.int .u64 (wd r.s 1)) := hc 2 _ rfl
        have c3 : wr.cell? ⟨b1, o1 + j * 5 + 3, none⟩ = some (.int .u64 (wd r.s 2)) := hc 3 _ rfl
        have c4 : wr.cell? ⟨b1, o1 + j * 5 + 4, none⟩ = some (.int .u64 (wd r.s 3)) := hc 4 _ rfl
        have z0 : (0 : Int) ≤ (j : Int) := by omega
        have z1 : (j : Int) < (n : Int) := by omega
        clear hev hev2 hr hc
        have hx : ∀ j' v, (#[.int .i64 r.k, .int .u64 (wd r.s 0), .int .u64 (wd r.s 1), .int .u64 (wd r.s 2), .int .u64 (wd r.s 3)] : Array Value)[j']? = some v → (wr.alloc (boxR r)).drew.cell? ⟨wr.heap.size, j', none⟩ = some v := fun j' v hv => by
          show (wr.alloc (boxR r)).cell? ⟨wr.heap.size, j', none⟩ = some v
          rw [cell_of_row _ wr.heap.size j' _ _ _ (heap_alloc_new wr (boxR r))]; exact hv
        have x0 := hx 0 _ rfl
        have x1 := hx 1 _ rfl
        have x2 := hx 2 _ rfl
        have x3 := hx 3 _ rfl
        have x4 := hx 4 _ rfl
        have HWX := Lib.hid (Below.alloc (Below.refl wr.heap.size wr) (Nat.le_refl _) (boxR r))
        have HRS : Hid ((wr.alloc (boxR r)).heap.size = wr.heap.size + 1) := Lib.hid (by simp)
        unfold boxR at x0 x1 x2 x3 x4
        clear hx
        obtain ⟨st0, hst⟩ : ∃ x, es.reverse = x := ⟨_, rfl⟩
        rw [hst] at hstep
        have HFE : Hid (∀ Ti ∈ es, Few9 (factT Ti)) := Lib.hid fun Ti hT => by
          have h1 := fact_le Ti
          have h2 := sumP_mem (List.mem_reverse.2 hT)
          have h3 := HSUM.out
          exact ⟨by omega, by omega⟩
        rcases own_two HOW.out with ⟨rfl, hl0⟩ | ⟨gs, cap, rfl, hcap, hcm⟩
        · cases hstep with
          | set S st =>
            have he0 : es = [] := List.length_eq_zero_iff.1 hl0
            subst he0
            subst hst
            have HRV : Hid (([] : List RxT).reverse = []) := Lib.hid rfl
            have HST : Hid (([] : List RxT).reverse = []) := Lib.hid rfl
            have HCL : Hid (∀ X A c, CRow factC 12 X A 0 [] → Calls Try.prog 61 #[.agg #[.int .i64 1, .int .u64 (wd S 0), .int .u64 (wd S 1), .int .u64 (wd S 2), .int .u64 (wd S 3)], .slice A 0 c] X fun e w' => e = .returned (.agg (factA (factT (.set S)))) ∧ Below X.heap.size X w') := Lib.hid fun X A c h => know1_any ⟨1, S⟩ _ _ HSTEP.out [] rfl (fun G hG => by cases hG) A c X h
            obtain ⟨G9, hG9⟩ : ∃ G, factT (.set S) = G := ⟨_, rfl⟩
            have HG9 := Lib.hid hG9
            rw [hG9] at HCL
            clear hG9
            obtain ⟨v0, v1, v2, v3, v4, v5, v6, v7, v8, v9, v10, v11, hA9⟩ : ∃ v0 v1 v2 v3 v4 v5 v6 v7 v8 v9 v10 v11, factA G9 = #[v0, v1, v2, v3, v4, v5, v6, v7, v8, v9, v10, v11] := ⟨_, _, _, _, _, _, _, _, _, _, _, _, rfl⟩
            have HA9 := Lib.hid hA9
            clear hA9
            go_wp2_with fail
            refine wp_region_fam_tail_lit (E := Onto) 8 1
              [isV (.func (.func 61) #[] #[]),
               isV (.agg #[.int .i64 1, .int .u64 (wd S 0), .int .u64 (wd S 1), .int .u64 (wd S 2), .int .u64 (wd S 3)]),
               isV (.slice none 0 0),
               isV (.int .i64 (0 : Int)),
               rowV [] 0,
               rowV [] 0,
               isV (.agg (factA G9)),
               newF wr.heap.size]
              [some 36, some 37, some 38, some 39, some 40, some 41, some 42, some 12] #[true, true, true, true, true, true, true, true, false] (by kernel_rfl) rfl (by kernel_rfl) (by kernel_rfl) rfl rfl rfl Onto.trans Onto.refl ?monoP ?obP ?qP
            case monoP => exact ⟨isV_mono _ _, isV_mono _ _, isV_mono _ _, isV_mono _ _, rowV_mono _ _, rowV_mono _ _, isV_mono _ _, newF_mono _, trivial⟩
            case obP =>
              refine Obs.cons (j := 1) rfl ?_ ?_
              · refine Ob.free [(1, none)] (by kernel_rfl) (isV (.func (.func 61) #[] #[])) rfl rfl (fun a X hE hL => ?_)
                simp [Seen, slotAt] at hL
                have h1 := hL
                rw [relAt_eq]
                go_simp
                exact ⟨Onto.refl _, rfl⟩
              refine Obs.cons (j := 2) rfl ?_ ?_
              · refine Ob.free [(9, none)] (by kernel_rfl) (isV (.agg #[.int .i64 1, .int .u64 (wd S 0), .int .u64 (wd S 1), .int .u64 (wd S 2), .int .u64 (wd S 3)])) rfl rfl (fun a X hE hL => ?_)
                simp [Seen, slotAt] at hL
                have h9 := hL
                rw [relAt_eq]
                have f0 := keeps hE _ _ x0; have f1 := keeps hE _ _ x1; have f2 := keeps hE _ _ x2; have f3 := keeps hE _ _ x3; have f4 := keeps hE _ _ x4
                go_simp
                exact ⟨Onto.refl _, rfl⟩
              refine Obs.cons (j := 3) rfl ?_ ?_
              · refine Ob.free [(7, none)] (by kernel_rfl) (isV (.slice none 0 0)) rfl rfl (fun a X hE hL => ?_)
                simp [Seen, slotAt] at hL
                have h7 := hL
                rw [relAt_eq]
                go_simp
                exact ⟨Onto.refl _, rfl⟩
              refine Obs.cons (j := 4) rfl ?_ ?_
              · refine Ob.free [(11, none)] (by kernel_rfl) (isV (.int .i64 (0 : Int))) rfl rfl (fun a X hE hL => ?_)
                simp [Seen, slotAt] at hL
                have h11 := hL
                rw [relAt_eq]
                go_simp
                exact ⟨Onto.refl _, rfl⟩
              refine Obs.cons (j := 5) rfl ?_ ?_
              · refine Ob.free [(38, some 2), (39, some 3)] (by kernel_rfl) (rowV [] 0) rfl rfl (fun a X hE hL => ?_)
                simp [Seen, slotAt, famV, isV] at hL
                obtain ⟨h38, h39⟩ := hL
                rw [relAt_eq]
                go_simp
                exact ⟨Onto.refl _, _, _, rfl, CRow.nil _ _⟩
              refine Obs.cons (j := 6) rfl ?_ ?_
              · refine Ob.free [(40, some 4)] (by kernel_rfl) (rowV [] 0) rfl rfl (fun a X hE hL => ?_)
                simp [Seen, slotAt, famV] at hL
                have h40 := hL
                rw [relAt_eq]
                obtain ⟨A9, c9, e9, r9⟩ := h40
                go_simp
                rw [relUpon_enter]
                go_at_call 73
                refine (cloneF_any X A9 0 c9 _ r9 (by omega)).mono ?_
                rintro e Y ⟨A2, c2, rfl, hr2, hY⟩
                exact ⟨_, rfl, hY, A2, c2, rfl, hr2⟩
              refine Obs.cons (j := 7) rfl ?_ ?_
              · refine Ob.free [(36, some 0), (37, some 1), (41, some 5)] (by kernel_rfl) (isV (.agg (factA G9))) rfl rfl (fun a X hE hL => ?_)
                simp [Seen, slotAt, famV, isV] at hL
                obtain ⟨h36, h37, h41⟩ := hL
                rw [relAt_eq]
                obtain ⟨A9, c9, e9, r9⟩ := h41
                go_simp
                rw [relUpon_enter]
                go_at_call 61
                refine (HCL.out X A9 c9 r9).mono ?_
                rintro e Y ⟨rfl, hY⟩
                exact ⟨_, rfl, hY, rfl⟩
              refine Obs.cons (j := 8) rfl ?_ ?_
              · refine Ob.free [] (by kernel_rfl) (newF wr.heap.size) rfl rfl (fun a X hE hL => ?_)
                rw [relAt_eq]
                go_simp
                exact ⟨(Below.refl _ _).alloc (Nat.le_refl _) _, X.heap.size, rfl, by have h9 := (onto_drew hE).size; simp at h9; omega, FactAt.zero X _ rfl⟩
              exact trivial
            case qP =>
              intro x wA hE hV
              simp [AllV, famV, isV] at hV
              obtain ⟨-, -, -, -, -, -, h42, h12⟩ := hV
              simp only [puts, Act.put, List.setIfInBounds_toArray, List.set_cons_zero, List.set_cons_succ, h42]
              generalize x 36 = y36
              generalize x 37 = y37
              generalize x 38 = y38
              generalize x 39 = y39
              generalize x 40 = y40
              generalize x 41 = y41
              generalize x 12 = y12 at h12 ⊢
              clear h42
              have hbA := onto_drew hE
              obtain ⟨k, rfl, hgk, hk⟩ := h12
              have HK := Lib.hid hk
              have HTA := Lib.hid (HWX.out.trans (hbA.mono HWX.out.size))
              clear hE hbA hk
              refine wpAny_ready (rs := [8]) (by kernel_rfl) (by simp) ?_
              refine AllReady.cons rfl (fun K hK => ?_) AllReady.nil
              rw [if_pos (by rfl)]
              refine wp_store_fact _ _ rfl k f0 G9 rfl rfl HK.out ?_
              intro wB hK2 hBB hO hS
              have HK2 := Lib.hid hK2
              have hT : Below wr.heap.size wr wB := HTA.out.trans (hBB _ hgk)
              have HBB := Lib.hid (HBW.out.trans (hT.mono (by omega)))
              have HPR : Hid (wB.ownsRow (g + 2) 61 12 (.slice none 0 0) 0 ([])) := Lib.hid (own_new _ _ _ _)
              have HBS : Hid (g + 2 ≤ wB.heap.size) := Lib.hid (by have := hT.size; omega)
              clear hK2 hBB hO hS hT HK
              refine hK _ _ ?_
              clear hK K
              try simp only [Act.put, List.getElem_toArray, List.getElem_cons_succ, List.getElem_cons_zero, List.setIfInBounds_toArray, List.set_cons_zero, List.set_cons_succ]
              refine wpAny_done (by kernel_rfl) ?_ _
              go_wp2_with fail
              refine wp_region_fam_tail_lit (E := Onto) 5 2
                [isV (.slice none 0 0),
                 isV (.int .i64 (0 : Int)),
                 isV (.slice none 0 0),
                 isV (.agg (factA G9)),
                 newB9 (factA G9)]
                [some 43, some 44, some 45, some 46, some 47] #[true, true, true, true, true, false, false] (by kernel_rfl) rfl (by kernel_rfl) (by kernel_rfl) rfl rfl rfl Onto.trans Onto.refl ?monoQ ?obQ ?qQ
              case monoQ => exact ⟨isV_mono _ _, isV_mono _ _, isV_mono _ _, isV_mono _ _, newB9_mono _, trivial⟩
              case obQ =>
                refine Obs.cons (j := 1) rfl ?_ ?_
                · refine Ob.free [(7, none)] (by kernel_rfl) (isV (.slice none 0 0)) rfl rfl (fun a X hE hL => ?_)
                  simp [Seen, slotAt] at hL
                  have h7 := hL
                  rw [relAt_eq]
                  go_simp
                  exact ⟨Onto.refl _, rfl⟩
                refine Obs.cons (j := 2) rfl ?_ ?_
                · refine Ob.free [(11, none)] (by kernel_rfl) (isV (.int .i64 (0 : Int))) rfl rfl (fun a X hE hL => ?_)
                  simp [Seen, slotAt] at hL
                  have h11 := hL
                  rw [relAt_eq]
                  go_simp
                  exact ⟨Onto.refl _, rfl⟩
                refine Obs.cons (j := 3) rfl ?_ ?_
                · refine Ob.free [(43, some 0), (44, some 1)] (by kernel_rfl) (isV (.slice none 0 0)) rfl rfl (fun a X hE hL => ?_)
                  simp [Seen, slotAt, famV, isV] at hL
                  obtain ⟨h43, h44⟩ := hL
                  rw [relAt_eq]
                  go_simp
                  exact ⟨Onto.refl _, rfl⟩
                refine Obs.cons (j := 4) rfl ?_ ?_
                · refine Ob.free [(12, none)] (by kernel_rfl) (isV (.agg (factA G9))) rfl rfl (fun a X hE hL => ?_)
                  simp [Seen, slotAt] at hL
                  have h12 := hL
                  rw [relAt_eq]
                  have hl9 := run_loadF0 X k _ (HK2.out.onto (onto_drew hE))
                  go_simp
                  exact ⟨Onto.refl _, rfl⟩
                refine Obs.cons (j := 5) rfl ?_ ?_
                · refine Ob.free [(46, some 3)] (by kernel_rfl) (newB9 (factA G9)) rfl rfl (fun a X hE hL => ?_)
                  simp [Seen, slotAt, famV, isV] at hL
                  have h46 := hL
                  rw [relAt_eq]
                  rw [HA9.out] at hL h46
                  go_simp
                  refine ⟨(Below.refl _ _).alloc (Nat.le_refl _) _, X.heap.size, rfl, ?_⟩
                  rw [HA9.out]
                  exact heap_alloc_new X _
                exact trivial
              case qQ =>
                intro x wC hE hV
                simp [AllV, famV, isV] at hV
                obtain ⟨-, -, h45, -, h47⟩ := hV
                simp only [puts, Act.put, List.setIfInBounds_toArray, List.set_cons_zero, List.set_cons_succ, h45]
                generalize x 43 = y43
                generalize x 44 = y44
                generalize x 46 = y46
                generalize x 47 = y47 at h47 ⊢
                clear h45
                have hbC := onto_drew hE
                have HBC := Lib.hid (HBB.out.trans (hbC.mono (by have := HBS.out; omega)))
                have HOC := Lib.hid (ownB HPR.out hbC)
                have hgC : g + 2 ≤ wC.heap.size := by have := hbC.size; have := HBS.out; omega
                obtain ⟨gn, rfl, hgn⟩ := h47
                clear hE hbC
                refine wpAny_ready (rs := [5]) (by kernel_rfl) (by simp) ?_
                refine AllReady.cons rfl (fun K hK => ?_) AllReady.nil
                rw [if_pos (by rfl)]
                refine wp_app_el (C := factC) (n := 0) (xs := ([] : List Fact)) (v := .slice none 0 0) (t := 90) (by decide) factC_len factC_one Try.underlying90 infoFact rfl _ _ _ rfl rfl HOC.out G9 rfl hgn (by unfold maxLen; omega) (by omega) hgC ?_
                intro gg cc w6 hown6 hgrow6 hat6
                have HO6 := Lib.hid hown6
                have HB6 := Lib.hid (below_grown HBC.out (by omega) hgrow6 (fun q hq => (own_ge HOC.out hq).1))
                clear hown6 hgrow6 hat6
                refine hK _ _ ?_
                clear hK K
                try simp only [Act.put, List.getElem_toArray, List.getElem_cons_succ, List.getElem_cons_zero, List.setIfInBounds_toArray, List.set_cons_zero, List.set_cons_succ]
                refine wpAny_take (i := 6) (v := .slice (some ⟨gg, 0, none⟩) (0 + 1) cc) rfl (by kernel_rfl) (by kernel_rfl) (by kernel_rfl) (fun _ _ _ h => h) (Or.inl ⟨by rfl, fun X => ?_⟩) ?_
                · go_simp
                try simp only [Act.put, List.getElem_toArray, List.getElem_cons_succ, List.getElem_cons_zero, List.setIfInBounds_toArray, List.set_cons_zero, List.set_cons_succ]
                refine wpAny_done (by kernel_rfl) ?_ _
                go_wp2
                go_roundw
                case rel => exact ⟨j + 1, [] ++ [.set S], by omega, by go_num, by have h9 := HO6.out; rw [List.length_append, List.length_singleton, List.map_append, List.map_cons, List.map_nil, HG9.out]; exact h9, by rw [List.reverse_append]; show evT _ (.set S :: [].reverse) = _; first | exact HEV2.out | (rw [HRV.out]; exact HEV2.out), by have h9 := sumP_step HSTEP.out; rw [List.reverse_append]; show sumP (.set S :: [].reverse) = _; rw [HSUM.out] at h9; first | exact h9 | (rw [HRV.out]; exact h9), HB6.out⟩
                case measure => simp [intOf]; omega
          | empty S st =>
            have he0 : es = [] := List.length_eq_zero_iff.1 hl0
            subst he0
            subst hst
            have HRV : Hid (([] : List RxT).reverse = []) := Lib.hid rfl
            have HST : Hid (([] : List RxT).reverse = []) := Lib.hid rfl
            have HCL : Hid (∀ X A c, CRow factC 12 X A 0 [] → Calls Try.prog 61 #[.agg #[.int .i64 2, .int .u64 (wd S 0), .int .u64 (wd S 1), .int .u64 (wd S 2), .int .u64 (wd S 3)], .slice A 0 c] X fun e w' => e = .returned (.agg (factA (factT (.empty)))) ∧ Below X.heap.size X w') := Lib.hid fun X A c h => know1_any ⟨2, S⟩ _ _ HSTEP.out [] rfl (fun G hG => by cases hG) A c X h
            obtain ⟨G9, hG9⟩ : ∃ G, factT (.empty) = G := ⟨_, rfl⟩
            have HG9 := Lib.hid hG9
            rw [hG9] at HCL
            clear hG9
            obtain ⟨v0, v1, v2, v3, v4, v5, v6, v7, v8, v9, v10, v11, hA9⟩ : ∃ v0 v1 v2 v3 v4 v5 v6 v7 v8 v9 v10 v11, factA G9 = #[v0, v1, v2, v3, v4, v5, v6, v7, v8, v9, v10, v11] := ⟨_, _, _, _, _, _, _, _, _, _, _, _, rfl⟩
            have HA9 := Lib.hid hA9
            clear hA9
            go_wp2_with fail
            refine wp_region_fam_tail_lit (E := Onto) 8 1
              [isV (.func (.func 61) #[] #[]),
               isV (.agg #[.int .i64 2, .int .u64 (wd S 0), .int .u64 (wd S 1), .int .u64 (wd S 2), .int .u64 (wd S 3)]),
               isV (.slice none 0 0),
               isV (.int .i64 (0 : Int)),
               rowV [] 0,
               rowV [] 0,
               isV (.agg (factA G9)),
               newF wr.heap.size]
              [some 36, some 37, some 38, some 39, some 40, some 41, some 42, some 12] #[true, true, true, true, true, true, true, true, false] (by kernel_rfl) rfl (by kernel_rfl) (by kernel_rfl) rfl rfl rfl Onto.trans Onto.refl ?monoP ?obP ?qP
            case monoP => exact ⟨isV_mono _ _, isV_mono _ _, isV_mono _ _, isV_mono _ _, rowV_mono _ _, rowV_mono _ _, isV_mono _ _, newF_mono _, trivial⟩
            case obP =>
              refine Obs.cons (j := 1) rfl ?_ ?_
              · refine Ob.free [(1, none)] (by kernel_rfl) (isV (.func (.func 61) #[] #[])) rfl rfl (fun a X hE hL => ?_)
                simp [Seen, slotAt] at hL
                have h1 := hL
                rw [relAt_eq]
                go_simp
                exact ⟨Onto.refl _, rfl⟩
              refine Obs.cons (j := 2) rfl ?_ ?_
              · refine Ob.free [(9, none)] (by kernel_rfl) (isV (.agg #[.int .i64 2, .int .u64 (wd S 0), .int .u64 (wd S 1), .int .u64 (wd S 2), .int .u64 (wd S 3)])) rfl rfl (fun a X hE hL => ?_)
                simp [Seen, slotAt] at hL
                have h9 := hL
                rw [relAt_eq]
                have f0 := keeps hE _ _ x0; have f1 := keeps hE _ _ x1; have f2 := keeps hE _ _ x2; have f3 := keeps hE _ _ x3; have f4 := keeps hE _ _ x4
                go_simp
                exact ⟨Onto.refl _, rfl⟩
              refine Obs.cons (j := 3) rfl ?_ ?_
              · refine Ob.free [(7, none)] (by kernel_rfl) (isV (.slice none 0 0)) rfl rfl (fun a X hE hL => ?_)
                simp [Seen, slotAt] at hL
                have h7 := hL
                rw [relAt_eq]
                go_simp
                exact ⟨Onto.refl _, rfl⟩
              refine Obs.cons (j := 4) rfl ?_ ?_
              · refine Ob.free [(11, none)] (by kernel_rfl) (isV (.int .i64 (0 : Int))) rfl rfl (fun a X hE hL => ?_)
                simp [Seen, slotAt] at hL
                have h11 := hL
                rw [relAt_eq]
                go_simp
                exact ⟨Onto.refl _, rfl⟩
              refine Obs.cons (j := 5) rfl ?_ ?_
              · refine Ob.free [(38, some 2), (39, some 3)] (by kernel_rfl) (rowV [] 0) rfl rfl (fun a X hE hL => ?_)
                simp [Seen, slotAt, famV, isV] at hL
                obtain ⟨h38, h39⟩ := hL
                rw [relAt_eq]
                go_simp
                exact ⟨Onto.refl _, _, _, rfl, CRow.nil _ _⟩
              refine Obs.cons (j := 6) rfl ?_ ?_
              · refine Ob.free [(40, some 4)] (by kernel_rfl) (rowV [] 0) rfl rfl (fun a X hE hL => ?_)
                simp [Seen, slotAt, famV] at hL
                have h40 := hL
                rw [relAt_eq]
                obtain ⟨A9, c9, e9, r9⟩ := h40
                go_simp
                rw [relUpon_enter]
                go_at_call 73
                refine (cloneF_any X A9 0 c9 _ r9 (by omega)).mono ?_
                rintro e Y ⟨A2, c2, rfl, hr2, hY⟩
                exact ⟨_, rfl, hY, A2, c2, rfl, hr2⟩
              refine Obs.cons (j := 7) rfl ?_ ?_
              · refine Ob.free [(36, some 0), (37, some 1), (41, some 5)] (by kernel_rfl) (isV (.agg (factA G9))) rfl rfl (fun a X hE hL => ?_)
                simp [Seen, slotAt, famV, isV] at hL
                obtain ⟨h36, h37, h41⟩ := hL
                rw [relAt_eq]
                obtain ⟨A9, c9, e9, r9⟩ := h41
                go_simp
                rw [relUpon_enter]
                go_at_call 61
                refine (HCL.out X A9 c9 r9).mono ?_
                rintro e Y ⟨rfl, hY⟩
                exact ⟨_, rfl, hY, rfl⟩
              refine Obs.cons (j := 8) rfl ?_ ?_
              · refine Ob.free [] (by kernel_rfl) (newF wr.heap.size) rfl rfl (fun a X hE hL => ?_)
                rw [relAt_eq]
                go_simp
                exact ⟨(Below.refl _ _).alloc (Nat.le_refl _) _, X.heap.size, rfl, by have h9 := (onto_drew hE).size; simp at h9; omega, FactAt.zero X _ rfl⟩
              exact trivial
            case qP =>
              intro x wA hE hV
              simp [AllV, famV, isV] at hV
              obtain ⟨-, -, -, -, -, -, h42, h12⟩ := hV
              simp only [puts, Act.put, List.setIfInBounds_toArray, List.set_cons_zero, List.set_cons_succ, h42]
              generalize x 36 = y36
              generalize x 37 = y37
              generalize x 38 = y38
              generalize x 39 = y39
              generalize x 40 = y40
              generalize x 41 = y41
              generalize x 12 = y12 at h12 ⊢
              clear h42
              have hbA := onto_drew hE
              obtain ⟨k, rfl, hgk, hk⟩ := h12
              have HK := Lib.hid hk
              have HTA := Lib.hid (HWX.out.trans (hbA.mono HWX.out.size))
              clear hE hbA hk
              refine wpAny_ready (rs := [8]) (by kernel_rfl) (by simp) ?_
              refine AllReady.cons rfl (fun K hK => ?_) AllReady.nil
              rw [if_pos (by rfl)]
              refine wp_store_fact _ _ rfl k f0 G9 rfl rfl HK.out ?_
              intro wB hK2 hBB hO hS
              have HK2 := Lib.hid hK2
              have hT : Below wr.heap.size wr wB := HTA.out.trans (hBB _ hgk)
              have HBB := Lib.hid (HBW.out.trans (hT.mono (by omega)))
              have HPR : Hid (wB.ownsRow (g + 2) 61 12 (.slice none 0 0) 0 ([])) := Lib.hid (own_new _ _ _ _)
              have HBS : Hid (g + 2 ≤ wB.heap.size) := Lib.hid (by have := hT.size; omega)
              clear hK2 hBB hO hS hT HK
              refine hK _ _ ?_
              clear hK K
              try simp only [Act.put, List.getElem_toArray, List.getElem_cons_succ, List.getElem_cons_zero, List.setIfInBounds_toArray, List.set_cons_zero, List.set_cons_succ]
              refine wpAny_done (by kernel_rfl) ?_ _
              go_wp2_with fail
              refine wp_region_fam_tail_lit (E := Onto) 5 2
                [isV (.slice none 0 0),
                 isV (.int .i64 (0 : Int)),
                 isV (.slice none 0 0),
                 isV (.agg (factA G9)),
                 newB9 (factA G9)]
                [some 43, some 44, some 45, some 46, some 47] #[true, true, true, true, true, false, false] (by kernel_rfl) rfl (by kernel_rfl) (by kernel_rfl) rfl rfl rfl Onto.trans Onto.refl ?monoQ ?obQ ?qQ
              case monoQ => exact ⟨isV_mono _ _, isV_mono _ _, isV_mono _ _, isV_mono _ _, newB9_mono _, trivial⟩
              case obQ =>
                refine Obs.cons (j := 1) rfl ?_ ?_
                · refine Ob.free [(7, none)] (by kernel_rfl) (isV (.slice none 0 0)) rfl rfl (fun a X hE hL => ?_)
                  simp [Seen, slotAt] at hL
                  have h7 := hL
                  rw [relAt_eq]
                  go_simp
                  exact ⟨Onto.refl _, rfl⟩
                refine Obs.cons (j := 2) rfl ?_ ?_
                · refine Ob.free [(11, none)] (by kernel_rfl) (isV (.int .i64 (0 : Int))) rfl rfl (fun a X hE hL => ?_)
                  simp [Seen, slotAt] at hL
                  have h11 := hL
                  rw [relAt_eq]
                  go_simp
                  exact ⟨Onto.refl _, rfl⟩
                refine Obs.cons (j := 3) rfl ?_ ?_
                · refine Ob.free [(43, some 0), (44, some 1)] (by kernel_rfl) (isV (.slice none 0 0)) rfl rfl (fun a X hE hL => ?_)
                  simp [Seen, slotAt, famV, isV] at hL
                  obtain ⟨h43, h44⟩ := hL
                  rw [relAt_eq]
                  go_simp
                  exact ⟨Onto.refl _, rfl⟩
                refine Obs.cons (j := 4) rfl ?_ ?_
                · refine Ob.free [(12, none)] (by kernel_rfl) (isV (.agg (factA G9))) rfl rfl (fun a X hE hL => ?_)
                  simp [Seen, slotAt] at hL
                  have h12 := hL
                  rw [relAt_eq]
                  have hl9 := run_loadF0 X k _ (HK2.out.onto (onto_drew hE))
                  go_simp
                  exact ⟨Onto.refl _, rfl⟩
                refine Obs.cons (j := 5) rfl ?_ ?_
                · refine Ob.free [(46, some 3)] (by kernel_rfl) (newB9 (factA G9)) rfl rfl (fun a X hE hL => ?_)
                  simp [Seen, slotAt, famV, isV] at hL
                  have h46 := hL
                  rw [relAt_eq]
                  rw [HA9.out] at hL h46
                  go_simp
                  refine ⟨(Below.refl _ _).alloc (Nat.le_refl _) _, X.heap.size, rfl, ?_⟩
                  rw [HA9.out]
                  exact heap_alloc_new X _
                exact trivial
              case qQ =>
                intro x wC hE hV
                simp [AllV, famV, isV] at hV
                obtain ⟨-, -, h45, -, h47⟩ := hV
                simp only [puts, Act.put, List.setIfInBounds_toArray, List.set_cons_zero, List.set_cons_succ, h45]
                generalize x 43 = y43
                generalize x 44 = y44
                generalize x 46 = y46
                generalize x 47 = y47 at h47 ⊢
                clear h45
                have hbC := onto_drew hE
                have HBC := Lib.hid (HBB.out.trans (hbC.mono (by have := HBS.out; omega)))
                have HOC := Lib.hid (ownB HPR.out hbC)
                have hgC : g + 2 ≤ wC.heap.size := by have := hbC.size; have := HBS.out; omega
                obtain ⟨gn, rfl, hgn⟩ := h47
                clear hE hbC
                refine wpAny_ready (rs := [5]) (by kernel_rfl) (by simp) ?_
                refine AllReady.cons rfl (fun K hK => ?_) AllReady.nil
                rw [if_pos (by rfl)]
                refine wp_app_el (C := factC) (n := 0) (xs := ([] : List Fact)) (v := .slice none 0 0) (t := 90) (by decide) factC_len factC_one Try.underlying90 infoFact rfl _ _ _ rfl rfl HOC.out G9 rfl hgn (by unfold maxLen; omega) (by omega) hgC ?_
                intro gg cc w6 hown6 hgrow6 hat6
                have HO6 := Lib.hid hown6
                have HB6 := Lib.hid (below_grown HBC.out (by omega) hgrow6 (fun q hq => (own_ge HOC.out hq).1))
                clear hown6 hgrow6 hat6
                refine hK _ _ ?_
                clear hK K
                try simp only [Act.put, List.getElem_toArray, List.getElem_cons_succ, List.getElem_cons_zero, List.setIfInBounds_toArray, List.set_cons_zero, List.set_cons_succ]
                refine wpAny_take (i := 6) (v := .slice (some ⟨gg, 0, none⟩) (0 + 1) cc) rfl (by kernel_rfl) (by kernel_rfl) (by kernel_rfl) (fun _ _ _ h => h) (Or.inl ⟨by rfl, fun X => ?_⟩) ?_
                · go_simp
                try simp only [Act.put, List.getElem_toArray, List.getElem_cons_succ, List.getElem_cons_zero, List.setIfInBounds_toArray, List.set_cons_zero, List.set_cons_succ]
                refine wpAny_done (by kernel_rfl) ?_ _
                go_wp2
                go_roundw
                case rel => exact ⟨j + 1, [] ++ [.empty], by omega, by go_num, by have h9 := HO6.out; rw [List.length_append, List.length_singleton, List.map_append, List.map_cons, List.map_nil, HG9.out]; exact h9, by rw [List.reverse_append]; show evT _ (.empty :: [].reverse) = _; first | exact HEV2.out | (rw [HRV.out]; exact HEV2.out), by have h9 := sumP_step HSTEP.out; rw [List.reverse_append]; show sumP (.empty :: [].reverse) = _; rw [HSUM.out] at h9; first | exact h9 | (rw [HRV.out]; exact h9), HB6.out⟩
                case measure => simp [intOf]; omega
          | cat S a' b' st =>
            obtain ⟨es0, rfl, _⟩ := rv_top hst
            simp at hl0
          | alt S a' b' st =>
            obtain ⟨es0, rfl, _⟩ := rv_top hst
            simp at hl0
          | star S a' st =>
            obtain ⟨es0, rfl, _⟩ := rv_top hst
            simp at hl0
          | plus S a' st =>
            obtain ⟨es0, rfl, _⟩ := rv_top hst
            simp at hl0
          | opt S a' st =>
            obtain ⟨es0, rfl, _⟩ := rv_top hst
            simp at hl0
        · have hrow : CRow factC 12 wr (some ⟨gs, 0, none⟩) es.length (es.map factT) := by
            have h9 := HOW.out
            have e9 : es.length = (es.map factT).length := (List.length_map _).symm
            rw [e9] at h9
            rw [e9]
            exact own_row factC_len h9
          have HROW := Lib.hid hrow
          clear hrow
          cases hstep with
          | set S st =>
            have hlen : es.length = es.length + 0 := rfl
            have HST := Lib.hid hst
            subst hst
            have HRV : Hid (es.reverse = es.reverse) := Lib.hid rfl
            obtain ⟨d, hd⟩ : ∃ d, es.length = d := ⟨_, rfl⟩
            have HD := Lib.hid hd
            have HDR : Hid ((es.map factT).drop d = []) := Lib.hid (List.drop_of_length_le (by rw [List.length_map, hd]; exact Nat.le_refl _))
            have HTK : Hid ((es.map factT).take d = es.map factT) := Lib.hid (List.take_of_length_le (by rw [List.length_map, hd]; exact Nat.le_refl _))
            rw [hd] at hcap hsl HOW HROW ⊢
            clear hd hlen
            have y0 : (d : Int) - 0 = (d : Int) := by omega
            have HCL : Hid (∀ X A c, CRow factC 12 X A 0 [] → Calls Try.prog 61 #[.agg #[.int .i64 1, .int .u64 (wd S 0), .int .u64 (wd S 1), .int .u64 (wd S 2), .int .u64 (wd S 3)], .slice A 0 c] X fun e w' => e = .returned (.agg (factA (factT (.set S)))) ∧ Below X.heap.size X w') := Lib.hid fun X A c h => know1_any ⟨1, S⟩ _ _ HSTEP.out [] rfl (fun G hG => by cases hG) A c X h
            obtain ⟨G9, hG9⟩ : ∃ G, factT (.set S) = G := ⟨_, rfl⟩
            have HG9 := Lib.hid hG9
            rw [hG9] at HCL
            clear hG9
            obtain ⟨v0, v1, v2, v3, v4, v5, v6, v7, v8, v9, v10, v11, hA9⟩ : ∃ v0 v1 v2 v3 v4 v5 v6 v7 v8 v9 v10 v11, factA G9 = #[v0, v1, v2, v3, v4, v5, v6, v7, v8, v9, v10, v11] := ⟨_, _, _, _, _, _, _, _, _, _, _, _, rfl⟩
            have HA9 := Lib.hid hA9
            clear hA9
            go_wp2_with fail
            refine wp_region_fam_tail_lit (E := Onto) 8 1
              [isV (.func (.func 61) #[] #[]),
               isV (.agg #[.int .i64 1, .int .u64 (wd S 0), .int .u64 (wd S 1), .int .u64 (wd S 2), .int .u64 (wd S 3)]),
               isV (.slice (some ⟨gs, 0, none⟩) (d) cap),
               isV (.int .i64 (d : Int)),
               rowV [] 0,
               rowV [] 0,
               isV (.agg (factA G9)),
               newF wr.heap.size]
              [some 36, some 37, some 38, some 39, some 40, some 41, some 42, some 12] #[true, true, true, true, true, true, true, true, false] (by kernel_rfl) rfl (by kernel_rfl) (by kernel_rfl) rfl rfl rfl Onto.trans Onto.refl ?monoP ?obP ?qP
            case monoP => exact ⟨isV_mono _ _, isV_mono _ _, isV_mono _ _, isV_mono _ _, rowV_mono _ _, rowV_mono _ _, isV_mono _ _, newF_mono _, trivial⟩
            case obP =>
              refine Obs.cons (j := 1) rfl ?_ ?_
              · refine Ob.free [(1, none)] (by kernel_rfl) (isV (.func (.func 61) #[] #[])) rfl rfl (fun a X hE hL => ?_)
                simp [Seen, slotAt] at hL
                have h1 := hL
                rw [relAt_eq]
                go_simp
                exact ⟨Onto.refl _, rfl⟩
              refine Obs.cons (j := 2) rfl ?_ ?_
              · refine Ob.free [(9, none)] (by kernel_rfl) (isV (.agg #[.int .i64 1, .int .u64 (wd S 0), .int .u64 (wd S 1), .int .u64 (wd S 2), .int .u64 (wd S 3)])) rfl rfl (fun a X hE hL => ?_)
                simp [Seen, slotAt] at hL
                have h9 := hL
                rw [relAt_eq]
                have f0 := keeps hE _ _ x0; have f1 := keeps hE _ _ x1; have f2 := keeps hE _ _ x2; have f3 := keeps hE _ _ x3; have f4 := keeps hE _ _ x4
                go_simp
                exact ⟨Onto.refl _, rfl⟩
              refine Obs.cons (j := 3) rfl ?_ ?_
              · refine Ob.free [(7, none)] (by kernel_rfl) (isV (.slice (some ⟨gs, 0, none⟩) (d) cap)) rfl rfl (fun a X hE hL => ?_)
                simp [Seen, slotAt] at hL
                have h7 := hL
                rw [relAt_eq]
                go_simp
                exact ⟨Onto.refl _, rfl⟩
              refine Obs.cons (j := 4) rfl ?_ ?_
              · refine Ob.free [(11, none)] (by kernel_rfl) (isV (.int .i64 (d : Int))) rfl rfl (fun a X hE hL => ?_)
                simp [Seen, slotAt] at hL
                have h11 := hL
                rw [relAt_eq]
                go_simp
                exact ⟨Onto.refl _, rfl⟩
              refine Obs.cons (j := 5) rfl ?_ ?_
              · refine Ob.free [(38, some 2), (39, some 3)] (by kernel_rfl) (rowV [] 0) rfl rfl (fun a X hE hL => ?_)
                simp [Seen, slotAt, famV, isV] at hL
                obtain ⟨h38, h39⟩ := hL
                rw [relAt_eq]
                go_simp
                refine ⟨Onto.refl _, _, _, rfl, ?_⟩
                by_cases hcd : cap = d
                · rw [if_pos hcd]; exact CRow.nil _ _
                · rw [if_neg hcd]
                  have h9 := crow_dropd (d := d) (HROW.out.below (HWX.out.trans ((onto_drew hE).mono HWX.out.size)))
                  rw [Nat.zero_add, HDR.out] at h9
                  simpa using h9
              refine Obs.cons (j := 6) rfl ?_ ?_
              · refine Ob.free [(40, some 4)] (by kernel_rfl) (rowV [] 0) rfl rfl (fun a X hE hL => ?_)
                simp [Seen, slotAt, famV] at hL
                have h40 := hL
                rw [relAt_eq]
                obtain ⟨A9, c9, e9, r9⟩ := h40
                go_simp
                rw [relUpon_enter]
                go_at_call 73
                refine (cloneF_any X A9 0 c9 _ r9 (by omega)).mono ?_
                rintro e Y ⟨A2, c2, rfl, hr2, hY⟩
                exact ⟨_, rfl, hY, A2, c2, rfl, hr2⟩
              refine Obs.cons (j := 7) rfl ?_ ?_
              · refine Ob.free [(36, some 0), (37, some 1), (41, some 5)] (by kernel_rfl) (isV (.agg (factA G9))) rfl rfl (fun a X hE hL => ?_)
                simp [Seen, slotAt, famV, isV] at hL
                obtain ⟨h36, h37, h41⟩ := hL
                rw [relAt_eq]
                obtain ⟨A9, c9, e9, r9⟩ := h41
                go_simp
                rw [relUpon_enter]
                go_at_call 61
                refine (HCL.out X A9 c9 r9).mono ?_
                rintro e Y ⟨rfl, hY⟩
                exact ⟨_, rfl, hY, rfl⟩
              refine Obs.cons (j := 8) rfl ?_ ?_
              · refine Ob.free [] (by kernel_rfl) (newF wr.heap.size) rfl rfl (fun a X hE hL => ?_)
                rw [relAt_eq]
                go_simp
                exact ⟨(Below.refl _ _).alloc (Nat.le_refl _) _, X.heap.size, rfl, by have h9 := (onto_drew hE).size; simp at h9; omega, FactAt.zero X _ rfl⟩
              exact trivial
            case qP =>
              intro x wA hE hV
              simp [AllV, famV, isV] at hV
              obtain ⟨-, -, -, -, -, -, h42, h12⟩ := hV
              simp only [puts, Act.put, List.setIfInBounds_toArray, List.set_cons_zero, List.set_cons_succ, h42]
              generalize x 36 = y36
              generalize x 37 = y37
              generalize x 38 = y38
              generalize x 39 = y39
              generalize x 40 = y40
              generalize x 41 = y41
              generalize x 12 = y12 at h12 ⊢
              clear h42
              have hbA := onto_drew hE
              obtain ⟨k, rfl, hgk, hk⟩ := h12
              have HK := Lib.hid hk
              have HTA := Lib.hid (HWX.out.trans (hbA.mono HWX.out.size))
              clear hE hbA hk
              refine wpAny_ready (rs := [8]) (by kernel_rfl) (by simp) ?_
              refine AllReady.cons rfl (fun K hK => ?_) AllReady.nil
              rw [if_pos (by rfl)]
              refine wp_store_fact _ _ rfl k f0 G9 rfl rfl HK.out ?_
              intro wB hK2 hBB hO hS
              have HK2 := Lib.hid hK2
              have hT : Below wr.heap.size wr wB := HTA.out.trans (hBB _ hgk)
              have HBB := Lib.hid (HBW.out.trans (hT.mono (by omega)))
              have HPR : Hid (wB.ownsRow (g + 2) 61 12 (.slice (some ⟨gs, 0, none⟩) d cap) d ((es.map factT).flatMap factC)) := Lib.hid (by have h9 := own_prefix (d := d) (ownB HOW.out hT) (by omega) (by simp); rw [flat_take_c factC_len, HTK.out] at h9; exact h9)
              have HBS : Hid (g + 2 ≤ wB.heap.size) := Lib.hid (by have := hT.size; omega)
              clear hK2 hBB hO hS hT HK
              refine hK _ _ ?_
              clear hK K
              try simp only [Act.put, List.getElem_toArray, List.getElem_cons_succ, List.getElem_cons_zero, List.setIfInBounds_toArray, List.set_cons_zero, List.set_cons_succ]
              refine wpAny_done (by kernel_rfl) ?_ _
              go_wp2_with fail
              refine wp_region_fam_tail_lit (E := Onto) 5 2
                [isV (.slice (some ⟨gs, 0, none⟩) (d) cap),
                 isV (.int .i64 (d : Int)),
                 isV (.slice (some ⟨gs, 0, none⟩) d cap),
                 isV (.agg (factA G9)),
                 newB9 (factA G9)]
                [some 43, some 44, some 45, some 46, some 47] #[true, true, true, true, true, false, false] (by kernel_rfl) rfl (by kernel_rfl) (by kernel_rfl) rfl rfl rfl Onto.trans Onto.refl ?monoQ ?obQ ?qQ
              case monoQ => exact ⟨isV_mono _ _, isV_mono _ _, isV_mono _ _, isV_mono _ _, newB9_mono _, trivial⟩
              case obQ =>
                refine Obs.cons (j := 1) rfl ?_ ?_
                · refine Ob.free [(7, none)] (by kernel_rfl) (isV (.slice (some ⟨gs, 0, none⟩) (d) cap)) rfl rfl (fun a X hE hL => ?_)
                  simp [Seen, slotAt] at hL
                  have h7 := hL
                  rw [relAt_eq]
                  go_simp
                  exact ⟨Onto.refl _, rfl⟩
                refine Obs.cons (j := 2) rfl ?_ ?_
                · refine Ob.free [(11, none)] (by kernel_rfl) (isV (.int .i64 (d : Int))) rfl rfl (fun a X hE hL => ?_)
                  simp [Seen, slotAt] at hL
                  have h11 := hL
                  rw [relAt_eq]
                  go_simp
                  exact ⟨Onto.refl _, rfl⟩
                refine Obs.cons (j := 3) rfl ?_ ?_
                · refine Ob.free [(43, some 0), (44, some 1)] (by kernel_rfl) (isV (.slice (some ⟨gs, 0, none⟩) d cap)) rfl rfl (fun a X hE hL => ?_)
                  simp [Seen, slotAt, famV, isV] at hL
                  obtain ⟨h43, h44⟩ := hL
                  rw [relAt_eq]
                  go_simp
                  exact ⟨Onto.refl _, rfl⟩
                refine Obs.cons (j := 4) rfl ?_ ?_
                · refine Ob.free [(12, none)] (by kernel_rfl) (isV (.agg (factA G9))) rfl rfl (fun a X hE hL => ?_)
                  simp [Seen, slotAt] at hL
                  have h12 := hL
                  rw [relAt_eq]
                  have hl9 := run_loadF0 X k _ (HK2.out.onto (onto_drew hE))
                  go_simp
                  exact ⟨Onto.refl _, rfl⟩
                refine Obs.cons (j := 5) rfl ?_ ?_
                · refine Ob.free [(46, some 3)] (by kernel_rfl) (newB9 (factA G9)) rfl rfl (fun a X hE hL => ?_)
                  simp [Seen, slotAt, famV, isV] at hL
                  have h46 := hL
                  rw [relAt_eq]
                  rw [HA9.out] at hL h46
                  go_simp
                  refine ⟨(Below.refl _ _).alloc (Nat.le_refl _) _, X.heap.size, rfl, ?_⟩
                  rw [HA9.out]
                  exact heap_alloc_new X _
                exact trivial
              case qQ =>
                intro x wC hE hV
                simp [AllV, famV, isV] at hV
                obtain ⟨-, -, h45, -, h47⟩ := hV
                simp only [puts, Act.put, List.setIfInBounds_toArray, List.set_cons_zero, List.set_cons_succ, h45]
                generalize x 43 = y43
                generalize x 44 = y44
                generalize x 46 = y46
                generalize x 47 = y47 at h47 ⊢
                clear h45
                have hbC := onto_drew hE
                have HBC := Lib.hid (HBB.out.trans (hbC.mono (by have := HBS.out; omega)))
                have HOC := Lib.hid (ownB HPR.out hbC)
                have hgC : g + 2 ≤ wC.heap.size := by have := hbC.size; have := HBS.out; omega
                obtain ⟨gn, rfl, hgn⟩ := h47
                clear hE hbC
                refine wpAny_ready (rs := [5]) (by kernel_rfl) (by simp) ?_
                refine AllReady.cons rfl (fun K hK => ?_) AllReady.nil
                rw [if_pos (by rfl)]
                refine wp_app_el (C := factC) (n := d) (xs := es.map factT) (v := .slice (some ⟨gs, 0, none⟩) d cap) (t := 90) (by decide) factC_len factC_one Try.underlying90 infoFact rfl _ _ _ rfl rfl HOC.out G9 rfl hgn (by unfold maxLen; omega) (by omega) hgC ?_
                intro gg cc w6 hown6 hgrow6 hat6
                have HO6 := Lib.hid hown6
                have HB6 := Lib.hid (below_grown HBC.out (by omega) hgrow6 (fun q hq => (own_ge HOC.out hq).1))
                clear hown6 hgrow6 hat6
                refine hK _ _ ?_
                clear hK K
                try simp only [Act.put, List.getElem_toArray, List.getElem_cons_succ, List.getElem_cons_zero, List.setIfInBounds_toArray, List.set_cons_zero, List.set_cons_succ]
                refine wpAny_take (i := 6) (v := .slice (some ⟨gg, 0, none⟩) (d + 1) cc) rfl (by kernel_rfl) (by kernel_rfl) (by kernel_rfl) (fun _ _ _ h => h) (Or.inl ⟨by rfl, fun X => ?_⟩) ?_
                · go_simp
                try simp only [Act.put, List.getElem_toArray, List.getElem_cons_succ, List.getElem_cons_zero, List.setIfInBounds_toArray, List.set_cons_zero, List.set_cons_succ]
                refine wpAny_done (by kernel_rfl) ?_ _
                go_wp2
                go_roundw
                case rel => exact ⟨j + 1, es ++ [.set S], by omega, by go_num, by have h9 := HO6.out; rw [List.length_append, List.length_singleton, HD.out, List.map_append, List.map_cons, List.map_nil, HG9.out]; exact h9, by rw [List.reverse_append]; show evT _ (.set S :: es.reverse) = _; first | exact HEV2.out | (rw [HRV.out]; exact HEV2.out), by have h9 := sumP_step HSTEP.out; rw [List.reverse_append]; show sumP (.set S :: es.reverse) = _; rw [HSUM.out] at h9; first | exact h9 | (rw [HRV.out]; exact h9), HB6.out⟩
                case measure => simp [intOf]; omega
          | empty S st =>
            have hlen : es.length = es.length + 0 := rfl
            have HST := Lib.hid hst
            subst hst
            have HRV : Hid (es.reverse = es.reverse) := Lib.hid rfl
            obtain ⟨d, hd⟩ : ∃ d, es.length = d := ⟨_, rfl⟩
            have HD := Lib.hid hd
            have HDR : Hid ((es.map factT).drop d = []) := Lib.hid (List.drop_of_length_le (by rw [List.length_map, hd]; exact Nat.le_refl _))
            have HTK : Hid ((es.map factT).take d = es.map factT) := Lib.hid (List.take_of_length_le (by rw [List.length_map, hd]; exact Nat.le_refl _))
            rw [hd] at hcap hsl HOW HROW ⊢
            clear hd hlen
            have y0 : (d : Int) - 0 = (d : Int) := by omega
            have HCL : Hid (∀ X A c, CRow factC 12 X A 0 [] → Calls Try.prog 61 #[.agg #[.int .i64 2, .int .u64 (wd S 0), .int .u64 (wd S 1), .int .u64 (wd S 2), .int .u64 (wd S 3)], .slice A 0 c] X fun e w' => e = .returned (.agg (factA (factT (.empty)))) ∧ Below X.heap.size X w') := Lib.hid fun X A c h => know1_any ⟨2, S⟩ _ _ HSTEP.out [] rfl (fun G hG => by cases hG) A c X h
            obtain ⟨G9, hG9⟩ : ∃ G, factT (.empty) = G := ⟨_, rfl⟩
            have HG9 := Lib.hid hG9
            rw [hG9] at HCL
            clear hG9
            obtain ⟨v0, v1, v2, v3, v4, v5, v6, v7, v8, v9, v10, v11, hA9⟩ : ∃ v0 v1 v2 v3 v4 v5 v6 v7 v8 v9 v10 v11, factA G9 = #[v0, v1, v2, v3, v4, v5, v6, v7, v8, v9, v10, v11] := ⟨_, _, _, _, _, _, _, _, _, _, _, _, rfl⟩
            have HA9 := Lib.hid hA9
            clear hA9
            go_wp2_with fail
            refine wp_region_fam_tail_lit (E := Onto) 8 1
              [isV (.func (.func 61) #[] #[]),
               isV (.agg #[.int .i64 2, .int .u64 (wd S 0), .int .u64 (wd S 1), .int .u64 (wd S 2), .int .u64 (wd S 3)]),
               isV (.slice (some ⟨gs, 0, none⟩) (d) cap),
               isV (.int .i64 (d : Int)),
               rowV [] 0,
               rowV [] 0,
               isV (.agg (factA G9)),
               newF wr.heap.size]
              [some 36, some 37, some 38, some 39, some 40, some 41, some 42, some 12] #[true, true, true, true, true, true, true, true, false] (by kernel_rfl) rfl (by kernel_rfl) (by kernel_rfl) rfl rfl rfl Onto.trans Onto.refl ?monoP ?obP ?qP
            case monoP => exact ⟨isV_mono _ _, isV_mono _ _, isV_mono _ _, isV_mono _ _, rowV_mono _ _, rowV_mono _ _, isV_mono _ _, newF_mono _, trivial⟩
            case obP =>
              refine Obs.cons (j := 1) rfl ?_ ?_
              · refine Ob.free [(1, none)] (by kernel_rfl) (isV (.func (.func 61) #[] #[])) rfl rfl (fun a X hE hL => ?_)
                simp [Seen, slotAt] at hL
                have h1 := hL
                rw [relAt_eq]
                go_simp
                exact ⟨Onto.refl _, rfl⟩
              refine Obs.cons (j := 2) rfl ?_ ?_
              · refine Ob.free [(9, none)] (by kernel_rfl) (isV (.agg #[.int .i64 2, .int .u64 (wd S 0), .int .u64 (wd S 1), .int .u64 (wd S 2), .int .u64 (wd S 3)])) rfl rfl (fun a X hE hL => ?_)
                simp [Seen, slotAt] at hL
                have h9 := hL
                rw [relAt_eq]
                have f0 := keeps hE _ _ x0; have f1 := keeps hE _ _ x1; have f2 := keeps hE _ _ x2; have f3 := keeps hE _ _ x3; have f4 := keeps hE _ _ x4
                go_simp
                exact ⟨Onto.refl _, rfl⟩
              refine Obs.cons (j := 3) rfl ?_ ?_
              · refine Ob.free [(7, none)] (by kernel_rfl) (isV (.slice (some ⟨gs, 0, none⟩) (d) cap)) rfl rfl (fun a X hE hL => ?_)
                simp [Seen, slotAt] at hL
                have h7 := hL
                rw [relAt_eq]
                go_simp
                exact ⟨Onto.refl _, rfl⟩
              refine Obs.cons (j := 4) rfl ?_ ?_
              · refine Ob.free [(11, none)] (by kernel_rfl) (isV (.int .i64 (d : Int))) rfl rfl (fun a X hE hL => ?_)
                simp [Seen, slotAt] at hL
                have h11 := hL
                rw [relAt_eq]
                go_simp
                exact ⟨Onto.refl _, rfl⟩
              refine Obs.cons (j := 5) rfl ?_ ?_
              · refine Ob.free [(38, some 2), (39, some 3)] (by kernel_rfl) (rowV [] 0) rfl rfl (fun a X hE hL => ?_)
                simp [Seen, slotAt, famV, isV] at hL
                obtain ⟨h38, h39⟩ := hL
                rw [relAt_eq]
                go_simp
                refine ⟨Onto.refl _, _, _, rfl, ?_⟩
                by_cases hcd : cap = d
                · rw [if_pos hcd]; exact CRow.nil _ _
                · rw [if_neg hcd]
                  have h9 := crow_dropd (d := d) (HROW.out.below (HWX.out.trans ((onto_drew hE).mono HWX.out.size)))
                  rw [Nat.zero_add, HDR.out] at h9
                  simpa using h9
              refine Obs.cons (j := 6) rfl ?_ ?_
              · refine Ob.free [(40, some 4)] (by kernel_rfl) (rowV [] 0) rfl rfl (fun a X hE hL => ?_)
                simp [Seen, slotAt, famV] at hL
                have h40 := hL
                rw [relAt_eq]
                obtain ⟨A9, c9, e9, r9⟩ := h40
                go_simp
                rw [relUpon_enter]
                go_at_call 73
                refine (cloneF_any X A9 0 c9 _ r9 (by omega)).mono ?_
                rintro e Y ⟨A2, c2, rfl, hr2, hY⟩
                exact ⟨_, rfl, hY, A2, c2, rfl, hr2⟩
              refine Obs.cons (j := 7) rfl ?_ ?_
              · refine Ob.free [(36, some 0), (37, some 1), (41, some 5)] (by kernel_rfl) (isV (.agg (factA G9))) rfl rfl (fun a X hE hL => ?_)
                simp [Seen, slotAt, famV, isV] at hL
                obtain ⟨h36, h37, h41⟩ := hL
                rw [relAt_eq]
                obtain ⟨A9, c9, e9, r9⟩ := h41
                go_simp
                rw [relUpon_enter]
                go_at_call 61
                refine (HCL.out X A9 c9 r9).mono ?_
                rintro e Y ⟨rfl, hY⟩
                exact ⟨_, rfl, hY, rfl⟩
              refine Obs.cons (j := 8) rfl ?_ ?_
              · refine Ob.free [] (by kernel_rfl) (newF wr.heap.size) rfl rfl (fun a X hE hL => ?_)
                rw [relAt_eq]
                go_simp
                exact ⟨(Below.refl _ _).alloc (Nat.le_refl _) _, X.heap.size, rfl, by have h9 := (onto_drew hE).size; simp at h9; omega, FactAt.zero X _ rfl⟩
              exact trivial
            case qP =>
              intro x wA hE hV
              simp [AllV, famV, isV] at hV
              obtain ⟨-, -, -, -, -, -, h42, h12⟩ := hV
              simp only [puts, Act.put, List.setIfInBounds_toArray, List.set_cons_zero, List.set_cons_succ, h42]
              generalize x 36 = y36
              generalize x 37 = y37
              generalize x 38 = y38
              generalize x 39 = y39
              generalize x 40 = y40
              generalize x 41 = y41
              generalize x 12 = y12 at h12 ⊢
              clear h42
              have hbA := onto_drew hE
              obtain ⟨k, rfl, hgk, hk⟩ := h12
              have HK := Lib.hid hk
              have HTA := Lib.hid (HWX.out.trans (hbA.mono HWX.out.size))
              clear hE hbA hk
              refine wpAny_ready (rs := [8]) (by kernel_rfl) (by simp) ?_
              refine AllReady.cons rfl (fun K hK => ?_) AllReady.nil
              rw [if_pos (by rfl)]
              refine wp_store_fact _ _ rfl k f0 G9 rfl rfl HK.out ?_
              intro wB hK2 hBB hO hS
              have HK2 := Lib.hid hK2
              have hT : Below wr.heap.size wr wB := HTA.out.trans (hBB _ hgk)
              have HBB := Lib.hid (HBW.out.trans (hT.mono (by omega)))
              have HPR : Hid (wB.ownsRow (g + 2) 61 12 (.slice (some ⟨gs, 0, none⟩) d cap) d ((es.map factT).flatMap factC)) := Lib.hid (by have h9 := own_prefix (d := d) (ownB HOW.out hT) (by omega) (by simp); rw [flat_take_c factC_len, HTK.out] at h9; exact h9)
              have HBS : Hid (g + 2 ≤ wB.heap.size) := Lib.hid (by have := hT.size; omega)
              clear hK2 hBB hO hS hT HK
              refine hK _ _ ?_
              clear hK K
              try simp only [Act.put, List.getElem_toArray, List.getElem_cons_succ, List.getElem_cons_zero, List.setIfInBounds_toArray, List.set_cons_zero, List.set_cons_succ]
              refine wpAny_done (by kernel_rfl) ?_ _
              go_wp2_with fail
              refine wp_region_fam_tail_lit (E := Onto) 5 2
                [isV (.slice (some ⟨gs, 0, none⟩) (d) cap),
                 isV (.int .i64 (d : Int)),
                 isV (.slice (some ⟨gs, 0, none⟩) d cap),
                 isV (.agg (factA G9)),
                 newB9 (factA G9)]
                [some 43, some 44, some 45, some 46, some 47] #[true, true, true, true, true, false, false] (by kernel_rfl) rfl (by kernel_rfl) (by kernel_rfl) rfl rfl rfl Onto.trans Onto.refl ?monoQ ?obQ ?qQ
              case monoQ => exact ⟨isV_mono _ _, isV_mono _ _, isV_mono _ _, isV_mono _ _, newB9_mono _, trivial⟩
              case obQ =>
                refine Obs.cons (j := 1) rfl ?_ ?_
                · refine Ob.free [(7, none)] (by kernel_rfl) (isV (.slice (some ⟨gs, 0, none⟩) (d) cap)) rfl rfl (fun a X hE hL => ?_)
                  simp [Seen, slotAt] at hL
                  have h7 := hL
                  rw [relAt_eq]
                  go_simp
                  exact ⟨Onto.refl _, rfl⟩
                refine Obs.cons (j := 2) rfl ?_ ?_
                · refine Ob.free [(11, none)] (by kernel_rfl) (isV (.int .i64 (d : Int))) rfl rfl (fun a X hE hL => ?_)
                  simp [Seen, slotAt] at hL
                  have h11 := hL
                  rw [relAt_eq]
                  go_simp
                  exact ⟨Onto.refl _, rfl⟩
                refine Obs.cons (j := 3) rfl ?_ ?_
                · refine Ob.free [(43, some 0), (44, some 1)] (by kernel_rfl) (isV (.slice (some ⟨gs, 0, none⟩) d cap)) rfl rfl (fun a X hE hL => ?_)
                  simp [Seen, slotAt, famV, isV] at hL
                  obtain ⟨h43, h44⟩ := hL
                  rw [relAt_eq]
                  go_simp
                  exact ⟨Onto.refl _, rfl⟩
                refine Obs.cons (j := 4) rfl ?_ ?_
                · refine Ob.free [(12, none)] (by kernel_rfl) (isV (.agg (factA G9))) rfl rfl (fun a X hE hL => ?_)
                  simp [Seen, slotAt] at hL
                  have h12 := hL
                  rw [relAt_eq]
                  have hl9 := run_loadF0 X k _ (HK2.out.onto (onto_drew hE))
                  go_simp
                  exact ⟨Onto.refl _, rfl⟩
                refine Obs.cons (j := 5) rfl ?_ ?_
                · refine Ob.free [(46, some 3)] (by kernel_rfl) (newB9 (factA G9)) rfl rfl (fun a X hE hL => ?_)
                  simp [Seen, slotAt, famV, isV] at hL
                  have h46 := hL
                  rw [relAt_eq]
                  rw [HA9.out] at hL h46
                  go_simp
                  refine ⟨(Below.refl _ _).alloc (Nat.le_refl _) _, X.heap.size, rfl, ?_⟩
                  rw [HA9.out]
                  exact heap_alloc_new X _
                exact trivial
              case qQ =>
                intro x wC hE hV
                simp [AllV, famV, isV] at hV
                obtain ⟨-, -, h45, -, h47⟩ := hV
                simp only [puts, Act.put, List.setIfInBounds_toArray, List.set_cons_zero, List.set_cons_succ, h45]
                generalize x 43 = y43
                generalize x 44 = y44
                generalize x 46 = y46
                generalize x 47 = y47 at h47 ⊢
                clear h45
                have hbC := onto_drew hE
                have HBC := Lib.hid (HBB.out.trans (hbC.mono (by have := HBS.out; omega)))
                have HOC := Lib.hid (ownB HPR.out hbC)
                have hgC : g + 2 ≤ wC.heap.size := by have := hbC.size; have := HBS.out; omega
                obtain ⟨gn, rfl, hgn⟩ := h47
                clear hE hbC
                refine wpAny_ready (rs := [5]) (by kernel_rfl) (by simp) ?_
                refine AllReady.cons rfl (fun K hK => ?_) AllReady.nil
                rw [if_pos (by rfl)]
                refine wp_app_el (C := factC) (n := d) (xs := es.map factT) (v := .slice (some ⟨gs, 0, none⟩) d cap) (t := 90) (by decide) factC_len factC_one Try.underlying90 infoFact rfl _ _ _ rfl rfl HOC.out G9 rfl hgn (by unfold maxLen; omega) (by omega) hgC ?_
                intro gg cc w6 hown6 hgrow6 hat6
                have HO6 := Lib.hid hown6
                have HB6 := Lib.hid (below_grown HBC.out (by omega) hgrow6 (fun q hq => (own_ge HOC.out hq).1))
                clear hown6 hgrow6 hat6
                refine hK _ _ ?_
                clear hK K
                try simp only [Act.put, List.getElem_toArray, List.getElem_cons_succ, List.getElem_cons_zero, List.setIfInBounds_toArray, List.set_cons_zero, List.set_cons_succ]
                refine wpAny_take (i := 6) (v := .slice (some ⟨gg, 0, none⟩) (d + 1) cc) rfl (by kernel_rfl) (by kernel_rfl) (by kernel_rfl) (fun _ _ _ h => h) (Or.inl ⟨by rfl, fun X => ?_⟩) ?_
                · go_simp
                try simp only [Act.put, List.getElem_toArray, List.getElem_cons_succ, List.getElem_cons_zero, List.setIfInBounds_toArray, List.set_cons_zero, List.set_cons_succ]
                refine wpAny_done (by kernel_rfl) ?_ _
                go_wp2
                go_roundw
                case rel => exact ⟨j + 1, es ++ [.empty], by omega, by go_num, by have h9 := HO6.out; rw [List.length_append, List.length_singleton, HD.out, List.map_append, List.map_cons, List.map_nil, HG9.out]; exact h9, by rw [List.reverse_append]; show evT _ (.empty :: es.reverse) = _; first | exact HEV2.out | (rw [HRV.out]; exact HEV2.out), by have h9 := sumP_step HSTEP.out; rw [List.reverse_append]; show sumP (.empty :: es.reverse) = _; rw [HSUM.out] at h9; first | exact h9 | (rw [HRV.out]; exact h9), HB6.out⟩
                case measure => simp [intOf]; omega
          | cat S a' b' st =>
            obtain ⟨es1, rfl, hst1⟩ := rv_top hst
            obtain ⟨es0, rfl, hst0⟩ := rv_top hst1
            have HST := Lib.hid hst
            have HRV := Lib.hid hst0
            obtain ⟨d, hd⟩ : ∃ d, es0.length = d := ⟨_, rfl⟩
            have HD := Lib.hid hd
            have hlen : (es0 ++ [a'] ++ [b']).length = d + 2 := by simp [hd]
            have HDR : Hid (((es0 ++ [a'] ++ [b']).map factT).drop d = [factT a', factT b']) := Lib.hid (by rw [← hd]; simp)
            have HTK : Hid (((es0 ++ [a'] ++ [b']).map factT).take d = es0.map factT) := Lib.hid (by rw [← hd]; simp)
            rw [hlen] at hcap hsl HOW HROW ⊢
            have y0 : ((d + 2 : Nat) : Int) - 2 = (d : Int) := by omega
            have y1 : (d : Int) + 2 - 2 = (d : Int) := by omega
            have y2 : (d : Int) ≤ (d : Int) + 2 := by omega
            have y3 : d ≤ cap := by omega
            have y4 : (d : Int) ≤ (cap : Int) := by omega
            clear hd hlen hst
            have HCL : Hid (∀ X A c, CRow factC 12 X A 2 [factT a', factT b'] → Calls Try.prog 61 #[.agg #[.int .i64 3, .int .u64 (wd S 0), .int .u64 (wd S 1), .int .u64 (wd S 2), .int .u64 (wd S 3)], .slice A 2 c] X fun e w' => e = .returned (.agg (factA (factT (.cat a' b')))) ∧ Below X.heap.size X w') := Lib.hid fun X A c h => know1_any ⟨3, S⟩ _ _ HSTEP.out [factT a', factT b'] rfl (fun G hG => by simp only [List.mem_cons, List.not_mem_nil, or_false] at hG; rcases hG with rfl | rfl <;> exact HFE.out _ (by simp)) A c X h
            obtain ⟨G9, hG9⟩ : ∃ G, factT (.cat a' b') = G := ⟨_, rfl⟩
            have HG9 := Lib.hid hG9
            rw [hG9] at HCL
            clear hG9
            obtain ⟨v0, v1, v2, v3, v4, v5, v6, v7, v8, v9, v10, v11, hA9⟩ : ∃ v0 v1 v2 v3 v4 v5 v6 v7 v8 v9 v10 v11, factA G9 = #[v0, v1, v2, v3, v4, v5, v6, v7, v8, v9, v10, v11] := ⟨_, _, _, _, _, _, _, _, _, _, _, _, rfl⟩
            have HA9 := Lib.hid hA9
            clear hA9
            go_wp2_with fail
            refine wp_region_fam_tail_lit (E := Onto) 8 1
              [isV (.func (.func 61) #[] #[]),
               isV (.agg #[.int .i64 3, .int .u64 (wd S 0), .int .u64 (wd S 1), .int .u64 (wd S 2), .int .u64 (wd S 3)]),
               isV (.slice (some ⟨gs, 0, none⟩) (d + 2) cap),
               isV (.int .i64 (d : Int)),
               rowV [factT a', factT b'] 2,
               rowV [factT a', factT b'] 2,
               isV (.agg (factA G9)),
               newF wr.heap.size]
              [some 36, some 37, some 38, some 39, some 40, some 41, some 42, some 12] #[true, true, true, true, true, true, true, true, false] (by kernel_rfl) rfl (by kernel_rfl) (by kernel_rfl) rfl rfl rfl Onto.trans Onto.refl ?monoP ?obP ?qP
            case monoP => exact ⟨isV_mono _ _, isV_mono _ _, isV_mono _ _, isV_mono _ _, rowV_mono _ _, rowV_mono _ _, isV_mono _ _, newF_mono _, trivial⟩
            case obP =>
              refine Obs.cons (j := 1) rfl ?_ ?_
              · refine Ob.free [(1, none)] (by kernel_rfl) (isV (.func (.func 61) #[] #[])) rfl rfl (fun a X hE hL => ?_)
                simp [Seen, slotAt] at hL
                have h1 := hL
                rw [relAt_eq]
                go_simp
                exact ⟨Onto.refl _, rfl⟩
              refine Obs.cons (j := 2) rfl ?_ ?_
              · refine Ob.free [(9, none)] (by kernel_rfl) (isV (.agg #[.int .i64 3, .int .u64 (wd S 0), .int .u64 (wd S 1), .int .u64 (wd S 2), .int .u64 (wd S 3)])) rfl rfl (fun a X hE hL => ?_)
                simp [Seen, slotAt] at hL
                have h9 := hL
                rw [relAt_eq]
                have f0 := keeps hE _ _ x0; have f1 := keeps hE _ _ x1; have f2 := keeps hE _ _ x2; have f3 := keeps hE _ _ x3; have f4 := keeps hE _ _ x4
                go_simp
                exact ⟨Onto.refl _, rfl⟩
              refine Obs.cons (j := 3) rfl ?_ ?_
              · refine Ob.free [(7, none)] (by kernel_rfl) (isV (.slice (some ⟨gs, 0, none⟩) (d + 2) cap)) rfl rfl (fun a X hE hL => ?_)
                simp [Seen, slotAt] at hL
                have h7 := hL
                rw [relAt_eq]
                go_simp
                exact ⟨Onto.refl _, rfl⟩
              refine Obs.cons (j := 4) rfl ?_ ?_
              · refine Ob.free [(11, none)] (by kernel_rfl) (isV (.int .i64 (d : Int))) rfl rfl (fun a X hE hL => ?_)
                simp [Seen, slotAt] at hL
                have h11 := hL
                rw [relAt_eq]
                go_simp
                exact ⟨Onto.refl _, rfl⟩
              refine Obs.cons (j := 5) rfl ?_ ?_
              · refine Ob.free [(38, some 2), (39, some 3)] (by kernel_rfl) (rowV [factT a', factT b'] 2) rfl rfl (fun a X hE hL => ?_)
                simp [Seen, slotAt, famV, isV] at hL
                obtain ⟨h38, h39⟩ := hL
                rw [relAt_eq]
                go_simp
                refine ⟨Onto.refl _, _, _, rfl, ?_⟩
                by_cases hcd : cap = d
                · omega
                · rw [if_neg hcd]
                  have h9 := crow_dropd (d := d) (HROW.out.below (HWX.out.trans ((onto_drew hE).mono HWX.out.size)))
                  rw [Nat.zero_add, HDR.out] at h9
                  simpa using h9
              refine Obs.cons (j := 6) rfl ?_ ?_
              · refine Ob.free [(40, some 4)] (by kernel_rfl) (rowV [factT a', factT b'] 2) rfl rfl (fun a X hE hL => ?_)
                simp [Seen, slotAt, famV] at hL
                have h40 := hL
                rw [relAt_eq]
                obtain ⟨A9, c9, e9, r9⟩ := h40
                go_simp
                rw [relUpon_enter]
                go_at_call 73
                refine (cloneF_any X A9 2 c9 _ r9 (by omega)).mono ?_
                rintro e Y ⟨A2, c2, rfl, hr2, hY⟩
                exact ⟨_, rfl, hY, A2, c2, rfl, hr2⟩
              refine Obs.cons (j := 7) rfl ?_ ?_
              · refine Ob.free [(36, some 0), (37, some 1), (41, some 5)] (by kernel_rfl) (isV (.agg (factA G9))) rfl rfl (fun a X hE hL => ?_)
                simp [Seen, slotAt, famV, isV] at hL
                obtain ⟨h36, h37, h41⟩ := hL
                rw [relAt_eq]
                obtain ⟨A9, c9, e9, r9⟩ := h41
                go_simp
                rw [relUpon_enter]
                go_at_call 61
                refine (HCL.out X A9 c9 r9).mono ?_
                rintro e Y ⟨rfl, hY⟩
                exact ⟨_, rfl, hY, rfl⟩
              refine Obs.cons (j := 8) rfl ?_ ?_
              · refine Ob.free [] (by kernel_rfl) (newF wr.heap.size) rfl rfl (fun a X hE hL => ?_)
                rw [relAt_eq]
                go_simp
                exact ⟨(Below.refl _ _).alloc (Nat.le_refl _) _, X.heap.size, rfl, by have h9 := (onto_drew hE).size; simp at h9; omega, FactAt.zero X _ rfl⟩
              exact trivial
            case qP =>
              intro x wA hE hV
              simp [AllV, famV, isV] at hV
              obtain ⟨-, -, -, -, -, -, h42, h12⟩ := hV
              simp only [puts, Act.put, List.setIfInBounds_toArray, List.set_cons_zero, List.set_cons_succ, h42]
              generalize x 36 = y36
              generalize x 37 = y37
              generalize x 38 = y38
              generalize x 39 = y39
              generalize x 40 = y40
              generalize x 41 = y41
              generalize x 12 = y12 at h12 ⊢
              clear h42
              have hbA := onto_drew hE
              obtain ⟨k, rfl, hgk, hk⟩ := h12
              have HK := Lib.hid hk
              have HTA := Lib.hid (HWX.out.trans (hbA.mono HWX.out.size))
              clear hE hbA hk
              refine wpAny_ready (rs := [8]) (by kernel_rfl) (by simp) ?_
              refine AllReady.cons rfl (fun K hK => ?_) AllReady.nil
              rw [if_pos (by rfl)]
              refine wp_store_fact _ _ rfl k f0 G9 rfl rfl HK.out ?_
              intro wB hK2 hBB hO hS
              have HK2 := Lib.hid hK2
              have hT : Below wr.heap.size wr wB := HTA.out.trans (hBB _ hgk)
              have HBB := Lib.hid (HBW.out.trans (hT.mono (by omega)))
              have HPR : Hid (wB.ownsRow (g + 2) 61 12 (.slice (some ⟨gs, 0, none⟩) d cap) d ((es0.map factT).flatMap factC)) := Lib.hid (by have h9 := own_prefix (d := d) (ownB HOW.out hT) (by omega) (by simp); rw [flat_take_c factC_len, HTK.out] at h9; exact h9)
              have HBS : Hid (g + 2 ≤ wB.heap.size) := Lib.hid (by have := hT.size; omega)
              clear hK2 hBB hO hS hT HK
              refine hK _ _ ?_
              clear hK K
              try simp only [Act.put, List.getElem_toArray, List.getElem_cons_succ, List.getElem_cons_zero, List.setIfInBounds_toArray, List.set_cons_zero, List.set_cons_succ]
              refine wpAny_done (by kernel_rfl) ?_ _
              go_wp2_with fail
              refine wp_region_fam_tail_lit (E := Onto) 5 2
                [isV (.slice (some ⟨gs, 0, none⟩) (d + 2) cap),
                 isV (.int .i64 (d : Int)),
                 isV (.slice (some ⟨gs, 0, none⟩) d cap),
                 isV (.agg (factA G9)),
                 newB9 (factA G9)]
                [some 43, some 44, some 45, some 46, some 47] #[true, true, true, true, true, false, false] (by kernel_rfl) rfl (by kernel_rfl) (by kernel_rfl) rfl rfl rfl Onto.trans Onto.refl ?monoQ ?obQ ?qQ
              case monoQ => exact ⟨isV_mono _ _, isV_mono _ _, isV_mono _ _, isV_mono _ _, newB9_mono _, trivial⟩
              case obQ =>
                refine Obs.cons (j := 1) rfl ?_ ?_
                · refine Ob.free [(7, none)] (by kernel_rfl) (isV (.slice (some ⟨gs, 0, none⟩) (d + 2) cap)) rfl rfl (fun a X hE hL => ?_)
                  simp [Seen, slotAt] at hL
                  have h7 := hL
                  rw [relAt_eq]
                  go_simp
                  exact ⟨Onto.refl _, rfl⟩
                refine Obs.cons (j := 2) rfl ?_ ?_
                · refine Ob.free [(11, none)] (by kernel_rfl) (isV (.int .i64 (d : Int))) rfl rfl (fun a X hE hL => ?_)
                  simp [Seen, slotAt] at hL
                  have h11 := hL
                  rw [relAt_eq]
                  go_simp
                  exact ⟨Onto.refl _, rfl⟩
                refine Obs.cons (j := 3) rfl ?_ ?_
                · refine Ob.free [(43, some 0), (44, some 1)] (by kernel_rfl) (isV (.slice (some ⟨gs, 0, none⟩) d cap)) rfl rfl (fun a X hE hL => ?_)
                  simp [Seen, slotAt, famV, isV] at hL
                  obtain ⟨h43, h44⟩ := hL
                  rw [relAt_eq]
                  go_simp
                  exact ⟨Onto.refl _, rfl⟩
                refine Obs.cons (j := 4) rfl ?_ ?_
                · refine Ob.free [(12, none)] (by kernel_rfl) (isV (.agg (factA G9))) rfl rfl (fun a X hE hL => ?_)
                  simp [Seen, slotAt] at hL
                  have h12 := hL
                  rw [relAt_eq]
                  have hl9 := run_loadF0 X k _ (HK2.out.onto (onto_drew hE))
                  go_simp
                  exact ⟨Onto.refl _, rfl⟩
                refine Obs.cons (j := 5) rfl ?_ ?_
                · refine Ob.free [(46, some 3)] (by kernel_rfl) (newB9 (factA G9)) rfl rfl (fun a X hE hL => ?_)
                  simp [Seen, slotAt, famV, isV] at hL
                  have h46 := hL
                  rw [relAt_eq]
                  rw [HA9.out] at hL h46
                  go_simp
                  refine ⟨(Below.refl _ _).alloc (Nat.le_refl _) _, X.heap.size, rfl, ?_⟩
                  rw [HA9.out]
                  exact heap_alloc_new X _
                exact trivial
              case qQ =>
                intro x wC hE hV
                simp [AllV, famV, isV] at hV
                obtain ⟨-, -, h45, -, h47⟩ := hV
                simp only [puts, Act.put, List.setIfInBounds_toArray, List.set_cons_zero, List.set_cons_succ, h45]
                generalize x 43 = y43
                generalize x 44 = y44
                generalize x 46 = y46
                generalize x 47 = y47 at h47 ⊢
                clear h45
                have hbC := onto_drew hE
                have HBC := Lib.hid (HBB.out.trans (hbC.mono (by have := HBS.out; omega)))
                have HOC := Lib.hid (ownB HPR.out hbC)
                have hgC : g + 2 ≤ wC.heap.size := by have := hbC.size; have := HBS.out; omega
                obtain ⟨gn, rfl, hgn⟩ := h47
                clear hE hbC
                refine wpAny_ready (rs := [5]) (by kernel_rfl) (by simp) ?_
                refine AllReady.cons rfl (fun K hK => ?_) AllReady.nil
                rw [if_pos (by rfl)]
                refine wp_app_el (C := factC) (n := d) (xs := es0.map factT) (v := .slice (some ⟨gs, 0, none⟩) d cap) (t := 90) (by decide) factC_len factC_one Try.underlying90 infoFact rfl _ _ _ rfl rfl HOC.out G9 rfl hgn (by unfold maxLen; omega) (by omega) hgC ?_
                intro gg cc w6 hown6 hgrow6 hat6
                have HO6 := Lib.hid hown6
                have HB6 := Lib.hid (below_grown HBC.out (by omega) hgrow6 (fun q hq => (own_ge HOC.out hq).1))
                clear hown6 hgrow6 hat6
                refine hK _ _ ?_
                clear hK K
                try simp only [Act.put, List.getElem_toArray, List.getElem_cons_succ, List.getElem_cons_zero, List.setIfInBounds_toArray, List.set_cons_zero, List.set_cons_succ]
                refine wpAny_take (i := 6) (v := .slice (some ⟨gg, 0, none⟩) (d + 1) cc) rfl (by kernel_rfl) (by kernel_rfl) (by kernel_rfl) (fun _ _ _ h => h) (Or.inl ⟨by rfl, fun X => ?_⟩) ?_
                · go_simp
                try simp only [Act.put, List.getElem_toArray, List.getElem_cons_succ, List.getElem_cons_zero, List.setIfInBounds_toArray, List.set_cons_zero, List.set_cons_succ]
                refine wpAny_done (by kernel_rfl) ?_ _
                go_wp2
                go_roundw
                case rel => exact ⟨j + 1, es0 ++ [.cat a' b'], by omega, by go_num, by have h9 := HO6.out; rw [List.length_append, List.length_singleton, HD.out, List.map_append, List.map_cons, List.map_nil, HG9.out]; exact h9, by rw [List.reverse_append]; show evT _ (.cat a' b' :: es0.reverse) = _; first | exact HEV2.out | (rw [HRV.out]; exact HEV2.out), by have h9 := sumP_step HSTEP.out; rw [List.reverse_append]; show sumP (.cat a' b' :: es0.reverse) = _; rw [HSUM.out] at h9; first | exact h9 | (rw [HRV.out]; exact h9), HB6.out⟩
                case measure => simp [intOf]; omega
          | alt S a' b' st =>
            obtain ⟨es1, rfl, hst1⟩ := rv_top hst
            obtain ⟨es0, rfl, hst0⟩ := rv_top hst1
            have HST := Lib.hid hst
            have HRV := Lib.hid hst0
            obtain ⟨d, hd⟩ : ∃ d, es0.length = d := ⟨_, rfl⟩
            have HD := Lib.hid hd
            have hlen : (es0 ++ [a'] ++ [b']).length = d + 2 := by simp [hd]
            have HDR : Hid (((es0 ++ [a'] ++ [b']).map factT).drop d = [factT a', factT b']) := Lib.hid (by rw [← hd]; simp)
            have HTK : Hid (((es0 ++ [a'] ++ [b']).map factT).take d = es0.map factT) := Lib.hid (by rw [← hd]; simp)
            rw [hlen] at hcap hsl HOW HROW ⊢
            have y0 : ((d + 2 : Nat) : Int) - 2 = (d : Int) := by omega
            have y1 : (d : Int) + 2 - 2 = (d : Int) := by omega
            have y2 : (d : Int) ≤ (d : Int) + 2 := by omega
            have y3 : d ≤ cap := by omega
            have y4 : (d : Int) ≤ (cap : Int) := by omega
            clear hd hlen hst
            have HCL : Hid (∀ X A c, CRow factC 12 X A 2 [factT a', factT b'] → Calls Try.prog 61 #[.agg #[.int .i64 4, .int .u64 (wd S 0), .int .u64 (wd S 1), .int .u64 (wd S 2), .int .u64 (wd S 3)], .slice A 2 c] X fun e w' => e = .returned (.agg (factA (factT (.alt a' b')))) ∧ Below X.heap.size X w') := Lib.hid fun X A c h => know1_any ⟨4, S⟩ _ _ HSTEP.out [factT a', factT b'] rfl (fun G hG => by simp only [List.mem_cons, List.not_mem_nil, or_false] at hG; rcases hG with rfl | rfl <;> exact HFE.out _ (by simp)) A c X h
            obtain ⟨G9, hG9⟩ : ∃ G, factT (.alt a' b') = G := ⟨_, rfl⟩
            have HG9 := Lib.hid hG9
            rw [hG9] at HCL
            clear hG9
            obtain ⟨v0, v1, v2, v3, v4, v5, v6, v7, v8, v9, v10, v11, hA9⟩ : ∃ v0 v1 v2 v3 v4 v5 v6 v7 v8 v9 v10 v11, factA G9 = #[v0, v1, v2, v3, v4, v5, v6, v7, v8, v9, v10, v11] := ⟨_, _, _, _, _, _, _, _, _, _, _, _, rfl⟩
            have HA9 := Lib.hid hA9
            clear hA9
            go_wp2_with fail
            refine wp_region_fam_tail_lit (E := Onto) 8 1
              [isV (.func (.func 61) #[] #[]),
               isV (.agg #[.int .i64 4, .int .u64 (wd S 0), .int .u64 (wd S 1), .int .u64 (wd S 2), .int .u64 (wd S 3)]),
               isV (.slice (some ⟨gs, 0, none⟩) (d + 2) cap),
               isV (.int .i64 (d : Int)),
               rowV [factT a', factT b'] 2,
               rowV [factT a', factT b'] 2,
               isV (.agg (factA G9)),
               newF wr.heap.size]
              [some 36, some 37, some 38, some 39, some 40, some 41, some 42, some 12] #[true, true, true, true, true, true, true, true, false] (by kernel_rfl) rfl (by kernel_rfl) (by kernel_rfl) rfl rfl rfl Onto.trans Onto.refl ?monoP ?obP ?qP
            case monoP => exact ⟨isV_mono _ _, isV_mono _ _, isV_mono _ _, isV_mono _ _, rowV_mono _ _, rowV_mono _ _, isV_mono _ _, newF_mono _, trivial⟩
            case obP =>
              refine Obs.cons (j := 1) rfl ?_ ?_
              · refine Ob.free [(1, none)] (by kernel_rfl) (isV (.func (.func 61) #[] #[])) rfl rfl (fun a X hE hL => ?_)
                simp [Seen, slotAt] at hL
                have h1 := hL
                rw [relAt_eq]
                go_simp
                exact ⟨Onto.refl _, rfl⟩
              refine Obs.cons (j := 2) rfl ?_ ?_
              · refine Ob.free [(9, none)] (by kernel_rfl) (isV (.agg #[.int .i64 4, .int .u64 (wd S 0), .int .u64 (wd S 1), .int .u64 (wd S 2), .int .u64 (wd S 3)])) rfl rfl (fun a X hE hL => ?_)
                simp [Seen, slotAt] at hL
                have h9 := hL
                rw [relAt_eq]
                have f0 := keeps hE _ _ x0; have f1 := keeps hE _ _ x1; have f2 := keeps hE _ _ x2; have f3 := keeps hE _ _ x3; have f4 := keeps hE _ _ x4
                go_simp
                exact ⟨Onto.refl _, rfl⟩
              refine Obs.cons (j := 3) rfl ?_ ?_
              · refine Ob.free [(7, none)] (by kernel_rfl) (isV (.slice (some ⟨gs, 0, none⟩) (d + 2) cap)) rfl rfl (fun a X hE hL => ?_)
                simp [Seen, slotAt] at hL
                have h7 := hL
                rw [relAt_eq]
                go_simp
                exact ⟨Onto.refl _, rfl⟩
              refine Obs.cons (j := 4) rfl ?_ ?_
              · refine Ob.free [(11, none)] (by kernel_rfl) (isV (.int .i64 (d : Int))) rfl rfl (fun a X hE hL => ?_)
                simp [Seen, slotAt] at hL
                have h11 := hL
                rw [relAt_eq]
                go_simp
                exact ⟨Onto.refl _, rfl⟩
              refine Obs.cons (j := 5) rfl ?_ ?_
              · refine Ob.free [(38, some 2), (39, some 3)] (by kernel_rfl) (rowV [factT a', factT b'] 2) rfl rfl (fun a X hE hL => ?_)
                simp [Seen, slotAt, famV, isV] at hL
                obtain ⟨h38, h39⟩ := hL
                rw [relAt_eq]
                go_simp
                refine ⟨Onto.refl _, _, _, rfl, ?_⟩
                by_cases hcd : cap = d
                · omega
                · rw [if_neg hcd]
                  have h9 := crow_dropd (d := d) (HROW.out.below (HWX.out.trans ((onto_drew hE).mono HWX.out.size)))
                  rw [Nat.zero_add, HDR.out] at h9
                  simpa using h9
              refine Obs.cons (j := 6) rfl ?_ ?_
              · refine Ob.free [(40, some 4)] (by kernel_rfl) (rowV [factT a', factT b'] 2) rfl rfl (fun a X hE hL => ?_)
                simp [Seen, slotAt, famV] at hL
                have h40 := hL
                rw [relAt_eq]
                obtain ⟨A9, c9, e9, r9⟩ := h40
                go_simp
                rw [relUpon_enter]
                go_at_call 73
                refine (cloneF_any X A9 2 c9 _ r9 (by omega)).mono ?_
                rintro e Y ⟨A2, c2, rfl, hr2, hY⟩
                exact ⟨_, rfl, hY, A2, c2, rfl, hr2⟩
              refine Obs.cons (j := 7) rfl ?_ ?_
              · refine Ob.free [(36, some 0), (37, some 1), (41, some 5)] (by kernel_rfl) (isV (.agg (factA G9))) rfl rfl (fun a X hE hL => ?_)
                simp [Seen, slotAt, famV, isV] at hL
                obtain ⟨h36, h37, h41⟩ := hL
                rw [relAt_eq]
                obtain ⟨A9, c9, e9, r9⟩ := h41
                go_simp
                rw [relUpon_enter]
                go_at_call 61
                refine (HCL.out X A9 c9 r9).mono ?_
                rintro e Y ⟨rfl, hY⟩
                exact ⟨_, rfl, hY, rfl⟩
              refine Obs.cons (j := 8) rfl ?_ ?_
              · refine Ob.free [] (by kernel_rfl) (newF wr.heap.size) rfl rfl (fun a X hE hL => ?_)
                rw [relAt_eq]
                go_simp
                exact ⟨(Below.refl _ _).alloc (Nat.le_refl _) _, X.heap.size, rfl, by have h9 := (onto_drew hE).size; simp at h9; omega, FactAt.zero X _ rfl⟩
              exact trivial
            case qP =>
              intro x wA hE hV
              simp [AllV, famV, isV] at hV
              obtain ⟨-, -, -, -, -, -, h42, h12⟩ := hV
              simp only [puts, Act.put, List.setIfInBounds_toArray, List.set_cons_zero, List.set_cons_succ, h42]
              generalize x 36 = y36
              generalize x 37 = y37
              generalize x 38 = y38
              generalize x 39 = y39
              generalize x 40 = y40
              generalize x 41 = y41
              generalize x 12 = y12 at h12 ⊢
              clear h42
              have hbA := onto_drew hE
              obtain ⟨k, rfl, hgk, hk⟩ := h12
              have HK := Lib.hid hk
              have HTA := Lib.hid (HWX.out.trans (hbA.mono HWX.out.size))
              clear hE hbA hk
              refine wpAny_ready (rs := [8]) (by kernel_rfl) (by simp) ?_
              refine AllReady.cons rfl (fun K hK => ?_) AllReady.nil
              rw [if_pos (by rfl)]
              refine wp_store_fact _ _ rfl k f0 G9 rfl rfl HK.out ?_
              intro wB hK2 hBB hO hS
              have HK2 := Lib.hid hK2
              have hT : Below wr.heap.size wr wB := HTA.out.trans (hBB _ hgk)
              have HBB := Lib.hid (HBW.out.trans (hT.mono (by omega)))
              have HPR : Hid (wB.ownsRow (g + 2) 61 12 (.slice (some ⟨gs, 0, none⟩) d cap) d ((es0.map factT).flatMap factC)) := Lib.hid (by have h9 := own_prefix (d := d) (ownB HOW.out hT) (by omega) (by simp); rw [flat_take_c factC_len, HTK.out] at h9; exact h9)
              have HBS : Hid (g + 2 ≤ wB.heap.size) := Lib.hid (by have := hT.size; omega)
              clear hK2 hBB hO hS hT HK
              refine hK _ _ ?_
              clear hK K
              try simp only [Act.put, List.getElem_toArray, List.getElem_cons_succ, List.getElem_cons_zero, List.setIfInBounds_toArray, List.set_cons_zero, List.set_cons_succ]
              refine wpAny_done (by kernel_rfl) ?_ _
              go_wp2_with fail
              refine wp_region_fam_tail_lit (E := Onto) 5 2
                [isV (.slice (some ⟨gs, 0, none⟩) (d + 2) cap),
                 isV (.int .i64 (d : Int)),
                 isV (.slice (some ⟨gs, 0, none⟩) d cap),
                 isV (.agg (factA G9)),
                 newB9 (factA G9)]
                [some 43, some 44, some 45, some 46, some 47] #[true, true, true, true, true, false, false] (by kernel_rfl) rfl (by kernel_rfl) (by kernel_rfl) rfl rfl rfl Onto.trans Onto.refl ?monoQ ?obQ ?qQ
              case monoQ => exact ⟨isV_mono _ _, isV_mono _ _, isV_mono _ _, isV_mono _ _, newB9_mono _, trivial⟩
              case obQ =>
                refine Obs.cons (j := 1) rfl ?_ ?_
                · refine Ob.free [(7, none)] (by kernel_rfl) (isV (.slice (some ⟨gs, 0, none⟩) (d + 2) cap)) rfl rfl (fun a X hE hL => ?_)
                  simp [Seen, slotAt] at hL
                  have h7 := hL
                  rw [relAt_eq]
                  go_simp
                  exact ⟨Onto.refl _, rfl⟩
                refine Obs.cons (j := 2) rfl ?_ ?_
                · refine Ob.free [(11, none)] (by kernel_rfl) (isV (.int .i64 (d : Int))) rfl rfl (fun a X hE hL => ?_)
                  simp [Seen, slotAt] at hL
                  have h11 := hL
                  rw [relAt_eq]
                  go_simp
                  exact ⟨Onto.refl _, rfl⟩
                refine Obs.cons (j := 3) rfl ?_ ?_
                · refine Ob.free [(43, some 0), (44, some 1)] (by kernel_rfl) (isV (.slice (some ⟨gs, 0, none⟩) d cap)) rfl rfl (fun a X hE hL => ?_)
                  simp [Seen, slotAt, famV, isV] at hL
                  obtain ⟨h43, h44⟩ := hL
                  rw [relAt_eq]
                  go_simp
                  exact ⟨Onto.refl _, rfl⟩
                refine Obs.cons (j := 4) rfl ?_ ?_
                · refine Ob.free [(12, none)] (by kernel_rfl) (isV (.agg (factA G9))) rfl rfl (fun a X hE hL => ?_)
                  simp [Seen, slotAt] at hL
                  have h12 := hL
                  rw [relAt_eq]
                  have hl9 := run_loadF0 X k _ (HK2.out.onto (onto_drew hE))
                  go_simp
                  exact ⟨Onto.refl _, rfl⟩
                refine Obs.cons (j := 5) rfl ?_ ?_
                · refine Ob.free [(46, some 3)] (by kernel_rfl) (newB9 (factA G9)) rfl rfl (fun a X hE hL => ?_)
                  simp [Seen, slotAt, famV, isV] at hL
                  have h46 := hL
                  rw [relAt_eq]
                  rw [HA9.out] at hL h46
                  go_simp
                  refine ⟨(Below.refl _ _).alloc (Nat.le_refl _) _, X.heap.size, rfl, ?_⟩
                  rw [HA9.out]
                  exact heap_alloc_new X _
                exact trivial
              case qQ =>
                intro x wC hE hV
                simp [AllV, famV, isV] at hV
                obtain ⟨-, -, h45, -, h47⟩ := hV
                simp only [puts, Act.put, List.setIfInBounds_toArray, List.set_cons_zero, List.set_cons_succ, h45]
                generalize x 43 = y43
                generalize x 44 = y44
                generalize x 46 = y46
                generalize x 47 = y47 at h47 ⊢
                clear h45
                have hbC := onto_drew hE
                have HBC := Lib.hid (HBB.out.trans (hbC.mono (by have := HBS.out; omega)))
                have HOC := Lib.hid (ownB HPR.out hbC)
                have hgC : g + 2 ≤ wC.heap.size := by have := hbC.size; have := HBS.out; omega
                obtain ⟨gn, rfl, hgn⟩ := h47
                clear hE hbC
                refine wpAny_ready (rs := [5]) (by kernel_rfl) (by simp) ?_
                refine AllReady.cons rfl (fun K hK => ?_) AllReady.nil
                rw [if_pos (by rfl)]
                refine wp_app_el (C := factC) (n := d) (xs := es0.map factT) (v := .slice (some ⟨gs, 0, none⟩) d cap) (t := 90) (by decide) factC_len factC_one Try.underlying90 infoFact rfl _ _ _ rfl rfl HOC.out G9 rfl hgn (by unfold maxLen; omega) (by omega) hgC ?_
                intro gg cc w6 hown6 hgrow6 hat6
                have HO6 := Lib.hid hown6
                have HB6 := Lib.hid (below_grown HBC.out (by omega) hgrow6 (fun q hq => (own_ge HOC.out hq).1))
                clear hown6 hgrow6 hat6
                refine hK _ _ ?_
                clear hK K
                try simp only [Act.put, List.getElem_toArray, List.getElem_cons_succ, List.getElem_cons_zero, List.setIfInBounds_toArray, List.set_cons_zero, List.set_cons_succ]
                refine wpAny_take (i := 6) (v := .slice (some ⟨gg, 0, none⟩) (d + 1) cc) rfl (by kernel_rfl) (by kernel_rfl) (by kernel_rfl) (fun _ _ _ h => h) (Or.inl ⟨by rfl, fun X => ?_⟩) ?_
                · go_simp
                try simp only [Act.put, List.getElem_toArray, List.getElem_cons_succ, List.getElem_cons_zero, List.setIfInBounds_toArray, List.set_cons_zero, List.set_cons_succ]
                refine wpAny_done (by kernel_rfl) ?_ _
                go_wp2
                go_roundw
                case rel => exact ⟨j + 1, es0 ++ [.alt a' b'], by omega, by go_num, by have h9 := HO6.out; rw [List.length_append, List.length_singleton, HD.out, List.map_append, List.map_cons, List.map_nil, HG9.out]; exact h9, by rw [List.reverse_append]; show evT _ (.alt a' b' :: es0.reverse) = _; first | exact HEV2.out | (rw [HRV.out]; exact HEV2.out), by have h9 := sumP_step HSTEP.out; rw [List.reverse_append]; show sumP (.alt a' b' :: es0.reverse) = _; rw [HSUM.out] at h9; first | exact h9 | (rw [HRV.out]; exact h9), HB6.out⟩
                case measure => simp [intOf]; omega
          | star S a' st =>
            obtain ⟨es0, rfl, hst0⟩ := rv_top hst
            have HST := Lib.hid hst
            have HRV := Lib.hid hst0
            obtain ⟨d, hd⟩ : ∃ d, es0.length = d := ⟨_, rfl⟩
            have HD := Lib.hid hd
            have hlen : (es0 ++ [a']).length = d + 1 := by simp [hd]
            have HDR : Hid (((es0 ++ [a']).map factT).drop d = [factT a']) := Lib.hid (by rw [← hd]; simp)
            have HTK : Hid (((es0 ++ [a']).map factT).take d = es0.map factT) := Lib.hid (by rw [← hd]; simp)
            rw [hlen] at hcap hsl HOW HROW ⊢
            have y0 : ((d + 1 : Nat) : Int) - 1 = (d : Int) := by omega
            have y1 : (d : Int) + 1 - 1 = (d : Int) := by omega
            have y2 : (d : Int) ≤ (d : Int) + 1 := by omega
            have y3 : d ≤ cap := by omega
            have y4 : (d : Int) ≤ (cap : Int) := by omega
            clear hd hlen hst
            have HCL : Hid (∀ X A c, CRow factC 12 X A 1 [factT a'] → Calls Try.prog 61 #[.agg #[.int .i64 5, .int .u64 (wd S 0), .int .u64 (wd S 1), .int .u64 (wd S 2), .int .u64 (wd S 3)], .slice A 1 c] X fun e w' => e = .returned (.agg (factA (factT (.star a')))) ∧ Below X.heap.size X w') := Lib.hid fun X A c h => know1_any ⟨5, S⟩ _ _ HSTEP.out [factT a'] rfl (fun G hG => by simp only [List.mem_cons, List.not_mem_nil, or_false] at hG; rcases hG with rfl <;> exact HFE.out _ (by simp)) A c X h
            obtain ⟨G9, hG9⟩ : ∃ G, factT (.star a') = G := ⟨_, rfl⟩
            have HG9 := Lib.hid hG9
            rw [hG9] at HCL
            clear hG9
            obtain ⟨v0, v1, v2, v3, v4, v5, v6, v7, v8, v9, v10, v11, hA9⟩ : ∃ v0 v1 v2 v3 v4 v5 v6 v7 v8 v9 v10 v11, factA G9 = #[v0, v1, v2, v3, v4, v5, v6, v7, v8, v9, v10, v11] := ⟨_, _, _, _, _, _, _, _, _, _, _, _, rfl⟩
            have HA9 := Lib.hid hA9
            clear hA9
            go_wp2_with fail
            refine wp_region_fam_tail_lit (E := Onto) 8 1
              [isV (.func (.func 61) #[] #[]),
               isV (.agg #[.int .i64 5, .int .u64 (wd S 0), .int .u64 (wd S 1), .int .u64 (wd S 2), .int .u64 (wd S 3)]),
               isV (.slice (some ⟨gs, 0, none⟩) (d + 1) cap),
               isV (.int .i64 (d : Int)),
               rowV [factT a'] 1,
               rowV [factT a'] 1,
               isV (.agg (factA G9)),
               newF wr.heap.size]
              [some 36, some 37, some 38, some 39, some 40, some 41, some 42, some 12] #[true, true, true, true, true, true, true, true, false] (by kernel_rfl) rfl (by kernel_rfl) (by kernel_rfl) rfl rfl rfl Onto.trans Onto.refl ?monoP ?obP ?qP
            case monoP => exact ⟨isV_mono _ _, isV_mono _ _, isV_mono _ _, isV_mono _ _, rowV_mono _ _, rowV_mono _ _, isV_mono _ _, newF_mono _, trivial⟩
            case obP =>
              refine Obs.cons (j := 1) rfl ?_ ?_
              · refine Ob.free [(1, none)] (by kernel_rfl) (isV (.func (.func 61) #[] #[])) rfl rfl (fun a X hE hL => ?_)
                simp [Seen, slotAt] at hL
                have h1 := hL
                rw [relAt_eq]
                go_simp
                exact ⟨Onto.refl _, rfl⟩
              refine Obs.cons (j := 2) rfl ?_ ?_
              · refine Ob.free [(9, none)] (by kernel_rfl) (isV (.agg #[.int .i64 5, .int .u64 (wd S 0), .int .u64 (wd S 1), .int .u64 (wd S 2), .int .u64 (wd S 3)])) rfl rfl (fun a X hE hL => ?_)
                simp [Seen, slotAt] at hL
                have h9 := hL
                rw [relAt_eq]
                have f0 := keeps hE _ _ x0; have f1 := keeps hE _ _ x1; have f2 := keeps hE _ _ x2; have f3 := keeps hE _ _ x3; have f4 := keeps hE _ _ x4
                go_simp
                exact ⟨Onto.refl _, rfl⟩
              refine Obs.cons (j := 3) rfl ?_ ?_
              · refine Ob.free [(7, none)] (by kernel_rfl) (isV (.slice (some ⟨gs, 0, none⟩) (d + 1) cap)) rfl rfl (fun a X hE hL => ?_)
                simp [Seen, slotAt] at hL
                have h7 := hL
                rw [relAt_eq]
                go_simp
                exact ⟨Onto.refl _, rfl⟩
              refine Obs.cons (j := 4) rfl ?_ ?_
              · refine Ob.free [(11, none)] (by kernel_rfl) (isV (.int .i64 (d : Int))) rfl rfl (fun a X hE hL => ?_)
                simp [Seen, slotAt] at hL
                have h11 := hL
                rw [relAt_eq]
                go_simp
                exact ⟨Onto.refl _, rfl⟩
              refine Obs.cons (j := 5) rfl ?_ ?_
              · refine Ob.free [(38, some 2), (39, some 3)] (by kernel_rfl) (rowV [factT a'] 1) rfl rfl (fun a X hE hL => ?_)
                simp [Seen, slotAt, famV, isV] at hL
                obtain ⟨h38, h39⟩ := hL
                rw [relAt_eq]
                go_simp
                refine ⟨Onto.refl _, _, _, rfl, ?_⟩
                by_cases hcd : cap = d
                · omega
                · rw [if_neg hcd]
                  have h9 := crow_dropd (d := d) (HROW.out.below (HWX.out.trans ((onto_drew hE).mono HWX.out.size)))
                  rw [Nat.zero_add, HDR.out] at h9
                  simpa using h9
              refine Obs.cons (j := 6) rfl ?_ ?_
              · refine Ob.free [(40, some 4)] (by kernel_rfl) (rowV [factT a'] 1) rfl rfl (fun a X hE hL => ?_)
                simp [Seen, slotAt, famV] at hL
                have h40 := hL
                rw [relAt_eq]
                obtain ⟨A9, c9, e9, r9⟩ := h40
                go_simp
                rw [relUpon_enter]
                go_at_call 73
                refine (cloneF_any X A9 1 c9 _ r9 (by omega)).mono ?_
                rintro e Y ⟨A2, c2, rfl, hr2, hY⟩
                exact ⟨_, rfl, hY, A2, c2, rfl, hr2⟩
              refine Obs.cons (j := 7) rfl ?_ ?_
              · refine Ob.free [(36, some 0), (37, some 1), (41, some 5)] (by kernel_rfl) (isV (.agg (factA G9))) rfl rfl (fun a X hE hL => ?_)
                simp [Seen, slotAt, famV, isV] at hL
                obtain ⟨h36, h37, h41⟩ := hL
                rw [relAt_eq]
                obtain ⟨A9, c9, e9, r9⟩ := h41
                go_simp
                rw [relUpon_enter]
                go_at_call 61
                refine (HCL.out X A9 c9 r9).mono ?_
                rintro e Y ⟨rfl, hY⟩
                exact ⟨_, rfl, hY, rfl⟩
              refine Obs.cons (j := 8) rfl ?_ ?_
              · refine Ob.free [] (by kernel_rfl) (newF wr.heap.size) rfl rfl (fun a X hE hL => ?_)
                rw [relAt_eq]
                go_simp
                exact ⟨(Below.refl _ _).alloc (Nat.le_refl _) _, X.heap.size, rfl, by have h9 := (onto_drew hE).size; simp at h9; omega, FactAt.zero X _ rfl⟩
              exact trivial
            case qP =>
              intro x wA hE hV
              simp [AllV, famV, isV] at hV
              obtain ⟨-, -, -, -, -, -, h42, h12⟩ := hV
              simp only [puts, Act.put, List.setIfInBounds_toArray, List.set_cons_zero, List.set_cons_succ, h42]
              generalize x 36 = y36
              generalize x 37 = y37
              generalize x 38 = y38
              generalize x 39 = y39
              generalize x 40 = y40
              generalize x 41 = y41
              generalize x 12 = y12 at h12 ⊢
              clear h42
              have hbA := onto_drew hE
              obtain ⟨k, rfl, hgk, hk⟩ := h12
              have HK := Lib.hid hk
              have HTA := Lib.hid (HWX.out.trans (hbA.mono HWX.out.size))
              clear hE hbA hk
              refine wpAny_ready (rs := [8]) (by kernel_rfl) (by simp) ?_
              refine AllReady.cons rfl (fun K hK => ?_) AllReady.nil
              rw [if_pos (by rfl)]
              refine wp_store_fact _ _ rfl k f0 G9 rfl rfl HK.out ?_
              intro wB hK2 hBB hO hS
              have HK2 := Lib.hid hK2
              have hT : Below wr.heap.size wr wB := HTA.out.trans (hBB _ hgk)
              have HBB := Lib.hid (HBW.out.trans (hT.mono (by omega)))
              have HPR : Hid (wB.ownsRow (g + 2) 61 12 (.slice (some ⟨gs, 0, none⟩) d cap) d ((es0.map factT).flatMap factC)) := Lib.hid (by have h9 := own_prefix (d := d) (ownB HOW.out hT) (by omega) (by simp); rw [flat_take_c factC_len, HTK.out] at h9; exact h9)
              have HBS : Hid (g + 2 ≤ wB.heap.size) := Lib.hid (by have := hT.size; omega)
              clear hK2 hBB hO hS hT HK
              refine hK _ _ ?_
              clear hK K
              try simp only [Act.put, List.getElem_toArray, List.getElem_cons_succ, List.getElem_cons_zero, List.setIfInBounds_toArray, List.set_cons_zero, List.set_cons_succ]
              refine wpAny_done (by kernel_rfl) ?_ _
              go_wp2_with fail
              refine wp_region_fam_tail_lit (E := Onto) 5 2
                [isV (.slice (some ⟨gs, 0, none⟩) (d + 1) cap),
                 isV (.int .i64 (d : Int)),
                 isV (.slice (some ⟨gs, 0, none⟩) d cap),
                 isV (.agg (factA G9)),
                 newB9 (factA G9)]
                [some 43, some 44, some 45, some 46, some 47] #[true, true, true, true, true, false, false] (by kernel_rfl) rfl (by kernel_rfl) (by kernel_rfl) rfl rfl rfl Onto.trans Onto.refl ?monoQ ?obQ ?qQ
              case monoQ => exact ⟨isV_mono _ _, isV_mono _ _, isV_mono _ _, isV_mono _ _, newB9_mono _, trivial⟩
              case obQ =>
                refine Obs.cons (j := 1) rfl ?_ ?_
                · refine Ob.free [(7, none)] (by kernel_rfl) (isV (.slice (some ⟨gs, 0, none⟩) (d + 1) cap)) rfl rfl (fun a X hE hL => ?_)
                  simp [Seen, slotAt] at hL
                  have h7 := hL
                  rw [relAt_eq]
                  go_simp
                  exact ⟨Onto.refl _, rfl⟩
                refine Obs.cons (j := 2) rfl ?_ ?_
                · refine Ob.free [(11, none)] (by kernel_rfl) (isV (.int .i64 (d : Int))) rfl rfl (fun a X hE hL => ?_)
                  simp [Seen, slotAt] at hL
                  have h11 := hL
                  rw [relAt_eq]
                  go_simp
                  exact ⟨Onto.refl _, rfl⟩
                refine Obs.cons (j := 3) rfl ?_ ?_
                · refine Ob.free [(43, some 0), (44, some 1)] (by kernel_rfl) (isV (.slice (some ⟨gs, 0, none⟩) d cap)) rfl rfl (fun a X hE hL => ?_)
                  simp [Seen, slotAt, famV, isV] at hL
                  obtain ⟨h43, h44⟩ := hL
                  rw [relAt_eq]
                  go_simp
                  exact ⟨Onto.refl _, rfl⟩
                refine Obs.cons (j := 4) rfl ?_ ?_
                · refine Ob.free [(12, none)] (by kernel_rfl) (isV (.agg (factA G9))) rfl rfl (fun a X hE hL => ?_)
                  simp [Seen, slotAt] at hL
                  have h12 := hL
                  rw [relAt_eq]
                  have hl9 := run_loadF0 X k _ (HK2.out.onto (onto_drew hE))
                  go_simp
                  exact ⟨Onto.refl _, rfl⟩
                refine Obs.cons (j := 5) rfl ?_ ?_
                · refine Ob.free [(46, some 3)] (by kernel_rfl) (newB9 (factA G9)) rfl rfl (fun a X hE hL => ?_)
                  simp [Seen, slotAt, famV, isV] at hL
                  have h46 := hL
                  rw [relAt_eq]
                  rw [HA9.out] at hL h46
                  go_simp
                  refine ⟨(Below.refl _ _).alloc (Nat.le_refl _) _, X.heap.size, rfl, ?_⟩
                  rw [HA9.out]
                  exact heap_alloc_new X _
                exact trivial
              case qQ =>
                intro x wC hE hV
                simp [AllV, famV, isV] at hV
                obtain ⟨-, -, h45, -, h47⟩ := hV
                simp only [puts, Act.put, List.setIfInBounds_toArray, List.set_cons_zero, List.set_cons_succ, h45]
                generalize x 43 = y43
                generalize x 44 = y44
                generalize x 46 = y46
                generalize x 47 = y47 at h47 ⊢
                clear h45
                have hbC := onto_drew hE
                have HBC := Lib.hid (HBB.out.trans (hbC.mono (by have := HBS.out; omega)))
                have HOC := Lib.hid (ownB HPR.out hbC)
                have hgC : g + 2 ≤ wC.heap.size := by have := hbC.size; have := HBS.out; omega
                obtain ⟨gn, rfl, hgn⟩ := h47
                clear hE hbC
                refine wpAny_ready (rs := [5]) (by kernel_rfl) (by simp) ?_
                refine AllReady.cons rfl (fun K hK => ?_) AllReady.nil
                rw [if_pos (by rfl)]
                refine wp_app_el (C := factC) (n := d) (xs := es0.map factT) (v := .slice (some ⟨gs, 0, none⟩) d cap) (t := 90) (by decide) factC_len factC_one Try.underlying90 infoFact rfl _ _ _ rfl rfl HOC.out G9 rfl hgn (by unfold maxLen; omega) (by omega) hgC ?_
                intro gg cc w6 hown6 hgrow6 hat6
                have HO6 := Lib.hid hown6
                have HB6 := Lib.hid (below_grown HBC.out (by omega) hgrow6 (fun q hq => (own_ge HOC.out hq).1))
                clear hown6 hgrow6 hat6
                refine hK _ _ ?_
                clear hK K
                try simp only [Act.put, List.getElem_toArray, List.getElem_cons_succ, List.getElem_cons_zero, List.setIfInBounds_toArray, List.set_cons_zero, List.set_cons_succ]
                refine wpAny_take (i := 6) (v := .slice (some ⟨gg, 0, none⟩) (d + 1) cc) rfl (by kernel_rfl) (by kernel_rfl) (by kernel_rfl) (fun _ _ _ h => h) (Or.inl ⟨by rfl, fun X => ?_⟩) ?_
                · go_simp
                try simp only [Act.put, List.getElem_toArray, List.getElem_cons_succ, List.getElem_cons_zero, List.setIfInBounds_toArray, List.set_cons_zero, List.set_cons_succ]
                refine wpAny_done (by kernel_rfl) ?_ _
                go_wp2
                go_roundw
                case rel => exact ⟨j + 1, es0 ++ [.star a'], by omega, by go_num, by have h9 := HO6.out; rw [List.length_append, List.length_singleton, HD.out, List.map_append, List.map_cons, List.map_nil, HG9.out]; exact h9, by rw [List.reverse_append]; show evT _ (.star a' :: es0.reverse) = _; first | exact HEV2.out | (rw [HRV.out]; exact HEV2.out), by have h9 := sumP_step HSTEP.out; rw [List.reverse_append]; show sumP (.star a' :: es0.reverse) = _; rw [HSUM.out] at h9; first | exact h9 | (rw [HRV.out]; exact h9), HB6.out⟩
                case measure => simp [intOf]; omega
          | plus S a' st =>
            obtain ⟨es0, rfl, hst0⟩ := rv_top hst
            have HST := Lib.hid hst
            have HRV := Lib.hid hst0
            obtain ⟨d, hd⟩ : ∃ d, es0.length = d := ⟨_, rfl⟩
            have HD := Lib.hid hd
            have hlen : (es0 ++ [a']).length = d + 1 := by simp [hd]
            have HDR : Hid (((es0 ++ [a']).map factT).drop d = [factT a']) := Lib.hid (by rw [← hd]; simp)
            have HTK : Hid (((es0 ++ [a']).map factT).take d = es0.map factT) := Lib.hid (by rw [← hd]; simp)
            rw [hlen] at hcap hsl HOW HROW ⊢
            have y0 : ((d + 1 : Nat) : Int) - 1 = (d : Int) := by omega
            have y1 : (d : Int) + 1 - 1 = (d : Int) := by omega
            have y2 : (d : Int) ≤ (d : Int) + 1 := by omega
            have y3 : d ≤ cap := by omega
            have y4 : (d : Int) ≤ (cap : Int) := by omega
            clear hd hlen hst
            have HCL : Hid (∀ X A c, CRow factC 12 X A 1 [factT a'] → Calls Try.prog 61 #[.agg #[.int .i64 6, .int .u64 (wd S 0), .int .u64 (wd S 1), .int .u64 (wd S 2), .int .u64 (wd S 3)], .slice A 1 c] X fun e w' => e = .returned (.agg (factA (factT (.plus a')))) ∧ Below X.heap.size X w') := Lib.hid fun X A c h => know1_any ⟨6, S⟩ _ _ HSTEP.out [factT a'] rfl (fun G hG => by simp only [List.mem_cons, List.not_mem_nil, or_false] at hG; rcases hG with rfl <;> exact HFE.out _ (by simp)) A c X h
            obtain ⟨G9, hG9⟩ : ∃ G, factT (.plus a') = G := ⟨_, rfl⟩
            have HG9 := Lib.hid hG9
            rw [hG9] at HCL
            clear hG9
            obtain ⟨v0, v1, v2, v3, v4, v5, v6, v7, v8, v9, v10, v11, hA9⟩ : ∃ v0 v1 v2 v3 v4 v5 v6 v7 v8 v9 v10 v11, factA G9 = #[v0, v1, v2, v3, v4, v5, v6, v7, v8, v9, v10, v11] := ⟨_, _, _, _, _, _, _, _, _, _, _, _, rfl⟩
            have HA9 := Lib.hid hA9
            clear hA9
            go_wp2_with fail
            refine wp_region_fam_tail_lit (E := Onto) 8 1
              [isV (.func (.func 61) #[] #[]),
               isV (.agg #[.int .i64 6, .int .u64 (wd S 0), .int .u64 (wd S 1), .int .u64 (wd S 2), .int .u64 (wd S 3)]),
               isV (.slice (some ⟨gs, 0, none⟩) (d + 1) cap),
               isV (.int .i64 (d : Int)),
               rowV [factT a'] 1,
               rowV [factT a'] 1,
               isV (.agg (factA G9)),
               newF wr.heap.size]
              [some 36, some 37, some 38, some 39, some 40, some 41, some 42, some 12] #[true, true, true, true, true, true, true, true, false] (by kernel_rfl) rfl (by kernel_rfl) (by kernel_rfl) rfl rfl rfl Onto.trans Onto.refl ?monoP ?obP ?qP
            case monoP => exact ⟨isV_mono _ _, isV_mono _ _, isV_mono _ _, isV_mono _ _, rowV_mono _ _, rowV_mono _ _, isV_mono _ _, newF_mono _, trivial⟩
            case obP =>
              refine Obs.cons (j := 1) rfl ?_ ?_
              · refine Ob.free [(1, none)] (by kernel_rfl) (isV (.func (.func 61) #[] #[])) rfl rfl (fun a X hE hL => ?_)
                simp [Seen, slotAt] at hL
                have h1 := hL
                rw [relAt_eq]
                go_simp
                exact ⟨Onto.refl _, rfl⟩
              refine Obs.cons (j := 2) rfl ?_ ?_
              · refine Ob.free [(9, none)] (by kernel_rfl) (isV (.agg #[.int .i64 6, .int .u64 (wd S 0), .int .u64 (wd S 1), .int .u64 (wd S 2), .int .u64 (wd S 3)])) rfl rfl (fun a X hE hL => ?_)
                simp [Seen, slotAt] at hL
                have h9 := hL
                rw [relAt_eq]
                have f0 := keeps hE _ _ x0; have f1 := keeps hE _ _ x1; have f2 := keeps hE _ _ x2; have f3 := keeps hE _ _ x3; have f4 := keeps hE _ _ x4
                go_simp
                exact ⟨Onto.refl _, rfl⟩
              refine Obs.cons (j := 3) rfl ?_ ?_
              · refine Ob.free [(7, none)] (by kernel_rfl) (isV (.slice (some ⟨gs, 0, none⟩) (d + 1) cap)) rfl rfl (fun a X hE hL => ?_)
                simp [Seen, slotAt] at hL
                have h7 := hL
                rw [relAt_eq]
                go_simp
                exact ⟨Onto.refl _, rfl⟩
              refine Obs.cons (j := 4) rfl ?_ ?_
              · refine Ob.free [(11, none)] (by kernel_rfl) (isV (.int .i64 (d : Int))) rfl rfl (fun a X hE hL => ?_)
                simp [Seen, slotAt] at hL
                have h11 := hL
                rw [relAt_eq]
                go_simp
                exact ⟨Onto.refl _, rfl⟩
              refine Obs.cons (j := 5) rfl ?_ ?_
              · refine Ob.free [(38, some 2), (39, some 3)] (by kernel_rfl) (rowV [factT a'] 1) rfl rfl (fun a X hE hL => ?_)
                simp [Seen, slotAt, famV, isV] at hL
                obtain ⟨h38, h39⟩ := hL
                rw [relAt_eq]
                go_simp
                refine ⟨Onto.refl _, _, _, rfl, ?_⟩
                by_cases hcd : cap = d
                · omega
                · rw [if_neg hcd]
                  have h9 := crow_dropd (d := d) (HROW.out.below (HWX.out.trans ((onto_drew hE).mono HWX.out.size)))
                  rw [Nat.zero_add, HDR.out] at h9
                  simpa using h9
              refine Obs.cons (j := 6) rfl ?_ ?_
              · refine Ob.free [(40, some 4)] (by kernel_rfl) (rowV [factT a'] 1) rfl rfl (fun a X hE hL => ?_)
                simp [Seen, slotAt, famV] at hL
                have h40 := hL
                rw [relAt_eq]
                obtain ⟨A9, c9, e9, r9⟩ := h40
                go_simp
                rw [relUpon_enter]
                go_at_call 73
                refine (cloneF_any X A9 1 c9 _ r9 (by omega)).mono ?_
                rintro e Y ⟨A2, c2, rfl, hr2, hY⟩
                exact ⟨_, rfl, hY, A2, c2, rfl, hr2⟩
              refine Obs.cons (j := 7) rfl ?_ ?_
              · refine Ob.free [(36, some 0), (37, some 1), (41, some 5)] (by kernel_rfl) (isV (.agg (factA G9))) rfl rfl (fun a X hE hL => ?_)
                simp [Seen, slotAt, famV, isV] at hL
                obtain ⟨h36, h37, h41⟩ := hL
                rw [relAt_eq]
                obtain ⟨A9, c9, e9, r9⟩ := h41
                go_simp
                rw [relUpon_enter]
                go_at_call 61
                refine (HCL.out X A9 c9 r9).mono ?_
                rintro e Y ⟨rfl, hY⟩
                exact ⟨_, rfl, hY, rfl⟩
              refine Obs.cons (j := 8) rfl ?_ ?_
              · refine Ob.free [] (by kernel_rfl) (newF wr.heap.size) rfl rfl (fun a X hE hL => ?_)
                rw [relAt_eq]
                go_simp
                exact ⟨(Below.refl _ _).alloc (Nat.le_refl _) _, X.heap.size, rfl, by have h9 := (onto_drew hE).size; simp at h9; omega, FactAt.zero X _ rfl⟩
              exact trivial
            case qP =>
              intro x wA hE hV
              simp [AllV, famV, isV] at hV
              obtain ⟨-, -, -, -, -, -, h42, h12⟩ := hV
              simp only [puts, Act.put, List.setIfInBounds_toArray, List.set_cons_zero, List.set_cons_succ, h42]
              generalize x 36 = y36
              generalize x 37 = y37
              generalize x 38 = y38
              generalize x 39 = y39
              generalize x 40 = y40
              generalize x 41 = y41
              generalize x 12 = y12 at h12 ⊢
              clear h42
              have hbA := onto_drew hE
              obtain ⟨k, rfl, hgk, hk⟩ := h12
              have HK := Lib.hid hk
              have HTA := Lib.hid (HWX.out.trans (hbA.mono HWX.out.size))
              clear hE hbA hk
              refine wpAny_ready (rs := [8]) (by kernel_rfl) (by simp) ?_
              refine AllReady.cons rfl (fun K hK => ?_) AllReady.nil
              rw [if_pos (by rfl)]
              refine wp_store_fact _ _ rfl k f0 G9 rfl rfl HK.out ?_
              intro wB hK2 hBB hO hS
              have HK2 := Lib.hid hK2
              have hT : Below wr.heap.size wr wB := HTA.out.trans (hBB _ hgk)
              have HBB := Lib.hid (HBW.out.trans (hT.mono (by omega)))
              have HPR : Hid (wB.ownsRow (g + 2) 61 12 (.slice (some ⟨gs, 0, none⟩) d cap) d ((es0.map factT).flatMap factC)) := Lib.hid (by have h9 := own_prefix (d := d) (ownB HOW.out hT) (by omega) (by simp); rw [flat_take_c factC_len, HTK.out] at h9; exact h9)
              have HBS : Hid (g + 2 ≤ wB.heap.size) := Lib.hid (by have := hT.size; omega)
              clear hK2 hBB hO hS hT HK
              refine hK _ _ ?_
              clear hK K
              try simp only [Act.put, List.getElem_toArray, List.getElem_cons_succ, List.getElem_cons_zero, List.setIfInBounds_toArray, List.set_cons_zero, List.set_cons_succ]
              refine wpAny_done (by kernel_rfl) ?_ _
              go_wp2_with fail
              refine wp_region_fam_tail_lit (E := Onto) 5 2
                [isV (.slice (some ⟨gs, 0, none⟩) (d + 1) cap),
                 isV (.int .i64 (d : Int)),
                 isV (.slice (some ⟨gs, 0, none⟩) d cap),
                 isV (.agg (factA G9)),
                 newB9 (factA G9)]
                [some 43, some 44, some 45, some 46, some 47] #[true, true, true, true, true, false, false] (by kernel_rfl) rfl (by kernel_rfl) (by kernel_rfl) rfl rfl rfl Onto.trans Onto.refl ?monoQ ?obQ ?qQ
              case monoQ => exact ⟨isV_mono _ _, isV_mono _ _, isV_mono _ _, isV_mono _ _, newB9_mono _, trivial⟩
              case obQ =>
                refine Obs.cons (j := 1) rfl ?_ ?_
                · refine Ob.free [(7, none)] (by kernel_rfl) (isV (.slice (some ⟨gs, 0, none⟩) (d + 1) cap)) rfl rfl (fun a X hE hL => ?_)
                  simp [Seen, slotAt] at hL
                  have h7 := hL
                  rw [relAt_eq]
                  go_simp
                  exact ⟨Onto.refl _, rfl⟩
                refine Obs.cons (j := 2) rfl ?_ ?_
                · refine Ob.free [(11, none)] (by kernel_rfl) (isV (.int .i64 (d : Int))) rfl rfl (fun a X hE hL => ?_)
                  simp [Seen, slotAt] at hL
                  have h11 := hL
                  rw [relAt_eq]
                  go_simp
                  exact ⟨Onto.refl _, rfl⟩
                refine Obs.cons (j := 3) rfl ?_ ?_
                · refine Ob.free [(43, some 0), (44, some 1)] (by kernel_rfl) (isV (.slice (some ⟨gs, 0, none⟩) d cap)) rfl rfl (fun a X hE hL => ?_)
                  simp [Seen, slotAt, famV, isV] at hL
                  obtain ⟨h43, h44⟩ := hL
                  rw [relAt_eq]
                  go_simp
                  exact ⟨Onto.refl _, rfl⟩
                refine Obs.cons (j := 4) rfl ?_ ?_
                · refine Ob.free [(12, none)] (by kernel_rfl) (isV (.agg (factA G9))) rfl rfl (fun a X hE hL => ?_)
                  simp [Seen, slotAt] at hL
                  have h12 := hL
                  rw [relAt_eq]
                  have hl9 := run_loadF0 X k _ (HK2.out.onto (onto_drew hE))
                  go_simp
                  exact ⟨Onto.refl _, rfl⟩
                refine Obs.cons (j := 5) rfl ?_ ?_
                · refine Ob.free [(46, some 3)] (by kernel_rfl) (newB9 (factA G9)) rfl rfl (fun a X hE hL => ?_)
                  simp [Seen, slotAt, famV, isV] at hL
                  have h46 := hL
                  rw [relAt_eq]
                  rw [HA9.out] at hL h46
                  go_simp
                  refine ⟨(Below.refl _ _).alloc (Nat.le_refl _) _, X.heap.size, rfl, ?_⟩
                  rw [HA9.out]
                  exact heap_alloc_new X _
                exact trivial
              case qQ =>
                intro x wC hE hV
                simp [AllV, famV, isV] at hV
                obtain ⟨-, -, h45, -, h47⟩ := hV
                simp only [puts, Act.put, List.setIfInBounds_toArray, List.set_cons_zero, List.set_cons_succ, h45]
                generalize x 43 = y43
                generalize x 44 = y44
                generalize x 46 = y46
                generalize x 47 = y47 at h47 ⊢
                clear h45
                have hbC := onto_drew hE
                have HBC := Lib.hid (HBB.out.trans (hbC.mono (by have := HBS.out; omega)))
                have HOC := Lib.hid (ownB HPR.out hbC)
                have hgC : g + 2 ≤ wC.heap.size := by have := hbC.size; have := HBS.out; omega
                obtain ⟨gn, rfl, hgn⟩ := h47
                clear hE hbC
                refine wpAny_ready (rs := [5]) (by kernel_rfl) (by simp) ?_
                refine AllReady.cons rfl (fun K hK => ?_) AllReady.nil
                rw [if_pos (by rfl)]
                refine wp_app_el (C := factC) (n := d) (xs := es0.map factT) (v := .slice (some ⟨gs, 0, none⟩) d cap) (t := 90) (by decide) factC_len factC_one Try.underlying90 infoFact rfl _ _ _ rfl rfl HOC.out G9 rfl hgn (by unfold maxLen; omega) (by omega) hgC ?_
                intro gg cc w6 hown6 hgrow6 hat6
                have HO6 := Lib.hid hown6
                have HB6 := Lib.hid (below_grown HBC.out (by omega) hgrow6 (fun q hq => (own_ge HOC.out hq).1))
                clear hown6 hgrow6 hat6
                refine hK _ _ ?_
                clear hK K
                try simp only [Act.put, List.getElem_toArray, List.getElem_cons_succ, List.getElem_cons_zero, List.setIfInBounds_toArray, List.set_cons_zero, List.set_cons_succ]
                refine wpAny_take (i := 6) (v := .slice (some ⟨gg, 0, none⟩) (d + 1) cc) rfl (by kernel_rfl) (by kernel_rfl) (by kernel_rfl) (fun _ _ _ h => h) (Or.inl ⟨by rfl, fun X => ?_⟩) ?_
                · go_simp
                try simp only [Act.put, List.getElem_toArray, List.getElem_cons_succ, List.getElem_cons_zero, List.setIfInBounds_toArray, List.set_cons_zero, List.set_cons_succ]
                refine wpAny_done (by kernel_rfl) ?_ _
                go_wp2
                go_roundw
                case rel => exact ⟨j + 1, es0 ++ [.plus a'], by omega, by go_num, by have h9 := HO6.out; rw [List.length_append, List.length_singleton, HD.out, List.map_append, List.map_cons, List.map_nil, HG9.out]; exact h9, by rw [List.reverse_append]; show evT _ (.plus a' :: es0.reverse) = _; first | exact HEV2.out | (rw [HRV.out]; exact HEV2.out), by have h9 := sumP_step HSTEP.out; rw [List.reverse_append]; show sumP (.plus a' :: es0.reverse) = _; rw [HSUM.out] at h9; first | exact h9 | (rw [HRV.out]; exact h9), HB6.out⟩
                case measure => simp [intOf]; omega
          | opt S a' st =>
            obtain ⟨es0, rfl, hst0⟩ := rv_top hst
            have HST := Lib.hid hst
            have HRV := Lib.hid hst0
            obtain ⟨d, hd⟩ : ∃ d, es0.length = d := ⟨_, rfl⟩
            have HD := Lib.hid hd
            have hlen : (es0 ++ [a']).length = d + 1 := by simp [hd]
            have HDR : Hid (((es0 ++ [a']).map factT).drop d = [factT a']) := Lib.hid (by rw [← hd]; simp)
            have HTK : Hid (((es0 ++ [a']).map factT).take d = es0.map factT) := Lib.hid (by rw [← hd]; simp)
            rw [hlen] at hcap hsl HOW HROW ⊢
            have y0 : ((d + 1 : Nat) : Int) - 1 = (d : Int) := by omega
            have y1 : (d : Int) + 1 - 1 = (d : Int) := by omega
            have y2 : (d : Int) ≤ (d : Int) + 1 := by omega
            have y3 : d ≤ cap := by omega
            have y4 : (d : Int) ≤ (cap : Int) := by omega
            clear hd hlen hst
            have HCL : Hid (∀ X A c, CRow factC 12 X A 1 [factT a'] → Calls Try.prog 61 #[.agg #[.int .i64 7, .int .u64 (wd S 0), .int .u64 (wd S 1), .int .u64 (wd S 2), .int .u64 (wd S 3)], .slice A 1 c] X fun e w' => e = .returned (.agg (factA (factT (.opt a')))) ∧ Below X.heap.size X w') := Lib.hid fun X A c h => know1_any ⟨7, S⟩ _ _ HSTEP.out [factT a'] rfl (fun G hG => by simp only [List.mem_cons, List.not_mem_nil, or_false] at hG; rcases hG with rfl <;> exact HFE.out _ (by simp)) A c X h
            obtain ⟨G9, hG9⟩ : ∃ G, factT (.opt a') = G := ⟨_, rfl⟩
            have HG9 := Lib.hid hG9
            rw [hG9] at HCL
            clear hG9
            obtain ⟨v0, v1, v2, v3, v4, v5, v6, v7, v8, v9, v10, v11, hA9⟩ : ∃ v0 v1 v2 v3 v4 v5 v6 v7 v8 v9 v10 v11, factA G9 = #[v0, v1, v2, v3, v4, v5, v6, v7, v8, v9, v10, v11] := ⟨_, _, _, _, _, _, _, _, _, _, _, _, rfl⟩
            have HA9 := Lib.hid hA9
            clear hA9
            go_wp2_with fail
            refine wp_region_fam_tail_lit (E := Onto) 8 1
              [isV (.func (.func 61) #[] #[]),
               isV (.agg #[.int .i64 7, .int .u64 (wd S 0), .int .u64 (wd S 1), .int .u64 (wd S 2), .int .u64 (wd S 3)]),
               isV (.slice (some ⟨gs, 0, none⟩) (d + 1) cap),
               isV (.int .i64 (d : Int)),
               rowV [factT a'] 1,
               rowV [factT a'] 1,
               isV (.agg (factA G9)),
               newF wr.heap.size]
              [some 36, some 37, some 38, some 39, some 40, some 41, some 42, some 12] #[true, true, true, true, true, true, true, true, false] (by kernel_rfl) rfl (by kernel_rfl) (by kernel_rfl) rfl rfl rfl Onto.trans Onto.refl ?monoP ?obP ?qP
            case monoP => exact ⟨isV_mono _ _, isV_mono _ _, isV_mono _ _, isV_mono _ _, rowV_mono _ _, rowV_mono _ _, isV_mono _ _, newF_mono _, trivial⟩
            case obP =>
              refine Obs.cons (j := 1) rfl ?_ ?_
              · refine Ob.free [(1, none)] (by kernel_rfl) (isV (.func (.func 61) #[] #[])) rfl rfl (fun a X hE hL => ?_)
                simp [Seen, slotAt] at hL
                have h1 := hL
                rw [relAt_eq]
                go_simp
                exact ⟨Onto.refl _, rfl⟩
              refine Obs.cons (j := 2) rfl ?_ ?_
              · refine Ob.free [(9, none)] (by kernel_rfl) (isV (.agg #[.int .i64 7, .int .u64 (wd S 0), .int .u64 (wd S 1), .int .u64 (wd S 2), .int .u64 (wd S 3)])) rfl rfl (fun a X hE hL => ?_)
                simp [Seen, slotAt] at hL
                have h9 := hL
                rw [relAt_eq]
                have f0 := keeps hE _ _ x0; have f1 := keeps hE _ _ x1; have f2 := keeps hE _ _ x2; have f3 := keeps hE _ _ x3; have f4 := keeps hE _ _ x4
                go_simp
                exact ⟨Onto.refl _, rfl⟩
              refine Obs.cons (j := 3) rfl ?_ ?_
              · refine Ob.free [(7, none)] (by kernel_rfl) (isV (.slice (some ⟨gs, 0, none⟩) (d + 1) cap)) rfl rfl (fun a X hE hL => ?_)
                simp [Seen, slotAt] at hL
                have h7 := hL
                rw [relAt_eq]
                go_simp
                exact ⟨Onto.refl _, rfl⟩
              refine Obs.cons (j := 4) rfl ?_ ?_
              · refine Ob.free [(11, none)] (by kernel_rfl) (isV (.int .i64 (d : Int))) rfl rfl (fun a X hE hL => ?_)
                simp [Seen, slotAt] at hL
                have h11 := hL
                rw [relAt_eq]
                go_simp
                exact ⟨Onto.refl _, rfl⟩
              refine Obs.cons (j := 5) rfl ?_ ?_
              · refine Ob.free [(38, some 2), (39, some 3)] (by kernel_rfl) (rowV [factT a'] 1) rfl rfl (fun a X hE hL => ?_)
                simp [Seen, slotAt, famV, isV] at hL
                obtain ⟨h38, h39⟩ := hL
                rw [relAt_eq]
                go_simp
                refine ⟨Onto.refl _, _, _, rfl, ?_⟩
                by_cases hcd : cap = d
                · omega
                · rw [if_neg hcd]
                  have h9 := crow_dropd (d := d) (HROW.out.below (HWX.out.trans ((onto_drew hE).mono HWX.out.size)))
                  rw [Nat.zero_add, HDR.out] at h9
                  simpa using h9
              refine Obs.cons (j := 6) rfl ?_ ?_
              · refine Ob.free [(40, some 4)] (by kernel_rfl) (rowV [factT a'] 1) rfl rfl (fun a X hE hL => ?_)
                simp [Seen, slotAt, famV] at hL
                have h40 := hL
                rw [relAt_eq]
                obtain ⟨A9, c9, e9, r9⟩ := h40
                go_simp
                rw [relUpon_enter]
                go_at_call 73
                refine (cloneF_any X A9 1 c9 _ r9 (by omega)).mono ?_
                rintro e Y ⟨A2, c2, rfl, hr2, hY⟩
                exact ⟨_, rfl, hY, A2, c2, rfl, hr2⟩
              refine Obs.cons (j := 7) rfl ?_ ?_
              · refine Ob.free [(36, some 0), (37, some 1), (41, some 5)] (by kernel_rfl) (isV (.agg (factA G9))) rfl rfl (fun a X hE hL => ?_)
                simp [Seen, slotAt, famV, isV] at hL
                obtain ⟨h36, h37, h41⟩ := hL
                rw [relAt_eq]
                obtain ⟨A9, c9, e9, r9⟩ := h41
                go_simp
                rw [relUpon_enter]
                go_at_call 61
                refine (HCL.out X A9 c9 r9).mono ?_
                rintro e Y ⟨rfl, hY⟩
                exact ⟨_, rfl, hY, rfl⟩
              refine Obs.cons (j := 8) rfl ?_ ?_
              · refine Ob.free [] (by kernel_rfl) (newF wr.heap.size) rfl rfl (fun a X hE hL => ?_)
                rw [relAt_eq]
                go_simp
                exact ⟨(Below.refl _ _).alloc (Nat.le_refl _) _, X.heap.size, rfl, by have h9 := (onto_drew hE).size; simp at h9; omega, FactAt.zero X _ rfl⟩
              exact trivial
            case qP =>
              intro x wA hE hV
              simp [AllV, famV, isV] at hV
              obtain ⟨-, -, -, -, -, -, h42, h12⟩ := hV
              simp only [puts, Act.put, List.setIfInBounds_toArray, List.set_cons_zero, List.set_cons_succ, h42]
              generalize x 36 = y36
              generalize x 37 = y37
              generalize x 38 = y38
              generalize x 39 = y39
              generalize x 40 = y40
              generalize x 41 = y41
              generalize x 12 = y12 at h12 ⊢
              clear h42
              have hbA := onto_drew hE
              obtain ⟨k, rfl, hgk, hk⟩ := h12
              have HK := Lib.hid hk
              have HTA := Lib.hid (HWX.out.trans (hbA.mono HWX.out.size))
              clear hE hbA hk
              refine wpAny_ready (rs := [8]) (by kernel_rfl) (by simp) ?_
              refine AllReady.cons rfl (fun K hK => ?_) AllReady.nil
              rw [if_pos (by rfl)]
              refine wp_store_fact _ _ rfl k f0 G9 rfl rfl HK.out ?_
              intro wB hK2 hBB hO hS
              have HK2 := Lib.hid hK2
              have hT : Below wr.heap.size wr wB := HTA.out.trans (hBB _ hgk)
              have HBB := Lib.hid (HBW.out.trans (hT.mono (by omega)))
              have HPR : Hid (wB.ownsRow (g + 2) 61 12 (.slice (some ⟨gs, 0, none⟩) d cap) d ((es0.map factT).flatMap factC)) := Lib.hid (by have h9 := own_prefix (d := d) (ownB HOW.out hT) (by omega) (by simp); rw [flat_take_c factC_len, HTK.out] at h9; exact h9)
              have HBS : Hid (g + 2 ≤ wB.heap.size) := Lib.hid (by have := hT.size; omega)
              clear hK2 hBB hO hS hT HK
              refine hK _ _ ?_
              clear hK K
              try simp only [Act.put, List.getElem_toArray, List.getElem_cons_succ, List.getElem_cons_zero, List.setIfInBounds_toArray, List.set_cons_zero, List.set_cons_succ]
              refine wpAny_done (by kernel_rfl) ?_ _
              go_wp2_with fail
              refine wp_region_fam_tail_lit (E := Onto) 5 2
                [isV (.slice (some ⟨gs, 0, none⟩) (d + 1) cap),
                 isV (.int .i64 (d : Int)),
                 isV (.slice (some ⟨gs, 0, none⟩) d cap),
                 isV (.agg (factA G9)),
                 newB9 (factA G9)]
                [some 43, some 44, some 45, some 46, some 47] #[true, true, true, true, true, false, false] (by kernel_rfl) rfl (by kernel_rfl) (by kernel_rfl) rfl rfl rfl Onto.trans Onto.refl ?monoQ ?obQ ?qQ
              case monoQ => exact ⟨isV_mono _ _, isV_mono _ _, isV_mono _ _, isV_mono _ _, newB9_mono _, trivial⟩
              case obQ =>
                refine Obs.cons (j := 1) rfl ?_ ?_
                · refine Ob.free [(7, none)] (by kernel_rfl) (isV (.slice (some ⟨gs, 0, none⟩) (d + 1) cap)) rfl rfl (fun a X hE hL => ?_)
                  simp [Seen, slotAt] at hL
                  have h7 := hL
                  rw [relAt_eq]
                  go_simp
                  exact ⟨Onto.refl _, rfl⟩
                refine Obs.cons (j := 2) rfl ?_ ?_
                · refine Ob.free [(11, none)] (by kernel_rfl) (isV (.int .i64 (d : Int))) rfl rfl (fun a X hE hL => ?_)
                  simp [Seen, slotAt] at hL
                  have h11 := hL
                  rw [relAt_eq]
                  go_simp
                  exact ⟨Onto.refl _, rfl⟩
                refine Obs.cons (j := 3) rfl ?_ ?_
                · refine Ob.free [(43, some 0), (44, some 1)] (by kernel_rfl) (isV (.slice (some ⟨gs, 0, none⟩) d cap)) rfl rfl (fun a X hE hL => ?_)
                  simp [Seen, slotAt, famV, isV] at hL
                  obtain ⟨h43, h44⟩ := hL
                  rw [relAt_eq]
                  go_simp
                  exact ⟨Onto.refl _, rfl⟩
                refine Obs.cons (j := 4) rfl ?_ ?_
                · refine Ob.free [(12, none)] (by kernel_rfl) (isV (.agg (factA G9))) rfl rfl (fun a X hE hL => ?_)
                  simp [Seen, slotAt] at hL
                  have h12 := hL
                  rw [relAt_eq]
                  have hl9 := run_loadF0 X k _ (HK2.out.onto (onto_drew hE))
                  go_simp
                  exact ⟨Onto.refl _, rfl⟩
                refine Obs.cons (j := 5) rfl ?_ ?_
                · refine Ob.free [(46, some 3)] (by kernel_rfl) (newB9 (factA G9)) rfl rfl (fun a X hE hL => ?_)
                  simp [Seen, slotAt, famV, isV] at hL
                  have h46 := hL
                  rw [relAt_eq]
                  rw [HA9.out] at hL h46
                  go_simp
                  refine ⟨(Below.refl _ _).alloc (Nat.le_refl _) _, X.heap.size, rfl, ?_⟩
                  rw [HA9.out]
                  exact heap_alloc_new X _
                exact trivial
              case qQ =>
                intro x wC hE hV
                simp [AllV, famV, isV] at hV
                obtain ⟨-, -, h45, -, h47⟩ := hV
                simp only [puts, Act.put, List.setIfInBounds_toArray, List.set_cons_zero, List.set_cons_succ, h45]
                generalize x 43 = y43
                generalize x 44 = y44
                generalize x 46 = y46
                generalize x 47 = y47 at h47 ⊢
                clear h45
                have hbC := onto_drew hE
                have HBC := Lib.hid (HBB.out.trans (hbC.mono (by have := HBS.out; omega)))
                have HOC := Lib.hid (ownB HPR.out hbC)
                have hgC : g + 2 ≤ wC.heap.size := by have := hbC.size; have := HBS.out; omega
                obtain ⟨gn, rfl, hgn⟩ := h47
                clear hE hbC
                refine wpAny_ready (rs := [5]) (by kernel_rfl) (by simp) ?_
                refine AllReady.cons rfl (fun K hK => ?_) AllReady.nil
                rw [if_pos (by rfl)]
                refine wp_app_el (C := factC) (n := d) (xs := es0.map factT) (v := .slice (some ⟨gs, 0, none⟩) d cap) (t := 90) (by decide) factC_len factC_one Try.underlying90 infoFact rfl _ _ _ rfl rfl HOC.out G9 rfl hgn (by unfold maxLen; omega) (by omega) hgC ?_
                intro gg cc w6 hown6 hgrow6 hat6
                have HO6 := Lib.hid hown6
                have HB6 := Lib.hid (below_grown HBC.out (by omega) hgrow6 (fun q hq => (own_ge HOC.out hq).1))
                clear hown6 hgrow6 hat6
                refine hK _ _ ?_
                clear hK K
                try simp only [Act.put, List.getElem_toArray, List.getElem_cons_succ, List.getElem_cons_zero, List.setIfInBounds_toArray, List.set_cons_zero, List.set_cons_succ]
                refine wpAny_take (i := 6) (v := .slice (some ⟨gg, 0, none⟩) (d + 1) cc) rfl (by kernel_rfl) (by kernel_rfl) (by kernel_rfl) (fun _ _ _ h => h) (Or.inl ⟨by rfl, fun X => ?_⟩) ?_
                · go_simp
                try simp only [Act.put, List.getElem_toArray, List.getElem_cons_succ, List.getElem_cons_zero, List.setIfInBounds_toArray, List.set_cons_zero, List.set_cons_succ]
                refine wpAny_done (by kernel_rfl) ?_ _
                go_wp2
                go_roundw
                case rel => exact ⟨j + 1, es0 ++ [.opt a'], by omega, by go_num, by have h9 := HO6.out; rw [List.length_append, List.length_singleton, HD.out, List.map_append, List.map_cons, List.map_nil, HG9.out]; exact h9, by rw [List.reverse_append]; show evT _ (.opt a' :: es0.reverse) = _; first | exact HEV2.out | (rw [HRV.out]; exact HEV2.out), by have h9 := sumP_step HSTEP.out; rw [List.reverse_append]; show sumP (.opt a' :: es0.reverse) = _; rw [HSUM.out] at h9; first | exact h9 | (rw [HRV.out]; exact h9), HB6.out⟩
                case measure => simp [intOf]; omega
      · have hjn : j = n := by omega
        subst hjn
        rw [List.drop_of_length_le (by rw [HL.out]; exact Nat.le_refl _)] at hev
        simp only [evT, Option.some.injEq] at hev
        obtain ⟨es0, rfl, h0⟩ := rv_top hev
        have h00 : es0 = [] := by simpa using h0
        subst h00
        have hown1 := HOW.out
        obtain ⟨A, cA, rfl, hle1, _⟩ := HF.out
        have hrow := own_row (os := [factT T]) factC_len hown1
        obtain ⟨b9, o9, rfl⟩ := hrow.some_ (by simp)
        obtain ⟨hin, hbl9⟩ := hrow.fact (i := 0) rfl
        rw [Nat.zero_mul, Nat.add_zero] at hin
        have hl9 := run_loadF wr b9 o9 (factT T) hin
        have z1 : ¬ (j : Int) < (j : Int) := by omega
        clear hown1 hrow hin hev h0
        go_wp2_with (refine wpList_store_fact rfl _ _ rfl g f0 (factT T) rfl rfl HZ1R.out ?_; intro wR hR hBR hOR hSR; have HR := Lib.hid hR; have HBR := Lib.hid (HB.out.trans (hBR g (Nat.le_refl _))); clear hR hBR hOR hSR)
        refine bodyPost_ret (results_fact rfl _ _ g (factT T) _ rfl rfl HR.out) rfl (GivK.mk _ (by first | exact HBR.out | (rw [HG.out]; exact HBR.out)))
end Go.Proofs.Ytbefndibkpjgaaa
