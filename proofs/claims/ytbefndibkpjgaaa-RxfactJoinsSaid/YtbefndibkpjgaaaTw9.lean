/- Several texts in one: OverH. -/
import Derived.Test.YtbefndibkpjgaaaTw7
import Derived.Test.YtbefndibkpjgaaaTw8
/- rxfact.over[part]: what stands in its rounds. -/
namespace Go.Proofs.Ytbefndibkpjgaaa
open Go.RowKit
set_option linter.unusedVariables false
set_option linter.unusedSimpArgs false

theorem own_blk {w : World} {base : Nat} {e : TypeId} {k n c b off : Nat} {z : Option Nat} {xs : List Value} (h : w.ownsRow base e k (.slice (some ⟨b, off, z⟩) n c) n xs) : (Value.slice (some ⟨b, off, z⟩) n c).ownBlock = some b := by
  rcases h.2 with ⟨h1, _⟩ | ⟨g, cap, cur, h1, _⟩
  · cases h1
  · injection h1 with h1
    injection h1 with h1
    injection h1 with h1 h2 h3
    subst h1 h2 h3; rfl
theorem MX.wider {B : Nat} {w w' : World} {M : Mc} (h : MX B w M []) (hk : ∀ k, k < w.heap.size → (k = B ∨ OwnS B w k) → w'.heap[k]? = w.heap[k]?) (hs : w.heap.size ≤ w'.heap.size) : MX B w' M [] ∧ ∀ k, OwnS B w' k ↔ OwnS B w k := by
  obtain ⟨os, fv, sv, bv, hm, q⟩ := h
  have hm' : MB B w' os M.se M.by_ fv sv bv [] := ⟨(hk B (by have := hm.le; omega) (.inl rfl)).trans hm.box, hm.rows.kept fun r hr k hkk => hk k ((hm.rows.own r hr).lt k hkk).2 (.inr ((hm.ownS _).2 ⟨r, by
    rcases List.mem_append.1 hr with hr | hr
    · exact List.mem_append_left _ hr
    · rw [List.nil_append] at hr; exact List.mem_append_right _ hr, hkk⟩)), hm.len, by have := hm.le; omega⟩
  exact ⟨⟨os, fv, sv, bv, hm', q⟩, fun k => by rw [hm'.ownS, hm.ownS]⟩
/-- A row of one's own beside the machine has grown. -/
theorem MX.grown {B : Nat} {w0 w w1 : World} {M : Mc} {v : Value} (h : MX B w M []) (hK : KeepsR B w0 w) (hB0 : B < w0.heap.size) (hB : Below B w0 w) (hg : w.grownBy w1 v.ownBlock) (hv : ∀ k, v.ownBlock = some k → FreeB B w k ∧ w0.heap.size ≤ k) :
    MX B w1 M [] ∧ KeepsR B w0 w1 ∧ Below B w0 w1 ∧ ∀ k, k < w1.heap.size → (v.ownBlock = some k ∨ k = w.heap.size) → FreeB B w1 k := by
  have hx := h.le
  have hgb := hg.block
  obtain ⟨h1, h2⟩ := h.wider (w' := w1) (fun k hk ho => hgb k hk fun e => by
    have hf := (hv k e.symm).1
    rcases ho with rfl | ho
    · exact hf.2.1 rfl
    · exact hf.2.2 ho) hg.size
  refine ⟨h1, ⟨Nat.le_trans hK.1 hg.size, fun k hk hkx hko => ?_⟩, below_grown hB (by omega) hg (fun k hk => by have := (hv k hk).2; have := hK.1; have := (hv k hk).1.2.1; omega), fun k hk ho => ?_⟩
  · obtain ⟨e, n⟩ := hK.2 k hk hkx hko
    refine ⟨(hgb k (Nat.lt_of_lt_of_le hk hK.1) fun e' => ?_).trans e, fun ho => n ((h2 k).1 ho)⟩
    have := (hv k e'.symm).2; omega
  · rcases ho with ho | rfl
    · have hf := (hv k ho).1
      exact ⟨hk, hf.2.1, fun hh => hf.2.2 ((h2 k).1 hh)⟩
    · refine ⟨hk, by omega, fun hh => ?_⟩
      obtain ⟨os, fv, sv, bv, hm, _⟩ := h
      exact hm.fresh (Nat.le_refl _) ((h2 _).1 hh)
/-- What the drawn operations keep. -/
def EM (B : Nat) (x y : World) : Prop := KeepsR B x y ∧ Below B x y
theorem EM.refl (B : Nat) (x : World) : EM B x x := ⟨KeepsR.refl B x, Below.refl B x⟩
theorem EM.trans {B : Nat} (x y z : World) (h : EM B x y) (g : EM B y z) : EM B x z := ⟨h.1.trans g.1, h.2.trans g.2⟩
theorem EM.of {B : Nat} {x y : World} {M : Mc} (h : MX B x M []) (hb : Onto x y) : EM B x y := ⟨h.onto hb, hb.mono (by have := h.le; omega)⟩
def IM (B : Nat) (M M' : Mc) (b : Bool) (x : World) : Prop := MX B x (if b = true then M' else M) []
theorem IM.of {B : Nat} {M M' : Mc} (b : Bool) (x y : World) (h : IM B M M' b x) (hb : Onto x y) : EM B x y ∧ IM B M M' b y := ⟨EM.of h hb, MX.below h hb⟩
theorem IM.free {B : Nat} {M M' : Mc} {x y : World} (h : ∃ b, IM B M M' b x) (hb : Below x.heap.size x y) {k : Nat} {o : Obj} (hk : x.heap.size ≤ k) (ho : y.heap[k]? = some o) : Held B y k o := by
  obtain ⟨b, h⟩ := h
  exact ⟨MX.free h hb hk (Array.getElem?_eq_some_iff.1 ho).1, ho⟩
/-- A row of parts beside the machine. -/
def RowF (B : Nat) (ps : List Pt) (n : Nat) (A : Option Addr) (x : World) : Prop := CRow ptC 2 x A n ps ∧ ∀ b off e, A = some ⟨b, off, e⟩ → FreeB B x b
theorem RowF.keeps {B : Nat} {ps : List Pt} {n : Nat} {A : Option Addr} {x y : World} (h : RowF B ps n A x) (hk : KeepsR B x y) : RowF B ps n A y :=
  ⟨h.1.same (fun b off e ha => ((h.2 b off e ha).keeps hk).2) hk.1, fun b off e ha => ((h.2 b off e ha).keeps hk).1⟩
theorem RowF.nil (B : Nat) (x : World) : RowF B [] 0 none x := ⟨CRow.nil _ _, fun b off e h => by cases h⟩
def rowVP (B : Nat) (ps : List Pt) (n : Nat) (v : Value) (x : World) : Prop := ∃ A c, v = .slice A n c ∧ RowF B ps n A x
theorem rowVP_mono (B : Nat) (ps : List Pt) (n : Nat) : ∀ v x y, rowVP B ps n v x → EM B x y → rowVP B ps n v y := fun v x y ⟨A, c, e, h⟩ hE => ⟨A, c, e, h.keeps hE.1⟩
def newP (B g : Nat) (v : Value) (x : World) : Prop := ∃ k, v = .pointer (some ⟨k, 0, none⟩) ∧ g ≤ k ∧ Held B x k ZP
theorem newP_mono (B g : Nat) : ∀ v x y, newP B g v x → EM B x y → newP B g v y := fun v x y ⟨k, h1, h0, h2⟩ hE => ⟨k, h1, h0, h2.keeps hE.1⟩
/-- append of a row of parts. -/
theorem app_pts {w : World} {base n : Nat} {v : Value} {xs : List Pt} (hown : w.ownsRow base 52 2 v n (xs.flatMap ptC)) {a : Option Addr} {m c : Nat} {os : List Pt} (hr : CRow ptC 2 w a m os) (hn : n + m ≤ 100000) (hbase : base ≤ w.heap.size)
    (ops : Array Oper) (rest : List Oper) (o : Oper) (act : Act) (Q : Exit → Act → World → Prop) (hg : o.guard = none) (s x : Operand) (ho : o.op = .call { callee := .builtin .append, args := #[s, x], argTypes := #[76, 76] })
    (hs : act.eval s = v) (hx : act.eval x = .slice a m c)
    (h : ∀ v' w', w'.ownsRow base 52 2 v' (n + m) ((xs ++ os).flatMap ptC) → w.grownBy w' v.ownBlock → (v'.ownBlock = v.ownBlock ∨ v'.ownBlock = some w.heap.size) →
      wpList Try.prog ops Q rest (act.put o.dst v') w') : wpList Try.prog ops Q (o :: rest) act w := by
  obtain ⟨i0, hii, hz0, hz1, hz2⟩ := info_parts infoPt
  exact wpList_append_row w hg s x 76 ho base 52 i0 _ 16 Try.underlying76 hii hz0 hz1 hz2 rfl (by omega) ptC_len ptC_one v n (xs.flatMap ptC) hs hown a m c os hx hr (by unfold maxLen; omega) (by omega) hbase
    fun v' w' h1 h2 h3 => h v' w' (by rw [List.flatMap_append]; exact h1) h2 h3
/-- A copy of a row of parts: made anew. -/
def GivR9 (w : World) (ps : List Pt) (n : Nat) (e : Ending) (w' : World) : Prop := ∃ A c, e = .returned (.slice A n c) ∧ CRow ptC 2 w' A n ps ∧ Below w.heap.size w w' ∧ ∀ b off e, A = some ⟨b, off, e⟩ → w.heap.size ≤ b ∧ b < w'.heap.size
theorem cloneP_any (w : World) (a : Option Addr) (n c : Nat) (rs : List Pt) (h : CRow ptC 2 w a n rs) (hn : n ≤ 90000) :
    Calls Try.prog 51 #[.slice a n c] w fun e w' => GivR9 w rs n e w' := by
  cases a with
  | none =>
    have h0 : n = 0 := by
      rcases Nat.eq_zero_or_pos n with h0 | h0
      · exact h0
      · obtain ⟨_, _, ha, _⟩ := h.2.2 h0; cases ha
    subst h0
    have hr : rs = [] := List.length_eq_zero_iff.1 h.1
    subst hr
    clear h
    have heq : (binOp .eql 76 (.slice none 0 c) (.slice none 0 0)).run Try.prog w = .ok (.bool true) w := Lib.run_eql_slice_nil w 76 52 none 0 c 0 0 Try.underlying76
    go_enter Try.func51, Try.ntmps51
    go_wp2
    go_ret
    exact ⟨_, _, rfl, CRow.nil _ _, Below.refl _ _, fun b off e h => by cases h⟩
  | some ad =>
    have HO0 := Lib.hid (World.ownsRow_made (base := w.heap.size) (e := 52) (size := 2) w #[] 0 (Nat.le_refl _) (by decide) (by simp))
    have HB0 := Lib.hid ((Below.refl w.heap.size w).alloc (Nat.le_refl _) (.cells #[] 52))
    have HAP := Lib.hid (app_pts (xs := []) HO0.out (h.below HB0.out) (c := c) (by omega) (by simp))
    have HL := Lib.hid h.1
    clear h
    have heq : (binOp .eql 76 (.slice (some ad) n c) (.slice none 0 0)).run Try.prog w = .ok (.bool false) w := Lib.run_eql_slice_nil w 76 52 (some ad) n c 0 0 Try.underlying76
    go_enter Try.func51, Try.ntmps51
    go_wp2_with (at_builtin; refine HAP.out _ _ _ _ _ rfl _ _ rfl rfl rfl ?_; intro v2 w2 hown1 hgrow hat; have HW := Lib.hid hown1; have HBW := Lib.hid (below_grown HB0.out (by simp) hgrow (fun j hj => (own_ge HO0.out hj).1)); clear hown1 hgrow hat)
    go_ret
    have h9 := HW.out
    rw [List.nil_append, Nat.zero_add] at h9
    obtain ⟨A2, c2, rfl, _, _⟩ := own_form h9
    have hl9 := HL.out
    subst hl9
    refine ⟨A2, c2, rfl, own_row ptC_len h9, HBW.out, fun b off e ha => ?_⟩
    subst ha
    exact own_ge h9 (own_blk h9)
theorem results_pt2 {fn : Func} {p t : Tmp} (h : fn.results = #[.cell p 52, .tmp t]) (tmps : Array Value) (w : World) (g i o : Nat) (v : Value)
    (hp : tmps.getD p undef = .pointer (some ⟨g, 0, none⟩)) (hv : tmps.getD t undef = v) (hg : PtAt w g i o) :
    (results fn tmps).run Try.prog w = .ok (.tuple #[.agg #[.int .i64 (i : Int), .int .i64 (o : Int)], v]) w := by
  have hp' : tmps[p]?.getD undef = .pointer (some ⟨g, 0, none⟩) := by simpa using hp
  have hv' : tmps[t]?.getD undef = v := by simpa using hv
  have hl := run_loadP0 w g i o hg
  simp [results, h, hp', hv', asAddr, loadP_eq, hl]
theorem wp_store_pt {o : Oper} {a : Act} {w : World} {K : Act → World → Prop} {Q : Exit → Act → World → Prop} (x y : Operand) (ho : o.op = .store 52 x y)
    (g : Nat) (i o' i' o'' : Nat) (hx : a.eval x = .pointer (some ⟨g, 0, none⟩)) (hy : a.eval y = .agg #[.int .i64 (i' : Int), .int .i64 (o'' : Int)]) (hg : PtAt w g i o')
    (h : ∀ w', PtAt w' g i' o'' → (∀ B, B ≤ g → Below B w w') → (∀ k, k ≠ g → w'.heap[k]? = w.heap[k]?) → w'.heap.size = w.heap.size → K (a.put o.dst undef) w') : o.wp Try.prog a w K Q := by
  refine wp_store_row 52 x y ho g _ hx hy 52 _ hg (sizePt _ _) rfl (by simp [Value.oneCell']) ?_
  exact h _ (setRow_heap w g _ _ _ _ hg) (fun B hB => (Below.refl _ _).trans ⟨rfl, rfl, rfl, by simp, fun k hk => setRow_other w g k _ (by omega)⟩) (fun k hk => setRow_other w g k _ hk) (by simp)
def newB8 (A : Array Value) (v : Value) (x : World) : Prop := ∃ g, v = .slice (some ⟨g, 0, none⟩) 1 1 ∧ x.heap[g]? = some (.cells A 52 (0, 0))
theorem newB8_mono (A : Array Value) : ∀ v x y, newB8 A v x → Onto x y → newB8 A v y := fun v x y ⟨g, e, h⟩ hE => ⟨g, e, (hE.block g (Array.getElem?_eq_some_iff.1 h).1).trans h⟩
/-- What over[part] gives: the machine of an expression, its first and last state. -/
def GivOP (B : Nat) (o : Option RxT) (w : World) (e : Ending) (w' : World) : Prop := Below B w w' ∧ ∃ M, MX B w' M [] ∧ match o with
  | none => e = .returned (.tuple #[.agg #[.int .i64 0, .int .i64 0], .bool false])
  | some T => MOK M [T] ∧ Small M (szT T) (8 * szT T) ∧ e = .returned (.tuple #[.agg #[.int .i64 (inS T 0 : Nat), .int .i64 (outS T 0 : Nat)], .bool true])
/-- What stands in a round of over[part], behind j steps. -/
structure OV (B g : Nat) (w1 : World) (j : Nat) (es : List RxT) (M : Mc) (u : Value) (wr : World) : Prop where
  own : wr.ownsRow w1.heap.size 52 2 u es.length ((ptsL es 0).flatMap ptC)
  free : ∀ k, u.ownBlock = some k → FreeB B wr k
  mx : MX B wr M []
  ok : MOK M es
  sm : Small M (2 * j) (8 * j)
  kp : KeepsR B w1 wr
  bw : Below B w1 wr
theorem OV.crow {B g : Nat} {w1 : World} {j : Nat} {es : List RxT} {M : Mc} {A : Option Addr} {n c : Nat} {wr : World} (h : OV B g w1 j es M (.slice A n c) wr) (hn : n = es.length) : RowF B (ptsL es 0) n A wr := by
  have h9 := h.own
  have e : es.length = (ptsL es 0).length := (ptsL_len es 0).symm
  subst hn
  rw [e] at h9 ⊢
  refine ⟨own_row ptC_len h9, fun b off e ha => ?_⟩
  subst ha
  exact h.free b (own_blk h.own)
end Go.Proofs.Ytbefndibkpjgaaa
