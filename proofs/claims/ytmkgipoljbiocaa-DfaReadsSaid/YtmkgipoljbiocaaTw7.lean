/- Several texts in one: Fuse. -/
import Derived.Test.YtmkgipoljbiocaaTw5
import Derived.Test.YtmkgipoljbiocaaTw1
import Derived.Deep.AppendLies
/- The net of tokens: the document's Fuse. -/
namespace Go.Proofs.Ytmkgipoljbiocaa
open Go.RowKit
set_option linter.unusedVariables false
set_option linter.unusedSimpArgs false

/-- A token. -/
structure TkN where
  nm : Value
  ra : Option Addr
  rl : Nat
  rc : Nat
  cl : Int
  o : Option RxT
instance : Inhabited TkN := ⟨⟨.string ⟨#[]⟩, none, 0, 0, 0, none⟩⟩
def tknC (t : TkN) : List Value := [t.nm, .slice t.ra t.rl t.rc, .int .i64 t.cl]
/-- A row of tokens. -/
def TkRow (w : World) (a : Option Addr) (n : Nat) (ts : List TkN) : Prop := CRow tknC 3 w a n ts ∧ ∀ t ∈ ts, IsRx w t.ra t.rl t.o ∧ t.rl ≤ 600
theorem TkRow.below {w w' : World} {a : Option Addr} {n : Nat} {ts : List TkN} (h : TkRow w a n ts) (hb : Below w.heap.size w w') : TkRow w' a n ts := ⟨h.1.below hb, fun t ht => ⟨(h.2 t ht).1.below hb, (h.2 t ht).2⟩⟩
theorem TkRow.at_ {w : World} {a : Option Addr} {n : Nat} {ts : List TkN} (h : TkRow w a n ts) {k : Nat} (hk : k < n) : ∃ b off t, a = some ⟨b, off, none⟩ ∧ b < w.heap.size ∧ ts[k]? = some t ∧ w.cell? ⟨b, off + k * 3 + 1, none⟩ = some (.slice t.ra t.rl t.rc) ∧ IsRx w t.ra t.rl t.o ∧ t.rl ≤ 600 := by
  obtain ⟨b, off, t, ha, hb, ht, hc⟩ := h.1.at_ hk
  exact ⟨b, off, t, ha, hb, ht, hc 1 _ rfl, h.2 t (List.mem_of_getElem? ht)⟩
theorem fuse_len (os : List (Option RxT)) (B : Nat) (h : ∀ o ∈ os, (setsL o).length ≤ B) : ∀ k, k ≤ os.length → (fuseUp os k).sets.length ≤ k * B ∧ (fuseUp os k).of.length = (fuseUp os k).sets.length ∧ (fuseUp os k).last.length = (fuseUp os k).sets.length ∧ (fuseUp os k).fol.length = (fuseUp os k).sets.length := by
  intro k
  induction k with
  | zero => intro _; simp [fuseUp, net0]
  | succ k ih =>
    intro hk
    obtain ⟨h1, h2, h3, h4⟩ := ih (by omega)
    have ho : (setsL ((os[k]?).getD none)).length ≤ B := by
      rw [List.getElem?_eq_getElem (by omega)]; exact h _ (List.getElem_mem _)
    obtain ⟨a1, a2, a3, a4⟩ := addUp_len (fuseUp os k) k ((os[k]?).getD none) _ (Nat.le_refl _)
    have e : fuseUp os (k + 1) = addTok (fuseUp os k) k ((os[k]?).getD none) := rfl
    rw [e]
    simp only [addTok]
    rw [a1, a2, a3, a4, Nat.succ_mul]
    omega
theorem fuse_first (os : List (Option RxT)) (B : Nat) (h : ∀ o ∈ os, (setsL o).length ≤ B) (hl : ∀ o, (endsL false o).length ≤ (setsL o).length) : ∀ k, k ≤ os.length → (fuseUp os k).first.length ≤ k * B := by
  intro k
  induction k with
  | zero => intro _; simp [fuseUp, net0]
  | succ k ih =>
    intro hk
    have h1 := ih (by omega)
    have ho : (setsL ((os[k]?).getD none)).length ≤ B := by
      rw [List.getElem?_eq_getElem (by omega)]; exact h _ (List.getElem_mem _)
    have h2 := hl ((os[k]?).getD none)
    have e : fuseUp os (k + 1) = addTok (fuseUp os k) k ((os[k]?).getD none) := rfl
    rw [e]
    simp only [addTok, List.length_append, List.length_map]
    rw [Nat.succ_mul]
    omega
theorem addUp_next (N : NetS) (t : Nat) (o : Option RxT) (k : Nat) (S : Nat → Bool) (h : (setsL o)[k]? = some S) : (⟨(addUp N t o k).sets ++ [S], (addUp N t o k).of ++ [(t : Int)], (addUp N t o k).last ++ [(endsL true o).contains (k : Int)], (addUp N t o k).fol ++ [(folL o k).map (· + (N.sets.length : Int))], (addUp N t o k).first⟩ : NetS) = addUp N t o (k + 1) := by
  obtain ⟨h1, h2, h3, h4, h5⟩ := addUp_succ N t o k S h
  rw [← h1, ← h2, ← h3, ← h4, ← h5]
theorem row_new' {v : Value} {w wa : World} {a : Option Nat} (h : v.ownBlock = a ∨ v.ownBlock = some wa.heap.size) (hH : w.heap.size ≤ wa.heap.size) : v.ownBlock = a ∨ ∃ b, v.ownBlock = some b ∧ w.heap.size ≤ b := by
  rcases h with h | h
  · exact .inl h
  · exact .inr ⟨_, h, hH⟩
/-- A row of ints of the call's own, in no certain place. -/
def gvI (B : Nat) (xs : List Int) (v : Value) (x : World) : Prop := ∃ A c, v = .slice A xs.length c ∧ x.ownsRow B 3 1 (.slice A xs.length c) xs.length (xs.flatMap intC)
theorem gvI_mono (B : Nat) (xs : List Int) : ∀ v x y, gvI B xs v x → Onto x y → gvI B xs v y := fun v x y ⟨A, c, e, h⟩ hE => ⟨A, c, e, ownB h hE⟩
/-- A new block that holds just such a row. -/
def newSl (B : Nat) (xs : List Int) (v : Value) (x : World) : Prop := ∃ g A c, v = .slice (some ⟨g, 0, none⟩) 1 1 ∧ x.heap[g]? = some (.cells #[.slice A xs.length c] 23 (0, 0)) ∧ x.ownsRow B 3 1 (.slice A xs.length c) xs.length (xs.flatMap intC)
theorem newSl_mono (B : Nat) (xs : List Int) : ∀ v x y, newSl B xs v x → Onto x y → newSl B xs v y := fun v x y ⟨g, A, c, e, h, h2⟩ hE => ⟨g, A, c, e, by
  have hlt : g < x.heap.size := by
    rcases Nat.lt_or_ge g x.heap.size with hl | hl
    · exact hl
    · rw [Array.getElem?_eq_none hl] at h; cases h
  exact (hE.block g hlt).trans h, ownB h2 hE⟩
theorem endsT_range (last : Bool) : ∀ (T : RxT) (base : Nat), ∀ x ∈ endsT last T base, (base : Int) ≤ x ∧ x < (base : Int) + nSet T := by
  intro T
  induction T with
  | set S => intro b x hx; simp [endsT] at hx; subst hx; simp [nSet]; omega
  | empty => intro b x hx; simp [endsT] at hx
  | cat a b iha ihb =>
    intro base x hx
    simp only [endsT] at hx
    simp only [nSet]
    have ha := fun h => iha base x h
    have hb := fun h => ihb (base + nSet a) x h
    split at hx
    · have := hb hx; push_cast at this ⊢; omega
    · split at hx
      · have := ha hx; push_cast at this ⊢; omega
      · rcases List.mem_append.1 hx with h | h
        · have := ha h; push_cast at this ⊢; omega
        · have := hb h; push_cast at this ⊢; omega
  | alt a b iha ihb =>
    intro base x hx
    simp only [endsT] at hx
    simp only [nSet]
    rcases List.mem_append.1 hx with h | h
    · have := iha base x h; push_cast at this ⊢; omega
    · have := ihb (base + nSet a) x h; push_cast at this ⊢; omega
  | star a iha => exact iha
  | plus a iha => exact iha
  | opt a iha => exact iha
theorem endsL_range (last : Bool) (o : Option RxT) : ∀ x ∈ endsL last o, 0 ≤ x ∧ x < ((setsL o).length : Int) := by
  cases o with
  | none => intro x hx; simp [endsL] at hx
  | some T =>
    intro x hx
    have := endsT_range last T 0 x hx
    have e : (setsL (some T)).length = nSet T := setsT_len T
    rw [e]; omega
theorem folL_range (o : Option RxT) (i : Nat) : ∀ x ∈ folL o i, 0 ≤ x ∧ x < ((setsL o).length : Int) := by
  cases o with
  | none => intro x hx; simp [folL] at hx
  | some T =>
    intro x hx
    simp only [folL, folUp, List.mem_map, List.mem_filter, List.mem_range] at hx
    obtain ⟨b, ⟨hb, _⟩, rfl⟩ := hx
    have e : (setsL (some T)).length = nSet T := setsT_len T
    rw [e]; omega
theorem folL_len (o : Option RxT) (i : Nat) : (folL o i).length ≤ (setsL o).length := by
  cases o with
  | none => simp [folL]
  | some T =>
    have e : (setsL (some T)).length = nSet T := setsT_len T
    rw [e]; exact folUp_len T i _
theorem endsL_len (last : Bool) (o : Option RxT) : (endsL last o).length ≤ (setsL o).length := by
  cases o with
  | none => simp [endsL]
  | some T =>
    have e : (setsL (some T)).length = nSet T := setsT_len T
    rw [e]; exact endsT_len last T 0
theorem infoBool : (Try.prog.info? 4).map (fun i => (i.zero, i.size, i.bytes)) = some (some (.bool false), 1, 1) := by kernel_rfl
theorem infoInts : (Try.prog.info? 23).map (fun i => (i.zero, i.size, i.bytes)) = some (some (.slice none 0 0), 1, 24) := by kernel_rfl
theorem sizeNet : (Try.prog.info? 27).map (·.size) = some 5 := by kernel_rfl
theorem NB.kept {B X : Nat} {w w' : World} {N : NetS} {os : List (Sl Int)} {rest : List RowD} {sv ov lv fv rv : Value} (h : NB B X w N os rest sv ov lv fv rv) (hk : ∀ k, k < w.heap.size → X ≤ k → w'.heap[k]? = w.heap[k]?) (hs : w.heap.size ≤ w'.heap.size) : NB B X w' N os rest sv ov lv fv rv :=
  ⟨(hk X (by have := h.lt; have := h.le; omega) (Nat.le_refl _)).trans h.box, h.rows.kept fun r hr k e => by have := (h.rows.own r hr).lt k e; have := h.lt; exact hk k (by omega) (by omega), h.mem, h.fol, h.lt, by have := h.le; omega⟩
theorem NB.net {B X : Nat} {w : World} {N : NetS} {os : List (Sl Int)} {rest : List RowD} {sa oa la fa ra : Option Addr} {sc oc lc fc rc : Nat} (h : NB B X w N os rest (.slice sa N.sets.length sc) (.slice oa N.of.length oc) (.slice la N.last.length lc) (.slice fa os.length fc) (.slice ra N.first.length rc)) :
    NetAt w ⟨sa, N.sets.length, sc, oa, N.of.length, oc, la, N.last.length, lc, fa, os.length, fc, ra, N.first.length, rc⟩ N := by
  have h0 : w.ownsRow B 74 4 (.slice sa N.sets.length sc) N.sets.length (N.sets.flatMap setC) := h.rows.own _ (List.mem_append_left _ (.head _))
  have h1 : w.ownsRow B 3 1 (.slice oa N.of.length oc) N.of.length (N.of.flatMap intC) := h.rows.own _ (List.mem_append_left _ (.tail _ (.head _)))
  have h2 : w.ownsRow B 4 1 (.slice la N.last.length lc) N.last.length (N.last.flatMap bolC) := h.rows.own _ (List.mem_append_left _ (.tail _ (.tail _ (.head _))))
  have h3 : w.ownsRow B 23 1 (.slice fa os.length fc) os.length (os.flatMap seC) := h.rows.own _ (List.mem_append_left _ (.tail _ (.tail _ (.tail _ (.head _)))))
  have h4 : w.ownsRow B 3 1 (.slice ra N.first.length rc) N.first.length (N.first.flatMap intC) := h.rows.own _ (List.mem_append_left _ (.tail _ (.tail _ (.tail _ (.tail _ (.head _))))))
  refine ⟨crow_srow (own_row setC_len h0), own_row intC_len h1, own_row bolC_len h2, ⟨os, own_row seC_len h3, fun o ho => ?_, h.fol⟩, own_row intC_len h4⟩
  obtain ⟨hm, hl⟩ := h.mem o ho
  have h5 : w.ownsRow B 3 1 (.slice o.a o.l o.c) o.l (o.xs.flatMap intC) := h.rows.own _ (List.mem_append_right _ hm)
  rw [hl] at h5 ⊢
  exact own_row intC_len h5
/-- The capacities of what follows each spot. -/
theorem NB.cap {B X : Nat} {w : World} {N : NetS} {os : List (Sl Int)} {rest : List RowD} {sv ov lv rv : Value} {fa : Option Addr} {fc : Nat} (h : NB B X w N os rest sv ov lv (.slice fa os.length fc) rv) :
    ∀ i b off, i < os.length → fa = some ⟨b, off, none⟩ → b < w.heap.size ∧ ∀ A l c, w.cell? ⟨b, off + i, none⟩ = some (.slice A l c) → l ≤ c ∧ c ≤ 9223372036854775807 := by
  intro i b off hi hfa
  have h3 : w.ownsRow B 23 1 (.slice fa os.length fc) os.length (os.flatMap seC) := h.rows.own _ (List.mem_append_left _ (.tail _ (.tail _ (.tail _ (.head _)))))
  obtain ⟨_, _, hc⟩ := own_row seC_len h3
  obtain ⟨b', off', e, hlt, hc⟩ := hc (by omega)
  rw [hfa] at e
  simp only [Option.some.injEq, Addr.mk.injEq, and_true] at e
  obtain ⟨rfl, rfl⟩ := e
  refine ⟨hlt, fun A l c he => ?_⟩
  obtain ⟨o, ho⟩ : ∃ o, os[i]? = some o := ⟨_, List.getElem?_eq_getElem hi⟩
  have hcell := hc i o ho 0 (.slice o.a o.l o.c) rfl
  rw [Nat.mul_one, Nat.add_zero] at hcell
  rw [hcell] at he
  simp only [Option.some.injEq, Value.slice.injEq] at he
  obtain ⟨rfl, rfl, rfl⟩ := he
  obtain ⟨hm, _⟩ := h.mem o (List.mem_of_getElem? ho)
  have h5 : w.ownsRow B 3 1 (.slice o.a o.l o.c) o.l (o.xs.flatMap intC) := h.rows.own _ (List.mem_append_right _ hm)
  obtain ⟨A2, c2, e2, h6, h7⟩ := own_form h5
  simp only [Value.slice.injEq] at e2
  obtain ⟨_, _, rfl⟩ := e2
  exact ⟨h6, h7⟩
/-- The net's row of a token begun. -/
theorem NB.start (w : World) (g : Nat) (hg : w.heap.size = g) : NB (g + 2) (g + 1) ((w.alloc (.cells #[.slice none 0 0, .slice none 0 0, .slice none 0 0, .slice none 0 0, .slice none 0 0] 27)).alloc (.cells #[.slice none 0 0, .slice none 0 0, .slice none 0 0, .slice none 0 0, .slice none 0 0] 27)) net0 [] [] (.slice none 0 0) (.slice none 0 0) (.slice none 0 0) (.slice none 0 0) (.slice none 0 0) := by
  refine ⟨?_, ⟨fun r hr => ?_, fun i j r s hi hj hne k hk => ?_⟩, fun o ho => by simp at ho, rfl, by omega, by simp; omega⟩
  · have := heap_alloc_new (w.alloc (.cells #[.slice none 0 0, .slice none 0 0, .slice none 0 0, .slice none 0 0, .slice none 0 0] 27)) (.cells #[.slice none 0 0, .slice none 0 0, .slice none 0 0, .slice none 0 0, .slice none 0 0] 27)
    rw [World.size_alloc, hg] at this; exact this
  · simp only [base5, List.append_nil, List.mem_cons, List.not_mem_nil, or_false] at hr
    rcases hr with rfl | rfl | rfl | rfl | rfl <;> exact own_new _ _ _ _
  · exfalso
    have hr := List.mem_of_getElem? hi
    simp only [base5, List.append_nil, List.mem_cons, List.not_mem_nil, or_false] at hr
    rcases hr with rfl | rfl | rfl | rfl | rfl <;> simp [Value.ownBlock] at hk
/-- A new block that holds an element. -/
def newB (cs : List Value) (t : TypeId) (v : Value) (x : World) : Prop := ∃ g, v = .slice (some ⟨g, 0, none⟩) 1 1 ∧ x.heap[g]? = some (.cells cs.toArray t (0, 0))
theorem newB_mono (cs : List Value) (t : TypeId) : ∀ v x y, newB cs t v x → Onto x y → newB cs t v y := fun v x y ⟨g, e, h⟩ hE => ⟨g, e, by
  have hlt : g < x.heap.size := by
    rcases Nat.lt_or_ge g x.heap.size with hl | hl
    · exact hl
    · rw [Array.getElem?_eq_none hl] at h; cases h
  exact (hE.block g hlt).trans h⟩
theorem addUp_zero (N : NetS) (t : Nat) (o : Option RxT) : addUp N t o 0 = N := by cases N; simp [addUp]
set_option maxHeartbeats 8000000 in
set_option maxRecDepth 100000 in
theorem fuse_cap (w : World) (a : Option Addr) (n c : Nat) (ts : List TkN) (h : TkRow w a n ts) (hn : n ≤ 100) :
    Calls Try.prog 14 #[.slice a n c] w fun e w' => ∃ v, e = .returned (.agg (netA v)) ∧ NetAt w' v (fuseN (ts.map TkN.o)) ∧ (∀ i b off, i < v.fn → v.fa = some ⟨b, off, none⟩ → b < w'.heap.size ∧ ∀ A l c, w'.cell? ⟨b, off + i, none⟩ = some (.slice A l c) → l ≤ c ∧ c ≤ 9223372036854775807) ∧ Below w.heap.size w w' := by
  have HL := Lib.hid h.1.1
  have HH := Lib.hid h
  obtain ⟨g, hg⟩ : ∃ g, w.heap.size = g := ⟨_, rfl⟩
  have HG := Lib.hid hg
  have HNB0 := Lib.hid (NB.start w g hg)
  obtain ⟨W0, hW0⟩ : ∃ W, W = (w.alloc (.cells #[.slice none 0 0, .slice none 0 0, .slice none 0 0, .slice none 0 0, .slice none 0 0] 27)).alloc (.cells #[.slice none 0 0, .slice none 0 0, .slice none 0 0, .slice none 0 0, .slice none 0 0] 27) := ⟨_, rfl⟩
  have hb0 : Below g w W0 := by rw [hW0, ← hg]; exact ((Below.refl _ _).alloc (Nat.le_refl _) _).alloc (by simp) _
  have hs0 : W0.heap.size = g + 2 := by rw [hW0]; simp [hg]
  have hr0 : W0.heap[g]? = some (.cells #[.slice none 0 0, .slice none 0 0, .slice none 0 0, .slice none 0 0, .slice none 0 0] 27 (0, 0)) := by
    rw [hW0, ← hg]; exact (Below.heap_alloc _ _ _ (by simp)).trans (heap_alloc_new w _)
  have HW0 := Lib.hid hW0
  have HB0 := Lib.hid hb0
  have HS0 := Lib.hid hs0
  have HR0 := Lib.hid hr0
  rw [← hW0] at HNB0
  clear h hW0 hb0 hs0 hr0
  go_enter Try.func14, Try.ntmps14
  go_wp2_with fail
  rw [← HW0.out]
  go_loopw [4] (fun i wr => ∃ (k : Nat) (os : List (Sl Int)) (rest : List RowD) (sv ov lv fv rv : Value), k ≤ n ∧ i = .int .i64 (k : Int) ∧ NB (g + 2) (g + 1) wr (fuseUp (ts.map TkN.o) k) os rest sv ov lv fv rv ∧ Below (g + 1) W0 wr) (fun i _ => n - (intOf i).toNat)
  case atStart => exact ⟨0, [], [], _, _, _, _, _, by omega, rfl, HNB0.out, Below.refl _ _⟩
  case round =>
    obtain ⟨k, os, rest, sv, ov, lv, fv, rv, hk, rfl, hnb, hbw⟩ := hrel
    have HNB := Lib.hid hnb
    have HBW := Lib.hid hbw
    clear hnb hbw
    by_cases hlt : k < n
    case neg =>
      obtain rfl : k = n := by omega
      have z2 : ¬ ((k : Int) < (k : Int)) := by omega
      have hfl : fuseUp (ts.map TkN.o) k = fuseN (ts.map TkN.o) := by unfold fuseN; rw [List.length_map, HL.out]
      rw [hfl] at HNB
      have hgl : g + 2 ≤ wr.heap.size := HNB.out.le
      obtain ⟨⟨sa, sc, rfl, hs1, hs2⟩, ⟨oa, oc, rfl, ho1, ho2⟩, ⟨la, lc, rfl, hl1, hl2⟩, ⟨fa, fc, rfl, hf1, hf2⟩, ⟨ra, rc, rfl, hr1, hr2⟩⟩ := HNB.out.forms
      have HBX := Lib.hid HNB.out.box
      have HGX := Lib.hid ((HBW.out.block g (by omega)).trans HR0.out)
      obtain ⟨N, hN⟩ : ∃ N, fuseN (ts.map TkN.o) = N := ⟨_, rfl⟩
      rw [hN] at HNB HBX hs1 ho1 hl1 hr1
      have HN := Lib.hid hN
      clear hfl hN
      go_wp2_with (first
        | (refine wpList_load_row rfl 27 _ rfl (g + 1) rfl 27 _ _ _ HBX.out Try.underlying27 rfl sizeNet ?_)
        | (refine wpList_store_row rfl 27 _ _ rfl g _ rfl rfl 27 _ HGX.out sizeNet rfl (by simp [Value.oneCell']) ?_))
      have hR := setRow_heap wr g _ (netA ⟨sa, N.sets.length, sc, oa, N.of.length, oc, la, N.last.length, lc, fa, os.length, fc, ra, N.first.length, rc⟩) _ _ HGX.out
      refine bodyPost_ret (results_cell_row rfl _ _ g 27 _ (0, 0) _ rfl hR Try.underlying27 rfl sizeNet) rfl ⟨⟨sa, N.sets.length, sc, oa, N.of.length, oc, la, N.last.length, lc, fa, os.length, fc, ra, N.first.length, rc⟩, rfl, by rw [HN.out]; exact (HNB.out.kept (fun q hq hq2 => setRow_other wr g q _ (by omega)) (by simp)).net, (HNB.out.kept (fun q hq hq2 => setRow_other wr g q _ (by omega)) (by simp)).cap, ?_⟩
      try rw [HG.out]
      exact (HB0.out.trans (HBW.out.mono (by omega))).trans ⟨rfl, rfl, rfl, by simp, fun q hq => setRow_other wr g q _ (by omega)⟩
    case pos =>
      obtain ⟨b1, off1, tk, rfl, hb0, htk, d0, hrx0, hrl⟩ := HH.out.at_ hlt
      have HWR : ∀ X, Below (g + 1) W0 X → Below w.heap.size w X := fun X hX => by rw [HG.out]; exact HB0.out.trans (hX.mono (by omega))
      have HDX : Hid (∀ X, Below (g + 1) W0 X → X.cell? ⟨b1, off1 + k * 3 + 1, none⟩ = some (.slice tk.ra tk.rl tk.rc) ∧ IsRx X tk.ra tk.rl tk.o ∧ b1 < X.heap.size) := Lib.hid fun X hX => ⟨((HWR X hX).cell (p := ⟨b1, off1 + k * 3 + 1, none⟩) hb0).trans d0, hrx0.below (HWR X hX), by have := (HWR X hX).size; omega⟩
      obtain ⟨d1, hrx, hb1⟩ := HDX.out wr HBW.out
      clear hrx0 d0 hb0 HWR
      have z0 : (0 : Int) ≤ (k : Int) := by omega
      have z1 : (k : Int) < (n : Int) := by omega
      have HRX := Lib.hid hrx
      have HTK := Lib.hid htk
      have HTO : Hid (((ts.map TkN.o)[k]?).getD none = tk.o) := Lib.hid (by rw [List.getElem?_map, htk]; rfl)
      have hso := setsL_len tk.o _ _ _ hrx
      have HFL : Hid ((fuseUp (ts.map TkN.o) k).sets.length ≤ 60000 ∧ (fuseUp (ts.map TkN.o) k).of.length = (fuseUp (ts.map TkN.o) k).sets.length ∧ (fuseUp (ts.map TkN.o) k).last.length = (fuseUp (ts.map TkN.o) k).sets.length ∧ (fuseUp (ts.map TkN.o) k).fol.length = (fuseUp (ts.map TkN.o) k).sets.length) := Lib.hid (by
        have hk2 : k ≤ (ts.map TkN.o).length := by rw [List.length_map, HL.out]; omega
        obtain ⟨a1, a2, a3, a4⟩ := fuse_len (ts.map TkN.o) 600 (fun o ho => by
          obtain ⟨t, ht, rfl⟩ := List.mem_map.1 ho
          have h5 := HH.out.2 t ht
          have := setsL_len t.o _ _ _ h5.1
          omega) k hk2
        have : k * 600 ≤ 100 * 600 := Nat.mul_le_mul_right _ (by omega)
        exact ⟨by omega, a2, a3, a4⟩)
      have HFF : Hid ((fuseUp (ts.map TkN.o) k).first.length ≤ 60000) := Lib.hid (by
        have hk2 : k ≤ (ts.map TkN.o).length := by rw [List.length_map, HL.out]; omega
        have a1 := fuse_first (ts.map TkN.o) 600 (fun o ho => by
          obtain ⟨t, ht, rfl⟩ := List.mem_map.1 ho
          have h5 := HH.out.2 t ht
          have := setsL_len t.o _ _ _ h5.1
          omega) (endsL_len false) k hk2
        have : k * 600 ≤ 100 * 600 := Nat.mul_le_mul_right _ (by omega)
        omega)
      have HSF : Hid (fuseUp (ts.map TkN.o) (k + 1) = addTok (fuseUp (ts.map TkN.o) k) k tk.o) := Lib.hid (by rw [← HTO.out]; rfl)
      obtain ⟨N, hN⟩ : ∃ N, fuseUp (ts.map TkN.o) k = N := ⟨_, rfl⟩
      rw [hN] at HNB HFL HSF HFF
      have hgl : g + 2 ≤ wr.heap.size := HNB.out.le
      obtain ⟨⟨sa, sc, rfl, hs1, hs2⟩, ⟨oa, oc, rfl, ho1, ho2⟩, ⟨la, lc, rfl, hl1, hl2⟩, ⟨fa, fc, rfl, hf1, hf2⟩, ⟨ra, rc, rfl, hr1, hr2⟩⟩ := HNB.out.forms
      have e0 : wr.cell? ⟨g + 1, 0, none⟩ = some (.slice sa N.sets.length sc) := by rw [cell_of_row wr (g + 1) _ _ _ _ HNB.out.box]; rfl
      have HST := Lib.hid (rsets_any wr tk.ra tk.rl tk.rc tk.o hrx (by omega))
      obtain ⟨m, hm⟩ : ∃ m, (setsL tk.o).length = m := ⟨_, rfl⟩
      have HM := Lib.hid hm
      rw [hm] at hso
      clear hN htk hrx hm
      go_wp2_with fail
      refine HST.out.mono ?_
      rintro e w2 ⟨A2, c2, rfl, hso2, hb2⟩
      have HBW2 := Lib.hid (HBW.out.trans (hb2.mono (by omega)))
      have HNB2 := Lib.hid (HNB.out.add hb2 (r := ⟨74, 4, .slice A2 (setsL tk.o).length c2, (setsL tk.o).length, (setsL tk.o).flatMap setC⟩) hso2)
      have HRX2 := Lib.hid (HRX.out.below hb2)
      have d2 := (hb2.cell (p := ⟨b1, off1 + k * 3 + 1, none⟩) hb1).trans d1
      have HLT := Lib.hid (rlast10_any w2 tk.ra tk.rl tk.rc tk.o HRX2.out (by omega))
      have hb12 : b1 < w2.heap.size := by have := hb2.size; omega
      have hg2 : g + 2 ≤ w2.heap.size := by have := hb2.size; omega
      rw [HM.out]
      clear hso2 hb2
      go_wp2_with fail
      refine HLT.out.mono ?_
      rintro e w3 ⟨A3, c3, rfl, hlo3, hb3⟩
      have HBW3 := Lib.hid (HBW2.out.trans (hb3.mono (by omega)))
      have HNB3 := Lib.hid (HNB2.out.add hb3 (r := ⟨3, 1, .slice A3 (endsL true tk.o).length c3, (endsL true tk.o).length, (endsL true tk.o).flatMap intC⟩) hlo3)
      have HRX3 := Lib.hid (HRX2.out.below hb3)
      have HD3 := Lib.hid ((hb3.cell (p := ⟨b1, off1 + k * 3 + 1, none⟩) hb12).trans d2)
      have hg3 : g + 2 ≤ w3.heap.size := by have := hb3.size; omega
      obtain ⟨lm, hlm⟩ : ∃ m, (endsL true tk.o).length = m := ⟨_, rfl⟩
      have HLM := Lib.hid hlm
      rw [hlm]
      clear hlo3 hb3 d2 d1 e0 hlm
      go_wp2_with fail
      obtain ⟨wo, rfl⟩ : ∃ x, x = wr := ⟨_, rfl⟩
      go_loopw [8] (fun i wr => ∃ (j : Nat) (os : List (Sl Int)) (rest : List RowD) (sv ov lv fv rv : Value), j ≤ m ∧ i = .int .i64 (j : Int) ∧ NB (g + 2) (g + 1) wr (addUp N k tk.o j) os rest sv ov lv fv rv ∧ (⟨74, 4, .slice A2 m c2, m, (setsL tk.o).flatMap setC⟩ : RowD) ∈ rest ∧ (⟨3, 1, .slice A3 lm c3, lm, (endsL true tk.o).flatMap intC⟩ : RowD) ∈ rest ∧ Below (g + 1) W0 wr) (fun i _ => m - (intOf i).toNat)
      case atStart => exact ⟨0, _, _, _, _, _, _, _, by omega, rfl, by rw [addUp_zero]; exact HNB3.out, List.mem_append_left _ (List.mem_append_right _ (by rw [← HM.out]; exact .head _)), List.mem_append_right _ (by rw [← HLM.out]; exact .head _), HBW3.out⟩
      case round =>
        obtain ⟨j, os, rest, sv, ov, lv, fv, rv, hj, rfl, hnb, hms, hml, hbw⟩ := hrel
        have HNBJ := Lib.hid hnb
        have HBWJ := Lib.hid hbw
        have HMS := Lib.hid hms
        have HML := Lib.hid hml
        have hgj : g + 2 ≤ wr.heap.size := hnb.le
        obtain ⟨⟨sa, sc, rfl, hs1, hs2⟩, ⟨oa, oc, rfl, ho1, ho2⟩, ⟨la, lc, rfl, hl1, hl2⟩, ⟨fa, fc, rfl, hf1, hf2⟩, ⟨ra, rc, rfl, hr1, hr2⟩⟩ := hnb.forms
        have e0 : wr.cell? ⟨g + 1, 0, none⟩ = some (.slice sa (addUp N k tk.o j).sets.length sc) := by rw [cell_of_row wr (g + 1) _ _ _ _ hnb.box]; rfl
        have f0 := frozen_of_row wr (g + 1) 0 _ _ hnb.box
        by_cases hltj : j < m
        case neg =>
          obtain rfl : j = m := by omega
          have z2 : ¬ ((j : Int) < (j : Int)) := by omega
          go_wp2_with fail
          obtain ⟨d6, hrx6, hb6⟩ := HDX.out wr HBWJ.out
          have HFI : Hid (∀ X, Onto wr.drew X → Calls Try.prog 48 #[.slice tk.ra tk.rl tk.rc] X (Giv 3 1 intC X (endsL false tk.o))) := Lib.hid fun X hX => rfirst10_any X tk.ra tk.rl tk.rc tk.o (hrx6.below (onto_drew hX)) (by omega)
          have HRXL := Lib.hid (⟨endsL_range false tk.o, endsL_len false tk.o⟩ : _ ∧ _)
          obtain ⟨FL, hFL⟩ : ∃ l, endsL false tk.o = l := ⟨_, rfl⟩
          have HADD : Hid ({ addUp N k tk.o j with first := N.first ++ (endsL false tk.o).map (· + (N.sets.length : Int)) } = addTok N k tk.o) := Lib.hid (by unfold addTok; rw [HM.out])
          rw [hFL] at HRXL HFI HADD
          have hNl : N.sets.length ≤ 60000 := HFL.out.1
          have HMO : Hid (∀ X A c, CRow intC 1 X A FL.length FL → Calls Try.prog 46 #[.slice A FL.length c, .int .i64 (N.sets.length : Int)] X (Giv 3 1 intC X (FL.map (· + (N.sets.length : Int))))) := Lib.hid fun X A c h => moved_any X A FL.length c FL _ h (by have := HRXL.out.2; rw [HM.out] at this; omega) (fun x hx => by have := HRXL.out.1 x hx; rw [HM.out] at this; omega) (by omega)
          have hFLl : FL.length ≤ 600 := by have := HRXL.out.2; rw [HM.out] at this; omega
          obtain ⟨FM, hFM⟩ : ∃ l, FL.map (· + (N.sets.length : Int)) = l := ⟨_, rfl⟩
          have hFMl : FM.length ≤ 600 := by rw [← hFM, List.length_map]; exact hFLl
          rw [hFM] at HMO HADD
          have hrl1 : (addUp N k tk.o j).first.length ≤ 60000 := HFF.out
          have ho4 : wr.ownsRow (g + 2) 3 1 (.slice ra (addUp N k tk.o j).first.length rc) (addUp N k tk.o j).first.length ((addUp N k tk.o j).first.flatMap intC) := HNBJ.out.rows.own _ (List.mem_append_left _ (.tail _ (.tail _ (.tail _ (.tail _ (.head _))))))
          have HO4 := Lib.hid ho4
          obtain ⟨nr, hnr⟩ : ∃ x, (addUp N k tk.o j).first.length = x := ⟨_, rfl⟩
          rw [hnr] at HO4 hrl1 hr1
          have e4 : wr.cell? ⟨g + 1, 4, none⟩ = some (.slice ra (addUp N k tk.o j).first.length rc) := by rw [cell_of_row wr (g + 1) _ _ _ _ HNBJ.out.box]; rfl
          have f4 := frozen_of_row wr (g + 1) 4 _ _ HNBJ.out.box
          rw [hnr] at e4
          have ne4 : (Value.slice ra nr rc).ownBlock ≠ some (g + 1) := by intro e; have := (HO4.out.lt _ e).1; omega
          have NE4 := Lib.hid ne4
          clear ho4 ne4 hrx6 hFL
          refine wp_region_fam_tail_lit (E := Onto) 10 3
            [isV (.pointer (some ⟨g + 1, 4, none⟩)),
             isV (.slice ra nr rc),
             isV (.slice (some ⟨b1, off1, none⟩) n c),
             isV (.int .i64 (k : Int)),
             isV (.pointer (some ⟨b1, off1 + k * 3, none⟩)),
             isV (.pointer (some ⟨b1, off1 + k * 3 + 1, none⟩)),
             isV (.slice tk.ra tk.rl tk.rc),
             gvI wr.heap.size FL,
             isV (.int .i64 (N.sets.length : Int)),
             gvI wr.heap.size FM]
            [some 74, some 75, some 76, some 77, some 78, some 79, some 80, some 81, some 82, some 83] #[true, true, true, true, true, true, true, true, true, true, false, false, false] (by kernel_rfl) rfl (by kernel_rfl) (by kernel_rfl) rfl rfl rfl Onto.trans Onto.refl ?monoD ?obD ?qD
          case monoD => exact ⟨isV_mono _ _, isV_mono _ _, isV_mono _ _, isV_mono _ _, isV_mono _ _, isV_mono _ _, isV_mono _ _, gvI_mono _ _, isV_mono _ _, gvI_mono _ _, trivial⟩
          case obD =>
            refine Obs.cons (j := 1) rfl ?_ ?_
            · refine Ob.free [(3, none)] (by kernel_rfl) (isV (.pointer (some ⟨g + 1, 4, none⟩))) rfl rfl (fun a X hE hL => ?_)
              simp [Seen, slotAt] at hL
              have h3 := hL
              rw [relAt_eq]
              go_simp
              exact ⟨Onto.refl _, rfl⟩
            refine Obs.cons (j := 2) rfl ?_ ?_
            · refine Ob.free [(74, some 0)] (by kernel_rfl) (isV (.slice ra nr rc)) rfl rfl (fun a X hE hL => ?_)
              simp [Seen, slotAt, famV, isV] at hL
              have h74 := hL
              rw [relAt_eq]
              have f0 := keeps hE _ _ e4
              go_simp
              exact ⟨Onto.refl _, rfl⟩
            refine Obs.cons (j := 3) rfl ?_ ?_
            · refine Ob.free [(0, none)] (by kernel_rfl) (isV (.slice (some ⟨b1, off1, none⟩) n c)) rfl rfl (fun a X hE hL => ?_)
              simp [Seen, slotAt] at hL
              have h0 := hL
              rw [relAt_eq]
              go_simp
              exact ⟨Onto.refl _, rfl⟩
            refine Obs.cons (j := 4) rfl ?_ ?_
            · refine Ob.free [(4, none)] (by kernel_rfl) (isV (.int .i64 (k : Int))) rfl rfl (fun a X hE hL => ?_)
              simp [Seen, slotAt] at hL
              have h4 := hL
              rw [relAt_eq]
              go_simp
              exact ⟨Onto.refl _, rfl⟩
            refine Obs.cons (j := 5) rfl ?_ ?_
            · refine Ob.free [(76, some 2), (77, some 3)] (by kernel_rfl) (isV (.pointer (some ⟨b1, off1 + k * 3, none⟩))) rfl rfl (fun a X hE hL => ?_)
              simp [Seen, slotAt, famV, isV] at hL
              obtain ⟨h76, h77⟩ := hL
              rw [relAt_eq]
              go_simp
              exact ⟨Onto.refl _, rfl⟩
            refine Obs.cons (j := 6) rfl ?_ ?_
            · refine Ob.free [(78, some 4)] (by kernel_rfl) (isV (.pointer (some ⟨b1, off1 + k * 3 + 1, none⟩))) rfl rfl (fun a X hE hL => ?_)
              simp [Seen, slotAt, famV, isV] at hL
              have h78 := hL
              rw [relAt_eq]
              go_simp
              exact ⟨Onto.refl _, rfl⟩
            refine Obs.cons (j := 7) rfl ?_ ?_
            · refine Ob.free [(79, some 5)] (by kernel_rfl) (isV (.slice tk.ra tk.rl tk.rc)) rfl rfl (fun a X hE hL => ?_)
              simp [Seen, slotAt, famV, isV] at hL
              have h79 := hL
              rw [relAt_eq]
              have f0 := keeps hE _ _ d6
              go_simp
              exact ⟨Onto.refl _, rfl⟩
            refine Obs.cons (j := 8) rfl ?_ ?_
            · refine Ob.free [(80, some 6)] (by kernel_rfl) (gvI wr.heap.size FL) rfl rfl (fun a X hE hL => ?_)
              simp [Seen, slotAt, famV, isV] at hL
              have h80 := hL
              rw [relAt_eq]
              go_simp
              rw [relUpon_enter]
              go_at_call 48
              refine (HFI.out X hE).mono ?_
              rintro e Y ⟨A, c, rfl, ho, hY⟩
              exact ⟨_, rfl, hY, A, c, rfl, own_mono ho (onto_drew hE).size⟩
            refine Obs.cons (j := 9) rfl ?_ ?_
            · refine Ob.free [(5, none)] (by kernel_rfl) (isV (.int .i64 (N.sets.length : Int))) rfl rfl (fun a X hE hL => ?_)
              simp [Seen, slotAt] at hL
              have h5 := hL
              rw [relAt_eq]
              go_simp
              exact ⟨Onto.refl _, rfl⟩
            refine Obs.cons (j := 10) rfl ?_ ?_
            · refine Ob.free [(81, some 7), (82, some 8)] (by kernel_rfl) (gvI wr.heap.size FM) rfl rfl (fun a X hE hL => ?_)
              simp [Seen, slotAt, famV, isV] at hL
              obtain ⟨h81, h82⟩ := hL
              rw [relAt_eq]
              obtain ⟨A68, c68, e68, r68⟩ := h81
              go_simp
              rw [relUpon_enter]
              go_at_call 46
              refine (HMO.out X A68 c68 (own_row intC_len r68)).mono ?_
              rintro e Y ⟨A, c, rfl, ho, hY⟩
              exact ⟨_, rfl, hY, A, c, rfl, own_mono ho (onto_drew hE).size⟩
            exact trivial
          case qD =>
            intro x wA hE hV
            simp [AllV, famV, isV] at hV
            obtain ⟨-, h75, -, -, -, -, -, -, -, h83⟩ := hV
            simp only [puts, Act.put, List.setIfInBounds_toArray, List.set_cons_zero, List.set_cons_succ, h75]
            generalize x 74 = y74
            generalize x 76 = y76
            generalize x 77 = y77
            generalize x 78 = y78
            generalize x 79 = y79
            generalize x 80 = y80
            generalize x 81 = y81
            generalize x 82 = y82
            generalize x 83 = y83 at h83 ⊢
            clear h75
            have hbA := onto_drew hE
            obtain ⟨A7, c7, rfl, hrow⟩ := h83
            have HBA := Lib.hid hbA
            have HOA := Lib.hid (ownB HO4.out hbA)
            have HXA := Lib.hid ((hbA.block (g + 1) (by omega)).trans HNBJ.out.box)
            have hgA : g + 2 ≤ wA.heap.size := by have := hbA.size; omega
            have HRA := Lib.hid (own_row intC_len hrow)
            clear hE hbA hrow
            refine wpAny_ready (rs := [10]) (by kernel_rfl) (by simp) ?_
            refine AllReady.cons rfl (fun K hK => ?_) AllReady.nil
            rw [if_pos (by rfl)]
            refine wp_app_row (C := intC) (v := .slice ra nr rc) (t := 23) (by decide) intC_len intC_one Try.underlying23 infoInt rfl _ _ _ rfl rfl HOA.out rfl HRA.out (by unfold maxLen; omega) (by omega) hgA ?_
            intro v' wB hownB hgrow hat
            obtain ⟨gg, cap, rfl, -, -⟩ := own_form hownB
            have HOB := Lib.hid hownB
            have HGB := Lib.hid hgrow
            have HAT := Lib.hid hat
            have HXB := Lib.hid ((hgrow.block (g + 1) (by omega) (fun e => NE4.out e.symm)).trans HXA.out)
            clear hownB hgrow hat
            refine hK _ _ ?_
            clear hK K
            try simp only [Act.put, List.getElem_toArray, List.getElem_cons_succ, List.getElem_cons_zero, List.setIfInBounds_toArray, List.set_cons_zero, List.set_cons_succ]
            refine wpAny_take (i := 11) (v := .pointer (some ⟨g + 1, 4, none⟩)) rfl (by kernel_rfl) (by kernel_rfl) (by kernel_rfl) (fun _ _ _ h => h) (Or.inl ⟨by rfl, fun X => ?_⟩) ?_
            · go_simp
            try simp only [Act.put, List.getElem_toArray, List.getElem_cons_succ, List.getElem_cons_zero, List.setIfInBounds_toArray, List.set_cons_zero, List.set_cons_succ]
            refine wpAny_ready (rs := [12]) (by kernel_rfl) (by simp) ?_
            refine AllReady.cons rfl (fun K hK => ?_) AllReady.nil
            rw [if_pos (by rfl)]
            have cS := cell_of_row wB (g + 1) 4 _ _ _ HXB.out
            have fS := frozen_of_row wB (g + 1) 4 _ _ HXB.out
            go_simp
            clear cS fS
            refine hK _ _ ?_
            clear hK K
            try simp only [Act.put, List.getElem_toArray, List.getElem_cons_succ, List.getElem_cons_zero, List.setIfInBounds_toArray, List.set_cons_zero, List.set_cons_succ]
            refine wpAny_done (by kernel_rfl) ?_ _
            have HNB7 := Lib.hid (HNBJ.out.put_r HBA.out (by rw [hnr]; exact HGB.out) (v := .slice gg (nr + FM.length) cap) (zs := FM) rfl (by rw [hnr]; exact HOB.out) (by rw [hnr]; exact row_new' HAT.out HBA.out.size))
            have HBW7 : Hid (Below (g + 1) W0 (wB.setCell ⟨g + 1, 4, none⟩ (.slice gg (nr + FM.length) cap))) := Lib.hid ((below_grown (HBWJ.out.trans (HBA.out.mono (by omega))) (by omega) HGB.out (fun q hq => by have := (own_ge HO4.out hq).1; omega)).setCell (p := ⟨g + 1, 4, none⟩) (Nat.le_refl _) _)
            obtain ⟨W7, hW7⟩ : ∃ W, W = wB.setCell ⟨g + 1, 4, none⟩ (.slice gg (nr + FM.length) cap) := ⟨_, rfl⟩
            rw [← hW7]
            rw [← hW7] at HNB7 HBW7
            have HNB8 : Hid (NB (g + 2) (g + 1) W7 (fuseUp (ts.map TkN.o) (k + 1)) os rest _ _ _ _ _) := Lib.hid (by rw [HSF.out, ← HADD.out]; exact HNB7.out)
            clear HNB7 hW7 e4 f4 HOB HGB HAT HXB HXA HOA HBA HO4 NE4 HFI HMO hgA
            go_wp2_with fail
            exact ⟨⟨k + 1, _, _, _, _, _, _, _, by omega, rfl, HNB8.out, HBW7.out⟩, by simp only [intOf]; omega⟩
        case pos =>
          have hsr := own_row setC_len (hnb.rows.own _ (List.mem_append_right _ hms) |> fun h => by rw [RowD.at_] at h; rw [← HM.out] at h; exact h)
          rw [HM.out] at hsr
          obtain ⟨bs, offs, S, rfl, hbs, hS, s0, s1, s2, s3⟩ := (crow_srow hsr).at_ hltj
          have HS := Lib.hid hS
          obtain ⟨gS, hgS, hgS1, hgS2, _⟩ := own_at (hnb.rows.own _ (List.mem_append_right _ hms)) (by omega : 0 < m)
          simp only [Option.some.injEq, Addr.mk.injEq, and_true] at hgS
          obtain ⟨rfl, rfl⟩ := hgS
          have hap := hnb.apart hms
          have y0 : (0 : Int) ≤ (j : Int) := by omega
          have y1 : (j : Int) < (m : Int) := by omega
          have HSU := Lib.hid (addUp_succ N k tk.o j S hS)
          have ho0 : wr.ownsRow (g + 2) 74 4 (.slice sa (addUp N k tk.o j).sets.length sc) (addUp N k tk.o j).sets.length ((addUp N k tk.o j).sets.flatMap setC) := hnb.rows.own _ (List.mem_append_left _ (.head _))
          have HO0 := Lib.hid ho0
          have ne0 : (Value.slice sa (addUp N k tk.o j).sets.length sc).ownBlock ≠ some (g + 1) := by
            intro e; have := (ho0.lt _ e).1; omega
          have ne1 : (Value.slice sa (addUp N k tk.o j).sets.length sc).ownBlock ≠ some bs := by
            intro e; exact hap _ (.head _) bs e (by simp [Value.ownBlock])
          have NE0 := Lib.hid ne0
          have NE1 := Lib.hid ne1
          have HLU := Lib.hid (addUp_len N k tk.o j (by rw [HM.out]; omega))
          have hnsl : (addUp N k tk.o j).sets.length ≤ 70000 := by have := HLU.out.1; have := HFL.out.1; omega
          obtain ⟨ns, hns⟩ : ∃ x, (addUp N k tk.o j).sets.length = x := ⟨_, rfl⟩
          rw [hns] at e0 HO0 NE0 NE1 hnsl hs1
          simp only [Nat.zero_add] at s0 s1 s2 s3
          have hfz : ∀ ob, (wr.alloc ob).frozen? ⟨g + 1, 0, none⟩ = false := fun ob => (((Below.refl wr.heap.size wr).alloc (Nat.le_refl _) ob).frozen (p := ⟨g + 1, 0, none⟩) (by show g + 1 < _; omega)).trans f0
          clear hnb hms hml hbw hS hsr hap ho0 ne0 ne1
          go_wp2_with fail
          refine wp_region_fam_tail_lit (E := Onto) 7 3
            [isV (.pointer (some ⟨g + 1, 0, none⟩)),
             isV (.slice sa ns sc),
             isV (.slice (some ⟨bs, 0, none⟩) m c2),
             isV (.int .i64 (j : Int)),
             isV (.pointer (some ⟨bs, j * 4, none⟩)),
             isV (.agg #[.int .u64 (wd S 0), .int .u64 (wd S 1), .int .u64 (wd S 2), .int .u64 (wd S 3)]),
             newB (setC S) 74]
            [some 37, some 38, some 39, some 40, some 41, some 42, some 43] #[true, true, true, true, true, true, true, false, false, false] (by kernel_rfl) rfl (by kernel_rfl) (by kernel_rfl) rfl rfl rfl Onto.trans Onto.refl ?monoA ?obA ?qA
          case monoA => exact ⟨isV_mono _ _, isV_mono _ _, isV_mono _ _, isV_mono _ _, isV_mono _ _, isV_mono _ _, newB_mono _ _, trivial⟩
          case obA =>
            refine Obs.cons (j := 1) rfl ?_ ?_
            · refine Ob.free [(3, none)] (by kernel_rfl) (isV (.pointer (some ⟨g + 1, 0, none⟩))) rfl rfl (fun a X hE hL => ?_)
              simp [Seen, slotAt] at hL
              have h3 := hL
              rw [relAt_eq]
              go_simp
              exact ⟨Onto.refl _, rfl⟩
            refine Obs.cons (j := 2) rfl ?_ ?_
            · refine Ob.free [(37, some 0)] (by kernel_rfl) (isV (.slice sa ns sc)) rfl rfl (fun a X hE hL => ?_)
              simp [Seen, slotAt, famV, isV] at hL
              have h37 := hL
              rw [relAt_eq]
              have f0 := keeps hE _ _ e0
              go_simp
              exact ⟨Onto.refl _, rfl⟩
            refine Obs.cons (j := 3) rfl ?_ ?_
            · refine Ob.free [(6, none)] (by kernel_rfl) (isV (.slice (some ⟨bs, 0, none⟩) m c2)) rfl rfl (fun a X hE hL => ?_)
              simp [Seen, slotAt] at hL
              have h6 := hL
              rw [relAt_eq]
              go_simp
              exact ⟨Onto.refl _, rfl⟩
            refine Obs.cons (j := 4) rfl ?_ ?_
            · refine Ob.free [(8, none)] (by kernel_rfl) (isV (.int .i64 (j : Int))) rfl rfl (fun a X hE hL => ?_)
              simp [Seen, slotAt] at hL
              have h8 := hL
              rw [relAt_eq]
              go_simp
              exact ⟨Onto.refl _, rfl⟩
            refine Obs.cons (j := 5) rfl ?_ ?_
            · refine Ob.free [(39, some 2), (40, some 3)] (by kernel_rfl) (isV (.pointer (some ⟨bs, j * 4, none⟩))) rfl rfl (fun a X hE hL => ?_)
              simp [Seen, slotAt, famV, isV] at hL
              obtain ⟨h39, h40⟩ := hL
              rw [relAt_eq]
              go_simp
              exact ⟨Onto.refl _, rfl⟩
            refine Obs.cons (j := 6) rfl ?_ ?_
            · refine Ob.free [(41, some 4)] (by kernel_rfl) (isV (.agg #[.int .u64 (wd S 0), .int .u64 (wd S 1), .int .u64 (wd S 2), .int .u64 (wd S 3)])) rfl rfl (fun a X hE hL => ?_)
              simp [Seen, slotAt, famV, isV] at hL
              have h41 := hL
              rw [relAt_eq]
              have f0 := keeps hE _ _ s0; have f1 := keeps hE _ _ s1; have f2 := keeps hE _ _ s2; have f3 := keeps hE _ _ s3
              go_simp
              exact ⟨Onto.refl _, rfl⟩
            refine Obs.cons (j := 7) rfl ?_ ?_
            · refine Ob.free [(42, some 5)] (by kernel_rfl) (newB (setC S) 74) rfl rfl (fun a X hE hL => ?_)
              simp [Seen, slotAt, famV, isV] at hL
              have h42 := hL
              rw [relAt_eq]
              go_simp
              exact ⟨(Below.refl _ _).alloc (Nat.le_refl _) _, X.heap.size, rfl, heap_alloc_new X _⟩
            exact trivial
          case qA =>
            intro x wA hE hV
            simp [AllV, famV, isV] at hV
            obtain ⟨-, h38, -, -, -, -, h43⟩ := hV
            simp only [puts, Act.put, List.setIfInBounds_toArray, List.set_cons_zero, List.set_cons_succ, h38]
            generalize x 37 = y37
            generalize x 39 = y39
            generalize x 40 = y40
            generalize x 41 = y41
            generalize x 42 = y42
            generalize x 43 = y43 at h43 ⊢
            clear h38
            have hbA := onto_drew hE
            have HBA := Lib.hid hbA
            have HOA := Lib.hid (ownB HO0.out hbA)
            have HXA := Lib.hid ((hbA.block (g + 1) (by omega)).trans HNBJ.out.box)
            have hgA : g + 2 ≤ wA.heap.size := by have := hbA.size; omega
            obtain ⟨gn, rfl, hgn⟩ := h43
            clear hE hbA
            refine wpAny_ready (rs := [7]) (by kernel_rfl) (by simp) ?_
            refine AllReady.cons rfl (fun K hK => ?_) AllReady.nil
            rw [if_pos (by rfl)]
            refine wp_app_el (C := setC) (v := .slice sa ns sc) (t := 22) (by decide) setC_len setC_one Try.underlying22 infoSet rfl _ _ _ rfl rfl HOA.out S rfl hgn (by unfold maxLen; omega) (by omega) hgA ?_
            intro gg cap wB hownB hgrow hat
            have HOB := Lib.hid hownB
            have HGB := Lib.hid hgrow
            have HAT := Lib.hid hat
            have HXB := Lib.hid ((hgrow.block (g + 1) (by omega) (fun e => NE0.out e.symm)).trans HXA.out)
            clear hownB hgrow hat
            refine hK _ _ ?_
            clear hK K
            try simp only [Act.put, List.getElem_toArray, List.getElem_cons_succ, List.getElem_cons_zero, List.setIfInBounds_toArray, List.set_cons_zero, List.set_cons_succ]
            refine wpAny_take (i := 8) (v := .pointer (some ⟨g + 1, 0, none⟩)) rfl (by kernel_rfl) (by kernel_rfl) (by kernel_rfl) (fun _ _ _ h => h) (Or.inl ⟨by rfl, fun X => ?_⟩) ?_
            · go_simp
            try simp only [Act.put, List.getElem_toArray, List.getElem_cons_succ, List.getElem_cons_zero, List.setIfInBounds_toArray, List.set_cons_zero, List.set_cons_succ]
            refine wpAny_ready (rs := [9]) (by kernel_rfl) (by simp) ?_
            refine AllReady.cons rfl (fun K hK => ?_) AllReady.nil
            rw [if_pos (by rfl)]
            have cS := cell_of_row wB (g + 1) 0 _ _ _ HXB.out
            have fS := frozen_of_row wB (g + 1) 0 _ _ HXB.out
            go_simp
            clear cS fS
            refine hK _ _ ?_
            clear hK K
            try simp only [Act.put, List.getElem_toArray, List.getElem_cons_succ, List.getElem_cons_zero, List.setIfInBounds_toArray, List.set_cons_zero, List.set_cons_succ]
            refine wpAny_done (by kernel_rfl) ?_ _
            have HNB4 := Lib.hid (HNBJ.out.put_s HBA.out (by rw [hns]; exact HGB.out) (v := .slice (some ⟨gg, 0, none⟩) (ns + 1) cap) (S := S) (by rw [hns]; exact HOB.out) (by rw [hns]; exact row_new HAT.out HBA.out.size rfl))
            have HBW4 : Hid (Below (g + 1) W0 (wB.setCell ⟨g + 1, 0, none⟩ (.slice (some ⟨gg, 0, none⟩) (ns + 1) cap))) := Lib.hid ((below_grown (HBWJ.out.trans (HBA.out.mono (by omega))) (by omega) HGB.out (fun q hq => by have := (own_ge HO0.out hq).1; omega)).setCell (p := ⟨g + 1, 0, none⟩) (Nat.le_refl _) _)
            obtain ⟨W4, hW4⟩ : ∃ W, W = wB.setCell ⟨g + 1, 0, none⟩ (.slice (some ⟨gg, 0, none⟩) (ns + 1) cap) := ⟨_, rfl⟩
            rw [← hW4]
            rw [← hW4] at HNB4 HBW4
            clear hW4 e0 f0 s0 s1 s2 s3 hfz hgn HOB HGB HAT HXB HXA HOA HBA HO0 NE0 NE1 HNBJ HBWJ hgA
            have hg4 : g + 2 ≤ W4.heap.size := HNB4.out.le
            have ho1' : W4.ownsRow (g + 2) 3 1 (.slice oa (addUp N k tk.o j).of.length oc) (addUp N k tk.o j).of.length ((addUp N k tk.o j).of.flatMap intC) := HNB4.out.rows.own _ (List.mem_append_left _ (.tail _ (.head _)))
            have HO1 := Lib.hid ho1'
            have hnol : (addUp N k tk.o j).of.length ≤ 70000 := by have := HLU.out.2.1; have := HFL.out; omega
            obtain ⟨no, hno⟩ : ∃ x, (addUp N k tk.o j).of.length = x := ⟨_, rfl⟩
            rw [hno] at HO1 hnol ho1
            have e1 : W4.cell? ⟨g + 1, 1, none⟩ = some (.slice oa (addUp N k tk.o j).of.length oc) := by rw [cell_of_row W4 (g + 1) _ _ _ _ HNB4.out.box]; rfl
            have f1 := frozen_of_row W4 (g + 1) 1 _ _ HNB4.out.box
            rw [hno] at e1
            have ne1 : (Value.slice oa no oc).ownBlock ≠ some (g + 1) := by intro e; have := (HO1.out.lt _ e).1; omega
            have NE1 := Lib.hid ne1
            have HAP := Lib.hid (app_int HO1.out (k : Int) (by omega) hg4 W4.heap.size rfl)
            clear ho1' ne1
            go_wp2_with (at_builtin; refine HAP.out _ _ _ _ _ rfl _ _ rfl rfl rfl ?_; intro gg5 cap5 w5 hownB hgrow hat; have HOB := Lib.hid hownB; have HGB := Lib.hid hgrow; have HAT := Lib.hid hat; have cS := cell_of_row w5 (g + 1) 1 _ _ _ ((hgrow.block (g + 1) (by simp; omega) (fun e => NE1.out e.symm)).trans ((heap_alloc_old W4 _ (by omega)).trans HNB4.out.box)); have fS := frozen_of_row w5 (g + 1) 1 _ _ ((hgrow.block (g + 1) (by simp; omega) (fun e => NE1.out e.symm)).trans ((heap_alloc_old W4 _ (by omega)).trans HNB4.out.box)); clear hownB hgrow hat)
            have HNB5 := Lib.hid (HNB4.out.put_o ((Below.refl W4.heap.size W4).alloc (Nat.le_refl _) _) (by rw [hno]; exact HGB.out) (v := .slice (some ⟨gg5, 0, none⟩) (no + 1) cap5) (z := (k : Int)) (by rw [hno]; exact HOB.out) (by rw [hno]; exact row_new HAT.out (by omega) rfl))
            have HBW5 : Hid (Below (g + 1) W0 (w5.setCell ⟨g + 1, 1, none⟩ (.slice (some ⟨gg5, 0, none⟩) (no + 1) cap5))) := Lib.hid ((below_grown (HBW4.out.alloc (by omega) _) (by simp; omega) HGB.out (fun q hq => by have := (own_ge HO1.out hq).1; omega)).setCell (p := ⟨g + 1, 1, none⟩) (Nat.le_refl _) _)
            obtain ⟨W5, hW5⟩ : ∃ W, W = w5.setCell ⟨g + 1, 1, none⟩ (.slice (some ⟨gg5, 0, none⟩) (no + 1) cap5) := ⟨_, rfl⟩
            rw [← hW5]
            rw [← hW5] at HNB5 HBW5
            clear hW5 e1 f1 cS fS HOB HGB HAT HO1 NE1 HAP HNB4 HBW4 hg4
            have hg5 : g + 2 ≤ W5.heap.size := HNB5.out.le
            have ho2' : W5.ownsRow (g + 2) 4 1 (.slice la (addUp N k tk.o j).last.length lc) (addUp N k tk.o j).last.length ((addUp N k tk.o j).last.flatMap bolC) := HNB5.out.rows.own _ (List.mem_append_left _ (.tail _ (.tail _ (.head _))))
            have HO2 := Lib.hid ho2'
            have hnll : (addUp N k tk.o j).last.length ≤ 70000 := by have := HLU.out.2.2.1; have := HFL.out; omega
            obtain ⟨nl, hnl⟩ : ∃ x, (addUp N k tk.o j).last.length = x := ⟨_, rfl⟩
            rw [hnl] at HO2 hnll hl1
            have e2 : W5.cell? ⟨g + 1, 2, none⟩ = some (.slice la (addUp N k tk.o j).last.length lc) := by rw [cell_of_row W5 (g + 1) _ _ _ _ HNB5.out.box]; rfl
            have f2 := frozen_of_row W5 (g + 1) 2 _ _ HNB5.out.box
            rw [hnl] at e2
            have hlr := own_row intC_len (HNB5.out.rows.own _ (List.mem_append_right _ HML.out) |> fun h => by rw [RowD.at_] at h; rw [← HLM.out] at h; exact h)
            rw [HLM.out] at hlr
            have HHL : Hid (∀ X, Onto W5.drew X → Calls Try.prog 45 #[.slice A3 lm c3, .int .i64 (j : Int)] X fun e w' => e = .returned (.bool ((endsL true tk.o).contains (j : Int))) ∧ X = w') := Lib.hid fun X hX => rhas_any X A3 lm c3 _ _ (hlr.below (onto_drew hX))
            obtain ⟨q, hq⟩ : ∃ q, (endsL true tk.o).contains (j : Int) = q := ⟨_, rfl⟩
            rw [hq] at HHL
            have ne2 : (Value.slice la nl lc).ownBlock ≠ some (g + 1) := by intro e; have := (HO2.out.lt _ e).1; omega
            have NE2 := Lib.hid ne2
            clear ho2' ne2 hlr
            refine wp_region_fam_tail_lit (E := Onto) 6 3
              [isV (.pointer (some ⟨g + 1, 2, none⟩)),
               isV (.slice la nl lc),
               isV (.slice A3 lm c3),
               isV (.int .i64 (j : Int)),
               isV (.bool q),
               newB (bolC q) 4]
              [some 52, some 53, some 54, some 55, some 56, some 57] #[true, true, true, true, true, true, false, false, false] (by kernel_rfl) rfl (by kernel_rfl) (by kernel_rfl) rfl rfl rfl Onto.trans Onto.refl ?monoB ?obB ?qB
            case monoB => exact ⟨isV_mono _ _, isV_mono _ _, isV_mono _ _, isV_mono _ _, isV_mono _ _, newB_mono _ _, trivial⟩
            case obB =>
              refine Obs.cons (j := 1) rfl ?_ ?_
              · refine Ob.free [(3, none)] (by kernel_rfl) (isV (.pointer (some ⟨g + 1, 2, none⟩))) rfl rfl (fun a X hE hL => ?_)
                simp [Seen, slotAt] at hL
                have h3 := hL
                rw [relAt_eq]
                go_simp
                exact ⟨Onto.refl _, rfl⟩
              refine Obs.cons (j := 2) rfl ?_ ?_
              · refine Ob.free [(52, some 0)] (by kernel_rfl) (isV (.slice la nl lc)) rfl rfl (fun a X hE hL => ?_)
                simp [Seen, slotAt, famV, isV] at hL
                have h52 := hL
                rw [relAt_eq]
                have f0 := keeps hE _ _ e2
                go_simp
                exact ⟨Onto.refl _, rfl⟩
              refine Obs.cons (j := 3) rfl ?_ ?_
              · refine Ob.free [(7, none)] (by kernel_rfl) (isV (.slice A3 lm c3)) rfl rfl (fun a X hE hL => ?_)
                simp [Seen, slotAt] at hL
                have h7 := hL
                rw [relAt_eq]
                go_simp
                exact ⟨Onto.refl _, rfl⟩
              refine Obs.cons (j := 4) rfl ?_ ?_
              · refine Ob.free [(8, none)] (by kernel_rfl) (isV (.int .i64 (j : Int))) rfl rfl (fun a X hE hL => ?_)
                simp [Seen, slotAt] at hL
                have h8 := hL
                rw [relAt_eq]
                go_simp
                exact ⟨Onto.refl _, rfl⟩
              refine Obs.cons (j := 5) rfl ?_ ?_
              · refine Ob.free [(54, some 2), (55, some 3)] (by kernel_rfl) (isV (.bool q)) rfl rfl (fun a X hE hL => ?_)
                simp [Seen, slotAt, famV, isV] at hL
                obtain ⟨h54, h55⟩ := hL
                rw [relAt_eq]
                go_simp
                rw [relUpon_enter]
                go_at_call 45
                refine (HHL.out X hE).mono ?_
                rintro e Y ⟨rfl, rfl⟩
                exact ⟨_, rfl, Onto.refl _, rfl⟩
              refine Obs.cons (j := 6) rfl ?_ ?_
              · refine Ob.free [(56, some 4)] (by kernel_rfl) (newB (bolC q) 4) rfl rfl (fun a X hE hL => ?_)
                simp [Seen, slotAt, famV, isV] at hL
                have h56 := hL
                rw [relAt_eq]
                go_simp
                exact ⟨(Below.refl _ _).alloc (Nat.le_refl _) _, X.heap.size, rfl, heap_alloc_new X _⟩
              exact trivial
            case qB =>
              intro x wA hE hV
              simp [AllV, famV, isV] at hV
              obtain ⟨-, h53, -, -, -, h57⟩ := hV
              simp only [puts, Act.put, List.setIfInBounds_toArray, List.set_cons_zero, List.set_cons_succ, h53]
              generalize x 52 = y52
              generalize x 54 = y54
              generalize x 55 = y55
              generalize x 56 = y56
              generalize x 57 = y57 at h57 ⊢
              clear h53
              have hbA := onto_drew hE
              have HBA := Lib.hid hbA
              have HOA := Lib.hid (ownB HO2.out hbA)
              have HXA := Lib.hid ((hbA.block (g + 1) (by omega)).trans HNB5.out.box)
              have hgA : g + 2 ≤ wA.heap.size := by have := hbA.size; omega
              obtain ⟨gn, rfl, hgn⟩ := h57
              clear hE hbA
              refine wpAny_ready (rs := [6]) (by kernel_rfl) (by simp) ?_
              refine AllReady.cons rfl (fun K hK => ?_) AllReady.nil
              rw [if_pos (by rfl)]
              refine wp_app_el (C := bolC) (v := .slice la nl lc) (t := 24) (by decide) bolC_len bolC_one Try.underlying24 infoBool rfl _ _ _ rfl rfl HOA.out q rfl hgn (by unfold maxLen; omega) (by omega) hgA ?_
              intro gg cap wB hownB hgrow hat
              have HOB := Lib.hid hownB
              have HGB := Lib.hid hgrow
              have HAT := Lib.hid hat
              have HXB := Lib.hid ((hgrow.block (g + 1) (by omega) (fun e => NE2.out e.symm)).trans HXA.out)
              clear hownB hgrow hat
              refine hK _ _ ?_
              clear hK K
              try simp only [Act.put, List.getElem_toArray, List.getElem_cons_succ, List.getElem_cons_zero, List.setIfInBounds_toArray, List.set_cons_zero, List.set_cons_succ]
              refine wpAny_take (i := 7) (v := .pointer (some ⟨g + 1, 2, none⟩)) rfl (by kernel_rfl) (by kernel_rfl) (by kernel_rfl) (fun _ _ _ h => h) (Or.inl ⟨by rfl, fun X => ?_⟩) ?_
              · go_simp
              try simp only [Act.put, List.getElem_toArray, List.getElem_cons_succ, List.getElem_cons_zero, List.setIfInBounds_toArray, List.set_cons_zero, List.set_cons_succ]
              refine wpAny_ready (rs := [8]) (by kernel_rfl) (by simp) ?_
              refine AllReady.cons rfl (fun K hK => ?_) AllReady.nil
              rw [if_pos (by rfl)]
              have cS := cell_of_row wB (g + 1) 2 _ _ _ HXB.out
              have fS := frozen_of_row wB (g + 1) 2 _ _ HXB.out
              go_simp
              clear cS fS
              refine hK _ _ ?_
              clear hK K
              try simp only [Act.put, List.getElem_toArray, List.getElem_cons_succ, List.getElem_cons_zero, List.setIfInBounds_toArray, List.set_cons_zero, List.set_cons_succ]
              refine wpAny_done (by kernel_rfl) ?_ _
              have HNB6 := Lib.hid (HNB5.out.put_l HBA.out (by rw [hnl]; exact HGB.out) (v := .slice (some ⟨gg, 0, none⟩) (nl + 1) cap) (z := q) (by rw [hnl]; exact HOB.out) (by rw [hnl]; exact row_new HAT.out HBA.out.size rfl))
              have HBW6 : Hid (Below (g + 1) W0 (wB.setCell ⟨g + 1, 2, none⟩ (.slice (some ⟨gg, 0, none⟩) (nl + 1) cap))) := Lib.hid ((below_grown (HBW5.out.trans (HBA.out.mono (by omega))) (by omega) HGB.out (fun q hq => by have := (own_ge HO2.out hq).1; omega)).setCell (p := ⟨g + 1, 2, none⟩) (Nat.le_refl _) _)
              obtain ⟨W6, hW6⟩ : ∃ W, W = wB.setCell ⟨g + 1, 2, none⟩ (.slice (some ⟨gg, 0, none⟩) (nl + 1) cap) := ⟨_, rfl⟩
              rw [← hW6]
              rw [← hW6] at HNB6 HBW6
              clear hW6 e2 f2 hgn HOB HGB HAT HXB HXA HOA HBA HO2 NE2 HNB5 HBW5 hgA hg5 HHL
              have hg6 : g + 2 ≤ W6.heap.size := HNB6.out.le
              obtain ⟨d6, hrx6, hb6⟩ := HDX.out W6 HBW6.out
              obtain ⟨T, hT⟩ : ∃ T, tk.o = some T := by
                cases ho : tk.o with
                | some T => exact ⟨T, rfl⟩
                | none => exfalso; have := HM.out; rw [ho] at this; simp [setsL] at this; omega
              have hjT : j < nSet T := by have h1 := HM.out; rw [hT] at h1; have e : (setsL (some T)).length = nSet T := setsT_len T; omega
              have HRXL := Lib.hid (⟨folL_range tk.o j, folL_len tk.o j⟩ : _ ∧ _)
              have HFO : Hid (∀ X, Onto W6.drew X → Calls Try.prog 47 #[.slice tk.ra tk.rl tk.rc, .int .i64 (j : Int)] X (Giv 3 1 intC X (folL tk.o j))) := Lib.hid fun X hX => by rw [hT] at hrx6 ⊢; exact rfollow10_any X tk.ra tk.rl tk.rc T j (hrx6.below (onto_drew hX)) (by omega) hjT
              obtain ⟨FL, hFL⟩ : ∃ l, folL tk.o j = l := ⟨_, rfl⟩
              have HSUN := Lib.hid (addUp_next N k tk.o j S HS.out)
              rw [hFL] at HRXL HFO HSUN
              rw [hq] at HSUN
              have hNl : N.sets.length ≤ 60000 := HFL.out.1
              have HMO : Hid (∀ X A c, CRow intC 1 X A FL.length FL → Calls Try.prog 46 #[.slice A FL.length c, .int .i64 (N.sets.length : Int)] X (Giv 3 1 intC X (FL.map (· + (N.sets.length : Int))))) := Lib.hid fun X A c h => moved_any X A FL.length c FL _ h (by have := HRXL.out.2; rw [HM.out] at this; omega) (fun x hx => by have := HRXL.out.1 x hx; rw [HM.out] at this; omega) (by omega)
              obtain ⟨FM, hFM⟩ : ∃ l, FL.map (· + (N.sets.length : Int)) = l := ⟨_, rfl⟩
              rw [hFM] at HMO HSUN
              obtain ⟨nf, hnf⟩ : ∃ x, os.length = x := ⟨_, rfl⟩
              have hnfl : nf ≤ 70000 := by have h1 := HNB6.out.fol; have h2 := HLU.out.2.2.2; have h3 := HFL.out.2.2.2; have h4 := congrArg List.length h1; rw [List.length_map, hnf] at h4; simp only at h4; omega
              have e3 : W6.cell? ⟨g + 1, 3, none⟩ = some (.slice fa os.length fc) := by rw [cell_of_row W6 (g + 1) _ _ _ _ HNB6.out.box]; rfl
              have f3 := frozen_of_row W6 (g + 1) 3 _ _ HNB6.out.box
              rw [hnf] at e3 hf1
              clear hT hrx6 hjT hFL hq
              go_wp2_with fail
              refine wp_region_fam_tail_lit (E := Onto) 12 3
                [isV (.pointer (some ⟨g + 1, 3, none⟩)),
                 isV (.slice fa nf fc),
                 isV (.slice (some ⟨b1, off1, none⟩) n c),
                 isV (.int .i64 (k : Int)),
                 isV (.pointer (some ⟨b1, off1 + k * 3, none⟩)),
                 isV (.pointer (some ⟨b1, off1 + k * 3 + 1, none⟩)),
                 isV (.slice tk.ra tk.rl tk.rc),
                 isV (.int .i64 (j : Int)),
                 gvI W6.heap.size FL,
                 isV (.int .i64 (N.sets.length : Int)),
                 gvI W6.heap.size FM,
                 newSl W6.heap.size FM]
                [some 60, some 61, some 62, some 63, some 64, some 65, some 66, some 67, some 68, some 69, some 70, some 71] #[true, true, true, true, true, true, true, true, true, true, true, true, false, false, false] (by kernel_rfl) rfl (by kernel_rfl) (by kernel_rfl) rfl rfl rfl Onto.trans Onto.refl ?monoC ?obC ?qC
              case monoC => exact ⟨isV_mono _ _, isV_mono _ _, isV_mono _ _, isV_mono _ _, isV_mono _ _, isV_mono _ _, isV_mono _ _, isV_mono _ _, gvI_mono _ _, isV_mono _ _, gvI_mono _ _, newSl_mono _ _, trivial⟩
              case obC =>
                refine Obs.cons (j := 1) rfl ?_ ?_
                · refine Ob.free [(3, none)] (by kernel_rfl) (isV (.pointer (some ⟨g + 1, 3, none⟩))) rfl rfl (fun a X hE hL => ?_)
                  simp [Seen, slotAt] at hL
                  have h3 := hL
                  rw [relAt_eq]
                  go_simp
                  exact ⟨Onto.refl _, rfl⟩
                refine Obs.cons (j := 2) rfl ?_ ?_
                · refine Ob.free [(60, some 0)] (by kernel_rfl) (isV (.slice fa nf fc)) rfl rfl (fun a X hE hL => ?_)
                  simp [Seen, slotAt, famV, isV] at hL
                  have h60 := hL
                  rw [relAt_eq]
                  have f0 := keeps hE _ _ e3
                  go_simp
                  exact ⟨Onto.refl _, rfl⟩
                refine Obs.cons (j := 3) rfl ?_ ?_
                · refine Ob.free [(0, none)] (by kernel_rfl) (isV (.slice (some ⟨b1, off1, none⟩) n c)) rfl rfl (fun a X hE hL => ?_)
                  simp [Seen, slotAt] at hL
                  have h0 := hL
                  rw [relAt_eq]
                  go_simp
                  exact ⟨Onto.refl _, rfl⟩
                refine Obs.cons (j := 4) rfl ?_ ?_
                · refine Ob.free [(4, none)] (by kernel_rfl) (isV (.int .i64 (k : Int))) rfl rfl (fun a X hE hL => ?_)
                  simp [Seen, slotAt] at hL
                  have h4 := hL
                  rw [relAt_eq]
                  go_simp
                  exact ⟨Onto.refl _, rfl⟩
                refine Obs.cons (j := 5) rfl ?_ ?_
                · refine Ob.free [(62, some 2), (63, some 3)] (by kernel_rfl) (isV (.pointer (some ⟨b1, off1 + k * 3, none⟩))) rfl rfl (fun a X hE hL => ?_)
                  simp [Seen, slotAt, famV, isV] at hL
                  obtain ⟨h62, h63⟩ := hL
                  rw [relAt_eq]
                  go_simp
                  exact ⟨Onto.refl _, rfl⟩
                refine Obs.cons (j := 6) rfl ?_ ?_
                · refine Ob.free [(64, some 4)] (by kernel_rfl) (isV (.pointer (some ⟨b1, off1 + k * 3 + 1, none⟩))) rfl rfl (fun a X hE hL => ?_)
                  simp [Seen, slotAt, famV, isV] at hL
                  have h64 := hL
                  rw [relAt_eq]
                  go_simp
                  exact ⟨Onto.refl _, rfl⟩
                refine Obs.cons (j := 7) rfl ?_ ?_
                · refine Ob.free [(65, some 5)] (by kernel_rfl) (isV (.slice tk.ra tk.rl tk.rc)) rfl rfl (fun a X hE hL => ?_)
                  simp [Seen, slotAt, famV, isV] at hL
                  have h65 := hL
                  rw [relAt_eq]
                  have f0 := keeps hE _ _ d6
                  go_simp
                  exact ⟨Onto.refl _, rfl⟩
                refine Obs.cons (j := 8) rfl ?_ ?_
                · refine Ob.free [(8, none)] (by kernel_rfl) (isV (.int .i64 (j : Int))) rfl rfl (fun a X hE hL => ?_)
                  simp [Seen, slotAt] at hL
                  have h8 := hL
                  rw [relAt_eq]
                  go_simp
                  exact ⟨Onto.refl _, rfl⟩
                refine Obs.cons (j := 9) rfl ?_ ?_
                · refine Ob.free [(66, some 6), (67, some 7)] (by kernel_rfl) (gvI W6.heap.size FL) rfl rfl (fun a X hE hL => ?_)
                  simp [Seen, slotAt, famV, isV] at hL
                  obtain ⟨h66, h67⟩ := hL
                  rw [relAt_eq]
                  go_simp
                  rw [relUpon_enter]
                  go_at_call 47
                  refine (HFO.out X hE).mono ?_
                  rintro e Y ⟨A, c, rfl, ho, hY⟩
                  exact ⟨_, rfl, hY, A, c, rfl, own_mono ho (onto_drew hE).size⟩
                refine Obs.cons (j := 10) rfl ?_ ?_
                · refine Ob.free [(5, none)] (by kernel_rfl) (isV (.int .i64 (N.sets.length : Int))) rfl rfl (fun a X hE hL => ?_)
                  simp [Seen, slotAt] at hL
                  have h5 := hL
                  rw [relAt_eq]
                  go_simp
                  exact ⟨Onto.refl _, rfl⟩
                refine Obs.cons (j := 11) rfl ?_ ?_
                · refine Ob.free [(68, some 8), (69, some 9)] (by kernel_rfl) (gvI W6.heap.size FM) rfl rfl (fun a X hE hL => ?_)
                  simp [Seen, slotAt, famV, isV] at hL
                  obtain ⟨h68, h69⟩ := hL
                  rw [relAt_eq]
                  obtain ⟨A68, c68, e68, r68⟩ := h68
                  go_simp
                  rw [relUpon_enter]
                  go_at_call 46
                  refine (HMO.out X A68 c68 (own_row intC_len r68)).mono ?_
                  rintro e Y ⟨A, c, rfl, ho, hY⟩
                  exact ⟨_, rfl, hY, A, c, rfl, own_mono ho (onto_drew hE).size⟩
                refine Obs.cons (j := 12) rfl ?_ ?_
                · refine Ob.free [(70, some 10)] (by kernel_rfl) (newSl W6.heap.size FM) rfl rfl (fun a X hE hL => ?_)
                  simp [Seen, slotAt, famV] at hL
                  have h70 := hL
                  rw [relAt_eq]
                  obtain ⟨A70, c70, e70, r70⟩ := h70
                  go_simp
                  exact ⟨(Below.refl _ _).alloc (Nat.le_refl _) _, X.heap.size, A70, c70, rfl, heap_alloc_new X _, ownB r70 ((Below.refl _ _).alloc (Nat.le_refl _) _)⟩
                exact trivial
              case qC =>
                intro x wA hE hV
                simp [AllV, famV, isV] at hV
                obtain ⟨-, h61, -, -, -, -, -, -, -, -, -, h71⟩ := hV
                simp only [puts, Act.put, List.setIfInBounds_toArray, List.set_cons_zero, List.set_cons_succ, h61]
                generalize x 60 = y60
                generalize x 62 = y62
                generalize x 63 = y63
                generalize x 64 = y64
                generalize x 65 = y65
                generalize x 66 = y66
                generalize x 67 = y67
                generalize x 68 = y68
                generalize x 69 = y69
                generalize x 70 = y70
                generalize x 71 = y71 at h71 ⊢
                clear h61
                have hbA := onto_drew hE
                obtain ⟨gn, A7, c7, rfl, hgn, hrow⟩ := h71
                have HNBA := Lib.hid (HNB6.out.add hbA (r := inn ⟨A7, FM.length, c7, FM⟩) hrow)
                have HBA := Lib.hid hbA
                have hgA : g + 2 ≤ wA.heap.size := HNBA.out.le
                have hoA := HNBA.out.rows.own _ (List.mem_append_left _ (.tail _ (.tail _ (.tail _ (.head _)))))
                have HOA : Hid (wA.ownsRow (g + 2) 23 1 (.slice fa nf fc) nf (os.flatMap seC)) := Lib.hid (by rw [← hnf]; exact hoA)
                have ne3 : (Value.slice fa nf fc).ownBlock ≠ some (g + 1) := by intro e; have := (HOA.out.lt _ e).1; omega
                have NE3 := Lib.hid ne3
                clear hE hbA hrow hoA ne3
                refine wpAny_ready (rs := [12]) (by kernel_rfl) (by simp) ?_
                refine AllReady.cons rfl (fun K hK => ?_) AllReady.nil
                rw [if_pos (by rfl)]
                refine wp_app_el (C := seC) (v := .slice fa nf fc) (xs := os) (t := 25) (by decide) seC_len seC_one Try.underlying25 infoInts rfl _ _ _ rfl rfl HOA.out ⟨A7, FM.length, c7, FM⟩ rfl hgn (by unfold maxLen; omega) (by omega) hgA ?_
                intro gg cap wB hownB hgrow hat
                have HOB := Lib.hid hownB
                have HGB := Lib.hid hgrow
                have HAT := Lib.hid hat
                have HXB := Lib.hid ((hgrow.block (g + 1) (by omega) (fun e => NE3.out e.symm)).trans HNBA.out.box)
                clear hownB hgrow hat
                refine hK _ _ ?_
                clear hK K
                try simp only [Act.put, List.getElem_toArray, List.getElem_cons_succ, List.getElem_cons_zero, List.setIfInBounds_toArray, List.set_cons_zero, List.set_cons_succ]
                refine wpAny_take (i := 13) (v := .pointer (some ⟨g + 1, 3, none⟩)) rfl (by kernel_rfl) (by kernel_rfl) (by kernel_rfl) (fun _ _ _ h => h) (Or.inl ⟨by rfl, fun X => ?_⟩) ?_
                · go_simp
                try simp only [Act.put, List.getElem_toArray, List.getElem_cons_succ, List.getElem_cons_zero, List.setIfInBounds_toArray, List.set_cons_zero, List.set_cons_succ]
                refine wpAny_ready (rs := [14]) (by kernel_rfl) (by simp) ?_
                refine AllReady.cons rfl (fun K hK => ?_) AllReady.nil
                rw [if_pos (by rfl)]
                have cS := cell_of_row wB (g + 1) 3 _ _ _ HXB.out
                have fS := frozen_of_row wB (g + 1) 3 _ _ HXB.out
                go_simp
                clear cS fS
                refine hK _ _ ?_
                clear hK K
                try simp only [Act.put, List.getElem_toArray, List.getElem_cons_succ, List.getElem_cons_zero, List.setIfInBounds_toArray, List.set_cons_zero, List.set_cons_succ]
                refine wpAny_done (by kernel_rfl) ?_ _
                have HNB7 := Lib.hid (HNBA.out.put_f (Below.refl wA.heap.size wA) (by rw [hnf]; exact HGB.out) (v := .slice (some ⟨gg, 0, none⟩) (nf + 1) cap) (z := ⟨A7, FM.length, c7, FM⟩) (by rw [hnf]; exact HOB.out) (by rw [hnf]; exact row_new HAT.out (Nat.le_refl _) rfl) ⟨List.mem_append_right _ (.head _), rfl⟩)
                have HBW7 : Hid (Below (g + 1) W0 (wB.setCell ⟨g + 1, 3, none⟩ (.slice (some ⟨gg, 0, none⟩) (nf + 1) cap))) := Lib.hid ((below_grown (HBW6.out.trans (HBA.out.mono (by omega))) (by omega) HGB.out (fun q hq => by have := (own_ge HOA.out hq).1; omega)).setCell (p := ⟨g + 1, 3, none⟩) (Nat.le_refl _) _)
                obtain ⟨W7, hW7⟩ : ∃ W, W = wB.setCell ⟨g + 1, 3, none⟩ (.slice (some ⟨gg, 0, none⟩) (nf + 1) cap) := ⟨_, rfl⟩
                rw [← hW7]
                rw [← hW7] at HNB7 HBW7
                simp only at HNB7
                rw [HSUN.out] at HNB7
                clear hW7 e3 f3 hgn HOB HGB HAT HXB HOA HBA HNBA HNB6 HBW6 NE3 hgA hg6 HFO HMO
                go_wp2_with fail
                exact ⟨⟨j + 1, _, _, _, _, _, _, _, by omega, rfl, HNB7.out, List.mem_append_left _ HMS.out, List.mem_append_left _ HML.out, HBW7.out⟩, by simp only [intOf]; omega⟩
theorem fuse_any (w : World) (a : Option Addr) (n c : Nat) (ts : List TkN) (h : TkRow w a n ts) (hn : n ≤ 100) :
    Calls Try.prog 14 #[.slice a n c] w fun e w' => ∃ v, e = .returned (.agg (netA v)) ∧ NetAt w' v (fuseN (ts.map TkN.o)) ∧ Below w.heap.size w w' :=
  (fuse_cap w a n c ts h hn).mono fun e w' ⟨v, h1, h2, _, h3⟩ => ⟨v, h1, h2, h3⟩
end Go.Proofs.Ytmkgipoljbiocaa
