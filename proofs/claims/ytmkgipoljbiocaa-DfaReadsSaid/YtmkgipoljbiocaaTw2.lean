/- Several texts in one: Arr, ArrAt, Dfa, Classes, PairMap, Width, RSplit, Split, Alike, Of, ROf, Right, ArrEq, KRight. -/
import Derived.Test.YtmkgipoljbiocaaTw1
import Derived.Deep.WholeRow
import Derived.Deep.MidRow
import Derived.Laws.StructEq
import Derived.Laws.ResultCell
import Derived.Deep.RegionWith
import Derived.Deep.RegionHeld3
import Derived.Carry
import Derived.Deep.RegionLaw
import Derived.Stop.BytesEq
/- Arrays of 256 bytes, as functions. -/
namespace Go.Proofs.Ytmkgipoljbiocaa
open Go.RowKit Go.Sort

/-- The cells of an array of 256 bytes. -/
def arrC (C : Nat → Nat) : Array Value := Array.ofFn (n := 256) fun i => Value.int .u8 (C i.val)
theorem arrC_size (C : Nat → Nat) : (arrC C).size = 256 := by simp [arrC]
theorem arrC_at (C : Nat → Nat) (i : Nat) (h : i < 256) : (arrC C)[i]? = some (.int .u8 (C i)) := by
  unfold arrC
  rw [Array.getElem?_eq_getElem (by simpa using h)]
  simp
def upd (C : Nat → Nat) (i v : Nat) : Nat → Nat := fun x => if x = i then v else C x
theorem arrC_none (C : Nat → Nat) (i : Nat) (h : 256 ≤ i) : (arrC C)[i]? = none := Array.getElem?_eq_none (by rw [arrC_size]; exact h)
theorem arrC_set (C : Nat → Nat) (i v : Nat) (h : i < 256) : (arrC C).setIfInBounds i (.int .u8 v) = arrC (upd C i v) := by
  apply Array.ext_getElem?
  intro k
  rw [Array.getElem?_setIfInBounds]
  rcases Nat.lt_or_ge k 256 with hk | hk
  · rw [arrC_at C k hk, arrC_at (upd C i v) k hk]
    by_cases e : i = k
    · subst e
      rw [if_pos rfl, if_pos (by rw [arrC_size]; exact h)]
      rw [show upd C i v i = v from if_pos rfl]
    · rw [if_neg e, show upd C i v k = C k from if_neg fun h => e h.symm]
  · rw [if_neg (by omega), arrC_none _ k hk, arrC_none _ k hk]
theorem arrC_congr {C D : Nat → Nat} (h : ∀ i, i < 256 → C i = D i) : arrC C = arrC D := by
  apply Array.ext
  · simp [arrC]
  · intro k hk1 hk2
    have hk : k < 256 := by simpa [arrC_size] using hk2
    simp [arrC, h k hk]
theorem arrC_inj {C D : Nat → Nat} (h : arrC C = arrC D) (i : Nat) (hi : i < 256) : C i = D i := by
  have h1 := arrC_at C i hi
  rw [h, arrC_at D i hi] at h1
  simp at h1; omega
/-- Every value that is an array of 256 bytes is one. -/
theorem arrC_of (cs : Array Value) (h : cs.size = 256) (hb : ∀ i (hi : i < cs.size), ∃ n : Nat, cs[i] = .int .u8 n ∧ n < 256) : ∃ C : Nat → Nat, cs = arrC C ∧ ∀ i, C i < 256 := by
  refine ⟨fun i => if hi : i < cs.size then (hb i hi).choose else 0, ?_, ?_⟩
  · apply Array.ext
    · simp [arrC_size, h]
    · intro k hk1 hk2
      simp only [arrC, Array.getElem_ofFn, hk1, dif_pos]
      exact (hb k hk1).choose_spec.1
  · intro i
    by_cases hi : i < cs.size
    · simp only [hi, dif_pos]; exact (hb i hi).choose_spec.2
    · simp [hi]
def arrV (C : Nat → Nat) : Value := .agg (arrC C)
theorem arr_cells (w : World) (C : Nat → Nat) (t : TypeId) (i : Nat) (h : i < 256) : (w.alloc (.cells (arrC C) t)).cell? ⟨w.heap.size, i, none⟩ = some (.int .u8 (C i)) := by
  rw [World.cell?_alloc_new]; exact arrC_at C i h

/-! ### The operations on such arrays -/
theorem sizeArr (C : Nat → Nat) : (Try.prog.info? 30).map (·.size) = some (arrC C).size := by
  rw [arrC_size]; kernel_rfl
theorem infoU8 : (Try.prog.info? 5).map (fun i => (i.zero, i.size, i.bytes)) = some (some (.int .u8 0), 1, 1) := by kernel_rfl
theorem run_index_arr (C : Nat → Nat) (k : Nat) (w : World) (h : k < 256) : (Instr.index 30 (.agg (arrC C)) (.int .i64 k)).run Try.prog w = .ok (.int .u8 (C k)) w := by
  obtain ⟨i0, hi, _, hz1, _⟩ := info_parts infoU8
  have hs : (sizeOf 5).run Try.prog w = .ok 1 w := by simp [sizeOf, typeInfo, hi, hz1]
  have ha : (isAgg 5).run Try.prog w = .ok false w := by unfold isAgg; rw [Sem.run_bind, run_underlying Try.underlying5 w]; rfl
  have hb : (0 : Int) ≤ (k : Int) ∧ (k : Int) < (256 : Nat) := by omega
  unfold Instr.index
  simp only [asIntOf, Sem.run_bind, Sem.run_pure, Result.andThen_ok, run_underlying Try.underlying30 w]
  rw [if_pos hb]
  simp only [part, Sem.run_bind, hs, ha, Result.andThen_ok, Nat.mul_one, Int.toNat_natCast, arrC_at C k h]
  rfl
def zeroC : Nat → Nat := fun _ => 0
theorem run_alloc_arr (w : World) : (Instr.alloc 30 true (.tuple #[])).run Try.prog w = .ok (.pointer (some ⟨w.heap.size, 0, none⟩)) (w.alloc (.cells (arrC zeroC) 30)) := by kernel_rfl
theorem run_zero_arr (w : World) : (zeroValue 30).run Try.prog w = .ok (.agg (arrC zeroC)) w := by kernel_rfl
theorem run_build_arr (w : World) : (Instr.build 30 #[]).run Try.prog w = .ok (.agg (arrC zeroC)) w := by kernel_rfl
attribute [irreducible] arrC
end Go.Proofs.Ytmkgipoljbiocaa
namespace Go.Proofs.Ytmkgipoljbiocaa
open Go.RowKit Go.Sort

/-- Block g is an array of 256 bytes. -/
def ArrAt (w : World) (g : Nat) (C : Nat → Nat) : Prop := w.heap[g]? = some (.cells (arrC C) 30 (0, 0))
theorem ArrAt.lt {w : World} {g : Nat} {C : Nat → Nat} (h : ArrAt w g C) : g < w.heap.size := by
  rcases Nat.lt_or_ge g w.heap.size with hl | hl
  · exact hl
  · unfold ArrAt at h; rw [Array.getElem?_eq_none hl] at h; cases h
theorem ArrAt.cell {w : World} {g : Nat} {C : Nat → Nat} (h : ArrAt w g C) (k : Nat) (hk : k < 256) : w.cell? ⟨g, k, none⟩ = some (.int .u8 (C k)) := by
  rw [cell_of_row w g k _ _ _ h]; exact arrC_at C k hk
theorem ArrAt.frozen {w : World} {g : Nat} {C : Nat → Nat} (h : ArrAt w g C) (k : Nat) : w.frozen? ⟨g, k, none⟩ = false := frozen_of_row w g k _ _ h
theorem ArrAt.below {B g : Nat} {w w' : World} {C : Nat → Nat} (h : ArrAt w g C) (hb : Below B w w') (hg : g < B) : ArrAt w' g C := (hb.block g hg).trans h
theorem ArrAt.set_ {w : World} {g : Nat} {C : Nat → Nat} (h : ArrAt w g C) (k v : Nat) (hk : k < 256) : ArrAt (w.setCell ⟨g, k, none⟩ (.int .u8 v)) g (upd C k v) := by
  unfold ArrAt
  rw [heap_setCell_same w g k _ _ _ h, arrC_set C k v hk]
theorem ArrAt.far {w : World} {g : Nat} {C : Nat → Nat} (h : ArrAt w g C) {p : Addr} (hp : g ≠ p.block) (u : Value) : ArrAt (w.setCell p u) g C := (heap_setCell_other w p g u hp).trans h
theorem ArrAt.new (w : World) (C : Nat → Nat) : ArrAt (w.alloc (.cells (arrC C) 30)) w.heap.size C := heap_alloc_new w _
theorem ArrAt.alloc {w : World} {g : Nat} {C : Nat → Nat} (h : ArrAt w g C) (o : Obj) : ArrAt (w.alloc o) g C := (Below.heap_alloc w o g h.lt).trans h
theorem ArrAt.congr {w : World} {g : Nat} {C D : Nat → Nat} (h : ArrAt w g C) (hCD : ∀ i, i < 256 → C i = D i) : ArrAt w g D := by
  unfold ArrAt at *; rw [← arrC_congr hCD]; exact h
theorem ArrAt.row {w : World} {g : Nat} {C D : Nat → Nat} (h : ArrAt w g C) : ArrAt (w.setRow g (arrC D)) g D := setRow_heap w g _ _ _ _ h
theorem ArrAt.row_other {w : World} {g k : Nat} {C : Nat → Nat} (h : ArrAt w g C) (hk : g ≠ k) (cs : Array Value) : ArrAt (w.setRow k cs) g C := (setRow_other w k g cs hk).trans h
theorem below_setRow' {B g : Nat} {w0 w : World} (hb : Below B w0 w) (hBg : B ≤ g) (cs : Array Value) : Below B w0 (w.setRow g cs) :=
  hb.trans ⟨rfl, rfl, rfl, by simp, fun k hk => setRow_other w g k cs (by omega)⟩
theorem arrC_one (C : Nat → Nat) : (arrC C).all (·.oneCell') = true := by
  rw [Array.all_eq_true]
  intro i hi
  have h := arrC_at C i (by rw [arrC_size] at hi; exact hi)
  rw [Array.getElem?_eq_getElem hi] at h
  injection h with h
  rw [h]; rfl
/-- A block, whole. -/
def BlkAt (w : World) (g : Nat) (o : Obj) : Prop := w.heap[g]? = some o
theorem BlkAt.lt {w : World} {g : Nat} {o : Obj} (h : BlkAt w g o) : g < w.heap.size := by
  rcases Nat.lt_or_ge g w.heap.size with hl | hl
  · exact hl
  · unfold BlkAt at h; rw [Array.getElem?_eq_none hl] at h; cases h
theorem BlkAt.new (w : World) (o : Obj) (g : Nat) (hg : g = w.heap.size) : BlkAt (w.alloc o) g o := by subst hg; exact heap_alloc_new w o
theorem BlkAt.alloc {w : World} {g : Nat} {o : Obj} (h : BlkAt w g o) (o' : Obj) : BlkAt (w.alloc o') g o := (Below.heap_alloc w o' g h.lt).trans h
theorem BlkAt.below {B g : Nat} {w w' : World} {o : Obj} (h : BlkAt w g o) (hb : Below B w w') (hg : g < B) : BlkAt w' g o := (hb.block g hg).trans h
/-- A set in a block of its own. -/
def setO (S : Nat → Bool) : Obj := .cells #[.int .u64 (wd S 0), .int .u64 (wd S 1), .int .u64 (wd S 2), .int .u64 (wd S 3)] 74 (0, 0)
theorem setO_cell {w : World} {g : Nat} {S : Nat → Bool} (h : BlkAt w g (setO S)) (i : Nat) (hi : i < 4) : w.cell? ⟨g, i, none⟩ = some (.int .u64 (wd S i)) := by
  rw [cell_of_row w g i _ _ _ h]; exact words_at S i hi
/-- An array stored whole into such a block: the world behind it by what holds of it. -/
theorem wpList_store_arr {ops : Array Oper} {rest : List Oper} {o : Oper} {a : Act} {w : World} {Q : Exit → Act → World → Prop} (hgd : o.guard = none) (x y : Operand) (ho : o.op = .store 30 x y)
    (g : Nat) (C D : Nat → Nat) (hx : a.eval x = .pointer (some ⟨g, 0, none⟩)) (hy : a.eval y = .agg (arrC D)) (hg : ArrAt w g C)
    (h : ∀ w', ArrAt w' g D → (∀ B, B ≤ g → Below B w w') → (∀ k, k ≠ g → w'.heap[k]? = w.heap[k]?) → w'.heap.size = w.heap.size → wpList Try.prog ops Q rest (a.put o.dst undef) w') : wpList Try.prog ops Q (o :: rest) a w := by
  refine wpList_store_row hgd 30 x y ho g (arrC D) hx hy 30 (arrC C) hg (sizeArr D) (by rw [arrC_size, arrC_size]) (arrC_one D) ?_
  exact h _ hg.row (fun B hB => below_setRow' (Below.refl _ _) hB _) (fun k hk => setRow_other w g k _ hk) (by simp)
theorem wpList_load_arr {ops : Array Oper} {rest : List Oper} {o : Oper} {a : Act} {w : World} {Q : Exit → Act → World → Prop} (hgd : o.guard = none) (x : Operand) (ho : o.op = .load 30 x)
    (g : Nat) (C : Nat → Nat) (hx : a.eval x = .pointer (some ⟨g, 0, none⟩)) (hg : ArrAt w g C)
    (h : wpList Try.prog ops Q rest (a.put o.dst (.agg (arrC C))) w) : wpList Try.prog ops Q (o :: rest) a w :=
  wpList_load_row hgd 30 x ho g hx 30 (arrC C) (0, 0) _ hg Try.underlying30 rfl (sizeArr C) h
theorem run_loadVar_arr (w : World) (g : Nat) (C : Nat → Nat) (h : ArrAt w g C) : (loadVar 30 ⟨g, 0, none⟩).run Try.prog w = .ok (.agg (arrC C)) w :=
  run_loadVar_row w g 30 30 (arrC C) (0, 0) _ h Try.underlying30 rfl (sizeArr C)
theorem run_storeVar_arr (w : World) (g : Nat) (C D : Nat → Nat) (h : ArrAt w g C) : (storeVar 30 ⟨g, 0, none⟩ (.agg (arrC D))).run Try.prog w = .ok () (w.setRow g (arrC D)) :=
  run_storeVar_row w g 30 30 (arrC C) (arrC D) h (sizeArr D) (by rw [arrC_size, arrC_size]) (arrC_one D)
/-- Two results: an array in its block, a number. -/
theorem results_arr_tmp {fn : Func} {p t : Tmp} (h : fn.results = #[.cell p 30, .tmp t]) (tmps : Array Value) (w : World) (g : Nat) (C : Nat → Nat) (v : Value)
    (hp : tmps.getD p undef = .pointer (some ⟨g, 0, none⟩)) (hv : tmps.getD t undef = v) (hg : ArrAt w g C) :
    (results fn tmps).run Try.prog w = .ok (.tuple #[.agg (arrC C), v]) w := by
  have hp' : tmps[p]?.getD undef = .pointer (some ⟨g, 0, none⟩) := by simpa using hp
  have hv' : tmps[t]?.getD undef = v := by simpa using hv
  simp [results, h, hp', hv', asAddr, run_loadVar_arr w g C hg]
theorem step_load_arr {ops : Array Oper} {o : Oper} {a : Act} {w : World} {K : Act → World → Prop} {Q : Exit → Act → World → Prop} {E : Prop} (hgd : o.guard = none) (x : Operand) (ho : o.op = .load 30 x)
    (g : Nat) (C : Nat → Nat) (hx : a.eval x = .pointer (some ⟨g, 0, none⟩)) (hg : ArrAt w g C) (h : K (a.put o.dst (.agg (arrC C))) w) :
    if Region.wanted o (yielded ops a.tmps) = true then Oper.wp Try.prog o a w K Q else E := by
  have hw : Region.wanted o (yielded ops a.tmps) = true := by simp [Region.wanted, hgd]
  rw [if_pos hw]
  exact wp_load_row 30 x ho g hx 30 (arrC C) (0, 0) _ hg Try.underlying30 rfl (sizeArr C) h
theorem step_store_arr {ops : Array Oper} {o : Oper} {a : Act} {w : World} {K : Act → World → Prop} {Q : Exit → Act → World → Prop} {E : Prop} (hgd : o.guard = none) (x y : Operand) (ho : o.op = .store 30 x y)
    (g : Nat) (C D : Nat → Nat) (hx : a.eval x = .pointer (some ⟨g, 0, none⟩)) (hy : a.eval y = .agg (arrC D)) (hg : ArrAt w g C) (h : K (a.put o.dst undef) (w.setRow g (arrC D))) :
    if Region.wanted o (yielded ops a.tmps) = true then Oper.wp Try.prog o a w K Q else E := by
  have hw : Region.wanted o (yielded ops a.tmps) = true := by simp [Region.wanted, hgd]
  rw [if_pos hw]
  exact wp_store_row 30 x y ho g (arrC D) hx hy 30 (arrC C) hg (sizeArr D) (by rw [arrC_size, arrC_size]) (arrC_one D) h
/-! The same two operations behind names of their own, so that a walk does not lay them out cell by cell (inside a region that draws its order). -/
def loadA (a : Addr) : Sem Value := loadVar 30 a
def storeA (a : Addr) (v : Value) : Sem Unit := storeVar 30 a v
theorem loadA_eq (a : Addr) : loadVar 30 a = loadA a := rfl
theorem storeA_eq (a : Addr) (v : Value) : storeVar 30 a v = storeA a v := rfl
theorem run_loadA (w : World) (g : Nat) (C : Nat → Nat) (h : ArrAt w g C) : (loadA ⟨g, 0, none⟩).run Try.prog w = .ok (.agg (arrC C)) w := run_loadVar_arr w g C h
theorem run_storeA (w : World) (g : Nat) (C D : Nat → Nat) (h : ArrAt w g C) : (storeA ⟨g, 0, none⟩ (.agg (arrC D))).run Try.prog w = .ok () (w.setRow g (arrC D)) := run_storeVar_arr w g C D h
end Go.Proofs.Ytmkgipoljbiocaa
/- A machine: its cells, and how it is read and written whole and in part. -/
namespace Go.Proofs.Ytmkgipoljbiocaa
open Go.RowKit
set_option linter.unusedVariables false

/-- A machine's classes, width, and where its lists lie. -/
structure Df where
  cl : Nat → Nat
  wd : Int
  na : Option Addr
  nl : Nat
  nc : Nat
  la : Option Addr
  ll : Nat
  lc : Nat
def dfT (D : Df) : Array Value := #[.int .i64 D.wd, .slice D.na D.nl D.nc, .slice D.la D.ll D.lc]
def dfA (D : Df) : Array Value := arrC D.cl ++ dfT D
theorem dfA_size (D : Df) : (dfA D).size = 259 := by unfold dfA; rw [Array.size_append, arrC_size]; rfl
theorem dfA_cl (D : Df) (i : Nat) (h : i < 256) : (dfA D)[i]? = some (.int .u8 (D.cl i)) := by
  unfold dfA; rw [Array.getElem?_append_left (by rw [arrC_size]; exact h)]; exact arrC_at _ i h
theorem dfA_t (D : Df) (i : Nat) : (dfA D)[256 + i]? = (dfT D)[i]? := by
  unfold dfA; rw [Array.getElem?_append_right (by rw [arrC_size]; omega), arrC_size, Nat.add_sub_cancel_left]
set_option maxRecDepth 100000 in
theorem dfA_wd (D : Df) : (dfA D)[256]? = some (.int .i64 D.wd) := dfA_t D 0
set_option maxRecDepth 100000 in
theorem dfA_nx (D : Df) : (dfA D)[257]? = some (.slice D.na D.nl D.nc) := dfA_t D 1
set_option maxRecDepth 100000 in
theorem dfA_lb (D : Df) : (dfA D)[258]? = some (.slice D.la D.ll D.lc) := dfA_t D 2
theorem dfA_one (D : Df) : (dfA D).all (·.oneCell') = true := by
  unfold dfA
  rw [Array.all_append, arrC_one]
  simp [dfT, Value.oneCell']
def zeroD : Df := ⟨zeroC, 0, none, 0, 0, none, 0, 0⟩
set_option maxRecDepth 100000 in
theorem run_zero_dfa (w : World) : (zeroValue 32).run Try.prog w = .ok (.agg (dfA zeroD)) w := by kernel_rfl
set_option maxRecDepth 100000 in
theorem run_alloc_dfa (w : World) : (Instr.alloc 32 true (.tuple #[])).run Try.prog w = .ok (.pointer (some ⟨w.heap.size, 0, none⟩)) (w.alloc (.cells (dfA zeroD) 32)) := by kernel_rfl
set_option maxRecDepth 100000 in
theorem run_build_dfa (w : World) : (Instr.build 32 #[]).run Try.prog w = .ok (.agg (dfA zeroD)) w := by kernel_rfl
theorem sizeDfa (D : Df) : (Try.prog.info? 32).map (·.size) = some (dfA D).size := by rw [dfA_size]; kernel_rfl
attribute [irreducible] dfA
theorem dfA_ext {D : Df} {A : Array Value} (hs : A.size = 259) (h1 : ∀ i, i < 256 → A[i]? = some (.int .u8 (D.cl i))) (h2 : A[256]? = some (.int .i64 D.wd)) (h3 : A[257]? = some (.slice D.na D.nl D.nc)) (h4 : A[258]? = some (.slice D.la D.ll D.lc)) : A = dfA D := by
  apply Array.ext'
  apply List.ext_getElem?
  intro i
  rw [Array.getElem?_toList, Array.getElem?_toList]
  by_cases h : i < 256
  · rw [h1 i h, dfA_cl D i h]
  · by_cases h5 : i < 259
    · have : i = 256 ∨ i = 257 ∨ i = 258 := by omega
      rcases this with rfl | rfl | rfl
      · rw [h2, dfA_wd]
      · rw [h3, dfA_nx]
      · rw [h4, dfA_lb]
    · rw [Array.getElem?_eq_none (by omega), Array.getElem?_eq_none (by rw [dfA_size]; omega)]
/-- A machine in a block of its own. -/
def DfaAt (w : World) (g : Nat) (D : Df) : Prop := w.heap[g]? = some (.cells (dfA D) 32 (0, 0))
theorem DfaAt.lt {w : World} {g : Nat} {D : Df} (h : DfaAt w g D) : g < w.heap.size := by
  rcases Nat.lt_or_ge g w.heap.size with hl | hl
  · exact hl
  · unfold DfaAt at h; rw [Array.getElem?_eq_none hl] at h; cases h
theorem DfaAt.cl {w : World} {g : Nat} {D : Df} (h : DfaAt w g D) (i : Nat) (hi : i < 256) : w.cell? ⟨g, i, none⟩ = some (.int .u8 (D.cl i)) := by rw [cell_of_row w g i _ _ _ h]; exact dfA_cl D i hi
theorem DfaAt.wd {w : World} {g : Nat} {D : Df} (h : DfaAt w g D) : w.cell? ⟨g, 256, none⟩ = some (.int .i64 D.wd) := by rw [cell_of_row w g _ _ _ _ h]; exact dfA_wd D
theorem DfaAt.nx {w : World} {g : Nat} {D : Df} (h : DfaAt w g D) : w.cell? ⟨g, 257, none⟩ = some (.slice D.na D.nl D.nc) := by rw [cell_of_row w g _ _ _ _ h]; exact dfA_nx D
theorem DfaAt.lb {w : World} {g : Nat} {D : Df} (h : DfaAt w g D) : w.cell? ⟨g, 258, none⟩ = some (.slice D.la D.ll D.lc) := by rw [cell_of_row w g _ _ _ _ h]; exact dfA_lb D
theorem DfaAt.frozen {w : World} {g : Nat} {D : Df} (h : DfaAt w g D) (k : Nat) : w.frozen? ⟨g, k, none⟩ = false := frozen_of_row w g k _ _ h
theorem DfaAt.below {B g : Nat} {w w' : World} {D : Df} (h : DfaAt w g D) (hb : Below B w w') (hg : g < B) : DfaAt w' g D := (hb.block g hg).trans h
theorem DfaAt.new (w : World) (D : Df) (g : Nat) (hg : w.heap.size = g) : DfaAt (w.alloc (.cells (dfA D) 32)) g D := by subst hg; exact heap_alloc_new w _
theorem DfaAt.alloc {w : World} {g : Nat} {D : Df} (h : DfaAt w g D) (o : Obj) : DfaAt (w.alloc o) g D := (Below.heap_alloc w o g h.lt).trans h
theorem DfaAt.set_ {w : World} {g : Nat} {D D' : Df} (h : DfaAt w g D) (k : Nat) (u : Value) (e : (dfA D).setIfInBounds k u = dfA D') : DfaAt (w.setCell ⟨g, k, none⟩ u) g D' := by
  have := heap_setCell_same w g k _ _ u h
  rw [e] at this; exact this
theorem set_ne {A : Array Value} {i j : Nat} {u : Value} (h : j ≠ i) : (A.setIfInBounds i u)[j]? = A[j]? := Array.getElem?_setIfInBounds_ne (Ne.symm h)
theorem set_eq {A : Array Value} {i : Nat} {u : Value} (h : i < A.size) : (A.setIfInBounds i u)[i]? = some u := by rw [Array.getElem?_setIfInBounds_self]; simp [h]
theorem dfA_setwd (D : Df) (z : Int) : (dfA D).setIfInBounds 256 (.int .i64 z) = dfA { D with wd := z } :=
  dfA_ext (by simp [dfA_size]) (fun i hi => by rw [set_ne (by omega)]; exact dfA_cl D i hi) (set_eq (by rw [dfA_size]; omega)) (by rw [set_ne (by omega)]; exact dfA_nx D) (by rw [set_ne (by omega)]; exact dfA_lb D)
theorem dfA_setnx (D : Df) (a : Option Addr) (n c : Nat) : (dfA D).setIfInBounds 257 (.slice a n c) = dfA { D with na := a, nl := n, nc := c } :=
  dfA_ext (by simp [dfA_size]) (fun i hi => by rw [set_ne (by omega)]; exact dfA_cl D i hi) (by rw [set_ne (by omega)]; exact dfA_wd D) (set_eq (by rw [dfA_size]; omega)) (by rw [set_ne (by omega)]; exact dfA_lb D)
theorem dfA_setlb (D : Df) (a : Option Addr) (n c : Nat) : (dfA D).setIfInBounds 258 (.slice a n c) = dfA { D with la := a, ll := n, lc := c } :=
  dfA_ext (by simp [dfA_size]) (fun i hi => by rw [set_ne (by omega)]; exact dfA_cl D i hi) (by rw [set_ne (by omega)]; exact dfA_wd D) (by rw [set_ne (by omega)]; exact dfA_nx D) (set_eq (by rw [dfA_size]; omega))
/-! Whole, and the classes alone: loads and stores. -/
theorem cl_range {w : World} {g : Nat} {D : Df} (h : DfaAt w g D) : w.rangeAt g 0 (arrC D.cl).toList := fun j v hv => by
  have hj : j < 256 := by have := (List.getElem?_eq_some_iff.1 hv).1; rw [Array.length_toList, arrC_size] at this; exact this
  rw [Array.getElem?_toList, arrC_at _ j hj] at hv
  rw [Nat.zero_add, h.cl j hj, hv]
theorem cl_there {w : World} {g : Nat} {D : Df} (h : DfaAt w g D) : w.there g 0 256 := fun j hj => by
  rw [Nat.zero_add, h.cl j hj]; exact ⟨rfl, h.frozen j⟩
theorem run_loadVar_dfa (w : World) (g : Nat) (D : Df) (h : DfaAt w g D) : (loadVar 32 ⟨g, 0, none⟩).run Try.prog w = .ok (.agg (dfA D)) w :=
  run_loadVar_row w g 32 32 (dfA D) (0, 0) _ h Try.underlying32 rfl (sizeDfa D)
theorem run_loadVar_dcl (w : World) (g : Nat) (D : Df) (h : DfaAt w g D) : (loadVar 30 ⟨g, 0, none⟩).run Try.prog w = .ok (.agg (arrC D.cl)) w := by
  have := run_loadVar_mid (P := Try.prog) w g 0 30 (arrC D.cl).toList _ (cl_range h) Try.underlying30 rfl (by rw [Array.length_toList]; exact sizeArr _)
  simpa using this
def loadD (a : Addr) : Sem Value := loadVar 32 a
theorem loadD_eq (a : Addr) : loadVar 32 a = loadD a := rfl
theorem run_loadD (w : World) (g : Nat) (D : Df) (h : DfaAt w g D) : (loadD ⟨g, 0, none⟩).run Try.prog w = .ok (.agg (dfA D)) w := run_loadVar_dfa w g D h
theorem run_loadAD (w : World) (g : Nat) (D : Df) (h : DfaAt w g D) : (loadA ⟨g, 0, none⟩).run Try.prog w = .ok (.agg (arrC D.cl)) w := run_loadVar_dcl w g D h
theorem wpList_load_dfa {ops : Array Oper} {rest : List Oper} {o : Oper} {a : Act} {w : World} {Q : Exit → Act → World → Prop} (hgd : o.guard = none) (x : Operand) (ho : o.op = .load 32 x)
    (g : Nat) (D : Df) (hx : a.eval x = .pointer (some ⟨g, 0, none⟩)) (hg : DfaAt w g D)
    (h : wpList Try.prog ops Q rest (a.put o.dst (.agg (dfA D))) w) : wpList Try.prog ops Q (o :: rest) a w :=
  wpList_load_row hgd 32 x ho g hx 32 (dfA D) (0, 0) _ hg Try.underlying32 rfl (sizeDfa D) h
theorem wpList_load_dcl {ops : Array Oper} {rest : List Oper} {o : Oper} {a : Act} {w : World} {Q : Exit → Act → World → Prop} (hgd : o.guard = none) (x : Operand) (ho : o.op = .load 30 x)
    (g : Nat) (D : Df) (hx : a.eval x = .pointer (some ⟨g, 0, none⟩)) (hg : DfaAt w g D)
    (h : wpList Try.prog ops Q rest (a.put o.dst (.agg (arrC D.cl))) w) : wpList Try.prog ops Q (o :: rest) a w :=
  wpList_load_mid hgd 30 x ho g 0 hx (arrC D.cl).toList _ (cl_range hg) Try.underlying30 rfl (by rw [Array.length_toList]; exact sizeArr _) (by simpa using h)
theorem wpList_store_dfa {ops : Array Oper} {rest : List Oper} {o : Oper} {a : Act} {w : World} {Q : Exit → Act → World → Prop} (hgd : o.guard = none) (x y : Operand) (ho : o.op = .store 32 x y)
    (g : Nat) (D D' : Df) (hx : a.eval x = .pointer (some ⟨g, 0, none⟩)) (hy : a.eval y = .agg (dfA D')) (hg : DfaAt w g D)
    (h : ∀ w', DfaAt w' g D' → (∀ B, B ≤ g → Below B w w') → (∀ k, k ≠ g → w'.heap[k]? = w.heap[k]?) → w'.heap.size = w.heap.size → wpList Try.prog ops Q rest (a.put o.dst undef) w') : wpList Try.prog ops Q (o :: rest) a w := by
  refine wpList_store_row hgd 32 x y ho g (dfA D') hx hy 32 (dfA D) hg (sizeDfa D') (by rw [dfA_size, dfA_size]) (dfA_one D') ?_
  exact h _ (setRow_heap w g _ _ _ _ hg) (fun B hB => below_setRow' (Below.refl _ _) hB _) (fun k hk => setRow_other w g k _ hk) (by simp)
theorem setCells_heap (w : World) (g : Nat) : ∀ (cs : List Value) (o : Nat) (A : Array Value) (t : TypeId), w.heap[g]? = some (.cells A t (0, 0)) → ∃ A' : Array Value, (w.setCells g o cs).heap[g]? = some (.cells A' t (0, 0)) ∧ A'.size = A.size ∧
    (∀ j, j < o → A'[j]? = A[j]?) ∧ (∀ j v, cs[j]? = some v → o + j < A.size → A'[o + j]? = some v) ∧ (∀ j, o + cs.length ≤ j → A'[j]? = A[j]?) ∧ (∀ k, k ≠ g → (w.setCells g o cs).heap[k]? = w.heap[k]?) ∧ (w.setCells g o cs).heap.size = w.heap.size ∧ ∀ B, B ≤ g → Below B w (w.setCells g o cs) := by
  intro cs
  induction cs generalizing w with
  | nil => intro o A t h; exact ⟨A, h, rfl, fun _ _ => rfl, fun j v hv => by simp at hv, fun _ _ => rfl, fun _ _ => rfl, rfl, fun B _ => Below.refl _ _⟩
  | cons u cs ih =>
    intro o A t h
    have h1 := heap_setCell_same w g o A t u h
    obtain ⟨A', e1, e2, e3, e4, e5, e6, e7, e8⟩ := ih (w.setCell ⟨g, o, none⟩ u) (o + 1) (A.setIfInBounds o u) t h1
    refine ⟨A', e1, by rw [e2]; simp, fun j hj => ?_, fun j v hv hlt => ?_, fun j hj => ?_, fun k hk => ?_, ?_, fun B hB => ?_⟩
    · rw [e3 j (by omega), set_ne (by omega)]
    · cases j with
      | zero =>
        simp only [List.getElem?_cons_zero, Option.some.injEq] at hv
        subst hv
        rw [Nat.add_zero] at hlt ⊢
        rw [e3 o (by omega), set_eq hlt]
      | succ j =>
        have := e4 j v (by simpa using hv) (by simp; omega)
        rwa [show o + 1 + j = o + (j + 1) by omega] at this
    · rw [List.length_cons] at hj
      rw [e5 j (by omega), set_ne (by omega)]
    · exact (e6 k hk).trans (heap_setCell_other w ⟨g, o, none⟩ k u hk)
    · exact e7.trans (by simp)
    · exact ((Below.refl B w).setCell (p := ⟨g, o, none⟩) hB u).trans (e8 B hB)
theorem wpList_store_dcl {ops : Array Oper} {rest : List Oper} {o : Oper} {a : Act} {w : World} {Q : Exit → Act → World → Prop} (hgd : o.guard = none) (x y : Operand) (ho : o.op = .store 30 x y)
    (g : Nat) (D : Df) (C : Nat → Nat) (hx : a.eval x = .pointer (some ⟨g, 0, none⟩)) (hy : a.eval y = .agg (arrC C)) (hg : DfaAt w g D)
    (h : ∀ w', DfaAt w' g { D with cl := C } → (∀ B, B ≤ g → Below B w w') → (∀ k, k ≠ g → w'.heap[k]? = w.heap[k]?) → w'.heap.size = w.heap.size → wpList Try.prog ops Q rest (a.put o.dst undef) w') : wpList Try.prog ops Q (o :: rest) a w := by
  refine wpList_store_mid hgd 30 x y ho g 0 (arrC C) hx hy (by rw [arrC_size]; exact cl_there hg) (sizeArr C) (arrC_one C) ?_
  obtain ⟨A', e1, e2, e3, e4, e5, e6, e7, e8⟩ := setCells_heap w g (arrC C).toList 0 _ _ hg
  have hl : (arrC C).toList.length = 256 := by rw [Array.length_toList, arrC_size]
  refine h _ ?_ e8 e6 e7
  unfold DfaAt
  rw [e1]
  congr 2
  refine dfA_ext (by rw [e2, dfA_size]) (fun i hi => ?_) ?_ ?_ ?_
  · have := e4 i (.int .u8 (C i)) (by rw [Array.getElem?_toList]; exact arrC_at C i hi) (by rw [dfA_size]; omega)
    rwa [Nat.zero_add] at this
  · rw [e5 _ (by rw [hl]; omega)]; exact dfA_wd D
  · rw [e5 _ (by rw [hl]; omega)]; exact dfA_nx D
  · rw [e5 _ (by rw [hl]; omega)]; exact dfA_lb D
/-- A machine, whatever of it lies where. -/
structure MS where
  cl : Nat → Nat
  wd : Int
  nx : List (List Int)
  lb : List Int
structure MAt (w : World) (D : Df) (M : MS) : Prop where
  cl : D.cl = M.cl
  wd : D.wd = M.wd
  nx : NRow intC 1 w D.na D.nl M.nx
  lb : CRow intC 1 w D.la D.ll M.lb
theorem MAt.below {w w' : World} {D : Df} {M : MS} (h : MAt w D M) (hb : Below w.heap.size w w') : MAt w' D M := ⟨h.cl, h.wd, h.nx.below hb, h.lb.below hb⟩
end Go.Proofs.Ytmkgipoljbiocaa
/- Numbering by first occurrence: plain lemmas. -/
namespace Go.Proofs.Ytmkgipoljbiocaa

section
variable {α : Type} [DecidableEq α]

/-- The first place from a on, at most f further, where p is as at b. -/
def scan (p : Nat → α) (b : Nat) : Nat → Nat → Nat
  | 0, a => a
  | f + 1, a => if p a = p b then a else scan p b f (a + 1)
theorem scan_spec (p : Nat → α) (b : Nat) : ∀ (f a : Nat), a + f = b → (a ≤ scan p b f a ∧ scan p b f a ≤ b ∧ p (scan p b f a) = p b ∧ ∀ x, a ≤ x → x < scan p b f a → p x ≠ p b)
  | 0, a, h => by
    have : a = b := by omega
    subst this
    simp only [scan]
    refine ⟨Nat.le_refl _, Nat.le_refl _, trivial, fun x h1 h2 => absurd h2 (by omega)⟩
  | f + 1, a, h => by
    simp only [scan]
    split
    · rename_i he
      exact ⟨Nat.le_refl _, by omega, he, fun x h1 h2 => absurd h2 (by omega)⟩
    · rename_i he
      obtain ⟨h1, h2, h3, h4⟩ := scan_spec p b f (a + 1) (by omega)
      refine ⟨by omega, h2, h3, fun x hx hlt => ?_⟩
      rcases Nat.lt_or_ge a x with hc | hc
      · exact h4 x (by omega) hlt
      · have : x = a := by omega
        subst this; exact he
/-- The first place where p is as at b. -/
def fi (p : Nat → α) (b : Nat) : Nat := scan p b b 0
theorem fi_le (p : Nat → α) (b : Nat) : fi p b ≤ b := (scan_spec p b b 0 (by omega)).2.1
theorem fi_eq (p : Nat → α) (b : Nat) : p (fi p b) = p b := (scan_spec p b b 0 (by omega)).2.2.1
theorem fi_first (p : Nat → α) (b x : Nat) (h : x < fi p b) : p x ≠ p b := (scan_spec p b b 0 (by omega)).2.2.2 x (by omega) h
theorem fi_unique (p : Nat → α) {a b : Nat} (h1 : p a = p b) (h2 : ∀ x, x < a → p x ≠ p b) : fi p b = a := by
  rcases Nat.lt_trichotomy (fi p b) a with h | h | h
  · exact absurd (fi_eq p b) (h2 _ h)
  · exact h
  · exact absurd h1 (fi_first p b a h)
theorem fi_same (p : Nat → α) {a b : Nat} (h : p a = p b) : fi p a = fi p b :=
  (fi_unique p ((fi_eq p b).trans h.symm) fun x hx e => fi_first p b x hx (e.trans h))

/-- Is b the first of its kind? -/
def isNew (p : Nat → α) (b : Nat) : Bool := fi p b == b
theorem isNew_iff (p : Nat → α) (b : Nat) : isNew p b = true ↔ ∀ x, x < b → p x ≠ p b := by
  unfold isNew
  rw [beq_iff_eq]
  exact ⟨fun h x hx => fi_first p b x (by omega), fun h => fi_unique p rfl h⟩
theorem isNew_fi (p : Nat → α) (b : Nat) : isNew p (fi p b) = true := by
  rw [isNew_iff]
  intro x hx e
  exact fi_first p b x hx (e.trans (fi_eq p b))
/-- How many are the first of their kind, below n. -/
def cnt (p : Nat → α) : Nat → Nat
  | 0 => 0
  | n + 1 => cnt p n + (if isNew p n then 1 else 0)
theorem cnt_le (p : Nat → α) : ∀ n, cnt p n ≤ n
  | 0 => Nat.le_refl _
  | n + 1 => by have := cnt_le p n; simp only [cnt]; split <;> omega
theorem cnt_mono (p : Nat → α) (n : Nat) : ∀ d, cnt p n ≤ cnt p (n + d)
  | 0 => Nat.le_refl _
  | d + 1 => by have := cnt_mono p n d; rw [← Nat.add_assoc]; simp only [cnt]; omega
theorem cnt_mono' (p : Nat → α) {m n : Nat} (h : m ≤ n) : cnt p m ≤ cnt p n := by
  have := cnt_mono p m (n - m); rwa [show m + (n - m) = n by omega] at this
theorem cnt_lt (p : Nat → α) {a n : Nat} (h : a < n) (hn : isNew p a = true) : cnt p a < cnt p n := by
  have h1 : cnt p (a + 1) = cnt p a + 1 := by simp [cnt, hn]
  have := cnt_mono' p (show a + 1 ≤ n by omega)
  omega
theorem cnt_surj (p : Nat → α) : ∀ n c, c < cnt p n → ∃ a, a < n ∧ isNew p a = true ∧ cnt p a = c
  | 0, c, h => by simp [cnt] at h
  | n + 1, c, h => by
    rcases Nat.lt_or_ge c (cnt p n) with hc | hc
    · obtain ⟨a, h1, h2, h3⟩ := cnt_surj p n c hc
      exact ⟨a, by omega, h2, h3⟩
    · simp only [cnt] at h
      by_cases hn : isNew p n = true
      · simp [hn] at h
        exact ⟨n, by omega, hn, by omega⟩
      · simp [hn] at h; omega
theorem cnt_inj (p : Nat → α) {a b : Nat} (ha : isNew p a = true) (hb : isNew p b = true) (h : cnt p a = cnt p b) : a = b := by
  rcases Nat.lt_trichotomy a b with hl | hl | hl
  · have := cnt_lt p hl ha; omega
  · exact hl
  · have := cnt_lt p hl hb; omega
/-- The number of b's kind. -/
def cls (p : Nat → α) (b : Nat) : Nat := cnt p (fi p b)
theorem cls_le (p : Nat → α) (b : Nat) : cls p b ≤ cnt p b := cnt_mono' p (fi_le p b)
theorem cls_lt (p : Nat → α) {b n : Nat} (h : b < n) : cls p b < cnt p n := cnt_lt p (by have := fi_le p b; omega) (isNew_fi p b)
theorem cls_le_self (p : Nat → α) (b : Nat) : cls p b ≤ b := by have := cls_le p b; have := cnt_le p b; omega
theorem cls_new (p : Nat → α) {b : Nat} (h : isNew p b = true) : cls p b = cnt p b := by unfold cls; rw [beq_iff_eq.1 h]
theorem cls_eq_iff (p : Nat → α) (a b : Nat) : cls p a = cls p b ↔ p a = p b := by
  constructor
  · intro h
    have := cnt_inj p (isNew_fi p a) (isNew_fi p b) h
    rw [← fi_eq p a, ← fi_eq p b, this]
  · intro h; unfold cls; rw [fi_same p h]
theorem cls_surj (p : Nat → α) (n c : Nat) (h : c < cnt p n) : ∃ a, a < n ∧ isNew p a = true ∧ cls p a = c := by
  obtain ⟨a, h1, h2, h3⟩ := cnt_surj p n c h
  exact ⟨a, h1, h2, by rw [cls_new p h2, h3]⟩
end

section
variable {α β : Type} [DecidableEq α] [DecidableEq β]
theorem fi_congr {p : Nat → α} {q : Nat → β} {N : Nat} (h : ∀ a b, a < N → b < N → (p a = p b ↔ q a = q b)) {b : Nat} (hb : b < N) : fi p b = fi q b := by
  have h1 := fi_le q b
  refine fi_unique p ((h _ _ (by omega) hb).2 (fi_eq q b)) fun x hx e => ?_
  exact fi_first q b x hx ((h _ _ (by omega) hb).1 e)
theorem cnt_congr {p : Nat → α} {q : Nat → β} {N : Nat} (h : ∀ a b, a < N → b < N → (p a = p b ↔ q a = q b)) : ∀ n, n ≤ N → cnt p n = cnt q n
  | 0, _ => rfl
  | n + 1, hn => by
    have e : isNew p n = isNew q n := by unfold isNew; rw [fi_congr h (show n < N by omega)]
    simp only [cnt, e]
    rw [cnt_congr h n (by omega)]
theorem cls_congr {p : Nat → α} {q : Nat → β} {N : Nat} (h : ∀ a b, a < N → b < N → (p a = p b ↔ q a = q b)) {b : Nat} (hb : b < N) : cls p b = cls q b := by
  unfold cls
  rw [fi_congr h hb, cnt_congr h _ (by have := fi_le q b; omega)]
end

/-- What is different and below N is at most N. -/
theorem nodup_le : ∀ (N : Nat) (l : List Nat), l.Nodup → (∀ x ∈ l, x < N) → l.length ≤ N
  | 0, l, _, h => by
    cases l with
    | nil => simp
    | cons x t => exact absurd (h x (by simp)) (by omega)
  | N + 1, l, hn, h => by
    have h1 := nodup_le N (l.filter (· ≠ N)) (hn.filter _) (by
      intro x hx
      have hx' := List.mem_filter.1 hx
      have := h x hx'.1
      have hne : x ≠ N := by simpa using hx'.2
      omega)
    have h2 : (l.filter (· = N)).length ≤ 1 := by
      have hd := hn.filter (· = N)
      have hall : ∀ x ∈ l.filter (fun x => decide (x = N)), x = N := fun x hx => by simpa using (List.mem_filter.1 hx).2
      generalize l.filter (fun x => decide (x = N)) = m at hd hall
      match m, hd, hall with
      | [], _, _ => simp
      | [_], _, _ => simp
      | x :: y :: t, hd, hall =>
        have ex := hall x (by simp)
        have ey := hall y (by simp)
        rw [ex, ey] at hd
        simp at hd
    have h3 : ∀ l : List Nat, l.length = (l.filter (· ≠ N)).length + (l.filter (· = N)).length := by
      intro l
      induction l with
      | nil => rfl
      | cons x t ih =>
        by_cases hx : x = N
        · simp [hx, ih]; omega
        · simp [hx, ih]; omega
    have := h3 l
    omega
/-- If there is a one-to-one map of the first m numbers into those below n, then m ≤ n. -/
theorem inj_le {m n : Nat} (f : Nat → Nat) (hlt : ∀ i, i < m → f i < n) (hinj : ∀ i j, i < m → j < m → f i = f j → i = j) : m ≤ n := by
  have h := nodup_le n ((List.range m).map f) ?_ ?_
  · simpa using h
  · rw [List.nodup_iff_pairwise_ne, List.pairwise_map]
    refine List.Pairwise.imp_of_mem ?_ List.nodup_range
    intro a b ha hb hab e
    exact hab (hinj a b (List.mem_range.1 ha) (List.mem_range.1 hb) e)
  · intro x hx
    obtain ⟨i, hi, rfl⟩ := List.mem_map.1 hx
    exact hlt i (List.mem_range.1 hi)
end Go.Proofs.Ytmkgipoljbiocaa
/- A map from pairs (a byte's number, a bool) to bytes: which it holds, in the order in which they came. -/
namespace Go.Proofs.Ytmkgipoljbiocaa
open Go.RowKit Go.Sort

def pairV (p : Nat × Bool) : Value := .agg #[.int .u8 p.1, .bool p.2]
def entsFrom : Nat → List (Nat × Bool) → List MapEntry
  | _, [] => []
  | i, p :: t => { key := pairV p, val := .int .u8 i, born := i } :: entsFrom (i + 1) t
theorem entsFrom_len : ∀ i l, (entsFrom i l).length = l.length
  | _, [] => rfl
  | i, p :: t => by simp [entsFrom, entsFrom_len (i + 1) t]
theorem entsFrom_snoc : ∀ i l p, entsFrom i (l ++ [p]) = entsFrom i l ++ [{ key := pairV p, val := .int .u8 ((i + l.length : Nat) : Int), born := i + l.length }]
  | i, [], p => by simp [entsFrom]
  | i, q :: t, p => by
    simp only [List.cons_append, entsFrom, entsFrom_snoc (i + 1) t p, List.length_cons]
    rw [show i + 1 + t.length = i + (t.length + 1) by omega]
def findP (p : Nat × Bool) : Nat → List (Nat × Bool) → Option Nat
  | _, [] => none
  | i, q :: t => if p = q then some i else findP p (i + 1) t
def PMap (w : World) (g : Nat) (l : List (Nat × Bool)) : Prop := w.heap[g]? = some (.map (entsFrom 0 l).toArray l.length)

theorem run_pair_eq (p q : Nat × Bool) (w : World) : (Op.equal 99 (pairV p) (pairV q)).run Try.prog w = .ok (decide (p = q)) w := by
  unfold Op.equal Op.maxDepth pairV
  go_simp
  obtain ⟨a, b⟩ := p
  obtain ⟨c, d⟩ := q
  by_cases h1 : a = c
  · subst h1
    by_cases h2 : b = d
    · subst h2; simp
    · simp [h2]
  · have h1' : ¬ (a : Int) = (c : Int) := by omega
    simp [h1, h1']
theorem run_check (e : Bool) (p : Nat × Bool) (w : World) : (Instr.checkKey e 10000 99 (pairV p)).run Try.prog w = .ok () w := by
  unfold pairV
  obtain ⟨n, hn⟩ : ∃ n, 10000 = n + 1 + 1 := ⟨9998, rfl⟩
  rw [hn]
  simp only [Instr.checkKey, Sem.run_bind, run_underlying Try.underlying99 w, Result.andThen_ok, ← Array.forIn_toList, List.forIn_cons, List.forIn_nil]
  simp [part, isAgg, run_underlying Try.underlying5 w, run_underlying Try.underlying4 w]
theorem run_findAsking (p : Nat × Bool) : ∀ (l : List (Nat × Bool)) (i : Nat) (w : World), (Instr.findAsking 99 (pairV p) (entsFrom i l) i).run Try.prog w = .ok ((findP p i l).map fun k => (k, Value.int .u8 k)) w
  | [], i, w => rfl
  | q :: t, i, w => by
    simp only [entsFrom, Instr.findAsking, Sem.run_bind, run_pair_eq, Result.andThen_ok, findP]
    by_cases h : p = q
    · simp [h]
    · simp only [h, decide_false, if_false, Bool.false_eq_true]
      exact run_findAsking p t (i + 1) w
theorem run_findKey (p : Nat × Bool) (l : List (Nat × Bool)) (w : World) : (Instr.findKey 99 (pairV p) (entsFrom 0 l)).run Try.prog w = .ok ((findP p 0 l).map fun k => (k, Value.int .u8 k)) w := by
  unfold Instr.findKey
  simp only [Sem.run_bind, run_underlying Try.underlying99 w, Result.andThen_ok]
  cases l with
  | nil => rfl
  | cons q t =>
    simp only [entsFrom, Instr.findNow, Instr.sameNow, pairV]
    exact run_findAsking p (q :: t) 0 w
theorem run_lookup_pair (c : Bool) (p : Nat × Bool) (l : List (Nat × Bool)) (g : Nat) (w : World) (h : PMap w g l) : (Instr.lookup 96 (.map (some g)) (pairV p) c).run Try.prog w =
    .ok (if c then .tuple #[.int .u8 ((findP p 0 l).getD 0 : Nat), .bool (findP p 0 l).isSome] else .int .u8 ((findP p 0 l).getD 0 : Nat)) w := by
  have hz : (zeroValue 5).run Try.prog w = .ok (.int .u8 0) w := by kernel_rfl
  unfold PMap at h
  unfold Instr.lookup
  simp only [Sem.run_bind, run_underlying Try.underlying96 w, Result.andThen_ok, getObj, Sem.run, h, run_check, Sem.run_pure]
  rw [run_findKey]
  simp only [Result.andThen_ok]
  cases findP p 0 l with
  | none =>
    simp only [Option.map_none, Sem.run_bind, hz, Result.andThen_ok, Sem.run_pure]
    cases c <;> rfl
  | some k =>
    simp only [Option.map_some, Sem.run_bind, Result.andThen_ok, Sem.run_pure]
    cases c <;> rfl
theorem run_update_pair (p : Nat × Bool) (l : List (Nat × Bool)) (g : Nat) (w : World) (h : PMap w g l) (hn : findP p 0 l = none) :
    (Instr.mapUpdate 96 (.map (some g)) (pairV p) (.int .u8 (l.length : Nat))).run Try.prog w = .ok () { w with heap := w.heap.setIfInBounds g (.map (entsFrom 0 (l ++ [p])).toArray (l ++ [p]).length) } := by
  unfold PMap at h
  unfold Instr.mapUpdate
  simp only [Sem.run_bind, run_underlying Try.underlying96 w, Result.andThen_ok, getObj, Sem.run, h, run_check]
  rw [run_findKey, hn]
  simp only [Option.map_none, Result.andThen_ok, setObj, Sem.run, h]
  rw [entsFrom_snoc]
  simp
theorem PMap.lt {w : World} {g : Nat} {l : List (Nat × Bool)} (h : PMap w g l) : g < w.heap.size := by
  rcases Nat.lt_or_ge g w.heap.size with hl | hl
  · exact hl
  · unfold PMap at h; rw [Array.getElem?_eq_none hl] at h; cases h
theorem PMap.below {B g : Nat} {w w' : World} {l : List (Nat × Bool)} (h : PMap w g l) (hb : Below B w w') (hg : g < B) : PMap w' g l := (hb.block g hg).trans h
theorem wpList_update_pair {ops : Array Oper} {rest : List Oper} {o : Oper} {a : Act} {w : World} {Q : Exit → Act → World → Prop} (hgd : o.guard = none) (m k v : Operand) (ho : o.op = .mapUpdate 96 m k v)
    (p : Nat × Bool) (l : List (Nat × Bool)) (g : Nat) (hm : a.eval m = .map (some g)) (hk : a.eval k = pairV p) (hv : a.eval v = .int .u8 (l.length : Nat)) (h : PMap w g l) (hn : findP p 0 l = none)
    (hK : ∀ w', PMap w' g (l ++ [p]) → (∀ B, B ≤ g → Below B w w') → (∀ k, k ≠ g → w'.heap[k]? = w.heap[k]?) → w'.heap.size = w.heap.size → wpList Try.prog ops Q rest (a.put o.dst undef) w') : wpList Try.prog ops Q (o :: rest) a w := by
  refine wpList_plain hgd fun K hKK => ?_
  unfold Oper.wp execOp
  simp only [ho, hm, hk, hv, Sem.run_bind, run_update_pair p l g w h hn, Result.andThen_ok, Sem.run_pure]
  have hlt := h.lt
  refine hKK _ _ (hK _ ?_ (fun B hB => ⟨rfl, rfl, rfl, by simp, fun k hk => ?_⟩) (fun k hk => ?_) (by simp))
  · unfold PMap; simp [hlt]
  · rw [Array.getElem?_setIfInBounds, if_neg (by omega)]
  · rw [Array.getElem?_setIfInBounds, if_neg (fun e => hk e.symm)]
theorem wpList_lookup_pair {ops : Array Oper} {rest : List Oper} {o : Oper} {a : Act} {w : World} {Q : Exit → Act → World → Prop} (hgd : o.guard = none) (m k : Operand) (c : Bool) (ho : o.op = .lookup 96 m k c)
    (p : Nat × Bool) (l : List (Nat × Bool)) (g : Nat) (hm : a.eval m = .map (some g)) (hk : a.eval k = pairV p) (h : PMap w g l)
    (hK : wpList Try.prog ops Q rest (a.put o.dst (if c then .tuple #[.int .u8 ((findP p 0 l).getD 0 : Nat), .bool (findP p 0 l).isSome] else .int .u8 ((findP p 0 l).getD 0 : Nat))) w) : wpList Try.prog ops Q (o :: rest) a w := by
  refine wpList_plain hgd fun K hKK => ?_
  unfold Oper.wp execOp
  simp only [ho, hm, hk, Sem.run_bind, run_lookup_pair c p l g w h, Result.andThen_ok, Sem.run_pure]
  exact hKK _ _ hK

/-! ### Which pairs have come so far -/
section
variable (q : Nat → Nat × Bool)
def news : Nat → List (Nat × Bool)
  | 0 => []
  | n + 1 => news n ++ if isNew q n then [q n] else []
theorem news_len : ∀ n, (news q n).length = cnt q n
  | 0 => rfl
  | n + 1 => by simp only [news, cnt, List.length_append, news_len n]; split <;> simp_all
theorem findP_append (p : Nat × Bool) : ∀ (i : Nat) (l m : List (Nat × Bool)), findP p i (l ++ m) = (findP p i l).or (findP p (i + l.length) m)
  | i, [], m => by simp [findP]
  | i, r :: l, m => by
    simp only [List.cons_append, findP]
    by_cases h : p = r
    · simp [h]
    · simp only [h, if_false, findP_append p (i + 1) l m, List.length_cons]
      rw [show i + 1 + l.length = i + (l.length + 1) by omega]
theorem findP_news (b : Nat) : ∀ n, findP (q b) 0 (news q n) = if fi q b < n then some (cls q b) else none
  | 0 => by simp [news, findP]
  | n + 1 => by
    simp only [news]
    rw [findP_append, findP_news b n, news_len]
    generalize hm : (if isNew q n = true then [q n] else []) = m
    by_cases h : fi q b < n
    · have h2 : fi q b < n + 1 := by omega
      rw [if_pos h, if_pos h2]; rfl
    · rw [if_neg h]
      by_cases hn : isNew q n = true
      · rw [if_pos hn] at hm
        subst hm
        simp only [Option.none_or, findP]
        by_cases he : q b = q n
        · have hf : fi q b = n := by rw [fi_same q he]; exact beq_iff_eq.1 hn
          rw [if_pos he, if_pos (by omega)]
          unfold cls; rw [hf]; simp
        · have hf : fi q b ≠ n := fun e => he (by rw [← e]; exact (fi_eq q b).symm)
          rw [if_neg he, if_neg (by omega)]
      · rw [if_neg hn] at hm
        subst hm
        have hf : fi q b ≠ n := fun e => hn (by rw [← e]; exact isNew_fi q b)
        simp only [findP, Option.none_or]
        rw [if_neg (by omega)]
end
theorem wpList_lookup_miss {ops : Array Oper} {rest : List Oper} {o : Oper} {a : Act} {w : World} {Q : Exit → Act → World → Prop} (hgd : o.guard = none) (m k : Operand) (ho : o.op = .lookup 96 m k true)
    (p : Nat × Bool) (l : List (Nat × Bool)) (g : Nat) (hm : a.eval m = .map (some g)) (hk : a.eval k = pairV p) (h : PMap w g l) (hf : findP p 0 l = none)
    (hK : wpList Try.prog ops Q rest (a.put o.dst (.tuple #[.int .u8 0, .bool false])) w) : wpList Try.prog ops Q (o :: rest) a w :=
  wpList_lookup_pair hgd m k true ho p l g hm hk h (by rw [hf]; exact hK)
theorem wpList_lookup_hit {ops : Array Oper} {rest : List Oper} {o : Oper} {a : Act} {w : World} {Q : Exit → Act → World → Prop} (hgd : o.guard = none) (m k : Operand) (ho : o.op = .lookup 96 m k true)
    (p : Nat × Bool) (l : List (Nat × Bool)) (g n : Nat) (hm : a.eval m = .map (some g)) (hk : a.eval k = pairV p) (h : PMap w g l) (hf : findP p 0 l = some n)
    (hK : wpList Try.prog ops Q rest (a.put o.dst (.tuple #[.int .u8 n, .bool true])) w) : wpList Try.prog ops Q (o :: rest) a w :=
  wpList_lookup_pair hgd m k true ho p l g hm hk h (by rw [hf]; exact hK)
theorem wpList_lookup_plain {ops : Array Oper} {rest : List Oper} {o : Oper} {a : Act} {w : World} {Q : Exit → Act → World → Prop} (hgd : o.guard = none) (m k : Operand) (ho : o.op = .lookup 96 m k false)
    (p : Nat × Bool) (l : List (Nat × Bool)) (g n : Nat) (hm : a.eval m = .map (some g)) (hk : a.eval k = pairV p) (h : PMap w g l) (hf : findP p 0 l = some n)
    (hK : wpList Try.prog ops Q rest (a.put o.dst (.int .u8 n)) w) : wpList Try.prog ops Q (o :: rest) a w :=
  wpList_lookup_pair hgd m k false ho p l g hm hk h (by rw [hf]; exact hK)
theorem run_len_pair (ty : TypeId) (l : List (Nat × Bool)) (g : Nat) (w : World) (h : PMap w g l) : (Builtin.len_ #[96] ty #[.map (some g)]).run Try.prog w = .ok (.int .i64 (l.length : Nat)) w := by
  unfold PMap at h
  unfold Builtin.len_
  simp [run_underlying Try.underlying96 w, getObj, Sem.run, h, entsFrom_len, goInt]
end Go.Proofs.Ytmkgipoljbiocaa
namespace Go.Proofs.Ytmkgipoljbiocaa
open Go.RowKit Go.Sort

/-- One more than the greatest of the first n. -/
def widthC (C : Nat → Nat) : Nat → Nat
  | 0 => 0
  | n + 1 => max (widthC C n) (C n + 1)
theorem widthC_le (C : Nat → Nat) : ∀ n, (∀ i, i < n → C i < 256) → widthC C n ≤ 256
  | 0, _ => by simp [widthC]
  | n + 1, hC => by have := widthC_le C n (fun i hi => hC i (by omega)); have := hC n (by omega); simp only [widthC]; omega

set_option maxRecDepth 100000 in
theorem width_any (C : Nat → Nat) (hC : ∀ i, i < 256 → C i < 256) (w : World) :
    Calls Try.prog 42 #[.agg (arrC C)] w fun e w' => e = .returned (.int .i64 (widthC C 256)) ∧ Below w.heap.size w w' := by
  have hg := heap_alloc_new w (.cells (arrC C) 30)
  have Hg := Lib.hid hg
  clear hg
  go_enter Try.func42, Try.ntmps42
  go_wp2_with (refine wpList_load_row rfl 30 _ rfl w.heap.size rfl 30 (arrC C) (0, 0) _ Hg.out Try.underlying30 rfl (sizeArr C) ?_)
  go_loop [3, 7] (fun n i => ∃ k : Nat, k ≤ 256 ∧ i = .int .i64 k ∧ n = .int .i64 (widthC C k)) (fun _ i => 256 - (intOf i).toNat)
  case atStart => exact ⟨0, by omega, rfl, rfl⟩
  case round =>
    obtain ⟨k, hk, rfl, rfl⟩ := hrel
    have hw := widthC_le C k (fun i hi => hC i (by omega))
    by_cases hlt : k < 256
    · have hi := fun w' => run_index_arr C k w' hlt
      have hc := hC k hlt
      have Hm : Hid (widthC C (k + 1) = max (widthC C k) (C k + 1)) := rfl
      obtain ⟨m, hm⟩ : ∃ m, widthC C k = m := ⟨_, rfl⟩
      obtain ⟨c, hcc⟩ : ∃ c, C k = c := ⟨_, rfl⟩
      rw [hm, hcc] at Hm
      rw [hcc] at hi hc
      rw [hm] at hw ⊢
      clear hm hcc
      by_cases hmc : (m : Int) < (c : Int) + 1
      · go_wp2
        go_round
        case rel => exact ⟨k + 1, by omega, by go_num, by rw [Hm.out]; refine congrArg _ ?_; omega⟩
        case measure => simp [intOf]; omega
      · go_wp2
        go_round
        case rel => exact ⟨k + 1, by omega, by go_num, by rw [Hm.out]; refine congrArg _ ?_; omega⟩
        case measure => simp [intOf]; omega
    · have Hk : Hid (k = 256) := by show k = 256; omega
      go_wp2
      go_ret
      exact ⟨ret_int (by rw [Hk.out]), (Below.refl _ _).alloc (Nat.le_refl _) _⟩
set_option maxRecDepth 100000 in
theorem refwidth_any (C : Nat → Nat) (hC : ∀ i, i < 256 → C i < 256) (w : World) :
    Calls Try.prog 51 #[.agg (arrC C)] w fun e w' => e = .returned (.int .i64 (widthC C 256)) ∧ Below w.heap.size w w' := by
  go_enter Try.func51, Try.ntmps51
  go_wp2
  go_loop [3, 4] (fun n i => ∃ k : Nat, k ≤ 256 ∧ i = .int .i64 k ∧ n = .int .i64 (widthC C k)) (fun _ i => 256 - (intOf i).toNat)
  case atStart => exact ⟨0, by omega, rfl, rfl⟩
  case round =>
    obtain ⟨k, hk, rfl, rfl⟩ := hrel
    have hw := widthC_le C k (fun i hi => hC i (by omega))
    by_cases hlt : k < 256
    · have hi := arrC_at C k hlt
      have hc := hC k hlt
      have Hm : Hid (widthC C (k + 1) = max (widthC C k) (C k + 1)) := rfl
      obtain ⟨m, hm⟩ : ∃ m, widthC C k = m := ⟨_, rfl⟩
      obtain ⟨c, hcc⟩ : ∃ c, C k = c := ⟨_, rfl⟩
      rw [hm, hcc] at Hm
      rw [hcc] at hi hc
      rw [hm] at hw ⊢
      clear hm hcc
      by_cases hmc : (m : Int) < (c : Int) + 1
      · go_wp2
        go_round
        case rel => exact ⟨k + 1, by omega, by go_num, by rw [Hm.out]; refine congrArg _ ?_; omega⟩
        case measure => simp [intOf]; omega
      · go_wp2
        go_round
        case rel => exact ⟨k + 1, by omega, by go_num, by rw [Hm.out]; refine congrArg _ ?_; omega⟩
        case measure => simp [intOf]; omega
    · have Hk : Hid (k = 256) := by show k = 256; omega
      go_wp2
      go_ret
      exact ⟨ret_int (by rw [Hk.out]), (Below.refl _ _).alloc (Nat.le_refl _) _⟩
end Go.Proofs.Ytmkgipoljbiocaa
namespace Go.Proofs.Ytmkgipoljbiocaa
open Go.RowKit Go.Sort

def pairC (C : Nat → Nat) (S : Nat → Bool) : Nat → Nat × Bool := fun x => (C x, S x)
theorem pairC_fi (C : Nat → Nat) (S : Nat → Bool) (b : Nat) : C (fi (pairC C S) b) = C b ∧ S (fi (pairC C S) b) = S b := by
  have := fi_eq (pairC C S) b
  simp only [pairC, Prod.mk.injEq] at this
  exact this
theorem pairC_ne (C : Nat → Nat) (S : Nat → Bool) {a b : Nat} (h : a < fi (pairC C S) b) (hc : C a = C b) : S a ≠ S b := by
  intro e
  exact fi_first (pairC C S) b a h (by simp only [pairC, hc, e])
/-- The new classes, as far as they stand. -/
def outC {α : Type} [DecidableEq α] (p : Nat → α) (n : Nat) : Nat → Nat := fun x => if x < n then cls p x else 0
theorem outC_next {α : Type} [DecidableEq α] (p : Nat → α) (n v : Nat) (hv : v = cls p n) (i : Nat) (_h : i < 256) : upd (outC p n) n v i = outC p (n + 1) i := by
  unfold upd outC
  by_cases e : i = n
  · subst e; rw [if_pos rfl, if_pos (by omega)]; exact hv
  · rw [if_neg e]
    by_cases h : i < n
    · rw [if_pos h, if_pos (by omega)]
    · rw [if_neg h, if_neg (by omega)]
theorem outC_all {α : Type} [DecidableEq α] (p : Nat → α) (i : Nat) (h : i < 256) : outC p 256 i = cls p i := if_pos h

end Go.Proofs.Ytmkgipoljbiocaa
namespace Go.Proofs.Ytmkgipoljbiocaa
open Go.RowKit Go.Sort

/-- The array as far as it has been written. -/
def mixC (q : Nat → Nat × Bool) (C : Nat → Nat) (n : Nat) : Nat → Nat := fun x => if x < n then cls q x else C x
theorem mixC_next (q : Nat → Nat × Bool) (C : Nat → Nat) (n v : Nat) (hv : v = cls q n) (i : Nat) (_h : i < 256) : upd (mixC q C n) n v i = mixC q C (n + 1) i := by
  unfold upd mixC
  by_cases e : i = n
  · subst e; rw [if_pos rfl, if_pos (by omega)]; exact hv
  · rw [if_neg e]
    by_cases h : i < n
    · rw [if_pos h, if_pos (by omega)]
    · rw [if_neg h, if_neg (by omega)]
set_option maxHeartbeats 1000000 in
set_option maxRecDepth 100000 in
theorem split_any (C : Nat → Nat) (S : Nat → Bool) (w : World) :
    Calls Try.prog 54 #[.agg (arrC C), setV S] w fun e w' => e = .returned (.agg (arrC (cls (pairC C S)))) ∧ Below w.heap.size w w' := by
  have hal := run_zero_arr
  have hmm := @run_makeMap Try.prog
  have a0 := BlkAt.new w (.cells (arrC C) 30) _ rfl
  have a1 := ((a0.alloc (setO S)).alloc (.cells (arrC zeroC) 30)).alloc (.map #[] 0)
  have b1 := ((BlkAt.new (w.alloc (.cells (arrC C) 30)) (setO S) (w.heap.size + 1) (by simp)).alloc (.cells (arrC zeroC) 30)).alloc (.map #[] 0)
  have c1 := (BlkAt.new ((w.alloc (.cells (arrC C) 30)).alloc (setO S)) (.cells (arrC zeroC) 30) (w.heap.size + 2) (by simp)).alloc (.map #[] 0)
  have d1 := BlkAt.new (((w.alloc (.cells (arrC C) 30)).alloc (setO S)).alloc (.cells (arrC zeroC) 30)) (.map #[] 0) (w.heap.size + 3) (by simp)
  have bel : Below w.heap.size w ((((w.alloc (.cells (arrC C) 30)).alloc (setO S)).alloc (.cells (arrC zeroC) 30)).alloc (.map #[] 0)) :=
    ((((Below.refl _ _).alloc (Nat.le_refl _) _).alloc (by simp) _).alloc (by simp; omega) _).alloc (by simp; omega) _
  have hs : ((((w.alloc (.cells (arrC C) 30)).alloc (setO S)).alloc (.cells (arrC zeroC) 30)).alloc (.map #[] 0)).heap.size = w.heap.size + 4 := by simp
  have A1 := Lib.hid a1
  have B1 := Lib.hid b1
  have C1 := Lib.hid c1
  have D1 := Lib.hid d1
  have BEL := Lib.hid bel
  have HS := Lib.hid hs
  clear a0 a1 b1 c1 d1 bel hs
  unfold setV
  go_enter Try.func54, Try.ntmps54
  go_wp2
  have x1 : w.heap.size + 2 = w.heap.size + 1 + 1 := rfl
  have x2 : w.heap.size + 3 = w.heap.size + 1 + 1 + 1 := rfl
  rw [x1] at C1
  rw [x2] at D1
  clear x1 x2
  generalize hg3 : w.heap.size + 1 + 1 + 1 = g3 at D1 ⊢
  generalize hg2 : w.heap.size + 1 + 1 = g2 at C1 ⊢
  generalize hg1 : w.heap.size + 1 = g1 at B1 ⊢
  have l0 : w.heap.size + 4 = g3 + 1 := by omega
  have HS2 := Lib.hid (HS.out.trans l0)
  have l1 : w.heap.size < g1 := by omega
  have l2 : g1 < g2 := by omega
  have l3 : g2 < g3 := by omega
  clear hg3 hg2 hg1 l0 HS
  go_loopw [11] (fun i wr => ∃ k : Nat, k ≤ 256 ∧ i = .int .i64 k ∧ ArrAt wr w.heap.size (mixC (pairC C S) C k) ∧ BlkAt wr g1 (setO S) ∧ ArrAt wr g2 zeroC ∧ PMap wr g3 (news (pairC C S) k) ∧ Below w.heap.size w wr ∧ g3 < wr.heap.size) (fun i _ => 256 - (intOf i).toNat)
  case atStart =>
    refine ⟨0, by omega, rfl, ?_, B1.out, C1.out, D1.out, BEL.out, ?_⟩
    · exact ArrAt.congr (C := C) A1.out fun i _ => by simp [mixC]
    · have := HS2.out
      show g3 < ((((w.alloc (.cells (arrC C) 30)).alloc (setO S)).alloc (.cells (arrC zeroC) 30)).alloc (.map #[] 0)).heap.size
      omega
  case round =>
    obtain ⟨k, hk, rfl, hA, hB, hZ, hM, hb, hl⟩ := hrel
    clear A1 B1 C1 D1 BEL HS2
    by_cases hlt : k < 256
    · have hck : mixC (pairC C S) C k k = C k := by simp [mixC]
      have hcell := hA.cell k hlt
      rw [hck] at hcell
      have c0 := setO_cell hB 0 (by omega)
      have c1 := setO_cell hB 1 (by omega)
      have c2 := setO_cell hB 2 (by omega)
      have c3 := setO_cell hB 3 (by omega)
      have lg1 : g1 < wr.heap.size := by omega
      have lg0 : w.heap.size < wr.heap.size := by omega
      have n0 := World.new_ne wr _ hcell
      have n1 := World.new_ne wr _ c0
      have lg1' : g1 < wr.heap.size + 1 := by omega
      have lg0' : w.heap.size < wr.heap.size + 1 := by omega
      have ng0 : ¬ w.heap.size = wr.heap.size := by omega
      have ng1 : ¬ g1 = wr.heap.size := by omega
      have h1 := fun w' => has_any S k w' hlt
      unfold setV at h1
      have H1 := Lib.hid h1
      have wy : IntKind.u8.wrap (k : Int) = k := IntWalk.u8_in _ ⟨by omega, by omega⟩
      have bk : (k : Int) < 256 := by omega
      clear h1 hck
      go_wp2
      go_region_held3 (fun w' => w'.cell? ⟨w.heap.size, k, none⟩ = some (.int .u8 (C k)) ∧ w'.cell? ⟨g1, 0, none⟩ = some (.int .u64 (wd S 0)) ∧ w'.cell? ⟨g1, 1, none⟩ = some (.int .u64 (wd S 1)) ∧ w'.cell? ⟨g1, 2, none⟩ = some (.int .u64 (wd S 2)) ∧ w'.cell? ⟨g1, 3, none⟩ = some (.int .u64 (wd S 3))) (first | go_keep | (go_split_ands; exact ⟨hk1 _ _ (by assumption), hk1 _ _ (by assumption), hk1 _ _ (by assumption), hk1 _ _ (by assumption), hk1 _ _ (by assumption)⟩))
        (first | (go_at_call 67; refine (H1.out _).mono ?_; rintro e w1 ⟨rfl, hb1⟩; have hk1 := keeps hb1; obtain ⟨hc1, hf1⟩ := bcell hb1))
      · have hbZ : Below wr.heap.size wr (w1.alloc (.cells #[.int .u8 (C k), .bool (S k)] 99)) := ((Below.refl _ wr).drew.trans hb1).alloc hb1.size _
        have f0 : (w1.alloc (.cells #[.int .u8 (C k), .bool (S k)] 99)).cell? ⟨w1.heap.size, 0, none⟩ = some (.int .u8 (C k)) := by rw [World.cell?_alloc_new]; rfl
        have f1 : (w1.alloc (.cells #[.int .u8 (C k), .bool (S k)] 99)).cell? ⟨w1.heap.size, 1, none⟩ = some (.bool (S k)) := by rw [World.cell?_alloc_new]; rfl
        have l7 : wr.heap.size ≤ w1.heap.size := hb1.size
        clear hb1 hc1 hf1 hk1
        generalize w1.alloc (.cells #[.int .u8 (C k), .bool (S k)] 99) = wZ at hbZ f0 f1 ⊢
        generalize w1.heap.size = g7 at f0 f1 l7 ⊢
        have hM2 := hM.below hbZ hl
        have hA2 := hA.below hbZ lg0
        have hB2 := hB.below hbZ lg1
        have hZ2 := hZ.below hbZ (by omega)
        have hb2 := hb.trans (hbZ.mono (by omega))
        have hl2 : g3 < wZ.heap.size := by have := hbZ.size; omega
        have hcn := cnt_le (pairC C S) k
        have hnl := news_len (pairC C S) k
        have hfp := findP_news (pairC C S) k k
        have hpk : pairC C S k = (C k, S k) := rfl
        rw [hpk] at hfp
        have hLen := run_len_pair 3 _ _ _ hM2
        have HNL := Lib.hid hnl
        have lg7a : g7 ≠ w.heap.size := by omega
        have lg7b : g7 ≠ g3 := by omega
        clear hA hB hZ hM hcell c0 c1 c2 c3 n0 n1 ng0 ng1 lg1' lg0' hnl hpk
        cases hnew : isNew (pairC C S) k
        · have hfk : fi (pairC C S) k < k := by
            have h1 := fi_le (pairC C S) k
            have h2 : fi (pairC C S) k ≠ k := by
              intro e; have : isNew (pairC C S) k = true := by unfold isNew; rw [e]; simp
              rw [this] at hnew; cases hnew
            omega
          rw [if_pos hfk] at hfp
          have HF := Lib.hid hfp
          have HN : Hid (news (pairC C S) (k + 1) = news (pairC C S) k) := by show _ = _; simp [news, hnew]
          have hcc := hA2.cell k hlt
          have hff := hA2.frozen k
          have HA := Lib.hid hA2
          have HM := Lib.hid hM2
          clear hfp hfk hnew hA2 hM2 hLen
          go_wp2_with (first
            | ((with_reducible refine wpList_lookup_hit rfl _ _ rfl (C k, S k) (news (pairC C S) k) g3 (cls (pairC C S) k) ?_ ?_ HM.out HF.out ?_); rfl; rfl)
            | ((with_reducible refine wpList_lookup_plain rfl _ _ rfl (C k, S k) (news (pairC C S) k) g3 (cls (pairC C S) k) ?_ ?_ HM.out HF.out ?_); rfl; rfl))
          go_roundw
          case rel =>
            refine ⟨k + 1, by omega, by go_num, (HA.out.set_ k _ hlt).congr (mixC_next _ _ k _ rfl), ?_, hZ2.far (by show g2 ≠ w.heap.size; omega) _, ?_, hb2.setCell (Nat.le_refl _) _, by simpa [World.setCell] using hl2⟩
            · exact (Below.heap_setCell _ _ _ g1 (by show g1 ≠ w.heap.size; omega)).trans hB2
            · rw [HN.out]; exact (Below.heap_setCell _ _ _ g3 (by show g3 ≠ w.heap.size; omega)).trans HM.out
          case measure => simp [intOf]; omega
        · have hfk : fi (pairC C S) k = k := beq_iff_eq.1 hnew
          have hfk2 : ¬ fi (pairC C S) k < k := by omega
          rw [if_neg hfk2] at hfp
          have HF := Lib.hid hfp
          have hfp2 := findP_news (pairC C S) k (k + 1)
          rw [if_pos (by omega)] at hfp2
          have HN : Hid (news (pairC C S) (k + 1) = news (pairC C S) k ++ [(C k, S k)]) := by show _ = _; simp [news, hnew, pairC]
          rw [HN.out] at hfp2
          have HF2 : Hid (findP (C k, S k) 0 (news (pairC C S) k ++ [(C k, S k)]) = some (cls (pairC C S) k)) := hfp2
          have HA := Lib.hid hA2
          have HM := Lib.hid hM2
          have wl : ((news (pairC C S) k).length : Int) ≤ 255 := by rw [HNL.out]; omega
          clear hfp hfp2 hfk hfk2 hnew hA2 hM2
          go_wp2_with (first
            | ((with_reducible refine wpList_lookup_miss rfl _ _ rfl (C k, S k) (news (pairC C S) k) g3 ?_ ?_ HM.out HF.out ?_); rfl; rfl)
            | ((with_reducible refine wpList_update_pair rfl _ _ _ rfl (C k, S k) (news (pairC C S) k) g3 ?_ ?_ ?_ HM.out HF.out ?_); rfl; rfl; rfl; intro wU hMU hBU hOU hSU; have f0' := (World.cell?_of_block (a := ⟨g7, 0, none⟩) (hOU g7 lg7b)).trans f0; have f1' := (World.cell?_of_block (a := ⟨g7, 1, none⟩) (hOU g7 lg7b)).trans f1; have HAU := Lib.hid (show ArrAt wU w.heap.size (mixC (pairC C S) C k) from (hOU w.heap.size (by omega)).trans HA.out); have hcU := HAU.out.cell k hlt; have hfU := HAU.out.frozen k; have HMU := Lib.hid hMU; have HOU := Lib.hid hOU; have HBU := Lib.hid hBU; have HSU := Lib.hid hSU; clear hMU hOU hBU hSU)
            | ((with_reducible refine wpList_lookup_plain rfl _ _ rfl (C k, S k) (news (pairC C S) k ++ [(C k, S k)]) g3 (cls (pairC C S) k) ?_ ?_ HMU.out HF2.out ?_); rfl; rfl))
          go_roundw
          case rel =>
            refine ⟨k + 1, by omega, by go_num, (HAU.out.set_ k _ hlt).congr (mixC_next _ _ k _ rfl), ?_, ?_, ?_, (hb2.trans (HBU.out _ (by omega))).setCell (Nat.le_refl _) _, ?_⟩
            · exact (Below.heap_setCell _ _ _ g1 (by show g1 ≠ w.heap.size; omega)).trans ((HOU.out g1 (by omega)).trans hB2)
            · exact (Below.heap_setCell _ _ _ g2 (by show g2 ≠ w.heap.size; omega)).trans ((HOU.out g2 (by omega)).trans hZ2)
            · rw [HN.out]; exact (Below.heap_setCell _ _ _ g3 (by show g3 ≠ w.heap.size; omega)).trans HMU.out
            · have := HSU.out
              show g3 < (wU.setCell _ _).heap.size
              simp only [World.setCell, Array.size_modify]
              omega
          case measure => simp [intOf]; omega
      · have hw0 : (wr.alloc (.cells #[.int .u8 0, .bool false] 99)).drew.heap.size = wr.heap.size + 1 := by simp
        have hbA : Below wr.heap.size wr w1 := (((Below.refl _ wr).alloc (Nat.le_refl _) _).drew).trans (hb1.mono (by rw [hw0]; omega))
        have c00 : w1.cell? ⟨wr.heap.size, 0, none⟩ = some (.int .u8 0) := (hb1.cell (p := ⟨wr.heap.size, 0, none⟩) (by rw [hw0]; show wr.heap.size < _; omega)).trans (by rw [World.cell?_drew, World.cell?_alloc_new]; rfl)
        have c01 : w1.cell? ⟨wr.heap.size, 1, none⟩ = some (.bool false) := (hb1.cell (p := ⟨wr.heap.size, 1, none⟩) (by rw [hw0]; show wr.heap.size < _; omega)).trans (by rw [World.cell?_drew, World.cell?_alloc_new]; rfl)
        have hbZ : Below wr.heap.size wr ((w1.setCell ⟨wr.heap.size, 0, none⟩ (.int .u8 (C k))).setCell ⟨wr.heap.size, 1, none⟩ (.bool (S k))) := (hbA.setCell (Nat.le_refl _) _).setCell (Nat.le_refl _) _
        have f0 : ((w1.setCell ⟨wr.heap.size, 0, none⟩ (.int .u8 (C k))).setCell ⟨wr.heap.size, 1, none⟩ (.bool (S k))).cell? ⟨wr.heap.size, 0, none⟩ = some (.int .u8 (C k)) := by
          rw [World.cell?_setCell_other _ _ _ _ (by simp)]
          exact World.cell?_setCell_same _ _ _ c00
        have f1 : ((w1.setCell ⟨wr.heap.size, 0, none⟩ (.int .u8 (C k))).setCell ⟨wr.heap.size, 1, none⟩ (.bool (S k))).cell? ⟨wr.heap.size, 1, none⟩ = some (.bool (S k)) := by
          refine World.cell?_setCell_same (u := .bool false) _ _ _ ?_
          rw [World.cell?_setCell_other _ _ _ _ (by simp)]
          exact c01
        have l7 : wr.heap.size ≤ wr.heap.size := Nat.le_refl _
        have lt7 : wr.heap.size < ((w1.setCell ⟨wr.heap.size, 0, none⟩ (.int .u8 (C k))).setCell ⟨wr.heap.size, 1, none⟩ (.bool (S k))).heap.size := by
          have := hb1.size; rw [hw0] at this; simp only [World.setCell, Array.size_modify]; omega
        clear hb1 hc1 hf1 hk1 c00 c01 hw0 hbA
        generalize (w1.setCell ⟨wr.heap.size, 0, none⟩ (.int .u8 (C k))).setCell ⟨wr.heap.size, 1, none⟩ (.bool (S k)) = wZ at hbZ f0 f1 lt7 ⊢
        generalize hg7 : wr.heap.size = g7 at f0 f1 l7 ⊢
        have hM2 := hM.below hbZ hl
        have hA2 := hA.below hbZ lg0
        have hB2 := hB.below hbZ lg1
        have hZ2 := hZ.below hbZ (by omega)
        have hb2 := hb.trans (hbZ.mono (by omega))
        have hl2 : g3 < wZ.heap.size := by have := hbZ.size; omega
        have hcn := cnt_le (pairC C S) k
        have hnl := news_len (pairC C S) k
        have hfp := findP_news (pairC C S) k k
        have hpk : pairC C S k = (C k, S k) := rfl
        rw [hpk] at hfp
        have hLen := run_len_pair 3 _ _ _ hM2
        have HNL := Lib.hid hnl
        have lg7a : g7 ≠ w.heap.size := by omega
        have lg7b : g7 ≠ g3 := by omega
        clear hA hB hZ hM hcell c0 c1 c2 c3 n0 n1 ng0 ng1 lg1' lg0' hnl hpk
        cases hnew : isNew (pairC C S) k
        · have hfk : fi (pairC C S) k < k := by
            have h1 := fi_le (pairC C S) k
            have h2 : fi (pairC C S) k ≠ k := by
              intro e; have : isNew (pairC C S) k = true := by unfold isNew; rw [e]; simp
              rw [this] at hnew; cases hnew
            omega
          rw [if_pos hfk] at hfp
          have HF := Lib.hid hfp
          have HN : Hid (news (pairC C S) (k + 1) = news (pairC C S) k) := by show _ = _; simp [news, hnew]
          have hcc := hA2.cell k hlt
          have hff := hA2.frozen k
          have HA := Lib.hid hA2
          have HM := Lib.hid hM2
          clear hfp hfk hnew hA2 hM2 hLen
          go_wp2_with (first
            | ((with_reducible refine wpList_lookup_hit rfl _ _ rfl (C k, S k) (news (pairC C S) k) g3 (cls (pairC C S) k) ?_ ?_ HM.out HF.out ?_); rfl; rfl)
            | ((with_reducible refine wpList_lookup_plain rfl _ _ rfl (C k, S k) (news (pairC C S) k) g3 (cls (pairC C S) k) ?_ ?_ HM.out HF.out ?_); rfl; rfl))
          go_roundw
          case rel =>
            refine ⟨k + 1, by omega, by go_num, (HA.out.set_ k _ hlt).congr (mixC_next _ _ k _ rfl), ?_, hZ2.far (by show g2 ≠ w.heap.size; omega) _, ?_, hb2.setCell (Nat.le_refl _) _, by simpa [World.setCell] using hl2⟩
            · exact (Below.heap_setCell _ _ _ g1 (by show g1 ≠ w.heap.size; omega)).trans hB2
            · rw [HN.out]; exact (Below.heap_setCell _ _ _ g3 (by show g3 ≠ w.heap.size; omega)).trans HM.out
          case measure => simp [intOf]; omega
        · have hfk : fi (pairC C S) k = k := beq_iff_eq.1 hnew
          have hfk2 : ¬ fi (pairC C S) k < k := by omega
          rw [if_neg hfk2] at hfp
          have HF := Lib.hid hfp
          have hfp2 := findP_news (pairC C S) k (k + 1)
          rw [if_pos (by omega)] at hfp2
          have HN : Hid (news (pairC C S) (k + 1) = news (pairC C S) k ++ [(C k, S k)]) := by show _ = _; simp [news, hnew, pairC]
          rw [HN.out] at hfp2
          have HF2 : Hid (findP (C k, S k) 0 (news (pairC C S) k ++ [(C k, S k)]) = some (cls (pairC C S) k)) := hfp2
          have HA := Lib.hid hA2
          have HM := Lib.hid hM2
          have wl : ((news (pairC C S) k).length : Int) ≤ 255 := by rw [HNL.out]; omega
          clear hfp hfp2 hfk hfk2 hnew hA2 hM2
          go_wp2_with (first
            | ((with_reducible refine wpList_lookup_miss rfl _ _ rfl (C k, S k) (news (pairC C S) k) g3 ?_ ?_ HM.out HF.out ?_); rfl; rfl)
            | ((with_reducible refine wpList_update_pair rfl _ _ _ rfl (C k, S k) (news (pairC C S) k) g3 ?_ ?_ ?_ HM.out HF.out ?_); rfl; rfl; rfl; intro wU hMU hBU hOU hSU; have f0' := (World.cell?_of_block (a := ⟨g7, 0, none⟩) (hOU g7 lg7b)).trans f0; have f1' := (World.cell?_of_block (a := ⟨g7, 1, none⟩) (hOU g7 lg7b)).trans f1; have HAU := Lib.hid (show ArrAt wU w.heap.size (mixC (pairC C S) C k) from (hOU w.heap.size (by omega)).trans HA.out); have hcU := HAU.out.cell k hlt; have hfU := HAU.out.frozen k; have HMU := Lib.hid hMU; have HOU := Lib.hid hOU; have HBU := Lib.hid hBU; have HSU := Lib.hid hSU; clear hMU hOU hBU hSU)
            | ((with_reducible refine wpList_lookup_plain rfl _ _ rfl (C k, S k) (news (pairC C S) k ++ [(C k, S k)]) g3 (cls (pairC C S) k) ?_ ?_ HMU.out HF2.out ?_); rfl; rfl))
          go_roundw
          case rel =>
            refine ⟨k + 1, by omega, by go_num, (HAU.out.set_ k _ hlt).congr (mixC_next _ _ k _ rfl), ?_, ?_, ?_, (hb2.trans (HBU.out _ (by omega))).setCell (Nat.le_refl _) _, ?_⟩
            · exact (Below.heap_setCell _ _ _ g1 (by show g1 ≠ w.heap.size; omega)).trans ((HOU.out g1 (by omega)).trans hB2)
            · exact (Below.heap_setCell _ _ _ g2 (by show g2 ≠ w.heap.size; omega)).trans ((HOU.out g2 (by omega)).trans hZ2)
            · rw [HN.out]; exact (Below.heap_setCell _ _ _ g3 (by show g3 ≠ w.heap.size; omega)).trans HMU.out
            · have := HSU.out
              show g3 < (wU.setCell _ _).heap.size
              simp only [World.setCell, Array.size_modify]
              omega
          case measure => simp [intOf]; omega
    · have hk2 : k = 256 := by omega
      have Hk := Lib.hid hk2
      clear hk2
      go_wp2_with (first | (refine wpList_load_arr rfl _ rfl w.heap.size (mixC (pairC C S) C k) rfl hA ?_) | (refine wpList_store_arr rfl _ _ rfl g2 zeroC (mixC (pairC C S) C k) rfl rfl hZ ?_; intro w9 hR hB9 hO9 hS9))
      have hR2 := hR
      rw [Hk.out] at hR2
      have hR3 := hR2.congr (D := cls (pairC C S)) fun i hi => if_pos hi
      refine bodyPost_ret (results_cell_row rfl _ _ g2 30 (arrC (cls (pairC C S))) (0, 0) _ rfl hR3 Try.underlying30 rfl (sizeArr _)) rfl ⟨rfl, ?_⟩
      exact hb.trans (hB9 _ (by omega))
end Go.Proofs.Ytmkgipoljbiocaa
namespace Go.Proofs.Ytmkgipoljbiocaa
open Go.RowKit Go.Sort

theorem alike_any (ls : List (Nat → Bool)) (x y : Nat) (a : Option Addr) (len cap : Nat) (w : World) (h : SRow w a len ls) (hx : x < 256) (hy : y < 256) :
    Calls Try.prog 58 #[.slice a len cap, .int .i64 x, .int .i64 y] w fun e w' => e = .returned (.bool (ls.all fun S => S x == S y)) ∧ Below w.heap.size w w' := by
  have hl1 := h.1
  have hl2 := h.2.1
  have Hl := Lib.hid hl1
  clear hl1
  go_enter Try.func58, Try.ntmps58
  go_wp2
  go_loopw [7] (fun i wr => ∃ k : Nat, k ≤ len ∧ i = .int .i64 k ∧ (∀ S ∈ ls.take k, S x = S y) ∧ Below w.heap.size w wr) (fun i _ => len - (intOf i).toNat)
  case atStart => exact ⟨0, by omega, rfl, by simp, Below.refl _ _⟩
  case round =>
    obtain ⟨k, hk, rfl, hal, hb⟩ := hrel
    have Hal := Lib.hid hal
    clear hal
    by_cases hlt : k < len
    · obtain ⟨b, off, S, rfl, hbl, hS, c0, c1, c2, c3⟩ := (h.below hb).at_ hlt
      have k0 := cell_regrown c0
      have k1 := cell_regrown c1
      have k2 := cell_regrown c2
      have k3 := cell_regrown c3
      have hxs := refhas_any S x
      have hys := refhas_any S y
      have h1 := fun w' => hxs w' hx
      have h2 := fun w' => hys w' hy
      unfold setV at h1 h2
      have H1 := Lib.hid h1
      have H2 := Lib.hid h2
      have HS := Lib.hid hS
      clear hxs hys h1 h2 hS
      have wx : IntKind.u8.wrap (x : Int) = x := IntWalk.u8_in _ ⟨by omega, by omega⟩
      have wy : IntKind.u8.wrap (y : Int) = y := IntWalk.u8_in _ ⟨by omega, by omega⟩
      go_wp2
      refine wp_region_quiet_below (by kernel_rfl) (by kernel_rfl) ?_
      repeat (quiet_step (first | (with_reducible exact regrown_call H1.out _ _) | (with_reducible exact regrown_call H2.out _ _)))
      refine wpQuiet_nil ?_
      intro _ hw'
      obtain ⟨⟨dq, osq⟩, hw''⟩ := hw'
      subst hw''
      clear wx wy
      have hb2 := hb.trans ((below_regrown wr dq osq).mono hb.size)
      cases hxy : (S x == S y)
      · have Hr : Hid ((ls.all fun S => S x == S y) = false) := by
          show _ = _
          rw [List.all_eq_false]
          exact ⟨S, List.mem_of_getElem? HS.out, by simpa using hxy⟩
        go_wp2
        go_ret
        exact ⟨ret_bool Hr.out.symm, hb2⟩
      · go_wp2
        go_roundw
        case rel =>
          refine ⟨k + 1, by omega, by go_num, fun T hT => ?_, hb2⟩
          rw [List.take_add_one, HS.out] at hT
          rcases List.mem_append.1 hT with hT | hT
          · exact Hal.out T hT
          · have : T = S := by simpa using hT
            subst this; simpa using hxy
        case measure => simp [intOf]; omega
    · have Hr : Hid ((ls.all fun S => S x == S y) = true) := by
        show _ = _
        rw [List.all_eq_true]
        intro S hS
        have := Hal.out
        rw [List.take_of_length_le (by rw [Hl.out]; omega)] at this
        simp [this S hS]
      go_wp2
      go_ret
      exact ⟨ret_bool Hr.out.symm, hb⟩
end Go.Proofs.Ytmkgipoljbiocaa
namespace Go.Proofs.Ytmkgipoljbiocaa
open Go.RowKit Go.Sort

/-- A byte's side of each set. -/
def sigL (l : List (Nat → Bool)) : Nat → List Bool := fun b => l.map fun S => S b
/-- The classes of a list of sets. -/
def clsL (l : List (Nat → Bool)) : Nat → Nat := cls (sigL l)
theorem clsL_nil (b : Nat) : clsL [] b = 0 := by
  have : fi (sigL []) b = 0 := fi_unique _ rfl (fun x hx => absurd hx (by omega))
  unfold clsL cls; rw [this]; rfl
theorem clsL_snoc (l : List (Nat → Bool)) (S : Nat → Bool) (b : Nat) (hb : b < 256) : cls (pairC (clsL l) S) b = clsL (l ++ [S]) b := by
  unfold clsL
  refine cls_congr (N := 256) (fun x y _ _ => ?_) hb
  have h := cls_eq_iff (sigL l) x y
  constructor
  · intro e
    simp only [pairC, Prod.mk.injEq] at e
    have h2 := h.1 e.1
    simp only [sigL] at h2 ⊢
    rw [List.map_append, List.map_append, h2]
    simp [e.2]
  · intro e
    simp only [sigL, List.map_append, List.map_cons, List.map_nil] at e
    have h2 := List.append_inj' e rfl
    simp only [pairC, Prod.mk.injEq]
    exact ⟨h.2 h2.1, by simpa using h2.2⟩
theorem clsL_lt (l : List (Nat → Bool)) (i : Nat) (h : i < 256) : clsL l i < 256 := by have := cls_le_self (sigL l) i; unfold clsL; omega

attribute [local go_sem ↓] loadA_eq storeA_eq
set_option maxHeartbeats 1000000 in
set_option maxRecDepth 100000 in
theorem of_any (ls : List (Nat → Bool)) (a : Option Addr) (len cap : Nat) (w : World) (h : SRow w a len ls) :
    Calls Try.prog 26 #[.slice a len cap] w fun e w' => e = .returned (.tuple #[.agg (arrC (clsL ls)), .int .i64 (widthC (clsL ls) 256)]) ∧ Below w.heap.size w w' := by
  have hal := run_zero_arr
  have hl1 := h.1
  have hl2 := h.2.1
  have Hl := Lib.hid hl1
  clear hl1
  have a1 := (ArrAt.new w zeroC).alloc (.cells (arrC zeroC) 30)
  have b1 : ArrAt ((w.alloc (.cells (arrC zeroC) 30)).alloc (.cells (arrC zeroC) 30)) (w.heap.size + 1) zeroC := BlkAt.new _ _ _ (by simp)
  have A1 := Lib.hid a1
  have B1 := Lib.hid b1
  clear a1 b1
  go_enter Try.func26, Try.ntmps26
  go_wp2
  go_loopw [9] (fun i wr => ∃ k : Nat, k ≤ len ∧ i = .int .i64 k ∧ ArrAt wr w.heap.size zeroC ∧ ArrAt wr (w.heap.size + 1) (clsL (ls.take k)) ∧ Below w.heap.size w wr ∧ w.heap.size + 1 < wr.heap.size) (fun i _ => len - (intOf i).toNat)
  case atStart =>
    refine ⟨0, by omega, rfl, A1.out, B1.out.congr fun i _ => (clsL_nil i).symm, ((Below.refl _ _).alloc (Nat.le_refl _) _).alloc (by simp) _, by simp⟩
  case round =>
    obtain ⟨k, hk, rfl, hA, hB, hb, hl⟩ := hrel
    by_cases hlt : k < len
    · obtain ⟨b, off, S, rfl, hbl, hS, c0, c1, c2, c3⟩ := (h.below hb).at_ hlt
      have hsp := fun w' => split_any (clsL (ls.take k)) S w'
      unfold setV at hsp
      have HSP := Lib.hid hsp
      have HS := Lib.hid hS
      have HC : Hid (ls.take (k + 1) = ls.take k ++ [S]) := by show _ = _; rw [List.take_add_one, HS.out]; rfl
      clear hsp hS
      go_wp2_with (first
        | ((with_reducible refine wpList_load_arr rfl _ rfl (w.heap.size + 1) (clsL (ls.take k)) ?_ (hB.alloc _) ?_); rfl)
        | (go_at_call 54; (with_reducible refine (HSP.out _).mono ?_); rintro e w1 ⟨rfl, hb1⟩; have hz1 := hb1.size; have hB1 := (hB.alloc (setO S)).below hb1 (by simp; omega); have hA1 := (hA.alloc (setO S)).below hb1 (by simp; omega); have hbb := (hb.alloc hb.size (setO S)).trans (hb1.mono (by simp; omega)))
        | ((with_reducible refine wpList_store_arr rfl _ _ rfl (w.heap.size + 1) (clsL (ls.take k)) (cls (pairC (clsL (ls.take k)) S)) ?_ ?_ hB1 ?_); rfl; rfl; intro w2 hB2 hBe hO2 hS2; have HO2 := Lib.hid hO2; have HBe := Lib.hid hBe; clear hO2 hBe))
      go_roundw
      case rel =>
        refine ⟨k + 1, by omega, by go_num, (HO2.out _ (by omega)).trans hA1, ?_, hbb.trans (HBe.out _ (by omega)), ?_⟩
        · rw [HC.out]; exact hB2.congr fun i hi => clsL_snoc _ S i hi
        · have := hz1; simp at this; omega
      case measure => simp [intOf]; omega
    · have Hk : Hid (ls.take k = ls) := by
        show _ = _
        exact List.take_of_length_le (by rw [Hl.out]; omega)
      rw [Hk.out] at hB
      have hwd := Lib.hid fun w' => width_any (clsL ls) (clsL_lt ls) w'
      have hld := run_loadA wr.drew _ _ (show ArrAt wr.drew _ _ from hB)
      have HB := Lib.hid hB
      have HA := Lib.hid hA
      have HL := Lib.hid hl
      clear hB hA
      go_wp2
      go_region_with (first | (go_at_call 42; (with_reducible refine (hwd.out _).mono ?_); rintro e w1 ⟨rfl, hb1⟩; have HB1 := Lib.hid (HB.out.below ((Below.refl _ wr).drew.trans hb1) HL.out); have HA1 := Lib.hid (HA.out.below ((Below.refl _ wr).drew.trans hb1) (Nat.lt_of_succ_lt HL.out)); have hld1 := run_loadA w1 _ _ HB1.out; have hst1 := run_storeA w1 _ _ (clsL ls) HA1.out))
      all_goals go_wp2
      all_goals
        refine bodyPost_ret (results_arr_tmp rfl _ _ w.heap.size (clsL ls) _ rfl rfl HA1.out.row) rfl ⟨rfl, ?_⟩
        exact below_setRow' (hb.trans (((Below.refl _ wr).drew.trans hb1).mono hb.size)) (Nat.le_refl _) _
end Go.Proofs.Ytmkgipoljbiocaa
namespace Go.Proofs.Ytmkgipoljbiocaa
open Go.RowKit Go.Sort

theorem all_sig (ls : List (Nat → Bool)) (x y : Nat) : (ls.all fun S => S x == S y) = decide (sigL ls x = sigL ls y) := by
  unfold sigL
  induction ls with
  | nil => simp
  | cons S t ih =>
    rw [List.all_cons, ih]
    by_cases h1 : S x = S y <;> by_cases h2 : (t.map fun S => S x) = (t.map fun S => S y) <;> simp_all

set_option maxHeartbeats 1000000 in
set_option maxRecDepth 100000 in
theorem refof_any (ls : List (Nat → Bool)) (a : Option Addr) (len cap : Nat) (w : World) (h : SRow w a len ls) :
    Calls Try.prog 34 #[.slice a len cap] w fun e w' => e = .returned (.tuple #[.agg (arrC (clsL ls)), .int .i64 (cnt (sigL ls) 256)]) ∧ Below w.heap.size w w' := by
  have hal := run_zero_arr
  have hbu := run_build_arr
  have a2 := (ArrAt.new w zeroC).alloc (.cells (arrC zeroC) 30)
  have d2 : ArrAt ((w.alloc (.cells (arrC zeroC) 30)).alloc (.cells (arrC zeroC) 30)) (w.heap.size + 1) zeroC := BlkAt.new _ _ _ (by simp)
  have bel : Below w.heap.size w ((w.alloc (.cells (arrC zeroC) 30)).alloc (.cells (arrC zeroC) 30)) := ((Below.refl _ _).alloc (Nat.le_refl _) _).alloc (by simp) _
  have hs : ((w.alloc (.cells (arrC zeroC) 30)).alloc (.cells (arrC zeroC) 30)).heap.size = w.heap.size + 2 := by simp
  have A2 := Lib.hid a2
  have D2 := Lib.hid d2
  have BEL := Lib.hid bel
  have HS := Lib.hid hs
  clear a2 d2 bel hs
  go_enter Try.func34, Try.ntmps34
  go_wp2_with (refine wpList_store_arr rfl _ _ rfl (w.heap.size + 1) zeroC zeroC rfl rfl D2.out ?_; intro w1 hD hB1 hO1 hS1)
  have C1 : ArrAt w1 w.heap.size zeroC := (hO1 _ (by omega)).trans A2.out
  have bel1 : Below w.heap.size w w1 := BEL.out.trans (hB1 _ (by omega))
  have hs1 : w1.heap.size = w.heap.size + 2 := hS1.trans HS.out
  clear A2 D2 BEL HS hB1 hO1 hS1 hal hbu
  generalize hg3 : w.heap.size + 1 = g3 at hD ⊢
  have l3 : w.heap.size < g3 := by omega
  have l4 : g3 < w1.heap.size := by omega
  clear hg3 hs1
  have hD0 : ArrAt w1 g3 (outC (sigL ls) 0) := hD.congr fun i _ => by simp [outC, zeroC]
  clear hD
  go_loopw [5, 6] (fun n i wr => ∃ k : Nat, k ≤ 256 ∧ i = .int .i64 k ∧ n = .int .i64 (cnt (sigL ls) k) ∧ ArrAt wr g3 (outC (sigL ls) k) ∧ Below g3 w1 wr ∧ g3 < wr.heap.size) (fun _ i _ => 256 - (intOf i).toNat)
  case atStart => exact ⟨0, by omega, rfl, rfl, hD0, Below.refl _ _, l4⟩
  case round =>
    obtain ⟨k, hk, rfl, rfl, hD, hb, hl⟩ := hrel
    obtain ⟨wo, rfl⟩ : ∃ wo : World, wo = wr := ⟨_, rfl⟩
    by_cases hlt : k < 256
    · have hfk := fi_le (sigL ls) k
      have hcn := cnt_le (sigL ls) k
      have bk : (k : Int) < 256 := by omega
      have hbo : Below w.heap.size w wo := bel1.trans (hb.mono (by omega))
      go_wp2
      go_loopw [7] (fun i wr2 => ∃ a : Nat, a ≤ fi (sigL ls) k ∧ i = .int .i64 a ∧ Below wo.heap.size wo wr2) (fun i _ => 256 - (intOf i).toNat)
      case atStart => exact ⟨0, by omega, rfl, Below.refl _ _⟩
      case round =>
        obtain ⟨x, hx, rfl, hb2⟩ := hrel
        have hrow := h.below (hbo.trans (hb2.mono hbo.size))
        have hal := fun w' hr => alike_any ls x k a len cap w' hr (by omega) hlt
        have HAL := Lib.hid hal
        clear hal
        by_cases hfi : x < fi (sigL ls) k
        · have hne : (ls.all fun S => S x == S k) = false := by
            rw [all_sig]; simpa using fi_first (sigL ls) k x hfi
          go_wp2_with (go_at_call 58; (with_reducible refine (HAL.out _ hrow).mono ?_); rintro e w3 ⟨rfl, hb3⟩)
          go_roundw
          case rel => exact ⟨x + 1, by omega, by go_num, hb2.trans (hb3.mono hb2.size)⟩
          case measure => simp [intOf]; omega
        · have hak : x = fi (sigL ls) k := by omega
          have heq : (ls.all fun S => S x == S k) = true := by
            rw [all_sig, hak]; simpa using fi_eq (sigL ls) k
          have Hak := Lib.hid hak
          clear hak
          go_wp2_with (go_at_call 58; (with_reducible refine (HAL.out _ hrow).mono ?_); rintro e w3 ⟨rfl, hb3⟩; have hb4 := hb2.trans (hb3.mono hb2.size); have hDq := hD.below hb4 hl; have hcell := hDq.cell k hlt; have hfr := hDq.frozen k; have hca := hDq.cell x (by omega); have HD := Lib.hid hDq; clear hDq)
          · have hak : x < k := by assumption
            have hlq : g3 < w3.heap.size := by have := hb4.size; omega
            have Hb := hb.trans (hb4.mono (by omega : g3 ≤ wo.heap.size))
            have hcl : outC (sigL ls) k x = cls (sigL ls) k := by
              rw [outC, if_pos hak, Hak.out]
              exact (cls_eq_iff _ _ _).2 (fi_eq _ _)
            have hnn : cnt (sigL ls) (k + 1) = cnt (sigL ls) k := by
              have : isNew (sigL ls) k = false := by
                unfold isNew; rw [← Hak.out, beq_eq_false_iff_ne]; omega
              simp [cnt, this]
            go_roundw
            case rel =>
              refine ⟨k + 1, by omega, by go_num, by rw [hnn], ((HD.out).set_ k _ hlt).congr (outC_next _ k _ hcl), Hb.setCell (Nat.le_refl _) _, ?_⟩
              simpa [World.setCell] using hlq
            case measure => simp [intOf]; omega
          · have hak : x = k := by
              have : ¬ x < k := by assumption
              omega
            have hlq : g3 < w3.heap.size := by have := hb4.size; omega
            have Hb := hb.trans (hb4.mono (by omega : g3 ≤ wo.heap.size))
            have hnew : isNew (sigL ls) k = true := by
              unfold isNew; rw [← Hak.out, beq_iff_eq]; exact hak
            have hcl : cnt (sigL ls) k = cls (sigL ls) k := (cls_new _ hnew).symm
            have hnn : cnt (sigL ls) (k + 1) = cnt (sigL ls) k + 1 := by simp [cnt, hnew]
            go_roundw
            case rel =>
              refine ⟨k + 1, by omega, by go_num, by rw [hnn]; go_num, ((HD.out).set_ k _ hlt).congr (outC_next _ k _ hcl), Hb.setCell (Nat.le_refl _) _, ?_⟩
              simpa [World.setCell] using hlq
            case measure => simp [intOf]; omega
    · have hk2 : k = 256 := by omega
      have Hk := Lib.hid hk2
      clear hk2
      have hC2 := C1.below hb l3
      go_wp2_with (first | (refine wpList_load_arr rfl _ rfl g3 (outC (sigL ls) k) rfl hD ?_) | (refine wpList_store_arr rfl _ _ rfl w.heap.size zeroC (outC (sigL ls) k) rfl rfl hC2 ?_; intro w9 hR hB9 hO9 hS9))
      have hR2 := hR
      rw [Hk.out] at hR2
      have hR3 : ArrAt w9 w.heap.size (clsL ls) := hR2.congr (outC_all (sigL ls))
      refine bodyPost_ret (results_arr_tmp rfl _ _ w.heap.size (clsL ls) _ rfl rfl hR3) rfl ⟨?_, ?_⟩
      · rw [← Hk.out]; rfl
      · exact (bel1.trans (hb.mono (by omega))).trans (hB9 _ (by omega))
end Go.Proofs.Ytmkgipoljbiocaa
namespace Go.Proofs.Ytmkgipoljbiocaa
open Go.RowKit Go.Sort

def rightB (C : Nat → Nat) : Bool := (List.range 256).all fun b => cls C b == C b
theorem rightB_iff (C : Nat → Nat) : rightB C = true ↔ ∀ b, b < 256 → cls C b = C b := by
  unfold rightB
  rw [List.all_eq_true]
  exact ⟨fun h b hb => by simpa using h b (List.mem_range.2 hb), fun h b hb => by simpa using h b (List.mem_range.1 hb)⟩
theorem right_over (C : Nat → Nat) {b : Nat} (hb : b < 256) (h : cnt C b < C b) : rightB C = false := by
  rw [Bool.eq_false_iff]
  intro hr
  have := (rightB_iff C).1 hr b hb
  have := cls_le C b
  omega
theorem right_new (C : Nat → Nat) {b : Nat} (H : ∀ a, a < b → cls C a = C a) (h : C b = cnt C b) : (∀ a, a < b + 1 → cls C a = C a) ∧ cnt C (b + 1) = cnt C b + 1 := by
  have hn : isNew C b = true := by
    rw [isNew_iff]
    intro a ha e
    have := cls_lt C ha
    rw [H a ha, e, h] at this
    omega
  refine ⟨fun a ha => ?_, by simp [cnt, hn]⟩
  rcases Nat.lt_or_ge a b with hl | hl
  · exact H a hl
  · have : a = b := by omega
    subst this
    rw [cls_new C hn, h]
theorem right_old (C : Nat → Nat) {b : Nat} (H : ∀ a, a < b → cls C a = C a) (h : C b < cnt C b) : (∀ a, a < b + 1 → cls C a = C a) ∧ cnt C (b + 1) = cnt C b := by
  obtain ⟨a, h1, h2, h3⟩ := cls_surj C b (C b) h
  have e : C a = C b := by rw [← H a h1, h3]
  have hn : isNew C b = false := by
    rw [Bool.eq_false_iff]
    intro hn
    exact (isNew_iff C b).1 hn a h1 e
  refine ⟨fun x hx => ?_, by simp [cnt, hn]⟩
  rcases Nat.lt_or_ge x b with hl | hl
  · exact H x hl
  · have : x = b := by omega
    subst this
    rw [← h3]
    exact ((cls_eq_iff C x a).2 e.symm).trans rfl

set_option maxRecDepth 100000 in
theorem refright_any (C : Nat → Nat) (hC : ∀ i, i < 256 → C i < 256) (w : World) :
    Calls Try.prog 50 #[.agg (arrC C)] w fun e w' => e = .returned (.bool (rightB C)) ∧ Below w.heap.size w w' := by
  go_enter Try.func50, Try.ntmps50
  go_wp2
  go_loop [3, 4] (fun n i => ∃ k : Nat, k ≤ 256 ∧ i = .int .i64 k ∧ n = .int .i64 (cnt C k) ∧ ∀ a, a < k → cls C a = C a) (fun _ i => 256 - (intOf i).toNat)
  case atStart => exact ⟨0, by omega, rfl, rfl, by omega⟩
  case round =>
    obtain ⟨k, hk, rfl, rfl, H⟩ := hrel
    have HH := Lib.hid H
    clear H
    have hcl := cnt_le C k
    by_cases hlt : k < 256
    · have hi := arrC_at C k hlt
      have hc := hC k hlt
      have R1 := Lib.hid fun h => right_over C hlt h
      have R2 := Lib.hid fun h => right_new C HH.out h
      have R3 := Lib.hid fun h => right_old C HH.out h
      obtain ⟨m, hm⟩ : ∃ m, cnt C k = m := ⟨_, rfl⟩
      obtain ⟨c, hcc⟩ : ∃ c, C k = c := ⟨_, rfl⟩
      rw [hm, hcc] at R1 R2 R3
      rw [hcc] at hi hc
      rw [hm] at hcl ⊢
      clear hm hcc
      by_cases h1 : m < c
      · have hr := Lib.hid (R1.out h1)
        have h1' : (m : Int) < (c : Int) := by omega
        clear h1
        go_wp2
        go_ret
        exact ⟨ret_bool hr.out.symm, (Below.refl _ _).alloc (Nat.le_refl _) _⟩
      · have h1' : ¬ (m : Int) < (c : Int) := by omega
        by_cases h2 : c = m
        · obtain ⟨r1, r2⟩ := R2.out h2
          have Q1 := Lib.hid r1
          have Q2 := Lib.hid r2
          have h2' : ((c : Int) == (m : Int)) = true := by simp [h2]
          clear r1 r2 h1 h2
          go_wp2
          go_round
          case rel => exact ⟨k + 1, by omega, by go_num, by rw [Q2.out]; go_num, Q1.out⟩
          case measure => simp [intOf]; omega
        · obtain ⟨r1, r2⟩ := R3.out (by omega)
          have Q1 := Lib.hid r1
          have Q2 := Lib.hid r2
          have h2' : ((c : Int) == (m : Int)) = false := by simp; omega
          clear r1 r2 h1 h2
          go_wp2
          go_round
          case rel => exact ⟨k + 1, by omega, by go_num, by rw [Q2.out], Q1.out⟩
          case measure => simp [intOf]; omega
    · have Hk : Hid (rightB C = true) := (rightB_iff C).2 fun b hb => HH.out b (by omega)
      go_wp2
      go_ret
      exact ⟨ret_bool Hk.out.symm, (Below.refl _ _).alloc (Nat.le_refl _) _⟩
end Go.Proofs.Ytmkgipoljbiocaa
/- Two arrays of 256 bytes held against each other. -/
namespace Go.Proofs.Ytmkgipoljbiocaa
open Go.RowKit Go.Sort Go.Extern.Stop

def bl (C : Nat → Nat) : List UInt8 := (List.range 256).map fun i => UInt8.ofNat (C i)
theorem bl_len (C : Nat → Nat) : (bl C).length = 256 := by simp [bl]
theorem arrC_bl (C : Nat → Nat) (h : ∀ i, i < 256 → C i < 256) : arrC C = ((bl C).map cell).toArray := by
  apply Array.ext_getElem?
  intro k
  rcases Nat.lt_or_ge k 256 with hk | hk
  · rw [arrC_at C k hk]
    have : (UInt8.ofNat (C k)).toNat = C k := by rw [UInt8.toNat_ofNat']; have := h k hk; omega
    simp [bl, hk, cell, this]
  · rw [arrC_none C k hk, Array.getElem?_eq_none (by simp [bl_len]; exact hk)]
theorem bl_eq (C D : Nat → Nat) (hC : ∀ i, i < 256 → C i < 256) (hD : ∀ i, i < 256 → D i < 256) : (bl C == bl D) = ((List.range 256).all fun i => C i == D i) := by
  rw [Bool.eq_iff_iff, beq_iff_eq, List.all_eq_true]
  constructor
  · intro h i hi
    have hi' := List.mem_range.1 hi
    have h2 := congrArg (fun l => l[i]?) h
    simp [bl, hi'] at h2
    have h3 := congrArg UInt8.toNat h2
    rw [UInt8.toNat_ofNat', UInt8.toNat_ofNat'] at h3
    have := hC i hi'; have := hD i hi'
    rw [beq_iff_eq]; omega
  · intro h
    unfold bl
    apply List.map_congr_left
    intro i hi
    rw [beq_iff_eq.1 (h i hi)]
theorem run_eq_arr (C D : Nat → Nat) (hC : ∀ i, i < 256 → C i < 256) (hD : ∀ i, i < 256 → D i < 256) (w : World) :
    (Op.equalIn 10000 30 (.agg (arrC C)) (.agg (arrC D))).run Try.prog w = .ok ((List.range 256).all fun i => C i == D i) w := by
  obtain ⟨i0, hi, _, hz1, _⟩ := info_parts infoU8
  rw [arrC_bl C hC, arrC_bl D hD, ← bl_eq C D hC hD]
  exact run_equalIn_bytes w 9998 30 5 256 Try.underlying30 Try.underlying5 (fun w => by simp [sizeOf, typeInfo, hi, hz1]) (bl C) (bl D) (bl_len C) (bl_len D)
theorem run_eq_arr_refl (C : Nat → Nat) (hC : ∀ i, i < 256 → C i < 256) (w : World) : (Op.equalIn 10000 30 (.agg (arrC C)) (.agg (arrC C))).run Try.prog w = .ok true w := by
  rw [run_eq_arr C C hC hC w]
  congr 1
  simp
theorem guard_arr : Try.prog.eqGuardType Try.prog.depth 30 = false := by kernel_rfl
def eqA (x y : Value) : Sem Bool := Op.equalIn 10000 30 x y
theorem eqA_eq (x y : Value) : Op.equalIn 10000 30 x y = eqA x y := rfl
theorem eqA_eq' (x y : Value) : Op.equal 30 x y = eqA x y := rfl
theorem run_eqA (C D : Nat → Nat) (hC : ∀ i, i < 256 → C i < 256) (hD : ∀ i, i < 256 → D i < 256) (w : World) : (eqA (.agg (arrC C)) (.agg (arrC D))).run Try.prog w = .ok ((List.range 256).all fun i => C i == D i) w := run_eq_arr C D hC hD w
theorem run_eqA_refl (C : Nat → Nat) (hC : ∀ i, i < 256 → C i < 256) (w : World) : (eqA (.agg (arrC C)) (.agg (arrC C))).run Try.prog w = .ok true w := run_eq_arr_refl C hC w
end Go.Proofs.Ytmkgipoljbiocaa
namespace Go.Proofs.Ytmkgipoljbiocaa
open Go.RowKit Go.Sort

theorem width_cls {α : Type} [DecidableEq α] (p : Nat → α) : ∀ n, widthC (cls p) n = cnt p n
  | 0 => rfl
  | n + 1 => by
    simp only [widthC, cnt, width_cls p n]
    by_cases hn : isNew p n = true
    · rw [if_pos hn, cls_new p hn]; omega
    · have h1 := fi_le p n
      have h2 : fi p n ≠ n := fun e => hn (by unfold isNew; rw [e]; simp)
      have h3 := cls_lt p (show n < n + 1 by omega)
      simp only [cnt, hn] at h3
      rw [if_neg hn]
      simp at h3
      omega
def noS : Nat → Bool := fun _ => false
theorem wd_noS (i : Nat) : wd noS i = 0 := (wd_ext (by decide) fun k _ => by simp [noS]).symm
theorem cls_noS (C : Nat → Nat) (b : Nat) (hb : b < 256) : cls (pairC C noS) b = cls C b :=
  cls_congr (N := 256) (fun x y _ _ => by simp [pairC, noS]) hb
theorem split_no (C : Nat → Nat) (w : World) :
    Calls Try.prog 54 #[.agg (arrC C), .agg #[.int .u64 0, .int .u64 0, .int .u64 0, .int .u64 0]] w fun e w' => e = .returned (.agg (arrC (cls C))) ∧ Below w.heap.size w w' := by
  have h := split_any C noS w
  unfold setV at h
  simp only [wd_noS] at h
  rw [arrC_congr (cls_noS C)] at h
  exact h
theorem rightB_eq (C : Nat → Nat) : ((List.range 256).all fun i => cls C i == C i) = rightB C := rfl

attribute [local go_sem ↓] loadA_eq storeA_eq eqA_eq eqA_eq'
set_option maxHeartbeats 1000000 in
set_option maxRecDepth 100000 in
theorem right_any (C : Nat → Nat) (hC : ∀ i, i < 256 → C i < 256) (w : World) :
    Calls Try.prog 41 #[.agg (arrC C)] w fun e w' => e = .returned (.bool (rightB C)) ∧ Below w.heap.size w w' := by
  have hA := ArrAt.new w C
  have hcl : ∀ i, i < 256 → cls C i < 256 := fun i hi => by have := cls_le_self C i; omega
  have hld := fun d os => run_loadA (grow (redrawn (w.alloc (.cells (arrC C) 30)) d) os) w.heap.size C (hA.below (below_regrown _ d os) (by simp))
  have heq := fun w' => (run_eqA (cls C) C hcl hC w').trans (by rw [rightB_eq])
  have hgd := guard_arr
  have hsp := Lib.hid (split_no C)
  clear hA hcl
  go_enter Try.func41, Try.ntmps41
  go_wp2
  refine wp_region_quiet_below (by kernel_rfl) (by kernel_rfl) ?_
  repeat (go_big_quiet_step (with_reducible exact regrown_call hsp.out _ _))
  refine wpQuiet_nil ?_
  intro _ hw'
  obtain ⟨⟨dq, osq⟩, hw''⟩ := hw'
  subst hw''
  go_wp2
  go_ret
  exact ⟨rfl, ((Below.refl _ _).alloc (Nat.le_refl _) _).trans ((below_regrown _ dq osq).mono (by simp))⟩
end Go.Proofs.Ytmkgipoljbiocaa
