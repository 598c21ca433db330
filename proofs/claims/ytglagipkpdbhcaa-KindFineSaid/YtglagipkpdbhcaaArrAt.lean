import Derived.Test.YtglagipkpdbhcaaArr
import Derived.Deep.WholeRow
namespace Go.Proofs.Ytglagipkpdbhcaa
open Go.RowKit Go.Sort

/-- Block g is an array of 256 bytes. -/
def ArrAt (w : World) (g : Nat) (C : Nat → Nat) : Prop := w.heap[g]? = some (.cells (arrC C) 24 (0, 0))
theorem ArrAt.lt {w : World} {g : Nat} {C : Nat → Nat} (h : ArrAt w g C) : g < w.heap.size := by
  rcases Nat.lt_or_ge g w.heap.size with hl | hl
  · exact hl
  · unfold ArrAt at h; rw [Array.getElem?_eq_none hl] at h; cases h
theorem ArrAt.cell {w : World} {g : Nat} {C : Nat → Nat} (h : ArrAt w g C) (k : Nat) (hk : k < 256) : w.cell? ⟨g, k, none⟩ = some (.int .u8 (C k)) := by
  rw [cell_of_row w g k _ _ _ h]; exact arrC_at C k hk
theorem ArrAt.frozen {w : World} {g : Nat} {C : Nat → Nat} (h : ArrAt w g C) (k : Nat) : w.frozen? ⟨g, k, none⟩ = false := frozen_of_row w g k _ _ h
theorem ArrAt.below {B g : Nat} {w w' : World} {C : Nat → Nat} (h : ArrAt w g C) (hb : Below B w w') (hg : g < B) : ArrAt w' g C := (hb.block g hg).trans h
theorem ArrAt.set_ {w : World} {g : Nat} {C : Nat → Nat} (h : ArrAt w g C) (k v : Nat) (hk : k < 256) : ArrAt (w.setCell ⟨g, k, none⟩ (.int .u8 v)) g (upd C k v) := by
  unfold ArrAt
  rw [heap_setCell_same w g k _ _ _ h, arrC_set C k v hk]
theorem ArrAt.far {w : World} {g : Nat} {C : Nat → Nat} (h : ArrAt w g C) {p : Addr} (hp : g ≠ p.block) (u : Value) : ArrAt (w.setCell p u) g C := (heap_setCell_other w p g u hp).trans h
theorem ArrAt.new (w : World) (C : Nat → Nat) : ArrAt (w.alloc (.cells (arrC C) 24)) w.heap.size C := heap_alloc_new w _
theorem ArrAt.alloc {w : World} {g : Nat} {C : Nat → Nat} (h : ArrAt w g C) (o : Obj) : ArrAt (w.alloc o) g C := (Below.heap_alloc w o g h.lt).trans h
theorem ArrAt.congr {w : World} {g : Nat} {C D : Nat → Nat} (h : ArrAt w g C) (hCD : ∀ i, i < 256 → C i = D i) : ArrAt w g D := by
  unfold ArrAt at *; rw [← arrC_congr hCD]; exact h
theorem ArrAt.row {w : World} {g : Nat} {C D : Nat → Nat} (h : ArrAt w g C) : ArrAt (w.setRow g (arrC D)) g D := setRow_heap w g _ _ _ _ h
theorem ArrAt.row_other {w : World} {g k : Nat} {C : Nat → Nat} (h : ArrAt w g C) (hk : g ≠ k) (cs : Array Value) : ArrAt (w.setRow k cs) g C := (setRow_other w k g cs hk).trans h
theorem below_setRow' {B g : Nat} {w0 w : World} (hb : Below B w0 w) (hBg : B ≤ g) (cs : Array Value) : Below B w0 (w.setRow g cs) :=
  hb.trans ⟨rfl, rfl, rfl, by simp, fun k hk => setRow_other w g k cs (by omega)⟩
theorem arrC_one (C : Nat → Nat) : (arrC C).all (·.oneCell') = true := by
  rw [Array.all_eq_true]
  intro i hi
  have h := arrC_at C i (by rw [arrC_size] at hi; exact hi)
  rw [Array.getElem?_eq_getElem hi] at h
  injection h with h
  rw [h]; rfl
/-- A block, whole. -/
def BlkAt (w : World) (g : Nat) (o : Obj) : Prop := w.heap[g]? = some o
theorem BlkAt.lt {w : World} {g : Nat} {o : Obj} (h : BlkAt w g o) : g < w.heap.size := by
  rcases Nat.lt_or_ge g w.heap.size with hl | hl
  · exact hl
  · unfold BlkAt at h; rw [Array.getElem?_eq_none hl] at h; cases h
theorem BlkAt.new (w : World) (o : Obj) (g : Nat) (hg : g = w.heap.size) : BlkAt (w.alloc o) g o := by subst hg; exact heap_alloc_new w o
theorem BlkAt.alloc {w : World} {g : Nat} {o : Obj} (h : BlkAt w g o) (o' : Obj) : BlkAt (w.alloc o') g o := (Below.heap_alloc w o' g h.lt).trans h
theorem BlkAt.below {B g : Nat} {w w' : World} {o : Obj} (h : BlkAt w g o) (hb : Below B w w') (hg : g < B) : BlkAt w' g o := (hb.block g hg).trans h
/-- A set in a block of its own. -/
def setO (S : Nat → Bool) : Obj := .cells #[.int .u64 (wd S 0), .int .u64 (wd S 1), .int .u64 (wd S 2), .int .u64 (wd S 3)] 28 (0, 0)
theorem setO_cell {w : World} {g : Nat} {S : Nat → Bool} (h : BlkAt w g (setO S)) (i : Nat) (hi : i < 4) : w.cell? ⟨g, i, none⟩ = some (.int .u64 (wd S i)) := by
  rw [cell_of_row w g i _ _ _ h]; exact words_at S i hi
/-- An array stored whole into such a block: the world behind it by what holds of it. -/
theorem wpList_store_arr {ops : Array Oper} {rest : List Oper} {o : Oper} {a : Act} {w : World} {Q : Exit → Act → World → Prop} (hgd : o.guard = none) (x y : Operand) (ho : o.op = .store 24 x y)
    (g : Nat) (C D : Nat → Nat) (hx : a.eval x = .pointer (some ⟨g, 0, none⟩)) (hy : a.eval y = .agg (arrC D)) (hg : ArrAt w g C)
    (h : ∀ w', ArrAt w' g D → (∀ B, B ≤ g → Below B w w') → (∀ k, k ≠ g → w'.heap[k]? = w.heap[k]?) → w'.heap.size = w.heap.size → wpList Try.prog ops Q rest (a.put o.dst undef) w') : wpList Try.prog ops Q (o :: rest) a w := by
  refine wpList_store_row hgd 24 x y ho g (arrC D) hx hy 24 (arrC C) hg (sizeArr D) (by rw [arrC_size, arrC_size]) (arrC_one D) ?_
  exact h _ hg.row (fun B hB => below_setRow' (Below.refl _ _) hB _) (fun k hk => setRow_other w g k _ hk) (by simp)
theorem wpList_load_arr {ops : Array Oper} {rest : List Oper} {o : Oper} {a : Act} {w : World} {Q : Exit → Act → World → Prop} (hgd : o.guard = none) (x : Operand) (ho : o.op = .load 24 x)
    (g : Nat) (C : Nat → Nat) (hx : a.eval x = .pointer (some ⟨g, 0, none⟩)) (hg : ArrAt w g C)
    (h : wpList Try.prog ops Q rest (a.put o.dst (.agg (arrC C))) w) : wpList Try.prog ops Q (o :: rest) a w :=
  wpList_load_row hgd 24 x ho g hx 24 (arrC C) (0, 0) _ hg Try.underlying24 rfl (sizeArr C) h
theorem run_loadVar_arr (w : World) (g : Nat) (C : Nat → Nat) (h : ArrAt w g C) : (loadVar 24 ⟨g, 0, none⟩).run Try.prog w = .ok (.agg (arrC C)) w :=
  run_loadVar_row w g 24 24 (arrC C) (0, 0) _ h Try.underlying24 rfl (sizeArr C)
theorem run_storeVar_arr (w : World) (g : Nat) (C D : Nat → Nat) (h : ArrAt w g C) : (storeVar 24 ⟨g, 0, none⟩ (.agg (arrC D))).run Try.prog w = .ok () (w.setRow g (arrC D)) :=
  run_storeVar_row w g 24 24 (arrC C) (arrC D) h (sizeArr D) (by rw [arrC_size, arrC_size]) (arrC_one D)
/-- Two results: an array in its block, a number. -/
theorem results_arr_tmp {fn : Func} {p t : Tmp} (h : fn.results = #[.cell p 24, .tmp t]) (tmps : Array Value) (w : World) (g : Nat) (C : Nat → Nat) (v : Value)
    (hp : tmps.getD p undef = .pointer (some ⟨g, 0, none⟩)) (hv : tmps.getD t undef = v) (hg : ArrAt w g C) :
    (results fn tmps).run Try.prog w = .ok (.tuple #[.agg (arrC C), v]) w := by
  have hp' : tmps[p]?.getD undef = .pointer (some ⟨g, 0, none⟩) := by simpa using hp
  have hv' : tmps[t]?.getD undef = v := by simpa using hv
  simp [results, h, hp', hv', asAddr, run_loadVar_arr w g C hg]
theorem step_load_arr {ops : Array Oper} {o : Oper} {a : Act} {w : World} {K : Act → World → Prop} {Q : Exit → Act → World → Prop} {E : Prop} (hgd : o.guard = none) (x : Operand) (ho : o.op = .load 24 x)
    (g : Nat) (C : Nat → Nat) (hx : a.eval x = .pointer (some ⟨g, 0, none⟩)) (hg : ArrAt w g C) (h : K (a.put o.dst (.agg (arrC C))) w) :
    if Region.wanted o (yielded ops a.tmps) = true then Oper.wp Try.prog o a w K Q else E := by
  have hw : Region.wanted o (yielded ops a.tmps) = true := by simp [Region.wanted, hgd]
  rw [if_pos hw]
  exact wp_load_row 24 x ho g hx 24 (arrC C) (0, 0) _ hg Try.underlying24 rfl (sizeArr C) h
theorem step_store_arr {ops : Array Oper} {o : Oper} {a : Act} {w : World} {K : Act → World → Prop} {Q : Exit → Act → World → Prop} {E : Prop} (hgd : o.guard = none) (x y : Operand) (ho : o.op = .store 24 x y)
    (g : Nat) (C D : Nat → Nat) (hx : a.eval x = .pointer (some ⟨g, 0, none⟩)) (hy : a.eval y = .agg (arrC D)) (hg : ArrAt w g C) (h : K (a.put o.dst undef) (w.setRow g (arrC D))) :
    if Region.wanted o (yielded ops a.tmps) = true then Oper.wp Try.prog o a w K Q else E := by
  have hw : Region.wanted o (yielded ops a.tmps) = true := by simp [Region.wanted, hgd]
  rw [if_pos hw]
  exact wp_store_row 24 x y ho g (arrC D) hx hy 24 (arrC C) hg (sizeArr D) (by rw [arrC_size, arrC_size]) (arrC_one D) h
/-! The same two operations behind names of their own, so that a walk does not lay them out cell by cell (inside a region that draws its order). -/
def loadA (a : Addr) : Sem Value := loadVar 24 a
def storeA (a : Addr) (v : Value) : Sem Unit := storeVar 24 a v
theorem loadA_eq (a : Addr) : loadVar 24 a = loadA a := rfl
theorem storeA_eq (a : Addr) (v : Value) : storeVar 24 a v = storeA a v := rfl
theorem run_loadA (w : World) (g : Nat) (C : Nat → Nat) (h : ArrAt w g C) : (loadA ⟨g, 0, none⟩).run Try.prog w = .ok (.agg (arrC C)) w := run_loadVar_arr w g C h
theorem run_storeA (w : World) (g : Nat) (C D : Nat → Nat) (h : ArrAt w g C) : (storeA ⟨g, 0, none⟩ (.agg (arrC D))).run Try.prog w = .ok () (w.setRow g (arrC D)) := run_storeVar_arr w g C D h
end Go.Proofs.Ytglagipkpdbhcaa
