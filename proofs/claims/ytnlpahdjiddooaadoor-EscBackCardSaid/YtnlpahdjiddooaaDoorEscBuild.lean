/- strings.Builder: copyCheck, WriteByte, WriteString, String: by the names of this translation. -/
import Derived.Test.YtnlpahdjiddooaaDoorAppEl
import Derived.Test.YtnlpahdjiddooaaDoorRows
import Derived.WalkKit
import Derived.WalkLawsBesides
import Derived.WalkSpells
import Derived.Lib.Builder
import Derived.Lib.AppendStr
import Derived.Lib.UnsafeStr
import Derived.Lib.Hide
import Derived.Laws.Externs
namespace Go.Proofs.YtnlpahdjiddooaaDoor
open Go.RowKit
set_option linter.unusedVariables false

theorem infoB : (Tryd.prog.info? 38).map (·.size) = some 2 := by kernel_rfl
theorem liesB : liesAt Tryd.prog Tryd.prog.depth 38 (2 / Tryd.prog.cellsOf 38) 0 38 1 = true := by kernel_rfl
theorem infoU8 : (Tryd.prog.info? 5).map (fun i => (i.zero, i.size, i.bytes)) = some (some (.int .u8 0), 1, 1) := by kernel_rfl
/-- A builder at block b of just these bytes; used. -/
def Bld (B b : Nat) (l : List UInt8) (w : World) : Prop := Lib.BuilderAt 38 5 B b (.pointer (some ⟨b, 0, none⟩)) (Lib.byteCells l) w
theorem copycheck_used (b : Nat) (w : World) (h0 : w.cell? ⟨b, 0, none⟩ = some (.pointer (some ⟨b, 0, none⟩))) :
    Calls Tryd.prog 24 #[.pointer (some ⟨b, 0, none⟩)] w fun e w' => e = .returned (.tuple #[]) ∧ w' = w := by
  obtain ⟨j, hj, _⟩ := Option.map_eq_some_iff.1 infoB
  go_enter Tryd.func24, Tryd.ntmps24
  go_wp2
  rw [Lib.run_neq_ptr_same w _ Tryd.underlying36 hj]
  go_wp2
  go_end0
  exact ⟨rfl, rfl⟩
theorem copycheck_new (b : Nat) (w : World) (h0 : w.cell? ⟨b, 0, none⟩ = some (.pointer none)) (hsh : w.shape? b = some (38, 2)) (hfz : w.frozen? ⟨b, 0, none⟩ = false) :
    Calls Tryd.prog 24 #[.pointer (some ⟨b, 0, none⟩)] w fun e w' => e = .returned (.tuple #[]) ∧ w' = w.setCell ⟨b, 0, none⟩ (.pointer (some ⟨b, 0, none⟩)) := by
  obtain ⟨j, hj, hjs⟩ := Option.map_eq_some_iff.1 infoB
  go_enter Tryd.func24, Tryd.ntmps24
  go_wp2
  rw [Lib.run_to_unsafe w ⟨b, 0, none⟩ Tryd.underlying36 Tryd.underlying56 hj (by rw [hjs]; decide) hsh (Nat.zero_lt_succ 1)]
  simp only [Result.andThen]
  rw [Oper.upon_value]
  go_wp2
  rw [run_callFunc_extern Tryd.func27 (by kernel_rfl) (by kernel_rfl) (by kernel_rfl) (e := Extern.AbiNoEscape.same) (by kernel_rfl)]
  rw [Lib.run_noEscape]
  simp only [Result.andThen]
  rw [Oper.upon_value]
  go_wp2
  rw [Lib.run_from_unsafe w ⟨b, 0, none⟩ Tryd.underlying56 Tryd.underlying36 hj hsh liesB]
  simp only [Result.andThen]
  rw [Oper.upon_value]
  go_wp2
  go_end0
  exact ⟨rfl, rfl⟩
theorem copycheck_any (B b : Nat) (bs : List Value) (w : World) (h : Lib.IsBuilder 38 5 B b bs w) :
    Calls Tryd.prog 24 #[.pointer (some ⟨b, 0, none⟩)] w fun e w' => e = .returned (.tuple #[]) ∧ Lib.BuilderAt 38 5 B b (.pointer (some ⟨b, 0, none⟩)) bs w' ∧ Below B w w' ∧ w'.heap.size = w.heap.size := by
  rcases h with h | h
  · refine (copycheck_new b w h.cell0 h.shape h.frozen0).mono ?_
    rintro e w' ⟨rfl, rfl⟩
    exact ⟨rfl, h.used _, (Below.refl B w).setCell (p := ⟨b, 0, none⟩) h.1 _, by simp⟩
  · refine (copycheck_used b w h.cell0).mono ?_
    rintro e w' ⟨rfl, rfl⟩
    exact ⟨rfl, h, Below.refl B _, rfl⟩
def by1 (c : UInt8) : List Value := [.int .u8 c.toNat]
theorem by1_len (c : UInt8) : (by1 c).length = 1 := rfl
theorem by1_one (c : UInt8) : ∀ u ∈ by1 c, u.oneCell' = true := fun u hu => by simp [by1] at hu; subst hu; rfl
theorem by1_flat (l : List UInt8) : l.flatMap by1 = Lib.byteCells l := by
  induction l with
  | nil => rfl
  | cons c l ih => simp [by1, Lib.byteCells] at ih ⊢; exact ih
theorem wbyte_any (B b : Nat) (l : List UInt8) (c : UInt8) (w : World) (h : Lib.IsBuilder 38 5 B b (Lib.byteCells l) w) (hlen : l.length ≤ 100000) (hBw : B ≤ w.heap.size) :
    Calls Tryd.prog 17 #[.pointer (some ⟨b, 0, none⟩), .int .u8 c.toNat] w fun e w' => e = .returned .nilIface ∧ Bld B b (l ++ [c]) w' ∧ Below B w w' := by
  have HCC := Lib.hid (copycheck_any B b _ w h)
  unfold Bld
  clear h
  go_enter Tryd.func17, Tryd.ntmps17
  go_wp2_with fail
  refine HCC.out.mono ?_
  rintro e w1 ⟨rfl, h1, hb1, hs1⟩
  have hle1 : w.heap.size ≤ w1.heap.size := hb1.size
  clear hs1
  obtain ⟨hB, v, hbk, hown, hne⟩ := h1
  have hlt : b < w1.heap.size := Lib.BuilderAt.lt ⟨hB, v, hbk, hown, hne⟩
  have c1 : w1.cell? ⟨b, 1, none⟩ = some v := by rw [Lib.cell_of_heap hbk]; rfl
  rw [Lib.byteCells_length, ← by1_flat] at hown
  have HAP := Lib.hid (app_el (P := Tryd.prog) (C := by1) (T := 35) (by decide) by1_len by1_one Tryd.underlying35 infoU8 rfl hown c (by unfold maxLen; omega) (by omega) (by omega) w1.heap.size rfl #[.int .u8 c.toNat] rfl)
  have HBK := Lib.hid hbk
  have HNE := Lib.hid hne
  have HB1 := Lib.hid hb1
  have HOW := Lib.hid hown
  clear hbk hne hown HCC hb1
  go_wp2_with (at_builtin; refine HAP.out _ _ _ _ _ rfl _ _ rfl rfl rfl ?_; intro gg cap w2 hown1 hgrow hat; have HW := Lib.hid hown1; have HGR := Lib.hid hgrow; have HB2 : Hid (w2.heap[b]? = some (.cells #[.pointer (some ⟨b, 0, none⟩), v] 38 (0, 0))) := Lib.hid ((hgrow.block b (by simp; omega) (fun e => HNE.out e.symm)).trans ((heap_alloc_old w1 _ hlt).trans HBK.out)); have d1 : w2.cell? ⟨b, 1, none⟩ = some v := (Lib.cell_of_heap HB2.out 1).trans rfl; have f1 : w2.frozen? ⟨b, 1, none⟩ = false := Lib.frozen_of_heap HB2.out 1; clear hown1 hgrow hat)
  go_ret
  have hw := HW.out
  rw [by1_flat] at hw
  refine ⟨rfl, Lib.BuilderAt.put (T := 38) (e := 5) hB HB2.out (bs' := Lib.byteCells (l ++ [c])) (by rw [Lib.byteCells_length, List.length_append]; exact hw) (by decide), ?_⟩
  exact (below_grown (HB1.out.alloc (by omega) _) (by simp; omega) HGR.out (fun j hj => (own_ge HOW.out hj).1)).setCell (p := ⟨b, 1, none⟩) hB _
theorem wstr_any (B b : Nat) (l m : List UInt8) (w : World) (h : Lib.IsBuilder 38 5 B b (Lib.byteCells l) w) (hlen : l.length + m.length ≤ 100000) (hBw : B ≤ w.heap.size) :
    Calls Tryd.prog 18 #[.pointer (some ⟨b, 0, none⟩), .string ⟨m.toArray⟩] w fun e w' => (∃ v, e = .returned v) ∧ Bld B b (l ++ m) w' ∧ Below B w w' := by
  have HCC := Lib.hid (copycheck_any B b _ w h)
  obtain ⟨i0, hi, hz0, hz1, hz2⟩ := info_parts infoU8
  unfold Bld
  obtain ⟨s, hs⟩ : ∃ s : ByteArray, s = ⟨m.toArray⟩ := ⟨_, rfl⟩
  have hsz : s.size = m.length := by rw [hs]; simp [ByteArray.size]
  have HSC : Hid (Lib.strCells s = Lib.byteCells m) := Lib.hid (by rw [hs]; rfl)
  rw [← hs]
  clear h hs
  go_enter Tryd.func18, Tryd.ntmps18
  go_wp2_with fail
  refine HCC.out.mono ?_
  rintro e w1 ⟨rfl, h1, hb1, hs1⟩
  have hle1 : w.heap.size ≤ w1.heap.size := hb1.size
  clear hs1
  obtain ⟨hB, v, hbk, hown, hne⟩ := h1
  have hlt : b < w1.heap.size := Lib.BuilderAt.lt ⟨hB, v, hbk, hown, hne⟩
  have c1 : w1.cell? ⟨b, 1, none⟩ = some v := by rw [Lib.cell_of_heap hbk]; rfl
  rw [Lib.byteCells_length] at hown
  have HH := Lib.hid fun ops rest o a Q hg sl x ho hs hx => @Lib.wpList_append_own_string Tryd.prog w1 ops rest o a Q hg sl x 35 9 ho B 5 i0 Tryd.underlying35 Tryd.underlying9 hi hz0 hz1 hz2 v l.length (Lib.byteCells l) hs hown s hx (by unfold maxLen; omega) (by omega) (by omega)
  have HBK := Lib.hid hbk
  have HNE := Lib.hid hne
  have HB1 := Lib.hid hb1
  have HOW := Lib.hid hown
  have HSZ := Lib.hid hsz
  have hsz2 : s.size ≤ 100000 := by omega
  clear hbk hne hown HCC hb1 hsz hi hz0 hz1 hz2
  go_wp2_with (at_builtin; refine HH.out _ _ _ _ _ rfl _ _ rfl rfl rfl ?_; intro v2 w2 hown1 hgrow hat; have HW := Lib.hid hown1; have HGR := Lib.hid hgrow; have HB2 : Hid (w2.heap[b]? = some (.cells #[.pointer (some ⟨b, 0, none⟩), v] 38 (0, 0))) := Lib.hid ((hgrow.block b hlt (fun e => HNE.out e.symm)).trans HBK.out); have d1 : w2.cell? ⟨b, 1, none⟩ = some v := (Lib.cell_of_heap HB2.out 1).trans rfl; have f1 : w2.frozen? ⟨b, 1, none⟩ = false := Lib.frozen_of_heap HB2.out 1; have HF := Lib.hid (own_form hown1); clear hown1 hgrow hat; obtain ⟨A2, cc2, rfl, hle2, hcc2⟩ := HF.out; clear HF)
  go_ret2
  have hw := HW.out
  rw [HSC.out, ← Lib.byteCells_append] at hw
  refine ⟨⟨_, rfl⟩, Lib.BuilderAt.put (T := 38) (e := 5) hB HB2.out (bs' := Lib.byteCells (l ++ m)) (by rw [Lib.byteCells_length, List.length_append, ← HSZ.out]; exact hw) (by decide), ?_⟩
  exact (below_grown HB1.out (by omega) HGR.out (fun j hj => (own_ge HOW.out hj).1)).setCell (p := ⟨b, 1, none⟩) hB _
end Go.Proofs.YtnlpahdjiddooaaDoor
