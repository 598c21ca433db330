/- What the listed variable gives the walks; the world that the initialiser leaves. -/
import Derived.Test.YtnlpahdjiddooaaDoorEscLaws
namespace Go.Proofs.YtnlpahdjiddooaaDoor
open Go.RowKit

/-- An array of arrays of integers that reads as rows of numbers holds them, cell for cell. -/
theorem rows_of_tab {H : Type} {enc : TypeId × Value → H} {P : Program} {w : World} {base : Nat} {sp : Nat → Bool} {held : Bool} {fuel : Nat} {t e u : TypeId} {n m : Nat} {k : IntKind} {cs : List Value} {zs : List (List Int)} {p : List MemPlace}
    (ht : P.underlying t = some (.array n e)) (he : P.underlying e = some (.array m u)) (hu : P.underlying u = some (.int k)) (hcu : P.cellsOf u = 1) (hce : P.cellsOf e = m) (hct : P.cellsOf t = n * m)
    (h : DataW.trod enc P w base sp held fuel t cs = some (.agg (zs.map fun r => Lib.tabData k r), p)) :
    ∀ (i : Nat) (r : List Int), zs[i]? = some r → ∀ (j : Nat) (z : Int), r[j]? = some z → cs[i * m + j]? = some (.int k z) := by
  intro i r hr j z hz
  cases fuel with
  | zero => simp [DataW.trod] at h
  | succ fuel =>
    simp only [DataW.trod, ht, hce, hct] at h
    split at h
    · rename_i hl
      obtain ⟨xs, hm, hx⟩ := Option.map_eq_some_iff.1 h
      have hxs : xs.map (·.1) = zs.map fun r => (Lib.tabData k r : DataW H) := by
        have := congrArg Prod.fst hx
        simpa using this
      have hxl : xs.length = n := by simpa using Lib.mapM_length hm
      have hzl : zs.length = n := by
        have := congrArg List.length hxs
        simp at this
        omega
      have hi : i < n := by rw [← hzl]; exact (List.getElem?_eq_some_iff.1 hr).1
      obtain ⟨b, hb, hf⟩ := Lib.mapM_at hm i i (by simp [hi])
      have h2 : (xs.map (·.1))[i]? = some b.1 := by simp [hb]
      rw [hxs] at h2
      simp only [List.getElem?_map, hr, Option.map_some, Option.some.injEq] at h2
      have hf' : DataW.trod enc P w base sp held fuel e ((cs.drop (i * m)).take m) = some (Lib.tabData k r, b.2) := by
        rw [h2]; exact hf
      have hcs := Lib.cells_of_tab he hu hcu hce hf'
      have hj : ((cs.drop (i * m)).take m)[j]? = some (.int k z) := by rw [hcs, List.getElem?_map, hz]; rfl
      have hjm : j < m := by
        have := (List.getElem?_eq_some_iff.1 hj).1
        rw [List.length_take] at this; omega
      rw [List.getElem?_take_of_lt hjm, List.getElem?_drop] at hj
      exact hj
    · cases h
def tabL {H : Type} : List (String × DataW H) := [("facsimile/esc.short", Rows.laid_facsimile_esc_short)]
def tabZ : List (List Int) := [[110, 10], [116, 9], [114, 13], [34, 34], [92, 92]]
theorem tab_data : (Rows.laid_facsimile_esc_short : DataW Unit) = .agg (tabZ.map fun r => Lib.tabData .u8 r) := rfl
theorem gTab : Tryd.prog.globalNamed "facsimile/esc.short" = some 0 := by kernel_rfl
theorem tTab : (Tryd.prog.globals[0]?).map (·.type) = some 34 := by kernel_rfl
theorem c10 : Tryd.prog.cellsOf 34 = 5 * 2 := by kernel_rfl
theorem c2 : Tryd.prog.cellsOf 33 = 2 := by kernel_rfl
theorem c1 : Tryd.prog.cellsOf 5 = 1 := by kernel_rfl
theorem of_laid {W : World} (h : laidMetH Tryd.prog tabL W) : TabS W := by
  rw [MakeChecks.laidMetH_plain _ _ _ (by kernel_rfl)] at h
  obtain ⟨ps, ⟨g', t', cs, fuel, p, q, hg', ht', hvar, hd, _, _⟩, _⟩ := (show laidMet Tryd.prog (("facsimile/esc.short", .agg (tabZ.map fun r => Lib.tabData .u8 r)) :: []) W from h)
  obtain rfl := Option.some.inj (gTab.symm.trans hg')
  obtain rfl := Option.some.inj (tTab.symm.trans ht')
  have key := rows_of_tab Tryd.underlying34 Tryd.underlying33 Tryd.underlying5 c1 c2 c10 hd
  have cell : ∀ i v, cs.toList[i]? = some v → W.cell? ⟨0, i, none⟩ = some v := fun i v hv => by
    have := World.var?_cell gTab hvar i
    rw [this]; simpa using hv
  intro i hi
  have : i = 0 ∨ i = 1 ∨ i = 2 ∨ i = 3 ∨ i = 4 := by omega
  rcases this with rfl | rfl | rfl | rfl | rfl
  · exact ⟨cell _ _ (key 0 _ rfl 0 _ rfl), cell _ _ (key 0 _ rfl 1 _ rfl)⟩
  · exact ⟨cell _ _ (key 1 _ rfl 0 _ rfl), cell _ _ (key 1 _ rfl 1 _ rfl)⟩
  · exact ⟨cell _ _ (key 2 _ rfl 0 _ rfl), cell _ _ (key 2 _ rfl 1 _ rfl)⟩
  · exact ⟨cell _ _ (key 3 _ rfl 0 _ rfl), cell _ _ (key 3 _ rfl 1 _ rfl)⟩
  · exact ⟨cell _ _ (key 4 _ rfl 0 _ rfl), cell _ _ (key 4 _ rfl 1 _ rfl)⟩
/-- The door's own heap meets the condition. -/
theorem door_met (os : Os) (args : Array Value) : laidMetH Tryd.prog tabL ((World.doorLaid Tryd.prog 19 os).forCall (fun _ _ => 0) ⟨#[], args, []⟩).memory :=
  laidMetH_of_parts3 (fuel := 8) (laidMet_of_run' 8 (by kernel_rfl) (by kernel_rfl)) (by kernel_rfl) (by kernel_rfl)
theorem u8_nat' (b : Int) (h : (Lit.int .u8 b).wf = true) : ∃ n : Nat, b = (n : Int) ∧ n < 256 := by
  simp [Lit.wf, IntKind.min, IntKind.max, IntKind.signed, IntKind.bits] at h
  exact ⟨b.toNat, by omega, by omega⟩
theorem puts_walk (b : Int) (s : ByteArray) (w : World) (hb : (Lit.int .u8 b).wf = true) (_ : s.size ≤ maxLen) (hT : TabS w) :
    Calls Tryd.prog 3 #[.int .u8 b, .string s] w fun e w' => e = .returned (.bool true) ∧ Below w.heap.size w w' := by
  obtain ⟨n, rfl, hn⟩ := u8_nat' b hb
  exact puts_any n hn s w hT
theorem takes_walk (s : ByteArray) (at_ : Int) (w : World) (_ : s.size ≤ maxLen) (_ : (Lit.int .i64 at_).wf = true) (hT : TabS w) :
    Calls Tryd.prog 4 #[.string s, .int .i64 at_] w fun e w' => e = .returned (.bool true) ∧ Below w.heap.size w w' := takes_any s at_ w hT
end Go.Proofs.YtnlpahdjiddooaaDoor
