/- What the listed variable gives the walks; the world that the initialiser leaves. -/
import Derived.Test.YtglgmnhfpemfeaaDoorBKnows
import Derived.Lib.LaidTab
import Derived.LaidMore
import Derived.MakeChecks
namespace Go.Proofs.YtglgmnhfpemfeaaDoor
open Go.RowKit

def tabL {H : Type} : List (String × DataW H) := [("math/bits.deBruijn64tab", Rows.laid_math_bits_deBruijn64tab)]
def tabZ : List Int := Lib.deBruijn64tab.map fun (n : Nat) => (n : Int)
theorem tab_data : (Rows.laid_math_bits_deBruijn64tab : DataW Unit) = Lib.tabData .u8 tabZ := rfl
theorem gTab : Tryd.prog.globalNamed "math/bits.deBruijn64tab" = some 0 := by kernel_rfl
theorem tTab : (Tryd.prog.globals[0]?).map (·.type) = some 49 := by kernel_rfl
theorem c64 : Tryd.prog.cellsOf 49 = 64 := by kernel_rfl
theorem c1 : Tryd.prog.cellsOf 5 = 1 := by kernel_rfl
theorem of_laid {W : World} (h : laidMetH Tryd.prog tabL W) : TabT W := by
  rw [MakeChecks.laidMetH_plain _ _ _ (by kernel_rfl)] at h
  have h2 := Lib.tabIs_of_head gTab tTab Tryd.underlying49 Tryd.underlying5 c1 c64 (show laidMet Tryd.prog (("math/bits.deBruijn64tab", Lib.tabData .u8 tabZ) :: []) W from h)
  intro j hj
  have h3 := h2.cell gTab j (by decide +revert)
  rw [h3]
  congr 2
  unfold tabZ
  rw [List.getD_eq_getElem?_getD, List.getElem?_map, List.getD_eq_getElem?_getD]
  cases Lib.deBruijn64tab[j]? <;> rfl
/-- The door's own heap meets the condition. -/
theorem door_met (os : Os) (args : Array Value) : laidMetH Tryd.prog tabL ((World.doorLaid Tryd.prog 14 os).forCall (fun _ _ => 0) ⟨#[], args, []⟩).memory :=
  laidMetH_of_parts3 (fuel := 8) (laidMet_of_run' 8 (by kernel_rfl) (by kernel_rfl)) (by kernel_rfl) (by kernel_rfl)
theorem makes_walk (b lo hi : Int) (w : World) (hb : (Lit.int .u8 b).wf = true) (_ : (Lit.int .i64 lo).wf = true) (_ : (Lit.int .i64 hi).wf = true) (hT : TabT w) :
    Calls Tryd.prog 3 #[.int .u8 b, .int .i64 lo, .int .i64 hi] w fun e w' => e = .returned (.bool true) ∧ Below w.heap.size w w' := by
  have h : 0 ≤ b ∧ b ≤ 255 := by
    have h := hb
    simp [Lit.wf, IntKind.min, IntKind.max, IntKind.signed, IntKind.bits] at h
    exact ⟨by omega, by omega⟩
  obtain ⟨n, rfl⟩ : ∃ n : Nat, b = n := ⟨b.toNat, by omega⟩
  exact makes_any n (by omega) lo hi w hT
end Go.Proofs.YtglgmnhfpemfeaaDoor
