/- rx: the chapter's examples. -/
import Derived.Test.YtjlmmpbichfaoaaRxText
import Derived.Test.YtjlmmpbichfaoaaRxWalk
import Derived.Test.YtjlmmpbichfaoaaOwnAt
namespace Go.Proofs.Ytjlmmpbichfaoaa
open Go.RowKit Go.PlainAid
set_option linter.unusedVariables false

def kR : List Rx := [⟨1, fun x => x == 97⟩, ⟨1, fun x => x == 98⟩, stp0 3]
theorem txt_ab : txtR ⟨#[97, 98]⟩ = kR := rfl
theorem chk_star : chkR [stp0 5] = 3 := by simp [chkR, walkR, wk, badR, okK, nP, stp0, zS_empty]
theorem high_kR : highR kR = 2 := by simp [kR, highR, chkR, walkR, wk, badR, okK, nP, stp0, zS_empty]
theorem knows_any (w : World) : Calls Try.prog 6 #[] w fun e w' => e = .returned (.bool true) ∧ Below w.heap.size w w' := by
  have HT := Lib.hid (text_any ⟨#[97, 98]⟩ w (by decide))
  rw [txt_ab] at HT
  unfold Gives at HT
  go_enter Try.func6, Try.ntmps6
  go_wp2_with fail
  refine HT.out.mono ?_
  rintro e w1 ⟨v, rfl, hown, hb⟩
  obtain ⟨A, c, rfl, hlc, hcc⟩ := own_form hown
  obtain ⟨g, rfl, hgb, hgs, hcl⟩ := own_at hown (by decide)
  have c0 : w1.cell? ⟨g, 10, none⟩ = some (.int .i64 3) := hcl 10 _ rfl
  have HB := Lib.hid hb
  have HR := Lib.hid (own_crow rxC_len hown (by decide))
  have HH := Lib.hid (high_any w1 _ _ c _ HR.out)
  rw [high_kR] at HH
  have hl : kR.length = 3 := rfl
  rw [hl] at HR HH ⊢
  clear hown hb hcl HT hl
  go_wp2_with fail
  refine HH.out.mono ?_
  rintro e w2 ⟨rfl, hb2⟩
  have HB2 := Lib.hid (HB.out.trans (hb2.mono HB.out.size))
  have HL1 := Lib.hid (own_crow (os := [stp0 5]) rxC_len (own_lit1 w2 w2.heap.size (Nat.le_refl _) (stp0 5) #[.int .i64 5, .int .u64 0, .int .u64 0, .int .u64 0, .int .u64 0] (by rw [stp0_C])) (by decide))
  have HCK := Lib.hid (check_any _ _ _ 1 _ HL1.out)
  rw [chk_star] at HCK
  have HB3 := Lib.hid (HB2.out.alloc HB2.out.size (.cells #[.int .i64 5, .int .u64 0, .int .u64 0, .int .u64 0, .int .u64 0] 44))
  clear hb2
  go_wp2_with fail
  refine HCK.out.mono ?_
  rintro e w3 ⟨rfl, hb3⟩
  have HB4 := Lib.hid (HB3.out.trans (hb3.mono HB3.out.size))
  clear hb3
  go_wp2
  go_ret
  exact ⟨rfl, HB4.out⟩
end Go.Proofs.Ytjlmmpbichfaoaa
