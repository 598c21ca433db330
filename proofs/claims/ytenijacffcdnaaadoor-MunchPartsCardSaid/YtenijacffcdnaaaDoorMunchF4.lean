/- As the frame asks: MunchParts. -/
import Derived.Test.YtenijacffcdnaaaDoorMunchLP
import Derived.Test.YtenijacffcdnaaaDoorTw8
namespace Go.Proofs.YtenijacffcdnaaaDoor
open Go.RowKit
theorem parts_walk (D : Df) (M : MS) (s : ByteArray) (b : Int) (w : World) (h : MAt w D M) (hC : ∀ i, M.cl i < 256) (_ : s.size ≤ maxLen) (hb : (Lit.int .u8 b).wf = true) (hN : NoneS w) :
    Calls Tryd.prog 6 #[.agg (dfA D), .string s, .int .u8 b] w fun e w' => e = .returned (.bool true) ∧ Below w.heap.size w w' := by
  have hb' : 0 ≤ b ∧ b ≤ 255 := by
    have h := hb
    simp [Lit.wf, IntKind.min, IntKind.max, IntKind.signed, IntKind.bits] at h
    exact ⟨by omega, by omega⟩
  obtain ⟨k, rfl⟩ : ∃ k : Nat, b = (k : Int) := ⟨b.toNat, by omega⟩
  exact lawParts_any w D M s k (by omega) h (fun i _ => hC i) hN
end Go.Proofs.YtenijacffcdnaaaDoor
