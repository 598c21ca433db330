/- As the frame asks: DfaRuns. -/
import Derived.Test.YtmkgipoljbiocaaTw11
namespace Go.Proofs.Ytmkgipoljbiocaa
open Go.RowKit
theorem dfaRuns_walk (D : Df) (M : MS) (z b : Int) (s : ByteArray) (w : World) (h : MAt w D M) (hC : ∀ i, M.cl i < 256) (_ : (Lit.int .i64 z).wf = true) (hb : (Lit.int .u8 b).wf = true) (_ : s.size ≤ maxLen) :
    Calls Try.prog 6 #[.agg (dfA D), .int .i64 z, .int .u8 b, .string s] w fun e w' => e = .returned (.bool true) ∧ Below w.heap.size w w' := by
  have h2 := bounds_u8 hb
  obtain ⟨n, rfl⟩ : ∃ n : Nat, b = (n : Int) := ⟨b.toNat, by omega⟩
  exact lawRuns_any w D M z n s (by omega) h (fun i _ => hC i)
end Go.Proofs.Ytmkgipoljbiocaa
