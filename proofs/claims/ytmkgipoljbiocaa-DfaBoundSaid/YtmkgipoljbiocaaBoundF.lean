/- As the frame asks: DfaBound. -/
import Derived.Test.YtmkgipoljbiocaaTw12
namespace Go.Proofs.Ytmkgipoljbiocaa
open Go.RowKit
theorem dfaBound_walk (a : Option Addr) (len cap : Nat) (ts : List TkN) (b : Int) (w : World) (h : TkAny w a len ts) (hb : (Lit.int .u8 b).wf = true) :
    Calls Try.prog 5 #[.slice a len cap, .int .u8 b] w fun e w' => e = .returned (.bool true) ∧ Below w.heap.size w w' := by
  have h2 := bounds_u8 hb
  obtain ⟨n, rfl⟩ : ∃ n : Nat, b = (n : Int) := ⟨b.toNat, by omega⟩
  exact lawBound_any w a len cap ts n (by omega) h
end Go.Proofs.Ytmkgipoljbiocaa
