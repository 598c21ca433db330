/- As the frame asks: RxfactAll. -/
import Derived.Test.YtbefndibkpjgaaaAll9
import Derived.Test.YtbefndibkpjgaaaTw15
namespace Go.Proofs.Ytbefndibkpjgaaa
open Go.RowKit
theorem rxfactAll_walk (a : Option Addr) (len cap : Nat) (rs : List Rx) (w : World) (h : CRow rxC 5 w a len rs) :
    Calls Try.prog 4 #[.slice a len cap] w fun e w' => e = .returned (.bool true) ∧ Below w.heap.size w w' := all_walk a len cap rs w h
end Go.Proofs.Ytbefndibkpjgaaa
