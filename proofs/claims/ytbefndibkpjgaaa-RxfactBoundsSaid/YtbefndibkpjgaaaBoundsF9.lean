/- As the frame asks: RxfactBounds. -/
import Derived.Test.YtbefndibkpjgaaaBounds9
import Derived.Test.YtbefndibkpjgaaaTw15
namespace Go.Proofs.Ytbefndibkpjgaaa
open Go.RowKit
theorem rxfactBounds_walk (a : Option Addr) (len cap : Nat) (rs : List Rx) (s : ByteArray) (w : World) (h : CRow rxC 5 w a len rs) (_ : s.size ≤ maxLen) :
    Calls Try.prog 5 #[.slice a len cap, .string s] w fun e w' => e = .returned (.bool true) ∧ Below w.heap.size w w' := bounds_walk a len cap rs s w h
end Go.Proofs.Ytbefndibkpjgaaa
