/- As the frame asks: RxfactJoins. -/
import Derived.Test.YtbefndibkpjgaaaJoins9
import Derived.Test.YtbefndibkpjgaaaTw15
namespace Go.Proofs.Ytbefndibkpjgaaa
open Go.RowKit
theorem rxfactJoins_walk (a : Option Addr) (len cap : Nat) (rs : List Rx) (a' : Option Addr) (len' cap' : Nat) (rs' : List Rx) (v s : ByteArray) (w : World) (h : CRow rxC 5 w a len rs) (h' : CRow rxC 5 w a' len' rs') (_ : v.size ≤ maxLen) (_ : s.size ≤ maxLen) :
    Calls Try.prog 6 #[.slice a len cap, .slice a' len' cap', .string v, .string s] w fun e w' => e = .returned (.bool true) ∧ Below w.heap.size w w' := joins_walk a len cap rs a' len' cap' rs' v s w h h'
end Go.Proofs.Ytbefndibkpjgaaa
