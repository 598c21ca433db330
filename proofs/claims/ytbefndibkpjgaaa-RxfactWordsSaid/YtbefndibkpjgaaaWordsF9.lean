/- As the frame asks: RxfactWords. -/
import Derived.Test.YtbefndibkpjgaaaWords9
import Derived.Test.YtbefndibkpjgaaaTw15
namespace Go.Proofs.Ytbefndibkpjgaaa
open Go.RowKit
theorem rxfactWords_walk (a : Option Addr) (len cap : Nat) (rs : List Rx) (s : ByteArray) (z : Int) (w : World) (h : CRow rxC 5 w a len rs) (_ : s.size ≤ maxLen) (_ : (Lit.int .i64 z).wf = true) :
    Calls Try.prog 3 #[.slice a len cap, .string s, .int .i64 z] w fun e w' => e = .returned (.bool true) ∧ Below w.heap.size w w' := words_walk a len cap rs s z w h
end Go.Proofs.Ytbefndibkpjgaaa
