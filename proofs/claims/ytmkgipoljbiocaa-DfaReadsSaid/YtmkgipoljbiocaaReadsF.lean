/- As the frame asks: DfaReads. -/
import Derived.Test.YtmkgipoljbiocaaTw14
namespace Go.Proofs.Ytmkgipoljbiocaa
open Go.RowKit
theorem dfaReads_walk (a : Option Addr) (len cap : Nat) (ts : List TkN) (s : ByteArray) (w : World) (h : TkAny w a len ts) (_ : s.size ≤ maxLen) :
    Calls Try.prog 4 #[.slice a len cap, .string s] w fun e w' => e = .returned (.bool true) ∧ Below w.heap.size w w' := lawReads_any w a len cap ts s h
end Go.Proofs.Ytmkgipoljbiocaa
