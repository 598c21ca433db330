/- As the frame asks: MunchCuts. -/
import Derived.Test.YtenijacffcdnaaaDoorMunchLC
import Derived.Test.YtenijacffcdnaaaDoorTw8
namespace Go.Proofs.YtenijacffcdnaaaDoor
open Go.RowKit
theorem cuts_walk (D : Df) (M : MS) (s : ByteArray) (p : Pc) (w : World) (h : MAt w D M) (hC : ∀ i, M.cl i < 256) (_ : s.size ≤ maxLen) (hN : NoneS w) :
    Calls Tryd.prog 4 #[.agg (dfA D), .string s, .agg #[.int .i64 p.t, .string p.s]] w fun e w' => e = .returned (.bool true) ∧ Below w.heap.size w w' := lawCuts_any w D M s p h (fun i _ => hC i) hN
end Go.Proofs.YtenijacffcdnaaaDoor
