/- As the frame asks: MunchNext. -/
import Derived.Test.YtenijacffcdnaaaDoorTw8
namespace Go.Proofs.YtenijacffcdnaaaDoor
open Go.RowKit
theorem next_walk (D : Df) (M : MS) (s : ByteArray) (z : Int) (w : World) (h : MAt w D M) (hC : ∀ i, M.cl i < 256) (_ : s.size ≤ maxLen) (_ : (Lit.int .i64 z).wf = true) (hN : NoneS w) :
    Calls Tryd.prog 3 #[.agg (dfA D), .string s, .int .i64 z] w fun e w' => e = .returned (.bool true) ∧ Below w.heap.size w w' := lawNext_any w D M s z h (fun i _ => hC i) hN
end Go.Proofs.YtenijacffcdnaaaDoor
