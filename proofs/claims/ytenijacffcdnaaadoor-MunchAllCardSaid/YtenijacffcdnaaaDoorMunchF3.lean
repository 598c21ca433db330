/- As the frame asks: MunchAll. -/
import Derived.Test.YtenijacffcdnaaaDoorMunchLA
import Derived.Test.YtenijacffcdnaaaDoorTw8
namespace Go.Proofs.YtenijacffcdnaaaDoor
open Go.RowKit
theorem all_walk (D : Df) (M : MS) (s : ByteArray) (w : World) (h : MAt w D M) (hC : ∀ i, M.cl i < 256) (_ : s.size ≤ maxLen) (hN : NoneS w) :
    Calls Tryd.prog 5 #[.agg (dfA D), .string s] w fun e w' => e = .returned (.bool true) ∧ Below w.heap.size w w' := lawAll_any w D M s h (fun i _ => hC i) hN
end Go.Proofs.YtenijacffcdnaaaDoor
