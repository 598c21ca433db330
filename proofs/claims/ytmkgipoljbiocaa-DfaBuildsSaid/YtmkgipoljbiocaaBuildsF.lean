/- As the frame asks: DfaBuilds. -/
import Derived.Test.YtmkgipoljbiocaaTw11
namespace Go.Proofs.Ytmkgipoljbiocaa
open Go.RowKit
theorem dfaBuilds_walk (v : Nv) (N : NetS) (z : Int) (w : World) (h : NetAt w v N) (hc : FCap w v.fa v.fn) (_ : (Lit.int .i64 z).wf = true) :
    Calls Try.prog 3 #[.agg (netA v), .int .i64 z] w fun e w' => e = .returned (.bool true) ∧ Below w.heap.size w w' := lawBuilds_any w v N z h hc
end Go.Proofs.Ytmkgipoljbiocaa
