/- The walks as the frames want them. -/
import Derived.Test.YteppcfikalonbaaFrame
import Derived.Test.YteppcfikalonbaaOrdLawB
namespace Go.Proofs.Yteppcfikalonbaa.Law04
open Go.RowKit Go.Proofs.Yteppcfikalonbaa.Ord
theorem orderBack (xs : List Int) (a : Option Addr) (cap : Nat) (W : World) (h : ReadsI W .i64 a xs) (hc : xs.length ≤ cap) (_ : ∀ x ∈ xs, (Lit.int .i64 x).wf = true) (hl : xs.length * 8 ≤ 140737488351232) :
    Calls Try.prog 5 #[.slice a xs.length cap] W fun e W' => e = .returned (.bool true) ∧ Below W.heap.size W W' :=
  orderBack_walk xs a cap W h hc (by omega)
end Go.Proofs.Yteppcfikalonbaa.Law04
