/- The walk as the frame wants it. -/
import Derived.Test.YteppcfikalonbaaFrame
import Derived.Test.YteppcfikalonbaaOrdTells
namespace Go.Proofs.Yteppcfikalonbaa.Law04
open Go.RowKit Go.Proofs.Yteppcfikalonbaa.Ord
set_option linter.unusedVariables false in
theorem orderTells (xs : List Int) (a : Option Addr) (cap : Nat) (ys : List Int) (b : Option Addr) (capb : Nat) (W : World) (h : ReadsI W .i64 a xs) (hc : xs.length ≤ cap) (_ : ∀ x ∈ xs, (Lit.int .i64 x).wf = true) (hl : xs.length * 8 ≤ 140737488351232)
    (hy : ReadsI W .i64 b ys) (hcy : ys.length ≤ capb) (_ : ∀ x ∈ ys, (Lit.int .i64 x).wf = true) (hly : ys.length * 8 ≤ 140737488351232) :
    Calls Try.prog 3 #[.slice a xs.length cap, .slice b ys.length capb] W fun e W' => e = .returned (.bool true) ∧ Below W.heap.size W W' :=
  orderTells_walk xs ys a b cap capb W h hy (by omega) (by omega)
end Go.Proofs.Yteppcfikalonbaa.Law04
