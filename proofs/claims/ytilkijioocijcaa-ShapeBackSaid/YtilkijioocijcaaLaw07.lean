/- The walk of ShapeBack as its frame wants it. -/
import Derived.Test.YtilkijioocijcaaFrame
import Derived.Test.YtilkijioocijcaaLaw07B
namespace Go.Proofs.Ytilkijioocijcaa.Law07
set_option linter.unusedVariables false
open Go.RowKit Go.Proofs.Ytilkijioocijcaa.Shp
theorem shapeBack (xs : List Int) (a : Option Addr) (cap : Nat) (place : Int) (ps : List Int) (c : Option Addr) (cap2 : Nat) (W : World)
    (h : ReadsI W .i64 a xs) (hc : xs.length ≤ cap) (_ : ∀ x ∈ xs, (Lit.int .i64 x).wf = true) (hl : xs.length * 8 ≤ 140737488351232) (_ : (Lit.int .i64 place).wf = true)
    (h2 : ReadsI W .i64 c ps) (hc2 : ps.length ≤ cap2) (_ : ∀ x ∈ ps, (Lit.int .i64 x).wf = true) (hl2 : ps.length * 8 ≤ 140737488351232) :
    Calls Try.prog 3 #[.slice a xs.length cap, .int .i64 place, .slice c ps.length cap2] W fun e W' => e = .returned (.bool true) ∧ Below W.heap.size W W' :=
  back_walk xs a cap place ps c cap2 W h h2
end Go.Proofs.Ytilkijioocijcaa.Law07
