/- The walk of ShapeTurns as its frame wants it. -/
import Derived.Test.YtilkijioocijcaaFrame
import Derived.Test.YtilkijioocijcaaTurns
namespace Go.Proofs.Ytilkijioocijcaa.Law07T
set_option linter.unusedVariables false
open Go.RowKit Go.Proofs.Ytilkijioocijcaa.Shp
theorem shapeTurns (xs : List Int) (a : Option Addr) (cap : Nat) (ys : List Int) (d : Option Addr) (capd : Nat) (axis n : Int) (ps : List Int) (c : Option Addr) (cap2 : Nat) (W : World)
    (h : ReadsI W .i64 a xs) (hc : xs.length ≤ cap) (_ : ∀ x ∈ xs, (Lit.int .i64 x).wf = true) (hl : xs.length * 8 ≤ 140737488351232)
    (h3 : ReadsI W .i64 d ys) (hc3 : ys.length ≤ capd) (_ : ∀ x ∈ ys, (Lit.int .i64 x).wf = true) (hl3 : ys.length * 8 ≤ 140737488351232) (_ : (Lit.int .i64 axis).wf = true) (_ : (Lit.int .i64 n).wf = true)
    (h2 : ReadsI W .i64 c ps) (hc2 : ps.length ≤ cap2) (_ : ∀ x ∈ ps, (Lit.int .i64 x).wf = true) (hl2 : ps.length * 8 ≤ 140737488351232) :
    Calls Try.prog 4 #[.slice a xs.length cap, .slice d ys.length capd, .int .i64 axis, .int .i64 n, .slice c ps.length cap2] W fun e W' => e = .returned (.bool true) ∧ Below W.heap.size W W' :=
  turns_walk xs a cap ys d capd axis n ps c cap2 W h hc h3 h2
end Go.Proofs.Ytilkijioocijcaa.Law07T
