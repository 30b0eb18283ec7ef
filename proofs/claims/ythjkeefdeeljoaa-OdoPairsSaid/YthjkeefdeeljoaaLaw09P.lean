/- The walk of OdoPairs as its frame wants it. -/
import Derived.Test.YthjkeefdeeljoaaFrameV
import Derived.Test.YthjkeefdeeljoaaPairsL
namespace Go.Proofs.Ythjkeefdeeljoaa.Law09P
set_option linter.unusedVariables false
open Go.RowKit Go.Proofs.Ythjkeefdeeljoaa.Shp Go.Proofs.Ythjkeefdeeljoaa.Num
theorem odoPairs (xs ys : List Int) (off : Int) (A B : Option Addr) (ca cb : Nat) (xs2 ys2 : List Int) (off2 : Int) (C D : Option Addr) (cc cd : Nat) (W : World)
    (hx : ReadsI W .i64 A xs) (hy : ReadsI W .i64 B ys) (_ : xs.length ≤ ca) (_ : ys.length ≤ cb) (_ : ∀ x ∈ xs, (Lit.int .i64 x).wf = true) (_ : ∀ x ∈ ys, (Lit.int .i64 x).wf = true) (_ : (Lit.int .i64 off).wf = true)
    (hx2 : ReadsI W .i64 C xs2) (hy2 : ReadsI W .i64 D ys2) (_ : xs2.length ≤ cc) (_ : ys2.length ≤ cd) (_ : ∀ x ∈ xs2, (Lit.int .i64 x).wf = true) (_ : ∀ x ∈ ys2, (Lit.int .i64 x).wf = true) (_ : (Lit.int .i64 off2).wf = true) :
    Calls Try.prog 3 #[.agg #[.slice A xs.length ca, .slice B ys.length cb, .int .i64 off], .agg #[.slice C xs2.length cc, .slice D ys2.length cd, .int .i64 off2]] W fun e W' => e = .returned (.bool true) ∧ Below W.heap.size W W' :=
  (callsIn_wide (n := 5)).1 (pairs_walk xs ys off xs2 ys2 off2 A B C D ca cb cc cd W hx hy hx2 hy2)
end Go.Proofs.Ythjkeefdeeljoaa.Law09P
