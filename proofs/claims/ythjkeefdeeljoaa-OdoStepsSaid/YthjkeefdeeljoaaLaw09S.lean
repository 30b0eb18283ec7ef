/- The walk of OdoSteps as its frame wants it. -/
import Derived.Test.YthjkeefdeeljoaaFrameV
import Derived.Test.YthjkeefdeeljoaaSteps
namespace Go.Proofs.Ythjkeefdeeljoaa.Law09S
set_option linter.unusedVariables false
open Go.RowKit Go.Proofs.Ythjkeefdeeljoaa.Shp Go.Proofs.Ythjkeefdeeljoaa.Num
theorem odoSteps (xs ys : List Int) (off : Int) (A B : Option Addr) (ca cb : Nat) (more : Int) (W : World)
    (hx : ReadsI W .i64 A xs) (hy : ReadsI W .i64 B ys) (_ : xs.length ≤ ca) (_ : ys.length ≤ cb) (_ : ∀ x ∈ xs, (Lit.int .i64 x).wf = true) (_ : ∀ x ∈ ys, (Lit.int .i64 x).wf = true) (_ : (Lit.int .i64 off).wf = true) (hm : (Lit.int .i64 more).wf = true) :
    Calls Try.prog 4 #[.agg #[.slice A xs.length ca, .slice B ys.length cb, .int .i64 off], .int .i64 more] W fun e W' => e = .returned (.bool true) ∧ Below W.heap.size W W' :=
  steps_walk xs ys off more A B ca cb W hx hy (by
    simp [Lit.wf, IntKind.min, IntKind.max, IntKind.signed, IntKind.bits] at hm
    unfold fits
    omega)
end Go.Proofs.Ythjkeefdeeljoaa.Law09S
