/- The walk of MoveScatters as its frame wants it. -/
import Derived.Test.YthjkeefdeeljoaaPk2
import Derived.Test.YthjkeefdeeljoaaPk7
import Derived.Test.YthjkeefdeeljoaaPk54
namespace Go.Proofs.Ythjkeefdeeljoaa.Law10S
set_option linter.unusedVariables false
open Go.RowKit Go.Proofs.Ythjkeefdeeljoaa.Shp Go.Proofs.Ythjkeefdeeljoaa.Num Go.Proofs.Ythjkeefdeeljoaa.Cl
theorem moveScatters (L : List Cell) (D : Option Addr) (cd : Nat) (xs ys : List Int) (off : Int) (A B : Option Addr) (ca cb : Nat) (O : List Cell) (E : Option Addr) (c3 : Nat) (x : Cell) (W : World)
    (hs : Shows W D (L.flatMap ce)) (hcd : L.length ≤ cd) (hx : ReadsI W .i64 A xs) (hy : ReadsI W .i64 B ys) (_ : xs.length ≤ ca) (_ : ys.length ≤ cb) (_ : ∀ x ∈ xs, (Lit.int .i64 x).wf = true) (_ : ∀ x ∈ ys, (Lit.int .i64 x).wf = true) (_ : (Lit.int .i64 off).wf = true)
    (ho : Shows W E (O.flatMap ce)) (_ : O.length ≤ c3) :
    Calls Try.prog 7 #[.slice D L.length cd, .agg #[.slice A xs.length ca, .slice B ys.length cb, .int .i64 off], .slice E O.length c3, .agg #[.int .i64 x.1, .bool x.2]] W fun e W' => e = .returned (.bool true) ∧ Below W.heap.size W W' :=
  scatters_walk L D cd xs ys off A B ca cb O E c3 x W hs hcd hx hy ho
end Go.Proofs.Ythjkeefdeeljoaa.Law10S
