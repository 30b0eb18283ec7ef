/- The walk of MoveGathers as its frame wants it. -/
import Derived.Test.YthjkeefdeeljoaaPk2
import Derived.Test.YthjkeefdeeljoaaPk7
import Derived.Test.YthjkeefdeeljoaaPk54
namespace Go.Proofs.Ythjkeefdeeljoaa.Law10G
set_option linter.unusedVariables false
open Go.RowKit Go.Proofs.Ythjkeefdeeljoaa.Shp Go.Proofs.Ythjkeefdeeljoaa.Num Go.Proofs.Ythjkeefdeeljoaa.Cl
theorem moveGathers (L : List Cell) (D : Option Addr) (cd : Nat) (xs ys : List Int) (off : Int) (A B : Option Addr) (ca cb : Nat) (ps : List Int) (E : Option Addr) (c3 : Nat) (most : Int) (W : World)
    (hs : Shows W D (L.flatMap ce)) (_ : L.length ≤ cd) (hx : ReadsI W .i64 A xs) (hy : ReadsI W .i64 B ys) (_ : xs.length ≤ ca) (_ : ys.length ≤ cb) (_ : ∀ x ∈ xs, (Lit.int .i64 x).wf = true) (_ : ∀ x ∈ ys, (Lit.int .i64 x).wf = true) (_ : (Lit.int .i64 off).wf = true)
    (hp : ReadsI W .i64 E ps) (_ : ps.length ≤ c3) (_ : ∀ x ∈ ps, (Lit.int .i64 x).wf = true) {Y : Prop} (_ : Y) (_ : (Lit.int .i64 most).wf = true) :
    Calls Try.prog 6 #[.slice D L.length cd, .agg #[.slice A xs.length ca, .slice B ys.length cb, .int .i64 off], .slice E ps.length c3, .int .i64 most] W fun e W' => e = .returned (.bool true) ∧ Below W.heap.size W W' :=
  gathers_walk L D cd xs ys off A B ca cb ps E c3 most W hs hx hy hp
end Go.Proofs.Ythjkeefdeeljoaa.Law10G
