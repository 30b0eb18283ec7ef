/- The walk of ViewCells as its frame wants it. -/
import Derived.Test.YthjkeefdeeljoaaFrameV
import Derived.Test.YthjkeefdeeljoaaCells2
namespace Go.Proofs.Ythjkeefdeeljoaa.Law08C
set_option linter.unusedVariables false
open Go.RowKit Go.Proofs.Ythjkeefdeeljoaa.Shp Go.Proofs.Ythjkeefdeeljoaa.Num
theorem viewCells (xs ys : List Int) (off : Int) (A B : Option Addr) (ca cb : Nat) (axis width : Int) (W : World)
    (hx : ReadsI W .i64 A xs) (hy : ReadsI W .i64 B ys) (_ : xs.length ≤ ca) (_ : ys.length ≤ cb) (_ : ∀ x ∈ xs, (Lit.int .i64 x).wf = true) (_ : ∀ x ∈ ys, (Lit.int .i64 x).wf = true) (_ : (Lit.int .i64 off).wf = true) (_ : (Lit.int .i64 axis).wf = true) (_ : (Lit.int .i64 width).wf = true) :
    Calls Try.prog 5 #[.agg #[.slice A xs.length ca, .slice B ys.length cb, .int .i64 off], .int .i64 axis, .int .i64 width] W fun e W' => e = .returned (.bool true) ∧ Below W.heap.size W W' := by
  cases hl : (lightB 300 xs ys && vrB xs ys off) with
  | false => exact cells_out xs ys off A B ca cb xs.length ys.length axis width W hx hy rfl rfl hl
  | true =>
    obtain ⟨h1, hv⟩ := Bool.and_eq_true_iff.1 hl
    by_cases ha : 0 ≤ axis ∧ axis < xs.length
    · obtain ⟨i, rfl⟩ := Int.eq_ofNat_of_zero_le ha.1
      exact cells_in xs ys off A B ca cb xs.length ys.length i width W hx hy rfl rfl h1 hv (by omega)
    · exact cells_far xs ys off A B ca cb xs.length ys.length axis width W hx hy rfl rfl h1 hv ha
end Go.Proofs.Ythjkeefdeeljoaa.Law08C
