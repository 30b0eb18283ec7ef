/- The walk of HashMany as its frame wants it. -/
import Derived.Test.YteilngkjoeaboaaLaw06M
import Derived.SizedLaws
namespace Go.Proofs.Yteilngkjoeaboaa.Law06M
open Go.RowKit Go.Proofs.Yteilngkjoeaboaa.Hs
theorem wf64 {a : Int} (h : (Lit.int .i64 a).wf = true) : -9223372036854775808 ≤ a ∧ a ≤ 9223372036854775807 := by
  simp [Lit.wf, IntKind.min, IntKind.max, IntKind.bits, IntKind.signed] at h
  exact h
theorem hashMany (f n : Int) (W : World) (h : (Lit.int .i64 f).wf = true) (h' : (Lit.int .i64 n).wf = true) : Calls Try.prog 4 #[.int .i64 f, .int .i64 n] W fun e W' => e = .returned (.bool true) ∧ Below W.heap.size W W' :=
  hashMany_walk f n W (wf64 h).1 (wf64 h).2 (wf64 h').1 (wf64 h').2
end Go.Proofs.Yteilngkjoeaboaa.Law06M
