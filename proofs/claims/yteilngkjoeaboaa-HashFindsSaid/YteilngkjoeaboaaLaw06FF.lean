/- The walk of HashFinds as its frame wants it. -/
import Derived.Test.YteilngkjoeaboaaFrameL
import Derived.Test.YteilngkjoeaboaaLaw06F
namespace Go.Proofs.Yteilngkjoeaboaa.Law06F
open Go.RowKit Go.Proofs.Yteilngkjoeaboaa.Hs Go.Proofs.Yteilngkjoeaboaa.Lb
theorem hashFinds (xs : List Lab) (A : Option Addr) (cap : Nat) (o : Lab) (W : World) (hr : Shows W A (xs.flatMap Lab.cs)) (hc : xs.length ≤ cap) (hm : cap ≤ maxLen) (hw : ∀ x ∈ xs, Frame.LabWf x) (ho : Frame.LabWf o) : Calls Try.prog 3 #[.slice A xs.length cap, o.v] W fun e W' => e = .returned (.bool true) ∧ Below W.heap.size W W' :=
  hashFinds_walk xs A cap o W hr (by unfold maxLen at hm; omega) (fun h x hx => (hw x hx).ok (by have := (lightB_mem h).2 x hx; omega)) (fun h => ho.ok (by omega))
end Go.Proofs.Yteilngkjoeaboaa.Law06F
