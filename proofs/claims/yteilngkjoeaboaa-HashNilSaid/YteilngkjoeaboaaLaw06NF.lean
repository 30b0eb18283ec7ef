/- The walk of HashNil as its frame wants it. -/
import Derived.Test.YteilngkjoeaboaaFrameL
import Derived.Test.YteilngkjoeaboaaLaw06N
namespace Go.Proofs.Yteilngkjoeaboaa.Law06N
open Go.RowKit Go.Proofs.Yteilngkjoeaboaa.Hs Go.Proofs.Yteilngkjoeaboaa.Lb
theorem hashNil (a : Lab) (W : World) (_ : Frame.LabWf a) : Calls Try.prog 5 #[a.v] W fun e W' => e = .returned (.bool true) ∧ Below W.heap.size W W' := hashNil_walk a W
end Go.Proofs.Yteilngkjoeaboaa.Law06N
