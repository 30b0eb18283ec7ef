/-
  No cell of these rows narrows 'for every input' (looked for: loops, veiled, ifaces, maps, wideKeys, modest, calm, conditions, laid).
  DERIVED. THE GIVEN ROWS OF THIS SEAT. 6 by the template 'for every input the law returns true; each argument reads behind the call as it read before'; 0 by the template 'total and deterministic' (their statements: YthjkeefdeeljoaaTotals.lean).
  GIVEN WITH THE SEED: the statements are not yours to turn. If you find one false, say at which input.
  Laid BY PROGRAM, IN A SANDBOX (cutbox-rows.mjs): the forced cells as the released guide's own fill.sh prints them over the translation a4ea4f8d4a8cf642… (all of the seat's roots in one cut). By AI agents, Wed Nov 11 2026. No macro, syntax, notation, axiom, sorry.
-/
import Derived.Test.YthjkeefdeeljoaaChecked
import GoSem.Claim
import GoSem.ClaimJoined
import GoSem.ClaimMapViews
import Derived.JoinedTies
import Derived.KernelRfl
namespace Go.Proofs.Ythjkeefdeeljoaa
/- THE CELL 'sum', in the pinned program and in every row, IS THE sha256 OF THE DUMP (.gsa) THAT YthjkeefdeeljoaaProg.lean LOADS. Nothing in Lean hashes anything: it is a label: what it is worth is what the hold of that sum in a sandbox is worth. -/
noncomputable def Try.pinned : Pinned := { name := "ythjkeefdeeljoaa", sum := "a4ea4f8d4a8cf642861bd8d391b716f5d9e9aa95b3fff7c4752ebe174a26af7f", checked := Try.checked }
namespace Rows
def none {H : Type} : Left H := { results := [], args := [] }

/-- 'quincunxlaw09.OdoPairs': WHATEVER THE INPUT: true; the input reads as it did. -/
def odoPairsSpec : ChangeSpec := { name := "odoPairs", fn := fun _ => fun
  | [d1, d2] => { results := [.lit (.bool true)], args := [d1, d2] }
  | _ => none }
def odoPairsRow : OpenClaim := { program := "ythjkeefdeeljoaa", sum := "a4ea4f8d4a8cf642861bd8d391b716f5d9e9aa95b3fff7c4752ebe174a26af7f", func := "quincunx/quincunxlaw09.OdoPairs", spec := "odoPairs", unfollowed := true, recurses := true, apart := false }
def OdoPairsSaid : Prop := odoPairsRow.holds Try.pinned (OpenSpec.ofChange odoPairsSpec)

/-- ITS FALSE NEIGHBOUR: 'it returns false'. Refute it at one input. -/
def odoPairsWrong : ChangeSpec := { name := "odoPairs", fn := fun _ => fun
  | [d1, d2] => { results := [.lit (.bool false)], args := [d1, d2] }
  | _ => none }
def OdoPairsWrongFalsely : Prop := odoPairsRow.holds Try.pinned (OpenSpec.ofChange odoPairsWrong)

/-- 'quincunxlaw09.OdoSteps': WHATEVER THE INPUT: true; the input reads as it did. -/
def odoStepsSpec : ChangeSpec := { name := "odoSteps", fn := fun _ => fun
  | [d1, d2] => { results := [.lit (.bool true)], args := [d1, d2] }
  | _ => none }
def odoStepsRow : OpenClaim := { program := "ythjkeefdeeljoaa", sum := "a4ea4f8d4a8cf642861bd8d391b716f5d9e9aa95b3fff7c4752ebe174a26af7f", func := "quincunx/quincunxlaw09.OdoSteps", spec := "odoSteps", unfollowed := true, recurses := true, apart := false }
def OdoStepsSaid : Prop := odoStepsRow.holds Try.pinned (OpenSpec.ofChange odoStepsSpec)

/-- ITS FALSE NEIGHBOUR: 'it returns false'. Refute it at one input. -/
def odoStepsWrong : ChangeSpec := { name := "odoSteps", fn := fun _ => fun
  | [d1, d2] => { results := [.lit (.bool false)], args := [d1, d2] }
  | _ => none }
def OdoStepsWrongFalsely : Prop := odoStepsRow.holds Try.pinned (OpenSpec.ofChange odoStepsWrong)

/-- 'quincunxlaw08.ViewCells': WHATEVER THE INPUT: true; the input reads as it did. -/
def viewCellsSpec : ChangeSpec := { name := "viewCells", fn := fun _ => fun
  | [d1, d2, d3] => { results := [.lit (.bool true)], args := [d1, d2, d3] }
  | _ => none }
def viewCellsRow : OpenClaim := { program := "ythjkeefdeeljoaa", sum := "a4ea4f8d4a8cf642861bd8d391b716f5d9e9aa95b3fff7c4752ebe174a26af7f", func := "quincunx/quincunxlaw08.ViewCells", spec := "viewCells", inPlace := ["slices.overlaps[int]"], unfollowed := true, recurses := true, apart := false }
def ViewCellsSaid : Prop := viewCellsRow.holds Try.pinned (OpenSpec.ofChange viewCellsSpec)

/-- ITS FALSE NEIGHBOUR: 'it returns false'. Refute it at one input. -/
def viewCellsWrong : ChangeSpec := { name := "viewCells", fn := fun _ => fun
  | [d1, d2, d3] => { results := [.lit (.bool false)], args := [d1, d2, d3] }
  | _ => none }
def ViewCellsWrongFalsely : Prop := viewCellsRow.holds Try.pinned (OpenSpec.ofChange viewCellsWrong)

/-- 'quincunxlaw10.MoveGathers': WHATEVER THE INPUT: true; the input reads as it did. -/
def moveGathersSpec : ChangeSpec := { name := "moveGathers", fn := fun _ => fun
  | [d1, d2, d3, d4] => { results := [.lit (.bool true)], args := [d1, d2, d3, d4] }
  | _ => none }
def moveGathersRow : OpenClaim := { program := "ythjkeefdeeljoaa", sum := "a4ea4f8d4a8cf642861bd8d391b716f5d9e9aa95b3fff7c4752ebe174a26af7f", func := "quincunx/quincunxlaw10.MoveGathers", spec := "moveGathers", unfollowed := true, recurses := true, apart := false }
def MoveGathersSaid : Prop := moveGathersRow.holds Try.pinned (OpenSpec.ofChange moveGathersSpec)

/-- ITS FALSE NEIGHBOUR: 'it returns false'. Refute it at one input. -/
def moveGathersWrong : ChangeSpec := { name := "moveGathers", fn := fun _ => fun
  | [d1, d2, d3, d4] => { results := [.lit (.bool false)], args := [d1, d2, d3, d4] }
  | _ => none }
def MoveGathersWrongFalsely : Prop := moveGathersRow.holds Try.pinned (OpenSpec.ofChange moveGathersWrong)

/-- 'quincunxlaw10.MoveScatters': WHATEVER THE INPUT: true; the input reads as it did. -/
def moveScattersSpec : ChangeSpec := { name := "moveScatters", fn := fun _ => fun
  | [d1, d2, d3, d4] => { results := [.lit (.bool true)], args := [d1, d2, d3, d4] }
  | _ => none }
def moveScattersRow : OpenClaim := { program := "ythjkeefdeeljoaa", sum := "a4ea4f8d4a8cf642861bd8d391b716f5d9e9aa95b3fff7c4752ebe174a26af7f", func := "quincunx/quincunxlaw10.MoveScatters", spec := "moveScatters", unfollowed := true, recurses := true, apart := false }
def MoveScattersSaid : Prop := moveScattersRow.holds Try.pinned (OpenSpec.ofChange moveScattersSpec)

/-- ITS FALSE NEIGHBOUR: 'it returns false'. Refute it at one input. -/
def moveScattersWrong : ChangeSpec := { name := "moveScatters", fn := fun _ => fun
  | [d1, d2, d3, d4] => { results := [.lit (.bool false)], args := [d1, d2, d3, d4] }
  | _ => none }
def MoveScattersWrongFalsely : Prop := moveScattersRow.holds Try.pinned (OpenSpec.ofChange moveScattersWrong)

/-- 'quincunxlaw10.MoveBack': WHATEVER THE INPUT: true; the input reads as it did. -/
def moveBackSpec : ChangeSpec := { name := "moveBack", fn := fun _ => fun
  | [d1, d2, d3] => { results := [.lit (.bool true)], args := [d1, d2, d3] }
  | _ => none }
def moveBackRow : OpenClaim := { program := "ythjkeefdeeljoaa", sum := "a4ea4f8d4a8cf642861bd8d391b716f5d9e9aa95b3fff7c4752ebe174a26af7f", func := "quincunx/quincunxlaw10.MoveBack", spec := "moveBack", unfollowed := true, recurses := true, apart := false }
def MoveBackSaid : Prop := moveBackRow.holds Try.pinned (OpenSpec.ofChange moveBackSpec)

/-- ITS FALSE NEIGHBOUR: 'it returns false'. Refute it at one input. -/
def moveBackWrong : ChangeSpec := { name := "moveBack", fn := fun _ => fun
  | [d1, d2, d3] => { results := [.lit (.bool false)], args := [d1, d2, d3] }
  | _ => none }
def MoveBackWrongFalsely : Prop := moveBackRow.holds Try.pinned (OpenSpec.ofChange moveBackWrong)

/- THE SECOND FORM. 'bulk': how many values and letters a reading holds, each counted each time it is reached (what is shared counts as often as it is met; a slice's spare places count too). A statement '..UptoSaid' is the law's where the arguments, and the package variables that the reading takes, are together of bulk at most 1048576: NARROWER than '..Said'. Prove '..Said' where nothing that the law and all that it calls make is longer than what came in: it says more and counts as full. Else prove '..UptoSaid'. A law counts once. -/
mutual
def uptoBulk {H : Type} : DataW H → Nat
  | .lit (.string bytes) => bytes.length + 1
  | .lit _ => 1
  | .nil => 1
  | .ptr d => uptoBulk d + 1
  | .slice elems spare => uptoBulkAll elems + uptoBulkAll spare + 1
  | .agg parts => uptoBulkAll parts + 1
  | .iface _ d => uptoBulk d + 1
  | .map entries => uptoBulkEntries entries + 1
  | .held _ => 1
def uptoBulkAll {H : Type} : List (DataW H) → Nat
  | [] => 0
  | d :: r => uptoBulk d + uptoBulkAll r
def uptoBulkEntries {H : Type} : List (Lit × DataW H) → Nat
  | [] => 0
  | x :: r => uptoBulkEntry x + uptoBulkEntries r
def uptoBulkEntry {H : Type} : Lit × DataW H → Nat
  | (.string bytes, d) => bytes.length + uptoBulk d + 1
  | (_, d) => uptoBulk d + 1
 end
def uptoSmall : (H : Type) → List (DataW H) → Bool := fun _ ds => decide (uptoBulkAll ds ≤ 1048576)
def OpenSpec.upto (s : _root_.Go.ChangeSpec) : _root_.Go.OpenSpec := { _root_.Go.OpenSpec.ofChange s with cond := some uptoSmall }

/-- 'quincunxlaw09.OdoPairs', WHERE WHAT IT READS IS OF BULK AT MOST 1048576: true; the input reads as it did. -/
def odoPairsUptoRow : OpenClaim := { program := "ythjkeefdeeljoaa", sum := "a4ea4f8d4a8cf642861bd8d391b716f5d9e9aa95b3fff7c4752ebe174a26af7f", func := "quincunx/quincunxlaw09.OdoPairs", spec := "odoPairs", unfollowed := true, recurses := true, apart := false, narrowed := true }
def OdoPairsUptoSaid : Prop := odoPairsUptoRow.holds Try.pinned (OpenSpec.upto odoPairsSpec)

/-- 'quincunxlaw09.OdoSteps', WHERE WHAT IT READS IS OF BULK AT MOST 1048576: true; the input reads as it did. -/
def odoStepsUptoRow : OpenClaim := { program := "ythjkeefdeeljoaa", sum := "a4ea4f8d4a8cf642861bd8d391b716f5d9e9aa95b3fff7c4752ebe174a26af7f", func := "quincunx/quincunxlaw09.OdoSteps", spec := "odoSteps", unfollowed := true, recurses := true, apart := false, narrowed := true }
def OdoStepsUptoSaid : Prop := odoStepsUptoRow.holds Try.pinned (OpenSpec.upto odoStepsSpec)

/-- 'quincunxlaw08.ViewCells', WHERE WHAT IT READS IS OF BULK AT MOST 1048576: true; the input reads as it did. -/
def viewCellsUptoRow : OpenClaim := { program := "ythjkeefdeeljoaa", sum := "a4ea4f8d4a8cf642861bd8d391b716f5d9e9aa95b3fff7c4752ebe174a26af7f", func := "quincunx/quincunxlaw08.ViewCells", spec := "viewCells", inPlace := ["slices.overlaps[int]"], unfollowed := true, recurses := true, apart := false, narrowed := true }
def ViewCellsUptoSaid : Prop := viewCellsUptoRow.holds Try.pinned (OpenSpec.upto viewCellsSpec)

/-- 'quincunxlaw10.MoveGathers', WHERE WHAT IT READS IS OF BULK AT MOST 1048576: true; the input reads as it did. -/
def moveGathersUptoRow : OpenClaim := { program := "ythjkeefdeeljoaa", sum := "a4ea4f8d4a8cf642861bd8d391b716f5d9e9aa95b3fff7c4752ebe174a26af7f", func := "quincunx/quincunxlaw10.MoveGathers", spec := "moveGathers", unfollowed := true, recurses := true, apart := false, narrowed := true }
def MoveGathersUptoSaid : Prop := moveGathersUptoRow.holds Try.pinned (OpenSpec.upto moveGathersSpec)

/-- 'quincunxlaw10.MoveScatters', WHERE WHAT IT READS IS OF BULK AT MOST 1048576: true; the input reads as it did. -/
def moveScattersUptoRow : OpenClaim := { program := "ythjkeefdeeljoaa", sum := "a4ea4f8d4a8cf642861bd8d391b716f5d9e9aa95b3fff7c4752ebe174a26af7f", func := "quincunx/quincunxlaw10.MoveScatters", spec := "moveScatters", unfollowed := true, recurses := true, apart := false, narrowed := true }
def MoveScattersUptoSaid : Prop := moveScattersUptoRow.holds Try.pinned (OpenSpec.upto moveScattersSpec)

/-- 'quincunxlaw10.MoveBack', WHERE WHAT IT READS IS OF BULK AT MOST 1048576: true; the input reads as it did. -/
def moveBackUptoRow : OpenClaim := { program := "ythjkeefdeeljoaa", sum := "a4ea4f8d4a8cf642861bd8d391b716f5d9e9aa95b3fff7c4752ebe174a26af7f", func := "quincunx/quincunxlaw10.MoveBack", spec := "moveBack", unfollowed := true, recurses := true, apart := false, narrowed := true }
def MoveBackUptoSaid : Prop := moveBackUptoRow.holds Try.pinned (OpenSpec.upto moveBackSpec)

end Rows
end Go.Proofs.Ythjkeefdeeljoaa
