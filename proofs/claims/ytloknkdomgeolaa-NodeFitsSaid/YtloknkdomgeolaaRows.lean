/-
  No cell of these rows narrows 'for every input' (looked for: loops, veiled, ifaces, maps, wideKeys, modest, calm, conditions, laid).
  DERIVED. THE GIVEN ROWS OF THIS SEAT. 10 by the template 'for every input the law returns true; each argument reads behind the call as it read before'; 0 by the template 'total and deterministic' (their statements: YtloknkdomgeolaaTotals.lean).
  GIVEN WITH THE SEED: the statements are not yours to turn. If you find one false, say at which input.
  Laid BY PROGRAM, IN A SANDBOX (cutbox-rows.mjs): the forced cells as the released guide's own fill.sh prints them over the translation 8e13d2a8d2c96ef0… (all of the seat's roots in one cut). By AI agents, Wed Nov 11 2026. No macro, syntax, notation, axiom, sorry.
-/
import Derived.Test.YtloknkdomgeolaaChecked
import GoSem.Claim
import GoSem.ClaimJoined
import GoSem.ClaimMapViews
import Derived.JoinedTies
import Derived.KernelRfl
namespace Go.Proofs.Ytloknkdomgeolaa
/- THE CELL 'sum', in the pinned program and in every row, IS THE sha256 OF THE DUMP (.gsa) THAT YtloknkdomgeolaaProg.lean LOADS. Nothing in Lean hashes anything: it is a label: what it is worth is what the hold of that sum in a sandbox is worth. -/
noncomputable def Try.pinned : Pinned := { name := "ytloknkdomgeolaa", sum := "8e13d2a8d2c96ef04962cfdbe7c37f20cc227ca6e0553254086298b63b9716f2", checked := Try.checked }
namespace Rows
def none {H : Type} : Left H := { results := [], args := [] }

/-- 'horologelaw17.SlotsBytes': WHATEVER THE INPUT: true; the input reads as it did. -/
def slotsBytesSpec : ChangeSpec := { name := "slotsBytes", fn := fun _ => fun
  | [d] => { results := [.lit (.bool true)], args := [d] }
  | _ => none }
def slotsBytesRow : OpenClaim := { program := "ytloknkdomgeolaa", sum := "8e13d2a8d2c96ef04962cfdbe7c37f20cc227ca6e0553254086298b63b9716f2", func := "horologe/horologelaw17.SlotsBytes", spec := "slotsBytes", unfollowed := true, recurses := true, apart := false }
def SlotsBytesSaid : Prop := slotsBytesRow.holds Try.pinned (OpenSpec.ofChange slotsBytesSpec)

/-- ITS FALSE NEIGHBOUR: 'it returns false'. Refute it at one input. -/
def slotsBytesWrong : ChangeSpec := { name := "slotsBytes", fn := fun _ => fun
  | [d] => { results := [.lit (.bool false)], args := [d] }
  | _ => none }
def SlotsBytesWrongFalsely : Prop := slotsBytesRow.holds Try.pinned (OpenSpec.ofChange slotsBytesWrong)

/-- 'horologelaw17.SlotsList': WHATEVER THE INPUT: true; the input reads as it did. -/
def slotsListSpec : ChangeSpec := { name := "slotsList", fn := fun _ => fun
  | [d] => { results := [.lit (.bool true)], args := [d] }
  | _ => none }
def slotsListRow : OpenClaim := { program := "ytloknkdomgeolaa", sum := "8e13d2a8d2c96ef04962cfdbe7c37f20cc227ca6e0553254086298b63b9716f2", func := "horologe/horologelaw17.SlotsList", spec := "slotsList", unfollowed := true, recurses := true, apart := false }
def SlotsListSaid : Prop := slotsListRow.holds Try.pinned (OpenSpec.ofChange slotsListSpec)

/-- ITS FALSE NEIGHBOUR: 'it returns false'. Refute it at one input. -/
def slotsListWrong : ChangeSpec := { name := "slotsList", fn := fun _ => fun
  | [d] => { results := [.lit (.bool false)], args := [d] }
  | _ => none }
def SlotsListWrongFalsely : Prop := slotsListRow.holds Try.pinned (OpenSpec.ofChange slotsListWrong)

/-- 'horologelaw17.SlotsChecks': WHATEVER THE INPUT: true; the input reads as it did. -/
def slotsChecksSpec : ChangeSpec := { name := "slotsChecks", fn := fun _ => fun
  | [d1, d2, d3] => { results := [.lit (.bool true)], args := [d1, d2, d3] }
  | _ => none }
def slotsChecksRow : OpenClaim := { program := "ytloknkdomgeolaa", sum := "8e13d2a8d2c96ef04962cfdbe7c37f20cc227ca6e0553254086298b63b9716f2", func := "horologe/horologelaw17.SlotsChecks", spec := "slotsChecks", unfollowed := true, recurses := true, apart := false }
def SlotsChecksSaid : Prop := slotsChecksRow.holds Try.pinned (OpenSpec.ofChange slotsChecksSpec)

/-- ITS FALSE NEIGHBOUR: 'it returns false'. Refute it at one input. -/
def slotsChecksWrong : ChangeSpec := { name := "slotsChecks", fn := fun _ => fun
  | [d1, d2, d3] => { results := [.lit (.bool false)], args := [d1, d2, d3] }
  | _ => none }
def SlotsChecksWrongFalsely : Prop := slotsChecksRow.holds Try.pinned (OpenSpec.ofChange slotsChecksWrong)

/-- 'horologelaw17.SlotsCompact': WHATEVER THE INPUT: true; the input reads as it did. -/
def slotsCompactSpec : ChangeSpec := { name := "slotsCompact", fn := fun _ => fun
  | [d] => { results := [.lit (.bool true)], args := [d] }
  | _ => none }
def slotsCompactRow : OpenClaim := { program := "ytloknkdomgeolaa", sum := "8e13d2a8d2c96ef04962cfdbe7c37f20cc227ca6e0553254086298b63b9716f2", func := "horologe/horologelaw17.SlotsCompact", spec := "slotsCompact", unfollowed := true, recurses := true, apart := false }
def SlotsCompactSaid : Prop := slotsCompactRow.holds Try.pinned (OpenSpec.ofChange slotsCompactSpec)

/-- ITS FALSE NEIGHBOUR: 'it returns false'. Refute it at one input. -/
def slotsCompactWrong : ChangeSpec := { name := "slotsCompact", fn := fun _ => fun
  | [d] => { results := [.lit (.bool false)], args := [d] }
  | _ => none }
def SlotsCompactWrongFalsely : Prop := slotsCompactRow.holds Try.pinned (OpenSpec.ofChange slotsCompactWrong)

/-- 'horologelaw17.SlotsOf': WHATEVER THE INPUT: true; the input reads as it did. -/
def slotsOfSpec : ChangeSpec := { name := "slotsOf", fn := fun _ => fun
  | [d] => { results := [.lit (.bool true)], args := [d] }
  | _ => none }
def slotsOfRow : OpenClaim := { program := "ytloknkdomgeolaa", sum := "8e13d2a8d2c96ef04962cfdbe7c37f20cc227ca6e0553254086298b63b9716f2", func := "horologe/horologelaw17.SlotsOf", spec := "slotsOf", unfollowed := true, recurses := true, apart := false }
def SlotsOfSaid : Prop := slotsOfRow.holds Try.pinned (OpenSpec.ofChange slotsOfSpec)

/-- ITS FALSE NEIGHBOUR: 'it returns false'. Refute it at one input. -/
def slotsOfWrong : ChangeSpec := { name := "slotsOf", fn := fun _ => fun
  | [d] => { results := [.lit (.bool false)], args := [d] }
  | _ => none }
def SlotsOfWrongFalsely : Prop := slotsOfRow.holds Try.pinned (OpenSpec.ofChange slotsOfWrong)

/-- 'horologelaw18.NodePuts': WHATEVER THE INPUT: true; the input reads as it did. -/
def nodePutsSpec : ChangeSpec := { name := "nodePuts", fn := fun _ => fun
  | [d] => { results := [.lit (.bool true)], args := [d] }
  | _ => none }
def nodePutsRow : OpenClaim := { program := "ytloknkdomgeolaa", sum := "8e13d2a8d2c96ef04962cfdbe7c37f20cc227ca6e0553254086298b63b9716f2", func := "horologe/horologelaw18.NodePuts", spec := "nodePuts", inPlace := ["internal/bytealg.abigen_runtime_cmpstring"], unfollowed := true, recurses := true, apart := false }
def NodePutsSaid : Prop := nodePutsRow.holds Try.pinned (OpenSpec.ofChange nodePutsSpec)

/-- ITS FALSE NEIGHBOUR: 'it returns false'. Refute it at one input. -/
def nodePutsWrong : ChangeSpec := { name := "nodePuts", fn := fun _ => fun
  | [d] => { results := [.lit (.bool false)], args := [d] }
  | _ => none }
def NodePutsWrongFalsely : Prop := nodePutsRow.holds Try.pinned (OpenSpec.ofChange nodePutsWrong)

/-- 'horologelaw18.NodeGets': WHATEVER THE INPUT: true; the input reads as it did. -/
def nodeGetsSpec : ChangeSpec := { name := "nodeGets", fn := fun _ => fun
  | [d] => { results := [.lit (.bool true)], args := [d] }
  | _ => none }
def nodeGetsRow : OpenClaim := { program := "ytloknkdomgeolaa", sum := "8e13d2a8d2c96ef04962cfdbe7c37f20cc227ca6e0553254086298b63b9716f2", func := "horologe/horologelaw18.NodeGets", spec := "nodeGets", inPlace := ["internal/bytealg.abigen_runtime_cmpstring"], unfollowed := true, recurses := true, apart := false }
def NodeGetsSaid : Prop := nodeGetsRow.holds Try.pinned (OpenSpec.ofChange nodeGetsSpec)

/-- ITS FALSE NEIGHBOUR: 'it returns false'. Refute it at one input. -/
def nodeGetsWrong : ChangeSpec := { name := "nodeGets", fn := fun _ => fun
  | [d] => { results := [.lit (.bool false)], args := [d] }
  | _ => none }
def NodeGetsWrongFalsely : Prop := nodeGetsRow.holds Try.pinned (OpenSpec.ofChange nodeGetsWrong)

/-- 'horologelaw18.NodeBack': WHATEVER THE INPUT: true; the input reads as it did. -/
def nodeBackSpec : ChangeSpec := { name := "nodeBack", fn := fun _ => fun
  | [d] => { results := [.lit (.bool true)], args := [d] }
  | _ => none }
def nodeBackRow : OpenClaim := { program := "ytloknkdomgeolaa", sum := "8e13d2a8d2c96ef04962cfdbe7c37f20cc227ca6e0553254086298b63b9716f2", func := "horologe/horologelaw18.NodeBack", spec := "nodeBack", inPlace := ["internal/bytealg.abigen_runtime_cmpstring"], unfollowed := true, recurses := true, apart := false }
def NodeBackSaid : Prop := nodeBackRow.holds Try.pinned (OpenSpec.ofChange nodeBackSpec)

/-- ITS FALSE NEIGHBOUR: 'it returns false'. Refute it at one input. -/
def nodeBackWrong : ChangeSpec := { name := "nodeBack", fn := fun _ => fun
  | [d] => { results := [.lit (.bool false)], args := [d] }
  | _ => none }
def NodeBackWrongFalsely : Prop := nodeBackRow.holds Try.pinned (OpenSpec.ofChange nodeBackWrong)

/-- 'horologelaw18.NodeFinds': WHATEVER THE INPUT: true; the input reads as it did. -/
def nodeFindsSpec : ChangeSpec := { name := "nodeFinds", fn := fun _ => fun
  | [d1, d2] => { results := [.lit (.bool true)], args := [d1, d2] }
  | _ => none }
def nodeFindsRow : OpenClaim := { program := "ytloknkdomgeolaa", sum := "8e13d2a8d2c96ef04962cfdbe7c37f20cc227ca6e0553254086298b63b9716f2", func := "horologe/horologelaw18.NodeFinds", spec := "nodeFinds", inPlace := ["internal/bytealg.abigen_runtime_cmpstring"], unfollowed := true, recurses := true, apart := false }
def NodeFindsSaid : Prop := nodeFindsRow.holds Try.pinned (OpenSpec.ofChange nodeFindsSpec)

/-- ITS FALSE NEIGHBOUR: 'it returns false'. Refute it at one input. -/
def nodeFindsWrong : ChangeSpec := { name := "nodeFinds", fn := fun _ => fun
  | [d1, d2] => { results := [.lit (.bool false)], args := [d1, d2] }
  | _ => none }
def NodeFindsWrongFalsely : Prop := nodeFindsRow.holds Try.pinned (OpenSpec.ofChange nodeFindsWrong)

/-- 'horologelaw18.NodeFits': WHATEVER THE INPUT: true; the input reads as it did. -/
def nodeFitsSpec : ChangeSpec := { name := "nodeFits", fn := fun _ => fun
  | [d1, d2] => { results := [.lit (.bool true)], args := [d1, d2] }
  | _ => none }
def nodeFitsRow : OpenClaim := { program := "ytloknkdomgeolaa", sum := "8e13d2a8d2c96ef04962cfdbe7c37f20cc227ca6e0553254086298b63b9716f2", func := "horologe/horologelaw18.NodeFits", spec := "nodeFits", inPlace := ["internal/bytealg.abigen_runtime_cmpstring"], unfollowed := true, recurses := true, apart := false }
def NodeFitsSaid : Prop := nodeFitsRow.holds Try.pinned (OpenSpec.ofChange nodeFitsSpec)

/-- ITS FALSE NEIGHBOUR: 'it returns false'. Refute it at one input. -/
def nodeFitsWrong : ChangeSpec := { name := "nodeFits", fn := fun _ => fun
  | [d1, d2] => { results := [.lit (.bool false)], args := [d1, d2] }
  | _ => none }
def NodeFitsWrongFalsely : Prop := nodeFitsRow.holds Try.pinned (OpenSpec.ofChange nodeFitsWrong)

/- THE SECOND FORM. 'bulk': how many values and letters a reading holds, each counted each time it is reached (what is shared counts as often as it is met; a slice's spare places count too). A statement '..UptoSaid' is the law's where the arguments, and the package variables that the reading takes, are together of bulk at most 1048576: NARROWER than '..Said'. Prove '..Said' where nothing that the law and all that it calls make is longer than what came in: it says more and counts as full. Else prove '..UptoSaid'. A law counts once. -/
mutual
def uptoBulk {H : Type} : DataW H → Nat
  | .lit (.string bytes) => bytes.length + 1
  | .lit _ => 1
  | .nil => 1
  | .ptr d => uptoBulk d + 1
  | .slice elems spare => uptoBulkAll elems + uptoBulkAll spare + 1
  | .agg parts => uptoBulkAll parts + 1
  | .iface _ d => uptoBulk d + 1
  | .map entries => uptoBulkEntries entries + 1
  | .held _ => 1
def uptoBulkAll {H : Type} : List (DataW H) → Nat
  | [] => 0
  | d :: r => uptoBulk d + uptoBulkAll r
def uptoBulkEntries {H : Type} : List (Lit × DataW H) → Nat
  | [] => 0
  | x :: r => uptoBulkEntry x + uptoBulkEntries r
def uptoBulkEntry {H : Type} : Lit × DataW H → Nat
  | (.string bytes, d) => bytes.length + uptoBulk d + 1
  | (_, d) => uptoBulk d + 1
 end
def uptoSmall : (H : Type) → List (DataW H) → Bool := fun _ ds => decide (uptoBulkAll ds ≤ 1048576)
def OpenSpec.upto (s : _root_.Go.ChangeSpec) : _root_.Go.OpenSpec := { _root_.Go.OpenSpec.ofChange s with cond := some uptoSmall }

/-- 'horologelaw17.SlotsBytes', WHERE WHAT IT READS IS OF BULK AT MOST 1048576: true; the input reads as it did. -/
def slotsBytesUptoRow : OpenClaim := { program := "ytloknkdomgeolaa", sum := "8e13d2a8d2c96ef04962cfdbe7c37f20cc227ca6e0553254086298b63b9716f2", func := "horologe/horologelaw17.SlotsBytes", spec := "slotsBytes", unfollowed := true, recurses := true, apart := false, narrowed := true }
def SlotsBytesUptoSaid : Prop := slotsBytesUptoRow.holds Try.pinned (OpenSpec.upto slotsBytesSpec)

/-- 'horologelaw17.SlotsList', WHERE WHAT IT READS IS OF BULK AT MOST 1048576: true; the input reads as it did. -/
def slotsListUptoRow : OpenClaim := { program := "ytloknkdomgeolaa", sum := "8e13d2a8d2c96ef04962cfdbe7c37f20cc227ca6e0553254086298b63b9716f2", func := "horologe/horologelaw17.SlotsList", spec := "slotsList", unfollowed := true, recurses := true, apart := false, narrowed := true }
def SlotsListUptoSaid : Prop := slotsListUptoRow.holds Try.pinned (OpenSpec.upto slotsListSpec)

/-- 'horologelaw17.SlotsChecks', WHERE WHAT IT READS IS OF BULK AT MOST 1048576: true; the input reads as it did. -/
def slotsChecksUptoRow : OpenClaim := { program := "ytloknkdomgeolaa", sum := "8e13d2a8d2c96ef04962cfdbe7c37f20cc227ca6e0553254086298b63b9716f2", func := "horologe/horologelaw17.SlotsChecks", spec := "slotsChecks", unfollowed := true, recurses := true, apart := false, narrowed := true }
def SlotsChecksUptoSaid : Prop := slotsChecksUptoRow.holds Try.pinned (OpenSpec.upto slotsChecksSpec)

/-- 'horologelaw17.SlotsCompact', WHERE WHAT IT READS IS OF BULK AT MOST 1048576: true; the input reads as it did. -/
def slotsCompactUptoRow : OpenClaim := { program := "ytloknkdomgeolaa", sum := "8e13d2a8d2c96ef04962cfdbe7c37f20cc227ca6e0553254086298b63b9716f2", func := "horologe/horologelaw17.SlotsCompact", spec := "slotsCompact", unfollowed := true, recurses := true, apart := false, narrowed := true }
def SlotsCompactUptoSaid : Prop := slotsCompactUptoRow.holds Try.pinned (OpenSpec.upto slotsCompactSpec)

/-- 'horologelaw17.SlotsOf', WHERE WHAT IT READS IS OF BULK AT MOST 1048576: true; the input reads as it did. -/
def slotsOfUptoRow : OpenClaim := { program := "ytloknkdomgeolaa", sum := "8e13d2a8d2c96ef04962cfdbe7c37f20cc227ca6e0553254086298b63b9716f2", func := "horologe/horologelaw17.SlotsOf", spec := "slotsOf", unfollowed := true, recurses := true, apart := false, narrowed := true }
def SlotsOfUptoSaid : Prop := slotsOfUptoRow.holds Try.pinned (OpenSpec.upto slotsOfSpec)

/-- 'horologelaw18.NodePuts', WHERE WHAT IT READS IS OF BULK AT MOST 1048576: true; the input reads as it did. -/
def nodePutsUptoRow : OpenClaim := { program := "ytloknkdomgeolaa", sum := "8e13d2a8d2c96ef04962cfdbe7c37f20cc227ca6e0553254086298b63b9716f2", func := "horologe/horologelaw18.NodePuts", spec := "nodePuts", inPlace := ["internal/bytealg.abigen_runtime_cmpstring"], unfollowed := true, recurses := true, apart := false, narrowed := true }
def NodePutsUptoSaid : Prop := nodePutsUptoRow.holds Try.pinned (OpenSpec.upto nodePutsSpec)

/-- 'horologelaw18.NodeGets', WHERE WHAT IT READS IS OF BULK AT MOST 1048576: true; the input reads as it did. -/
def nodeGetsUptoRow : OpenClaim := { program := "ytloknkdomgeolaa", sum := "8e13d2a8d2c96ef04962cfdbe7c37f20cc227ca6e0553254086298b63b9716f2", func := "horologe/horologelaw18.NodeGets", spec := "nodeGets", inPlace := ["internal/bytealg.abigen_runtime_cmpstring"], unfollowed := true, recurses := true, apart := false, narrowed := true }
def NodeGetsUptoSaid : Prop := nodeGetsUptoRow.holds Try.pinned (OpenSpec.upto nodeGetsSpec)

/-- 'horologelaw18.NodeBack', WHERE WHAT IT READS IS OF BULK AT MOST 1048576: true; the input reads as it did. -/
def nodeBackUptoRow : OpenClaim := { program := "ytloknkdomgeolaa", sum := "8e13d2a8d2c96ef04962cfdbe7c37f20cc227ca6e0553254086298b63b9716f2", func := "horologe/horologelaw18.NodeBack", spec := "nodeBack", inPlace := ["internal/bytealg.abigen_runtime_cmpstring"], unfollowed := true, recurses := true, apart := false, narrowed := true }
def NodeBackUptoSaid : Prop := nodeBackUptoRow.holds Try.pinned (OpenSpec.upto nodeBackSpec)

/-- 'horologelaw18.NodeFinds', WHERE WHAT IT READS IS OF BULK AT MOST 1048576: true; the input reads as it did. -/
def nodeFindsUptoRow : OpenClaim := { program := "ytloknkdomgeolaa", sum := "8e13d2a8d2c96ef04962cfdbe7c37f20cc227ca6e0553254086298b63b9716f2", func := "horologe/horologelaw18.NodeFinds", spec := "nodeFinds", inPlace := ["internal/bytealg.abigen_runtime_cmpstring"], unfollowed := true, recurses := true, apart := false, narrowed := true }
def NodeFindsUptoSaid : Prop := nodeFindsUptoRow.holds Try.pinned (OpenSpec.upto nodeFindsSpec)

/-- 'horologelaw18.NodeFits', WHERE WHAT IT READS IS OF BULK AT MOST 1048576: true; the input reads as it did. -/
def nodeFitsUptoRow : OpenClaim := { program := "ytloknkdomgeolaa", sum := "8e13d2a8d2c96ef04962cfdbe7c37f20cc227ca6e0553254086298b63b9716f2", func := "horologe/horologelaw18.NodeFits", spec := "nodeFits", inPlace := ["internal/bytealg.abigen_runtime_cmpstring"], unfollowed := true, recurses := true, apart := false, narrowed := true }
def NodeFitsUptoSaid : Prop := nodeFitsUptoRow.holds Try.pinned (OpenSpec.upto nodeFitsSpec)

end Rows
end Go.Proofs.Ytloknkdomgeolaa
