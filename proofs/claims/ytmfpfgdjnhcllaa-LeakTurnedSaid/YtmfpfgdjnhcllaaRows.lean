/-
  No cell of these rows narrows 'for every input' (looked for: loops, veiled, ifaces, maps, wideKeys, modest, calm, conditions, laid).
  DERIVED. THE GIVEN ROWS OF THIS SEAT. 9 by the template 'for every input the law returns true; each argument reads behind the call as it read before'; 0 by the template 'total and deterministic' (their statements: YtmfpfgdjnhcllaaTotals.lean).
  GIVEN WITH THE SEED: the statements are not yours to turn. If you find one false, say at which input.
  Laid BY PROGRAM, IN A SANDBOX (cutbox-rows.mjs): the forced cells as the released guide's own fill.sh prints them over the translation 8f19fbda16d36b37… (all of the seat's roots in one cut). By AI agents, Wed Nov 11 2026. No macro, syntax, notation, axiom, sorry.
-/
import Derived.Test.YtmfpfgdjnhcllaaChecked
import GoSem.Claim
import GoSem.ClaimJoined
import GoSem.ClaimMapViews
import Derived.JoinedTies
import Derived.KernelRfl
namespace Go.Proofs.Ytmfpfgdjnhcllaa
/- THE CELL 'sum', in the pinned program and in every row, IS THE sha256 OF THE DUMP (.gsa) THAT YtmfpfgdjnhcllaaProg.lean LOADS. Nothing in Lean hashes anything: it is a label: what it is worth is what the hold of that sum in a sandbox is worth. -/
noncomputable def Try.pinned : Pinned := { name := "ytmfpfgdjnhcllaa", sum := "8f19fbda16d36b37aeb8c6f5cda700fa60235e2cebd1c8022e9b4807a4d68c63", checked := Try.checked }
namespace Rows
def none {H : Type} : Left H := { results := [], args := [] }

/-- 'caulkworkslaw01.LeakClashes': WHATEVER THE INPUT: true; the input reads as it did. -/
def leakClashesSpec : ChangeSpec := { name := "leakClashes", fn := fun _ => fun
  | [d] => { results := [.lit (.bool true)], args := [d] }
  | _ => none }
def leakClashesRow : OpenClaim := { program := "ytmfpfgdjnhcllaa", sum := "8f19fbda16d36b37aeb8c6f5cda700fa60235e2cebd1c8022e9b4807a4d68c63", func := "caulkworks/caulkworkslaw01.LeakClashes", spec := "leakClashes", unfollowed := true, recurses := true, plainKeys := false, apart := false }
def LeakClashesSaid : Prop := leakClashesRow.holds Try.pinned (OpenSpec.ofChange leakClashesSpec)

/-- ITS FALSE NEIGHBOUR: 'it returns false'. Refute it at one input. -/
def leakClashesWrong : ChangeSpec := { name := "leakClashes", fn := fun _ => fun
  | [d] => { results := [.lit (.bool false)], args := [d] }
  | _ => none }
def LeakClashesWrongFalsely : Prop := leakClashesRow.holds Try.pinned (OpenSpec.ofChange leakClashesWrong)

/-- 'caulkworkslaw01.LeakNames': WHATEVER THE INPUT: true; the input reads as it did. -/
def leakNamesSpec : ChangeSpec := { name := "leakNames", fn := fun _ => fun
  | [] => { results := [.lit (.bool true)], args := [] }
  | _ => none }
def leakNamesRow : OpenClaim := { program := "ytmfpfgdjnhcllaa", sum := "8f19fbda16d36b37aeb8c6f5cda700fa60235e2cebd1c8022e9b4807a4d68c63", func := "caulkworks/caulkworkslaw01.LeakNames", spec := "leakNames", unfollowed := true, recurses := true, plainKeys := false, apart := false }
def LeakNamesSaid : Prop := leakNamesRow.holds Try.pinned (OpenSpec.ofChange leakNamesSpec)

/-- ITS FALSE NEIGHBOUR: 'it returns false'. Refute it at one input. -/
def leakNamesWrong : ChangeSpec := { name := "leakNames", fn := fun _ => fun
  | [] => { results := [.lit (.bool false)], args := [] }
  | _ => none }
def LeakNamesWrongFalsely : Prop := leakNamesRow.holds Try.pinned (OpenSpec.ofChange leakNamesWrong)

/-- 'caulkworkslaw01.LeakTrue': WHATEVER THE INPUT: true; the input reads as it did. -/
def leakTrueSpec : ChangeSpec := { name := "leakTrue", fn := fun _ => fun
  | [d] => { results := [.lit (.bool true)], args := [d] }
  | _ => none }
def leakTrueRow : OpenClaim := { program := "ytmfpfgdjnhcllaa", sum := "8f19fbda16d36b37aeb8c6f5cda700fa60235e2cebd1c8022e9b4807a4d68c63", func := "caulkworks/caulkworkslaw01.LeakTrue", spec := "leakTrue", unfollowed := true, recurses := true, plainKeys := false, apart := false }
def LeakTrueSaid : Prop := leakTrueRow.holds Try.pinned (OpenSpec.ofChange leakTrueSpec)

/-- ITS FALSE NEIGHBOUR: 'it returns false'. Refute it at one input. -/
def leakTrueWrong : ChangeSpec := { name := "leakTrue", fn := fun _ => fun
  | [d] => { results := [.lit (.bool false)], args := [d] }
  | _ => none }
def LeakTrueWrongFalsely : Prop := leakTrueRow.holds Try.pinned (OpenSpec.ofChange leakTrueWrong)

/-- 'caulkworkslaw01.LeakEnds': WHATEVER THE INPUT: true; the input reads as it did. -/
def leakEndsSpec : ChangeSpec := { name := "leakEnds", fn := fun _ => fun
  | [d1, d2, d3] => { results := [.lit (.bool true)], args := [d1, d2, d3] }
  | _ => none }
def leakEndsRow : OpenClaim := { program := "ytmfpfgdjnhcllaa", sum := "8f19fbda16d36b37aeb8c6f5cda700fa60235e2cebd1c8022e9b4807a4d68c63", func := "caulkworks/caulkworkslaw01.LeakEnds", spec := "leakEnds", unfollowed := true, recurses := true, plainKeys := false, apart := false }
def LeakEndsSaid : Prop := leakEndsRow.holds Try.pinned (OpenSpec.ofChange leakEndsSpec)

/-- ITS FALSE NEIGHBOUR: 'it returns false'. Refute it at one input. -/
def leakEndsWrong : ChangeSpec := { name := "leakEnds", fn := fun _ => fun
  | [d1, d2, d3] => { results := [.lit (.bool false)], args := [d1, d2, d3] }
  | _ => none }
def LeakEndsWrongFalsely : Prop := leakEndsRow.holds Try.pinned (OpenSpec.ofChange leakEndsWrong)

/-- 'caulkworkslaw01.LeakSets': WHATEVER THE INPUT: true; the input reads as it did. -/
def leakSetsSpec : ChangeSpec := { name := "leakSets", fn := fun _ => fun
  | [d1, d2] => { results := [.lit (.bool true)], args := [d1, d2] }
  | _ => none }
def leakSetsRow : OpenClaim := { program := "ytmfpfgdjnhcllaa", sum := "8f19fbda16d36b37aeb8c6f5cda700fa60235e2cebd1c8022e9b4807a4d68c63", func := "caulkworks/caulkworkslaw01.LeakSets", spec := "leakSets", unfollowed := true, recurses := true, plainKeys := false, apart := false }
def LeakSetsSaid : Prop := leakSetsRow.holds Try.pinned (OpenSpec.ofChange leakSetsSpec)

/-- ITS FALSE NEIGHBOUR: 'it returns false'. Refute it at one input. -/
def leakSetsWrong : ChangeSpec := { name := "leakSets", fn := fun _ => fun
  | [d1, d2] => { results := [.lit (.bool false)], args := [d1, d2] }
  | _ => none }
def LeakSetsWrongFalsely : Prop := leakSetsRow.holds Try.pinned (OpenSpec.ofChange leakSetsWrong)

/-- 'caulkworkslaw01.LeakNext': WHATEVER THE INPUT: true; the input reads as it did. -/
def leakNextSpec : ChangeSpec := { name := "leakNext", fn := fun _ => fun
  | [d1, d2, d3] => { results := [.lit (.bool true)], args := [d1, d2, d3] }
  | _ => none }
def leakNextRow : OpenClaim := { program := "ytmfpfgdjnhcllaa", sum := "8f19fbda16d36b37aeb8c6f5cda700fa60235e2cebd1c8022e9b4807a4d68c63", func := "caulkworks/caulkworkslaw01.LeakNext", spec := "leakNext", unfollowed := true, recurses := true, plainKeys := false, apart := false }
def LeakNextSaid : Prop := leakNextRow.holds Try.pinned (OpenSpec.ofChange leakNextSpec)

/-- ITS FALSE NEIGHBOUR: 'it returns false'. Refute it at one input. -/
def leakNextWrong : ChangeSpec := { name := "leakNext", fn := fun _ => fun
  | [d1, d2, d3] => { results := [.lit (.bool false)], args := [d1, d2, d3] }
  | _ => none }
def LeakNextWrongFalsely : Prop := leakNextRow.holds Try.pinned (OpenSpec.ofChange leakNextWrong)

/-- 'caulkworkslaw01.LeakClash': WHATEVER THE INPUT: true; the input reads as it did. -/
def leakClashSpec : ChangeSpec := { name := "leakClash", fn := fun _ => fun
  | [d1, d2] => { results := [.lit (.bool true)], args := [d1, d2] }
  | _ => none }
def leakClashRow : OpenClaim := { program := "ytmfpfgdjnhcllaa", sum := "8f19fbda16d36b37aeb8c6f5cda700fa60235e2cebd1c8022e9b4807a4d68c63", func := "caulkworks/caulkworkslaw01.LeakClash", spec := "leakClash", unfollowed := true, recurses := true, plainKeys := false, apart := false }
def LeakClashSaid : Prop := leakClashRow.holds Try.pinned (OpenSpec.ofChange leakClashSpec)

/-- ITS FALSE NEIGHBOUR: 'it returns false'. Refute it at one input. -/
def leakClashWrong : ChangeSpec := { name := "leakClash", fn := fun _ => fun
  | [d1, d2] => { results := [.lit (.bool false)], args := [d1, d2] }
  | _ => none }
def LeakClashWrongFalsely : Prop := leakClashRow.holds Try.pinned (OpenSpec.ofChange leakClashWrong)

/-- 'caulkworkslaw01.LeakMore': WHATEVER THE INPUT: true; the input reads as it did. -/
def leakMoreSpec : ChangeSpec := { name := "leakMore", fn := fun _ => fun
  | [d1, d2, d3, d4, d5] => { results := [.lit (.bool true)], args := [d1, d2, d3, d4, d5] }
  | _ => none }
def leakMoreRow : OpenClaim := { program := "ytmfpfgdjnhcllaa", sum := "8f19fbda16d36b37aeb8c6f5cda700fa60235e2cebd1c8022e9b4807a4d68c63", func := "caulkworks/caulkworkslaw01.LeakMore", spec := "leakMore", unfollowed := true, recurses := true, plainKeys := false, apart := false }
def LeakMoreSaid : Prop := leakMoreRow.holds Try.pinned (OpenSpec.ofChange leakMoreSpec)

/-- ITS FALSE NEIGHBOUR: 'it returns false'. Refute it at one input. -/
def leakMoreWrong : ChangeSpec := { name := "leakMore", fn := fun _ => fun
  | [d1, d2, d3, d4, d5] => { results := [.lit (.bool false)], args := [d1, d2, d3, d4, d5] }
  | _ => none }
def LeakMoreWrongFalsely : Prop := leakMoreRow.holds Try.pinned (OpenSpec.ofChange leakMoreWrong)

/-- 'caulkworkslaw01.LeakTurned': WHATEVER THE INPUT: true; the input reads as it did. -/
def leakTurnedSpec : ChangeSpec := { name := "leakTurned", fn := fun _ => fun
  | [d1, d2, d3] => { results := [.lit (.bool true)], args := [d1, d2, d3] }
  | _ => none }
def leakTurnedRow : OpenClaim := { program := "ytmfpfgdjnhcllaa", sum := "8f19fbda16d36b37aeb8c6f5cda700fa60235e2cebd1c8022e9b4807a4d68c63", func := "caulkworks/caulkworkslaw01.LeakTurned", spec := "leakTurned", unfollowed := true, recurses := true, plainKeys := false, apart := false }
def LeakTurnedSaid : Prop := leakTurnedRow.holds Try.pinned (OpenSpec.ofChange leakTurnedSpec)

/-- ITS FALSE NEIGHBOUR: 'it returns false'. Refute it at one input. -/
def leakTurnedWrong : ChangeSpec := { name := "leakTurned", fn := fun _ => fun
  | [d1, d2, d3] => { results := [.lit (.bool false)], args := [d1, d2, d3] }
  | _ => none }
def LeakTurnedWrongFalsely : Prop := leakTurnedRow.holds Try.pinned (OpenSpec.ofChange leakTurnedWrong)

/- THE SECOND FORM. 'bulk': how many values and letters a reading holds, each counted each time it is reached (what is shared counts as often as it is met; a slice's spare places count too). A statement '..UptoSaid' is the law's where the arguments, and the package variables that the reading takes, are together of bulk at most 1048576: NARROWER than '..Said'. Prove '..Said' where nothing that the law and all that it calls make is longer than what came in: it says more and counts as full. Else prove '..UptoSaid'. A law counts once. -/
mutual
def uptoBulk {H : Type} : DataW H → Nat
  | .lit (.string bytes) => bytes.length + 1
  | .lit _ => 1
  | .nil => 1
  | .ptr d => uptoBulk d + 1
  | .slice elems spare => uptoBulkAll elems + uptoBulkAll spare + 1
  | .agg parts => uptoBulkAll parts + 1
  | .iface _ d => uptoBulk d + 1
  | .map entries => uptoBulkEntries entries + 1
  | .held _ => 1
def uptoBulkAll {H : Type} : List (DataW H) → Nat
  | [] => 0
  | d :: r => uptoBulk d + uptoBulkAll r
def uptoBulkEntries {H : Type} : List (Lit × DataW H) → Nat
  | [] => 0
  | x :: r => uptoBulkEntry x + uptoBulkEntries r
def uptoBulkEntry {H : Type} : Lit × DataW H → Nat
  | (.string bytes, d) => bytes.length + uptoBulk d + 1
  | (_, d) => uptoBulk d + 1
 end
def uptoSmall : (H : Type) → List (DataW H) → Bool := fun _ ds => decide (uptoBulkAll ds ≤ 1048576)
def OpenSpec.upto (s : _root_.Go.ChangeSpec) : _root_.Go.OpenSpec := { _root_.Go.OpenSpec.ofChange s with cond := some uptoSmall }

/-- 'caulkworkslaw01.LeakClashes', WHERE WHAT IT READS IS OF BULK AT MOST 1048576: true; the input reads as it did. -/
def leakClashesUptoRow : OpenClaim := { program := "ytmfpfgdjnhcllaa", sum := "8f19fbda16d36b37aeb8c6f5cda700fa60235e2cebd1c8022e9b4807a4d68c63", func := "caulkworks/caulkworkslaw01.LeakClashes", spec := "leakClashes", unfollowed := true, recurses := true, plainKeys := false, apart := false, narrowed := true }
def LeakClashesUptoSaid : Prop := leakClashesUptoRow.holds Try.pinned (OpenSpec.upto leakClashesSpec)

/-- 'caulkworkslaw01.LeakNames', WHERE WHAT IT READS IS OF BULK AT MOST 1048576: true; the input reads as it did. -/
def leakNamesUptoRow : OpenClaim := { program := "ytmfpfgdjnhcllaa", sum := "8f19fbda16d36b37aeb8c6f5cda700fa60235e2cebd1c8022e9b4807a4d68c63", func := "caulkworks/caulkworkslaw01.LeakNames", spec := "leakNames", unfollowed := true, recurses := true, plainKeys := false, apart := false, narrowed := true }
def LeakNamesUptoSaid : Prop := leakNamesUptoRow.holds Try.pinned (OpenSpec.upto leakNamesSpec)

/-- 'caulkworkslaw01.LeakTrue', WHERE WHAT IT READS IS OF BULK AT MOST 1048576: true; the input reads as it did. -/
def leakTrueUptoRow : OpenClaim := { program := "ytmfpfgdjnhcllaa", sum := "8f19fbda16d36b37aeb8c6f5cda700fa60235e2cebd1c8022e9b4807a4d68c63", func := "caulkworks/caulkworkslaw01.LeakTrue", spec := "leakTrue", unfollowed := true, recurses := true, plainKeys := false, apart := false, narrowed := true }
def LeakTrueUptoSaid : Prop := leakTrueUptoRow.holds Try.pinned (OpenSpec.upto leakTrueSpec)

/-- 'caulkworkslaw01.LeakEnds', WHERE WHAT IT READS IS OF BULK AT MOST 1048576: true; the input reads as it did. -/
def leakEndsUptoRow : OpenClaim := { program := "ytmfpfgdjnhcllaa", sum := "8f19fbda16d36b37aeb8c6f5cda700fa60235e2cebd1c8022e9b4807a4d68c63", func := "caulkworks/caulkworkslaw01.LeakEnds", spec := "leakEnds", unfollowed := true, recurses := true, plainKeys := false, apart := false, narrowed := true }
def LeakEndsUptoSaid : Prop := leakEndsUptoRow.holds Try.pinned (OpenSpec.upto leakEndsSpec)

/-- 'caulkworkslaw01.LeakSets', WHERE WHAT IT READS IS OF BULK AT MOST 1048576: true; the input reads as it did. -/
def leakSetsUptoRow : OpenClaim := { program := "ytmfpfgdjnhcllaa", sum := "8f19fbda16d36b37aeb8c6f5cda700fa60235e2cebd1c8022e9b4807a4d68c63", func := "caulkworks/caulkworkslaw01.LeakSets", spec := "leakSets", unfollowed := true, recurses := true, plainKeys := false, apart := false, narrowed := true }
def LeakSetsUptoSaid : Prop := leakSetsUptoRow.holds Try.pinned (OpenSpec.upto leakSetsSpec)

/-- 'caulkworkslaw01.LeakNext', WHERE WHAT IT READS IS OF BULK AT MOST 1048576: true; the input reads as it did. -/
def leakNextUptoRow : OpenClaim := { program := "ytmfpfgdjnhcllaa", sum := "8f19fbda16d36b37aeb8c6f5cda700fa60235e2cebd1c8022e9b4807a4d68c63", func := "caulkworks/caulkworkslaw01.LeakNext", spec := "leakNext", unfollowed := true, recurses := true, plainKeys := false, apart := false, narrowed := true }
def LeakNextUptoSaid : Prop := leakNextUptoRow.holds Try.pinned (OpenSpec.upto leakNextSpec)

/-- 'caulkworkslaw01.LeakClash', WHERE WHAT IT READS IS OF BULK AT MOST 1048576: true; the input reads as it did. -/
def leakClashUptoRow : OpenClaim := { program := "ytmfpfgdjnhcllaa", sum := "8f19fbda16d36b37aeb8c6f5cda700fa60235e2cebd1c8022e9b4807a4d68c63", func := "caulkworks/caulkworkslaw01.LeakClash", spec := "leakClash", unfollowed := true, recurses := true, plainKeys := false, apart := false, narrowed := true }
def LeakClashUptoSaid : Prop := leakClashUptoRow.holds Try.pinned (OpenSpec.upto leakClashSpec)

/-- 'caulkworkslaw01.LeakMore', WHERE WHAT IT READS IS OF BULK AT MOST 1048576: true; the input reads as it did. -/
def leakMoreUptoRow : OpenClaim := { program := "ytmfpfgdjnhcllaa", sum := "8f19fbda16d36b37aeb8c6f5cda700fa60235e2cebd1c8022e9b4807a4d68c63", func := "caulkworks/caulkworkslaw01.LeakMore", spec := "leakMore", unfollowed := true, recurses := true, plainKeys := false, apart := false, narrowed := true }
def LeakMoreUptoSaid : Prop := leakMoreUptoRow.holds Try.pinned (OpenSpec.upto leakMoreSpec)

/-- 'caulkworkslaw01.LeakTurned', WHERE WHAT IT READS IS OF BULK AT MOST 1048576: true; the input reads as it did. -/
def leakTurnedUptoRow : OpenClaim := { program := "ytmfpfgdjnhcllaa", sum := "8f19fbda16d36b37aeb8c6f5cda700fa60235e2cebd1c8022e9b4807a4d68c63", func := "caulkworks/caulkworkslaw01.LeakTurned", spec := "leakTurned", unfollowed := true, recurses := true, plainKeys := false, apart := false, narrowed := true }
def LeakTurnedUptoSaid : Prop := leakTurnedUptoRow.holds Try.pinned (OpenSpec.upto leakTurnedSpec)

end Rows
end Go.Proofs.Ytmfpfgdjnhcllaa
