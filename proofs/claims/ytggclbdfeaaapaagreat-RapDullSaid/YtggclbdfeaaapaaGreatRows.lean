/-
  No cell of these rows narrows 'for every input' (looked for: loops, veiled, ifaces, maps, wideKeys, modest, calm, conditions, laid).
  DERIVED. THE GIVEN ROWS OF THIS SEAT. 9 by the template 'for every input the law returns true; each argument reads behind the call as it read before'; 0 by the template 'total and deterministic' (their statements: YtggclbdfeaaapaaGreatTotals.lean).
  GIVEN WITH THE SEED: the statements are not yours to turn. If you find one false, say at which input.
  Laid BY PROGRAM, IN A SANDBOX (cutbox-rows.mjs): the forced cells as the released guide's own fill.sh prints them over the translation 3df936552ebff583… (all of the seat's roots in one cut). By AI agents, Wed Nov 11 2026. No macro, syntax, notation, axiom, sorry.
-/
import Derived.Test.YtggclbdfeaaapaaGreatChecked
import GoSem.Claim
import GoSem.ClaimJoined
import GoSem.ClaimMapViews
import Derived.JoinedTies
import Derived.KernelRfl
namespace Go.Proofs.YtggclbdfeaaapaaGreat
/- THE CELL 'sum', in the pinned program and in every row, IS THE sha256 OF THE DUMP (.gsa) THAT YtggclbdfeaaapaaGreatProg.lean LOADS. Nothing in Lean hashes anything: it is a label: what it is worth is what the hold of that sum in a sandbox is worth. -/
noncomputable def Tryz.pinned : Pinned := { name := "ytggclbdfeaaapaagreat", sum := "3df936552ebff583feb372b2b722ea0f42930693f72d8a03752cb93abc1d99f4", checked := Tryz.checked }
namespace Rows
def none {H : Type} : Left H := { results := [], args := [] }

/-- 'caulkworkslaw13.RapTells': WHATEVER THE INPUT: true; the input reads as it did. -/
def rapTellsSpec : ChangeSpec := { name := "rapTells", fn := fun _ => fun
  | [d1, d2] => { results := [.lit (.bool true)], args := [d1, d2] }
  | _ => none }
def rapTellsRow : OpenClaim := { program := "ytggclbdfeaaapaagreat", sum := "3df936552ebff583feb372b2b722ea0f42930693f72d8a03752cb93abc1d99f4", func := "caulkworks/caulkworkslaw13.RapTells", spec := "rapTells", unfollowed := true, recurses := true, plainKeys := false, apart := false }
def RapTellsSaid : Prop := rapTellsRow.holds Tryz.pinned (OpenSpec.ofChange rapTellsSpec)

/-- ITS FALSE NEIGHBOUR: 'it returns false'. Refute it at one input. -/
def rapTellsWrong : ChangeSpec := { name := "rapTells", fn := fun _ => fun
  | [d1, d2] => { results := [.lit (.bool false)], args := [d1, d2] }
  | _ => none }
def RapTellsWrongFalsely : Prop := rapTellsRow.holds Tryz.pinned (OpenSpec.ofChange rapTellsWrong)

/-- 'caulkworkslaw13.RapWrongs': WHATEVER THE INPUT: true; the input reads as it did. -/
def rapWrongsSpec : ChangeSpec := { name := "rapWrongs", fn := fun _ => fun
  | [d] => { results := [.lit (.bool true)], args := [d] }
  | _ => none }
def rapWrongsRow : OpenClaim := { program := "ytggclbdfeaaapaagreat", sum := "3df936552ebff583feb372b2b722ea0f42930693f72d8a03752cb93abc1d99f4", func := "caulkworks/caulkworkslaw13.RapWrongs", spec := "rapWrongs", unfollowed := true, recurses := true, plainKeys := false, apart := false }
def RapWrongsSaid : Prop := rapWrongsRow.holds Tryz.pinned (OpenSpec.ofChange rapWrongsSpec)

/-- ITS FALSE NEIGHBOUR: 'it returns false'. Refute it at one input. -/
def rapWrongsWrong : ChangeSpec := { name := "rapWrongs", fn := fun _ => fun
  | [d] => { results := [.lit (.bool false)], args := [d] }
  | _ => none }
def RapWrongsWrongFalsely : Prop := rapWrongsRow.holds Tryz.pinned (OpenSpec.ofChange rapWrongsWrong)

/-- 'caulkworkslaw13.RapTrue': WHATEVER THE INPUT: true; the input reads as it did. -/
def rapTrueSpec : ChangeSpec := { name := "rapTrue", fn := fun _ => fun
  | [d1, d2] => { results := [.lit (.bool true)], args := [d1, d2] }
  | _ => none }
def rapTrueRow : OpenClaim := { program := "ytggclbdfeaaapaagreat", sum := "3df936552ebff583feb372b2b722ea0f42930693f72d8a03752cb93abc1d99f4", func := "caulkworks/caulkworkslaw13.RapTrue", spec := "rapTrue", unfollowed := true, recurses := true, plainKeys := false, apart := false }
def RapTrueSaid : Prop := rapTrueRow.holds Tryz.pinned (OpenSpec.ofChange rapTrueSpec)

/-- ITS FALSE NEIGHBOUR: 'it returns false'. Refute it at one input. -/
def rapTrueWrong : ChangeSpec := { name := "rapTrue", fn := fun _ => fun
  | [d1, d2] => { results := [.lit (.bool false)], args := [d1, d2] }
  | _ => none }
def RapTrueWrongFalsely : Prop := rapTrueRow.holds Tryz.pinned (OpenSpec.ofChange rapTrueWrong)

/-- 'caulkworkslaw13.RapDull': WHATEVER THE INPUT: true; the input reads as it did. -/
def rapDullSpec : ChangeSpec := { name := "rapDull", fn := fun _ => fun
  | [d1, d2, d3] => { results := [.lit (.bool true)], args := [d1, d2, d3] }
  | _ => none }
def rapDullRow : OpenClaim := { program := "ytggclbdfeaaapaagreat", sum := "3df936552ebff583feb372b2b722ea0f42930693f72d8a03752cb93abc1d99f4", func := "caulkworks/caulkworkslaw13.RapDull", spec := "rapDull", unfollowed := true, recurses := true, plainKeys := false, apart := false }
def RapDullSaid : Prop := rapDullRow.holds Tryz.pinned (OpenSpec.ofChange rapDullSpec)

/-- ITS FALSE NEIGHBOUR: 'it returns false'. Refute it at one input. -/
def rapDullWrong : ChangeSpec := { name := "rapDull", fn := fun _ => fun
  | [d1, d2, d3] => { results := [.lit (.bool false)], args := [d1, d2, d3] }
  | _ => none }
def RapDullWrongFalsely : Prop := rapDullRow.holds Tryz.pinned (OpenSpec.ofChange rapDullWrong)

/-- 'caulkworkslaw13.RapFewest': WHATEVER THE INPUT: true; the input reads as it did. -/
def rapFewestSpec : ChangeSpec := { name := "rapFewest", fn := fun _ => fun
  | [d1, d2] => { results := [.lit (.bool true)], args := [d1, d2] }
  | _ => none }
def rapFewestRow : OpenClaim := { program := "ytggclbdfeaaapaagreat", sum := "3df936552ebff583feb372b2b722ea0f42930693f72d8a03752cb93abc1d99f4", func := "caulkworks/caulkworkslaw13.RapFewest", spec := "rapFewest", unfollowed := true, recurses := true, plainKeys := false, apart := false }
def RapFewestSaid : Prop := rapFewestRow.holds Tryz.pinned (OpenSpec.ofChange rapFewestSpec)

/-- ITS FALSE NEIGHBOUR: 'it returns false'. Refute it at one input. -/
def rapFewestWrong : ChangeSpec := { name := "rapFewest", fn := fun _ => fun
  | [d1, d2] => { results := [.lit (.bool false)], args := [d1, d2] }
  | _ => none }
def RapFewestWrongFalsely : Prop := rapFewestRow.holds Tryz.pinned (OpenSpec.ofChange rapFewestWrong)

/-- 'caulkworkslaw13.RapNext': WHATEVER THE INPUT: true; the input reads as it did. -/
def rapNextSpec : ChangeSpec := { name := "rapNext", fn := fun _ => fun
  | [d1, d2] => { results := [.lit (.bool true)], args := [d1, d2] }
  | _ => none }
def rapNextRow : OpenClaim := { program := "ytggclbdfeaaapaagreat", sum := "3df936552ebff583feb372b2b722ea0f42930693f72d8a03752cb93abc1d99f4", func := "caulkworks/caulkworkslaw13.RapNext", spec := "rapNext", unfollowed := true, recurses := true, plainKeys := false, apart := false }
def RapNextSaid : Prop := rapNextRow.holds Tryz.pinned (OpenSpec.ofChange rapNextSpec)

/-- ITS FALSE NEIGHBOUR: 'it returns false'. Refute it at one input. -/
def rapNextWrong : ChangeSpec := { name := "rapNext", fn := fun _ => fun
  | [d1, d2] => { results := [.lit (.bool false)], args := [d1, d2] }
  | _ => none }
def RapNextWrongFalsely : Prop := rapNextRow.holds Tryz.pinned (OpenSpec.ofChange rapNextWrong)

/-- 'caulkworkslaw13.RapWrong': WHATEVER THE INPUT: true; the input reads as it did. -/
def rapWrongSpec : ChangeSpec := { name := "rapWrong", fn := fun _ => fun
  | [d1, d2] => { results := [.lit (.bool true)], args := [d1, d2] }
  | _ => none }
def rapWrongRow : OpenClaim := { program := "ytggclbdfeaaapaagreat", sum := "3df936552ebff583feb372b2b722ea0f42930693f72d8a03752cb93abc1d99f4", func := "caulkworks/caulkworkslaw13.RapWrong", spec := "rapWrong", unfollowed := true, recurses := true, plainKeys := false, apart := false }
def RapWrongSaid : Prop := rapWrongRow.holds Tryz.pinned (OpenSpec.ofChange rapWrongSpec)

/-- ITS FALSE NEIGHBOUR: 'it returns false'. Refute it at one input. -/
def rapWrongWrong : ChangeSpec := { name := "rapWrong", fn := fun _ => fun
  | [d1, d2] => { results := [.lit (.bool false)], args := [d1, d2] }
  | _ => none }
def RapWrongWrongFalsely : Prop := rapWrongRow.holds Tryz.pinned (OpenSpec.ofChange rapWrongWrong)

/-- 'caulkworkslaw13.RapTurned': WHATEVER THE INPUT: true; the input reads as it did. -/
def rapTurnedSpec : ChangeSpec := { name := "rapTurned", fn := fun _ => fun
  | [d1, d2, d3] => { results := [.lit (.bool true)], args := [d1, d2, d3] }
  | _ => none }
def rapTurnedRow : OpenClaim := { program := "ytggclbdfeaaapaagreat", sum := "3df936552ebff583feb372b2b722ea0f42930693f72d8a03752cb93abc1d99f4", func := "caulkworks/caulkworkslaw13.RapTurned", spec := "rapTurned", unfollowed := true, recurses := true, plainKeys := false, apart := false }
def RapTurnedSaid : Prop := rapTurnedRow.holds Tryz.pinned (OpenSpec.ofChange rapTurnedSpec)

/-- ITS FALSE NEIGHBOUR: 'it returns false'. Refute it at one input. -/
def rapTurnedWrong : ChangeSpec := { name := "rapTurned", fn := fun _ => fun
  | [d1, d2, d3] => { results := [.lit (.bool false)], args := [d1, d2, d3] }
  | _ => none }
def RapTurnedWrongFalsely : Prop := rapTurnedRow.holds Tryz.pinned (OpenSpec.ofChange rapTurnedWrong)

/-- 'caulkworkslaw13.RapSets': WHATEVER THE INPUT: true; the input reads as it did. -/
def rapSetsSpec : ChangeSpec := { name := "rapSets", fn := fun _ => fun
  | [d1, d2] => { results := [.lit (.bool true)], args := [d1, d2] }
  | _ => none }
def rapSetsRow : OpenClaim := { program := "ytggclbdfeaaapaagreat", sum := "3df936552ebff583feb372b2b722ea0f42930693f72d8a03752cb93abc1d99f4", func := "caulkworks/caulkworkslaw13.RapSets", spec := "rapSets", unfollowed := true, recurses := true, plainKeys := false, apart := false }
def RapSetsSaid : Prop := rapSetsRow.holds Tryz.pinned (OpenSpec.ofChange rapSetsSpec)

/-- ITS FALSE NEIGHBOUR: 'it returns false'. Refute it at one input. -/
def rapSetsWrong : ChangeSpec := { name := "rapSets", fn := fun _ => fun
  | [d1, d2] => { results := [.lit (.bool false)], args := [d1, d2] }
  | _ => none }
def RapSetsWrongFalsely : Prop := rapSetsRow.holds Tryz.pinned (OpenSpec.ofChange rapSetsWrong)

/- THE SECOND FORM. 'bulk': how many values and letters a reading holds, each counted each time it is reached (what is shared counts as often as it is met; a slice's spare places count too). A statement '..UptoSaid' is the law's where the arguments, and the package variables that the reading takes, are together of bulk at most 1048576: NARROWER than '..Said'. Prove '..Said' where nothing that the law and all that it calls make is longer than what came in: it says more and counts as full. Else prove '..UptoSaid'. A law counts once. -/
mutual
def uptoBulk {H : Type} : DataW H → Nat
  | .lit (.string bytes) => bytes.length + 1
  | .lit _ => 1
  | .nil => 1
  | .ptr d => uptoBulk d + 1
  | .slice elems spare => uptoBulkAll elems + uptoBulkAll spare + 1
  | .agg parts => uptoBulkAll parts + 1
  | .iface _ d => uptoBulk d + 1
  | .map entries => uptoBulkEntries entries + 1
  | .held _ => 1
def uptoBulkAll {H : Type} : List (DataW H) → Nat
  | [] => 0
  | d :: r => uptoBulk d + uptoBulkAll r
def uptoBulkEntries {H : Type} : List (Lit × DataW H) → Nat
  | [] => 0
  | x :: r => uptoBulkEntry x + uptoBulkEntries r
def uptoBulkEntry {H : Type} : Lit × DataW H → Nat
  | (.string bytes, d) => bytes.length + uptoBulk d + 1
  | (_, d) => uptoBulk d + 1
 end
def uptoSmall : (H : Type) → List (DataW H) → Bool := fun _ ds => decide (uptoBulkAll ds ≤ 1048576)
def OpenSpec.upto (s : _root_.Go.ChangeSpec) : _root_.Go.OpenSpec := { _root_.Go.OpenSpec.ofChange s with cond := some uptoSmall }

/-- 'caulkworkslaw13.RapTells', WHERE WHAT IT READS IS OF BULK AT MOST 1048576: true; the input reads as it did. -/
def rapTellsUptoRow : OpenClaim := { program := "ytggclbdfeaaapaagreat", sum := "3df936552ebff583feb372b2b722ea0f42930693f72d8a03752cb93abc1d99f4", func := "caulkworks/caulkworkslaw13.RapTells", spec := "rapTells", unfollowed := true, recurses := true, plainKeys := false, apart := false, narrowed := true }
def RapTellsUptoSaid : Prop := rapTellsUptoRow.holds Tryz.pinned (OpenSpec.upto rapTellsSpec)

/-- 'caulkworkslaw13.RapWrongs', WHERE WHAT IT READS IS OF BULK AT MOST 1048576: true; the input reads as it did. -/
def rapWrongsUptoRow : OpenClaim := { program := "ytggclbdfeaaapaagreat", sum := "3df936552ebff583feb372b2b722ea0f42930693f72d8a03752cb93abc1d99f4", func := "caulkworks/caulkworkslaw13.RapWrongs", spec := "rapWrongs", unfollowed := true, recurses := true, plainKeys := false, apart := false, narrowed := true }
def RapWrongsUptoSaid : Prop := rapWrongsUptoRow.holds Tryz.pinned (OpenSpec.upto rapWrongsSpec)

/-- 'caulkworkslaw13.RapTrue', WHERE WHAT IT READS IS OF BULK AT MOST 1048576: true; the input reads as it did. -/
def rapTrueUptoRow : OpenClaim := { program := "ytggclbdfeaaapaagreat", sum := "3df936552ebff583feb372b2b722ea0f42930693f72d8a03752cb93abc1d99f4", func := "caulkworks/caulkworkslaw13.RapTrue", spec := "rapTrue", unfollowed := true, recurses := true, plainKeys := false, apart := false, narrowed := true }
def RapTrueUptoSaid : Prop := rapTrueUptoRow.holds Tryz.pinned (OpenSpec.upto rapTrueSpec)

/-- 'caulkworkslaw13.RapDull', WHERE WHAT IT READS IS OF BULK AT MOST 1048576: true; the input reads as it did. -/
def rapDullUptoRow : OpenClaim := { program := "ytggclbdfeaaapaagreat", sum := "3df936552ebff583feb372b2b722ea0f42930693f72d8a03752cb93abc1d99f4", func := "caulkworks/caulkworkslaw13.RapDull", spec := "rapDull", unfollowed := true, recurses := true, plainKeys := false, apart := false, narrowed := true }
def RapDullUptoSaid : Prop := rapDullUptoRow.holds Tryz.pinned (OpenSpec.upto rapDullSpec)

/-- 'caulkworkslaw13.RapFewest', WHERE WHAT IT READS IS OF BULK AT MOST 1048576: true; the input reads as it did. -/
def rapFewestUptoRow : OpenClaim := { program := "ytggclbdfeaaapaagreat", sum := "3df936552ebff583feb372b2b722ea0f42930693f72d8a03752cb93abc1d99f4", func := "caulkworks/caulkworkslaw13.RapFewest", spec := "rapFewest", unfollowed := true, recurses := true, plainKeys := false, apart := false, narrowed := true }
def RapFewestUptoSaid : Prop := rapFewestUptoRow.holds Tryz.pinned (OpenSpec.upto rapFewestSpec)

/-- 'caulkworkslaw13.RapNext', WHERE WHAT IT READS IS OF BULK AT MOST 1048576: true; the input reads as it did. -/
def rapNextUptoRow : OpenClaim := { program := "ytggclbdfeaaapaagreat", sum := "3df936552ebff583feb372b2b722ea0f42930693f72d8a03752cb93abc1d99f4", func := "caulkworks/caulkworkslaw13.RapNext", spec := "rapNext", unfollowed := true, recurses := true, plainKeys := false, apart := false, narrowed := true }
def RapNextUptoSaid : Prop := rapNextUptoRow.holds Tryz.pinned (OpenSpec.upto rapNextSpec)

/-- 'caulkworkslaw13.RapWrong', WHERE WHAT IT READS IS OF BULK AT MOST 1048576: true; the input reads as it did. -/
def rapWrongUptoRow : OpenClaim := { program := "ytggclbdfeaaapaagreat", sum := "3df936552ebff583feb372b2b722ea0f42930693f72d8a03752cb93abc1d99f4", func := "caulkworks/caulkworkslaw13.RapWrong", spec := "rapWrong", unfollowed := true, recurses := true, plainKeys := false, apart := false, narrowed := true }
def RapWrongUptoSaid : Prop := rapWrongUptoRow.holds Tryz.pinned (OpenSpec.upto rapWrongSpec)

/-- 'caulkworkslaw13.RapTurned', WHERE WHAT IT READS IS OF BULK AT MOST 1048576: true; the input reads as it did. -/
def rapTurnedUptoRow : OpenClaim := { program := "ytggclbdfeaaapaagreat", sum := "3df936552ebff583feb372b2b722ea0f42930693f72d8a03752cb93abc1d99f4", func := "caulkworks/caulkworkslaw13.RapTurned", spec := "rapTurned", unfollowed := true, recurses := true, plainKeys := false, apart := false, narrowed := true }
def RapTurnedUptoSaid : Prop := rapTurnedUptoRow.holds Tryz.pinned (OpenSpec.upto rapTurnedSpec)

/-- 'caulkworkslaw13.RapSets', WHERE WHAT IT READS IS OF BULK AT MOST 1048576: true; the input reads as it did. -/
def rapSetsUptoRow : OpenClaim := { program := "ytggclbdfeaaapaagreat", sum := "3df936552ebff583feb372b2b722ea0f42930693f72d8a03752cb93abc1d99f4", func := "caulkworks/caulkworkslaw13.RapSets", spec := "rapSets", unfollowed := true, recurses := true, plainKeys := false, apart := false, narrowed := true }
def RapSetsUptoSaid : Prop := rapSetsUptoRow.holds Tryz.pinned (OpenSpec.upto rapSetsSpec)

end Rows
end Go.Proofs.YtggclbdfeaaapaaGreat
