/-
  No cell of these rows narrows 'for every input' (looked for: loops, veiled, ifaces, maps, wideKeys, modest, calm, conditions, laid).
  DERIVED. THE GIVEN ROWS OF THIS SEAT. 9 by the template 'for every input the law returns true; each argument reads behind the call as it read before'; 0 by the template 'total and deterministic' (their statements: YtfdkhgegijiceaaTotals.lean).
  GIVEN WITH THE SEED: the statements are not yours to turn. If you find one false, say at which input.
  Laid BY PROGRAM, IN A SANDBOX (cutbox-rows.mjs): the forced cells as the released guide's own fill.sh prints them over the translation 64e53b027ee41f6b… (all of the seat's roots in one cut). By AI agents, Wed Nov 11 2026. No macro, syntax, notation, axiom, sorry.
-/
import Derived.Test.YtfdkhgegijiceaaChecked
import GoSem.Claim
import GoSem.ClaimJoined
import GoSem.ClaimMapViews
import Derived.JoinedTies
import Derived.KernelRfl
namespace Go.Proofs.Ytfdkhgegijiceaa
/- THE CELL 'sum', in the pinned program and in every row, IS THE sha256 OF THE DUMP (.gsa) THAT YtfdkhgegijiceaaProg.lean LOADS. Nothing in Lean hashes anything: it is a label: what it is worth is what the hold of that sum in a sandbox is worth. -/
noncomputable def Try.pinned : Pinned := { name := "ytfdkhgegijiceaa", sum := "64e53b027ee41f6be9cd1f7f448ffc8d75bdb4424c88a9a0a1d5cba03fee8ae4", checked := Try.checked }
namespace Rows
def none {H : Type} : Left H := { results := [], args := [] }

/-- 'caulkworkslaw05.DriveTells': WHATEVER THE INPUT: true; the input reads as it did. -/
def driveTellsSpec : ChangeSpec := { name := "driveTells", fn := fun _ => fun
  | [d1, d2, d3, d4] => { results := [.lit (.bool true)], args := [d1, d2, d3, d4] }
  | _ => none }
def driveTellsRow : OpenClaim := { program := "ytfdkhgegijiceaa", sum := "64e53b027ee41f6be9cd1f7f448ffc8d75bdb4424c88a9a0a1d5cba03fee8ae4", func := "caulkworks/caulkworkslaw05.DriveTells", spec := "driveTells", unfollowed := true, recurses := true, plainKeys := false, apart := false }
def DriveTellsSaid : Prop := driveTellsRow.holds Try.pinned (OpenSpec.ofChange driveTellsSpec)

/-- ITS FALSE NEIGHBOUR: 'it returns false'. Refute it at one input. -/
def driveTellsWrong : ChangeSpec := { name := "driveTells", fn := fun _ => fun
  | [d1, d2, d3, d4] => { results := [.lit (.bool false)], args := [d1, d2, d3, d4] }
  | _ => none }
def DriveTellsWrongFalsely : Prop := driveTellsRow.holds Try.pinned (OpenSpec.ofChange driveTellsWrong)

/-- 'caulkworkslaw05.DrivePushes': WHATEVER THE INPUT: true; the input reads as it did. -/
def drivePushesSpec : ChangeSpec := { name := "drivePushes", fn := fun _ => fun
  | [d1, d2, d3] => { results := [.lit (.bool true)], args := [d1, d2, d3] }
  | _ => none }
def drivePushesRow : OpenClaim := { program := "ytfdkhgegijiceaa", sum := "64e53b027ee41f6be9cd1f7f448ffc8d75bdb4424c88a9a0a1d5cba03fee8ae4", func := "caulkworks/caulkworkslaw05.DrivePushes", spec := "drivePushes", unfollowed := true, recurses := true, plainKeys := false, apart := false }
def DrivePushesSaid : Prop := drivePushesRow.holds Try.pinned (OpenSpec.ofChange drivePushesSpec)

/-- ITS FALSE NEIGHBOUR: 'it returns false'. Refute it at one input. -/
def drivePushesWrong : ChangeSpec := { name := "drivePushes", fn := fun _ => fun
  | [d1, d2, d3] => { results := [.lit (.bool false)], args := [d1, d2, d3] }
  | _ => none }
def DrivePushesWrongFalsely : Prop := drivePushesRow.holds Try.pinned (OpenSpec.ofChange drivePushesWrong)

/-- 'caulkworkslaw05.DriveNames': WHATEVER THE INPUT: true; the input reads as it did. -/
def driveNamesSpec : ChangeSpec := { name := "driveNames", fn := fun _ => fun
  | [] => { results := [.lit (.bool true)], args := [] }
  | _ => none }
def driveNamesRow : OpenClaim := { program := "ytfdkhgegijiceaa", sum := "64e53b027ee41f6be9cd1f7f448ffc8d75bdb4424c88a9a0a1d5cba03fee8ae4", func := "caulkworks/caulkworkslaw05.DriveNames", spec := "driveNames", unfollowed := true, recurses := true, plainKeys := false, apart := false }
def DriveNamesSaid : Prop := driveNamesRow.holds Try.pinned (OpenSpec.ofChange driveNamesSpec)

/-- ITS FALSE NEIGHBOUR: 'it returns false'. Refute it at one input. -/
def driveNamesWrong : ChangeSpec := { name := "driveNames", fn := fun _ => fun
  | [] => { results := [.lit (.bool false)], args := [] }
  | _ => none }
def DriveNamesWrongFalsely : Prop := driveNamesRow.holds Try.pinned (OpenSpec.ofChange driveNamesWrong)

/-- 'caulkworkslaw05.DriveOrder': WHATEVER THE INPUT: true; the input reads as it did. -/
def driveOrderSpec : ChangeSpec := { name := "driveOrder", fn := fun _ => fun
  | [d1, d2] => { results := [.lit (.bool true)], args := [d1, d2] }
  | _ => none }
def driveOrderRow : OpenClaim := { program := "ytfdkhgegijiceaa", sum := "64e53b027ee41f6be9cd1f7f448ffc8d75bdb4424c88a9a0a1d5cba03fee8ae4", func := "caulkworks/caulkworkslaw05.DriveOrder", spec := "driveOrder", unfollowed := true, recurses := true, plainKeys := false, apart := false }
def DriveOrderSaid : Prop := driveOrderRow.holds Try.pinned (OpenSpec.ofChange driveOrderSpec)

/-- ITS FALSE NEIGHBOUR: 'it returns false'. Refute it at one input. -/
def driveOrderWrong : ChangeSpec := { name := "driveOrder", fn := fun _ => fun
  | [d1, d2] => { results := [.lit (.bool false)], args := [d1, d2] }
  | _ => none }
def DriveOrderWrongFalsely : Prop := driveOrderRow.holds Try.pinned (OpenSpec.ofChange driveOrderWrong)

/-- 'caulkworkslaw05.DriveGiven': WHATEVER THE INPUT: true; the input reads as it did. -/
def driveGivenSpec : ChangeSpec := { name := "driveGiven", fn := fun _ => fun
  | [d1, d2] => { results := [.lit (.bool true)], args := [d1, d2] }
  | _ => none }
def driveGivenRow : OpenClaim := { program := "ytfdkhgegijiceaa", sum := "64e53b027ee41f6be9cd1f7f448ffc8d75bdb4424c88a9a0a1d5cba03fee8ae4", func := "caulkworks/caulkworkslaw05.DriveGiven", spec := "driveGiven", unfollowed := true, recurses := true, plainKeys := false, apart := false }
def DriveGivenSaid : Prop := driveGivenRow.holds Try.pinned (OpenSpec.ofChange driveGivenSpec)

/-- ITS FALSE NEIGHBOUR: 'it returns false'. Refute it at one input. -/
def driveGivenWrong : ChangeSpec := { name := "driveGiven", fn := fun _ => fun
  | [d1, d2] => { results := [.lit (.bool false)], args := [d1, d2] }
  | _ => none }
def DriveGivenWrongFalsely : Prop := driveGivenRow.holds Try.pinned (OpenSpec.ofChange driveGivenWrong)

/-- 'caulkworkslaw05.DriveTrue': WHATEVER THE INPUT: true; the input reads as it did. -/
def driveTrueSpec : ChangeSpec := { name := "driveTrue", fn := fun _ => fun
  | [d1, d2] => { results := [.lit (.bool true)], args := [d1, d2] }
  | _ => none }
def driveTrueRow : OpenClaim := { program := "ytfdkhgegijiceaa", sum := "64e53b027ee41f6be9cd1f7f448ffc8d75bdb4424c88a9a0a1d5cba03fee8ae4", func := "caulkworks/caulkworkslaw05.DriveTrue", spec := "driveTrue", unfollowed := true, recurses := true, plainKeys := false, apart := false }
def DriveTrueSaid : Prop := driveTrueRow.holds Try.pinned (OpenSpec.ofChange driveTrueSpec)

/-- ITS FALSE NEIGHBOUR: 'it returns false'. Refute it at one input. -/
def driveTrueWrong : ChangeSpec := { name := "driveTrue", fn := fun _ => fun
  | [d1, d2] => { results := [.lit (.bool false)], args := [d1, d2] }
  | _ => none }
def DriveTrueWrongFalsely : Prop := driveTrueRow.holds Try.pinned (OpenSpec.ofChange driveTrueWrong)

/-- 'caulkworkslaw05.DriveEnds': WHATEVER THE INPUT: true; the input reads as it did. -/
def driveEndsSpec : ChangeSpec := { name := "driveEnds", fn := fun _ => fun
  | [d1, d2] => { results := [.lit (.bool true)], args := [d1, d2] }
  | _ => none }
def driveEndsRow : OpenClaim := { program := "ytfdkhgegijiceaa", sum := "64e53b027ee41f6be9cd1f7f448ffc8d75bdb4424c88a9a0a1d5cba03fee8ae4", func := "caulkworks/caulkworkslaw05.DriveEnds", spec := "driveEnds", unfollowed := true, recurses := true, plainKeys := false, apart := false }
def DriveEndsSaid : Prop := driveEndsRow.holds Try.pinned (OpenSpec.ofChange driveEndsSpec)

/-- ITS FALSE NEIGHBOUR: 'it returns false'. Refute it at one input. -/
def driveEndsWrong : ChangeSpec := { name := "driveEnds", fn := fun _ => fun
  | [d1, d2] => { results := [.lit (.bool false)], args := [d1, d2] }
  | _ => none }
def DriveEndsWrongFalsely : Prop := driveEndsRow.holds Try.pinned (OpenSpec.ofChange driveEndsWrong)

/-- 'caulkworkslaw05.DriveMore': WHATEVER THE INPUT: true; the input reads as it did. -/
def driveMoreSpec : ChangeSpec := { name := "driveMore", fn := fun _ => fun
  | [d1, d2, d3, d4] => { results := [.lit (.bool true)], args := [d1, d2, d3, d4] }
  | _ => none }
def driveMoreRow : OpenClaim := { program := "ytfdkhgegijiceaa", sum := "64e53b027ee41f6be9cd1f7f448ffc8d75bdb4424c88a9a0a1d5cba03fee8ae4", func := "caulkworks/caulkworkslaw05.DriveMore", spec := "driveMore", unfollowed := true, recurses := true, plainKeys := false, apart := false }
def DriveMoreSaid : Prop := driveMoreRow.holds Try.pinned (OpenSpec.ofChange driveMoreSpec)

/-- ITS FALSE NEIGHBOUR: 'it returns false'. Refute it at one input. -/
def driveMoreWrong : ChangeSpec := { name := "driveMore", fn := fun _ => fun
  | [d1, d2, d3, d4] => { results := [.lit (.bool false)], args := [d1, d2, d3, d4] }
  | _ => none }
def DriveMoreWrongFalsely : Prop := driveMoreRow.holds Try.pinned (OpenSpec.ofChange driveMoreWrong)

/-- 'caulkworkslaw05.DriveTurned': WHATEVER THE INPUT: true; the input reads as it did. -/
def driveTurnedSpec : ChangeSpec := { name := "driveTurned", fn := fun _ => fun
  | [d1, d2] => { results := [.lit (.bool true)], args := [d1, d2] }
  | _ => none }
def driveTurnedRow : OpenClaim := { program := "ytfdkhgegijiceaa", sum := "64e53b027ee41f6be9cd1f7f448ffc8d75bdb4424c88a9a0a1d5cba03fee8ae4", func := "caulkworks/caulkworkslaw05.DriveTurned", spec := "driveTurned", unfollowed := true, recurses := true, plainKeys := false, apart := false }
def DriveTurnedSaid : Prop := driveTurnedRow.holds Try.pinned (OpenSpec.ofChange driveTurnedSpec)

/-- ITS FALSE NEIGHBOUR: 'it returns false'. Refute it at one input. -/
def driveTurnedWrong : ChangeSpec := { name := "driveTurned", fn := fun _ => fun
  | [d1, d2] => { results := [.lit (.bool false)], args := [d1, d2] }
  | _ => none }
def DriveTurnedWrongFalsely : Prop := driveTurnedRow.holds Try.pinned (OpenSpec.ofChange driveTurnedWrong)

/- THE SECOND FORM. 'bulk': how many values and letters a reading holds, each counted each time it is reached (what is shared counts as often as it is met; a slice's spare places count too). A statement '..UptoSaid' is the law's where the arguments, and the package variables that the reading takes, are together of bulk at most 1048576: NARROWER than '..Said'. Prove '..Said' where nothing that the law and all that it calls make is longer than what came in: it says more and counts as full. Else prove '..UptoSaid'. A law counts once. -/
mutual
def uptoBulk {H : Type} : DataW H → Nat
  | .lit (.string bytes) => bytes.length + 1
  | .lit _ => 1
  | .nil => 1
  | .ptr d => uptoBulk d + 1
  | .slice elems spare => uptoBulkAll elems + uptoBulkAll spare + 1
  | .agg parts => uptoBulkAll parts + 1
  | .iface _ d => uptoBulk d + 1
  | .map entries => uptoBulkEntries entries + 1
  | .held _ => 1
def uptoBulkAll {H : Type} : List (DataW H) → Nat
  | [] => 0
  | d :: r => uptoBulk d + uptoBulkAll r
def uptoBulkEntries {H : Type} : List (Lit × DataW H) → Nat
  | [] => 0
  | x :: r => uptoBulkEntry x + uptoBulkEntries r
def uptoBulkEntry {H : Type} : Lit × DataW H → Nat
  | (.string bytes, d) => bytes.length + uptoBulk d + 1
  | (_, d) => uptoBulk d + 1
 end
def uptoSmall : (H : Type) → List (DataW H) → Bool := fun _ ds => decide (uptoBulkAll ds ≤ 1048576)
def OpenSpec.upto (s : _root_.Go.ChangeSpec) : _root_.Go.OpenSpec := { _root_.Go.OpenSpec.ofChange s with cond := some uptoSmall }

/-- 'caulkworkslaw05.DriveTells', WHERE WHAT IT READS IS OF BULK AT MOST 1048576: true; the input reads as it did. -/
def driveTellsUptoRow : OpenClaim := { program := "ytfdkhgegijiceaa", sum := "64e53b027ee41f6be9cd1f7f448ffc8d75bdb4424c88a9a0a1d5cba03fee8ae4", func := "caulkworks/caulkworkslaw05.DriveTells", spec := "driveTells", unfollowed := true, recurses := true, plainKeys := false, apart := false, narrowed := true }
def DriveTellsUptoSaid : Prop := driveTellsUptoRow.holds Try.pinned (OpenSpec.upto driveTellsSpec)

/-- 'caulkworkslaw05.DrivePushes', WHERE WHAT IT READS IS OF BULK AT MOST 1048576: true; the input reads as it did. -/
def drivePushesUptoRow : OpenClaim := { program := "ytfdkhgegijiceaa", sum := "64e53b027ee41f6be9cd1f7f448ffc8d75bdb4424c88a9a0a1d5cba03fee8ae4", func := "caulkworks/caulkworkslaw05.DrivePushes", spec := "drivePushes", unfollowed := true, recurses := true, plainKeys := false, apart := false, narrowed := true }
def DrivePushesUptoSaid : Prop := drivePushesUptoRow.holds Try.pinned (OpenSpec.upto drivePushesSpec)

/-- 'caulkworkslaw05.DriveNames', WHERE WHAT IT READS IS OF BULK AT MOST 1048576: true; the input reads as it did. -/
def driveNamesUptoRow : OpenClaim := { program := "ytfdkhgegijiceaa", sum := "64e53b027ee41f6be9cd1f7f448ffc8d75bdb4424c88a9a0a1d5cba03fee8ae4", func := "caulkworks/caulkworkslaw05.DriveNames", spec := "driveNames", unfollowed := true, recurses := true, plainKeys := false, apart := false, narrowed := true }
def DriveNamesUptoSaid : Prop := driveNamesUptoRow.holds Try.pinned (OpenSpec.upto driveNamesSpec)

/-- 'caulkworkslaw05.DriveOrder', WHERE WHAT IT READS IS OF BULK AT MOST 1048576: true; the input reads as it did. -/
def driveOrderUptoRow : OpenClaim := { program := "ytfdkhgegijiceaa", sum := "64e53b027ee41f6be9cd1f7f448ffc8d75bdb4424c88a9a0a1d5cba03fee8ae4", func := "caulkworks/caulkworkslaw05.DriveOrder", spec := "driveOrder", unfollowed := true, recurses := true, plainKeys := false, apart := false, narrowed := true }
def DriveOrderUptoSaid : Prop := driveOrderUptoRow.holds Try.pinned (OpenSpec.upto driveOrderSpec)

/-- 'caulkworkslaw05.DriveGiven', WHERE WHAT IT READS IS OF BULK AT MOST 1048576: true; the input reads as it did. -/
def driveGivenUptoRow : OpenClaim := { program := "ytfdkhgegijiceaa", sum := "64e53b027ee41f6be9cd1f7f448ffc8d75bdb4424c88a9a0a1d5cba03fee8ae4", func := "caulkworks/caulkworkslaw05.DriveGiven", spec := "driveGiven", unfollowed := true, recurses := true, plainKeys := false, apart := false, narrowed := true }
def DriveGivenUptoSaid : Prop := driveGivenUptoRow.holds Try.pinned (OpenSpec.upto driveGivenSpec)

/-- 'caulkworkslaw05.DriveTrue', WHERE WHAT IT READS IS OF BULK AT MOST 1048576: true; the input reads as it did. -/
def driveTrueUptoRow : OpenClaim := { program := "ytfdkhgegijiceaa", sum := "64e53b027ee41f6be9cd1f7f448ffc8d75bdb4424c88a9a0a1d5cba03fee8ae4", func := "caulkworks/caulkworkslaw05.DriveTrue", spec := "driveTrue", unfollowed := true, recurses := true, plainKeys := false, apart := false, narrowed := true }
def DriveTrueUptoSaid : Prop := driveTrueUptoRow.holds Try.pinned (OpenSpec.upto driveTrueSpec)

/-- 'caulkworkslaw05.DriveEnds', WHERE WHAT IT READS IS OF BULK AT MOST 1048576: true; the input reads as it did. -/
def driveEndsUptoRow : OpenClaim := { program := "ytfdkhgegijiceaa", sum := "64e53b027ee41f6be9cd1f7f448ffc8d75bdb4424c88a9a0a1d5cba03fee8ae4", func := "caulkworks/caulkworkslaw05.DriveEnds", spec := "driveEnds", unfollowed := true, recurses := true, plainKeys := false, apart := false, narrowed := true }
def DriveEndsUptoSaid : Prop := driveEndsUptoRow.holds Try.pinned (OpenSpec.upto driveEndsSpec)

/-- 'caulkworkslaw05.DriveMore', WHERE WHAT IT READS IS OF BULK AT MOST 1048576: true; the input reads as it did. -/
def driveMoreUptoRow : OpenClaim := { program := "ytfdkhgegijiceaa", sum := "64e53b027ee41f6be9cd1f7f448ffc8d75bdb4424c88a9a0a1d5cba03fee8ae4", func := "caulkworks/caulkworkslaw05.DriveMore", spec := "driveMore", unfollowed := true, recurses := true, plainKeys := false, apart := false, narrowed := true }
def DriveMoreUptoSaid : Prop := driveMoreUptoRow.holds Try.pinned (OpenSpec.upto driveMoreSpec)

/-- 'caulkworkslaw05.DriveTurned', WHERE WHAT IT READS IS OF BULK AT MOST 1048576: true; the input reads as it did. -/
def driveTurnedUptoRow : OpenClaim := { program := "ytfdkhgegijiceaa", sum := "64e53b027ee41f6be9cd1f7f448ffc8d75bdb4424c88a9a0a1d5cba03fee8ae4", func := "caulkworks/caulkworkslaw05.DriveTurned", spec := "driveTurned", unfollowed := true, recurses := true, plainKeys := false, apart := false, narrowed := true }
def DriveTurnedUptoSaid : Prop := driveTurnedUptoRow.holds Try.pinned (OpenSpec.upto driveTurnedSpec)

end Rows
end Go.Proofs.Ytfdkhgegijiceaa
