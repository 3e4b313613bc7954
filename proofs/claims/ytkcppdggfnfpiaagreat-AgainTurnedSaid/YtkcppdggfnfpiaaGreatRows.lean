/-
  No cell of these rows narrows 'for every input' (looked for: loops, veiled, ifaces, maps, wideKeys, modest, calm, conditions, laid).
  DERIVED. THE GIVEN ROWS OF THIS SEAT. 9 by the template 'for every input the law returns true; each argument reads behind the call as it read before'; 0 by the template 'total and deterministic' (their statements: YtkcppdggfnfpiaaGreatTotals.lean).
  GIVEN WITH THE SEED: the statements are not yours to turn. If you find one false, say at which input.
  Laid BY PROGRAM, IN A SANDBOX (cutbox-rows.mjs): the forced cells as the released guide's own fill.sh prints them over the translation 880e74d686a76d37… (all of the seat's roots in one cut). By AI agents, Wed Nov 11 2026. No macro, syntax, notation, axiom, sorry.
-/
import Derived.Test.YtkcppdggfnfpiaaGreatChecked
import GoSem.Claim
import GoSem.ClaimJoined
import GoSem.ClaimMapViews
import Derived.JoinedTies
import Derived.KernelRfl
namespace Go.Proofs.YtkcppdggfnfpiaaGreat
/- THE CELL 'sum', in the pinned program and in every row, IS THE sha256 OF THE DUMP (.gsa) THAT YtkcppdggfnfpiaaGreatProg.lean LOADS. Nothing in Lean hashes anything: it is a label: what it is worth is what the hold of that sum in a sandbox is worth. -/
noncomputable def Tryz.pinned : Pinned := { name := "ytkcppdggfnfpiaagreat", sum := "880e74d686a76d37a454d2090992513c4755dcd7771fdb7935df699ca9358e69", checked := Tryz.checked }
namespace Rows
def none {H : Type} : Left H := { results := [], args := [] }

/-- 'caulkworkslaw11.AgainTells': WHATEVER THE INPUT: true; the input reads as it did. -/
def againTellsSpec : ChangeSpec := { name := "againTells", fn := fun _ => fun
  | [d1, d2] => { results := [.lit (.bool true)], args := [d1, d2] }
  | _ => none }
def againTellsRow : OpenClaim := { program := "ytkcppdggfnfpiaagreat", sum := "880e74d686a76d37a454d2090992513c4755dcd7771fdb7935df699ca9358e69", func := "caulkworks/caulkworkslaw11.AgainTells", spec := "againTells", unfollowed := true, recurses := true, plainKeys := false, apart := false }
def AgainTellsSaid : Prop := againTellsRow.holds Tryz.pinned (OpenSpec.ofChange againTellsSpec)

/-- ITS FALSE NEIGHBOUR: 'it returns false'. Refute it at one input. -/
def againTellsWrong : ChangeSpec := { name := "againTells", fn := fun _ => fun
  | [d1, d2] => { results := [.lit (.bool false)], args := [d1, d2] }
  | _ => none }
def AgainTellsWrongFalsely : Prop := againTellsRow.holds Tryz.pinned (OpenSpec.ofChange againTellsWrong)

/-- 'caulkworkslaw11.AgainAsks': WHATEVER THE INPUT: true; the input reads as it did. -/
def againAsksSpec : ChangeSpec := { name := "againAsks", fn := fun _ => fun
  | [d] => { results := [.lit (.bool true)], args := [d] }
  | _ => none }
def againAsksRow : OpenClaim := { program := "ytkcppdggfnfpiaagreat", sum := "880e74d686a76d37a454d2090992513c4755dcd7771fdb7935df699ca9358e69", func := "caulkworks/caulkworkslaw11.AgainAsks", spec := "againAsks", unfollowed := true, recurses := true, plainKeys := false, apart := false }
def AgainAsksSaid : Prop := againAsksRow.holds Tryz.pinned (OpenSpec.ofChange againAsksSpec)

/-- ITS FALSE NEIGHBOUR: 'it returns false'. Refute it at one input. -/
def againAsksWrong : ChangeSpec := { name := "againAsks", fn := fun _ => fun
  | [d] => { results := [.lit (.bool false)], args := [d] }
  | _ => none }
def AgainAsksWrongFalsely : Prop := againAsksRow.holds Tryz.pinned (OpenSpec.ofChange againAsksWrong)

/-- 'caulkworkslaw11.AgainNames': WHATEVER THE INPUT: true; the input reads as it did. -/
def againNamesSpec : ChangeSpec := { name := "againNames", fn := fun _ => fun
  | [] => { results := [.lit (.bool true)], args := [] }
  | _ => none }
def againNamesRow : OpenClaim := { program := "ytkcppdggfnfpiaagreat", sum := "880e74d686a76d37a454d2090992513c4755dcd7771fdb7935df699ca9358e69", func := "caulkworks/caulkworkslaw11.AgainNames", spec := "againNames", unfollowed := true, recurses := true, plainKeys := false, apart := false }
def AgainNamesSaid : Prop := againNamesRow.holds Tryz.pinned (OpenSpec.ofChange againNamesSpec)

/-- ITS FALSE NEIGHBOUR: 'it returns false'. Refute it at one input. -/
def againNamesWrong : ChangeSpec := { name := "againNames", fn := fun _ => fun
  | [] => { results := [.lit (.bool false)], args := [] }
  | _ => none }
def AgainNamesWrongFalsely : Prop := againNamesRow.holds Tryz.pinned (OpenSpec.ofChange againNamesWrong)

/-- 'caulkworkslaw11.AgainTrue': WHATEVER THE INPUT: true; the input reads as it did. -/
def againTrueSpec : ChangeSpec := { name := "againTrue", fn := fun _ => fun
  | [d1, d2] => { results := [.lit (.bool true)], args := [d1, d2] }
  | _ => none }
def againTrueRow : OpenClaim := { program := "ytkcppdggfnfpiaagreat", sum := "880e74d686a76d37a454d2090992513c4755dcd7771fdb7935df699ca9358e69", func := "caulkworks/caulkworkslaw11.AgainTrue", spec := "againTrue", unfollowed := true, recurses := true, plainKeys := false, apart := false }
def AgainTrueSaid : Prop := againTrueRow.holds Tryz.pinned (OpenSpec.ofChange againTrueSpec)

/-- ITS FALSE NEIGHBOUR: 'it returns false'. Refute it at one input. -/
def againTrueWrong : ChangeSpec := { name := "againTrue", fn := fun _ => fun
  | [d1, d2] => { results := [.lit (.bool false)], args := [d1, d2] }
  | _ => none }
def AgainTrueWrongFalsely : Prop := againTrueRow.holds Tryz.pinned (OpenSpec.ofChange againTrueWrong)

/-- 'caulkworkslaw11.AgainEnds': WHATEVER THE INPUT: true; the input reads as it did. -/
def againEndsSpec : ChangeSpec := { name := "againEnds", fn := fun _ => fun
  | [d1, d2] => { results := [.lit (.bool true)], args := [d1, d2] }
  | _ => none }
def againEndsRow : OpenClaim := { program := "ytkcppdggfnfpiaagreat", sum := "880e74d686a76d37a454d2090992513c4755dcd7771fdb7935df699ca9358e69", func := "caulkworks/caulkworkslaw11.AgainEnds", spec := "againEnds", unfollowed := true, recurses := true, plainKeys := false, apart := false }
def AgainEndsSaid : Prop := againEndsRow.holds Tryz.pinned (OpenSpec.ofChange againEndsSpec)

/-- ITS FALSE NEIGHBOUR: 'it returns false'. Refute it at one input. -/
def againEndsWrong : ChangeSpec := { name := "againEnds", fn := fun _ => fun
  | [d1, d2] => { results := [.lit (.bool false)], args := [d1, d2] }
  | _ => none }
def AgainEndsWrongFalsely : Prop := againEndsRow.holds Tryz.pinned (OpenSpec.ofChange againEndsWrong)

/-- 'caulkworkslaw11.AgainUntil': WHATEVER THE INPUT: true; the input reads as it did. -/
def againUntilSpec : ChangeSpec := { name := "againUntil", fn := fun _ => fun
  | [d1, d2] => { results := [.lit (.bool true)], args := [d1, d2] }
  | _ => none }
def againUntilRow : OpenClaim := { program := "ytkcppdggfnfpiaagreat", sum := "880e74d686a76d37a454d2090992513c4755dcd7771fdb7935df699ca9358e69", func := "caulkworks/caulkworkslaw11.AgainUntil", spec := "againUntil", unfollowed := true, recurses := true, plainKeys := false, apart := false }
def AgainUntilSaid : Prop := againUntilRow.holds Tryz.pinned (OpenSpec.ofChange againUntilSpec)

/-- ITS FALSE NEIGHBOUR: 'it returns false'. Refute it at one input. -/
def againUntilWrong : ChangeSpec := { name := "againUntil", fn := fun _ => fun
  | [d1, d2] => { results := [.lit (.bool false)], args := [d1, d2] }
  | _ => none }
def AgainUntilWrongFalsely : Prop := againUntilRow.holds Tryz.pinned (OpenSpec.ofChange againUntilWrong)

/-- 'caulkworkslaw11.AgainAsk': WHATEVER THE INPUT: true; the input reads as it did. -/
def againAskSpec : ChangeSpec := { name := "againAsk", fn := fun _ => fun
  | [d1, d2, d3] => { results := [.lit (.bool true)], args := [d1, d2, d3] }
  | _ => none }
def againAskRow : OpenClaim := { program := "ytkcppdggfnfpiaagreat", sum := "880e74d686a76d37a454d2090992513c4755dcd7771fdb7935df699ca9358e69", func := "caulkworks/caulkworkslaw11.AgainAsk", spec := "againAsk", unfollowed := true, recurses := true, plainKeys := false, apart := false }
def AgainAskSaid : Prop := againAskRow.holds Tryz.pinned (OpenSpec.ofChange againAskSpec)

/-- ITS FALSE NEIGHBOUR: 'it returns false'. Refute it at one input. -/
def againAskWrong : ChangeSpec := { name := "againAsk", fn := fun _ => fun
  | [d1, d2, d3] => { results := [.lit (.bool false)], args := [d1, d2, d3] }
  | _ => none }
def AgainAskWrongFalsely : Prop := againAskRow.holds Tryz.pinned (OpenSpec.ofChange againAskWrong)

/-- 'caulkworkslaw11.AgainMore': WHATEVER THE INPUT: true; the input reads as it did. -/
def againMoreSpec : ChangeSpec := { name := "againMore", fn := fun _ => fun
  | [d1, d2, d3, d4] => { results := [.lit (.bool true)], args := [d1, d2, d3, d4] }
  | _ => none }
def againMoreRow : OpenClaim := { program := "ytkcppdggfnfpiaagreat", sum := "880e74d686a76d37a454d2090992513c4755dcd7771fdb7935df699ca9358e69", func := "caulkworks/caulkworkslaw11.AgainMore", spec := "againMore", unfollowed := true, recurses := true, plainKeys := false, apart := false }
def AgainMoreSaid : Prop := againMoreRow.holds Tryz.pinned (OpenSpec.ofChange againMoreSpec)

/-- ITS FALSE NEIGHBOUR: 'it returns false'. Refute it at one input. -/
def againMoreWrong : ChangeSpec := { name := "againMore", fn := fun _ => fun
  | [d1, d2, d3, d4] => { results := [.lit (.bool false)], args := [d1, d2, d3, d4] }
  | _ => none }
def AgainMoreWrongFalsely : Prop := againMoreRow.holds Tryz.pinned (OpenSpec.ofChange againMoreWrong)

/-- 'caulkworkslaw11.AgainTurned': WHATEVER THE INPUT: true; the input reads as it did. -/
def againTurnedSpec : ChangeSpec := { name := "againTurned", fn := fun _ => fun
  | [d] => { results := [.lit (.bool true)], args := [d] }
  | _ => none }
def againTurnedRow : OpenClaim := { program := "ytkcppdggfnfpiaagreat", sum := "880e74d686a76d37a454d2090992513c4755dcd7771fdb7935df699ca9358e69", func := "caulkworks/caulkworkslaw11.AgainTurned", spec := "againTurned", unfollowed := true, recurses := true, plainKeys := false, apart := false }
def AgainTurnedSaid : Prop := againTurnedRow.holds Tryz.pinned (OpenSpec.ofChange againTurnedSpec)

/-- ITS FALSE NEIGHBOUR: 'it returns false'. Refute it at one input. -/
def againTurnedWrong : ChangeSpec := { name := "againTurned", fn := fun _ => fun
  | [d] => { results := [.lit (.bool false)], args := [d] }
  | _ => none }
def AgainTurnedWrongFalsely : Prop := againTurnedRow.holds Tryz.pinned (OpenSpec.ofChange againTurnedWrong)

/- THE SECOND FORM. 'bulk': how many values and letters a reading holds, each counted each time it is reached (what is shared counts as often as it is met; a slice's spare places count too). A statement '..UptoSaid' is the law's where the arguments, and the package variables that the reading takes, are together of bulk at most 1048576: NARROWER than '..Said'. Prove '..Said' where nothing that the law and all that it calls make is longer than what came in: it says more and counts as full. Else prove '..UptoSaid'. A law counts once. -/
mutual
def uptoBulk {H : Type} : DataW H → Nat
  | .lit (.string bytes) => bytes.length + 1
  | .lit _ => 1
  | .nil => 1
  | .ptr d => uptoBulk d + 1
  | .slice elems spare => uptoBulkAll elems + uptoBulkAll spare + 1
  | .agg parts => uptoBulkAll parts + 1
  | .iface _ d => uptoBulk d + 1
  | .map entries => uptoBulkEntries entries + 1
  | .held _ => 1
def uptoBulkAll {H : Type} : List (DataW H) → Nat
  | [] => 0
  | d :: r => uptoBulk d + uptoBulkAll r
def uptoBulkEntries {H : Type} : List (Lit × DataW H) → Nat
  | [] => 0
  | x :: r => uptoBulkEntry x + uptoBulkEntries r
def uptoBulkEntry {H : Type} : Lit × DataW H → Nat
  | (.string bytes, d) => bytes.length + uptoBulk d + 1
  | (_, d) => uptoBulk d + 1
 end
def uptoSmall : (H : Type) → List (DataW H) → Bool := fun _ ds => decide (uptoBulkAll ds ≤ 1048576)
def OpenSpec.upto (s : _root_.Go.ChangeSpec) : _root_.Go.OpenSpec := { _root_.Go.OpenSpec.ofChange s with cond := some uptoSmall }

/-- 'caulkworkslaw11.AgainTells', WHERE WHAT IT READS IS OF BULK AT MOST 1048576: true; the input reads as it did. -/
def againTellsUptoRow : OpenClaim := { program := "ytkcppdggfnfpiaagreat", sum := "880e74d686a76d37a454d2090992513c4755dcd7771fdb7935df699ca9358e69", func := "caulkworks/caulkworkslaw11.AgainTells", spec := "againTells", unfollowed := true, recurses := true, plainKeys := false, apart := false, narrowed := true }
def AgainTellsUptoSaid : Prop := againTellsUptoRow.holds Tryz.pinned (OpenSpec.upto againTellsSpec)

/-- 'caulkworkslaw11.AgainAsks', WHERE WHAT IT READS IS OF BULK AT MOST 1048576: true; the input reads as it did. -/
def againAsksUptoRow : OpenClaim := { program := "ytkcppdggfnfpiaagreat", sum := "880e74d686a76d37a454d2090992513c4755dcd7771fdb7935df699ca9358e69", func := "caulkworks/caulkworkslaw11.AgainAsks", spec := "againAsks", unfollowed := true, recurses := true, plainKeys := false, apart := false, narrowed := true }
def AgainAsksUptoSaid : Prop := againAsksUptoRow.holds Tryz.pinned (OpenSpec.upto againAsksSpec)

/-- 'caulkworkslaw11.AgainNames', WHERE WHAT IT READS IS OF BULK AT MOST 1048576: true; the input reads as it did. -/
def againNamesUptoRow : OpenClaim := { program := "ytkcppdggfnfpiaagreat", sum := "880e74d686a76d37a454d2090992513c4755dcd7771fdb7935df699ca9358e69", func := "caulkworks/caulkworkslaw11.AgainNames", spec := "againNames", unfollowed := true, recurses := true, plainKeys := false, apart := false, narrowed := true }
def AgainNamesUptoSaid : Prop := againNamesUptoRow.holds Tryz.pinned (OpenSpec.upto againNamesSpec)

/-- 'caulkworkslaw11.AgainTrue', WHERE WHAT IT READS IS OF BULK AT MOST 1048576: true; the input reads as it did. -/
def againTrueUptoRow : OpenClaim := { program := "ytkcppdggfnfpiaagreat", sum := "880e74d686a76d37a454d2090992513c4755dcd7771fdb7935df699ca9358e69", func := "caulkworks/caulkworkslaw11.AgainTrue", spec := "againTrue", unfollowed := true, recurses := true, plainKeys := false, apart := false, narrowed := true }
def AgainTrueUptoSaid : Prop := againTrueUptoRow.holds Tryz.pinned (OpenSpec.upto againTrueSpec)

/-- 'caulkworkslaw11.AgainEnds', WHERE WHAT IT READS IS OF BULK AT MOST 1048576: true; the input reads as it did. -/
def againEndsUptoRow : OpenClaim := { program := "ytkcppdggfnfpiaagreat", sum := "880e74d686a76d37a454d2090992513c4755dcd7771fdb7935df699ca9358e69", func := "caulkworks/caulkworkslaw11.AgainEnds", spec := "againEnds", unfollowed := true, recurses := true, plainKeys := false, apart := false, narrowed := true }
def AgainEndsUptoSaid : Prop := againEndsUptoRow.holds Tryz.pinned (OpenSpec.upto againEndsSpec)

/-- 'caulkworkslaw11.AgainUntil', WHERE WHAT IT READS IS OF BULK AT MOST 1048576: true; the input reads as it did. -/
def againUntilUptoRow : OpenClaim := { program := "ytkcppdggfnfpiaagreat", sum := "880e74d686a76d37a454d2090992513c4755dcd7771fdb7935df699ca9358e69", func := "caulkworks/caulkworkslaw11.AgainUntil", spec := "againUntil", unfollowed := true, recurses := true, plainKeys := false, apart := false, narrowed := true }
def AgainUntilUptoSaid : Prop := againUntilUptoRow.holds Tryz.pinned (OpenSpec.upto againUntilSpec)

/-- 'caulkworkslaw11.AgainAsk', WHERE WHAT IT READS IS OF BULK AT MOST 1048576: true; the input reads as it did. -/
def againAskUptoRow : OpenClaim := { program := "ytkcppdggfnfpiaagreat", sum := "880e74d686a76d37a454d2090992513c4755dcd7771fdb7935df699ca9358e69", func := "caulkworks/caulkworkslaw11.AgainAsk", spec := "againAsk", unfollowed := true, recurses := true, plainKeys := false, apart := false, narrowed := true }
def AgainAskUptoSaid : Prop := againAskUptoRow.holds Tryz.pinned (OpenSpec.upto againAskSpec)

/-- 'caulkworkslaw11.AgainMore', WHERE WHAT IT READS IS OF BULK AT MOST 1048576: true; the input reads as it did. -/
def againMoreUptoRow : OpenClaim := { program := "ytkcppdggfnfpiaagreat", sum := "880e74d686a76d37a454d2090992513c4755dcd7771fdb7935df699ca9358e69", func := "caulkworks/caulkworkslaw11.AgainMore", spec := "againMore", unfollowed := true, recurses := true, plainKeys := false, apart := false, narrowed := true }
def AgainMoreUptoSaid : Prop := againMoreUptoRow.holds Tryz.pinned (OpenSpec.upto againMoreSpec)

/-- 'caulkworkslaw11.AgainTurned', WHERE WHAT IT READS IS OF BULK AT MOST 1048576: true; the input reads as it did. -/
def againTurnedUptoRow : OpenClaim := { program := "ytkcppdggfnfpiaagreat", sum := "880e74d686a76d37a454d2090992513c4755dcd7771fdb7935df699ca9358e69", func := "caulkworks/caulkworkslaw11.AgainTurned", spec := "againTurned", unfollowed := true, recurses := true, plainKeys := false, apart := false, narrowed := true }
def AgainTurnedUptoSaid : Prop := againTurnedUptoRow.holds Tryz.pinned (OpenSpec.upto againTurnedSpec)

end Rows
end Go.Proofs.YtkcppdggfnfpiaaGreat
