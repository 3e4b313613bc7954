/-
  No cell of these rows narrows 'for every input' (looked for: loops, veiled, ifaces, maps, wideKeys, modest, calm, conditions, laid).
  DERIVED. THE GIVEN ROWS OF THIS SEAT. 9 by the template 'for every input the law returns true; each argument reads behind the call as it read before'; 0 by the template 'total and deterministic' (their statements: YtdfllmjgmdhlpaaGreatTotals.lean).
  GIVEN WITH THE SEED: the statements are not yours to turn. If you find one false, say at which input.
  Laid BY PROGRAM, IN A SANDBOX (cutbox-rows.mjs): the forced cells as the released guide's own fill.sh prints them over the translation a8b796e0a3240d42… (all of the seat's roots in one cut). By AI agents, Wed Nov 11 2026. No macro, syntax, notation, axiom, sorry.
-/
import Derived.Test.YtdfllmjgmdhlpaaGreatChecked
import GoSem.Claim
import GoSem.ClaimJoined
import GoSem.ClaimMapViews
import Derived.JoinedTies
import Derived.KernelRfl
namespace Go.Proofs.YtdfllmjgmdhlpaaGreat
/- THE CELL 'sum', in the pinned program and in every row, IS THE sha256 OF THE DUMP (.gsa) THAT YtdfllmjgmdhlpaaGreatProg.lean LOADS. Nothing in Lean hashes anything: it is a label: what it is worth is what the hold of that sum in a sandbox is worth. -/
noncomputable def Tryz.pinned : Pinned := { name := "ytdfllmjgmdhlpaagreat", sum := "a8b796e0a3240d42f2a4ae495594496258b3a5091953d86b8045136e28a19a7c", checked := Tryz.checked }
namespace Rows
def none {H : Type} : Left H := { results := [], args := [] }

/-- 'caulkworkslaw03.RakeTells': WHATEVER THE INPUT: true; the input reads as it did. -/
def rakeTellsSpec : ChangeSpec := { name := "rakeTells", fn := fun _ => fun
  | [d1, d2] => { results := [.lit (.bool true)], args := [d1, d2] }
  | _ => none }
def rakeTellsRow : OpenClaim := { program := "ytdfllmjgmdhlpaagreat", sum := "a8b796e0a3240d42f2a4ae495594496258b3a5091953d86b8045136e28a19a7c", func := "caulkworks/caulkworkslaw03.RakeTells", spec := "rakeTells", unfollowed := true, recurses := true, plainKeys := false, apart := false }
def RakeTellsSaid : Prop := rakeTellsRow.holds Tryz.pinned (OpenSpec.ofChange rakeTellsSpec)

/-- ITS FALSE NEIGHBOUR: 'it returns false'. Refute it at one input. -/
def rakeTellsWrong : ChangeSpec := { name := "rakeTells", fn := fun _ => fun
  | [d1, d2] => { results := [.lit (.bool false)], args := [d1, d2] }
  | _ => none }
def RakeTellsWrongFalsely : Prop := rakeTellsRow.holds Tryz.pinned (OpenSpec.ofChange rakeTellsWrong)

/-- 'caulkworkslaw03.RakeOrders': WHATEVER THE INPUT: true; the input reads as it did. -/
def rakeOrdersSpec : ChangeSpec := { name := "rakeOrders", fn := fun _ => fun
  | [d1, d2, d3] => { results := [.lit (.bool true)], args := [d1, d2, d3] }
  | _ => none }
def rakeOrdersRow : OpenClaim := { program := "ytdfllmjgmdhlpaagreat", sum := "a8b796e0a3240d42f2a4ae495594496258b3a5091953d86b8045136e28a19a7c", func := "caulkworks/caulkworkslaw03.RakeOrders", spec := "rakeOrders", unfollowed := true, recurses := true, plainKeys := false, apart := false }
def RakeOrdersSaid : Prop := rakeOrdersRow.holds Tryz.pinned (OpenSpec.ofChange rakeOrdersSpec)

/-- ITS FALSE NEIGHBOUR: 'it returns false'. Refute it at one input. -/
def rakeOrdersWrong : ChangeSpec := { name := "rakeOrders", fn := fun _ => fun
  | [d1, d2, d3] => { results := [.lit (.bool false)], args := [d1, d2, d3] }
  | _ => none }
def RakeOrdersWrongFalsely : Prop := rakeOrdersRow.holds Tryz.pinned (OpenSpec.ofChange rakeOrdersWrong)

/-- 'caulkworkslaw03.RakeNames': WHATEVER THE INPUT: true; the input reads as it did. -/
def rakeNamesSpec : ChangeSpec := { name := "rakeNames", fn := fun _ => fun
  | [] => { results := [.lit (.bool true)], args := [] }
  | _ => none }
def rakeNamesRow : OpenClaim := { program := "ytdfllmjgmdhlpaagreat", sum := "a8b796e0a3240d42f2a4ae495594496258b3a5091953d86b8045136e28a19a7c", func := "caulkworks/caulkworkslaw03.RakeNames", spec := "rakeNames", unfollowed := true, recurses := true, plainKeys := false, apart := false }
def RakeNamesSaid : Prop := rakeNamesRow.holds Tryz.pinned (OpenSpec.ofChange rakeNamesSpec)

/-- ITS FALSE NEIGHBOUR: 'it returns false'. Refute it at one input. -/
def rakeNamesWrong : ChangeSpec := { name := "rakeNames", fn := fun _ => fun
  | [] => { results := [.lit (.bool false)], args := [] }
  | _ => none }
def RakeNamesWrongFalsely : Prop := rakeNamesRow.holds Tryz.pinned (OpenSpec.ofChange rakeNamesWrong)

/-- 'caulkworkslaw03.RakeFollow': WHATEVER THE INPUT: true; the input reads as it did. -/
def rakeFollowSpec : ChangeSpec := { name := "rakeFollow", fn := fun _ => fun
  | [d1, d2] => { results := [.lit (.bool true)], args := [d1, d2] }
  | _ => none }
def rakeFollowRow : OpenClaim := { program := "ytdfllmjgmdhlpaagreat", sum := "a8b796e0a3240d42f2a4ae495594496258b3a5091953d86b8045136e28a19a7c", func := "caulkworks/caulkworkslaw03.RakeFollow", spec := "rakeFollow", unfollowed := true, recurses := true, plainKeys := false, apart := false }
def RakeFollowSaid : Prop := rakeFollowRow.holds Tryz.pinned (OpenSpec.ofChange rakeFollowSpec)

/-- ITS FALSE NEIGHBOUR: 'it returns false'. Refute it at one input. -/
def rakeFollowWrong : ChangeSpec := { name := "rakeFollow", fn := fun _ => fun
  | [d1, d2] => { results := [.lit (.bool false)], args := [d1, d2] }
  | _ => none }
def RakeFollowWrongFalsely : Prop := rakeFollowRow.holds Tryz.pinned (OpenSpec.ofChange rakeFollowWrong)

/-- 'caulkworkslaw03.RakeBest': WHATEVER THE INPUT: true; the input reads as it did. -/
def rakeBestSpec : ChangeSpec := { name := "rakeBest", fn := fun _ => fun
  | [d1, d2, d3, d4] => { results := [.lit (.bool true)], args := [d1, d2, d3, d4] }
  | _ => none }
def rakeBestRow : OpenClaim := { program := "ytdfllmjgmdhlpaagreat", sum := "a8b796e0a3240d42f2a4ae495594496258b3a5091953d86b8045136e28a19a7c", func := "caulkworks/caulkworkslaw03.RakeBest", spec := "rakeBest", unfollowed := true, recurses := true, plainKeys := false, apart := false }
def RakeBestSaid : Prop := rakeBestRow.holds Tryz.pinned (OpenSpec.ofChange rakeBestSpec)

/-- ITS FALSE NEIGHBOUR: 'it returns false'. Refute it at one input. -/
def rakeBestWrong : ChangeSpec := { name := "rakeBest", fn := fun _ => fun
  | [d1, d2, d3, d4] => { results := [.lit (.bool false)], args := [d1, d2, d3, d4] }
  | _ => none }
def RakeBestWrongFalsely : Prop := rakeBestRow.holds Tryz.pinned (OpenSpec.ofChange rakeBestWrong)

/-- 'caulkworkslaw03.RakeOrder': WHATEVER THE INPUT: true; the input reads as it did. -/
def rakeOrderSpec : ChangeSpec := { name := "rakeOrder", fn := fun _ => fun
  | [d1, d2, d3] => { results := [.lit (.bool true)], args := [d1, d2, d3] }
  | _ => none }
def rakeOrderRow : OpenClaim := { program := "ytdfllmjgmdhlpaagreat", sum := "a8b796e0a3240d42f2a4ae495594496258b3a5091953d86b8045136e28a19a7c", func := "caulkworks/caulkworkslaw03.RakeOrder", spec := "rakeOrder", unfollowed := true, recurses := true, plainKeys := false, apart := false }
def RakeOrderSaid : Prop := rakeOrderRow.holds Tryz.pinned (OpenSpec.ofChange rakeOrderSpec)

/-- ITS FALSE NEIGHBOUR: 'it returns false'. Refute it at one input. -/
def rakeOrderWrong : ChangeSpec := { name := "rakeOrder", fn := fun _ => fun
  | [d1, d2, d3] => { results := [.lit (.bool false)], args := [d1, d2, d3] }
  | _ => none }
def RakeOrderWrongFalsely : Prop := rakeOrderRow.holds Tryz.pinned (OpenSpec.ofChange rakeOrderWrong)

/-- 'caulkworkslaw03.RakeMore': WHATEVER THE INPUT: true; the input reads as it did. -/
def rakeMoreSpec : ChangeSpec := { name := "rakeMore", fn := fun _ => fun
  | [d1, d2, d3, d4] => { results := [.lit (.bool true)], args := [d1, d2, d3, d4] }
  | _ => none }
def rakeMoreRow : OpenClaim := { program := "ytdfllmjgmdhlpaagreat", sum := "a8b796e0a3240d42f2a4ae495594496258b3a5091953d86b8045136e28a19a7c", func := "caulkworks/caulkworkslaw03.RakeMore", spec := "rakeMore", unfollowed := true, recurses := true, plainKeys := false, apart := false }
def RakeMoreSaid : Prop := rakeMoreRow.holds Tryz.pinned (OpenSpec.ofChange rakeMoreSpec)

/-- ITS FALSE NEIGHBOUR: 'it returns false'. Refute it at one input. -/
def rakeMoreWrong : ChangeSpec := { name := "rakeMore", fn := fun _ => fun
  | [d1, d2, d3, d4] => { results := [.lit (.bool false)], args := [d1, d2, d3, d4] }
  | _ => none }
def RakeMoreWrongFalsely : Prop := rakeMoreRow.holds Tryz.pinned (OpenSpec.ofChange rakeMoreWrong)

/-- 'caulkworkslaw03.RakeTurned': WHATEVER THE INPUT: true; the input reads as it did. -/
def rakeTurnedSpec : ChangeSpec := { name := "rakeTurned", fn := fun _ => fun
  | [d1, d2, d3, d4] => { results := [.lit (.bool true)], args := [d1, d2, d3, d4] }
  | _ => none }
def rakeTurnedRow : OpenClaim := { program := "ytdfllmjgmdhlpaagreat", sum := "a8b796e0a3240d42f2a4ae495594496258b3a5091953d86b8045136e28a19a7c", func := "caulkworks/caulkworkslaw03.RakeTurned", spec := "rakeTurned", unfollowed := true, recurses := true, plainKeys := false, apart := false }
def RakeTurnedSaid : Prop := rakeTurnedRow.holds Tryz.pinned (OpenSpec.ofChange rakeTurnedSpec)

/-- ITS FALSE NEIGHBOUR: 'it returns false'. Refute it at one input. -/
def rakeTurnedWrong : ChangeSpec := { name := "rakeTurned", fn := fun _ => fun
  | [d1, d2, d3, d4] => { results := [.lit (.bool false)], args := [d1, d2, d3, d4] }
  | _ => none }
def RakeTurnedWrongFalsely : Prop := rakeTurnedRow.holds Tryz.pinned (OpenSpec.ofChange rakeTurnedWrong)

/-- 'caulkworkslaw03.RakeEnough': WHATEVER THE INPUT: true; the input reads as it did. -/
def rakeEnoughSpec : ChangeSpec := { name := "rakeEnough", fn := fun _ => fun
  | [d1, d2] => { results := [.lit (.bool true)], args := [d1, d2] }
  | _ => none }
def rakeEnoughRow : OpenClaim := { program := "ytdfllmjgmdhlpaagreat", sum := "a8b796e0a3240d42f2a4ae495594496258b3a5091953d86b8045136e28a19a7c", func := "caulkworks/caulkworkslaw03.RakeEnough", spec := "rakeEnough", unfollowed := true, recurses := true, plainKeys := false, apart := false }
def RakeEnoughSaid : Prop := rakeEnoughRow.holds Tryz.pinned (OpenSpec.ofChange rakeEnoughSpec)

/-- ITS FALSE NEIGHBOUR: 'it returns false'. Refute it at one input. -/
def rakeEnoughWrong : ChangeSpec := { name := "rakeEnough", fn := fun _ => fun
  | [d1, d2] => { results := [.lit (.bool false)], args := [d1, d2] }
  | _ => none }
def RakeEnoughWrongFalsely : Prop := rakeEnoughRow.holds Tryz.pinned (OpenSpec.ofChange rakeEnoughWrong)

/- THE SECOND FORM. 'bulk': how many values and letters a reading holds, each counted each time it is reached (what is shared counts as often as it is met; a slice's spare places count too). A statement '..UptoSaid' is the law's where the arguments, and the package variables that the reading takes, are together of bulk at most 1048576: NARROWER than '..Said'. Prove '..Said' where nothing that the law and all that it calls make is longer than what came in: it says more and counts as full. Else prove '..UptoSaid'. A law counts once. -/
mutual
def uptoBulk {H : Type} : DataW H → Nat
  | .lit (.string bytes) => bytes.length + 1
  | .lit _ => 1
  | .nil => 1
  | .ptr d => uptoBulk d + 1
  | .slice elems spare => uptoBulkAll elems + uptoBulkAll spare + 1
  | .agg parts => uptoBulkAll parts + 1
  | .iface _ d => uptoBulk d + 1
  | .map entries => uptoBulkEntries entries + 1
  | .held _ => 1
def uptoBulkAll {H : Type} : List (DataW H) → Nat
  | [] => 0
  | d :: r => uptoBulk d + uptoBulkAll r
def uptoBulkEntries {H : Type} : List (Lit × DataW H) → Nat
  | [] => 0
  | x :: r => uptoBulkEntry x + uptoBulkEntries r
def uptoBulkEntry {H : Type} : Lit × DataW H → Nat
  | (.string bytes, d) => bytes.length + uptoBulk d + 1
  | (_, d) => uptoBulk d + 1
 end
def uptoSmall : (H : Type) → List (DataW H) → Bool := fun _ ds => decide (uptoBulkAll ds ≤ 1048576)
def OpenSpec.upto (s : _root_.Go.ChangeSpec) : _root_.Go.OpenSpec := { _root_.Go.OpenSpec.ofChange s with cond := some uptoSmall }

/-- 'caulkworkslaw03.RakeTells', WHERE WHAT IT READS IS OF BULK AT MOST 1048576: true; the input reads as it did. -/
def rakeTellsUptoRow : OpenClaim := { program := "ytdfllmjgmdhlpaagreat", sum := "a8b796e0a3240d42f2a4ae495594496258b3a5091953d86b8045136e28a19a7c", func := "caulkworks/caulkworkslaw03.RakeTells", spec := "rakeTells", unfollowed := true, recurses := true, plainKeys := false, apart := false, narrowed := true }
def RakeTellsUptoSaid : Prop := rakeTellsUptoRow.holds Tryz.pinned (OpenSpec.upto rakeTellsSpec)

/-- 'caulkworkslaw03.RakeOrders', WHERE WHAT IT READS IS OF BULK AT MOST 1048576: true; the input reads as it did. -/
def rakeOrdersUptoRow : OpenClaim := { program := "ytdfllmjgmdhlpaagreat", sum := "a8b796e0a3240d42f2a4ae495594496258b3a5091953d86b8045136e28a19a7c", func := "caulkworks/caulkworkslaw03.RakeOrders", spec := "rakeOrders", unfollowed := true, recurses := true, plainKeys := false, apart := false, narrowed := true }
def RakeOrdersUptoSaid : Prop := rakeOrdersUptoRow.holds Tryz.pinned (OpenSpec.upto rakeOrdersSpec)

/-- 'caulkworkslaw03.RakeNames', WHERE WHAT IT READS IS OF BULK AT MOST 1048576: true; the input reads as it did. -/
def rakeNamesUptoRow : OpenClaim := { program := "ytdfllmjgmdhlpaagreat", sum := "a8b796e0a3240d42f2a4ae495594496258b3a5091953d86b8045136e28a19a7c", func := "caulkworks/caulkworkslaw03.RakeNames", spec := "rakeNames", unfollowed := true, recurses := true, plainKeys := false, apart := false, narrowed := true }
def RakeNamesUptoSaid : Prop := rakeNamesUptoRow.holds Tryz.pinned (OpenSpec.upto rakeNamesSpec)

/-- 'caulkworkslaw03.RakeFollow', WHERE WHAT IT READS IS OF BULK AT MOST 1048576: true; the input reads as it did. -/
def rakeFollowUptoRow : OpenClaim := { program := "ytdfllmjgmdhlpaagreat", sum := "a8b796e0a3240d42f2a4ae495594496258b3a5091953d86b8045136e28a19a7c", func := "caulkworks/caulkworkslaw03.RakeFollow", spec := "rakeFollow", unfollowed := true, recurses := true, plainKeys := false, apart := false, narrowed := true }
def RakeFollowUptoSaid : Prop := rakeFollowUptoRow.holds Tryz.pinned (OpenSpec.upto rakeFollowSpec)

/-- 'caulkworkslaw03.RakeBest', WHERE WHAT IT READS IS OF BULK AT MOST 1048576: true; the input reads as it did. -/
def rakeBestUptoRow : OpenClaim := { program := "ytdfllmjgmdhlpaagreat", sum := "a8b796e0a3240d42f2a4ae495594496258b3a5091953d86b8045136e28a19a7c", func := "caulkworks/caulkworkslaw03.RakeBest", spec := "rakeBest", unfollowed := true, recurses := true, plainKeys := false, apart := false, narrowed := true }
def RakeBestUptoSaid : Prop := rakeBestUptoRow.holds Tryz.pinned (OpenSpec.upto rakeBestSpec)

/-- 'caulkworkslaw03.RakeOrder', WHERE WHAT IT READS IS OF BULK AT MOST 1048576: true; the input reads as it did. -/
def rakeOrderUptoRow : OpenClaim := { program := "ytdfllmjgmdhlpaagreat", sum := "a8b796e0a3240d42f2a4ae495594496258b3a5091953d86b8045136e28a19a7c", func := "caulkworks/caulkworkslaw03.RakeOrder", spec := "rakeOrder", unfollowed := true, recurses := true, plainKeys := false, apart := false, narrowed := true }
def RakeOrderUptoSaid : Prop := rakeOrderUptoRow.holds Tryz.pinned (OpenSpec.upto rakeOrderSpec)

/-- 'caulkworkslaw03.RakeMore', WHERE WHAT IT READS IS OF BULK AT MOST 1048576: true; the input reads as it did. -/
def rakeMoreUptoRow : OpenClaim := { program := "ytdfllmjgmdhlpaagreat", sum := "a8b796e0a3240d42f2a4ae495594496258b3a5091953d86b8045136e28a19a7c", func := "caulkworks/caulkworkslaw03.RakeMore", spec := "rakeMore", unfollowed := true, recurses := true, plainKeys := false, apart := false, narrowed := true }
def RakeMoreUptoSaid : Prop := rakeMoreUptoRow.holds Tryz.pinned (OpenSpec.upto rakeMoreSpec)

/-- 'caulkworkslaw03.RakeTurned', WHERE WHAT IT READS IS OF BULK AT MOST 1048576: true; the input reads as it did. -/
def rakeTurnedUptoRow : OpenClaim := { program := "ytdfllmjgmdhlpaagreat", sum := "a8b796e0a3240d42f2a4ae495594496258b3a5091953d86b8045136e28a19a7c", func := "caulkworks/caulkworkslaw03.RakeTurned", spec := "rakeTurned", unfollowed := true, recurses := true, plainKeys := false, apart := false, narrowed := true }
def RakeTurnedUptoSaid : Prop := rakeTurnedUptoRow.holds Tryz.pinned (OpenSpec.upto rakeTurnedSpec)

/-- 'caulkworkslaw03.RakeEnough', WHERE WHAT IT READS IS OF BULK AT MOST 1048576: true; the input reads as it did. -/
def rakeEnoughUptoRow : OpenClaim := { program := "ytdfllmjgmdhlpaagreat", sum := "a8b796e0a3240d42f2a4ae495594496258b3a5091953d86b8045136e28a19a7c", func := "caulkworks/caulkworkslaw03.RakeEnough", spec := "rakeEnough", unfollowed := true, recurses := true, plainKeys := false, apart := false, narrowed := true }
def RakeEnoughUptoSaid : Prop := rakeEnoughUptoRow.holds Tryz.pinned (OpenSpec.upto rakeEnoughSpec)

end Rows
end Go.Proofs.YtdfllmjgmdhlpaaGreat
