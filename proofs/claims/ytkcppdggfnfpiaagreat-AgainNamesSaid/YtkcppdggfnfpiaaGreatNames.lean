/-
  The law AgainNames returns true; it has no arguments.
-/
import Derived.Test.YtkcppdggfnfpiaaGreatXa
set_option linter.unusedVariables false
set_option linter.unusedSimpArgs false
set_option linter.unusedSectionVars false

/- The law AgainNames returns true; it has no arguments. -/
section
set_option maxRecDepth 100000
namespace Go.Proofs.YtkcppdggfnfpiaaGreat
open Go Go.Cw

theorem againNames_lifted (os : Os) (started : os.Started) (H : Type) (enc : TypeId × Value → H) :
    ReturnsInHanded {} Tryz.checked os 5 .any (Rows.againNamesSpec.pre6 enc Tryz.prog Tryz.f5 Rows.againNamesRow.domain false) (Rows.againNamesSpec.post enc Tryz.prog Tryz.f5 false true false false) :=
  law_lifted (C := Tryz.checked) (T := (· < Pg.types.size)) started ownKnobNone (by kernel_rfl) Tryz.func5
    (ChangeSpec.witness6 (enc := enc) (C := Tryz.checked) false ⟨#[], #[], []⟩ 8 (by kernel_rfl) (by kernel_rfl) (by kernel_rfl) (by kernel_rfl))
    kids slices_full (by decide +kernel) rfl rfl Tryz.underlying4
    (fun ds h => match ds, h with | [], _ => rfl)
    (fun w => by
      show OpensA Pg w _ [] _
      exact .nil (law11_AgainNames_ok ))

theorem againNames_holds : Rows.AgainNamesSaid :=
  OpenClaim.holds_of_wide 5 Tryz.f5 rfl rfl rfl rfl rfl rfl rfl ⟨rfl, rfl, rfl, rfl, rfl⟩ rfl rfl rfl rfl rfl (by kernel_rfl) Tryz.func5 (by kernel_rfl)
    (of_decide_eq_true (by kernel_rfl)) (by unfold Func.isWrapper; first | (rw [if_pos (by decide +kernel)]; kernel_rfl) | (rw [if_neg (by decide +kernel)]; exact ⟨rfl, rfl⟩))
    (fun os started H enc _ => againNames_lifted os started H enc)
#print axioms againNames_holds
end Go.Proofs.YtkcppdggfnfpiaaGreat
end
