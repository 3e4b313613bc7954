/-
  The law RapNames returns true; no conditions.
-/
import Derived.Test.YtggclbdfeaaapaaRb
set_option linter.unusedVariables false
set_option linter.unusedSimpArgs false
set_option linter.unusedSectionVars false

/- The law RapNames returns true; no conditions. -/
section
set_option maxRecDepth 100000
namespace Go.Proofs.Ytggclbdfeaaapaa
open Go Go.Cw

theorem rapNames_lifted (os : Os) (started : os.Started) (H : Type) (enc : TypeId × Value → H) :
    ReturnsInHanded {} Try.checked os 3 .any (Rows.rapNamesSpec.pre6 enc Try.prog Try.f3 Rows.rapNamesRow.domain false) (Rows.rapNamesSpec.post enc Try.prog Try.f3 false true false false) :=
  law_lifted (C := Try.checked) (T := (· < Pg.types.size)) started ownKnobNone (by kernel_rfl) Try.func3
    (ChangeSpec.witness6 (enc := enc) (C := Try.checked) false ⟨#[], #[], []⟩ 8 (by kernel_rfl) (by kernel_rfl) (by kernel_rfl) (by kernel_rfl))
    kids slices_full (by decide +kernel) rfl rfl Try.underlying4
    (fun ds h => match ds, h with | [], _ => rfl)
    (fun w => by
      show OpensA Pg w _ [] _
      exact .nil (law13_RapNames_ok ))

theorem rapNames_holds : Rows.RapNamesSaid :=
  OpenClaim.holds_of_wide 3 Try.f3 rfl rfl rfl rfl rfl rfl rfl ⟨rfl, rfl, rfl, rfl, rfl⟩ rfl rfl rfl rfl rfl (by kernel_rfl) Try.func3 (by kernel_rfl)
    (of_decide_eq_true (by kernel_rfl)) (by unfold Func.isWrapper; first | (rw [if_pos (by decide +kernel)]; kernel_rfl) | (rw [if_neg (by decide +kernel)]; exact ⟨rfl, rfl⟩))
    (fun os started H enc _ => rapNames_lifted os started H enc)
#print axioms rapNames_holds
end Go.Proofs.Ytggclbdfeaaapaa
end
