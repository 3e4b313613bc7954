/-
  The law DriveNames returns true: errors and limits have the document's values, and the chapter's examples hold; no conditions.
-/
import Derived.Test.YtfdkhgegijiceaaDd
set_option linter.unusedVariables false
set_option linter.unusedSimpArgs false
set_option linter.unusedSectionVars false

/- The law DriveNames returns true: errors and limits have the document's values, and the chapter's examples hold; no conditions. -/
section
set_option maxRecDepth 100000
namespace Go.Proofs.Ytfdkhgegijiceaa
open Go Go.Cw

theorem driveNames_lifted (os : Os) (started : os.Started) (H : Type) (enc : TypeId × Value → H) :
    ReturnsInHanded {} Try.checked os 5 .any (Rows.driveNamesSpec.pre6 enc Try.prog Try.f5 Rows.driveNamesRow.domain false) (Rows.driveNamesSpec.post enc Try.prog Try.f5 false true false false) :=
  law_lifted (C := Try.checked) (T := (· < Pg.types.size)) started ownKnobNone (by kernel_rfl) Try.func5
    (ChangeSpec.witness6 (enc := enc) (C := Try.checked) false ⟨#[], #[], []⟩ 8 (by kernel_rfl) (by kernel_rfl) (by kernel_rfl) (by kernel_rfl))
    kids slices_full (by decide +kernel) rfl rfl Try.underlying4
    (fun ds h => match ds, h with | [], _ => rfl)
    (fun w => by
      show OpensA Pg w _ [] _

      exact .nil (law05_DriveNames_ok ))

theorem driveNames_holds : Rows.DriveNamesSaid :=
  OpenClaim.holds_of_wide 5 Try.f5 rfl rfl rfl rfl rfl rfl rfl ⟨rfl, rfl, rfl, rfl, rfl⟩ rfl rfl rfl rfl rfl (by kernel_rfl) Try.func5 (by kernel_rfl)
    (of_decide_eq_true (by kernel_rfl)) (by unfold Func.isWrapper; first | (rw [if_pos (by decide +kernel)]; kernel_rfl) | (rw [if_neg (by decide +kernel)]; exact ⟨rfl, rfl⟩))
    (fun os started H enc _ => driveNames_lifted os started H enc)
#print axioms driveNames_holds
end Go.Proofs.Ytfdkhgegijiceaa
end
