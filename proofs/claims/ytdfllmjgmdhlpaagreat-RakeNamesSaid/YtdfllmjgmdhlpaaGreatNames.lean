/-
  The law RakeNames returns true; no conditions.
-/
import Derived.Test.YtdfllmjgmdhlpaaGreatUa
set_option linter.unusedVariables false
set_option linter.unusedSimpArgs false
set_option linter.unusedSectionVars false

/- The law RakeNames returns true; no conditions. -/
section
set_option maxRecDepth 100000
namespace Go.Proofs.YtdfllmjgmdhlpaaGreat
open Go Go.Cw

theorem rakeNames_lifted (os : Os) (started : os.Started) (H : Type) (enc : TypeId × Value → H) :
    ReturnsInHanded {} Tryz.checked os 5 .any (Rows.rakeNamesSpec.pre6 enc Tryz.prog Tryz.f5 Rows.rakeNamesRow.domain false) (Rows.rakeNamesSpec.post enc Tryz.prog Tryz.f5 false true false false) :=
  law_lifted (C := Tryz.checked) (T := (· < Pg.types.size)) started ownKnobNone (by kernel_rfl) Tryz.func5
    (ChangeSpec.witness6 (enc := enc) (C := Tryz.checked) false ⟨#[], #[], []⟩ 8 (by kernel_rfl) (by kernel_rfl) (by kernel_rfl) (by kernel_rfl))
    kids slices_full (by decide +kernel) rfl rfl Tryz.underlying4
    (fun ds h => match ds, h with | [], _ => rfl)
    (fun w => by
      show OpensA Pg w _ [] _
      exact .nil (law03_RakeNames_ok ))

theorem rakeNames_holds : Rows.RakeNamesSaid :=
  OpenClaim.holds_of_wide 5 Tryz.f5 rfl rfl rfl rfl rfl rfl rfl ⟨rfl, rfl, rfl, rfl, rfl⟩ rfl rfl rfl rfl rfl (by kernel_rfl) Tryz.func5 (by kernel_rfl)
    (of_decide_eq_true (by kernel_rfl)) (by unfold Func.isWrapper; first | (rw [if_pos (by decide +kernel)]; kernel_rfl) | (rw [if_neg (by decide +kernel)]; exact ⟨rfl, rfl⟩))
    (fun os started H enc _ => rakeNames_lifted os started H enc)
#print axioms rakeNames_holds
end Go.Proofs.YtdfllmjgmdhlpaaGreat
end
