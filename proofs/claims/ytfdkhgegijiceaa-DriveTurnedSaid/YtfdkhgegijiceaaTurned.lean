/-
  For every drive and every list of numbers by which blows are drawn the law DriveTurned returns true and leaves its arguments as they were; no conditions.
-/
import Derived.Test.YtfdkhgegijiceaaDe
set_option linter.unusedVariables false
set_option linter.unusedSimpArgs false
set_option linter.unusedSectionVars false

/- For every drive and every list of numbers by which blows are drawn the law DriveTurned returns true and leaves its arguments as they were; no conditions. -/
section
set_option maxRecDepth 100000
namespace Go.Proofs.Ytfdkhgegijiceaa
open Go Go.Cw

theorem driveTurned_lifted (os : Os) (started : os.Started) (H : Type) (enc : TypeId × Value → H) :
    ReturnsInHanded {} Try.checked os 11 .any (Rows.driveTurnedSpec.pre6 enc Try.prog Try.f11 Rows.driveTurnedRow.domain false) (Rows.driveTurnedSpec.post enc Try.prog Try.f11 false true false false) :=
  law_lifted (C := Try.checked) (T := (· < Pg.types.size)) started ownKnobNone (by kernel_rfl) Try.func11
    (ChangeSpec.witness6 (enc := enc) (C := Try.checked) false ⟨#[], #[.agg #[.slice none 0 0, .slice none 0 0, .slice none 0 0], .slice none 0 0], []⟩ 8 (by kernel_rfl) (by kernel_rfl) (by kernel_rfl) (by kernel_rfl))
    kids slices_full (by decide +kernel) rfl rfl Try.underlying4
    (fun ds h => match ds, h with | [_, _], _ => rfl)
    (fun w => by
      show OpensA Pg w _ [26, 53] _
      refine .struct opens_drive Try.underlying26 ?_
      rintro _ ⟨d0, rfl⟩
      refine .cell opens_u16 (by kernel_rfl) (by rw [Try.underlying53]; simp) (by rw [Try.underlying53]; simp) fun a ha => ?_
      obtain ⟨u1, hu1, ha⟩ := ha
      obtain rfl : a = U16 u1 := by simpa using ha
      exact .nil (law05_DriveTurned_ok d0 u1 hu1))

theorem driveTurned_holds : Rows.DriveTurnedSaid :=
  OpenClaim.holds_of_wide 11 Try.f11 rfl rfl rfl rfl rfl rfl rfl ⟨rfl, rfl, rfl, rfl, rfl⟩ rfl rfl rfl rfl rfl (by kernel_rfl) Try.func11 (by kernel_rfl)
    (of_decide_eq_true (by kernel_rfl)) (by unfold Func.isWrapper; first | (rw [if_pos (by decide +kernel)]; kernel_rfl) | (rw [if_neg (by decide +kernel)]; exact ⟨rfl, rfl⟩))
    (fun os started H enc _ => driveTurned_lifted os started H enc)
#print axioms driveTurned_holds
end Go.Proofs.Ytfdkhgegijiceaa
end
