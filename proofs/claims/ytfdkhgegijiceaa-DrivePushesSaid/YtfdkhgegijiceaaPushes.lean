/-
  For every drive and every two seams the law DrivePushes returns true and leaves its arguments as they were; no conditions.
-/
import Derived.Test.YtfdkhgegijiceaaDb
set_option linter.unusedVariables false
set_option linter.unusedSimpArgs false
set_option linter.unusedSectionVars false

/- For every drive and every two seams the law DrivePushes returns true and leaves its arguments as they were; no conditions. -/
section
set_option maxRecDepth 100000
namespace Go.Proofs.Ytfdkhgegijiceaa
open Go Go.Cw

theorem drivePushes_lifted (os : Os) (started : os.Started) (H : Type) (enc : TypeId × Value → H) :
    ReturnsInHanded {} Try.checked os 4 .any (Rows.drivePushesSpec.pre6 enc Try.prog Try.f4 Rows.drivePushesRow.domain false) (Rows.drivePushesSpec.post enc Try.prog Try.f4 false true false false) :=
  law_lifted (C := Try.checked) (T := (· < Pg.types.size)) started ownKnobNone (by kernel_rfl) Try.func4
    (ChangeSpec.witness6 (enc := enc) (C := Try.checked) false ⟨#[], #[.agg #[.slice none 0 0, .slice none 0 0, .slice none 0 0], .int .i64 0, .int .i64 0], []⟩ 8 (by kernel_rfl) (by kernel_rfl) (by kernel_rfl) (by kernel_rfl))
    kids slices_full (by decide +kernel) rfl rfl Try.underlying4
    (fun ds h => match ds, h with | [_, _, _], _ => rfl)
    (fun w => by
      show OpensA Pg w _ [26, 3, 3] _
      refine .struct opens_drive Try.underlying26 ?_
      rintro _ ⟨d0, rfl⟩
      refine .cell opens_int (by kernel_rfl) (by rw [Try.underlying3]; simp) (by rw [Try.underlying3]; simp) fun a ha => ?_
      obtain ⟨n1, _, ha⟩ := ha
      obtain rfl : a = .int .i64 n1 := by simpa using ha
      refine .cell opens_int (by kernel_rfl) (by rw [Try.underlying3]; simp) (by rw [Try.underlying3]; simp) fun a ha => ?_
      obtain ⟨n2, _, ha⟩ := ha
      obtain rfl : a = .int .i64 n2 := by simpa using ha
      exact .nil (law05_DrivePushes_ok d0 n1 n2))

theorem drivePushes_holds : Rows.DrivePushesSaid :=
  OpenClaim.holds_of_wide 4 Try.f4 rfl rfl rfl rfl rfl rfl rfl ⟨rfl, rfl, rfl, rfl, rfl⟩ rfl rfl rfl rfl rfl (by kernel_rfl) Try.func4 (by kernel_rfl)
    (of_decide_eq_true (by kernel_rfl)) (by unfold Func.isWrapper; first | (rw [if_pos (by decide +kernel)]; kernel_rfl) | (rw [if_neg (by decide +kernel)]; exact ⟨rfl, rfl⟩))
    (fun os started H enc _ => drivePushes_lifted os started H enc)
#print axioms drivePushes_holds
end Go.Proofs.Ytfdkhgegijiceaa
end
