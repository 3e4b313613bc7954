/-
  For every drive, list of blows, order and seam the law DriveTells returns true and leaves its arguments as they were; no conditions.
-/
import Derived.Test.YtfdkhgegijiceaaDb
set_option linter.unusedVariables false
set_option linter.unusedSimpArgs false
set_option linter.unusedSectionVars false

/- DriveTells: for every drive, blows, order and seam. -/
section
set_option maxRecDepth 100000
namespace Go.Proofs.Ytfdkhgegijiceaa
open Go Go.Cw

theorem driveTells_lifted (os : Os) (started : os.Started) (H : Type) (enc : TypeId × Value → H) :
    ReturnsInHanded {} Try.checked os 3 .any (Rows.driveTellsSpec.pre6 enc Try.prog Try.f3 Rows.driveTellsRow.domain false) (Rows.driveTellsSpec.post enc Try.prog Try.f3 false true false false) :=
  law_lifted (C := Try.checked) (T := (· < Pg.types.size)) started ownKnobNone (by kernel_rfl) Try.func3
    (ChangeSpec.witness6 (enc := enc) (C := Try.checked) false ⟨#[], #[.agg #[.slice none 0 0, .slice none 0 0, .slice none 0 0], .slice none 0 0, .slice none 0 0, .int .i64 0], []⟩ 8 (by kernel_rfl) (by kernel_rfl) (by kernel_rfl) (by kernel_rfl))
    kids slices_full (by decide +kernel) rfl rfl Try.underlying4
    (fun ds h => match ds, h with | [_, _, _, _], _ => rfl)
    (fun w => by
      show OpensA Pg w _ [26, 22, 22, 3] _
      refine .struct opens_drive Try.underlying26 ?_
      rintro _ ⟨d, rfl⟩
      refine .cell opens_ints (by kernel_rfl) (by rw [Try.underlying22]; simp) (by rw [Try.underlying22]; simp) fun a ha => ?_
      obtain ⟨l, ha⟩ := ha
      obtain rfl : a = L l := by simpa using ha
      refine .cell opens_ints (by kernel_rfl) (by rw [Try.underlying22]; simp) (by rw [Try.underlying22]; simp) fun a ha => ?_
      obtain ⟨o, ha⟩ := ha
      obtain rfl : a = L o := by simpa using ha
      refine .cell opens_int (by kernel_rfl) (by rw [Try.underlying3]; simp) (by rw [Try.underlying3]; simp) fun a ha => ?_
      obtain ⟨n, _, ha⟩ := ha
      obtain rfl : a = .int .i64 n := by simpa using ha
      exact .nil (law05_DriveTells_ok d l o n))

theorem driveTells_holds : Rows.DriveTellsSaid :=
  OpenClaim.holds_of_wide 3 Try.f3 rfl rfl rfl rfl rfl rfl rfl ⟨rfl, rfl, rfl, rfl, rfl⟩ rfl rfl rfl rfl rfl (by kernel_rfl) Try.func3 (by kernel_rfl)
    (of_decide_eq_true (by kernel_rfl)) (by unfold Func.isWrapper; first | (rw [if_pos (by decide +kernel)]; kernel_rfl) | (rw [if_neg (by decide +kernel)]; exact ⟨rfl, rfl⟩))
    (fun os started H enc _ => driveTells_lifted os started H enc)
#print axioms driveTells_holds
end Go.Proofs.Ytfdkhgegijiceaa
end
