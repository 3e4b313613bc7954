/-
  For every rake and all numbers the law RakeTurned returns true and leaves its arguments as they were; no conditions.
-/
import Derived.Test.YtdfllmjgmdhlpaaGreatUa
set_option linter.unusedVariables false
set_option linter.unusedSimpArgs false
set_option linter.unusedSectionVars false

/- For every rake and all numbers the law RakeTurned returns true and leaves its arguments as they were; no conditions. -/
section
set_option maxRecDepth 100000
namespace Go.Proofs.YtdfllmjgmdhlpaaGreat
open Go Go.Cw

theorem rakeTurned_lifted (os : Os) (started : os.Started) (H : Type) (enc : TypeId × Value → H) :
    ReturnsInHanded {} Tryz.checked os 10 .any (Rows.rakeTurnedSpec.pre6 enc Tryz.prog Tryz.f10 Rows.rakeTurnedRow.domain false) (Rows.rakeTurnedSpec.post enc Tryz.prog Tryz.f10 false true false false) :=
  law_lifted (C := Tryz.checked) (T := (· < Pg.types.size)) started ownKnobNone (by kernel_rfl) Tryz.func10
    (ChangeSpec.witness6 (enc := enc) (C := Tryz.checked) false ⟨#[], #[.agg #[.slice none 0 0, .slice none 0 0, .slice none 0 0], .int .u8 0, .int .u8 0, .int .u8 0], []⟩ 8 (by kernel_rfl) (by kernel_rfl) (by kernel_rfl) (by kernel_rfl))
    kids slices_full (by decide +kernel) rfl rfl Tryz.underlying4
    (fun ds h => match ds, h with | [_, _, _, _], _ => rfl)
    (fun w => by
      show OpensA Pg w _ [28, 5, 5, 5] _
      refine .struct opens_rake Tryz.underlying28 ?_
      rintro _ ⟨x0, rfl⟩
      refine .cell opens_u8 (by kernel_rfl) (by rw [Tryz.underlying5]; simp) (by rw [Tryz.underlying5]; simp) fun a ha => ?_
      obtain ⟨b1, hb1, ha⟩ := ha
      obtain rfl : a = .int .u8 b1 := by simpa using ha
      refine .cell opens_u8 (by kernel_rfl) (by rw [Tryz.underlying5]; simp) (by rw [Tryz.underlying5]; simp) fun a ha => ?_
      obtain ⟨b2, hb2, ha⟩ := ha
      obtain rfl : a = .int .u8 b2 := by simpa using ha
      refine .cell opens_u8 (by kernel_rfl) (by rw [Tryz.underlying5]; simp) (by rw [Tryz.underlying5]; simp) fun a ha => ?_
      obtain ⟨b3, hb3, ha⟩ := ha
      obtain rfl : a = .int .u8 b3 := by simpa using ha
      exact .nil (law03_RakeTurned_ok x0 b1 hb1 b2 hb2 b3 hb3))

theorem rakeTurned_holds : Rows.RakeTurnedSaid :=
  OpenClaim.holds_of_wide 10 Tryz.f10 rfl rfl rfl rfl rfl rfl rfl ⟨rfl, rfl, rfl, rfl, rfl⟩ rfl rfl rfl rfl rfl (by kernel_rfl) Tryz.func10 (by kernel_rfl)
    (of_decide_eq_true (by kernel_rfl)) (by unfold Func.isWrapper; first | (rw [if_pos (by decide +kernel)]; kernel_rfl) | (rw [if_neg (by decide +kernel)]; exact ⟨rfl, rfl⟩))
    (fun os started H enc _ => rakeTurned_lifted os started H enc)
#print axioms rakeTurned_holds
end Go.Proofs.YtdfllmjgmdhlpaaGreat
end
