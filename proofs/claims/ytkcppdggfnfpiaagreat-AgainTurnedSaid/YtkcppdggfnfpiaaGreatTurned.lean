/-
  For every ship the law AgainTurned returns true and leaves its argument as it was; no conditions.
-/
import Derived.Test.YtkcppdggfnfpiaaGreatXa
set_option linter.unusedVariables false
set_option linter.unusedSimpArgs false
set_option linter.unusedSectionVars false

/- For every ship the law AgainTurned returns true and leaves its argument as it was; no conditions. -/
section
set_option maxRecDepth 100000
namespace Go.Proofs.YtkcppdggfnfpiaaGreat
open Go Go.Cw

theorem againTurned_lifted (os : Os) (started : os.Started) (H : Type) (enc : TypeId × Value → H) :
    ReturnsInHanded {} Tryz.checked os 11 .any (Rows.againTurnedSpec.pre6 enc Tryz.prog Tryz.f11 Rows.againTurnedRow.domain false) (Rows.againTurnedSpec.post enc Tryz.prog Tryz.f11 false true false false) :=
  law_lifted (C := Tryz.checked) (T := (· < Pg.types.size)) started ownKnobNone (by kernel_rfl) Tryz.func11
    (ChangeSpec.witness6 (enc := enc) (C := Tryz.checked) false ⟨#[], #[.agg #[.slice none 0 0, .slice none 0 0, .slice none 0 0, .int .i64 0, .slice none 0 0, .int .i64 0]], []⟩ 8 (by kernel_rfl) (by kernel_rfl) (by kernel_rfl) (by kernel_rfl))
    kids slices_full (by decide +kernel) rfl rfl Tryz.underlying4
    (fun ds h => match ds, h with | [_], _ => rfl)
    (fun w => by
      show OpensA Pg w _ [29] _
      refine .struct opens_again Tryz.underlying29 ?_
      rintro _ ⟨x0, rfl⟩
      exact .nil (law11_AgainTurned_ok x0))

theorem againTurned_holds : Rows.AgainTurnedSaid :=
  OpenClaim.holds_of_wide 11 Tryz.f11 rfl rfl rfl rfl rfl rfl rfl ⟨rfl, rfl, rfl, rfl, rfl⟩ rfl rfl rfl rfl rfl (by kernel_rfl) Tryz.func11 (by kernel_rfl)
    (of_decide_eq_true (by kernel_rfl)) (by unfold Func.isWrapper; first | (rw [if_pos (by decide +kernel)]; kernel_rfl) | (rw [if_neg (by decide +kernel)]; exact ⟨rfl, rfl⟩))
    (fun os started H enc _ => againTurned_lifted os started H enc)
#print axioms againTurned_holds
end Go.Proofs.YtkcppdggfnfpiaaGreat
end
