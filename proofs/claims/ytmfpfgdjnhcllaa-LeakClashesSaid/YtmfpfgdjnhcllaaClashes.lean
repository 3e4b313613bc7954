/-
  For every hull the law LeakClashes returns true and leaves its argument as it was; no conditions.
-/
import Derived.Test.YtmfpfgdjnhcllaaLc
set_option linter.unusedVariables false
set_option linter.unusedSimpArgs false
set_option linter.unusedSectionVars false

/- For every hull the law LeakClashes returns true and leaves its argument as it was; no conditions. -/
section
set_option maxRecDepth 100000
namespace Go.Proofs.Ytmfpfgdjnhcllaa
open Go Go.Cw

theorem leakClashes_lifted (os : Os) (started : os.Started) (H : Type) (enc : TypeId × Value → H) :
    ReturnsInHanded {} Try.checked os 3 .any (Rows.leakClashesSpec.pre6 enc Try.prog Try.f3 Rows.leakClashesRow.domain false) (Rows.leakClashesSpec.post enc Try.prog Try.f3 false true false false) :=
  law_lifted (C := Try.checked) (T := (· < Pg.types.size)) started ownKnobNone (by kernel_rfl) Try.func3
    (ChangeSpec.witness6 (enc := enc) (C := Try.checked) false ⟨#[], #[.agg #[.slice none 0 0, .slice none 0 0]], []⟩ 8 (by kernel_rfl) (by kernel_rfl) (by kernel_rfl) (by kernel_rfl))
    kids slices_full (by decide +kernel) rfl rfl Try.underlying4
    (fun ds h => match ds, h with | [_], _ => rfl)
    (fun w => by
      show OpensA Pg w _ [25] _
      refine .struct opens_hull Try.underlying25 ?_
      rintro _ ⟨x0, rfl⟩
      exact .nil (law01_LeakClashes_ok x0))

theorem leakClashes_holds : Rows.LeakClashesSaid :=
  OpenClaim.holds_of_wide 3 Try.f3 rfl rfl rfl rfl rfl rfl rfl ⟨rfl, rfl, rfl, rfl, rfl⟩ rfl rfl rfl rfl rfl (by kernel_rfl) Try.func3 (by kernel_rfl)
    (of_decide_eq_true (by kernel_rfl)) (by unfold Func.isWrapper; first | (rw [if_pos (by decide +kernel)]; kernel_rfl) | (rw [if_neg (by decide +kernel)]; exact ⟨rfl, rfl⟩))
    (fun os started H enc _ => leakClashes_lifted os started H enc)
#print axioms leakClashes_holds
end Go.Proofs.Ytmfpfgdjnhcllaa
end
