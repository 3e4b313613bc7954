/-
  The law LeakNames returns true; no conditions.
-/
import Derived.Test.YtmfpfgdjnhcllaaLc
set_option linter.unusedVariables false
set_option linter.unusedSimpArgs false
set_option linter.unusedSectionVars false

/- The law LeakNames returns true; no conditions. -/
section
set_option maxRecDepth 100000
namespace Go.Proofs.Ytmfpfgdjnhcllaa
open Go Go.Cw

theorem leakNames_lifted (os : Os) (started : os.Started) (H : Type) (enc : TypeId × Value → H) :
    ReturnsInHanded {} Try.checked os 4 .any (Rows.leakNamesSpec.pre6 enc Try.prog Try.f4 Rows.leakNamesRow.domain false) (Rows.leakNamesSpec.post enc Try.prog Try.f4 false true false false) :=
  law_lifted (C := Try.checked) (T := (· < Pg.types.size)) started ownKnobNone (by kernel_rfl) Try.func4
    (ChangeSpec.witness6 (enc := enc) (C := Try.checked) false ⟨#[], #[], []⟩ 8 (by kernel_rfl) (by kernel_rfl) (by kernel_rfl) (by kernel_rfl))
    kids slices_full (by decide +kernel) rfl rfl Try.underlying4
    (fun ds h => match ds, h with | [], _ => rfl)
    (fun w => by
      show OpensA Pg w _ [] _
      exact .nil (law01_LeakNames_ok ))

theorem leakNames_holds : Rows.LeakNamesSaid :=
  OpenClaim.holds_of_wide 4 Try.f4 rfl rfl rfl rfl rfl rfl rfl ⟨rfl, rfl, rfl, rfl, rfl⟩ rfl rfl rfl rfl rfl (by kernel_rfl) Try.func4 (by kernel_rfl)
    (of_decide_eq_true (by kernel_rfl)) (by unfold Func.isWrapper; first | (rw [if_pos (by decide +kernel)]; kernel_rfl) | (rw [if_neg (by decide +kernel)]; exact ⟨rfl, rfl⟩))
    (fun os started H enc _ => leakNames_lifted os started H enc)
#print axioms leakNames_holds
end Go.Proofs.Ytmfpfgdjnhcllaa
end
