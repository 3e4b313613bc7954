/-
  For all drawn numbers the law LeakTrue returns true and leaves its argument as it was; no conditions.
-/
import Derived.Test.YtmfpfgdjnhcllaaLc
set_option linter.unusedVariables false
set_option linter.unusedSimpArgs false
set_option linter.unusedSectionVars false

/- For all drawn numbers the law LeakTrue returns true and leaves its argument as it was; no conditions. -/
section
set_option maxRecDepth 100000
namespace Go.Proofs.Ytmfpfgdjnhcllaa
open Go Go.Cw

theorem leakTrue_lifted (os : Os) (started : os.Started) (H : Type) (enc : TypeId × Value → H) :
    ReturnsInHanded {} Try.checked os 5 .any (Rows.leakTrueSpec.pre6 enc Try.prog Try.f5 Rows.leakTrueRow.domain false) (Rows.leakTrueSpec.post enc Try.prog Try.f5 false true false false) :=
  law_lifted (C := Try.checked) (T := (· < Pg.types.size)) started ownKnobNone (by kernel_rfl) Try.func5
    (ChangeSpec.witness6 (enc := enc) (C := Try.checked) false ⟨#[], #[.slice none 0 0], []⟩ 8 (by kernel_rfl) (by kernel_rfl) (by kernel_rfl) (by kernel_rfl))
    kids slices_full (by decide +kernel) rfl rfl Try.underlying4
    (fun ds h => match ds, h with | [_], _ => rfl)
    (fun w => by
      show OpensA Pg w _ [43] _
      refine .cell opens_u16 (by kernel_rfl) (by rw [Try.underlying43]; simp) (by rw [Try.underlying43]; simp) fun a ha => ?_
      obtain ⟨u0, hu0, ha⟩ := ha
      obtain rfl : a = U16 u0 := by simpa using ha
      exact .nil (law01_LeakTrue_ok u0 hu0))

theorem leakTrue_holds : Rows.LeakTrueSaid :=
  OpenClaim.holds_of_wide 5 Try.f5 rfl rfl rfl rfl rfl rfl rfl ⟨rfl, rfl, rfl, rfl, rfl⟩ rfl rfl rfl rfl rfl (by kernel_rfl) Try.func5 (by kernel_rfl)
    (of_decide_eq_true (by kernel_rfl)) (by unfold Func.isWrapper; first | (rw [if_pos (by decide +kernel)]; kernel_rfl) | (rw [if_neg (by decide +kernel)]; exact ⟨rfl, rfl⟩))
    (fun os started H enc _ => leakTrue_lifted os started H enc)
#print axioms leakTrue_holds
end Go.Proofs.Ytmfpfgdjnhcllaa
end
