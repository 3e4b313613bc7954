/-
  For all numbers the law TopFree returns true and leaves its argument as it was; no conditions.
-/
import Derived.Test.YtjjhmpfealnciaaGreatEa
set_option linter.unusedVariables false
set_option linter.unusedSimpArgs false
set_option linter.unusedSectionVars false

/- For all numbers the law TopFree returns true and leaves its argument as it was; no conditions. -/
section
set_option maxRecDepth 100000
namespace Go.Proofs.YtjjhmpfealnciaaGreat
open Go Go.Cw

theorem topFree_lifted (os : Os) (started : os.Started) (H : Type) (enc : TypeId × Value → H) :
    ReturnsInHanded {} Tryz.checked os 3 .any (Rows.topFreeSpec.pre6 enc Tryz.prog Tryz.f3 Rows.topFreeRow.domain false) (Rows.topFreeSpec.post enc Tryz.prog Tryz.f3 false true false false) :=
  law_lifted (C := Tryz.checked) (T := (· < Pg.types.size)) started ownKnobNone (by kernel_rfl) Tryz.func3
    (ChangeSpec.witness6 (enc := enc) (C := Tryz.checked) false ⟨#[], #[.slice none 0 0], []⟩ 8 (by kernel_rfl) (by kernel_rfl) (by kernel_rfl) (by kernel_rfl))
    kids slices_full (by decide +kernel) rfl rfl Tryz.underlying4
    (fun ds h => match ds, h with | [_], _ => rfl)
    (fun w => by
      show OpensA Pg w _ [22] _
      refine .cell opens_u16 (by kernel_rfl) (by rw [Tryz.underlying22]; simp) (by rw [Tryz.underlying22]; simp) fun a ha => ?_
      obtain ⟨u0, hu0, ha⟩ := ha
      obtain rfl : a = U16 u0 := by simpa using ha
      exact .nil (top_TopFree_ok u0 hu0))

theorem topFree_holds : Rows.TopFreeSaid :=
  OpenClaim.holds_of_wide 3 Tryz.f3 rfl rfl rfl rfl rfl rfl rfl ⟨rfl, rfl, rfl, rfl, rfl⟩ rfl rfl rfl rfl rfl (by kernel_rfl) Tryz.func3 (by kernel_rfl)
    (of_decide_eq_true (by kernel_rfl)) (by unfold Func.isWrapper; first | (rw [if_pos (by decide +kernel)]; kernel_rfl) | (rw [if_neg (by decide +kernel)]; exact ⟨rfl, rfl⟩))
    (fun os started H enc _ => topFree_lifted os started H enc)
#print axioms topFree_holds
end Go.Proofs.YtjjhmpfealnciaaGreat
end
