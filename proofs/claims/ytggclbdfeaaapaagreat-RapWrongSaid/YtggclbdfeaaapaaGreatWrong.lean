/-
  For every rap and every number the law RapWrong returns true and leaves its arguments as they were; no conditions.
-/
import Derived.Test.YtggclbdfeaaapaaGreatRb
set_option linter.unusedVariables false
set_option linter.unusedSimpArgs false
set_option linter.unusedSectionVars false

/- For every rap and every number the law RapWrong returns true and leaves its arguments as they were; no conditions. -/
section
set_option maxRecDepth 100000
namespace Go.Proofs.YtggclbdfeaaapaaGreat
open Go Go.Cw

theorem rapWrong_lifted (os : Os) (started : os.Started) (H : Type) (enc : TypeId × Value → H) :
    ReturnsInHanded {} Tryz.checked os 9 .any (Rows.rapWrongSpec.pre6 enc Tryz.prog Tryz.f9 Rows.rapWrongRow.domain false) (Rows.rapWrongSpec.post enc Tryz.prog Tryz.f9 false true false false) :=
  law_lifted (C := Tryz.checked) (T := (· < Pg.types.size)) started ownKnobNone (by kernel_rfl) Tryz.func9
    (ChangeSpec.witness6 (enc := enc) (C := Tryz.checked) false ⟨#[], #[.agg #[.slice none 0 0, .slice none 0 0, .slice none 0 0, .slice none 0 0], .int .u16 0], []⟩ 8 (by kernel_rfl) (by kernel_rfl) (by kernel_rfl) (by kernel_rfl))
    kids slices_full (by decide +kernel) rfl rfl Tryz.underlying4
    (fun ds h => match ds, h with | [_, _], _ => rfl)
    (fun w => by
      show OpensA Pg w _ [29, 59] _
      refine .struct opens_rap Tryz.underlying29 ?_
      rintro _ ⟨x0, rfl⟩
      refine .cell opens_u16 (by kernel_rfl) (by rw [Tryz.underlying59]; simp) (by rw [Tryz.underlying59]; simp) fun a ha => ?_
      obtain ⟨b1, hb1, ha⟩ := ha
      obtain rfl : a = .int .u16 b1 := by simpa using ha
      exact .nil (law13_RapWrong_ok x0 b1 hb1))

theorem rapWrong_holds : Rows.RapWrongSaid :=
  OpenClaim.holds_of_wide 9 Tryz.f9 rfl rfl rfl rfl rfl rfl rfl ⟨rfl, rfl, rfl, rfl, rfl⟩ rfl rfl rfl rfl rfl (by kernel_rfl) Tryz.func9 (by kernel_rfl)
    (of_decide_eq_true (by kernel_rfl)) (by unfold Func.isWrapper; first | (rw [if_pos (by decide +kernel)]; kernel_rfl) | (rw [if_neg (by decide +kernel)]; exact ⟨rfl, rfl⟩))
    (fun os started H enc _ => rapWrong_lifted os started H enc)
#print axioms rapWrong_holds
end Go.Proofs.YtggclbdfeaaapaaGreat
end
