/-
  For every ship, sounding and all numbers the law AgainMore returns true and leaves its arguments as they were; no conditions.
-/
import Derived.Test.YtkcppdggfnfpiaaGreatXa
set_option linter.unusedVariables false
set_option linter.unusedSimpArgs false
set_option linter.unusedSectionVars false

/- For every ship, sounding and all numbers the law AgainMore returns true and leaves its arguments as they were; no conditions. -/
section
set_option maxRecDepth 100000
namespace Go.Proofs.YtkcppdggfnfpiaaGreat
open Go Go.Cw

theorem againMore_lifted (os : Os) (started : os.Started) (H : Type) (enc : TypeId × Value → H) :
    ReturnsInHanded {} Tryz.checked os 10 .any (Rows.againMoreSpec.pre6 enc Tryz.prog Tryz.f10 Rows.againMoreRow.domain false) (Rows.againMoreSpec.post enc Tryz.prog Tryz.f10 false true false false) :=
  law_lifted (C := Tryz.checked) (T := (· < Pg.types.size)) started ownKnobNone (by kernel_rfl) Tryz.func10
    (ChangeSpec.witness6 (enc := enc) (C := Tryz.checked) false ⟨#[], #[.agg #[.slice none 0 0, .slice none 0 0, .slice none 0 0, .int .i64 0, .slice none 0 0, .int .i64 0], .agg #[.int .i64 0, .int .i64 0, .int .i64 0, .int .i64 0], .int .u16 0, .int .u8 0], []⟩ 8 (by kernel_rfl) (by kernel_rfl) (by kernel_rfl) (by kernel_rfl))
    kids slices_full (by decide +kernel) rfl rfl Tryz.underlying4
    (fun ds h => match ds, h with | [_, _, _, _], _ => rfl)
    (fun w => by
      show OpensA Pg w _ [29, 57, 53, 5] _
      refine .struct opens_again Tryz.underlying29 ?_
      rintro _ ⟨x0, rfl⟩
      refine .struct opens_sounding Tryz.underlying57 ?_
      rintro _ ⟨x1, rfl⟩
      refine .cell opens_u16 (by kernel_rfl) (by rw [Tryz.underlying53]; simp) (by rw [Tryz.underlying53]; simp) fun a ha => ?_
      obtain ⟨b2, hb2, ha⟩ := ha
      obtain rfl : a = .int .u16 b2 := by simpa using ha
      refine .cell opens_u8 (by kernel_rfl) (by rw [Tryz.underlying5]; simp) (by rw [Tryz.underlying5]; simp) fun a ha => ?_
      obtain ⟨b3, hb3, ha⟩ := ha
      obtain rfl : a = .int .u8 b3 := by simpa using ha
      exact .nil (law11_AgainMore_ok x0 x1 b2 hb2 b3 hb3))

theorem againMore_holds : Rows.AgainMoreSaid :=
  OpenClaim.holds_of_wide 10 Tryz.f10 rfl rfl rfl rfl rfl rfl rfl ⟨rfl, rfl, rfl, rfl, rfl⟩ rfl rfl rfl rfl rfl (by kernel_rfl) Tryz.func10 (by kernel_rfl)
    (of_decide_eq_true (by kernel_rfl)) (by unfold Func.isWrapper; first | (rw [if_pos (by decide +kernel)]; kernel_rfl) | (rw [if_neg (by decide +kernel)]; exact ⟨rfl, rfl⟩))
    (fun os started H enc _ => againMore_lifted os started H enc)
#print axioms againMore_holds
end Go.Proofs.YtkcppdggfnfpiaaGreat
end
