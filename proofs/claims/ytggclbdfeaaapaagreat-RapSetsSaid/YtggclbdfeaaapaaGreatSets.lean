/-
  For every rap and all drawn numbers the law RapSets returns true and leaves its arguments as they were; no conditions.
-/
import Derived.Test.YtggclbdfeaaapaaGreatRb
set_option linter.unusedVariables false
set_option linter.unusedSimpArgs false
set_option linter.unusedSectionVars false

/- For every rap and all drawn numbers the law RapSets returns true and leaves its arguments as they were; no conditions. -/
section
set_option maxRecDepth 100000
namespace Go.Proofs.YtggclbdfeaaapaaGreat
open Go Go.Cw

theorem rapSets_lifted (os : Os) (started : os.Started) (H : Type) (enc : TypeId × Value → H) :
    ReturnsInHanded {} Tryz.checked os 11 .any (Rows.rapSetsSpec.pre6 enc Tryz.prog Tryz.f11 Rows.rapSetsRow.domain false) (Rows.rapSetsSpec.post enc Tryz.prog Tryz.f11 false true false false) :=
  law_lifted (C := Tryz.checked) (T := (· < Pg.types.size)) started ownKnobNone (by kernel_rfl) Tryz.func11
    (ChangeSpec.witness6 (enc := enc) (C := Tryz.checked) false ⟨#[], #[.agg #[.slice none 0 0, .slice none 0 0, .slice none 0 0, .slice none 0 0], .slice none 0 0], []⟩ 8 (by kernel_rfl) (by kernel_rfl) (by kernel_rfl) (by kernel_rfl))
    kids slices_full (by decide +kernel) rfl rfl Tryz.underlying4
    (fun ds h => match ds, h with | [_, _], _ => rfl)
    (fun w => by
      show OpensA Pg w _ [29, 42] _
      refine .struct opens_rap Tryz.underlying29 ?_
      rintro _ ⟨x0, rfl⟩
      refine .cell opens_u16s (by kernel_rfl) (by rw [Tryz.underlying42]; simp) (by rw [Tryz.underlying42]; simp) fun a ha => ?_
      obtain ⟨u1, hu1, ha⟩ := ha
      obtain rfl : a = U16 u1 := by simpa using ha
      exact .nil (law13_RapSets_ok x0 u1 hu1))

theorem rapSets_holds : Rows.RapSetsSaid :=
  OpenClaim.holds_of_wide 11 Tryz.f11 rfl rfl rfl rfl rfl rfl rfl ⟨rfl, rfl, rfl, rfl, rfl⟩ rfl rfl rfl rfl rfl (by kernel_rfl) Tryz.func11 (by kernel_rfl)
    (of_decide_eq_true (by kernel_rfl)) (by unfold Func.isWrapper; first | (rw [if_pos (by decide +kernel)]; kernel_rfl) | (rw [if_neg (by decide +kernel)]; exact ⟨rfl, rfl⟩))
    (fun os started H enc _ => rapSets_lifted os started H enc)
#print axioms rapSets_holds
end Go.Proofs.YtggclbdfeaaapaaGreat
end
