/-
  For every hull and all numbers the law LeakTurned returns true and leaves its arguments as they were; no conditions.
-/
import Derived.Test.YtmfpfgdjnhcllaaLc
set_option linter.unusedVariables false
set_option linter.unusedSimpArgs false
set_option linter.unusedSectionVars false

/- For every hull and all numbers the law LeakTurned returns true and leaves its arguments as they were; no conditions. -/
section
set_option maxRecDepth 100000
namespace Go.Proofs.Ytmfpfgdjnhcllaa
open Go Go.Cw

theorem leakTurned_lifted (os : Os) (started : os.Started) (H : Type) (enc : TypeId × Value → H) :
    ReturnsInHanded {} Try.checked os 11 .any (Rows.leakTurnedSpec.pre6 enc Try.prog Try.f11 Rows.leakTurnedRow.domain false) (Rows.leakTurnedSpec.post enc Try.prog Try.f11 false true false false) :=
  law_lifted (C := Try.checked) (T := (· < Pg.types.size)) started ownKnobNone (by kernel_rfl) Try.func11
    (ChangeSpec.witness6 (enc := enc) (C := Try.checked) false ⟨#[], #[.agg #[.slice none 0 0, .slice none 0 0], .int .u8 0, .int .u8 0], []⟩ 8 (by kernel_rfl) (by kernel_rfl) (by kernel_rfl) (by kernel_rfl))
    kids slices_full (by decide +kernel) rfl rfl Try.underlying4
    (fun ds h => match ds, h with | [_, _, _], _ => rfl)
    (fun w => by
      show OpensA Pg w _ [25, 5, 5] _
      refine .struct opens_hull Try.underlying25 ?_
      rintro _ ⟨x0, rfl⟩
      refine .cell opens_u8 (by kernel_rfl) (by rw [Try.underlying5]; simp) (by rw [Try.underlying5]; simp) fun a ha => ?_
      obtain ⟨b1, hb1, ha⟩ := ha
      obtain rfl : a = .int .u8 b1 := by simpa using ha
      refine .cell opens_u8 (by kernel_rfl) (by rw [Try.underlying5]; simp) (by rw [Try.underlying5]; simp) fun a ha => ?_
      obtain ⟨b2, hb2, ha⟩ := ha
      obtain rfl : a = .int .u8 b2 := by simpa using ha
      exact .nil (law01_LeakTurned_ok x0 b1 hb1 b2 hb2))

theorem leakTurned_holds : Rows.LeakTurnedSaid :=
  OpenClaim.holds_of_wide 11 Try.f11 rfl rfl rfl rfl rfl rfl rfl ⟨rfl, rfl, rfl, rfl, rfl⟩ rfl rfl rfl rfl rfl (by kernel_rfl) Try.func11 (by kernel_rfl)
    (of_decide_eq_true (by kernel_rfl)) (by unfold Func.isWrapper; first | (rw [if_pos (by decide +kernel)]; kernel_rfl) | (rw [if_neg (by decide +kernel)]; exact ⟨rfl, rfl⟩))
    (fun os started H enc _ => leakTurned_lifted os started H enc)
#print axioms leakTurned_holds
end Go.Proofs.Ytmfpfgdjnhcllaa
end
