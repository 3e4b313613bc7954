/-
  For every rake, order and set the law RakeOrders returns true and leaves its arguments as they were; no conditions.
-/
import Derived.Test.YtdfllmjgmdhlpaaGreatUa
set_option linter.unusedVariables false
set_option linter.unusedSimpArgs false
set_option linter.unusedSectionVars false

/- For every rake, order and set the law RakeOrders returns true and leaves its arguments as they were; no conditions. -/
section
set_option maxRecDepth 100000
namespace Go.Proofs.YtdfllmjgmdhlpaaGreat
open Go Go.Cw

theorem rakeOrders_lifted (os : Os) (started : os.Started) (H : Type) (enc : TypeId × Value → H) :
    ReturnsInHanded {} Tryz.checked os 4 .any (Rows.rakeOrdersSpec.pre6 enc Tryz.prog Tryz.f4 Rows.rakeOrdersRow.domain false) (Rows.rakeOrdersSpec.post enc Tryz.prog Tryz.f4 false true false false) :=
  law_lifted (C := Tryz.checked) (T := (· < Pg.types.size)) started ownKnobNone (by kernel_rfl) Tryz.func4
    (ChangeSpec.witness6 (enc := enc) (C := Tryz.checked) false ⟨#[], #[.agg #[.slice none 0 0, .slice none 0 0, .slice none 0 0], .slice none 0 0, .int .i64 0], []⟩ 8 (by kernel_rfl) (by kernel_rfl) (by kernel_rfl) (by kernel_rfl))
    kids slices_full (by decide +kernel) rfl rfl Tryz.underlying4
    (fun ds h => match ds, h with | [_, _, _], _ => rfl)
    (fun w => by
      show OpensA Pg w _ [28, 26, 3] _
      refine .struct opens_rake Tryz.underlying28 ?_
      rintro _ ⟨x0, rfl⟩
      refine .cell opens_ints (by kernel_rfl) (by rw [Tryz.underlying26]; simp) (by rw [Tryz.underlying26]; simp) fun a ha => ?_
      obtain ⟨l1, ha⟩ := ha
      obtain rfl : a = L l1 := by simpa using ha
      refine .cell opens_int (by kernel_rfl) (by rw [Tryz.underlying3]; simp) (by rw [Tryz.underlying3]; simp) fun a ha => ?_
      obtain ⟨n2, _, ha⟩ := ha
      obtain rfl : a = .int .i64 n2 := by simpa using ha
      exact .nil (law03_RakeOrders_ok x0 l1 n2))

theorem rakeOrders_holds : Rows.RakeOrdersSaid :=
  OpenClaim.holds_of_wide 4 Tryz.f4 rfl rfl rfl rfl rfl rfl rfl ⟨rfl, rfl, rfl, rfl, rfl⟩ rfl rfl rfl rfl rfl (by kernel_rfl) Tryz.func4 (by kernel_rfl)
    (of_decide_eq_true (by kernel_rfl)) (by unfold Func.isWrapper; first | (rw [if_pos (by decide +kernel)]; kernel_rfl) | (rw [if_neg (by decide +kernel)]; exact ⟨rfl, rfl⟩))
    (fun os started H enc _ => rakeOrders_lifted os started H enc)
#print axioms rakeOrders_holds
end Go.Proofs.YtdfllmjgmdhlpaaGreat
end
