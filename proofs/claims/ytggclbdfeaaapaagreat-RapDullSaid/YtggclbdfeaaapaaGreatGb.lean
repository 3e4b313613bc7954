/-
  The program's functions in the small form.
-/
import Derived.Test.YtggclbdfeaaapaaGreatGa
set_option linter.unusedVariables false
set_option linter.unusedSimpArgs false
set_option linter.unusedSectionVars false

/- Functions in the small form. Printed by a program of this seat's proofs. -/
section
namespace Go.Cw
open Go Go.Proofs




namespace rap_Open_1
noncomputable def cfg : Cfg := { pure := pures, pcs := [], raw := [], cuts := [], draws := [], keep := [] }
@[simp] noncomputable def r0 (_ : Unit) : List Stp := [S 1 (.recov), S 2 (.call (.c (.func (.func fn_rap_said) [] [])) [(.t 1), (.t 0)])]
@[simp] noncomputable def ir : IR := (.ops r0)
@[simp] noncomputable def rs : List RV := []
theorem comp : compF Pg cfg Tryz.f54 = some (ir, rs, 3) := by kernel_rfl
theorem enter {args : List AVal} {h : Heap} {K : AEnd → Heap → Prop} (F : Nat) (hl : args.length ≤ 3) (a : AW ⟨Pg, F, 3, false, []⟩ ir (RetK rs K) (initT args) [] h) : ACalls Pg fn_rap_Open_1 args h K :=
  ACalls.of_comp follows Tryz.func54 comp hl a
theorem pure {args : List AVal} {v : AVal} (hl : args.length ≤ 3) (a : AW ⟨Pg, 0, 3, false, []⟩ ir (RetK rs fun e _ => e = .ret v) (initT args) [] nilH) : APure Pg fn_rap_Open_1 args v :=
  APure.of_nil (enter 0 hl a)
theorem recClo : RecClo Pg fn_rap_Open_1 fn_rap_said := ⟨_, Tryz.func54, by kernel_rfl⟩
end rap_Open_1

namespace rap_union
noncomputable def cfg : Cfg := { pure := pures, pcs := [], raw := [], cuts := [], draws := [], keep := [] }
@[simp] noncomputable def r0 (_ : Unit) : List Stp := [S 2 (.mv (.c (.int .u64 0)))]
@[simp] noncomputable def r1 (_ : Unit) : List Stp := [S 3 (.mv (.c (.func (.func fn_rap_set_with) [] [])))]
@[simp] noncomputable def r2 (_ : Unit) : List Stp := [S 6 (.mv (.t 0)), S 7 (.len (.t 6)), S 8 (.mv (.c (.int .i64 0)))]
@[simp] noncomputable def r3 (_ : Unit) : List Stp := [S 9 (.bin .lss (.t 8) (.t 7))]
@[simp] noncomputable def r4 (_ : Unit) : List Stp := [S 10 (.ixS 1 (.t 6) (.t 8)), S 11 (.load false 1 (.t 10)), S 5 (.mv (.t 11))]
@[simp] noncomputable def r5 (_ : Unit) : List Stp := [S 12 (.mv (.t 3)), S 13 (.mv (.t 2)), S 14 (.mv (.t 5)), S 15 (.call (.t 12) [(.t 13), (.t 14)]), S 2 (.mv (.t 15))]
@[simp] noncomputable def r6 (_ : Unit) : List Stp := [S 16 (.bin .add (.t 8) (.c (.int .i64 1))), S 8 (.mv (.t 16))]
@[simp] noncomputable def r7 (_ : Unit) : List Stp := [S 17 (.mv (.t 2)), S 2 (.mv (.t 17))]
@[simp] noncomputable def ir : IR := (.seq (.ops r0) (.seq (.ops r1) (.seq (.seq (.ops r2) (.block 0 (.loop (.seq (.ops r3) (.seq (.cond (.t 9) .skip (.exit 0)) (.seq (.block 1 (.seq (.ops r4) (.ops r5))) (.ops r6))))))) (.seq (.ops r7) .ret))))
@[simp] noncomputable def rs : List RV := [.tmp 2]
theorem comp : compF Pg cfg Tryz.f55 = some (ir, rs, 18) := by kernel_rfl
theorem enter {args : List AVal} {h : Heap} {K : AEnd → Heap → Prop} (F : Nat) (hl : args.length ≤ 18) (a : AW ⟨Pg, F, 18, false, []⟩ ir (RetK rs K) (initT args) [] h) : ACalls Pg fn_rap_union args h K :=
  ACalls.of_comp follows Tryz.func55 comp hl a
theorem pure {args : List AVal} {v : AVal} (hl : args.length ≤ 18) (a : AW ⟨Pg, 0, 18, false, []⟩ ir (RetK rs fun e _ => e = .ret v) (initT args) [] nilH) : APure Pg fn_rap_union args v :=
  APure.of_nil (enter 0 hl a)
end rap_union


namespace ref13_Ints
noncomputable def cfg : Cfg := { pure := [12, 13, 14, 15, 16, 17, 18, 19, 20, 21, 22, 23, 24, 25, 26, 27, 28, 29, 32, 33, 34, 36, 40, 45, 46, 47, 48, 51, 52, 53, 56, 57, 62, 64, 68, 71, 72, 77, 78, 79, 84, 87, 89, 91, 92, 93, 94, 95, 96, 97, 99, 100, 106, 107, 109, 110, 111, 112, 113, 114, 115, 116, 120, 121, 126, 127, 128, 160, 161], pcs := [], raw := [], cuts := [], draws := [], keep := [] }
@[simp] noncomputable def r0 (_ : Unit) : List Stp := [S 4 (.mv (.c (.bool false)))]
@[simp] noncomputable def r1 (_ : Unit) : List Stp := [S 5 (.mv (.t 0)), S 6 (.mv (.t 1)), S 7 (.call (.c (.func (.func fn_ref05_Ints) [] [])) [(.t 5), (.t 6)]), S 4 (.mv (.t 7))]
@[simp] noncomputable def ir : IR := (.seq (.ops r0) (.seq (.ops r1) .ret))
@[simp] noncomputable def rs : List RV := [.tmp 4]
theorem comp : compF Pg cfg Tryz.f57 = some (ir, rs, 8) := by kernel_rfl
theorem enter {args : List AVal} {h : Heap} {K : AEnd → Heap → Prop} (F : Nat) (hl : args.length ≤ 8) (a : AW ⟨Pg, F, 8, false, []⟩ ir (RetK rs K) (initT args) [] h) : ACalls Pg fn_ref13_Ints args h K :=
  ACalls.of_comp follows Tryz.func57 comp hl a
theorem pure {args : List AVal} {v : AVal} (hl : args.length ≤ 8) (a : AW ⟨Pg, 0, 8, false, []⟩ ir (RetK rs fun e _ => e = .ret v) (initT args) [] nilH) : APure Pg fn_ref13_Ints args v :=
  APure.of_nil (enter 0 hl a)
end ref13_Ints

namespace rap_Sound_1
noncomputable def cfg : Cfg := { pure := pures, pcs := [], raw := [], cuts := [], draws := [], keep := [] }
@[simp] noncomputable def r0 (_ : Unit) : List Stp := [S 1 (.recov), S 2 (.call (.c (.func (.func fn_rap_said) [] [])) [(.t 1), (.t 0)])]
@[simp] noncomputable def ir : IR := (.ops r0)
@[simp] noncomputable def rs : List RV := []
theorem comp : compF Pg cfg Tryz.f58 = some (ir, rs, 3) := by kernel_rfl
theorem enter {args : List AVal} {h : Heap} {K : AEnd → Heap → Prop} (F : Nat) (hl : args.length ≤ 3) (a : AW ⟨Pg, F, 3, false, []⟩ ir (RetK rs K) (initT args) [] h) : ACalls Pg fn_rap_Sound_1 args h K :=
  ACalls.of_comp follows Tryz.func58 comp hl a
theorem pure {args : List AVal} {v : AVal} (hl : args.length ≤ 3) (a : AW ⟨Pg, 0, 3, false, []⟩ ir (RetK rs fun e _ => e = .ret v) (initT args) [] nilH) : APure Pg fn_rap_Sound_1 args v :=
  APure.of_nil (enter 0 hl a)
theorem recClo : RecClo Pg fn_rap_Sound_1 fn_rap_said := ⟨_, Tryz.func58, by kernel_rfl⟩
end rap_Sound_1

namespace rap_Fewest_1
noncomputable def cfg : Cfg := { pure := pures, pcs := [], raw := [], cuts := [], draws := [], keep := [] }
@[simp] noncomputable def r0 (_ : Unit) : List Stp := [S 1 (.recov), S 2 (.call (.c (.func (.func fn_rap_said) [] [])) [(.t 1), (.t 0)])]
@[simp] noncomputable def ir : IR := (.ops r0)
@[simp] noncomputable def rs : List RV := []
theorem comp : compF Pg cfg Tryz.f59 = some (ir, rs, 3) := by kernel_rfl
theorem enter {args : List AVal} {h : Heap} {K : AEnd → Heap → Prop} (F : Nat) (hl : args.length ≤ 3) (a : AW ⟨Pg, F, 3, false, []⟩ ir (RetK rs K) (initT args) [] h) : ACalls Pg fn_rap_Fewest_1 args h K :=
  ACalls.of_comp follows Tryz.func59 comp hl a
theorem pure {args : List AVal} {v : AVal} (hl : args.length ≤ 3) (a : AW ⟨Pg, 0, 3, false, []⟩ ir (RetK rs fun e _ => e = .ret v) (initT args) [] nilH) : APure Pg fn_rap_Fewest_1 args v :=
  APure.of_nil (enter 0 hl a)
theorem recClo : RecClo Pg fn_rap_Fewest_1 fn_rap_said := ⟨_, Tryz.func59, by kernel_rfl⟩
end rap_Fewest_1

namespace rap_best_int
noncomputable def cfg : Cfg := { pure := pures, pcs := [], raw := [], cuts := [], draws := [], keep := [] }
@[simp] noncomputable def r0 (_ : Unit) : List Stp := [S 3 (.box (.t 1)), S 4 (.mv (.c (.int .i64 0))), S 5 (.mv (.c (.int .i64 0))), S 6 (.mv (.c (.bool false)))]
@[simp] noncomputable def r1 (_ : Unit) : List Stp := [S 11 (.mv (.t 0)), S 12 (.len (.t 11)), S 13 (.mv (.c (.int .i64 0)))]
@[simp] noncomputable def r2 (_ : Unit) : List Stp := [S 14 (.bin .lss (.t 13) (.t 12))]
@[simp] noncomputable def r3 (_ : Unit) : List Stp := [S 15 (.ixS 1 (.t 11) (.t 13)), S 16 (.load false 1 (.t 15)), S 8 (.mv (.t 16))]
@[simp] noncomputable def r4 (_ : Unit) : List Stp := [S 18 (.fAddr 0 (.t 3)), S 19 (.load false 1 (.t 18)), S 20 (.mv (.t 8)), S 21 (.call (.t 19) [(.t 20)]), S 17 (.mv (.t 21)), S 22 (.ext (.t 17) 0), S 23 (.ext (.t 17) 1), S 9 (.mv (.t 22)), S 10 (.mv (.t 23))]
@[simp] noncomputable def r5 (_ : Unit) : List Stp := [S 24 (.mv (.t 10)), S 25 (.mv (.t 24)), SG 26 25 true (.mv (.t 6)), SG 27 25 true (.un .not (.t 26)), SG 28 25 true (.mv (.t 27)), SG 29 28 false (.mv (.t 9)), SG 30 28 false (.mv (.t 5)), SG 31 28 false (.bin .lss (.t 29) (.t 30)), SG 32 25 true (.pick (.t 28) (.c (.bool true)) (.t 31)), S 33 (.pick (.t 25) (.t 32) (.c (.bool false)))]
@[simp] noncomputable def r6 (_ : Unit) : List Stp := [S 34 (.mv (.t 8)), S 35 (.mv (.t 9)), S 4 (.mv (.t 34)), S 5 (.mv (.t 35)), S 6 (.mv (.c (.bool true)))]
@[simp] noncomputable def r7 (_ : Unit) : List Stp := [S 36 (.bin .add (.t 13) (.c (.int .i64 1))), S 13 (.mv (.t 36))]
@[simp] noncomputable def r8 (_ : Unit) : List Stp := [S 37 (.mv (.t 4)), S 38 (.mv (.t 5)), S 39 (.mv (.t 6)), S 4 (.mv (.t 37)), S 5 (.mv (.t 38)), S 6 (.mv (.t 39))]
@[simp] noncomputable def ir : IR := (.seq (.ops r0) (.seq (.seq (.ops r1) (.block 0 (.loop (.seq (.ops r2) (.seq (.cond (.t 14) .skip (.exit 0)) (.seq (.block 1 (.seq (.ops r3) (.seq (.ops r4) (.seq (.ops r5) (.cond (.t 33) (.ops r6) .skip))))) (.ops r7))))))) (.seq (.ops r8) .ret)))
@[simp] noncomputable def rs : List RV := [.tmp 4, .tmp 5, .tmp 6]
theorem comp : compF Pg cfg Tryz.f60 = some (ir, rs, 40) := by kernel_rfl
theorem enter {args : List AVal} {h : Heap} {K : AEnd → Heap → Prop} (F : Nat) (hl : args.length ≤ 40) (a : AW ⟨Pg, F, 40, false, []⟩ ir (RetK rs K) (initT args) [] h) : ACalls Pg fn_rap_best_int args h K :=
  ACalls.of_comp follows Tryz.func60 comp hl a
theorem pure {args : List AVal} {v : AVal} (hl : args.length ≤ 40) (a : AW ⟨Pg, 0, 40, false, []⟩ ir (RetK rs fun e _ => e = .ret v) (initT args) [] nilH) : APure Pg fn_rap_best_int args v :=
  APure.of_nil (enter 0 hl a)
end rap_best_int

namespace rap_upTo
noncomputable def cfg : Cfg := { pure := pures, pcs := [], raw := [], cuts := [], draws := [], keep := [] }
@[simp] noncomputable def r0 (_ : Unit) : List Stp := [S 2 (.mv (.c .nils))]
@[simp] noncomputable def r1 (_ : Unit) : List Stp := [S 4 (.mv (.t 0)), S 5 (.mv (.c (.int .i64 0)))]
@[simp] noncomputable def r2 (_ : Unit) : List Stp := [S 6 (.bin .lss (.t 5) (.t 4))]
@[simp] noncomputable def r3 (_ : Unit) : List Stp := [S 7 (.mv (.t 5)), S 3 (.mv (.t 7))]
@[simp] noncomputable def r4 (_ : Unit) : List Stp := [S 8 (.mv (.t 2)), S 9 (.mv (.t 3)), S 10 (.bsl 1 [(.int .i64 0)] [(0, 1, (.t 9))]), S 11 (.app 1 8 (.t 8) (.t 10)), S 2 (.mv (.t 11))]
@[simp] noncomputable def r5 (_ : Unit) : List Stp := [S 12 (.bin .add (.t 5) (.c (.int .i64 1))), S 5 (.mv (.t 12))]
@[simp] noncomputable def r6 (_ : Unit) : List Stp := [S 13 (.mv (.t 2)), S 2 (.mv (.t 13))]
@[simp] noncomputable def ir : IR := (.seq (.ops r0) (.seq (.seq (.ops r1) (.block 0 (.loop (.seq (.ops r2) (.seq (.cond (.t 6) .skip (.exit 0)) (.seq (.block 1 (.seq (.ops r3) (.ops r4))) (.ops r5))))))) (.seq (.ops r6) .ret)))
@[simp] noncomputable def rs : List RV := [.tmp 2]
theorem comp : compF Pg cfg Tryz.f61 = some (ir, rs, 14) := by kernel_rfl
theorem enter {args : List AVal} {h : Heap} {K : AEnd → Heap → Prop} (F : Nat) (hl : args.length ≤ 14) (a : AW ⟨Pg, F, 14, false, []⟩ ir (RetK rs K) (initT args) [] h) : ACalls Pg fn_rap_upTo args h K :=
  ACalls.of_comp follows Tryz.func61 comp hl a
theorem pure {args : List AVal} {v : AVal} (hl : args.length ≤ 14) (a : AW ⟨Pg, 0, 14, false, []⟩ ir (RetK rs fun e _ => e = .ret v) (initT args) [] nilH) : APure Pg fn_rap_upTo args v :=
  APure.of_nil (enter 0 hl a)
end rap_upTo

namespace rap_hull_seams
noncomputable def cfg : Cfg := { pure := pures, pcs := [], raw := [], cuts := [], draws := [], keep := [] }
@[simp] noncomputable def r0 (_ : Unit) : List Stp := [S 2 (.mv (.c (.int .i64 0)))]
@[simp] noncomputable def r1 (_ : Unit) : List Stp := [S 3 (.mv (.t 0)), S 4 (.nilck Pg (.t 3)), S 5 (.fAddr 0 (.t 4)), S 6 (.fAddr 0 (.t 5)), S 7 (.fAddr 0 (.t 6)), S 8 (.load false 1 (.t 7)), S 9 (.len (.t 8)), S 2 (.mv (.t 9))]
@[simp] noncomputable def ir : IR := (.seq (.ops r0) (.seq (.ops r1) .ret))
@[simp] noncomputable def rs : List RV := [.tmp 2]
theorem comp : compF Pg cfg Tryz.f62 = some (ir, rs, 10) := by kernel_rfl
theorem enter {args : List AVal} {h : Heap} {K : AEnd → Heap → Prop} (F : Nat) (hl : args.length ≤ 10) (a : AW ⟨Pg, F, 10, false, []⟩ ir (RetK rs K) (initT args) [] h) : ACalls Pg fn_rap_hull_seams args h K :=
  ACalls.of_comp follows Tryz.func62 comp hl a
theorem pure {args : List AVal} {v : AVal} (hl : args.length ≤ 10) (a : AW ⟨Pg, 0, 10, false, []⟩ ir (RetK rs fun e _ => e = .ret v) (initT args) [] nilH) : APure Pg fn_rap_hull_seams args v :=
  APure.of_nil (enter 0 hl a)
end rap_hull_seams

namespace rap_Fewest_2
noncomputable def cfg : Cfg := { pure := pures, pcs := [], raw := [], cuts := [], draws := [(1, [⟨4, false, [], []⟩, ⟨0, false, [], []⟩, ⟨1, false, [], []⟩, ⟨2, false, [], []⟩, ⟨3, false, [], []⟩, ⟨5, false, [], []⟩, ⟨6, false, [], []⟩, ⟨7, false, [], []⟩, ⟨8, false, [], []⟩])], keep := [] }
@[simp] noncomputable def r0 (_ : Unit) : List Stp := [S 2 (.box (.t 0)), S 3 (.mv (.c (.int .i64 0))), S 4 (.mv (.c (.bool false)))]
@[simp] noncomputable def r1 (_ : Unit) : List Stp := [S 9 (.mkF (.func fn_rap_Fewest_2_1) [] [(.t 2)]), S 5 (.load false 1 (.t 2)), S 6 (.conv .u64 (.t 5)), SP 7 (.call (.c (.func (.func fn_math_bits_OnesCount) [] [])) [(.t 6)]), S 8 (.load false 1 (.t 1)), S 10 (.call (.c (.func (.func fn_slices_ContainsFunc_rap_sound_rap_sound) [] [])) [(.t 8), (.t 9)]), S 11 (.un .not (.t 10)), S 3 (.mv (.t 7)), S 4 (.mv (.t 11))]
@[simp] noncomputable def ir : IR := (.seq (.ops r0) (.seq (.ops r1) .ret))
@[simp] noncomputable def rs : List RV := [.tmp 3, .tmp 4]
theorem comp : compF Pg cfg Tryz.f63 = some (ir, rs, 12) := by kernel_rfl
theorem enter {args : List AVal} {h : Heap} {K : AEnd → Heap → Prop} (F : Nat) (hl : args.length ≤ 12) (a : AW ⟨Pg, F, 12, false, []⟩ ir (RetK rs K) (initT args) [] h) : ACalls Pg fn_rap_Fewest_2 args h K :=
  ACalls.of_comp follows Tryz.func63 comp hl a
theorem pure {args : List AVal} {v : AVal} (hl : args.length ≤ 12) (a : AW ⟨Pg, 0, 12, false, []⟩ ir (RetK rs fun e _ => e = .ret v) (initT args) [] nilH) : APure Pg fn_rap_Fewest_2 args v :=
  APure.of_nil (enter 0 hl a)
end rap_Fewest_2

namespace math_bits_OnesCount
noncomputable def cfg : Cfg := { pure := pures, pcs := [], raw := [], cuts := [], draws := [], keep := [] }
@[simp] noncomputable def r0 (_ : Unit) : List Stp := [S 2 (.mv (.c (.int .i64 0)))]
@[simp] noncomputable def r1 (_ : Unit) : List Stp := [S 3 (.mv (.t 0)), S 4 (.conv .u32 (.t 3)), SP 5 (.call (.c (.func (.func fn_math_bits_OnesCount32) [] [])) [(.t 4)]), S 2 (.mv (.t 5))]
@[simp] noncomputable def r2 (_ : Unit) : List Stp := [S 6 (.mv (.t 0)), SP 7 (.call (.c (.func (.func fn_math_bits_OnesCount64) [] [])) [(.t 6)]), S 2 (.mv (.t 7))]
@[simp] noncomputable def ir : IR := (.seq (.ops r0) (.seq (.cond (.c (.bool false)) (.seq (.ops r1) .ret) .skip) (.seq (.ops r2) .ret)))
@[simp] noncomputable def rs : List RV := [.tmp 2]
theorem comp : compF Pg cfg Tryz.f64 = some (ir, rs, 8) := by kernel_rfl
theorem enter {args : List AVal} {h : Heap} {K : AEnd → Heap → Prop} (F : Nat) (hl : args.length ≤ 8) (a : AW ⟨Pg, F, 8, false, []⟩ ir (RetK rs K) (initT args) [] h) : ACalls Pg fn_math_bits_OnesCount args h K :=
  ACalls.of_comp follows Tryz.func64 comp hl a
theorem pure {args : List AVal} {v : AVal} (hl : args.length ≤ 8) (a : AW ⟨Pg, 0, 8, false, []⟩ ir (RetK rs fun e _ => e = .ret v) (initT args) [] nilH) : APure Pg fn_math_bits_OnesCount args v :=
  APure.of_nil (enter 0 hl a)
end math_bits_OnesCount

namespace slices_ContainsFunc_rap_sound_rap_sound
noncomputable def cfg : Cfg := { pure := pures, pcs := [], raw := [], cuts := [], draws := [], keep := [] }
@[simp] noncomputable def r0 (_ : Unit) : List Stp := [S 4 (.mv (.c (.bool false)))]
@[simp] noncomputable def r1 (_ : Unit) : List Stp := [S 5 (.mv (.t 0)), S 6 (.mv (.t 1)), S 7 (.call (.c (.func (.func fn_slices_IndexFunc_rap_sound_rap_sound) [] [])) [(.t 5), (.t 6)]), S 8 (.bin .geq (.t 7) (.c (.int .i64 0))), S 4 (.mv (.t 8))]
@[simp] noncomputable def ir : IR := (.seq (.ops r0) (.seq (.ops r1) .ret))
@[simp] noncomputable def rs : List RV := [.tmp 4]
theorem comp : compF Pg cfg Tryz.f65 = some (ir, rs, 9) := by kernel_rfl
theorem enter {args : List AVal} {h : Heap} {K : AEnd → Heap → Prop} (F : Nat) (hl : args.length ≤ 9) (a : AW ⟨Pg, F, 9, false, []⟩ ir (RetK rs K) (initT args) [] h) : ACalls Pg fn_slices_ContainsFunc_rap_sound_rap_sound args h K :=
  ACalls.of_comp follows Tryz.func65 comp hl a
theorem pure {args : List AVal} {v : AVal} (hl : args.length ≤ 9) (a : AW ⟨Pg, 0, 9, false, []⟩ ir (RetK rs fun e _ => e = .ret v) (initT args) [] nilH) : APure Pg fn_slices_ContainsFunc_rap_sound_rap_sound args v :=
  APure.of_nil (enter 0 hl a)
end slices_ContainsFunc_rap_sound_rap_sound

namespace rap_Fewest_2_1
noncomputable def cfg : Cfg := { pure := pures, pcs := [], raw := [], cuts := [], draws := [], keep := [] }
@[simp] noncomputable def r0 (_ : Unit) : List Stp := [S 2 (.box (.t 0)), S 3 (.mv (.c (.bool false)))]
@[simp] noncomputable def r1 (_ : Unit) : List Stp := [S 4 (.fAddr 0 (.t 2)), S 5 (.load false 1 (.t 4)), S 6 (.bin .neq (.t 5) (.c (.int .u64 0))), S 7 (.mv (.t 6)), SG 8 7 true (.fAddr 1 (.t 2)), SG 9 7 true (.load false 1 (.t 8)), SG 10 7 true (.load false 1 (.t 1)), SG 11 7 true (.conv .u64 (.t 10)), SG 12 7 true (.bin .and (.t 9) (.t 11)), SG 13 7 true (.bin .eql (.t 12) (.c (.int .u64 0))), S 14 (.pick (.t 7) (.t 13) (.c (.bool false))), S 3 (.mv (.t 14))]
@[simp] noncomputable def ir : IR := (.seq (.ops r0) (.seq (.ops r1) .ret))
@[simp] noncomputable def rs : List RV := [.tmp 3]
theorem comp : compF Pg cfg Tryz.f66 = some (ir, rs, 15) := by kernel_rfl
theorem enter {args : List AVal} {h : Heap} {K : AEnd → Heap → Prop} (F : Nat) (hl : args.length ≤ 15) (a : AW ⟨Pg, F, 15, false, []⟩ ir (RetK rs K) (initT args) [] h) : ACalls Pg fn_rap_Fewest_2_1 args h K :=
  ACalls.of_comp follows Tryz.func66 comp hl a
theorem pure {args : List AVal} {v : AVal} (hl : args.length ≤ 15) (a : AW ⟨Pg, 0, 15, false, []⟩ ir (RetK rs fun e _ => e = .ret v) (initT args) [] nilH) : APure Pg fn_rap_Fewest_2_1 args v :=
  APure.of_nil (enter 0 hl a)
end rap_Fewest_2_1

namespace rap_want
noncomputable def cfg : Cfg := { pure := pures, pcs := [], raw := [], cuts := [], draws := [], keep := [] }
@[simp] noncomputable def r0 (_ : Unit) : List Stp := [S 4 (.mv (.t 0)), S 5 (.un .not (.t 4))]
@[simp] noncomputable def r1 (_ : Unit) : List Stp := [S 6 (.mv (.t 1)), S 7 (.build [(.int .i64 0)] [(0, 1, (.t 6))]), S 8 (.mkI 120 (.t 7)), SN (.panic (.t 8))]
@[simp] noncomputable def ir : IR := (.seq (.ops r0) (.cond (.t 5) (.ops r1) .skip))
@[simp] noncomputable def rs : List RV := []
theorem comp : compF Pg cfg Tryz.f67 = some (ir, rs, 9) := by kernel_rfl
theorem enter {args : List AVal} {h : Heap} {K : AEnd → Heap → Prop} (F : Nat) (hl : args.length ≤ 9) (a : AW ⟨Pg, F, 9, false, []⟩ ir (RetK rs K) (initT args) [] h) : ACalls Pg fn_rap_want args h K :=
  ACalls.of_comp follows Tryz.func67 comp hl a
theorem pure {args : List AVal} {v : AVal} (hl : args.length ≤ 9) (a : AW ⟨Pg, 0, 9, false, []⟩ ir (RetK rs fun e _ => e = .ret v) (initT args) [] nilH) : APure Pg fn_rap_want args v :=
  APure.of_nil (enter 0 hl a)
end rap_want


namespace rap_Next_1
noncomputable def cfg : Cfg := { pure := pures, pcs := [], raw := [], cuts := [], draws := [], keep := [] }
@[simp] noncomputable def r0 (_ : Unit) : List Stp := [S 1 (.recov), S 2 (.call (.c (.func (.func fn_rap_said) [] [])) [(.t 1), (.t 0)])]
@[simp] noncomputable def ir : IR := (.ops r0)
@[simp] noncomputable def rs : List RV := []
theorem comp : compF Pg cfg Tryz.f69 = some (ir, rs, 3) := by kernel_rfl
theorem enter {args : List AVal} {h : Heap} {K : AEnd → Heap → Prop} (F : Nat) (hl : args.length ≤ 3) (a : AW ⟨Pg, F, 3, false, []⟩ ir (RetK rs K) (initT args) [] h) : ACalls Pg fn_rap_Next_1 args h K :=
  ACalls.of_comp follows Tryz.func69 comp hl a
theorem pure {args : List AVal} {v : AVal} (hl : args.length ≤ 3) (a : AW ⟨Pg, 0, 3, false, []⟩ ir (RetK rs fun e _ => e = .ret v) (initT args) [] nilH) : APure Pg fn_rap_Next_1 args v :=
  APure.of_nil (enter 0 hl a)
theorem recClo : RecClo Pg fn_rap_Next_1 fn_rap_said := ⟨_, Tryz.func69, by kernel_rfl⟩
end rap_Next_1

namespace rap_Next_2
noncomputable def cfg : Cfg := { pure := pures, pcs := [], raw := [], cuts := [], draws := [(8, [⟨0, false, [], []⟩, ⟨3, false, [], []⟩, ⟨6, false, [], []⟩, ⟨1, false, [], []⟩, ⟨2, false, [], []⟩, ⟨4, false, [], []⟩, ⟨5, false, [], []⟩, ⟨7, false, [], []⟩, ⟨8, false, [], []⟩, ⟨9, false, [], []⟩, ⟨10, false, [], []⟩, ⟨11, false, [], []⟩, ⟨12, false, [], []⟩])], keep := [] }
@[simp] noncomputable def r0 (_ : Unit) : List Stp := [S 3 (.mv (.c (.int .i64 0))), S 4 (.mv (.c (.bool false)))]
@[simp] noncomputable def r1 (_ : Unit) : List Stp := [S 5 (.mv (.c (.int .i64 0)))]
@[simp] noncomputable def r2 (_ : Unit) : List Stp := [S 8 (.load false 1 (.t 1)), S 9 (.len (.t 8)), S 10 (.mv (.c (.int .i64 0)))]
@[simp] noncomputable def r3 (_ : Unit) : List Stp := [S 11 (.bin .lss (.t 10) (.t 9))]
@[simp] noncomputable def r4 (_ : Unit) : List Stp := [S 12 (.ixS 2 (.t 8) (.t 10)), S 13 (.load true 2 (.t 12)), S 7 (.alloc [(.int .u64 0), (.int .u64 0)]), SN (.store 2 (.t 7) (.t 13))]
@[simp] noncomputable def r5 (_ : Unit) : List Stp := [S 14 (.fAddr 1 (.t 7)), S 15 (.load false 1 (.t 14)), S 16 (.mv (.t 0)), SP 17 (.call (.c (.func (.func fn_rap_set_has) [] [])) [(.t 15), (.t 16)])]
@[simp] noncomputable def r6 (_ : Unit) : List Stp := [S 18 (.mv (.t 5)), S 19 (.bin .add (.t 18) (.c (.int .i64 1))), S 5 (.mv (.t 19))]
@[simp] noncomputable def r7 (_ : Unit) : List Stp := [S 20 (.bin .add (.t 10) (.c (.int .i64 1))), S 10 (.mv (.t 20))]
@[simp] noncomputable def r8 (_ : Unit) : List Stp := [S 21 (.mv (.t 5)), S 24 (.mv (.t 5)), S 27 (.mv (.t 5)), S 22 (.load false 1 (.t 1)), S 23 (.len (.t 22)), S 25 (.bin .sub (.t 23) (.t 24)), S 26 (.mm true [(.t 21), (.t 25)]), S 28 (.load false 1 (.t 1)), S 29 (.len (.t 28)), S 30 (.bin .sub (.t 29) (.c (.int .i64 1))), SP 31 (.call (.c (.func (.func fn_rap_within) [] [])) [(.t 27), (.c (.int .i64 1)), (.t 30)]), S 3 (.mv (.t 26)), S 4 (.mv (.t 31))]
@[simp] noncomputable def ir : IR := (.seq (.ops r0) (.seq (.ops r1) (.seq (.seq (.ops r2) (.block 0 (.loop (.seq (.ops r3) (.seq (.cond (.t 11) .skip (.exit 0)) (.seq (.block 1 (.seq (.ops r4) (.seq (.ops r5) (.cond (.t 17) (.ops r6) .skip)))) (.ops r7))))))) (.seq (.ops r8) .ret))))
@[simp] noncomputable def rs : List RV := [.tmp 3, .tmp 4]
theorem comp : compF Pg cfg Tryz.f70 = some (ir, rs, 32) := by kernel_rfl
theorem enter {args : List AVal} {h : Heap} {K : AEnd → Heap → Prop} (F : Nat) (hl : args.length ≤ 32) (a : AW ⟨Pg, F, 32, false, []⟩ ir (RetK rs K) (initT args) [] h) : ACalls Pg fn_rap_Next_2 args h K :=
  ACalls.of_comp follows Tryz.func70 comp hl a
theorem pure {args : List AVal} {v : AVal} (hl : args.length ≤ 32) (a : AW ⟨Pg, 0, 32, false, []⟩ ir (RetK rs fun e _ => e = .ret v) (initT args) [] nilH) : APure Pg fn_rap_Next_2 args v :=
  APure.of_nil (enter 0 hl a)
end rap_Next_2

namespace rap_set_has
noncomputable def cfg : Cfg := { pure := pures, pcs := [], raw := [], cuts := [], draws := [], keep := [] }
@[simp] noncomputable def r0 (_ : Unit) : List Stp := [S 4 (.mv (.c (.bool false)))]
@[simp] noncomputable def r1 (_ : Unit) : List Stp := [S 5 (.mv (.t 0)), S 6 (.mv (.t 1)), S 7 (.bin .shr (.t 5) (.t 6)), S 8 (.bin .and (.t 7) (.c (.int .u64 1))), S 9 (.bin .eql (.t 8) (.c (.int .u64 1))), S 4 (.mv (.t 9))]
@[simp] noncomputable def ir : IR := (.seq (.ops r0) (.seq (.ops r1) .ret))
@[simp] noncomputable def rs : List RV := [.tmp 4]
theorem comp : compF Pg cfg Tryz.f71 = some (ir, rs, 10) := by kernel_rfl
theorem enter {args : List AVal} {h : Heap} {K : AEnd → Heap → Prop} (F : Nat) (hl : args.length ≤ 10) (a : AW ⟨Pg, F, 10, false, []⟩ ir (RetK rs K) (initT args) [] h) : ACalls Pg fn_rap_set_has args h K :=
  ACalls.of_comp follows Tryz.func71 comp hl a
theorem pure {args : List AVal} {v : AVal} (hl : args.length ≤ 10) (a : AW ⟨Pg, 0, 10, false, []⟩ ir (RetK rs fun e _ => e = .ret v) (initT args) [] nilH) : APure Pg fn_rap_set_has args v :=
  APure.of_nil (enter 0 hl a)
end rap_set_has

namespace rap_within
noncomputable def cfg : Cfg := { pure := pures, pcs := [], raw := [], cuts := [], draws := [], keep := [] }
@[simp] noncomputable def r0 (_ : Unit) : List Stp := [S 6 (.mv (.c (.bool false)))]
@[simp] noncomputable def r1 (_ : Unit) : List Stp := [S 7 (.mv (.t 1)), S 8 (.mv (.t 0)), S 9 (.bin .leq (.t 7) (.t 8)), S 10 (.mv (.t 9)), SG 11 10 true (.mv (.t 0)), SG 12 10 true (.mv (.t 2)), SG 13 10 true (.bin .leq (.t 11) (.t 12)), S 14 (.pick (.t 10) (.t 13) (.c (.bool false))), S 6 (.mv (.t 14))]
@[simp] noncomputable def ir : IR := (.seq (.ops r0) (.seq (.ops r1) .ret))
@[simp] noncomputable def rs : List RV := [.tmp 6]
theorem comp : compF Pg cfg Tryz.f72 = some (ir, rs, 15) := by kernel_rfl
theorem enter {args : List AVal} {h : Heap} {K : AEnd → Heap → Prop} (F : Nat) (hl : args.length ≤ 15) (a : AW ⟨Pg, F, 15, false, []⟩ ir (RetK rs K) (initT args) [] h) : ACalls Pg fn_rap_within args h K :=
  ACalls.of_comp follows Tryz.func72 comp hl a
theorem pure {args : List AVal} {v : AVal} (hl : args.length ≤ 15) (a : AW ⟨Pg, 0, 15, false, []⟩ ir (RetK rs fun e _ => e = .ret v) (initT args) [] nilH) : APure Pg fn_rap_within args v :=
  APure.of_nil (enter 0 hl a)
end rap_within

namespace rap_Wrong_1
noncomputable def cfg : Cfg := { pure := pures, pcs := [], raw := [], cuts := [], draws := [], keep := [] }
@[simp] noncomputable def r0 (_ : Unit) : List Stp := [S 1 (.recov), S 2 (.call (.c (.func (.func fn_rap_said) [] [])) [(.t 1), (.t 0)])]
@[simp] noncomputable def ir : IR := (.ops r0)
@[simp] noncomputable def rs : List RV := []
theorem comp : compF Pg cfg Tryz.f73 = some (ir, rs, 3) := by kernel_rfl
theorem enter {args : List AVal} {h : Heap} {K : AEnd → Heap → Prop} (F : Nat) (hl : args.length ≤ 3) (a : AW ⟨Pg, F, 3, false, []⟩ ir (RetK rs K) (initT args) [] h) : ACalls Pg fn_rap_Wrong_1 args h K :=
  ACalls.of_comp follows Tryz.func73 comp hl a
theorem pure {args : List AVal} {v : AVal} (hl : args.length ≤ 3) (a : AW ⟨Pg, 0, 3, false, []⟩ ir (RetK rs fun e _ => e = .ret v) (initT args) [] nilH) : APure Pg fn_rap_Wrong_1 args v :=
  APure.of_nil (enter 0 hl a)
theorem recClo : RecClo Pg fn_rap_Wrong_1 fn_rap_said := ⟨_, Tryz.func73, by kernel_rfl⟩
end rap_Wrong_1

namespace rap_hull_sounds
noncomputable def cfg : Cfg := { pure := pures, pcs := [], raw := [], cuts := [], draws := [(14, [⟨1, false, [], []⟩, ⟨3, false, [], []⟩, ⟨0, false, [], []⟩, ⟨2, false, [], []⟩, ⟨4, false, [], [0]⟩, ⟨5, false, [], []⟩, ⟨6, false, [], []⟩])], keep := [] }
@[simp] noncomputable def r0 (_ : Unit) : List Stp := [S 1 (.box (.t 0)), S 2 (.mv (.c .nils))]
@[simp] noncomputable def r1 (_ : Unit) : List Stp := [S 15 (.mkmap), S 3 (.alloc [.nilm]), SN (.store 1 (.t 3) (.t 15))]
@[simp] noncomputable def r2 (_ : Unit) : List Stp := [S 16 (.load false 1 (.t 1)), S 17 (.nilck Pg (.t 16)), S 18 (.fAddr 4 (.t 17)), S 19 (.load true 6 (.t 18)), S 20 (.mkF (.func fn_rap_around_dull) [(.t 19)] []), S 4 (.alloc [.nilf]), SN (.store 1 (.t 4) (.t 20))]
@[simp] noncomputable def r3 (_ : Unit) : List Stp := [S 21 (.load false 1 (.t 1)), S 22 (.call (.c (.func (.func fn_rap_hull_blows) [] [])) [(.t 21)])]
@[simp] noncomputable def r4 (_ : Unit) : List Stp := [S 5 (.mv (.t 23))]
@[simp] noncomputable def r5 (_ : Unit) : List Stp := [S 25 (.load false 1 (.t 1)), S 26 (.nilck Pg (.t 25)), S 27 (.fAddr 0 (.t 26)), S 28 (.fAddr 0 (.t 27)), S 29 (.load true 3 (.t 28)), S 30 (.mv (.t 5)), S 31 (.call (.c (.func (.func fn_drive_Settle) [] [])) [(.t 29), (.t 30)]), S 24 (.mv (.t 31)), S 32 (.ext (.t 24) 0), S 33 (.ext (.t 24) 1), S 34 (.ext (.t 24) 2), S 6 (.mv (.t 32)), S 7 (.mv (.t 33)), S 8 (.mv (.t 34))]
@[simp] noncomputable def r6 (_ : Unit) : List Stp := [S 35 (.mv (.t 8)), S 36 (.bin .eql (.t 35) (.c (.int .i64 0))), S 37 (.mv (.t 8)), S 38 (.call (.c (.func (.func fn_rap_want) [] [])) [(.t 36), (.t 37)])]
@[simp] noncomputable def r7 (_ : Unit) : List Stp := [S 9 (.mv (.c (.int .u64 0)))]
@[simp] noncomputable def r8 (_ : Unit) : List Stp := [S 39 (.mv (.t 7)), S 40 (.len (.t 39)), S 41 (.mv (.c (.int .i64 0)))]
@[simp] noncomputable def r9 (_ : Unit) : List Stp := [S 42 (.bin .lss (.t 41) (.t 40))]
@[simp] noncomputable def r10 (_ : Unit) : List Stp := [S 43 (.mv (.t 41)), S 44 (.ixS 1 (.t 39) (.t 41)), S 45 (.load false 1 (.t 44)), S 10 (.mv (.t 43)), S 11 (.mv (.t 45))]
@[simp] noncomputable def r11 (_ : Unit) : List Stp := [S 46 (.mv (.t 11)), S 47 (.bin .gtr (.t 46) (.c (.int .i64 0)))]
@[simp] noncomputable def r12 (_ : Unit) : List Stp := [S 48 (.mv (.t 9)), S 49 (.mv (.t 10)), S 50 (.bin .shl (.c (.int .u64 1)) (.t 49)), S 51 (.bsl 2 [(.int .u64 0), (.int .u64 0)] [(0, 1, (.t 48)), (1, 1, (.t 50))]), S 52 (.call (.c (.func (.func fn_rap_union) [] [])) [(.t 51)]), S 9 (.mv (.t 52))]
@[simp] noncomputable def r13 (_ : Unit) : List Stp := [S 53 (.bin .add (.t 41) (.c (.int .i64 1))), S 41 (.mv (.t 53))]
@[simp] noncomputable def r14 (_ : Unit) : List Stp := [S 55 (.mv (.t 9)), S 57 (.mv (.t 9)), S 54 (.load false 1 (.t 3)), S 56 (.load false 1 (.t 4)), SD (some 58) (.call (.t 56) [(.t 57)]) false [] [I 54 (.load false 1 (.t 3))], S 59 (.build [(.int .u64 0), (.int .u64 0)] [(0, 1, (.t 55)), (1, 1, (.t 58))]), SN (.mapU (true, [.i, .i]) (.t 54) (.t 59) (.c (.bool true)))]
@[simp] noncomputable def r15 (_ : Unit) : List Stp := [S 60 (.load false 1 (.t 3)), S 61 (.lenM (.t 60)), S 62 (.mksl 16 [(.int .u64 0), (.int .u64 0)] (.c (.int .i64 0)) (.t 61)), S 12 (.mv (.t 62))]
@[simp] noncomputable def r16 (_ : Unit) : List Stp := [S 63 (.load false 1 (.t 3)), S 64 (.range (.t 63))]
@[simp] noncomputable def r17 (_ : Unit) : List Stp := [S 65 (.next (.t 64)), S 66 (.ext (.t 65) 0)]
@[simp] noncomputable def r18 (_ : Unit) : List Stp := [S 67 (.entry (.t 64)), S 68 (.ext (.t 67) 0), S 13 (.alloc [(.int .u64 0), (.int .u64 0)]), SN (.store 2 (.t 13) (.t 68))]
@[simp] noncomputable def r19 (_ : Unit) : List Stp := [S 69 (.mv (.t 12)), S 70 (.load true 2 (.t 13)), S 71 (.bsl 1 [(.int .u64 0), (.int .u64 0)] [(0, 2, (.t 70))]), S 72 (.app 2 16 (.t 69) (.t 71)), S 12 (.mv (.t 72))]
@[simp] noncomputable def r20 (_ : Unit) : List Stp := [S 73 (.mv (.t 12)), S 74 (.len (.t 73)), S 75 (.mksl 16 [(.int .u64 0), (.int .u64 0)] (.t 74) (.t 74)), S 14 (.mv (.t 75))]
@[simp] noncomputable def r21 (_ : Unit) : List Stp := [S 76 (.mv (.t 14)), S 77 (.mv (.t 12)), S 78 (.copy 2 (.t 76) (.t 77))]
@[simp] noncomputable def r22 (_ : Unit) : List Stp := [S 79 (.mv (.t 14)), S 80 (.call (.c (.func (.func fn_slices_SortFunc_rap_sound_rap_sound) [] [])) [(.t 79), (.c (.func (.func fn_rap_hull_sounds_1) [] []))])]
@[simp] noncomputable def r23 (_ : Unit) : List Stp := [S 81 (.mv (.t 14)), S 2 (.mv (.t 81))]
@[simp] noncomputable def ir : IR := (.seq (.ops r0) (.seq (.ops r1) (.seq (.ops r2) (.seq (.seq (.ops r3) (.block 0 (.rangeF (.t 22) [23] (.ops r4) (.block 1 (.seq (.ops r5) (.seq (.ops r6) (.seq (.ops r7) (.seq (.seq (.ops r8) (.block 2 (.loop (.seq (.ops r9) (.seq (.cond (.t 42) .skip (.exit 2)) (.seq (.block 3 (.seq (.ops r10) (.seq (.ops r11) (.cond (.t 47) (.ops r12) .skip)))) (.ops r13))))))) (.ops r14))))))))) (.seq (.ops r15) (.seq (.seq (.ops r16) (.block 4 (.loop (.seq (.ops r17) (.seq (.cond (.t 66) .skip (.exit 4)) (.block 5 (.seq (.ops r18) (.ops r19)))))))) (.seq (.ops r20) (.seq (.ops r21) (.seq (.ops r22) (.seq (.ops r23) .ret))))))))))
@[simp] noncomputable def rs : List RV := [.tmp 2]
theorem comp : compF Pg cfg Tryz.f74 = some (ir, rs, 82) := by kernel_rfl
theorem enter {args : List AVal} {h : Heap} {K : AEnd → Heap → Prop} (F : Nat) (hl : args.length ≤ 82) (a : AW ⟨Pg, F, 82, false, []⟩ ir (RetK rs K) (initT args) [] h) : ACalls Pg fn_rap_hull_sounds args h K :=
  ACalls.of_comp follows Tryz.func74 comp hl a
theorem pure {args : List AVal} {v : AVal} (hl : args.length ≤ 82) (a : AW ⟨Pg, 0, 82, false, []⟩ ir (RetK rs fun e _ => e = .ret v) (initT args) [] nilH) : APure Pg fn_rap_hull_sounds args v :=
  APure.of_nil (enter 0 hl a)
end rap_hull_sounds

namespace rap_Wrong_2
noncomputable def cfg : Cfg := { pure := pures, pcs := [], raw := [], cuts := [], draws := [(1, [⟨0, false, [], []⟩, ⟨1, false, [], []⟩, ⟨2, false, [], []⟩, ⟨7, false, [], []⟩, ⟨8, false, [], []⟩, ⟨3, false, [], []⟩, ⟨4, false, [], []⟩, ⟨5, false, [], []⟩, ⟨6, false, [], []⟩, ⟨9, false, [], []⟩, ⟨10, false, [], []⟩, ⟨11, false, [], []⟩, ⟨12, false, [], []⟩, ⟨13, false, [], []⟩, ⟨14, false, [], []⟩])], keep := [] }
@[simp] noncomputable def r0 (_ : Unit) : List Stp := [S 4 (.mv (.c (.int .i64 0))), S 5 (.mv (.c (.bool false)))]
@[simp] noncomputable def r1 (_ : Unit) : List Stp := [S 6 (.mv (.t 0)), S 7 (.conv .u64 (.t 6)), SP 8 (.call (.c (.func (.func fn_math_bits_OnesCount) [] [])) [(.t 7)]), S 13 (.mv (.t 0)), S 14 (.conv .u64 (.t 13)), S 9 (.load false 1 (.t 1)), S 10 (.load false 1 (.t 2)), S 11 (.load false 1 (.t 1)), SP 12 (.call (.c (.func (.func fn_rap_hull_every) [] [])) [(.t 11)]), S 15 (.bin .andNot (.t 12) (.t 14)), S 16 (.call (.c (.func (.func fn_rap_hull_heard) [] [])) [(.t 9), (.t 10), (.t 15)]), S 17 (.len (.t 16)), S 18 (.bin .gtr (.t 17) (.c (.int .i64 0))), S 4 (.mv (.t 8)), S 5 (.mv (.t 18))]
@[simp] noncomputable def ir : IR := (.seq (.ops r0) (.seq (.ops r1) .ret))
@[simp] noncomputable def rs : List RV := [.tmp 4, .tmp 5]
theorem comp : compF Pg cfg Tryz.f75 = some (ir, rs, 19) := by kernel_rfl
theorem enter {args : List AVal} {h : Heap} {K : AEnd → Heap → Prop} (F : Nat) (hl : args.length ≤ 19) (a : AW ⟨Pg, F, 19, false, []⟩ ir (RetK rs K) (initT args) [] h) : ACalls Pg fn_rap_Wrong_2 args h K :=
  ACalls.of_comp follows Tryz.func75 comp hl a
theorem pure {args : List AVal} {v : AVal} (hl : args.length ≤ 19) (a : AW ⟨Pg, 0, 19, false, []⟩ ir (RetK rs fun e _ => e = .ret v) (initT args) [] nilH) : APure Pg fn_rap_Wrong_2 args v :=
  APure.of_nil (enter 0 hl a)
end rap_Wrong_2

namespace rap_hull_heard
noncomputable def cfg : Cfg := { pure := pures, pcs := [], raw := [], cuts := [], draws := [], keep := [] }
@[simp] noncomputable def r0 (_ : Unit) : List Stp := [S 6 (.mv (.c .nils))]
@[simp] noncomputable def r1 (_ : Unit) : List Stp := [S 12 (.mv (.t 0)), S 13 (.mv (.t 2)), S 14 (.call (.c (.func (.func fn_rap_hull_ears) [] [])) [(.t 12), (.t 13)]), S 7 (.mv (.t 14))]
@[simp] noncomputable def r2 (_ : Unit) : List Stp := [S 15 (.mv (.t 1)), S 16 (.len (.t 15)), S 17 (.mv (.c (.int .i64 0)))]
@[simp] noncomputable def r3 (_ : Unit) : List Stp := [S 18 (.bin .lss (.t 17) (.t 16))]
@[simp] noncomputable def r4 (_ : Unit) : List Stp := [S 19 (.ixS 2 (.t 15) (.t 17)), S 20 (.load true 2 (.t 19)), S 9 (.alloc [(.int .u64 0), (.int .u64 0)]), SN (.store 2 (.t 9) (.t 20))]
@[simp] noncomputable def r5 (_ : Unit) : List Stp := [S 21 (.mv (.t 7)), S 22 (.len (.t 21)), S 23 (.mv (.c (.int .i64 0)))]
@[simp] noncomputable def r6 (_ : Unit) : List Stp := [S 24 (.bin .lss (.t 23) (.t 22))]
@[simp] noncomputable def r7 (_ : Unit) : List Stp := [S 25 (.ixS 1 (.t 21) (.t 23)), S 26 (.load false 1 (.t 25)), S 11 (.mv (.t 26))]
@[simp] noncomputable def r8 (_ : Unit) : List Stp := [S 27 (.mv (.t 11)), S 28 (.load true 2 (.t 9)), S 29 (.inv (.t 27) "caulkworks/rap.hears" [(.t 28)]), S 30 (.un .not (.t 29))]
@[simp] noncomputable def r9 (_ : Unit) : List Stp := [S 31 (.bin .add (.t 23) (.c (.int .i64 1))), S 23 (.mv (.t 31))]
@[simp] noncomputable def r10 (_ : Unit) : List Stp := [S 32 (.mv (.t 6)), S 33 (.load true 2 (.t 9)), S 34 (.bsl 1 [(.int .u64 0), (.int .u64 0)] [(0, 2, (.t 33))]), S 35 (.app 2 16 (.t 32) (.t 34)), S 6 (.mv (.t 35))]
@[simp] noncomputable def r11 (_ : Unit) : List Stp := [S 36 (.bin .add (.t 17) (.c (.int .i64 1))), S 17 (.mv (.t 36))]
@[simp] noncomputable def r12 (_ : Unit) : List Stp := [S 37 (.mv (.t 6)), S 6 (.mv (.t 37))]
@[simp] noncomputable def ir : IR := (.seq (.ops r0) (.seq (.ops r1) (.seq .skip (.seq (.seq (.ops r2) (.block 0 (.loop (.seq (.ops r3) (.seq (.cond (.t 18) .skip (.exit 0)) (.seq (.block 1 (.seq (.ops r4) (.seq (.seq (.ops r5) (.block 2 (.loop (.seq (.ops r6) (.seq (.cond (.t 24) .skip (.exit 2)) (.seq (.block 3 (.seq (.ops r7) (.seq (.ops r8) (.cond (.t 30) (.exit 1) .skip)))) (.ops r9))))))) (.ops r10)))) (.ops r11))))))) (.seq (.ops r12) .ret)))))
@[simp] noncomputable def rs : List RV := [.tmp 6]
theorem comp : compF Pg cfg Tryz.f76 = some (ir, rs, 38) := by kernel_rfl
theorem enter {args : List AVal} {h : Heap} {K : AEnd → Heap → Prop} (F : Nat) (hl : args.length ≤ 38) (a : AW ⟨Pg, F, 38, false, []⟩ ir (RetK rs K) (initT args) [] h) : ACalls Pg fn_rap_hull_heard args h K :=
  ACalls.of_comp follows Tryz.func76 comp hl a
theorem pure {args : List AVal} {v : AVal} (hl : args.length ≤ 38) (a : AW ⟨Pg, 0, 38, false, []⟩ ir (RetK rs fun e _ => e = .ret v) (initT args) [] nilH) : APure Pg fn_rap_hull_heard args v :=
  APure.of_nil (enter 0 hl a)
end rap_hull_heard

namespace rap_hull_every
noncomputable def cfg : Cfg := { pure := pures, pcs := [], raw := [], cuts := [], draws := [], keep := [] }
@[simp] noncomputable def r0 (_ : Unit) : List Stp := [S 2 (.mv (.c (.int .u64 0)))]
@[simp] noncomputable def r1 (_ : Unit) : List Stp := [S 3 (.mv (.t 0)), S 4 (.nilck Pg (.t 3)), S 5 (.fAddr 0 (.t 4)), S 6 (.fAddr 3 (.t 5)), S 7 (.load false 1 (.t 6)), S 8 (.len (.t 7)), S 9 (.bin .shl (.c (.int .u64 1)) (.t 8)), S 10 (.bin .sub (.t 9) (.c (.int .u64 1))), S 2 (.mv (.t 10))]
@[simp] noncomputable def ir : IR := (.seq (.ops r0) (.seq (.ops r1) .ret))
@[simp] noncomputable def rs : List RV := [.tmp 2]
theorem comp : compF Pg cfg Tryz.f77 = some (ir, rs, 11) := by kernel_rfl
theorem enter {args : List AVal} {h : Heap} {K : AEnd → Heap → Prop} (F : Nat) (hl : args.length ≤ 11) (a : AW ⟨Pg, F, 11, false, []⟩ ir (RetK rs K) (initT args) [] h) : ACalls Pg fn_rap_hull_every args h K :=
  ACalls.of_comp follows Tryz.func77 comp hl a
theorem pure {args : List AVal} {v : AVal} (hl : args.length ≤ 11) (a : AW ⟨Pg, 0, 11, false, []⟩ ir (RetK rs fun e _ => e = .ret v) (initT args) [] nilH) : APure Pg fn_rap_hull_every args v :=
  APure.of_nil (enter 0 hl a)
end rap_hull_every

namespace ref05_Drive
noncomputable def cfg : Cfg := { pure := pures, pcs := [], raw := [], cuts := [], draws := [(12, [⟨0, false, [], []⟩, ⟨2, false, [], []⟩, ⟨1, false, [], []⟩, ⟨3, false, [], []⟩, ⟨4, false, [], []⟩, ⟨5, false, [], []⟩, ⟨6, false, [], []⟩]), (18, [⟨0, false, [], []⟩, ⟨2, false, [], []⟩, ⟨1, false, [], []⟩, ⟨3, false, [], []⟩, ⟨4, false, [], []⟩, ⟨5, false, [], []⟩, ⟨6, false, [], []⟩, ⟨7, false, [], []⟩, ⟨9, false, [], []⟩, ⟨11, false, [], []⟩, ⟨13, false, [], []⟩, ⟨8, false, [], []⟩, ⟨10, false, [], []⟩, ⟨12, false, [], []⟩, ⟨14, false, [], []⟩, ⟨15, false, [], []⟩, ⟨16, false, [], []⟩, ⟨17, false, [], []⟩, ⟨18, false, [], []⟩, ⟨19, false, [], []⟩, ⟨20, false, [], []⟩, ⟨21, false, [], []⟩, ⟨22, false, [], []⟩, ⟨23, false, [], []⟩, ⟨24, false, [], []⟩, ⟨26, false, [], []⟩, ⟨25, false, [], []⟩, ⟨27, false, [], []⟩, ⟨28, false, [], []⟩, ⟨29, false, [], []⟩, ⟨30, false, [], []⟩, ⟨31, false, [], []⟩, ⟨32, false, [], []⟩, ⟨33, false, [], []⟩, ⟨34, false, [], []⟩, ⟨35, false, [], []⟩, ⟨36, false, [], []⟩, ⟨38, false, [], []⟩, ⟨37, false, [], []⟩, ⟨39, false, [], []⟩, ⟨40, false, [], []⟩, ⟨41, false, [], []⟩, ⟨42, false, [], []⟩])], keep := [] }
@[simp] noncomputable def r0 (_ : Unit) : List Stp := [S 1 (.box (.t 0)), S 2 (.mv (.c (.bool false)))]
@[simp] noncomputable def r1 (_ : Unit) : List Stp := [S 8 (.fAddr 0 (.t 1)), S 9 (.load false 1 (.t 8)), S 10 (.len (.t 9)), SP 11 (.call (.c (.func (.func fn_ref05_in) [] [])) [(.t 10), (.c (.int .i64 1)), (.c (.int .i64 6))]), S 12 (.un .not (.t 11)), S 13 (.mv (.t 12)), SG 14 13 false (.fAddr 2 (.t 1)), SG 15 13 false (.load false 1 (.t 14)), SG 16 13 false (.len (.t 15)), SG 17 13 false (.fAddr 0 (.t 1)), SG 18 13 false (.load false 1 (.t 17)), SG 19 13 false (.len (.t 18)), SG 20 13 false (.bin .neq (.t 16) (.t 19)), S 21 (.pick (.t 13) (.c (.bool true)) (.t 20))]
@[simp] noncomputable def r2 (_ : Unit) : List Stp := [S 2 (.mv (.c (.bool false)))]
@[simp] noncomputable def r3 (_ : Unit) : List Stp := [S 3 (.mv (.c (.int .i64 0)))]
@[simp] noncomputable def r4 (_ : Unit) : List Stp := [S 22 (.mv (.t 3)), S 23 (.fAddr 1 (.t 1)), S 24 (.load false 1 (.t 23)), S 25 (.len (.t 24)), S 26 (.bin .lss (.t 22) (.t 25))]
@[simp] noncomputable def r6 (_ : Unit) : List Stp := [S 29 (.fAddr 1 (.t 1)), S 30 (.load false 1 (.t 29)), S 31 (.mv (.t 3)), S 32 (.ixS 2 (.t 30) (.t 31)), S 33 (.load true 2 (.t 32)), S 4 (.alloc [(.int .i64 0), (.int .i64 0)]), SN (.store 2 (.t 4) (.t 33))]
@[simp] noncomputable def r7 (_ : Unit) : List Stp := [S 34 (.load true 3 (.t 1)), S 35 (.ixA 2 1 (.t 4) (.c (.int .i64 0))), S 36 (.load false 1 (.t 35)), SP 37 (.call (.c (.func (.func fn_ref05_Seam) [] [])) [(.t 34), (.t 36)]), S 38 (.un .not (.t 37)), S 39 (.mv (.t 38)), SG 40 39 false (.load true 3 (.t 1)), SG 41 39 false (.ixA 2 1 (.t 4) (.c (.int .i64 1))), SG 42 39 false (.load false 1 (.t 41)), SGP 43 39 false (.call (.c (.func (.func fn_ref05_Seam) [] [])) [(.t 40), (.t 42)]), SG 44 39 false (.un .not (.t 43)), S 45 (.pick (.t 39) (.c (.bool true)) (.t 44)), S 46 (.mv (.t 45)), SG 47 46 false (.ixA 2 1 (.t 4) (.c (.int .i64 0))), SG 48 46 false (.load false 1 (.t 47)), SG 49 46 false (.ixA 2 1 (.t 4) (.c (.int .i64 1))), SG 50 46 false (.load false 1 (.t 49)), SG 51 46 false (.bin .geq (.t 48) (.t 50)), S 52 (.pick (.t 46) (.c (.bool true)) (.t 51))]
@[simp] noncomputable def r8 (_ : Unit) : List Stp := [S 2 (.mv (.c (.bool false)))]
@[simp] noncomputable def r9 (_ : Unit) : List Stp := [S 5 (.mv (.c (.int .i64 0)))]
@[simp] noncomputable def r10 (_ : Unit) : List Stp := [S 53 (.mv (.t 5)), S 54 (.mv (.t 3)), S 55 (.bin .lss (.t 53) (.t 54))]
@[simp] noncomputable def r12 (_ : Unit) : List Stp := [S 58 (.fAddr 1 (.t 1)), S 60 (.mv (.t 5)), S 59 (.load false 1 (.t 58)), S 61 (.ixS 2 (.t 59) (.t 60)), S 62 (.load true 2 (.t 61)), S 63 (.load true 2 (.t 4)), S 64 (.eqA false [.i, .i] (.t 62) (.t 63))]
@[simp] noncomputable def r13 (_ : Unit) : List Stp := [S 2 (.mv (.c (.bool false)))]
@[simp] noncomputable def r11 (_ : Unit) : List Stp := [S 56 (.mv (.t 5)), S 57 (.bin .add (.t 56) (.c (.int .i64 1))), S 5 (.mv (.t 57))]
@[simp] noncomputable def r5 (_ : Unit) : List Stp := [S 27 (.mv (.t 3)), S 28 (.bin .add (.t 27) (.c (.int .i64 1))), S 3 (.mv (.t 28))]
@[simp] noncomputable def r14 (_ : Unit) : List Stp := [S 6 (.mv (.c (.int .i64 0)))]
@[simp] noncomputable def r15 (_ : Unit) : List Stp := [S 65 (.mv (.t 6)), S 66 (.fAddr 0 (.t 1)), S 67 (.load false 1 (.t 66)), S 68 (.len (.t 67)), S 69 (.bin .lss (.t 65) (.t 68))]
@[simp] noncomputable def r17 (_ : Unit) : List Stp := [S 72 (.fAddr 2 (.t 1)), S 73 (.load false 1 (.t 72)), S 74 (.mv (.t 6)), S 75 (.ixS 2 (.t 73) (.t 74)), S 76 (.load true 2 (.t 75)), S 7 (.alloc [(.int .i64 0), (.int .i64 0)]), SN (.store 2 (.t 7) (.t 76))]
@[simp] noncomputable def r18 (_ : Unit) : List Stp := [S 77 (.fAddr 0 (.t 1)), S 79 (.mv (.t 6)), S 78 (.load false 1 (.t 77)), S 80 (.ixS 1 (.t 78) (.t 79)), S 81 (.load false 1 (.t 80)), SP 82 (.call (.c (.func (.func fn_ref05_in) [] [])) [(.t 81), (.c (.int .i64 1)), (.c (.int .i64 6))]), S 83 (.un .not (.t 82)), S 84 (.mv (.t 83)), SG 86 84 false (.mv (.t 6)), SG 88 84 false (.fAddr 0 (.t 1)), SG 90 84 false (.mv (.t 6)), SG 85 84 false (.load true 3 (.t 1)), SGP 87 84 false (.call (.c (.func (.func fn_ref05_Beside) [] [])) [(.t 85), (.t 86)]), SG 89 84 false (.load false 1 (.t 88)), SG 91 84 false (.ixS 1 (.t 89) (.t 90)), SG 92 84 false (.load false 1 (.t 91)), SG 93 84 false (.bin .geq (.t 87) (.t 92)), S 94 (.pick (.t 84) (.c (.bool true)) (.t 93)), S 95 (.mv (.t 94)), SG 96 95 false (.fAddr 0 (.t 7)), SG 97 95 false (.load false 1 (.t 96)), SG 98 95 false (.bin .lss (.t 97) (.c (.int .i64 0))), S 99 (.pick (.t 95) (.c (.bool true)) (.t 98)), S 100 (.mv (.t 99)), SG 101 100 false (.fAddr 0 (.t 7)), SG 103 100 false (.fAddr 1 (.t 7)), SG 102 100 false (.load false 1 (.t 101)), SG 104 100 false (.load false 1 (.t 103)), SG 105 100 false (.bin .gtr (.t 102) (.t 104)), S 106 (.pick (.t 100) (.c (.bool true)) (.t 105)), S 107 (.mv (.t 106)), SG 108 107 false (.fAddr 1 (.t 7)), SG 109 107 false (.load false 1 (.t 108)), SG 110 107 false (.bin .gtr (.t 109) (.c (.int .i64 12))), S 111 (.pick (.t 107) (.c (.bool true)) (.t 110)), S 112 (.mv (.t 111)), SG 113 112 false (.fAddr 1 (.t 7)), SG 115 112 false (.fAddr 0 (.t 7)), SG 114 112 false (.load false 1 (.t 113)), SG 116 112 false (.load false 1 (.t 115)), SG 117 112 false (.bin .sub (.t 114) (.t 116)), SG 118 112 false (.bin .gtr (.t 117) (.c (.int .i64 2))), S 119 (.pick (.t 112) (.c (.bool true)) (.t 118))]
@[simp] noncomputable def r19 (_ : Unit) : List Stp := [S 2 (.mv (.c (.bool false)))]
@[simp] noncomputable def r16 (_ : Unit) : List Stp := [S 70 (.mv (.t 6)), S 71 (.bin .add (.t 70) (.c (.int .i64 1))), S 6 (.mv (.t 71))]
@[simp] noncomputable def r20 (_ : Unit) : List Stp := [S 2 (.mv (.c (.bool true)))]
@[simp] noncomputable def ir : IR := (.seq (.ops r0) (.seq (.seq (.ops r1) (.cond (.t 21) (.seq (.ops r2) .ret) .skip)) (.seq (.seq (.ops r3) (.block 0 (.loop (.seq (.seq (.ops r4) (.cond (.t 26) .skip (.exit 0))) (.seq (.block 1 (.seq (.ops r6) (.seq (.seq (.ops r7) (.cond (.t 52) (.seq (.ops r8) .ret) .skip)) (.seq (.ops r9) (.block 2 (.loop (.seq (.seq (.ops r10) (.cond (.t 55) .skip (.exit 2))) (.seq (.block 3 (.seq (.ops r12) (.cond (.t 64) (.seq (.ops r13) .ret) .skip))) (.ops r11))))))))) (.ops r5)))))) (.seq (.seq (.ops r14) (.block 4 (.loop (.seq (.seq (.ops r15) (.cond (.t 69) .skip (.exit 4))) (.seq (.block 5 (.seq (.ops r17) (.seq (.ops r18) (.cond (.t 119) (.seq (.ops r19) .ret) .skip)))) (.ops r16)))))) (.seq (.ops r20) .ret)))))
@[simp] noncomputable def rs : List RV := [.tmp 2]
theorem comp : compF Pg cfg Tryz.f78 = some (ir, rs, 120) := by kernel_rfl
theorem enter {args : List AVal} {h : Heap} {K : AEnd → Heap → Prop} (F : Nat) (hl : args.length ≤ 120) (a : AW ⟨Pg, F, 120, false, []⟩ ir (RetK rs K) (initT args) [] h) : ACalls Pg fn_ref05_Drive args h K :=
  ACalls.of_comp follows Tryz.func78 comp hl a
theorem pure {args : List AVal} {v : AVal} (hl : args.length ≤ 120) (a : AW ⟨Pg, 0, 120, false, []⟩ ir (RetK rs fun e _ => e = .ret v) (initT args) [] nilH) : APure Pg fn_ref05_Drive args v :=
  APure.of_nil (enter 0 hl a)
end ref05_Drive

namespace ref05_Seam
noncomputable def cfg : Cfg := { pure := pures, pcs := [], raw := [], cuts := [], draws := [], keep := [] }
@[simp] noncomputable def r0 (_ : Unit) : List Stp := [S 2 (.box (.t 0)), S 4 (.mv (.c (.bool false)))]
@[simp] noncomputable def r1 (_ : Unit) : List Stp := [S 5 (.mv (.t 1)), S 6 (.fAddr 0 (.t 2)), S 7 (.load false 1 (.t 6)), S 8 (.len (.t 7)), S 9 (.bin .sub (.t 8) (.c (.int .i64 1))), SP 10 (.call (.c (.func (.func fn_ref05_in) [] [])) [(.t 5), (.c (.int .i64 0)), (.t 9)]), S 4 (.mv (.t 10))]
@[simp] noncomputable def ir : IR := (.seq (.ops r0) (.seq (.ops r1) .ret))
@[simp] noncomputable def rs : List RV := [.tmp 4]
theorem comp : compF Pg cfg Tryz.f79 = some (ir, rs, 11) := by kernel_rfl
theorem enter {args : List AVal} {h : Heap} {K : AEnd → Heap → Prop} (F : Nat) (hl : args.length ≤ 11) (a : AW ⟨Pg, F, 11, false, []⟩ ir (RetK rs K) (initT args) [] h) : ACalls Pg fn_ref05_Seam args h K :=
  ACalls.of_comp follows Tryz.func79 comp hl a
theorem pure {args : List AVal} {v : AVal} (hl : args.length ≤ 11) (a : AW ⟨Pg, 0, 11, false, []⟩ ir (RetK rs fun e _ => e = .ret v) (initT args) [] nilH) : APure Pg fn_ref05_Seam args v :=
  APure.of_nil (enter 0 hl a)
end ref05_Seam

namespace law13_draws_1
noncomputable def cfg : Cfg := { pure := pures, pcs := [], raw := [], cuts := [], draws := [(4, [⟨11, false, [], []⟩, ⟨0, false, [], []⟩, ⟨1, false, [], []⟩, ⟨2, false, [], []⟩, ⟨3, false, [], []⟩, ⟨4, false, [], []⟩, ⟨5, false, [], []⟩, ⟨6, false, [], []⟩, ⟨7, false, [], []⟩, ⟨8, false, [], []⟩, ⟨9, false, [], []⟩, ⟨10, false, [], []⟩, ⟨12, false, [], []⟩, ⟨13, false, [], []⟩])], keep := [] }
@[simp] noncomputable def r0 (_ : Unit) : List Stp := [S 4 (.mv (.c (.int .i64 0)))]
@[simp] noncomputable def r1 (_ : Unit) : List Stp := [S 5 (.load false 1 (.t 1)), S 6 (.bin .add (.t 5) (.c (.int .i64 1))), SN (.store 1 (.t 1) (.t 6))]
@[simp] noncomputable def r2 (_ : Unit) : List Stp := [S 7 (.load false 1 (.t 2)), S 8 (.len (.t 7)), S 9 (.bin .eql (.t 8) (.c (.int .i64 0)))]
@[simp] noncomputable def r3 (_ : Unit) : List Stp := [S 10 (.load false 1 (.t 1)), S 11 (.mv (.t 0)), S 12 (.bin .rem (.t 10) (.t 11)), S 4 (.mv (.t 12))]
@[simp] noncomputable def r4 (_ : Unit) : List Stp := [S 24 (.mv (.t 0)), S 13 (.load false 1 (.t 2)), S 14 (.load false 1 (.t 1)), S 15 (.load false 1 (.t 2)), S 16 (.len (.t 15)), S 17 (.bin .rem (.t 14) (.t 16)), S 18 (.ixS 1 (.t 13) (.t 17)), S 19 (.load false 1 (.t 18)), S 20 (.conv .i64 (.t 19)), S 21 (.load false 1 (.t 1)), S 22 (.bin .mul (.c (.int .i64 83)) (.t 21)), S 23 (.bin .add (.t 20) (.t 22)), S 25 (.bin .rem (.t 23) (.t 24)), S 4 (.mv (.t 25))]
@[simp] noncomputable def ir : IR := (.seq (.ops r0) (.seq (.ops r1) (.seq (.seq (.ops r2) (.cond (.t 9) (.seq (.ops r3) .ret) .skip)) (.seq (.ops r4) .ret))))
@[simp] noncomputable def rs : List RV := [.tmp 4]
theorem comp : compF Pg cfg Tryz.f80 = some (ir, rs, 26) := by kernel_rfl
theorem enter {args : List AVal} {h : Heap} {K : AEnd → Heap → Prop} (F : Nat) (hl : args.length ≤ 26) (a : AW ⟨Pg, F, 26, false, []⟩ ir (RetK rs K) (initT args) [] h) : ACalls Pg fn_law13_draws_1 args h K :=
  ACalls.of_comp follows Tryz.func80 comp hl a
theorem pure {args : List AVal} {v : AVal} (hl : args.length ≤ 26) (a : AW ⟨Pg, 0, 26, false, []⟩ ir (RetK rs fun e _ => e = .ret v) (initT args) [] nilH) : APure Pg fn_law13_draws_1 args v :=
  APure.of_nil (enter 0 hl a)
end law13_draws_1

namespace drive_Settle_1
noncomputable def cfg : Cfg := { pure := pures, pcs := [], raw := [], cuts := [], draws := [], keep := [] }
@[simp] noncomputable def r0 (_ : Unit) : List Stp := [S 1 (.recov), S 2 (.call (.c (.func (.func fn_drive_said) [] [])) [(.t 1), (.t 0)])]
@[simp] noncomputable def ir : IR := (.ops r0)
@[simp] noncomputable def rs : List RV := []
theorem comp : compF Pg cfg Tryz.f81 = some (ir, rs, 3) := by kernel_rfl
theorem enter {args : List AVal} {h : Heap} {K : AEnd → Heap → Prop} (F : Nat) (hl : args.length ≤ 3) (a : AW ⟨Pg, F, 3, false, []⟩ ir (RetK rs K) (initT args) [] h) : ACalls Pg fn_drive_Settle_1 args h K :=
  ACalls.of_comp follows Tryz.func81 comp hl a
theorem pure {args : List AVal} {v : AVal} (hl : args.length ≤ 3) (a : AW ⟨Pg, 0, 3, false, []⟩ ir (RetK rs fun e _ => e = .ret v) (initT args) [] nilH) : APure Pg fn_drive_Settle_1 args v :=
  APure.of_nil (enter 0 hl a)
theorem recClo : RecClo Pg fn_drive_Settle_1 fn_drive_said := ⟨_, Tryz.func81, by kernel_rfl⟩
end drive_Settle_1

namespace drive_said
noncomputable def cfg : Cfg := { pure := pures, pcs := [], raw := [], cuts := [], draws := [], keep := [] }
@[simp] noncomputable def r0 (_ : Unit) : List Stp := [S 6 (.mv (.t 0)), S 7 (.eqN .i false (.t 6))]
@[simp] noncomputable def r1 (_ : Unit) : List Stp := [S 9 (.mv (.t 0)), S 10 (.tyAs 148 true (.agg [(.int .i64 0)]) (.t 9)), S 8 (.mv (.t 10)), S 11 (.ext (.t 8) 0), S 12 (.ext (.t 8) 1), S 4 (.alloc [(.int .i64 0)]), SN (.store 1 (.t 4) (.t 11)), S 5 (.mv (.t 12))]
@[simp] noncomputable def r2 (_ : Unit) : List Stp := [S 13 (.mv (.t 5)), S 14 (.un .not (.t 13))]
@[simp] noncomputable def r3 (_ : Unit) : List Stp := [S 15 (.mv (.t 0)), SN (.panic (.t 15))]
@[simp] noncomputable def r4 (_ : Unit) : List Stp := [S 16 (.mv (.t 1)), S 17 (.fAddr 0 (.t 4)), S 18 (.load false 1 (.t 17)), S 19 (.nilck Pg (.t 16)), SN (.store 1 (.t 19) (.t 18))]
@[simp] noncomputable def ir : IR := (.seq (.seq (.ops r0) (.cond (.t 7) .ret .skip)) (.seq (.ops r1) (.seq (.seq (.ops r2) (.cond (.t 14) (.ops r3) .skip)) (.ops r4))))
@[simp] noncomputable def rs : List RV := []
theorem comp : compF Pg cfg Tryz.f82 = some (ir, rs, 20) := by kernel_rfl
theorem enter {args : List AVal} {h : Heap} {K : AEnd → Heap → Prop} (F : Nat) (hl : args.length ≤ 20) (a : AW ⟨Pg, F, 20, false, []⟩ ir (RetK rs K) (initT args) [] h) : ACalls Pg fn_drive_said args h K :=
  ACalls.of_comp follows Tryz.func82 comp hl a
theorem pure {args : List AVal} {v : AVal} (hl : args.length ≤ 20) (a : AW ⟨Pg, 0, 20, false, []⟩ ir (RetK rs fun e _ => e = .ret v) (initT args) [] nilH) : APure Pg fn_drive_said args v :=
  APure.of_nil (enter 0 hl a)
end drive_said

namespace drive_open
noncomputable def cfg : Cfg := { pure := pures, pcs := [], raw := [], cuts := [], draws := [(6, [⟨1, false, [], []⟩, ⟨0, false, [], []⟩, ⟨2, false, [], []⟩, ⟨3, false, [], []⟩, ⟨4, false, [], []⟩, ⟨6, false, [], []⟩, ⟨5, false, [], []⟩, ⟨7, false, [], []⟩, ⟨8, false, [], []⟩, ⟨9, false, [], []⟩, ⟨10, false, [], []⟩, ⟨11, false, [], []⟩, ⟨13, false, [], []⟩, ⟨12, false, [], []⟩, ⟨14, false, [], []⟩, ⟨15, false, [], []⟩, ⟨16, false, [], []⟩, ⟨17, false, [], []⟩, ⟨18, false, [], []⟩, ⟨20, false, [], []⟩, ⟨19, false, [], []⟩, ⟨21, false, [], []⟩, ⟨22, false, [], []⟩, ⟨23, false, [], []⟩, ⟨24, false, [], []⟩, ⟨25, false, [], []⟩, ⟨26, false, [], []⟩]), (7, [⟨0, false, [], []⟩, ⟨1, false, [], []⟩, ⟨3, false, [], []⟩, ⟨4, false, [], []⟩, ⟨6, false, [], []⟩, ⟨7, false, [], []⟩, ⟨9, false, [], []⟩, ⟨10, false, [], []⟩, ⟨13, false, [], []⟩, ⟨17, false, [], []⟩, ⟨18, false, [], []⟩, ⟨20, false, [], []⟩, ⟨21, false, [], []⟩, ⟨24, false, [], []⟩, ⟨28, false, [], []⟩, ⟨29, false, [], []⟩, ⟨32, false, [], []⟩, ⟨33, false, [], []⟩, ⟨2, false, [], []⟩, ⟨5, false, [], []⟩, ⟨8, false, [], []⟩, ⟨11, false, [], []⟩, ⟨12, false, [], []⟩, ⟨14, false, [], []⟩, ⟨19, false, [], []⟩, ⟨22, false, [], []⟩, ⟨23, false, [], []⟩, ⟨25, false, [], []⟩, ⟨15, true, [], []⟩, ⟨26, true, [], []⟩, ⟨16, false, [], [2, 5, 19, 23, 25]⟩, ⟨27, false, [], [2, 5]⟩, ⟨30, false, [], []⟩, ⟨31, false, [], [5]⟩, ⟨34, false, [], []⟩, ⟨35, false, [], []⟩])], keep := [] }
@[simp] noncomputable def r0 (_ : Unit) : List Stp := [S 2 (.box (.t 0)), S 4 (.mv (.c .nilp))]
@[simp] noncomputable def r1 (_ : Unit) : List Stp := [S 11 (.fAddr 0 (.t 2)), S 12 (.load false 1 (.t 11)), S 13 (.len (.t 12)), SP 14 (.call (.c (.func (.func fn_drive_within) [] [])) [(.t 13), (.c (.int .i64 1)), (.c (.int .i64 6))]), S 15 (.mv (.t 14)), SG 16 15 true (.fAddr 2 (.t 2)), SG 17 15 true (.load false 1 (.t 16)), SG 18 15 true (.len (.t 17)), SG 19 15 true (.fAddr 0 (.t 2)), SG 20 15 true (.load false 1 (.t 19)), SG 21 15 true (.len (.t 20)), SG 22 15 true (.bin .eql (.t 18) (.t 21)), S 23 (.pick (.t 15) (.t 22) (.c (.bool false))), S 24 (.call (.c (.func (.func fn_drive_want) [] [])) [(.t 23), (.c (.int .i64 1))])]
@[simp] noncomputable def r2 (_ : Unit) : List Stp := [S 25 (.load true 3 (.t 2)), S 26 (.build [.nils, .nils, .nils, .nils, .nils, .nils, .nils, .nils, .nils] [(0, 3, (.t 25))]), S 27 (.box (.t 26)), S 5 (.mv (.t 27))]
@[simp] noncomputable def r3 (_ : Unit) : List Stp := [S 28 (.fAddr 1 (.t 2)), S 29 (.load false 1 (.t 28)), S 30 (.len (.t 29)), S 31 (.mv (.c (.int .i64 0)))]
@[simp] noncomputable def r4 (_ : Unit) : List Stp := [S 32 (.bin .lss (.t 31) (.t 30))]
@[simp] noncomputable def r5 (_ : Unit) : List Stp := [S 33 (.mv (.t 31)), S 34 (.ixS 2 (.t 29) (.t 31)), S 35 (.load true 2 (.t 34)), S 7 (.alloc [(.int .i64 0), (.int .i64 0)]), S 6 (.mv (.t 33)), SN (.store 2 (.t 7) (.t 35))]
@[simp] noncomputable def r6 (_ : Unit) : List Stp := [S 37 (.ixA 2 1 (.t 7) (.c (.int .i64 0))), S 36 (.load true 3 (.t 2)), S 38 (.load false 1 (.t 37)), SP 39 (.call (.c (.func (.func fn_drive_isSeam) [] [])) [(.t 36), (.t 38)]), S 40 (.mv (.t 39)), SG 42 40 true (.ixA 2 1 (.t 7) (.c (.int .i64 1))), SG 41 40 true (.load true 3 (.t 2)), SG 43 40 true (.load false 1 (.t 42)), SGP 44 40 true (.call (.c (.func (.func fn_drive_isSeam) [] [])) [(.t 41), (.t 43)]), S 45 (.pick (.t 40) (.t 44) (.c (.bool false))), S 46 (.mv (.t 45)), SG 47 46 true (.ixA 2 1 (.t 7) (.c (.int .i64 0))), SG 49 46 true (.ixA 2 1 (.t 7) (.c (.int .i64 1))), SG 48 46 true (.load false 1 (.t 47)), SG 50 46 true (.load false 1 (.t 49)), SG 51 46 true (.bin .lss (.t 48) (.t 50)), S 52 (.pick (.t 46) (.t 51) (.c (.bool false))), S 53 (.mv (.t 52)), SG 54 53 true (.fAddr 1 (.t 2)), SG 56 53 true (.mv (.t 6)), SG 55 53 true (.load false 1 (.t 54)), SG 57 53 true (.slS 2 (.t 55) none (some (.t 56)) none), SG 58 53 true (.load true 2 (.t 7)), SGP 59 53 true (.call (.c (.func (.func fn_slices_Contains_2_int_2_int) [] [])) [(.t 57), (.t 58)]), SG 60 53 true (.un .not (.t 59)), S 61 (.pick (.t 53) (.t 60) (.c (.bool false))), S 62 (.call (.c (.func (.func fn_drive_want) [] [])) [(.t 61), (.c (.int .i64 1))])]
@[simp] noncomputable def r7 (_ : Unit) : List Stp := [S 63 (.mv (.t 5)), S 64 (.ixA 2 1 (.t 7) (.c (.int .i64 0))), S 66 (.mv (.t 5)), S 67 (.ixA 2 1 (.t 7) (.c (.int .i64 1))), S 69 (.mv (.t 5)), S 70 (.ixA 2 1 (.t 7) (.c (.int .i64 0))), S 72 (.nilck Pg (.t 69)), S 73 (.fAddr 3 (.t 72)), S 76 (.ixA 2 1 (.t 7) (.c (.int .i64 1))), S 80 (.mv (.t 5)), S 81 (.ixA 2 1 (.t 7) (.c (.int .i64 1))), S 83 (.nilck Pg (.t 80)), S 84 (.fAddr 3 (.t 83)), S 87 (.ixA 2 1 (.t 7) (.c (.int .i64 0))), S 91 (.nilck Pg (.t 63)), S 92 (.fAddr 3 (.t 91)), S 94 (.nilck Pg (.t 66)), S 95 (.fAddr 3 (.t 94)), S 65 (.load false 1 (.t 64)), S 68 (.load false 1 (.t 67)), S 71 (.load false 1 (.t 70)), S 74 (.ixA 6 1 (.t 73) (.t 71)), S 75 (.load false 1 (.t 74)), S 77 (.load false 1 (.t 76)), S 82 (.load false 1 (.t 81)), S 85 (.ixA 6 1 (.t 84) (.t 82)), S 86 (.load false 1 (.t 85)), S 88 (.load false 1 (.t 87)), SD (some 78) (.bsl 1 [(.int .i64 0)] [(0, 1, (.t 77))]) true [] [], SD (some 89) (.bsl 1 [(.int .i64 0)] [(0, 1, (.t 88))]) true [] [], SD (some 79) (.app 1 8 (.t 75) (.t 78)) false [] [I 65 (.load false 1 (.t 64)), I 68 (.load false 1 (.t 67)), I 82 (.load false 1 (.t 81)), I 86 (.load false 1 (.t 85)), I 88 (.load false 1 (.t 87))], SD (some 90) (.app 1 8 (.t 86) (.t 89)) false [] [I 65 (.load false 1 (.t 64)), I 68 (.load false 1 (.t 67))], S 93 (.ixA 6 1 (.t 92) (.t 65)), SD none (.store 1 (.t 93) (.t 79)) false [] [I 68 (.load false 1 (.t 67))], S 96 (.ixA 6 1 (.t 95) (.t 68)), SN (.store 1 (.t 96) (.t 90))]
@[simp] noncomputable def r8 (_ : Unit) : List Stp := [S 97 (.bin .add (.t 31) (.c (.int .i64 1))), S 31 (.mv (.t 97))]
@[simp] noncomputable def r9 (_ : Unit) : List Stp := [S 98 (.fAddr 0 (.t 2)), S 99 (.load false 1 (.t 98)), S 100 (.len (.t 99)), S 101 (.mv (.c (.int .i64 0)))]
@[simp] noncomputable def r10 (_ : Unit) : List Stp := [S 102 (.bin .lss (.t 101) (.t 100))]
@[simp] noncomputable def r11 (_ : Unit) : List Stp := [S 103 (.mv (.t 101)), S 104 (.ixS 1 (.t 99) (.t 101)), S 105 (.load false 1 (.t 104)), S 8 (.mv (.t 103)), S 9 (.mv (.t 105))]
@[simp] noncomputable def r12 (_ : Unit) : List Stp := [S 106 (.fAddr 2 (.t 2)), S 107 (.load false 1 (.t 106)), S 108 (.mv (.t 8)), S 109 (.ixS 2 (.t 107) (.t 108)), S 110 (.load true 2 (.t 109)), S 10 (.alloc [(.int .i64 0), (.int .i64 0)]), SN (.store 2 (.t 10) (.t 110))]
@[simp] noncomputable def r13 (_ : Unit) : List Stp := [S 111 (.mv (.t 9)), S 112 (.mv (.t 5)), S 113 (.mv (.t 8)), S 114 (.nilck Pg (.t 112)), S 115 (.fAddr 3 (.t 114)), S 116 (.ixA 6 1 (.t 115) (.t 113)), S 117 (.load false 1 (.t 116)), S 118 (.len (.t 117)), S 119 (.bin .add (.t 118) (.c (.int .i64 1))), SP 120 (.call (.c (.func (.func fn_drive_within) [] [])) [(.t 111), (.t 119), (.c (.int .i64 6))]), S 121 (.mv (.t 120)), SG 122 121 true (.fAddr 0 (.t 10)), SG 123 121 true (.load false 1 (.t 122)), SG 124 121 true (.bin .leq (.c (.int .i64 0)) (.t 123)), S 125 (.pick (.t 121) (.t 124) (.c (.bool false))), S 126 (.mv (.t 125)), SG 127 126 true (.fAddr 0 (.t 10)), SG 128 126 true (.load false 1 (.t 127)), SG 129 126 true (.fAddr 1 (.t 10)), SG 130 126 true (.load false 1 (.t 129)), SG 131 126 true (.bin .leq (.t 128) (.t 130)), S 132 (.pick (.t 126) (.t 131) (.c (.bool false))), S 133 (.mv (.t 132)), SG 134 133 true (.fAddr 1 (.t 10)), SG 135 133 true (.load false 1 (.t 134)), SG 136 133 true (.bin .leq (.t 135) (.c (.int .i64 12))), S 137 (.pick (.t 133) (.t 136) (.c (.bool false))), S 138 (.mv (.t 137)), SG 139 138 true (.fAddr 1 (.t 10)), SG 140 138 true (.load false 1 (.t 139)), SG 141 138 true (.fAddr 0 (.t 10)), SG 142 138 true (.load false 1 (.t 141)), SG 143 138 true (.bin .sub (.t 140) (.t 142)), SG 144 138 true (.bin .leq (.t 143) (.c (.int .i64 2))), S 145 (.pick (.t 138) (.t 144) (.c (.bool false))), S 146 (.call (.c (.func (.func fn_drive_want) [] [])) [(.t 145), (.c (.int .i64 1))])]
@[simp] noncomputable def r14 (_ : Unit) : List Stp := [S 147 (.bin .add (.t 101) (.c (.int .i64 1))), S 101 (.mv (.t 147))]
@[simp] noncomputable def r15 (_ : Unit) : List Stp := [S 148 (.mv (.t 1)), S 149 (.call (.c (.func (.func fn_drive_want) [] [])) [(.t 148), (.c (.int .i64 2))])]
@[simp] noncomputable def r16 (_ : Unit) : List Stp := [S 150 (.mv (.t 5)), S 4 (.mv (.t 150))]
@[simp] noncomputable def ir : IR := (.seq (.ops r0) (.seq (.ops r1) (.seq (.ops r2) (.seq (.seq (.ops r3) (.block 0 (.loop (.seq (.ops r4) (.seq (.cond (.t 32) .skip (.exit 0)) (.seq (.block 1 (.seq (.ops r5) (.seq (.ops r6) (.ops r7)))) (.ops r8))))))) (.seq (.seq (.ops r9) (.block 2 (.loop (.seq (.ops r10) (.seq (.cond (.t 102) .skip (.exit 2)) (.seq (.block 3 (.seq (.ops r11) (.seq (.ops r12) (.ops r13)))) (.ops r14))))))) (.seq (.ops r15) (.seq (.ops r16) .ret)))))))
@[simp] noncomputable def rs : List RV := [.tmp 4]
theorem comp : compF Pg cfg Tryz.f83 = some (ir, rs, 151) := by kernel_rfl
theorem enter {args : List AVal} {h : Heap} {K : AEnd → Heap → Prop} (F : Nat) (hl : args.length ≤ 151) (a : AW ⟨Pg, F, 151, false, []⟩ ir (RetK rs K) (initT args) [] h) : ACalls Pg fn_drive_open args h K :=
  ACalls.of_comp follows Tryz.func83 comp hl a
theorem pure {args : List AVal} {v : AVal} (hl : args.length ≤ 151) (a : AW ⟨Pg, 0, 151, false, []⟩ ir (RetK rs fun e _ => e = .ret v) (initT args) [] nilH) : APure Pg fn_drive_open args v :=
  APure.of_nil (enter 0 hl a)
end drive_open

namespace drive_areBlows
noncomputable def cfg : Cfg := { pure := pures, pcs := [], raw := [], cuts := [], draws := [], keep := [] }
@[simp] noncomputable def r0 (_ : Unit) : List Stp := [S 2 (.box (.t 0)), S 4 (.mv (.c (.bool false)))]
@[simp] noncomputable def r1 (_ : Unit) : List Stp := [S 5 (.mv (.c (.func (.func fn_drive_areBlows_1) [] [])))]
@[simp] noncomputable def r2 (_ : Unit) : List Stp := [S 6 (.mv (.t 1)), S 7 (.len (.t 6)), S 8 (.fAddr 0 (.t 2)), S 9 (.load false 1 (.t 8)), S 10 (.len (.t 9)), S 11 (.bin .eql (.t 7) (.t 10)), S 12 (.mv (.t 11)), SG 13 12 true (.mv (.t 1)), SG 14 12 true (.mv (.t 5)), SGP 15 12 true (.call (.c (.func (.func fn_slices_ContainsFunc_int_int) [] [])) [(.t 13), (.t 14)]), SG 16 12 true (.un .not (.t 15)), S 17 (.pick (.t 12) (.t 16) (.c (.bool false))), S 4 (.mv (.t 17))]
@[simp] noncomputable def ir : IR := (.seq (.ops r0) (.seq (.ops r1) (.seq (.ops r2) .ret)))
@[simp] noncomputable def rs : List RV := [.tmp 4]
theorem comp : compF Pg cfg Tryz.f84 = some (ir, rs, 18) := by kernel_rfl
theorem enter {args : List AVal} {h : Heap} {K : AEnd → Heap → Prop} (F : Nat) (hl : args.length ≤ 18) (a : AW ⟨Pg, F, 18, false, []⟩ ir (RetK rs K) (initT args) [] h) : ACalls Pg fn_drive_areBlows args h K :=
  ACalls.of_comp follows Tryz.func84 comp hl a
theorem pure {args : List AVal} {v : AVal} (hl : args.length ≤ 18) (a : AW ⟨Pg, 0, 18, false, []⟩ ir (RetK rs fun e _ => e = .ret v) (initT args) [] nilH) : APure Pg fn_drive_areBlows args v :=
  APure.of_nil (enter 0 hl a)
end drive_areBlows

namespace drive_hull_settler
noncomputable def cfg : Cfg := { pure := pures, pcs := [], raw := [], cuts := [], draws := [], keep := [] }
@[simp] noncomputable def r0 (_ : Unit) : List Stp := [S 2 (.alloc [.nilp, .nilm])]
@[simp] noncomputable def r1 (_ : Unit) : List Stp := [S 3 (.mv (.t 0)), S 4 (.mkmap), S 5 (.build [.nilp, .nilm] [(0, 1, (.t 3)), (1, 1, (.t 4))]), SN (.store 2 (.t 2) (.t 5))]
@[simp] noncomputable def ir : IR := (.seq (.ops r0) (.seq (.ops r1) .ret))
@[simp] noncomputable def rs : List RV := [.cell 2 true 2]
theorem comp : compF Pg cfg Tryz.f85 = some (ir, rs, 6) := by kernel_rfl
theorem enter {args : List AVal} {h : Heap} {K : AEnd → Heap → Prop} (F : Nat) (hl : args.length ≤ 6) (a : AW ⟨Pg, F, 6, false, []⟩ ir (RetK rs K) (initT args) [] h) : ACalls Pg fn_drive_hull_settler args h K :=
  ACalls.of_comp follows Tryz.func85 comp hl a
theorem pure {args : List AVal} {v : AVal} (hl : args.length ≤ 6) (a : AW ⟨Pg, 0, 6, false, []⟩ ir (RetK rs fun e _ => e = .ret v) (initT args) [] nilH) : APure Pg fn_drive_hull_settler args v :=
  APure.of_nil (enter 0 hl a)
end drive_hull_settler

namespace drive_settler_rest
noncomputable def cfg : Cfg := { pure := pures, pcs := [], raw := [], cuts := [], draws := [(11, [⟨0, false, [], []⟩, ⟨1, false, [], []⟩, ⟨2, false, [], []⟩, ⟨4, false, [], []⟩, ⟨10, false, [], []⟩, ⟨3, false, [], []⟩, ⟨5, false, [], []⟩, ⟨6, false, [], []⟩, ⟨7, false, [], []⟩, ⟨8, false, [], []⟩, ⟨9, false, [], []⟩, ⟨11, false, [], []⟩, ⟨12, false, [], []⟩, ⟨13, false, [], []⟩, ⟨14, false, [], []⟩]), (13, [⟨0, false, [], []⟩, ⟨2, false, [], []⟩, ⟨4, false, [], []⟩, ⟨5, false, [], []⟩, ⟨7, false, [], []⟩, ⟨9, false, [], []⟩, ⟨10, false, [], []⟩, ⟨1, false, [], []⟩, ⟨3, false, [], []⟩, ⟨6, false, [], []⟩, ⟨8, false, [], []⟩, ⟨11, false, [], []⟩, ⟨12, false, [], []⟩, ⟨13, false, [], []⟩, ⟨14, false, [], []⟩, ⟨15, false, [], []⟩, ⟨16, false, [], []⟩])], keep := [] }
@[simp] noncomputable def r0 (_ : Unit) : List Stp := [S 2 (.box (.t 0)), S 3 (.box (.t 1)), S 4 (.alloc [(.int .i64 0), (.int .i64 0), (.int .i64 0), (.int .i64 0), (.int .i64 0), (.int .i64 0), (.int .i64 0), (.int .i64 0), (.int .i64 0), (.int .i64 0), (.int .i64 0), (.int .i64 0)])]
@[simp] noncomputable def r1 (_ : Unit) : List Stp := [S 12 (.fAddr 1 (.t 2)), S 13 (.load false 1 (.t 12)), S 14 (.load true 6 (.t 3)), S 15 (.build [(.int .i64 0), (.int .i64 0), (.int .i64 0), (.int .i64 0), (.int .i64 0), (.int .i64 0)] [(0, 6, (.t 14))]), S 16 (.lookup (true, [.i, .i, .i, .i, .i, .i]) true (.agg [(.int .i64 0), (.int .i64 0), (.int .i64 0), (.int .i64 0), (.int .i64 0), (.int .i64 0), (.int .i64 0), (.int .i64 0), (.int .i64 0), (.int .i64 0), (.int .i64 0), (.int .i64 0)]) (.t 13) (.t 15)), S 11 (.mv (.t 16)), S 17 (.ext (.t 11) 0), S 18 (.ext (.t 11) 1), S 5 (.alloc [(.int .i64 0), (.int .i64 0), (.int .i64 0), (.int .i64 0), (.int .i64 0), (.int .i64 0), (.int .i64 0), (.int .i64 0), (.int .i64 0), (.int .i64 0), (.int .i64 0), (.int .i64 0)]), SN (.store 12 (.t 5) (.t 17)), S 6 (.mv (.t 18))]
@[simp] noncomputable def r2 (_ : Unit) : List Stp := [S 19 (.mv (.t 6))]
@[simp] noncomputable def r3 (_ : Unit) : List Stp := [S 20 (.load true 12 (.t 5)), SN (.store 12 (.t 4) (.t 20))]
@[simp] noncomputable def r4 (_ : Unit) : List Stp := [S 21 (.load true 6 (.t 3)), S 22 (.build [(.int .i64 0), (.int .i64 0), (.int .i64 0), (.int .i64 0), (.int .i64 0), (.int .i64 0), (.int .i64 0), (.int .i64 0), (.int .i64 0), (.int .i64 0), (.int .i64 0), (.int .i64 0)] [(0, 6, (.t 21))]), S 7 (.alloc [(.int .i64 0), (.int .i64 0), (.int .i64 0), (.int .i64 0), (.int .i64 0), (.int .i64 0), (.int .i64 0), (.int .i64 0), (.int .i64 0), (.int .i64 0), (.int .i64 0), (.int .i64 0)]), SN (.store 12 (.t 7) (.t 22))]
@[simp] noncomputable def r5 (_ : Unit) : List Stp := [S 8 (.mv (.c (.bool true)))]
@[simp] noncomputable def r6 (_ : Unit) : List Stp := [S 23 (.mv (.t 8))]
@[simp] noncomputable def r7 (_ : Unit) : List Stp := [S 8 (.mv (.c (.bool false)))]
@[simp] noncomputable def r8 (_ : Unit) : List Stp := [S 24 (.fAddr 0 (.t 2)), S 25 (.load false 1 (.t 24)), SP 26 (.call (.c (.func (.func fn_drive_hull_seams) [] [])) [(.t 25)]), S 27 (.mv (.c (.int .i64 0)))]
@[simp] noncomputable def r9 (_ : Unit) : List Stp := [S 28 (.bin .lss (.t 27) (.t 26))]
@[simp] noncomputable def r10 (_ : Unit) : List Stp := [S 29 (.mv (.t 27)), S 9 (.mv (.t 29))]
@[simp] noncomputable def r11 (_ : Unit) : List Stp := [S 30 (.mv (.t 9)), S 31 (.fAddr 0 (.t 7)), S 32 (.ixA 6 1 (.t 31) (.t 30)), S 34 (.fAddr 0 (.t 2)), S 40 (.mv (.t 9)), S 33 (.load false 1 (.t 32)), S 35 (.load false 1 (.t 34)), S 36 (.nilck Pg (.t 35)), S 37 (.fAddr 0 (.t 36)), S 38 (.fAddr 0 (.t 37)), S 39 (.load false 1 (.t 38)), S 41 (.ixS 1 (.t 39) (.t 40)), S 42 (.load false 1 (.t 41)), S 43 (.bin .quo (.t 33) (.t 42)), S 10 (.mv (.t 43))]
@[simp] noncomputable def r12 (_ : Unit) : List Stp := [S 44 (.mv (.t 10)), S 45 (.bin .gtr (.t 44) (.c (.int .i64 0)))]
@[simp] noncomputable def r13 (_ : Unit) : List Stp := [S 46 (.fAddr 0 (.t 2)), S 48 (.fAddr 0 (.t 7)), S 50 (.mv (.t 9)), S 51 (.mv (.t 10)), S 53 (.fAddr 6 (.t 7)), S 55 (.mv (.t 9)), S 56 (.mv (.t 10)), S 47 (.load false 1 (.t 46)), S 49 (.load true 6 (.t 48)), SP 52 (.call (.c (.func (.func fn_drive_hull_opened) [] [])) [(.t 47), (.t 49), (.t 50), (.t 51)]), S 54 (.load true 6 (.t 53)), SP 57 (.call (.c (.func (.func fn_drive_blows_with) [] [])) [(.t 54), (.t 55), (.t 56)]), S 58 (.fAddr 0 (.t 7)), SN (.store 6 (.t 58) (.t 52)), S 59 (.fAddr 6 (.t 7)), SN (.store 6 (.t 59) (.t 57)), S 8 (.mv (.c (.bool true)))]
@[simp] noncomputable def r14 (_ : Unit) : List Stp := [S 60 (.bin .add (.t 27) (.c (.int .i64 1))), S 27 (.mv (.t 60))]
@[simp] noncomputable def r15 (_ : Unit) : List Stp := [S 61 (.fAddr 1 (.t 2)), S 62 (.load false 1 (.t 61)), S 63 (.load true 6 (.t 3)), S 64 (.build [(.int .i64 0), (.int .i64 0), (.int .i64 0), (.int .i64 0), (.int .i64 0), (.int .i64 0)] [(0, 6, (.t 63))]), S 65 (.load true 12 (.t 7)), SN (.mapU (true, [.i, .i, .i, .i, .i, .i]) (.t 62) (.t 64) (.t 65))]
@[simp] noncomputable def r16 (_ : Unit) : List Stp := [S 66 (.load true 12 (.t 7)), SN (.store 12 (.t 4) (.t 66))]
@[simp] noncomputable def ir : IR := (.seq (.ops r0) (.seq (.seq (.ops r1) (.seq (.ops r2) (.cond (.t 19) (.seq (.ops r3) .ret) .skip))) (.seq (.ops r4) (.seq (.seq (.ops r5) (.block 0 (.loop (.seq (.seq (.ops r6) (.cond (.t 23) .skip (.exit 0))) (.block 1 (.seq (.ops r7) (.seq (.ops r8) (.block 2 (.loop (.seq (.ops r9) (.seq (.cond (.t 28) .skip (.exit 2)) (.seq (.block 3 (.seq (.ops r10) (.seq (.ops r11) (.seq (.ops r12) (.cond (.t 45) (.ops r13) .skip))))) (.ops r14))))))))))))) (.seq (.ops r15) (.seq (.ops r16) .ret))))))
@[simp] noncomputable def rs : List RV := [.cell 4 true 12]
theorem comp : compF Pg cfg Tryz.f86 = some (ir, rs, 67) := by kernel_rfl
theorem enter {args : List AVal} {h : Heap} {K : AEnd → Heap → Prop} (F : Nat) (hl : args.length ≤ 67) (a : AW ⟨Pg, F, 67, false, []⟩ ir (RetK rs K) (initT args) [] h) : ACalls Pg fn_drive_settler_rest args h K :=
  ACalls.of_comp follows Tryz.func86 comp hl a
theorem pure {args : List AVal} {v : AVal} (hl : args.length ≤ 67) (a : AW ⟨Pg, 0, 67, false, []⟩ ir (RetK rs fun e _ => e = .ret v) (initT args) [] nilH) : APure Pg fn_drive_settler_rest args v :=
  APure.of_nil (enter 0 hl a)
end drive_settler_rest

namespace drive_blowsOf
noncomputable def cfg : Cfg := { pure := pures, pcs := [], raw := [], cuts := [], draws := [], keep := [] }
@[simp] noncomputable def r0 (_ : Unit) : List Stp := [S 2 (.alloc [(.int .i64 0), (.int .i64 0), (.int .i64 0), (.int .i64 0), (.int .i64 0), (.int .i64 0)])]
@[simp] noncomputable def r1 (_ : Unit) : List Stp := [S 3 (.slA 6 1 (.t 2) none none none), S 4 (.mv (.t 0)), S 5 (.copy 1 (.t 3) (.t 4))]
@[simp] noncomputable def r2 (_ : Unit) : List Stp := [S 6 (.load true 6 (.t 2)), SN (.store 6 (.t 2) (.t 6))]
@[simp] noncomputable def ir : IR := (.seq (.ops r0) (.seq (.ops r1) (.seq (.ops r2) .ret)))
@[simp] noncomputable def rs : List RV := [.cell 2 true 6]
theorem comp : compF Pg cfg Tryz.f87 = some (ir, rs, 7) := by kernel_rfl
theorem enter {args : List AVal} {h : Heap} {K : AEnd → Heap → Prop} (F : Nat) (hl : args.length ≤ 7) (a : AW ⟨Pg, F, 7, false, []⟩ ir (RetK rs K) (initT args) [] h) : ACalls Pg fn_drive_blowsOf args h K :=
  ACalls.of_comp follows Tryz.func87 comp hl a
theorem pure {args : List AVal} {v : AVal} (hl : args.length ≤ 7) (a : AW ⟨Pg, 0, 7, false, []⟩ ir (RetK rs fun e _ => e = .ret v) (initT args) [] nilH) : APure Pg fn_drive_blowsOf args v :=
  APure.of_nil (enter 0 hl a)
end drive_blowsOf

namespace slices_Clone_int_int
noncomputable def cfg : Cfg := { pure := pures, pcs := [], raw := [], cuts := [], draws := [], keep := [] }
@[simp] noncomputable def r0 (_ : Unit) : List Stp := [S 2 (.mv (.c .nils))]
@[simp] noncomputable def r1 (_ : Unit) : List Stp := [S 3 (.mv (.t 0)), S 4 (.eqN .s false (.t 3))]
@[simp] noncomputable def r2 (_ : Unit) : List Stp := [S 2 (.mv (.c .nils))]
@[simp] noncomputable def r3 (_ : Unit) : List Stp := [S 5 (.bsl 0 [] []), S 6 (.mv (.t 0)), S 7 (.app 1 8 (.t 5) (.t 6)), S 2 (.mv (.t 7))]
@[simp] noncomputable def ir : IR := (.seq (.ops r0) (.seq (.seq (.ops r1) (.cond (.t 4) (.seq (.ops r2) .ret) .skip)) (.seq (.ops r3) .ret)))
@[simp] noncomputable def rs : List RV := [.tmp 2]
theorem comp : compF Pg cfg Tryz.f88 = some (ir, rs, 8) := by kernel_rfl
theorem enter {args : List AVal} {h : Heap} {K : AEnd → Heap → Prop} (F : Nat) (hl : args.length ≤ 8) (a : AW ⟨Pg, F, 8, false, []⟩ ir (RetK rs K) (initT args) [] h) : ACalls Pg fn_slices_Clone_int_int args h K :=
  ACalls.of_comp follows Tryz.func88 comp hl a
theorem pure {args : List AVal} {v : AVal} (hl : args.length ≤ 8) (a : AW ⟨Pg, 0, 8, false, []⟩ ir (RetK rs fun e _ => e = .ret v) (initT args) [] nilH) : APure Pg fn_slices_Clone_int_int args v :=
  APure.of_nil (enter 0 hl a)
end slices_Clone_int_int

namespace drive_hull_seams
noncomputable def cfg : Cfg := { pure := pures, pcs := [], raw := [], cuts := [], draws := [], keep := [] }
@[simp] noncomputable def r0 (_ : Unit) : List Stp := [S 2 (.mv (.c (.int .i64 0)))]
@[simp] noncomputable def r1 (_ : Unit) : List Stp := [S 3 (.mv (.t 0)), S 4 (.nilck Pg (.t 3)), S 5 (.fAddr 0 (.t 4)), S 6 (.fAddr 0 (.t 5)), S 7 (.load false 1 (.t 6)), S 8 (.len (.t 7)), S 2 (.mv (.t 8))]
@[simp] noncomputable def ir : IR := (.seq (.ops r0) (.seq (.ops r1) .ret))
@[simp] noncomputable def rs : List RV := [.tmp 2]
theorem comp : compF Pg cfg Tryz.f89 = some (ir, rs, 9) := by kernel_rfl
theorem enter {args : List AVal} {h : Heap} {K : AEnd → Heap → Prop} (F : Nat) (hl : args.length ≤ 9) (a : AW ⟨Pg, F, 9, false, []⟩ ir (RetK rs K) (initT args) [] h) : ACalls Pg fn_drive_hull_seams args h K :=
  ACalls.of_comp follows Tryz.func89 comp hl a
theorem pure {args : List AVal} {v : AVal} (hl : args.length ≤ 9) (a : AW ⟨Pg, 0, 9, false, []⟩ ir (RetK rs fun e _ => e = .ret v) (initT args) [] nilH) : APure Pg fn_drive_hull_seams args v :=
  APure.of_nil (enter 0 hl a)
end drive_hull_seams

namespace drive_Opens_1
noncomputable def cfg : Cfg := { pure := pures, pcs := [], raw := [], cuts := [], draws := [], keep := [] }
@[simp] noncomputable def r0 (_ : Unit) : List Stp := [S 1 (.recov), S 2 (.call (.c (.func (.func fn_drive_said) [] [])) [(.t 1), (.t 0)])]
@[simp] noncomputable def ir : IR := (.ops r0)
@[simp] noncomputable def rs : List RV := []
theorem comp : compF Pg cfg Tryz.f90 = some (ir, rs, 3) := by kernel_rfl
theorem enter {args : List AVal} {h : Heap} {K : AEnd → Heap → Prop} (F : Nat) (hl : args.length ≤ 3) (a : AW ⟨Pg, F, 3, false, []⟩ ir (RetK rs K) (initT args) [] h) : ACalls Pg fn_drive_Opens_1 args h K :=
  ACalls.of_comp follows Tryz.func90 comp hl a
theorem pure {args : List AVal} {v : AVal} (hl : args.length ≤ 3) (a : AW ⟨Pg, 0, 3, false, []⟩ ir (RetK rs fun e _ => e = .ret v) (initT args) [] nilH) : APure Pg fn_drive_Opens_1 args v :=
  APure.of_nil (enter 0 hl a)
theorem recClo : RecClo Pg fn_drive_Opens_1 fn_drive_said := ⟨_, Tryz.func90, by kernel_rfl⟩
end drive_Opens_1

namespace drive_hull_times
noncomputable def cfg : Cfg := { pure := pures, pcs := [], raw := [], cuts := [], draws := [(2, [⟨1, false, [], []⟩, ⟨2, false, [], []⟩, ⟨6, false, [], []⟩, ⟨0, false, [], []⟩, ⟨5, false, [], []⟩, ⟨3, false, [], [5]⟩, ⟨4, false, [], []⟩, ⟨7, false, [], []⟩, ⟨8, false, [], []⟩, ⟨9, false, [], []⟩, ⟨10, false, [], []⟩, ⟨11, false, [], []⟩])], keep := [] }
@[simp] noncomputable def r0 (_ : Unit) : List Stp := [S 2 (.alloc [(.int .i64 0), (.int .i64 0), (.int .i64 0), (.int .i64 0), (.int .i64 0), (.int .i64 0)]), S 3 (.alloc [(.int .i64 0), (.int .i64 0), (.int .i64 0), (.int .i64 0), (.int .i64 0), (.int .i64 0)])]
@[simp] noncomputable def r1 (_ : Unit) : List Stp := [S 5 (.mv (.t 0)), S 6 (.call (.c (.func (.func fn_drive_hull_settler) [] [])) [(.t 5)]), S 4 (.alloc [.nilp, .nilm]), SN (.store 2 (.t 4) (.t 6))]
@[simp] noncomputable def r2 (_ : Unit) : List Stp := [S 8 (.mv (.t 0)), SP 9 (.call (.c (.func (.func fn_drive_hull_ends) [] [])) [(.t 8), (.c (.bool false))]), S 13 (.mv (.t 0)), S 7 (.load true 2 (.t 4)), S 12 (.load true 2 (.t 4)), SD (some 10) (.call (.c (.func (.func fn_drive_settler_rest) [] [])) [(.t 7), (.t 9)]) false [] [I 12 (.load true 2 (.t 4))], S 11 (.fld true 6 6 (.t 10)), SP 14 (.call (.c (.func (.func fn_drive_hull_ends) [] [])) [(.t 13), (.c (.bool true))]), S 15 (.call (.c (.func (.func fn_drive_settler_rest) [] [])) [(.t 12), (.t 14)]), S 16 (.fld true 6 6 (.t 15)), SN (.store 6 (.t 2) (.t 11)), SN (.store 6 (.t 3) (.t 16))]
@[simp] noncomputable def ir : IR := (.seq (.ops r0) (.seq (.ops r1) (.seq (.ops r2) .ret)))
@[simp] noncomputable def rs : List RV := [.cell 2 true 6, .cell 3 true 6]
theorem comp : compF Pg cfg Tryz.f91 = some (ir, rs, 17) := by kernel_rfl
theorem enter {args : List AVal} {h : Heap} {K : AEnd → Heap → Prop} (F : Nat) (hl : args.length ≤ 17) (a : AW ⟨Pg, F, 17, false, []⟩ ir (RetK rs K) (initT args) [] h) : ACalls Pg fn_drive_hull_times args h K :=
  ACalls.of_comp follows Tryz.func91 comp hl a
theorem pure {args : List AVal} {v : AVal} (hl : args.length ≤ 17) (a : AW ⟨Pg, 0, 17, false, []⟩ ir (RetK rs fun e _ => e = .ret v) (initT args) [] nilH) : APure Pg fn_drive_hull_times args v :=
  APure.of_nil (enter 0 hl a)
end drive_hull_times

namespace drive_rest_open
noncomputable def cfg : Cfg := { pure := pures, pcs := [], raw := [], cuts := [], draws := [], keep := [] }
@[simp] noncomputable def r0 (_ : Unit) : List Stp := [S 1 (.box (.t 0)), S 2 (.mv (.c (.int .i64 0)))]
@[simp] noncomputable def r1 (_ : Unit) : List Stp := [S 5 (.fAddr 6 (.t 1)), S 6 (.load true 6 (.t 5)), S 7 (.mv (.c (.int .i64 0)))]
@[simp] noncomputable def r2 (_ : Unit) : List Stp := [S 8 (.bin .lss (.t 7) (.c (.int .i64 6)))]
@[simp] noncomputable def r3 (_ : Unit) : List Stp := [S 9 (.mv (.t 7)), S 10 (.ixV 6 1 false (.t 6) (.t 7)), S 3 (.mv (.t 9)), S 4 (.mv (.t 10))]
@[simp] noncomputable def r4 (_ : Unit) : List Stp := [S 11 (.mv (.t 4)), S 12 (.bin .gtr (.t 11) (.c (.int .i64 0)))]
@[simp] noncomputable def r5 (_ : Unit) : List Stp := [S 13 (.mv (.t 2)), S 14 (.mv (.t 3)), S 15 (.bsl 1 [(.int .i64 0)] [(0, 1, (.t 14))]), S 16 (.call (.c (.func (.func fn_drive_setOf) [] [])) [(.t 15)]), S 17 (.bin .or (.t 13) (.t 16)), S 2 (.mv (.t 17))]
@[simp] noncomputable def r6 (_ : Unit) : List Stp := [S 18 (.bin .add (.t 7) (.c (.int .i64 1))), S 7 (.mv (.t 18))]
@[simp] noncomputable def r7 (_ : Unit) : List Stp := [S 19 (.mv (.t 2)), S 2 (.mv (.t 19))]
@[simp] noncomputable def ir : IR := (.seq (.ops r0) (.seq (.seq (.ops r1) (.block 0 (.loop (.seq (.ops r2) (.seq (.cond (.t 8) .skip (.exit 0)) (.seq (.block 1 (.seq (.ops r3) (.seq (.ops r4) (.cond (.t 12) (.ops r5) .skip)))) (.ops r6))))))) (.seq (.ops r7) .ret)))
@[simp] noncomputable def rs : List RV := [.tmp 2]
theorem comp : compF Pg cfg Tryz.f92 = some (ir, rs, 20) := by kernel_rfl
theorem enter {args : List AVal} {h : Heap} {K : AEnd → Heap → Prop} (F : Nat) (hl : args.length ≤ 20) (a : AW ⟨Pg, F, 20, false, []⟩ ir (RetK rs K) (initT args) [] h) : ACalls Pg fn_drive_rest_open args h K :=
  ACalls.of_comp follows Tryz.func92 comp hl a
theorem pure {args : List AVal} {v : AVal} (hl : args.length ≤ 20) (a : AW ⟨Pg, 0, 20, false, []⟩ ir (RetK rs fun e _ => e = .ret v) (initT args) [] nilH) : APure Pg fn_drive_rest_open args v :=
  APure.of_nil (enter 0 hl a)
end drive_rest_open

namespace law13_span
noncomputable def cfg : Cfg := { pure := pures, pcs := [], raw := [], cuts := [], draws := [], keep := [] }
@[simp] noncomputable def r0 (_ : Unit) : List Stp := [S 4 (.alloc [(.int .i64 0), (.int .i64 0)])]
@[simp] noncomputable def r1 (_ : Unit) : List Stp := [S 5 (.mv (.t 0)), S 6 (.mv (.t 1)), S 7 (.build [(.int .i64 0), (.int .i64 0)] [(0, 1, (.t 5)), (1, 1, (.t 6))]), SN (.store 2 (.t 4) (.t 7))]
@[simp] noncomputable def ir : IR := (.seq (.ops r0) (.seq (.ops r1) .ret))
@[simp] noncomputable def rs : List RV := [.cell 4 true 2]
theorem comp : compF Pg cfg Tryz.f93 = some (ir, rs, 8) := by kernel_rfl
theorem enter {args : List AVal} {h : Heap} {K : AEnd → Heap → Prop} (F : Nat) (hl : args.length ≤ 8) (a : AW ⟨Pg, F, 8, false, []⟩ ir (RetK rs K) (initT args) [] h) : ACalls Pg fn_law13_span args h K :=
  ACalls.of_comp follows Tryz.func93 comp hl a
theorem pure {args : List AVal} {v : AVal} (hl : args.length ≤ 8) (a : AW ⟨Pg, 0, 8, false, []⟩ ir (RetK rs fun e _ => e = .ret v) (initT args) [] nilH) : APure Pg fn_law13_span args v :=
  APure.of_nil (enter 0 hl a)
end law13_span

namespace drive_Times
noncomputable def cfg : Cfg := { pure := pures, pcs := [], raw := [], cuts := [], draws := [(2, [⟨2, false, [], []⟩, ⟨0, false, [], []⟩, ⟨1, false, [], []⟩, ⟨3, false, [], []⟩, ⟨4, false, [9, 10], []⟩, ⟨5, false, [], []⟩, ⟨6, false, [], []⟩, ⟨7, false, [], []⟩, ⟨8, false, [], []⟩, ⟨9, true, [], []⟩, ⟨10, true, [], []⟩, ⟨11, false, [], []⟩, ⟨12, false, [], []⟩]), (3, [⟨0, false, [], []⟩, ⟨1, false, [], []⟩, ⟨3, false, [], []⟩, ⟨4, false, [], []⟩, ⟨2, false, [], []⟩, ⟨5, false, [], []⟩, ⟨6, false, [], [2, 5]⟩, ⟨7, false, [], []⟩, ⟨8, false, [], [5]⟩, ⟨9, false, [], []⟩, ⟨10, false, [], []⟩, ⟨11, false, [], []⟩])], keep := [4, 5] }
@[simp] noncomputable def r0 (_ : Unit) : List Stp := [S 2 (.box (.t 0)), S 4 (.alloc [(.int .i64 0), (.int .i64 0)]), S 5 (.alloc [(.int .i64 0)])]
@[simp] noncomputable def r1 (_ : Unit) : List Stp := [S 8 (.mkF (.func fn_drive_Times_1) [] [(.t 5)]), SN (.defer (.t 8) [])]
@[simp] noncomputable def r2 (_ : Unit) : List Stp := [S 12 (.mv (.t 1)), S 10 (.load true 3 (.t 2)), S 11 (.load true 3 (.t 2)), SP 13 (.call (.c (.func (.func fn_drive_isSeam) [] [])) [(.t 11), (.t 12)]), SD (some 14) (.call (.c (.func (.func fn_drive_open) [] [])) [(.t 10), (.t 13)]) false [I 6 (.alloc [(.int .i64 0), (.int .i64 0), (.int .i64 0), (.int .i64 0), (.int .i64 0), (.int .i64 0)]), I 7 (.alloc [(.int .i64 0), (.int .i64 0), (.int .i64 0), (.int .i64 0), (.int .i64 0), (.int .i64 0)])] [], SP 15 (.call (.c (.func (.func fn_drive_hull_times) [] [])) [(.t 14)]), S 9 (.mv (.t 15)), S 16 (.ext (.t 9) 0), S 17 (.ext (.t 9) 1), SD (some 6) (.alloc [(.int .i64 0), (.int .i64 0), (.int .i64 0), (.int .i64 0), (.int .i64 0), (.int .i64 0)]) true [] [], SD (some 7) (.alloc [(.int .i64 0), (.int .i64 0), (.int .i64 0), (.int .i64 0), (.int .i64 0), (.int .i64 0)]) true [] [], SN (.store 6 (.t 6) (.t 16)), SN (.store 6 (.t 7) (.t 17))]
@[simp] noncomputable def r3 (_ : Unit) : List Stp := [S 18 (.mv (.t 1)), S 19 (.ixA 6 1 (.t 6) (.t 18)), S 21 (.mv (.t 1)), S 22 (.ixA 6 1 (.t 7) (.t 21)), S 20 (.load false 1 (.t 19)), S 23 (.load false 1 (.t 22)), SD none (.store 2 (.t 4) (.c (.agg [(.int .i64 0), (.int .i64 0)]))) false [] [I 20 (.load false 1 (.t 19)), I 23 (.load false 1 (.t 22))], S 24 (.fAddr 0 (.t 4)), SD none (.store 1 (.t 24) (.t 20)) false [] [I 23 (.load false 1 (.t 22))], S 25 (.fAddr 1 (.t 4)), SN (.store 1 (.t 25) (.t 23)), SN (.store 1 (.t 5) (.c (.int .i64 0)))]
@[simp] noncomputable def ir : IR := (.seq (.ops r0) (.seq (.ops r1) (.seq (.ops r2) (.seq (.ops r3) .ret))))
@[simp] noncomputable def rs : List RV := [.cell 4 true 2, .cell 5 false 1]
theorem comp : compF Pg cfg Tryz.f94 = some (ir, rs, 26) := by kernel_rfl
theorem enter {args : List AVal} {h : Heap} {K : AEnd → Heap → Prop} (F : Nat) (hl : args.length ≤ 26) (a : AW ⟨Pg, F, 26, false, [4, 5]⟩ ir (RetD Pg rs K) (initT args) [] h) : ACalls Pg fn_drive_Times args h K :=
  ACalls.of_comp_defer follows Tryz.func94 comp hl a
theorem pure {args : List AVal} {v : AVal} (hl : args.length ≤ 26) (a : AW ⟨Pg, 0, 26, false, [4, 5]⟩ ir (RetD Pg rs fun e _ => e = .ret v) (initT args) [] nilH) : APure Pg fn_drive_Times args v :=
  APure.of_nil (enter 0 hl a)
end drive_Times

namespace ref05_Truths
noncomputable def cfg : Cfg := { pure := pures, pcs := [], raw := [], cuts := [], draws := [], keep := [] }
@[simp] noncomputable def r0 (_ : Unit) : List Stp := [S 1 (.box (.t 0)), S 2 (.mv (.c .nils))]
@[simp] noncomputable def r1 (_ : Unit) : List Stp := [S 3 (.load true 3 (.t 1)), S 4 (.call (.c (.func (.func fn_ref05_truths) [] [])) [(.t 3), (.c .nils), (.c .nils)]), S 2 (.mv (.t 4))]
@[simp] noncomputable def ir : IR := (.seq (.ops r0) (.seq (.ops r1) .ret))
@[simp] noncomputable def rs : List RV := [.tmp 2]
theorem comp : compF Pg cfg Tryz.f95 = some (ir, rs, 5) := by kernel_rfl
theorem enter {args : List AVal} {h : Heap} {K : AEnd → Heap → Prop} (F : Nat) (hl : args.length ≤ 5) (a : AW ⟨Pg, F, 5, false, []⟩ ir (RetK rs K) (initT args) [] h) : ACalls Pg fn_ref05_Truths args h K :=
  ACalls.of_comp follows Tryz.func95 comp hl a
theorem pure {args : List AVal} {v : AVal} (hl : args.length ≤ 5) (a : AW ⟨Pg, 0, 5, false, []⟩ ir (RetK rs fun e _ => e = .ret v) (initT args) [] nilH) : APure Pg fn_ref05_Truths args v :=
  APure.of_nil (enter 0 hl a)
end ref05_Truths

namespace ref05_Rest
noncomputable def cfg : Cfg := { pure := pures, pcs := [], raw := [], cuts := [], draws := [(1, [⟨1, false, [], []⟩, ⟨0, false, [], []⟩, ⟨2, false, [], []⟩, ⟨3, false, [], []⟩, ⟨4, false, [], []⟩, ⟨5, false, [], []⟩, ⟨6, false, [], []⟩, ⟨7, false, [], []⟩, ⟨8, false, [], []⟩, ⟨9, false, [], []⟩])], keep := [] }
@[simp] noncomputable def r0 (_ : Unit) : List Stp := [S 2 (.box (.t 0)), S 4 (.mv (.c .nils)), S 5 (.mv (.c .nils))]
@[simp] noncomputable def r1 (_ : Unit) : List Stp := [S 12 (.mv (.t 1)), S 11 (.load true 3 (.t 2)), S 13 (.load true 3 (.t 2)), SP 14 (.call (.c (.func (.func fn_ref05_rising) [] [])) [(.t 13)]), SP 15 (.call (.c (.func (.func fn_ref05_run) [] [])) [(.t 11), (.t 12), (.t 14)]), S 10 (.mv (.t 15)), S 16 (.ext (.t 10) 0), S 17 (.ext (.t 10) 1), S 6 (.mv (.t 16)), S 7 (.mv (.t 17))]
@[simp] noncomputable def r2 (_ : Unit) : List Stp := [S 18 (.mv (.t 1)), S 19 (.len (.t 18)), S 20 (.mksl 8 [(.int .i64 0)] (.t 19) (.t 19)), S 8 (.mv (.t 20))]
@[simp] noncomputable def r3 (_ : Unit) : List Stp := [S 9 (.mv (.c (.int .i64 0)))]
@[simp] noncomputable def r4 (_ : Unit) : List Stp := [S 21 (.mv (.t 9)), S 22 (.mv (.t 6)), S 23 (.len (.t 22)), S 24 (.bin .lss (.t 21) (.t 23))]
@[simp] noncomputable def r6 (_ : Unit) : List Stp := [S 27 (.mv (.t 8)), S 28 (.mv (.t 6)), S 29 (.mv (.t 9)), S 30 (.ixS 1 (.t 28) (.t 29)), S 31 (.load false 1 (.t 30)), S 32 (.ixS 1 (.t 27) (.t 31)), S 33 (.load false 1 (.t 32)), S 34 (.bin .add (.t 33) (.c (.int .i64 1))), S 35 (.ixS 1 (.t 27) (.t 31)), SN (.store 1 (.t 35) (.t 34))]
@[simp] noncomputable def r5 (_ : Unit) : List Stp := [S 25 (.mv (.t 9)), S 26 (.bin .add (.t 25) (.c (.int .i64 1))), S 9 (.mv (.t 26))]
@[simp] noncomputable def r7 (_ : Unit) : List Stp := [S 36 (.bsl 0 [] []), S 37 (.mv (.t 7)), S 38 (.app 1 8 (.t 36) (.t 37)), S 39 (.mv (.t 8)), S 4 (.mv (.t 38)), S 5 (.mv (.t 39))]
@[simp] noncomputable def ir : IR := (.seq (.ops r0) (.seq (.ops r1) (.seq (.ops r2) (.seq (.seq (.ops r3) (.block 0 (.loop (.seq (.seq (.ops r4) (.cond (.t 24) .skip (.exit 0))) (.seq (.block 1 (.ops r6)) (.ops r5)))))) (.seq (.ops r7) .ret)))))
@[simp] noncomputable def rs : List RV := [.tmp 4, .tmp 5]
theorem comp : compF Pg cfg Tryz.f96 = some (ir, rs, 40) := by kernel_rfl
theorem enter {args : List AVal} {h : Heap} {K : AEnd → Heap → Prop} (F : Nat) (hl : args.length ≤ 40) (a : AW ⟨Pg, F, 40, false, []⟩ ir (RetK rs K) (initT args) [] h) : ACalls Pg fn_ref05_Rest args h K :=
  ACalls.of_comp follows Tryz.func96 comp hl a
theorem pure {args : List AVal} {v : AVal} (hl : args.length ≤ 40) (a : AW ⟨Pg, 0, 40, false, []⟩ ir (RetK rs fun e _ => e = .ret v) (initT args) [] nilH) : APure Pg fn_ref05_Rest args v :=
  APure.of_nil (enter 0 hl a)
end ref05_Rest

namespace rap_set_with
noncomputable def cfg : Cfg := { pure := pures, pcs := [], raw := [], cuts := [], draws := [], keep := [] }
@[simp] noncomputable def r0 (_ : Unit) : List Stp := [S 4 (.mv (.c (.int .u64 0)))]
@[simp] noncomputable def r1 (_ : Unit) : List Stp := [S 5 (.mv (.t 0)), S 6 (.mv (.t 1)), S 7 (.bin .or (.t 5) (.t 6)), S 4 (.mv (.t 7))]
@[simp] noncomputable def ir : IR := (.seq (.ops r0) (.seq (.ops r1) .ret))
@[simp] noncomputable def rs : List RV := [.tmp 4]
theorem comp : compF Pg cfg Tryz.f97 = some (ir, rs, 8) := by kernel_rfl
theorem enter {args : List AVal} {h : Heap} {K : AEnd → Heap → Prop} (F : Nat) (hl : args.length ≤ 8) (a : AW ⟨Pg, F, 8, false, []⟩ ir (RetK rs K) (initT args) [] h) : ACalls Pg fn_rap_set_with args h K :=
  ACalls.of_comp follows Tryz.func97 comp hl a
theorem pure {args : List AVal} {v : AVal} (hl : args.length ≤ 8) (a : AW ⟨Pg, 0, 8, false, []⟩ ir (RetK rs fun e _ => e = .ret v) (initT args) [] nilH) : APure Pg fn_rap_set_with args v :=
  APure.of_nil (enter 0 hl a)
end rap_set_with

namespace ref05_Ints
noncomputable def cfg : Cfg := { pure := pures, pcs := [], raw := [], cuts := [], draws := [(6, [⟨0, false, [], []⟩, ⟨1, false, [], []⟩, ⟨2, false, [], []⟩, ⟨4, false, [], []⟩, ⟨5, false, [], []⟩, ⟨6, false, [], []⟩, ⟨3, false, [], []⟩, ⟨7, false, [], []⟩, ⟨8, false, [], []⟩])], keep := [] }
@[simp] noncomputable def r0 (_ : Unit) : List Stp := [S 4 (.mv (.c (.bool false)))]
@[simp] noncomputable def r1 (_ : Unit) : List Stp := [S 6 (.mv (.t 0)), S 7 (.len (.t 6)), S 8 (.mv (.t 1)), S 9 (.len (.t 8)), S 10 (.bin .neq (.t 7) (.t 9))]
@[simp] noncomputable def r2 (_ : Unit) : List Stp := [S 4 (.mv (.c (.bool false)))]
@[simp] noncomputable def r3 (_ : Unit) : List Stp := [S 5 (.mv (.c (.int .i64 0)))]
@[simp] noncomputable def r4 (_ : Unit) : List Stp := [S 11 (.mv (.t 5)), S 12 (.mv (.t 0)), S 13 (.len (.t 12)), S 14 (.bin .lss (.t 11) (.t 13))]
@[simp] noncomputable def r6 (_ : Unit) : List Stp := [S 17 (.mv (.t 0)), S 18 (.mv (.t 5)), S 19 (.ixS 1 (.t 17) (.t 18)), S 21 (.mv (.t 1)), S 22 (.mv (.t 5)), S 23 (.ixS 1 (.t 21) (.t 22)), S 20 (.load false 1 (.t 19)), S 24 (.load false 1 (.t 23)), S 25 (.bin .neq (.t 20) (.t 24))]
@[simp] noncomputable def r7 (_ : Unit) : List Stp := [S 4 (.mv (.c (.bool false)))]
@[simp] noncomputable def r5 (_ : Unit) : List Stp := [S 15 (.mv (.t 5)), S 16 (.bin .add (.t 15) (.c (.int .i64 1))), S 5 (.mv (.t 16))]
@[simp] noncomputable def r8 (_ : Unit) : List Stp := [S 4 (.mv (.c (.bool true)))]
@[simp] noncomputable def ir : IR := (.seq (.ops r0) (.seq (.seq (.ops r1) (.cond (.t 10) (.seq (.ops r2) .ret) .skip)) (.seq (.seq (.ops r3) (.block 0 (.loop (.seq (.seq (.ops r4) (.cond (.t 14) .skip (.exit 0))) (.seq (.block 1 (.seq (.ops r6) (.cond (.t 25) (.seq (.ops r7) .ret) .skip))) (.ops r5)))))) (.seq (.ops r8) .ret))))
@[simp] noncomputable def rs : List RV := [.tmp 4]
theorem comp : compF Pg cfg Tryz.f98 = some (ir, rs, 26) := by kernel_rfl
theorem enter {args : List AVal} {h : Heap} {K : AEnd → Heap → Prop} (F : Nat) (hl : args.length ≤ 26) (a : AW ⟨Pg, F, 26, false, []⟩ ir (RetK rs K) (initT args) [] h) : ACalls Pg fn_ref05_Ints args h K :=
  ACalls.of_comp follows Tryz.func98 comp hl a
theorem pure {args : List AVal} {v : AVal} (hl : args.length ≤ 26) (a : AW ⟨Pg, 0, 26, false, []⟩ ir (RetK rs fun e _ => e = .ret v) (initT args) [] nilH) : APure Pg fn_ref05_Ints args v :=
  APure.of_nil (enter 0 hl a)
end ref05_Ints

namespace math_bits_OnesCount32
noncomputable def cfg : Cfg := { pure := pures, pcs := [], raw := [], cuts := [], draws := [(1, [⟨0, false, [], []⟩, ⟨1, false, [], []⟩, ⟨2, false, [], []⟩, ⟨3, false, [], []⟩, ⟨4, false, [], []⟩, ⟨5, false, [], []⟩, ⟨6, false, [], []⟩, ⟨7, false, [], []⟩, ⟨8, false, [], []⟩, ⟨9, false, [], []⟩, ⟨10, false, [], []⟩, ⟨11, false, [], []⟩, ⟨12, false, [], []⟩, ⟨13, false, [], []⟩, ⟨14, false, [], []⟩, ⟨15, false, [], []⟩, ⟨16, false, [], []⟩, ⟨17, false, [], []⟩, ⟨18, false, [], []⟩])], keep := [] }
@[simp] noncomputable def r0 (_ : Unit) : List Stp := [S 2 (.mv (.c (.int .i64 0)))]
@[simp] noncomputable def r1 (_ : Unit) : List Stp := [S 3 (.mv (.t 0)), S 4 (.bin .shr (.t 3) (.c (.int .u64 24))), S 5 (.ixT (.c (.str [0, 1, 1, 2, 1, 2, 2, 3, 1, 2, 2, 3, 2, 3, 3, 4, 1, 2, 2, 3, 2, 3, 3, 4, 2, 3, 3, 4, 3, 4, 4, 5, 1, 2, 2, 3, 2, 3, 3, 4, 2, 3, 3, 4, 3, 4, 4, 5, 2, 3, 3, 4, 3, 4, 4, 5, 3, 4, 4, 5, 4, 5, 5, 6, 1, 2, 2, 3, 2, 3, 3, 4, 2, 3, 3, 4, 3, 4, 4, 5, 2, 3, 3, 4, 3, 4, 4, 5, 3, 4, 4, 5, 4, 5, 5, 6, 2, 3, 3, 4, 3, 4, 4, 5, 3, 4, 4, 5, 4, 5, 5, 6, 3, 4, 4, 5, 4, 5, 5, 6, 4, 5, 5, 6, 5, 6, 6, 7, 1, 2, 2, 3, 2, 3, 3, 4, 2, 3, 3, 4, 3, 4, 4, 5, 2, 3, 3, 4, 3, 4, 4, 5, 3, 4, 4, 5, 4, 5, 5, 6, 2, 3, 3, 4, 3, 4, 4, 5, 3, 4, 4, 5, 4, 5, 5, 6, 3, 4, 4, 5, 4, 5, 5, 6, 4, 5, 5, 6, 5, 6, 6, 7, 2, 3, 3, 4, 3, 4, 4, 5, 3, 4, 4, 5, 4, 5, 5, 6, 3, 4, 4, 5, 4, 5, 5, 6, 4, 5, 5, 6, 5, 6, 6, 7, 3, 4, 4, 5, 4, 5, 5, 6, 4, 5, 5, 6, 5, 6, 6, 7, 4, 5, 5, 6, 5, 6, 6, 7, 5, 6, 6, 7, 6, 7, 7, 8])) (.t 4)), S 6 (.mv (.t 0)), S 7 (.bin .shr (.t 6) (.c (.int .u64 16))), S 8 (.bin .and (.t 7) (.c (.int .u32 255))), S 9 (.ixT (.c (.str [0, 1, 1, 2, 1, 2, 2, 3, 1, 2, 2, 3, 2, 3, 3, 4, 1, 2, 2, 3, 2, 3, 3, 4, 2, 3, 3, 4, 3, 4, 4, 5, 1, 2, 2, 3, 2, 3, 3, 4, 2, 3, 3, 4, 3, 4, 4, 5, 2, 3, 3, 4, 3, 4, 4, 5, 3, 4, 4, 5, 4, 5, 5, 6, 1, 2, 2, 3, 2, 3, 3, 4, 2, 3, 3, 4, 3, 4, 4, 5, 2, 3, 3, 4, 3, 4, 4, 5, 3, 4, 4, 5, 4, 5, 5, 6, 2, 3, 3, 4, 3, 4, 4, 5, 3, 4, 4, 5, 4, 5, 5, 6, 3, 4, 4, 5, 4, 5, 5, 6, 4, 5, 5, 6, 5, 6, 6, 7, 1, 2, 2, 3, 2, 3, 3, 4, 2, 3, 3, 4, 3, 4, 4, 5, 2, 3, 3, 4, 3, 4, 4, 5, 3, 4, 4, 5, 4, 5, 5, 6, 2, 3, 3, 4, 3, 4, 4, 5, 3, 4, 4, 5, 4, 5, 5, 6, 3, 4, 4, 5, 4, 5, 5, 6, 4, 5, 5, 6, 5, 6, 6, 7, 2, 3, 3, 4, 3, 4, 4, 5, 3, 4, 4, 5, 4, 5, 5, 6, 3, 4, 4, 5, 4, 5, 5, 6, 4, 5, 5, 6, 5, 6, 6, 7, 3, 4, 4, 5, 4, 5, 5, 6, 4, 5, 5, 6, 5, 6, 6, 7, 4, 5, 5, 6, 5, 6, 6, 7, 5, 6, 6, 7, 6, 7, 7, 8])) (.t 8)), S 10 (.bin .add (.t 5) (.t 9)), S 11 (.mv (.t 0)), S 12 (.bin .shr (.t 11) (.c (.int .u64 8))), S 13 (.bin .and (.t 12) (.c (.int .u32 255))), S 14 (.ixT (.c (.str [0, 1, 1, 2, 1, 2, 2, 3, 1, 2, 2, 3, 2, 3, 3, 4, 1, 2, 2, 3, 2, 3, 3, 4, 2, 3, 3, 4, 3, 4, 4, 5, 1, 2, 2, 3, 2, 3, 3, 4, 2, 3, 3, 4, 3, 4, 4, 5, 2, 3, 3, 4, 3, 4, 4, 5, 3, 4, 4, 5, 4, 5, 5, 6, 1, 2, 2, 3, 2, 3, 3, 4, 2, 3, 3, 4, 3, 4, 4, 5, 2, 3, 3, 4, 3, 4, 4, 5, 3, 4, 4, 5, 4, 5, 5, 6, 2, 3, 3, 4, 3, 4, 4, 5, 3, 4, 4, 5, 4, 5, 5, 6, 3, 4, 4, 5, 4, 5, 5, 6, 4, 5, 5, 6, 5, 6, 6, 7, 1, 2, 2, 3, 2, 3, 3, 4, 2, 3, 3, 4, 3, 4, 4, 5, 2, 3, 3, 4, 3, 4, 4, 5, 3, 4, 4, 5, 4, 5, 5, 6, 2, 3, 3, 4, 3, 4, 4, 5, 3, 4, 4, 5, 4, 5, 5, 6, 3, 4, 4, 5, 4, 5, 5, 6, 4, 5, 5, 6, 5, 6, 6, 7, 2, 3, 3, 4, 3, 4, 4, 5, 3, 4, 4, 5, 4, 5, 5, 6, 3, 4, 4, 5, 4, 5, 5, 6, 4, 5, 5, 6, 5, 6, 6, 7, 3, 4, 4, 5, 4, 5, 5, 6, 4, 5, 5, 6, 5, 6, 6, 7, 4, 5, 5, 6, 5, 6, 6, 7, 5, 6, 6, 7, 6, 7, 7, 8])) (.t 13)), S 15 (.bin .add (.t 10) (.t 14)), S 16 (.mv (.t 0)), S 17 (.bin .and (.t 16) (.c (.int .u32 255))), S 18 (.ixT (.c (.str [0, 1, 1, 2, 1, 2, 2, 3, 1, 2, 2, 3, 2, 3, 3, 4, 1, 2, 2, 3, 2, 3, 3, 4, 2, 3, 3, 4, 3, 4, 4, 5, 1, 2, 2, 3, 2, 3, 3, 4, 2, 3, 3, 4, 3, 4, 4, 5, 2, 3, 3, 4, 3, 4, 4, 5, 3, 4, 4, 5, 4, 5, 5, 6, 1, 2, 2, 3, 2, 3, 3, 4, 2, 3, 3, 4, 3, 4, 4, 5, 2, 3, 3, 4, 3, 4, 4, 5, 3, 4, 4, 5, 4, 5, 5, 6, 2, 3, 3, 4, 3, 4, 4, 5, 3, 4, 4, 5, 4, 5, 5, 6, 3, 4, 4, 5, 4, 5, 5, 6, 4, 5, 5, 6, 5, 6, 6, 7, 1, 2, 2, 3, 2, 3, 3, 4, 2, 3, 3, 4, 3, 4, 4, 5, 2, 3, 3, 4, 3, 4, 4, 5, 3, 4, 4, 5, 4, 5, 5, 6, 2, 3, 3, 4, 3, 4, 4, 5, 3, 4, 4, 5, 4, 5, 5, 6, 3, 4, 4, 5, 4, 5, 5, 6, 4, 5, 5, 6, 5, 6, 6, 7, 2, 3, 3, 4, 3, 4, 4, 5, 3, 4, 4, 5, 4, 5, 5, 6, 3, 4, 4, 5, 4, 5, 5, 6, 4, 5, 5, 6, 5, 6, 6, 7, 3, 4, 4, 5, 4, 5, 5, 6, 4, 5, 5, 6, 5, 6, 6, 7, 4, 5, 5, 6, 5, 6, 6, 7, 5, 6, 6, 7, 6, 7, 7, 8])) (.t 17)), S 19 (.bin .add (.t 15) (.t 18)), S 20 (.conv .i64 (.t 19)), S 2 (.mv (.t 20))]
@[simp] noncomputable def ir : IR := (.seq (.ops r0) (.seq (.ops r1) .ret))
@[simp] noncomputable def rs : List RV := [.tmp 2]
theorem comp : compF Pg cfg Tryz.f99 = some (ir, rs, 21) := by kernel_rfl
theorem enter {args : List AVal} {h : Heap} {K : AEnd → Heap → Prop} (F : Nat) (hl : args.length ≤ 21) (a : AW ⟨Pg, F, 21, false, []⟩ ir (RetK rs K) (initT args) [] h) : ACalls Pg fn_math_bits_OnesCount32 args h K :=
  ACalls.of_comp follows Tryz.func99 comp hl a
theorem pure {args : List AVal} {v : AVal} (hl : args.length ≤ 21) (a : AW ⟨Pg, 0, 21, false, []⟩ ir (RetK rs fun e _ => e = .ret v) (initT args) [] nilH) : APure Pg fn_math_bits_OnesCount32 args v :=
  APure.of_nil (enter 0 hl a)
end math_bits_OnesCount32

namespace math_bits_OnesCount64
noncomputable def cfg : Cfg := { pure := pures, pcs := [], raw := [], cuts := [], draws := [], keep := [] }
@[simp] noncomputable def r0 (_ : Unit) : List Stp := [S 2 (.mv (.c (.int .i64 0)))]
@[simp] noncomputable def r1 (_ : Unit) : List Stp := [S 3 (.mv (.t 0)), S 4 (.bin .shr (.t 3) (.c (.int .u64 1))), S 5 (.bin .and (.t 4) (.c (.int .u64 6148914691236517205))), S 6 (.mv (.t 0)), S 7 (.bin .and (.t 6) (.c (.int .u64 6148914691236517205))), S 8 (.bin .add (.t 5) (.t 7)), S 0 (.mv (.t 8))]
@[simp] noncomputable def r2 (_ : Unit) : List Stp := [S 9 (.mv (.t 0)), S 10 (.bin .shr (.t 9) (.c (.int .u64 2))), S 11 (.bin .and (.t 10) (.c (.int .u64 3689348814741910323))), S 12 (.mv (.t 0)), S 13 (.bin .and (.t 12) (.c (.int .u64 3689348814741910323))), S 14 (.bin .add (.t 11) (.t 13)), S 0 (.mv (.t 14))]
@[simp] noncomputable def r3 (_ : Unit) : List Stp := [S 15 (.mv (.t 0)), S 16 (.bin .shr (.t 15) (.c (.int .u64 4))), S 17 (.mv (.t 0)), S 18 (.bin .add (.t 16) (.t 17)), S 19 (.bin .and (.t 18) (.c (.int .u64 1085102592571150095))), S 0 (.mv (.t 19))]
@[simp] noncomputable def r4 (_ : Unit) : List Stp := [S 20 (.mv (.t 0)), S 21 (.mv (.t 0)), S 22 (.bin .shr (.t 21) (.c (.int .u64 8))), S 23 (.bin .add (.t 20) (.t 22)), S 0 (.mv (.t 23))]
@[simp] noncomputable def r5 (_ : Unit) : List Stp := [S 24 (.mv (.t 0)), S 25 (.mv (.t 0)), S 26 (.bin .shr (.t 25) (.c (.int .u64 16))), S 27 (.bin .add (.t 24) (.t 26)), S 0 (.mv (.t 27))]
@[simp] noncomputable def r6 (_ : Unit) : List Stp := [S 28 (.mv (.t 0)), S 29 (.mv (.t 0)), S 30 (.bin .shr (.t 29) (.c (.int .u64 32))), S 31 (.bin .add (.t 28) (.t 30)), S 0 (.mv (.t 31))]
@[simp] noncomputable def r7 (_ : Unit) : List Stp := [S 32 (.mv (.t 0)), S 33 (.conv .i64 (.t 32)), S 34 (.bin .and (.t 33) (.c (.int .i64 127))), S 2 (.mv (.t 34))]
@[simp] noncomputable def ir : IR := (.seq (.ops r0) (.seq (.ops r1) (.seq (.ops r2) (.seq (.ops r3) (.seq (.ops r4) (.seq (.ops r5) (.seq (.ops r6) (.seq (.ops r7) .ret))))))))
@[simp] noncomputable def rs : List RV := [.tmp 2]
theorem comp : compF Pg cfg Tryz.f100 = some (ir, rs, 35) := by kernel_rfl
theorem enter {args : List AVal} {h : Heap} {K : AEnd → Heap → Prop} (F : Nat) (hl : args.length ≤ 35) (a : AW ⟨Pg, F, 35, false, []⟩ ir (RetK rs K) (initT args) [] h) : ACalls Pg fn_math_bits_OnesCount64 args h K :=
  ACalls.of_comp follows Tryz.func100 comp hl a
theorem pure {args : List AVal} {v : AVal} (hl : args.length ≤ 35) (a : AW ⟨Pg, 0, 35, false, []⟩ ir (RetK rs fun e _ => e = .ret v) (initT args) [] nilH) : APure Pg fn_math_bits_OnesCount64 args v :=
  APure.of_nil (enter 0 hl a)
end math_bits_OnesCount64

namespace slices_IndexFunc_rap_sound_rap_sound
noncomputable def cfg : Cfg := { pure := pures, pcs := [], raw := [], cuts := [], draws := [], keep := [] }
@[simp] noncomputable def r0 (_ : Unit) : List Stp := [S 4 (.mv (.c (.int .i64 0)))]
@[simp] noncomputable def r1 (_ : Unit) : List Stp := [S 6 (.mv (.t 0)), S 7 (.len (.t 6)), S 8 (.mv (.c (.int .i64 0)))]
@[simp] noncomputable def r2 (_ : Unit) : List Stp := [S 9 (.bin .lss (.t 8) (.t 7))]
@[simp] noncomputable def r3 (_ : Unit) : List Stp := [S 10 (.mv (.t 8)), S 5 (.mv (.t 10))]
@[simp] noncomputable def r4 (_ : Unit) : List Stp := [S 11 (.mv (.t 1)), S 12 (.mv (.t 0)), S 13 (.mv (.t 5)), S 14 (.ixS 2 (.t 12) (.t 13)), S 15 (.load true 2 (.t 14)), S 16 (.call (.t 11) [(.t 15)])]
@[simp] noncomputable def r5 (_ : Unit) : List Stp := [S 17 (.mv (.t 5)), S 4 (.mv (.t 17))]
@[simp] noncomputable def r6 (_ : Unit) : List Stp := [S 18 (.bin .add (.t 8) (.c (.int .i64 1))), S 8 (.mv (.t 18))]
@[simp] noncomputable def r7 (_ : Unit) : List Stp := [S 4 (.mv (.c (.int .i64 (-1))))]
@[simp] noncomputable def ir : IR := (.seq (.ops r0) (.seq (.seq (.ops r1) (.block 0 (.loop (.seq (.ops r2) (.seq (.cond (.t 9) .skip (.exit 0)) (.seq (.block 1 (.seq (.ops r3) (.seq (.ops r4) (.cond (.t 16) (.seq (.ops r5) .ret) .skip)))) (.ops r6))))))) (.seq (.ops r7) .ret)))
@[simp] noncomputable def rs : List RV := [.tmp 4]
theorem comp : compF Pg cfg Tryz.f101 = some (ir, rs, 19) := by kernel_rfl
theorem enter {args : List AVal} {h : Heap} {K : AEnd → Heap → Prop} (F : Nat) (hl : args.length ≤ 19) (a : AW ⟨Pg, F, 19, false, []⟩ ir (RetK rs K) (initT args) [] h) : ACalls Pg fn_slices_IndexFunc_rap_sound_rap_sound args h K :=
  ACalls.of_comp follows Tryz.func101 comp hl a
theorem pure {args : List AVal} {v : AVal} (hl : args.length ≤ 19) (a : AW ⟨Pg, 0, 19, false, []⟩ ir (RetK rs fun e _ => e = .ret v) (initT args) [] nilH) : APure Pg fn_slices_IndexFunc_rap_sound_rap_sound args v :=
  APure.of_nil (enter 0 hl a)
end slices_IndexFunc_rap_sound_rap_sound

namespace rap_hull_blows
noncomputable def cfg : Cfg := { pure := pures, pcs := [], raw := [], cuts := [], draws := [], keep := [] }
@[simp] noncomputable def r0 (_ : Unit) : List Stp := [S 1 (.box (.t 0)), S 2 (.mv (.c .nilf))]
@[simp] noncomputable def r1 (_ : Unit) : List Stp := [S 3 (.mkF (.func fn_rap_hull_blows_1) [] [(.t 1)]), S 2 (.mv (.t 3))]
@[simp] noncomputable def ir : IR := (.seq (.ops r0) (.seq (.ops r1) .ret))
@[simp] noncomputable def rs : List RV := [.tmp 2]
theorem comp : compF Pg cfg Tryz.f102 = some (ir, rs, 4) := by kernel_rfl
theorem enter {args : List AVal} {h : Heap} {K : AEnd → Heap → Prop} (F : Nat) (hl : args.length ≤ 4) (a : AW ⟨Pg, F, 4, false, []⟩ ir (RetK rs K) (initT args) [] h) : ACalls Pg fn_rap_hull_blows args h K :=
  ACalls.of_comp follows Tryz.func102 comp hl a
theorem pure {args : List AVal} {v : AVal} (hl : args.length ≤ 4) (a : AW ⟨Pg, 0, 4, false, []⟩ ir (RetK rs fun e _ => e = .ret v) (initT args) [] nilH) : APure Pg fn_rap_hull_blows args v :=
  APure.of_nil (enter 0 hl a)
end rap_hull_blows

namespace rap_hull_sounds_1
noncomputable def cfg : Cfg := { pure := pures, pcs := [], raw := [], cuts := [], draws := [], keep := [] }
@[simp] noncomputable def r0 (_ : Unit) : List Stp := [S 2 (.box (.t 0)), S 3 (.box (.t 1)), S 4 (.mv (.c (.int .i64 0)))]
@[simp] noncomputable def r1 (_ : Unit) : List Stp := [S 5 (.fAddr 0 (.t 2)), S 6 (.load false 1 (.t 5)), S 7 (.conv .i64 (.t 6)), S 8 (.fAddr 0 (.t 3)), S 9 (.load false 1 (.t 8)), S 10 (.conv .i64 (.t 9)), S 11 (.bin .sub (.t 7) (.t 10)), S 4 (.mv (.t 11))]
@[simp] noncomputable def ir : IR := (.seq (.ops r0) (.seq (.ops r1) .ret))
@[simp] noncomputable def rs : List RV := [.tmp 4]
theorem comp : compF Pg cfg Tryz.f104 = some (ir, rs, 12) := by kernel_rfl
theorem enter {args : List AVal} {h : Heap} {K : AEnd → Heap → Prop} (F : Nat) (hl : args.length ≤ 12) (a : AW ⟨Pg, F, 12, false, []⟩ ir (RetK rs K) (initT args) [] h) : ACalls Pg fn_rap_hull_sounds_1 args h K :=
  ACalls.of_comp follows Tryz.func104 comp hl a
theorem pure {args : List AVal} {v : AVal} (hl : args.length ≤ 12) (a : AW ⟨Pg, 0, 12, false, []⟩ ir (RetK rs fun e _ => e = .ret v) (initT args) [] nilH) : APure Pg fn_rap_hull_sounds_1 args v :=
  APure.of_nil (enter 0 hl a)
end rap_hull_sounds_1

namespace rap_hull_ears
noncomputable def cfg : Cfg := { pure := pures, pcs := [], raw := [], cuts := [], draws := [], keep := [] }
@[simp] noncomputable def r0 (_ : Unit) : List Stp := [S 4 (.mv (.c .nils))]
@[simp] noncomputable def r1 (_ : Unit) : List Stp := [S 8 (.build [] []), S 9 (.mkI 168 (.t 8)), S 10 (.bsl 1 [.nili] [(0, 1, (.t 9))]), S 5 (.mv (.t 10))]
@[simp] noncomputable def r2 (_ : Unit) : List Stp := [S 11 (.mv (.t 0)), S 12 (.nilck Pg (.t 11)), S 13 (.fAddr 0 (.t 12)), S 14 (.fAddr 3 (.t 13)), S 15 (.load false 1 (.t 14)), S 16 (.len (.t 15)), S 17 (.mv (.c (.int .i64 0)))]
@[simp] noncomputable def r3 (_ : Unit) : List Stp := [S 18 (.bin .lss (.t 17) (.t 16))]
@[simp] noncomputable def r4 (_ : Unit) : List Stp := [S 19 (.mv (.t 17)), S 20 (.ixS 2 (.t 15) (.t 17)), S 21 (.load true 2 (.t 20)), S 7 (.alloc [(.int .i64 0), (.bool false)]), S 6 (.mv (.t 19)), SN (.store 2 (.t 7) (.t 21))]
@[simp] noncomputable def r5 (_ : Unit) : List Stp := [S 22 (.mv (.t 1)), S 23 (.mv (.t 6)), S 24 (.bin .shr (.t 22) (.t 23)), S 25 (.bin .and (.t 24) (.c (.int .u64 1))), S 26 (.bin .eql (.t 25) (.c (.int .u64 1)))]
@[simp] noncomputable def r6 (_ : Unit) : List Stp := [S 27 (.mv (.t 5)), S 28 (.build [] []), S 29 (.load true 2 (.t 7)), S 30 (.build [(.int .i64 0), (.bool false)] [(0, 0, (.t 28)), (0, 2, (.t 29))]), S 31 (.mkI 170 (.t 30)), S 32 (.bsl 1 [.nili] [(0, 1, (.t 31))]), S 33 (.app 1 16 (.t 27) (.t 32)), S 5 (.mv (.t 33))]
@[simp] noncomputable def r7 (_ : Unit) : List Stp := [S 34 (.bin .add (.t 17) (.c (.int .i64 1))), S 17 (.mv (.t 34))]
@[simp] noncomputable def r8 (_ : Unit) : List Stp := [S 35 (.mv (.t 5)), S 4 (.mv (.t 35))]
@[simp] noncomputable def ir : IR := (.seq (.ops r0) (.seq (.ops r1) (.seq (.seq (.ops r2) (.block 0 (.loop (.seq (.ops r3) (.seq (.cond (.t 18) .skip (.exit 0)) (.seq (.block 1 (.seq (.ops r4) (.seq (.ops r5) (.cond (.t 26) (.ops r6) .skip)))) (.ops r7))))))) (.seq (.ops r8) .ret))))
@[simp] noncomputable def rs : List RV := [.tmp 4]
theorem comp : compF Pg cfg Tryz.f105 = some (ir, rs, 36) := by kernel_rfl
theorem enter {args : List AVal} {h : Heap} {K : AEnd → Heap → Prop} (F : Nat) (hl : args.length ≤ 36) (a : AW ⟨Pg, F, 36, false, []⟩ ir (RetK rs K) (initT args) [] h) : ACalls Pg fn_rap_hull_ears args h K :=
  ACalls.of_comp follows Tryz.func105 comp hl a
theorem pure {args : List AVal} {v : AVal} (hl : args.length ≤ 36) (a : AW ⟨Pg, 0, 36, false, []⟩ ir (RetK rs fun e _ => e = .ret v) (initT args) [] nilH) : APure Pg fn_rap_hull_ears args v :=
  APure.of_nil (enter 0 hl a)
end rap_hull_ears

namespace ref05_in
noncomputable def cfg : Cfg := { pure := pures, pcs := [], raw := [], cuts := [], draws := [], keep := [] }
@[simp] noncomputable def r0 (_ : Unit) : List Stp := [S 6 (.mv (.c (.bool false)))]
@[simp] noncomputable def r1 (_ : Unit) : List Stp := [S 7 (.mv (.t 1)), S 8 (.mv (.t 0)), S 9 (.bin .leq (.t 7) (.t 8)), S 10 (.mv (.t 9)), SG 11 10 true (.mv (.t 0)), SG 12 10 true (.mv (.t 2)), SG 13 10 true (.bin .leq (.t 11) (.t 12)), S 14 (.pick (.t 10) (.t 13) (.c (.bool false))), S 6 (.mv (.t 14))]
@[simp] noncomputable def ir : IR := (.seq (.ops r0) (.seq (.ops r1) .ret))
@[simp] noncomputable def rs : List RV := [.tmp 6]
theorem comp : compF Pg cfg Tryz.f106 = some (ir, rs, 15) := by kernel_rfl
theorem enter {args : List AVal} {h : Heap} {K : AEnd → Heap → Prop} (F : Nat) (hl : args.length ≤ 15) (a : AW ⟨Pg, F, 15, false, []⟩ ir (RetK rs K) (initT args) [] h) : ACalls Pg fn_ref05_in args h K :=
  ACalls.of_comp follows Tryz.func106 comp hl a
theorem pure {args : List AVal} {v : AVal} (hl : args.length ≤ 15) (a : AW ⟨Pg, 0, 15, false, []⟩ ir (RetK rs fun e _ => e = .ret v) (initT args) [] nilH) : APure Pg fn_ref05_in args v :=
  APure.of_nil (enter 0 hl a)
end ref05_in

namespace ref05_Beside
noncomputable def cfg : Cfg := { pure := pures, pcs := [], raw := [], cuts := [], draws := [], keep := [] }
@[simp] noncomputable def r0 (_ : Unit) : List Stp := [S 2 (.box (.t 0)), S 4 (.mv (.c (.int .i64 0)))]
@[simp] noncomputable def r1 (_ : Unit) : List Stp := [S 5 (.mv (.c (.int .i64 0)))]
@[simp] noncomputable def r2 (_ : Unit) : List Stp := [S 6 (.mv (.c (.int .i64 0)))]
@[simp] noncomputable def r3 (_ : Unit) : List Stp := [S 7 (.mv (.t 6)), S 8 (.fAddr 1 (.t 2)), S 9 (.load false 1 (.t 8)), S 10 (.len (.t 9)), S 11 (.bin .lss (.t 7) (.t 10))]
@[simp] noncomputable def r5 (_ : Unit) : List Stp := [S 14 (.fAddr 1 (.t 2)), S 15 (.load false 1 (.t 14)), S 16 (.mv (.t 6)), S 17 (.ixS 2 (.t 15) (.t 16)), S 18 (.ixA 2 1 (.t 17) (.c (.int .i64 0))), S 19 (.load false 1 (.t 18)), S 20 (.mv (.t 1)), S 21 (.bin .eql (.t 19) (.t 20)), S 22 (.mv (.t 21)), SG 23 22 false (.fAddr 1 (.t 2)), SG 24 22 false (.load false 1 (.t 23)), SG 25 22 false (.mv (.t 6)), SG 26 22 false (.ixS 2 (.t 24) (.t 25)), SG 27 22 false (.ixA 2 1 (.t 26) (.c (.int .i64 1))), SG 28 22 false (.load false 1 (.t 27)), SG 29 22 false (.mv (.t 1)), SG 30 22 false (.bin .eql (.t 28) (.t 29)), S 31 (.pick (.t 22) (.c (.bool true)) (.t 30))]
@[simp] noncomputable def r6 (_ : Unit) : List Stp := [S 32 (.mv (.t 5)), S 33 (.bin .add (.t 32) (.c (.int .i64 1))), S 5 (.mv (.t 33))]
@[simp] noncomputable def r4 (_ : Unit) : List Stp := [S 12 (.mv (.t 6)), S 13 (.bin .add (.t 12) (.c (.int .i64 1))), S 6 (.mv (.t 13))]
@[simp] noncomputable def r7 (_ : Unit) : List Stp := [S 34 (.mv (.t 5)), S 4 (.mv (.t 34))]
@[simp] noncomputable def ir : IR := (.seq (.ops r0) (.seq (.ops r1) (.seq (.seq (.ops r2) (.block 0 (.loop (.seq (.seq (.ops r3) (.cond (.t 11) .skip (.exit 0))) (.seq (.block 1 (.seq (.ops r5) (.cond (.t 31) (.ops r6) .skip))) (.ops r4)))))) (.seq (.ops r7) .ret))))
@[simp] noncomputable def rs : List RV := [.tmp 4]
theorem comp : compF Pg cfg Tryz.f107 = some (ir, rs, 35) := by kernel_rfl
theorem enter {args : List AVal} {h : Heap} {K : AEnd → Heap → Prop} (F : Nat) (hl : args.length ≤ 35) (a : AW ⟨Pg, F, 35, false, []⟩ ir (RetK rs K) (initT args) [] h) : ACalls Pg fn_ref05_Beside args h K :=
  ACalls.of_comp follows Tryz.func107 comp hl a
theorem pure {args : List AVal} {v : AVal} (hl : args.length ≤ 35) (a : AW ⟨Pg, 0, 35, false, []⟩ ir (RetK rs fun e _ => e = .ret v) (initT args) [] nilH) : APure Pg fn_ref05_Beside args v :=
  APure.of_nil (enter 0 hl a)
end ref05_Beside

namespace drive_want
noncomputable def cfg : Cfg := { pure := pures, pcs := [], raw := [], cuts := [], draws := [], keep := [] }
@[simp] noncomputable def r0 (_ : Unit) : List Stp := [S 4 (.mv (.t 0)), S 5 (.un .not (.t 4))]
@[simp] noncomputable def r1 (_ : Unit) : List Stp := [S 6 (.mv (.t 1)), S 7 (.build [(.int .i64 0)] [(0, 1, (.t 6))]), S 8 (.mkI 148 (.t 7)), SN (.panic (.t 8))]
@[simp] noncomputable def ir : IR := (.seq (.ops r0) (.cond (.t 5) (.ops r1) .skip))
@[simp] noncomputable def rs : List RV := []
theorem comp : compF Pg cfg Tryz.f108 = some (ir, rs, 9) := by kernel_rfl
theorem enter {args : List AVal} {h : Heap} {K : AEnd → Heap → Prop} (F : Nat) (hl : args.length ≤ 9) (a : AW ⟨Pg, F, 9, false, []⟩ ir (RetK rs K) (initT args) [] h) : ACalls Pg fn_drive_want args h K :=
  ACalls.of_comp follows Tryz.func108 comp hl a
theorem pure {args : List AVal} {v : AVal} (hl : args.length ≤ 9) (a : AW ⟨Pg, 0, 9, false, []⟩ ir (RetK rs fun e _ => e = .ret v) (initT args) [] nilH) : APure Pg fn_drive_want args v :=
  APure.of_nil (enter 0 hl a)
end drive_want

namespace drive_within
noncomputable def cfg : Cfg := { pure := pures, pcs := [], raw := [], cuts := [], draws := [], keep := [] }
@[simp] noncomputable def r0 (_ : Unit) : List Stp := [S 6 (.mv (.c (.bool false)))]
@[simp] noncomputable def r1 (_ : Unit) : List Stp := [S 7 (.mv (.t 1)), S 8 (.mv (.t 0)), S 9 (.bin .leq (.t 7) (.t 8)), S 10 (.mv (.t 9)), SG 11 10 true (.mv (.t 0)), SG 12 10 true (.mv (.t 2)), SG 13 10 true (.bin .leq (.t 11) (.t 12)), S 14 (.pick (.t 10) (.t 13) (.c (.bool false))), S 6 (.mv (.t 14))]
@[simp] noncomputable def ir : IR := (.seq (.ops r0) (.seq (.ops r1) .ret))
@[simp] noncomputable def rs : List RV := [.tmp 6]
theorem comp : compF Pg cfg Tryz.f109 = some (ir, rs, 15) := by kernel_rfl
theorem enter {args : List AVal} {h : Heap} {K : AEnd → Heap → Prop} (F : Nat) (hl : args.length ≤ 15) (a : AW ⟨Pg, F, 15, false, []⟩ ir (RetK rs K) (initT args) [] h) : ACalls Pg fn_drive_within args h K :=
  ACalls.of_comp follows Tryz.func109 comp hl a
theorem pure {args : List AVal} {v : AVal} (hl : args.length ≤ 15) (a : AW ⟨Pg, 0, 15, false, []⟩ ir (RetK rs fun e _ => e = .ret v) (initT args) [] nilH) : APure Pg fn_drive_within args v :=
  APure.of_nil (enter 0 hl a)
end drive_within

namespace drive_isSeam
noncomputable def cfg : Cfg := { pure := pures, pcs := [], raw := [], cuts := [], draws := [], keep := [] }
@[simp] noncomputable def r0 (_ : Unit) : List Stp := [S 2 (.box (.t 0)), S 4 (.mv (.c (.bool false)))]
@[simp] noncomputable def r1 (_ : Unit) : List Stp := [S 5 (.mv (.t 1)), S 6 (.fAddr 0 (.t 2)), S 7 (.load false 1 (.t 6)), S 8 (.len (.t 7)), S 9 (.bin .sub (.t 8) (.c (.int .i64 1))), SP 10 (.call (.c (.func (.func fn_drive_within) [] [])) [(.t 5), (.c (.int .i64 0)), (.t 9)]), S 4 (.mv (.t 10))]
@[simp] noncomputable def ir : IR := (.seq (.ops r0) (.seq (.ops r1) .ret))
@[simp] noncomputable def rs : List RV := [.tmp 4]
theorem comp : compF Pg cfg Tryz.f110 = some (ir, rs, 11) := by kernel_rfl
theorem enter {args : List AVal} {h : Heap} {K : AEnd → Heap → Prop} (F : Nat) (hl : args.length ≤ 11) (a : AW ⟨Pg, F, 11, false, []⟩ ir (RetK rs K) (initT args) [] h) : ACalls Pg fn_drive_isSeam args h K :=
  ACalls.of_comp follows Tryz.func110 comp hl a
theorem pure {args : List AVal} {v : AVal} (hl : args.length ≤ 11) (a : AW ⟨Pg, 0, 11, false, []⟩ ir (RetK rs fun e _ => e = .ret v) (initT args) [] nilH) : APure Pg fn_drive_isSeam args v :=
  APure.of_nil (enter 0 hl a)
end drive_isSeam

namespace slices_Contains_2_int_2_int
noncomputable def cfg : Cfg := { pure := pures, pcs := [], raw := [], cuts := [], draws := [], keep := [] }
@[simp] noncomputable def r0 (_ : Unit) : List Stp := [S 3 (.box (.t 1)), S 4 (.mv (.c (.bool false)))]
@[simp] noncomputable def r1 (_ : Unit) : List Stp := [S 5 (.mv (.t 0)), S 6 (.load true 2 (.t 3)), SP 7 (.call (.c (.func (.func fn_slices_Index_2_int_2_int) [] [])) [(.t 5), (.t 6)]), S 8 (.bin .geq (.t 7) (.c (.int .i64 0))), S 4 (.mv (.t 8))]
@[simp] noncomputable def ir : IR := (.seq (.ops r0) (.seq (.ops r1) .ret))
@[simp] noncomputable def rs : List RV := [.tmp 4]
theorem comp : compF Pg cfg Tryz.f111 = some (ir, rs, 9) := by kernel_rfl
theorem enter {args : List AVal} {h : Heap} {K : AEnd → Heap → Prop} (F : Nat) (hl : args.length ≤ 9) (a : AW ⟨Pg, F, 9, false, []⟩ ir (RetK rs K) (initT args) [] h) : ACalls Pg fn_slices_Contains_2_int_2_int args h K :=
  ACalls.of_comp follows Tryz.func111 comp hl a
theorem pure {args : List AVal} {v : AVal} (hl : args.length ≤ 9) (a : AW ⟨Pg, 0, 9, false, []⟩ ir (RetK rs fun e _ => e = .ret v) (initT args) [] nilH) : APure Pg fn_slices_Contains_2_int_2_int args v :=
  APure.of_nil (enter 0 hl a)
end slices_Contains_2_int_2_int

namespace drive_areBlows_1
noncomputable def cfg : Cfg := { pure := pures, pcs := [], raw := [], cuts := [], draws := [], keep := [] }
@[simp] noncomputable def r0 (_ : Unit) : List Stp := [S 2 (.mv (.c (.bool false)))]
@[simp] noncomputable def r1 (_ : Unit) : List Stp := [S 3 (.mv (.t 0)), SP 4 (.call (.c (.func (.func fn_drive_within) [] [])) [(.t 3), (.c (.int .i64 0)), (.c (.int .i64 52))]), S 5 (.un .not (.t 4)), S 2 (.mv (.t 5))]
@[simp] noncomputable def ir : IR := (.seq (.ops r0) (.seq (.ops r1) .ret))
@[simp] noncomputable def rs : List RV := [.tmp 2]
theorem comp : compF Pg cfg Tryz.f112 = some (ir, rs, 6) := by kernel_rfl
theorem enter {args : List AVal} {h : Heap} {K : AEnd → Heap → Prop} (F : Nat) (hl : args.length ≤ 6) (a : AW ⟨Pg, F, 6, false, []⟩ ir (RetK rs K) (initT args) [] h) : ACalls Pg fn_drive_areBlows_1 args h K :=
  ACalls.of_comp follows Tryz.func112 comp hl a
theorem pure {args : List AVal} {v : AVal} (hl : args.length ≤ 6) (a : AW ⟨Pg, 0, 6, false, []⟩ ir (RetK rs fun e _ => e = .ret v) (initT args) [] nilH) : APure Pg fn_drive_areBlows_1 args v :=
  APure.of_nil (enter 0 hl a)
end drive_areBlows_1

namespace slices_ContainsFunc_int_int
noncomputable def cfg : Cfg := { pure := pures, pcs := [], raw := [], cuts := [], draws := [], keep := [] }
@[simp] noncomputable def r0 (_ : Unit) : List Stp := [S 4 (.mv (.c (.bool false)))]
@[simp] noncomputable def r1 (_ : Unit) : List Stp := [S 5 (.mv (.t 0)), S 6 (.mv (.t 1)), SP 7 (.call (.c (.func (.func fn_slices_IndexFunc_int_int) [] [])) [(.t 5), (.t 6)]), S 8 (.bin .geq (.t 7) (.c (.int .i64 0))), S 4 (.mv (.t 8))]
@[simp] noncomputable def ir : IR := (.seq (.ops r0) (.seq (.ops r1) .ret))
@[simp] noncomputable def rs : List RV := [.tmp 4]
theorem comp : compF Pg cfg Tryz.f113 = some (ir, rs, 9) := by kernel_rfl
theorem enter {args : List AVal} {h : Heap} {K : AEnd → Heap → Prop} (F : Nat) (hl : args.length ≤ 9) (a : AW ⟨Pg, F, 9, false, []⟩ ir (RetK rs K) (initT args) [] h) : ACalls Pg fn_slices_ContainsFunc_int_int args h K :=
  ACalls.of_comp follows Tryz.func113 comp hl a
theorem pure {args : List AVal} {v : AVal} (hl : args.length ≤ 9) (a : AW ⟨Pg, 0, 9, false, []⟩ ir (RetK rs fun e _ => e = .ret v) (initT args) [] nilH) : APure Pg fn_slices_ContainsFunc_int_int args v :=
  APure.of_nil (enter 0 hl a)
end slices_ContainsFunc_int_int

namespace drive_hull_opened
noncomputable def cfg : Cfg := { pure := pures, pcs := [], raw := [], cuts := [], draws := [(2, [⟨0, false, [], []⟩, ⟨2, false, [], []⟩, ⟨3, false, [], []⟩, ⟨4, false, [], []⟩, ⟨5, false, [], []⟩, ⟨6, false, [], []⟩, ⟨7, false, [], []⟩, ⟨8, false, [], []⟩, ⟨10, false, [], []⟩, ⟨1, false, [], []⟩, ⟨9, false, [], []⟩, ⟨11, false, [], []⟩, ⟨12, false, [], []⟩, ⟨13, false, [], []⟩, ⟨14, false, [], []⟩, ⟨15, false, [], []⟩])], keep := [] }
@[simp] noncomputable def r0 (_ : Unit) : List Stp := [S 5 (.box (.t 1)), S 8 (.alloc [(.int .i64 0), (.int .i64 0), (.int .i64 0), (.int .i64 0), (.int .i64 0), (.int .i64 0)])]
@[simp] noncomputable def r1 (_ : Unit) : List Stp := [S 9 (.mv (.c (.func (.func fn_drive_blows_with) [] [])))]
@[simp] noncomputable def r2 (_ : Unit) : List Stp := [S 12 (.mv (.t 9)), S 14 (.mv (.t 2)), S 15 (.mv (.t 3)), S 16 (.un .neg (.t 15)), S 17 (.mv (.t 0)), S 18 (.nilck Pg (.t 17)), S 19 (.fAddr 0 (.t 18)), S 20 (.fAddr 0 (.t 19)), S 22 (.mv (.t 2)), S 13 (.load true 6 (.t 5)), S 21 (.load false 1 (.t 20)), S 23 (.ixS 1 (.t 21) (.t 22)), S 24 (.load false 1 (.t 23)), S 25 (.bin .mul (.t 16) (.t 24)), S 26 (.call (.t 12) [(.t 13), (.t 14), (.t 25)]), SN (.store 6 (.t 5) (.t 26))]
@[simp] noncomputable def r3 (_ : Unit) : List Stp := [S 27 (.mv (.t 0)), S 28 (.mv (.t 2)), S 29 (.nilck Pg (.t 27)), S 30 (.fAddr 3 (.t 29)), S 31 (.ixA 6 1 (.t 30) (.t 28)), S 32 (.load false 1 (.t 31)), S 33 (.len (.t 32)), S 34 (.mv (.c (.int .i64 0)))]
@[simp] noncomputable def r4 (_ : Unit) : List Stp := [S 35 (.bin .lss (.t 34) (.t 33))]
@[simp] noncomputable def r5 (_ : Unit) : List Stp := [S 36 (.ixS 1 (.t 32) (.t 34)), S 37 (.load false 1 (.t 36)), S 11 (.mv (.t 37))]
@[simp] noncomputable def r6 (_ : Unit) : List Stp := [S 38 (.mv (.t 9)), S 39 (.load true 6 (.t 5)), S 40 (.mv (.t 11)), S 41 (.mv (.t 3)), S 42 (.call (.t 38) [(.t 39), (.t 40), (.t 41)]), SN (.store 6 (.t 5) (.t 42))]
@[simp] noncomputable def r7 (_ : Unit) : List Stp := [S 43 (.bin .add (.t 34) (.c (.int .i64 1))), S 34 (.mv (.t 43))]
@[simp] noncomputable def r8 (_ : Unit) : List Stp := [S 44 (.load true 6 (.t 5)), SN (.store 6 (.t 8) (.t 44))]
@[simp] noncomputable def ir : IR := (.seq (.ops r0) (.seq (.ops r1) (.seq (.ops r2) (.seq (.seq (.ops r3) (.block 0 (.loop (.seq (.ops r4) (.seq (.cond (.t 35) .skip (.exit 0)) (.seq (.block 1 (.seq (.ops r5) (.ops r6))) (.ops r7))))))) (.seq (.ops r8) .ret)))))
@[simp] noncomputable def rs : List RV := [.cell 8 true 6]
theorem comp : compF Pg cfg Tryz.f114 = some (ir, rs, 45) := by kernel_rfl
theorem enter {args : List AVal} {h : Heap} {K : AEnd → Heap → Prop} (F : Nat) (hl : args.length ≤ 45) (a : AW ⟨Pg, F, 45, false, []⟩ ir (RetK rs K) (initT args) [] h) : ACalls Pg fn_drive_hull_opened args h K :=
  ACalls.of_comp follows Tryz.func114 comp hl a
theorem pure {args : List AVal} {v : AVal} (hl : args.length ≤ 45) (a : AW ⟨Pg, 0, 45, false, []⟩ ir (RetK rs fun e _ => e = .ret v) (initT args) [] nilH) : APure Pg fn_drive_hull_opened args v :=
  APure.of_nil (enter 0 hl a)
end drive_hull_opened

namespace drive_blows_with
noncomputable def cfg : Cfg := { pure := pures, pcs := [], raw := [], cuts := [], draws := [], keep := [] }
@[simp] noncomputable def r0 (_ : Unit) : List Stp := [S 3 (.box (.t 0)), S 6 (.alloc [(.int .i64 0), (.int .i64 0), (.int .i64 0), (.int .i64 0), (.int .i64 0), (.int .i64 0)])]
@[simp] noncomputable def r1 (_ : Unit) : List Stp := [S 7 (.mv (.t 1)), S 8 (.ixA 6 1 (.t 3) (.t 7)), S 9 (.load false 1 (.t 8)), S 10 (.mv (.t 2)), S 11 (.bin .add (.t 9) (.t 10)), S 12 (.ixA 6 1 (.t 3) (.t 7)), SN (.store 1 (.t 12) (.t 11))]
@[simp] noncomputable def r2 (_ : Unit) : List Stp := [S 13 (.load true 6 (.t 3)), SN (.store 6 (.t 6) (.t 13))]
@[simp] noncomputable def ir : IR := (.seq (.ops r0) (.seq (.ops r1) (.seq (.ops r2) .ret)))
@[simp] noncomputable def rs : List RV := [.cell 6 true 6]
theorem comp : compF Pg cfg Tryz.f115 = some (ir, rs, 14) := by kernel_rfl
theorem enter {args : List AVal} {h : Heap} {K : AEnd → Heap → Prop} (F : Nat) (hl : args.length ≤ 14) (a : AW ⟨Pg, F, 14, false, []⟩ ir (RetK rs K) (initT args) [] h) : ACalls Pg fn_drive_blows_with args h K :=
  ACalls.of_comp follows Tryz.func115 comp hl a
theorem pure {args : List AVal} {v : AVal} (hl : args.length ≤ 14) (a : AW ⟨Pg, 0, 14, false, []⟩ ir (RetK rs fun e _ => e = .ret v) (initT args) [] nilH) : APure Pg fn_drive_blows_with args v :=
  APure.of_nil (enter 0 hl a)
end drive_blows_with

namespace drive_hull_ends
noncomputable def cfg : Cfg := { pure := pures, pcs := [], raw := [], cuts := [], draws := [], keep := [] }
@[simp] noncomputable def r0 (_ : Unit) : List Stp := [S 4 (.alloc [(.int .i64 0), (.int .i64 0), (.int .i64 0), (.int .i64 0), (.int .i64 0), (.int .i64 0)])]
@[simp] noncomputable def r1 (_ : Unit) : List Stp := [S 7 (.mv (.t 0)), S 8 (.nilck Pg (.t 7)), S 9 (.fAddr 0 (.t 8)), S 10 (.fAddr 2 (.t 9)), S 11 (.load false 1 (.t 10)), S 12 (.len (.t 11)), S 13 (.mv (.c (.int .i64 0)))]
@[simp] noncomputable def r2 (_ : Unit) : List Stp := [S 14 (.bin .lss (.t 13) (.t 12))]
@[simp] noncomputable def r3 (_ : Unit) : List Stp := [S 15 (.mv (.t 13)), S 16 (.ixS 2 (.t 11) (.t 13)), S 17 (.load true 2 (.t 16)), S 6 (.alloc [(.int .i64 0), (.int .i64 0)]), S 5 (.mv (.t 15)), SN (.store 2 (.t 6) (.t 17))]
@[simp] noncomputable def r4 (_ : Unit) : List Stp := [S 18 (.mv (.t 5)), S 19 (.fAddr 0 (.t 6)), S 20 (.load false 1 (.t 19)), S 21 (.ixA 6 1 (.t 4) (.t 18)), SN (.store 1 (.t 21) (.t 20))]
@[simp] noncomputable def r5 (_ : Unit) : List Stp := [S 22 (.mv (.t 1))]
@[simp] noncomputable def r6 (_ : Unit) : List Stp := [S 23 (.mv (.t 5)), S 24 (.fAddr 1 (.t 6)), S 25 (.load false 1 (.t 24)), S 26 (.ixA 6 1 (.t 4) (.t 23)), SN (.store 1 (.t 26) (.t 25))]
@[simp] noncomputable def r7 (_ : Unit) : List Stp := [S 27 (.bin .add (.t 13) (.c (.int .i64 1))), S 13 (.mv (.t 27))]
@[simp] noncomputable def r8 (_ : Unit) : List Stp := [S 28 (.load true 6 (.t 4)), SN (.store 6 (.t 4) (.t 28))]
@[simp] noncomputable def ir : IR := (.seq (.ops r0) (.seq (.seq (.ops r1) (.block 0 (.loop (.seq (.ops r2) (.seq (.cond (.t 14) .skip (.exit 0)) (.seq (.block 1 (.seq (.ops r3) (.seq (.ops r4) (.seq (.ops r5) (.cond (.t 22) (.ops r6) .skip))))) (.ops r7))))))) (.seq (.ops r8) .ret)))
@[simp] noncomputable def rs : List RV := [.cell 4 true 6]
theorem comp : compF Pg cfg Tryz.f116 = some (ir, rs, 29) := by kernel_rfl
theorem enter {args : List AVal} {h : Heap} {K : AEnd → Heap → Prop} (F : Nat) (hl : args.length ≤ 29) (a : AW ⟨Pg, F, 29, false, []⟩ ir (RetK rs K) (initT args) [] h) : ACalls Pg fn_drive_hull_ends args h K :=
  ACalls.of_comp follows Tryz.func116 comp hl a
theorem pure {args : List AVal} {v : AVal} (hl : args.length ≤ 29) (a : AW ⟨Pg, 0, 29, false, []⟩ ir (RetK rs fun e _ => e = .ret v) (initT args) [] nilH) : APure Pg fn_drive_hull_ends args v :=
  APure.of_nil (enter 0 hl a)
end drive_hull_ends

namespace drive_setOf
noncomputable def cfg : Cfg := { pure := pures, pcs := [], raw := [], cuts := [], draws := [], keep := [] }
@[simp] noncomputable def r0 (_ : Unit) : List Stp := [S 2 (.mv (.c (.int .i64 0)))]
@[simp] noncomputable def r1 (_ : Unit) : List Stp := [S 5 (.mv (.t 0)), S 6 (.len (.t 5)), S 7 (.mv (.c (.int .i64 0)))]
@[simp] noncomputable def r2 (_ : Unit) : List Stp := [S 8 (.bin .lss (.t 7) (.t 6))]
@[simp] noncomputable def r3 (_ : Unit) : List Stp := [S 9 (.ixS 1 (.t 5) (.t 7)), S 10 (.load false 1 (.t 9)), S 4 (.mv (.t 10))]
@[simp] noncomputable def r4 (_ : Unit) : List Stp := [S 11 (.mv (.t 2)), S 12 (.mv (.t 4)), S 13 (.bin .shl (.c (.int .i64 1)) (.t 12)), S 14 (.bin .or (.t 11) (.t 13)), S 2 (.mv (.t 14))]
@[simp] noncomputable def r5 (_ : Unit) : List Stp := [S 15 (.bin .add (.t 7) (.c (.int .i64 1))), S 7 (.mv (.t 15))]
@[simp] noncomputable def r6 (_ : Unit) : List Stp := [S 16 (.mv (.t 2)), S 2 (.mv (.t 16))]
@[simp] noncomputable def ir : IR := (.seq (.ops r0) (.seq (.seq (.ops r1) (.block 0 (.loop (.seq (.ops r2) (.seq (.cond (.t 8) .skip (.exit 0)) (.seq (.block 1 (.seq (.ops r3) (.ops r4))) (.ops r5))))))) (.seq (.ops r6) .ret)))
@[simp] noncomputable def rs : List RV := [.tmp 2]
theorem comp : compF Pg cfg Tryz.f117 = some (ir, rs, 17) := by kernel_rfl
theorem enter {args : List AVal} {h : Heap} {K : AEnd → Heap → Prop} (F : Nat) (hl : args.length ≤ 17) (a : AW ⟨Pg, F, 17, false, []⟩ ir (RetK rs K) (initT args) [] h) : ACalls Pg fn_drive_setOf args h K :=
  ACalls.of_comp follows Tryz.func117 comp hl a
theorem pure {args : List AVal} {v : AVal} (hl : args.length ≤ 17) (a : AW ⟨Pg, 0, 17, false, []⟩ ir (RetK rs fun e _ => e = .ret v) (initT args) [] nilH) : APure Pg fn_drive_setOf args v :=
  APure.of_nil (enter 0 hl a)
end drive_setOf

namespace drive_Times_1
noncomputable def cfg : Cfg := { pure := pures, pcs := [], raw := [], cuts := [], draws := [], keep := [] }
@[simp] noncomputable def r0 (_ : Unit) : List Stp := [S 1 (.recov), S 2 (.call (.c (.func (.func fn_drive_said) [] [])) [(.t 1), (.t 0)])]
@[simp] noncomputable def ir : IR := (.ops r0)
@[simp] noncomputable def rs : List RV := []
theorem comp : compF Pg cfg Tryz.f118 = some (ir, rs, 3) := by kernel_rfl
theorem enter {args : List AVal} {h : Heap} {K : AEnd → Heap → Prop} (F : Nat) (hl : args.length ≤ 3) (a : AW ⟨Pg, F, 3, false, []⟩ ir (RetK rs K) (initT args) [] h) : ACalls Pg fn_drive_Times_1 args h K :=
  ACalls.of_comp follows Tryz.func118 comp hl a
theorem pure {args : List AVal} {v : AVal} (hl : args.length ≤ 3) (a : AW ⟨Pg, 0, 3, false, []⟩ ir (RetK rs fun e _ => e = .ret v) (initT args) [] nilH) : APure Pg fn_drive_Times_1 args v :=
  APure.of_nil (enter 0 hl a)
theorem recClo : RecClo Pg fn_drive_Times_1 fn_drive_said := ⟨_, Tryz.func118, by kernel_rfl⟩
end drive_Times_1

namespace ref05_truths
noncomputable def cfg : Cfg := { pure := pures, pcs := [], raw := [], cuts := [], draws := [(7, [⟨2, false, [], []⟩, ⟨4, false, [], []⟩, ⟨7, false, [], []⟩, ⟨0, false, [], []⟩, ⟨1, true, [], []⟩, ⟨5, true, [], []⟩, ⟨3, false, [], [0]⟩, ⟨6, false, [], [0]⟩, ⟨8, false, [], []⟩, ⟨9, false, [], []⟩])], keep := [] }
@[simp] noncomputable def r0 (_ : Unit) : List Stp := [S 3 (.box (.t 0)), S 6 (.mv (.c .nils))]
@[simp] noncomputable def r1 (_ : Unit) : List Stp := [S 9 (.mv (.t 1)), S 10 (.len (.t 9)), S 11 (.fAddr 0 (.t 3)), S 12 (.load false 1 (.t 11)), S 13 (.len (.t 12)), S 14 (.bin .eql (.t 10) (.t 13))]
@[simp] noncomputable def r2 (_ : Unit) : List Stp := [S 15 (.mv (.t 2)), S 16 (.mv (.t 1)), S 17 (.bsl 1 [.nils] [(0, 1, (.t 16))]), S 18 (.app 1 24 (.t 15) (.t 17)), S 6 (.mv (.t 18))]
@[simp] noncomputable def r3 (_ : Unit) : List Stp := [S 19 (.fAddr 2 (.t 3)), S 20 (.load false 1 (.t 19)), S 21 (.mv (.t 1)), S 22 (.len (.t 21)), S 23 (.ixS 2 (.t 20) (.t 22)), S 24 (.load true 2 (.t 23)), S 7 (.alloc [(.int .i64 0), (.int .i64 0)]), SN (.store 2 (.t 7) (.t 24))]
@[simp] noncomputable def r4 (_ : Unit) : List Stp := [S 25 (.fAddr 0 (.t 7)), S 26 (.load false 1 (.t 25)), S 8 (.mv (.t 26))]
@[simp] noncomputable def r5 (_ : Unit) : List Stp := [S 27 (.mv (.t 8)), S 28 (.fAddr 1 (.t 7)), S 29 (.load false 1 (.t 28)), S 30 (.bin .leq (.t 27) (.t 29))]
@[simp] noncomputable def r7 (_ : Unit) : List Stp := [S 35 (.mv (.t 1)), S 37 (.mv (.t 8)), S 40 (.mv (.t 2)), S 33 (.load true 3 (.t 3)), SD (some 34) (.bsl 0 [] []) true [] [], SD (some 38) (.bsl 1 [(.int .i64 0)] [(0, 1, (.t 37))]) true [] [], SD (some 36) (.app 1 8 (.t 34) (.t 35)) false [] [I 33 (.load true 3 (.t 3))], SD (some 39) (.app 1 8 (.t 36) (.t 38)) false [] [I 33 (.load true 3 (.t 3))], S 41 (.call (.c (.func (.func fn_ref05_truths) [] [])) [(.t 33), (.t 39), (.t 40)]), S 2 (.mv (.t 41))]
@[simp] noncomputable def r6 (_ : Unit) : List Stp := [S 31 (.mv (.t 8)), S 32 (.bin .add (.t 31) (.c (.int .i64 1))), S 8 (.mv (.t 32))]
@[simp] noncomputable def r8 (_ : Unit) : List Stp := [S 42 (.mv (.t 2)), S 6 (.mv (.t 42))]
@[simp] noncomputable def ir : IR := (.seq (.ops r0) (.seq (.seq (.ops r1) (.cond (.t 14) (.seq (.ops r2) .ret) .skip)) (.seq (.ops r3) (.seq (.seq (.ops r4) (.block 0 (.loop (.seq (.seq (.ops r5) (.cond (.t 30) .skip (.exit 0))) (.seq (.block 1 (.ops r7)) (.ops r6)))))) (.seq (.ops r8) .ret)))))
@[simp] noncomputable def rs : List RV := [.tmp 6]
theorem comp : compF Pg cfg Tryz.f119 = some (ir, rs, 43) := by kernel_rfl
theorem enter {args : List AVal} {h : Heap} {K : AEnd → Heap → Prop} (F : Nat) (hl : args.length ≤ 43) (a : AW ⟨Pg, F, 43, false, []⟩ ir (RetK rs K) (initT args) [] h) : ACalls Pg fn_ref05_truths args h K :=
  ACalls.of_comp follows Tryz.func119 comp hl a
theorem pure {args : List AVal} {v : AVal} (hl : args.length ≤ 43) (a : AW ⟨Pg, 0, 43, false, []⟩ ir (RetK rs fun e _ => e = .ret v) (initT args) [] nilH) : APure Pg fn_ref05_truths args v :=
  APure.of_nil (enter 0 hl a)
end ref05_truths

namespace ref05_run
noncomputable def cfg : Cfg := { pure := pures, pcs := [], raw := [], cuts := [], draws := [(8, [⟨0, false, [], []⟩, ⟨1, false, [], []⟩, ⟨2, false, [], []⟩, ⟨3, false, [], []⟩, ⟨7, false, [], []⟩, ⟨9, false, [], []⟩, ⟨10, false, [], []⟩, ⟨11, false, [], []⟩, ⟨4, false, [], []⟩, ⟨5, false, [], []⟩, ⟨6, false, [], []⟩, ⟨8, false, [], []⟩, ⟨12, false, [], []⟩, ⟨13, false, [], []⟩, ⟨14, false, [], []⟩, ⟨15, false, [], []⟩]), (9, [⟨0, false, [], []⟩, ⟨1, false, [], []⟩, ⟨2, false, [], []⟩, ⟨3, false, [], []⟩, ⟨8, false, [], []⟩, ⟨9, false, [], []⟩, ⟨10, false, [], []⟩, ⟨11, false, [], []⟩, ⟨4, false, [], []⟩, ⟨7, false, [], []⟩, ⟨12, false, [], []⟩, ⟨5, true, [], []⟩, ⟨6, false, [], [7, 12]⟩, ⟨13, false, [], []⟩, ⟨14, false, [], []⟩, ⟨15, false, [], []⟩, ⟨16, false, [], []⟩])], keep := [] }
@[simp] noncomputable def r0 (_ : Unit) : List Stp := [S 3 (.box (.t 0)), S 6 (.mv (.c .nils)), S 7 (.mv (.c .nils))]
@[simp] noncomputable def r1 (_ : Unit) : List Stp := [S 8 (.mv (.c .nils))]
@[simp] noncomputable def r2 (_ : Unit) : List Stp := [S 9 (.mv (.c (.bool true)))]
@[simp] noncomputable def r3 (_ : Unit) : List Stp := [S 11 (.mv (.t 9))]
@[simp] noncomputable def r4 (_ : Unit) : List Stp := [S 9 (.mv (.c (.bool false)))]
@[simp] noncomputable def r5 (_ : Unit) : List Stp := [S 10 (.mv (.c (.int .i64 0)))]
@[simp] noncomputable def r6 (_ : Unit) : List Stp := [S 12 (.mv (.t 10)), S 13 (.mv (.t 2)), S 14 (.len (.t 13)), S 15 (.bin .lss (.t 12) (.t 14))]
@[simp] noncomputable def r8 (_ : Unit) : List Stp := [S 18 (.mv (.t 1)), S 19 (.mv (.t 2)), S 20 (.mv (.t 10)), S 21 (.ixS 1 (.t 19) (.t 20)), S 25 (.fAddr 0 (.t 3)), S 27 (.mv (.t 2)), S 28 (.mv (.t 10)), S 29 (.ixS 1 (.t 27) (.t 28)), S 22 (.load false 1 (.t 21)), S 23 (.ixS 1 (.t 18) (.t 22)), S 24 (.load false 1 (.t 23)), S 26 (.load false 1 (.t 25)), S 30 (.load false 1 (.t 29)), S 31 (.ixS 1 (.t 26) (.t 30)), S 32 (.load false 1 (.t 31)), S 33 (.bin .geq (.t 24) (.t 32))]
@[simp] noncomputable def r9 (_ : Unit) : List Stp := [S 34 (.mv (.t 8)), S 35 (.mv (.t 2)), S 36 (.mv (.t 10)), S 37 (.ixS 1 (.t 35) (.t 36)), S 42 (.mv (.t 1)), S 43 (.mv (.t 2)), S 44 (.mv (.t 10)), S 45 (.ixS 1 (.t 43) (.t 44)), S 38 (.load false 1 (.t 37)), S 41 (.load true 3 (.t 3)), S 46 (.load false 1 (.t 45)), SD (some 39) (.bsl 1 [(.int .i64 0)] [(0, 1, (.t 38))]) true [] [], SD (some 40) (.app 1 8 (.t 34) (.t 39)) false [] [I 41 (.load true 3 (.t 3)), I 46 (.load false 1 (.t 45))], SP 47 (.call (.c (.func (.func fn_ref05_open) [] [])) [(.t 41), (.t 42), (.t 46)]), S 8 (.mv (.t 40)), S 1 (.mv (.t 47)), S 9 (.mv (.c (.bool true)))]
@[simp] noncomputable def r7 (_ : Unit) : List Stp := [S 16 (.mv (.t 10)), S 17 (.bin .add (.t 16) (.c (.int .i64 1))), S 10 (.mv (.t 17))]
@[simp] noncomputable def r10 (_ : Unit) : List Stp := [S 48 (.mv (.t 8)), S 49 (.mv (.t 1)), S 6 (.mv (.t 48)), S 7 (.mv (.t 49))]
@[simp] noncomputable def ir : IR := (.seq (.ops r0) (.seq (.ops r1) (.seq (.seq (.ops r2) (.block 0 (.loop (.seq (.seq (.ops r3) (.cond (.t 11) .skip (.exit 0))) (.block 1 (.seq (.ops r4) (.seq (.ops r5) (.block 2 (.loop (.seq (.seq (.ops r6) (.cond (.t 15) .skip (.exit 2))) (.seq (.block 3 (.seq (.ops r8) (.cond (.t 33) (.seq (.ops r9) (.exit 2)) .skip))) (.ops r7)))))))))))) (.seq (.ops r10) .ret))))
@[simp] noncomputable def rs : List RV := [.tmp 6, .tmp 7]
theorem comp : compF Pg cfg Tryz.f120 = some (ir, rs, 50) := by kernel_rfl
theorem enter {args : List AVal} {h : Heap} {K : AEnd → Heap → Prop} (F : Nat) (hl : args.length ≤ 50) (a : AW ⟨Pg, F, 50, false, []⟩ ir (RetK rs K) (initT args) [] h) : ACalls Pg fn_ref05_run args h K :=
  ACalls.of_comp follows Tryz.func120 comp hl a
theorem pure {args : List AVal} {v : AVal} (hl : args.length ≤ 50) (a : AW ⟨Pg, 0, 50, false, []⟩ ir (RetK rs fun e _ => e = .ret v) (initT args) [] nilH) : APure Pg fn_ref05_run args v :=
  APure.of_nil (enter 0 hl a)
end ref05_run

namespace ref05_rising
noncomputable def cfg : Cfg := { pure := pures, pcs := [], raw := [], cuts := [], draws := [], keep := [] }
@[simp] noncomputable def r0 (_ : Unit) : List Stp := [S 1 (.box (.t 0)), S 2 (.mv (.c .nils))]
@[simp] noncomputable def r1 (_ : Unit) : List Stp := [S 3 (.mv (.c .nils))]
@[simp] noncomputable def r2 (_ : Unit) : List Stp := [S 4 (.mv (.c (.int .i64 0)))]
@[simp] noncomputable def r3 (_ : Unit) : List Stp := [S 5 (.mv (.t 4)), S 6 (.fAddr 0 (.t 1)), S 7 (.load false 1 (.t 6)), S 8 (.len (.t 7)), S 9 (.bin .lss (.t 5) (.t 8))]
@[simp] noncomputable def r5 (_ : Unit) : List Stp := [S 12 (.mv (.t 3)), S 13 (.mv (.t 4)), S 14 (.bsl 1 [(.int .i64 0)] [(0, 1, (.t 13))]), S 15 (.app 1 8 (.t 12) (.t 14)), S 3 (.mv (.t 15))]
@[simp] noncomputable def r4 (_ : Unit) : List Stp := [S 10 (.mv (.t 4)), S 11 (.bin .add (.t 10) (.c (.int .i64 1))), S 4 (.mv (.t 11))]
@[simp] noncomputable def r6 (_ : Unit) : List Stp := [S 16 (.mv (.t 3)), S 2 (.mv (.t 16))]
@[simp] noncomputable def ir : IR := (.seq (.ops r0) (.seq (.ops r1) (.seq (.seq (.ops r2) (.block 0 (.loop (.seq (.seq (.ops r3) (.cond (.t 9) .skip (.exit 0))) (.seq (.block 1 (.ops r5)) (.ops r4)))))) (.seq (.ops r6) .ret))))
@[simp] noncomputable def rs : List RV := [.tmp 2]
theorem comp : compF Pg cfg Tryz.f121 = some (ir, rs, 17) := by kernel_rfl
theorem enter {args : List AVal} {h : Heap} {K : AEnd → Heap → Prop} (F : Nat) (hl : args.length ≤ 17) (a : AW ⟨Pg, F, 17, false, []⟩ ir (RetK rs K) (initT args) [] h) : ACalls Pg fn_ref05_rising args h K :=
  ACalls.of_comp follows Tryz.func121 comp hl a
theorem pure {args : List AVal} {v : AVal} (hl : args.length ≤ 17) (a : AW ⟨Pg, 0, 17, false, []⟩ ir (RetK rs fun e _ => e = .ret v) (initT args) [] nilH) : APure Pg fn_ref05_rising args v :=
  APure.of_nil (enter 0 hl a)
end ref05_rising

namespace rap_hull_blows_1
noncomputable def cfg : Cfg := { pure := pures, pcs := [], raw := [], cuts := [], draws := [], keep := [] }
@[simp] noncomputable def r0 (_ : Unit) : List Stp := [S 2 (.box (.t 0))]
@[simp] noncomputable def r1 (_ : Unit) : List Stp := [S 3 (.alloc [.nilf])]
@[simp] noncomputable def r2 (_ : Unit) : List Stp := [S 4 (.mkF (.func fn_rap_hull_blows_1_1) [] [(.t 1), (.t 2), (.t 3)]), SN (.store 1 (.t 3) (.t 4))]
@[simp] noncomputable def r3 (_ : Unit) : List Stp := [S 5 (.load false 1 (.t 3)), S 6 (.call (.t 5) [(.c .nils)])]
@[simp] noncomputable def ir : IR := (.seq (.ops r0) (.seq (.ops r1) (.seq (.ops r2) (.ops r3))))
@[simp] noncomputable def rs : List RV := []
theorem comp : compF Pg cfg Tryz.f122 = some (ir, rs, 7) := by kernel_rfl
theorem enter {args : List AVal} {h : Heap} {K : AEnd → Heap → Prop} (F : Nat) (hl : args.length ≤ 7) (a : AW ⟨Pg, F, 7, false, []⟩ ir (RetK rs K) (initT args) [] h) : ACalls Pg fn_rap_hull_blows_1 args h K :=
  ACalls.of_comp follows Tryz.func122 comp hl a
theorem pure {args : List AVal} {v : AVal} (hl : args.length ≤ 7) (a : AW ⟨Pg, 0, 7, false, []⟩ ir (RetK rs fun e _ => e = .ret v) (initT args) [] nilH) : APure Pg fn_rap_hull_blows_1 args v :=
  APure.of_nil (enter 0 hl a)
end rap_hull_blows_1

namespace rap_hull_blows_1_1
noncomputable def cfg : Cfg := { pure := pures, pcs := [], raw := [], cuts := [], draws := [(7, [⟨1, false, [], []⟩, ⟨3, false, [], []⟩, ⟨0, false, [], []⟩, ⟨2, false, [4], [0]⟩, ⟨4, true, [], []⟩, ⟨5, false, [], [0]⟩, ⟨6, false, [], []⟩, ⟨7, false, [], []⟩])], keep := [] }
@[simp] noncomputable def r0 (_ : Unit) : List Stp := [S 5 (.mv (.c (.bool false)))]
@[simp] noncomputable def r1 (_ : Unit) : List Stp := [S 8 (.mv (.t 0)), S 9 (.len (.t 8)), S 10 (.load false 1 (.t 1)), SP 11 (.call (.c (.func (.func fn_rap_hull_seams) [] [])) [(.t 10)]), S 12 (.bin .eql (.t 9) (.t 11))]
@[simp] noncomputable def r2 (_ : Unit) : List Stp := [S 13 (.load false 1 (.t 2)), S 14 (.mv (.t 0)), S 15 (.call (.t 13) [(.t 14)]), S 5 (.mv (.t 15))]
@[simp] noncomputable def r3 (_ : Unit) : List Stp := [S 16 (.load false 1 (.t 1)), S 17 (.nilck Pg (.t 16)), S 18 (.fAddr 0 (.t 17)), S 19 (.fAddr 0 (.t 18)), S 20 (.fAddr 2 (.t 19)), S 21 (.load false 1 (.t 20)), S 22 (.mv (.t 0)), S 23 (.len (.t 22)), S 24 (.ixS 2 (.t 21) (.t 23)), S 25 (.load true 2 (.t 24)), S 6 (.alloc [(.int .i64 0), (.int .i64 0)]), SN (.store 2 (.t 6) (.t 25))]
@[simp] noncomputable def r4 (_ : Unit) : List Stp := [S 26 (.fAddr 0 (.t 6)), S 27 (.load false 1 (.t 26)), S 7 (.mv (.t 27))]
@[simp] noncomputable def r5 (_ : Unit) : List Stp := [S 28 (.mv (.t 7)), S 29 (.fAddr 1 (.t 6)), S 30 (.load false 1 (.t 29)), S 31 (.bin .leq (.t 28) (.t 30))]
@[simp] noncomputable def r7 (_ : Unit) : List Stp := [S 35 (.mv (.t 0)), S 37 (.mv (.t 7)), S 34 (.load false 1 (.t 3)), SD (some 36) (.call (.c (.func (.func fn_slices_Clone_int_int) [] [])) [(.t 35)]) false [I 38 (.bsl 1 [(.int .i64 0)] [(0, 1, (.t 37))])] [I 34 (.load false 1 (.t 3))], SD (some 38) (.bsl 1 [(.int .i64 0)] [(0, 1, (.t 37))]) true [] [], SD (some 39) (.app 1 8 (.t 36) (.t 38)) false [] [I 34 (.load false 1 (.t 3))], S 40 (.call (.t 34) [(.t 39)]), S 41 (.un .not (.t 40))]
@[simp] noncomputable def r8 (_ : Unit) : List Stp := [S 5 (.mv (.c (.bool false)))]
@[simp] noncomputable def r6 (_ : Unit) : List Stp := [S 32 (.mv (.t 7)), S 33 (.bin .add (.t 32) (.c (.int .i64 1))), S 7 (.mv (.t 33))]
@[simp] noncomputable def r9 (_ : Unit) : List Stp := [S 5 (.mv (.c (.bool true)))]
@[simp] noncomputable def ir : IR := (.seq (.ops r0) (.seq (.seq (.ops r1) (.cond (.t 12) (.seq (.ops r2) .ret) .skip)) (.seq (.ops r3) (.seq (.seq (.ops r4) (.block 0 (.loop (.seq (.seq (.ops r5) (.cond (.t 31) .skip (.exit 0))) (.seq (.block 1 (.seq (.ops r7) (.cond (.t 41) (.seq (.ops r8) .ret) .skip))) (.ops r6)))))) (.seq (.ops r9) .ret)))))
@[simp] noncomputable def rs : List RV := [.tmp 5]
theorem comp : compF Pg cfg Tryz.f123 = some (ir, rs, 42) := by kernel_rfl
theorem enter {args : List AVal} {h : Heap} {K : AEnd → Heap → Prop} (F : Nat) (hl : args.length ≤ 42) (a : AW ⟨Pg, F, 42, false, []⟩ ir (RetK rs K) (initT args) [] h) : ACalls Pg fn_rap_hull_blows_1_1 args h K :=
  ACalls.of_comp follows Tryz.func123 comp hl a
theorem pure {args : List AVal} {v : AVal} (hl : args.length ≤ 42) (a : AW ⟨Pg, 0, 42, false, []⟩ ir (RetK rs fun e _ => e = .ret v) (initT args) [] nilH) : APure Pg fn_rap_hull_blows_1_1 args v :=
  APure.of_nil (enter 0 hl a)
end rap_hull_blows_1_1

namespace slices_Index_2_int_2_int
noncomputable def cfg : Cfg := { pure := pures, pcs := [], raw := [], cuts := [], draws := [(4, [⟨1, false, [], []⟩, ⟨2, false, [], []⟩, ⟨3, false, [], []⟩, ⟨0, false, [], []⟩, ⟨4, false, [], []⟩, ⟨5, false, [], []⟩])], keep := [] }
@[simp] noncomputable def r0 (_ : Unit) : List Stp := [S 3 (.box (.t 1)), S 4 (.mv (.c (.int .i64 0)))]
@[simp] noncomputable def r1 (_ : Unit) : List Stp := [S 6 (.mv (.t 0)), S 7 (.len (.t 6)), S 8 (.mv (.c (.int .i64 0)))]
@[simp] noncomputable def r2 (_ : Unit) : List Stp := [S 9 (.bin .lss (.t 8) (.t 7))]
@[simp] noncomputable def r3 (_ : Unit) : List Stp := [S 10 (.mv (.t 8)), S 5 (.mv (.t 10))]
@[simp] noncomputable def r4 (_ : Unit) : List Stp := [S 12 (.mv (.t 0)), S 13 (.mv (.t 5)), S 14 (.ixS 2 (.t 12) (.t 13)), S 11 (.load true 2 (.t 3)), S 15 (.load true 2 (.t 14)), S 16 (.eqA false [.i, .i] (.t 11) (.t 15))]
@[simp] noncomputable def r5 (_ : Unit) : List Stp := [S 17 (.mv (.t 5)), S 4 (.mv (.t 17))]
@[simp] noncomputable def r6 (_ : Unit) : List Stp := [S 18 (.bin .add (.t 8) (.c (.int .i64 1))), S 8 (.mv (.t 18))]
@[simp] noncomputable def r7 (_ : Unit) : List Stp := [S 4 (.mv (.c (.int .i64 (-1))))]
@[simp] noncomputable def ir : IR := (.seq (.ops r0) (.seq (.seq (.ops r1) (.block 0 (.loop (.seq (.ops r2) (.seq (.cond (.t 9) .skip (.exit 0)) (.seq (.block 1 (.seq (.ops r3) (.seq (.ops r4) (.cond (.t 16) (.seq (.ops r5) .ret) .skip)))) (.ops r6))))))) (.seq (.ops r7) .ret)))
@[simp] noncomputable def rs : List RV := [.tmp 4]
theorem comp : compF Pg cfg Tryz.f126 = some (ir, rs, 19) := by kernel_rfl
theorem enter {args : List AVal} {h : Heap} {K : AEnd → Heap → Prop} (F : Nat) (hl : args.length ≤ 19) (a : AW ⟨Pg, F, 19, false, []⟩ ir (RetK rs K) (initT args) [] h) : ACalls Pg fn_slices_Index_2_int_2_int args h K :=
  ACalls.of_comp follows Tryz.func126 comp hl a
theorem pure {args : List AVal} {v : AVal} (hl : args.length ≤ 19) (a : AW ⟨Pg, 0, 19, false, []⟩ ir (RetK rs fun e _ => e = .ret v) (initT args) [] nilH) : APure Pg fn_slices_Index_2_int_2_int args v :=
  APure.of_nil (enter 0 hl a)
end slices_Index_2_int_2_int

namespace slices_IndexFunc_int_int
noncomputable def cfg : Cfg := { pure := pures, pcs := [], raw := [], cuts := [], draws := [], keep := [] }
@[simp] noncomputable def r0 (_ : Unit) : List Stp := [S 4 (.mv (.c (.int .i64 0)))]
@[simp] noncomputable def r1 (_ : Unit) : List Stp := [S 6 (.mv (.t 0)), S 7 (.len (.t 6)), S 8 (.mv (.c (.int .i64 0)))]
@[simp] noncomputable def r2 (_ : Unit) : List Stp := [S 9 (.bin .lss (.t 8) (.t 7))]
@[simp] noncomputable def r3 (_ : Unit) : List Stp := [S 10 (.mv (.t 8)), S 5 (.mv (.t 10))]
@[simp] noncomputable def r4 (_ : Unit) : List Stp := [S 11 (.mv (.t 1)), S 12 (.mv (.t 0)), S 13 (.mv (.t 5)), S 14 (.ixS 1 (.t 12) (.t 13)), S 15 (.load false 1 (.t 14)), S 16 (.call (.t 11) [(.t 15)])]
@[simp] noncomputable def r5 (_ : Unit) : List Stp := [S 17 (.mv (.t 5)), S 4 (.mv (.t 17))]
@[simp] noncomputable def r6 (_ : Unit) : List Stp := [S 18 (.bin .add (.t 8) (.c (.int .i64 1))), S 8 (.mv (.t 18))]
@[simp] noncomputable def r7 (_ : Unit) : List Stp := [S 4 (.mv (.c (.int .i64 (-1))))]
@[simp] noncomputable def ir : IR := (.seq (.ops r0) (.seq (.seq (.ops r1) (.block 0 (.loop (.seq (.ops r2) (.seq (.cond (.t 9) .skip (.exit 0)) (.seq (.block 1 (.seq (.ops r3) (.seq (.ops r4) (.cond (.t 16) (.seq (.ops r5) .ret) .skip)))) (.ops r6))))))) (.seq (.ops r7) .ret)))
@[simp] noncomputable def rs : List RV := [.tmp 4]
theorem comp : compF Pg cfg Tryz.f127 = some (ir, rs, 19) := by kernel_rfl
theorem enter {args : List AVal} {h : Heap} {K : AEnd → Heap → Prop} (F : Nat) (hl : args.length ≤ 19) (a : AW ⟨Pg, F, 19, false, []⟩ ir (RetK rs K) (initT args) [] h) : ACalls Pg fn_slices_IndexFunc_int_int args h K :=
  ACalls.of_comp follows Tryz.func127 comp hl a
theorem pure {args : List AVal} {v : AVal} (hl : args.length ≤ 19) (a : AW ⟨Pg, 0, 19, false, []⟩ ir (RetK rs fun e _ => e = .ret v) (initT args) [] nilH) : APure Pg fn_slices_IndexFunc_int_int args v :=
  APure.of_nil (enter 0 hl a)
end slices_IndexFunc_int_int

namespace ref05_open
noncomputable def cfg : Cfg := { pure := pures, pcs := [], raw := [], cuts := [], draws := [(2, [⟨0, false, [], []⟩, ⟨1, false, [], []⟩, ⟨2, false, [], []⟩, ⟨3, false, [], []⟩, ⟨4, false, [], []⟩, ⟨6, false, [], []⟩, ⟨8, false, [], []⟩, ⟨5, false, [], []⟩, ⟨7, false, [], []⟩, ⟨9, false, [], []⟩, ⟨10, false, [], []⟩, ⟨11, false, [], []⟩, ⟨12, false, [], []⟩, ⟨13, false, [], []⟩])], keep := [] }
@[simp] noncomputable def r0 (_ : Unit) : List Stp := [S 3 (.box (.t 0)), S 6 (.mv (.c .nils))]
@[simp] noncomputable def r1 (_ : Unit) : List Stp := [S 9 (.bsl 0 [] []), S 10 (.mv (.t 1)), S 11 (.app 1 8 (.t 9) (.t 10)), S 7 (.mv (.t 11))]
@[simp] noncomputable def r2 (_ : Unit) : List Stp := [S 12 (.mv (.t 7)), S 13 (.mv (.t 2)), S 14 (.mv (.t 7)), S 15 (.mv (.t 2)), S 16 (.ixS 1 (.t 14) (.t 15)), S 18 (.fAddr 0 (.t 3)), S 20 (.mv (.t 2)), S 17 (.load false 1 (.t 16)), S 19 (.load false 1 (.t 18)), S 21 (.ixS 1 (.t 19) (.t 20)), S 22 (.load false 1 (.t 21)), S 23 (.bin .sub (.t 17) (.t 22)), S 24 (.ixS 1 (.t 12) (.t 13)), SN (.store 1 (.t 24) (.t 23))]
@[simp] noncomputable def r3 (_ : Unit) : List Stp := [S 8 (.mv (.c (.int .i64 0)))]
@[simp] noncomputable def r4 (_ : Unit) : List Stp := [S 25 (.mv (.t 8)), S 26 (.fAddr 1 (.t 3)), S 27 (.load false 1 (.t 26)), S 28 (.len (.t 27)), S 29 (.bin .lss (.t 25) (.t 28))]
@[simp] noncomputable def r6 (_ : Unit) : List Stp := [S 32 (.fAddr 1 (.t 3)), S 33 (.load false 1 (.t 32)), S 34 (.mv (.t 8)), S 35 (.ixS 2 (.t 33) (.t 34)), S 36 (.ixA 2 1 (.t 35) (.c (.int .i64 0))), S 37 (.load false 1 (.t 36)), S 38 (.mv (.t 2)), S 39 (.bin .eql (.t 37) (.t 38))]
@[simp] noncomputable def r7 (_ : Unit) : List Stp := [S 40 (.mv (.t 7)), S 41 (.fAddr 1 (.t 3)), S 42 (.load false 1 (.t 41)), S 43 (.mv (.t 8)), S 44 (.ixS 2 (.t 42) (.t 43)), S 45 (.ixA 2 1 (.t 44) (.c (.int .i64 1))), S 46 (.load false 1 (.t 45)), S 47 (.ixS 1 (.t 40) (.t 46)), S 48 (.load false 1 (.t 47)), S 49 (.bin .add (.t 48) (.c (.int .i64 1))), S 50 (.ixS 1 (.t 40) (.t 46)), SN (.store 1 (.t 50) (.t 49))]
@[simp] noncomputable def r8 (_ : Unit) : List Stp := [S 51 (.fAddr 1 (.t 3)), S 52 (.load false 1 (.t 51)), S 53 (.mv (.t 8)), S 54 (.ixS 2 (.t 52) (.t 53)), S 55 (.ixA 2 1 (.t 54) (.c (.int .i64 1))), S 56 (.load false 1 (.t 55)), S 57 (.mv (.t 2)), S 58 (.bin .eql (.t 56) (.t 57))]
@[simp] noncomputable def r9 (_ : Unit) : List Stp := [S 59 (.mv (.t 7)), S 60 (.fAddr 1 (.t 3)), S 61 (.load false 1 (.t 60)), S 62 (.mv (.t 8)), S 63 (.ixS 2 (.t 61) (.t 62)), S 64 (.ixA 2 1 (.t 63) (.c (.int .i64 0))), S 65 (.load false 1 (.t 64)), S 66 (.ixS 1 (.t 59) (.t 65)), S 67 (.load false 1 (.t 66)), S 68 (.bin .add (.t 67) (.c (.int .i64 1))), S 69 (.ixS 1 (.t 59) (.t 65)), SN (.store 1 (.t 69) (.t 68))]
@[simp] noncomputable def r5 (_ : Unit) : List Stp := [S 30 (.mv (.t 8)), S 31 (.bin .add (.t 30) (.c (.int .i64 1))), S 8 (.mv (.t 31))]
@[simp] noncomputable def r10 (_ : Unit) : List Stp := [S 70 (.mv (.t 7)), S 6 (.mv (.t 70))]
@[simp] noncomputable def ir : IR := (.seq (.ops r0) (.seq (.ops r1) (.seq (.ops r2) (.seq (.seq (.ops r3) (.block 0 (.loop (.seq (.seq (.ops r4) (.cond (.t 29) .skip (.exit 0))) (.seq (.block 1 (.seq (.seq (.ops r6) (.cond (.t 39) (.ops r7) .skip)) (.seq (.ops r8) (.cond (.t 58) (.ops r9) .skip)))) (.ops r5)))))) (.seq (.ops r10) .ret)))))
@[simp] noncomputable def rs : List RV := [.tmp 6]
theorem comp : compF Pg cfg Tryz.f128 = some (ir, rs, 71) := by kernel_rfl
theorem enter {args : List AVal} {h : Heap} {K : AEnd → Heap → Prop} (F : Nat) (hl : args.length ≤ 71) (a : AW ⟨Pg, F, 71, false, []⟩ ir (RetK rs K) (initT args) [] h) : ACalls Pg fn_ref05_open args h K :=
  ACalls.of_comp follows Tryz.func128 comp hl a
theorem pure {args : List AVal} {v : AVal} (hl : args.length ≤ 71) (a : AW ⟨Pg, 0, 71, false, []⟩ ir (RetK rs fun e _ => e = .ret v) (initT args) [] nilH) : APure Pg fn_ref05_open args v :=
  APure.of_nil (enter 0 hl a)
end ref05_open

namespace rap_nothing_hears
noncomputable def cfg : Cfg := { pure := pures, pcs := [], raw := [], cuts := [], draws := [], keep := [] }
@[simp] noncomputable def r0 (_ : Unit) : List Stp := [S 2 (.box (.t 0)), S 3 (.box (.t 1)), S 4 (.mv (.c (.bool false)))]
@[simp] noncomputable def r1 (_ : Unit) : List Stp := [S 4 (.mv (.c (.bool true)))]
@[simp] noncomputable def ir : IR := (.seq (.ops r0) (.seq (.ops r1) .ret))
@[simp] noncomputable def rs : List RV := [.tmp 4]
theorem comp : compF Pg cfg Tryz.f160 = some (ir, rs, 5) := by kernel_rfl
theorem enter {args : List AVal} {h : Heap} {K : AEnd → Heap → Prop} (F : Nat) (hl : args.length ≤ 5) (a : AW ⟨Pg, F, 5, false, []⟩ ir (RetK rs K) (initT args) [] h) : ACalls Pg fn_rap_nothing_hears args h K :=
  ACalls.of_comp follows Tryz.func160 comp hl a
theorem pure {args : List AVal} {v : AVal} (hl : args.length ≤ 5) (a : AW ⟨Pg, 0, 5, false, []⟩ ir (RetK rs fun e _ => e = .ret v) (initT args) [] nilH) : APure Pg fn_rap_nothing_hears args v :=
  APure.of_nil (enter 0 hl a)
end rap_nothing_hears

-- rap_knock_hears: not covered

end Go.Cw
end
