/-
  The program's functions in the small form.
-/
import Derived.Test.YtfdkhgegijiceaaGa
set_option linter.unusedVariables false
set_option linter.unusedSimpArgs false
set_option linter.unusedSectionVars false

/- Functions in the small form. Printed by a program of this seat's proofs. -/
section
namespace Go.Cw
open Go Go.Proofs

namespace law05_sample
noncomputable def cfg : Cfg := { pure := pures, pcs := [], raw := [], cuts := [], draws := [], keep := [] }
@[simp] noncomputable def r0 (_ : Unit) : List Stp := [S 0 (.alloc [.nils, .nils, .nils])]
@[simp] noncomputable def r1 (_ : Unit) : List Stp := [S 1 (.bsl 3 [(.int .i64 0), (.int .i64 0), (.int .i64 0)] [(0, 1, (.c (.int .i64 3))), (1, 1, (.c (.int .i64 3))), (2, 1, (.c (.int .i64 3)))]), S 2 (.build [(.int .i64 0), (.int .i64 0)] [(0, 1, (.c (.int .i64 0))), (1, 1, (.c (.int .i64 1)))]), S 3 (.build [(.int .i64 0), (.int .i64 0)] [(0, 1, (.c (.int .i64 1))), (1, 1, (.c (.int .i64 2)))]), S 4 (.bsl 2 [(.int .i64 0), (.int .i64 0), (.int .i64 0), (.int .i64 0)] [(0, 2, (.t 2)), (2, 2, (.t 3))]), SP 5 (.call (.c (.func (.func fn_law05_span) [] [])) [(.c (.int .i64 4)), (.c (.int .i64 4))]), SP 6 (.call (.c (.func (.func fn_law05_span) [] [])) [(.c (.int .i64 2)), (.c (.int .i64 2))]), SP 7 (.call (.c (.func (.func fn_law05_span) [] [])) [(.c (.int .i64 1)), (.c (.int .i64 2))]), S 8 (.bsl 3 [(.int .i64 0), (.int .i64 0), (.int .i64 0), (.int .i64 0), (.int .i64 0), (.int .i64 0)] [(0, 2, (.t 5)), (2, 2, (.t 6)), (4, 2, (.t 7))]), S 9 (.build [.nils, .nils, .nils] [(0, 1, (.t 1)), (1, 1, (.t 4)), (2, 1, (.t 8))]), SN (.store 3 (.t 0) (.t 9))]
@[simp] noncomputable def ir : IR := (.seq (.ops r0) (.seq (.ops r1) .ret))
@[simp] noncomputable def rs : List RV := [.cell 0 true 3]
theorem comp : compF Pg cfg Try.f30 = some (ir, rs, 10) := by kernel_rfl
theorem enter {args : List AVal} {h : Heap} {K : AEnd → Heap → Prop} (F : Nat) (hl : args.length ≤ 10) (a : AW ⟨Pg, F, 10, false, []⟩ ir (RetK rs K) (initT args) [] h) : ACalls Pg fn_law05_sample args h K :=
  ACalls.of_comp follows Try.func30 comp hl a
theorem pure {args : List AVal} {v : AVal} (hl : args.length ≤ 10) (a : AW ⟨Pg, 0, 10, false, []⟩ ir (RetK rs fun e _ => e = .ret v) (initT args) [] nilH) : APure Pg fn_law05_sample args v :=
  APure.of_nil (enter 0 hl a)
end law05_sample

namespace law05_span
noncomputable def cfg : Cfg := { pure := pures, pcs := [], raw := [], cuts := [], draws := [], keep := [] }
@[simp] noncomputable def r0 (_ : Unit) : List Stp := [S 4 (.alloc [(.int .i64 0), (.int .i64 0)])]
@[simp] noncomputable def r1 (_ : Unit) : List Stp := [S 5 (.mv (.t 0)), S 6 (.mv (.t 1)), S 7 (.build [(.int .i64 0), (.int .i64 0)] [(0, 1, (.t 5)), (1, 1, (.t 6))]), SN (.store 2 (.t 4) (.t 7))]
@[simp] noncomputable def ir : IR := (.seq (.ops r0) (.seq (.ops r1) .ret))
@[simp] noncomputable def rs : List RV := [.cell 4 true 2]
theorem comp : compF Pg cfg Try.f31 = some (ir, rs, 8) := by kernel_rfl
theorem enter {args : List AVal} {h : Heap} {K : AEnd → Heap → Prop} (F : Nat) (hl : args.length ≤ 8) (a : AW ⟨Pg, F, 8, false, []⟩ ir (RetK rs K) (initT args) [] h) : ACalls Pg fn_law05_span args h K :=
  ACalls.of_comp follows Try.func31 comp hl a
theorem pure {args : List AVal} {v : AVal} (hl : args.length ≤ 8) (a : AW ⟨Pg, 0, 8, false, []⟩ ir (RetK rs fun e _ => e = .ret v) (initT args) [] nilH) : APure Pg fn_law05_span args v :=
  APure.of_nil (enter 0 hl a)
end law05_span

namespace law05_made
noncomputable def cfg : Cfg := { pure := pures, pcs := [], raw := [], cuts := [], draws := [(10, [⟨0, false, [], []⟩, ⟨1, false, [], []⟩, ⟨2, false, [], []⟩, ⟨3, false, [], []⟩, ⟨4, false, [], []⟩, ⟨5, false, [], []⟩, ⟨6, false, [], []⟩, ⟨8, false, [], []⟩, ⟨9, false, [], []⟩, ⟨10, false, [], []⟩, ⟨7, false, [], []⟩, ⟨11, false, [], []⟩, ⟨12, false, [], []⟩, ⟨13, false, [], []⟩, ⟨14, false, [], []⟩, ⟨15, false, [], []⟩])], keep := [] }
@[simp] noncomputable def r0 (_ : Unit) : List Stp := [S 3 (.box (.t 0)), S 6 (.mv (.c .nils)), S 7 (.mv (.c .nils))]
@[simp] noncomputable def r1 (_ : Unit) : List Stp := [S 11 (.fAddr 0 (.t 3)), S 12 (.load false 1 (.t 11)), S 13 (.len (.t 12)), S 14 (.mv (.c (.int .i64 0)))]
@[simp] noncomputable def r2 (_ : Unit) : List Stp := [S 15 (.bin .lss (.t 14) (.t 13))]
@[simp] noncomputable def r3 (_ : Unit) : List Stp := [S 16 (.mv (.t 14)), S 8 (.mv (.t 16))]
@[simp] noncomputable def r4 (_ : Unit) : List Stp := [S 17 (.mv (.t 6)), S 18 (.mv (.t 1)), S 19 (.mv (.t 2)), S 20 (.bin .add (.t 19) (.c (.int .i64 1))), S 21 (.call (.t 18) [(.t 20)]), S 22 (.bsl 1 [(.int .i64 0)] [(0, 1, (.t 21))]), S 23 (.app 1 8 (.t 17) (.t 22)), S 24 (.mv (.t 7)), S 25 (.mv (.t 8)), S 26 (.bsl 1 [(.int .i64 0)] [(0, 1, (.t 25))]), S 27 (.app 1 8 (.t 24) (.t 26)), S 6 (.mv (.t 23)), S 7 (.mv (.t 27))]
@[simp] noncomputable def r5 (_ : Unit) : List Stp := [S 28 (.bin .add (.t 14) (.c (.int .i64 1))), S 14 (.mv (.t 28))]
@[simp] noncomputable def r6 (_ : Unit) : List Stp := [S 29 (.mv (.t 7)), S 30 (.len (.t 29)), S 31 (.mv (.c (.int .i64 0)))]
@[simp] noncomputable def r7 (_ : Unit) : List Stp := [S 32 (.bin .lss (.t 31) (.t 30))]
@[simp] noncomputable def r8 (_ : Unit) : List Stp := [S 33 (.mv (.t 31)), S 9 (.mv (.t 33))]
@[simp] noncomputable def r9 (_ : Unit) : List Stp := [S 34 (.mv (.t 9)), S 35 (.mv (.t 1)), S 36 (.mv (.t 7)), S 37 (.len (.t 36)), S 38 (.mv (.t 9)), S 39 (.bin .sub (.t 37) (.t 38)), S 40 (.call (.t 35) [(.t 39)]), S 41 (.bin .add (.t 34) (.t 40)), S 10 (.mv (.t 41))]
@[simp] noncomputable def r10 (_ : Unit) : List Stp := [S 42 (.mv (.t 7)), S 43 (.mv (.t 9)), S 44 (.mv (.t 7)), S 45 (.mv (.t 10)), S 46 (.mv (.t 7)), S 47 (.mv (.t 10)), S 48 (.ixS 1 (.t 46) (.t 47)), S 50 (.mv (.t 7)), S 51 (.mv (.t 9)), S 52 (.ixS 1 (.t 50) (.t 51)), S 49 (.load false 1 (.t 48)), S 53 (.load false 1 (.t 52)), S 54 (.ixS 1 (.t 42) (.t 43)), SN (.store 1 (.t 54) (.t 49)), S 55 (.ixS 1 (.t 44) (.t 45)), SN (.store 1 (.t 55) (.t 53))]
@[simp] noncomputable def r11 (_ : Unit) : List Stp := [S 56 (.bin .add (.t 31) (.c (.int .i64 1))), S 31 (.mv (.t 56))]
@[simp] noncomputable def r12 (_ : Unit) : List Stp := [S 57 (.mv (.t 6)), S 58 (.mv (.t 7)), S 6 (.mv (.t 57)), S 7 (.mv (.t 58))]
@[simp] noncomputable def ir : IR := (.seq (.ops r0) (.seq (.seq (.ops r1) (.block 0 (.loop (.seq (.ops r2) (.seq (.cond (.t 15) .skip (.exit 0)) (.seq (.block 1 (.seq (.ops r3) (.ops r4))) (.ops r5))))))) (.seq (.seq (.ops r6) (.block 2 (.loop (.seq (.ops r7) (.seq (.cond (.t 32) .skip (.exit 2)) (.seq (.block 3 (.seq (.ops r8) (.seq (.ops r9) (.ops r10)))) (.ops r11))))))) (.seq (.ops r12) .ret))))
@[simp] noncomputable def rs : List RV := [.tmp 6, .tmp 7]
theorem comp : compF Pg cfg Try.f32 = some (ir, rs, 59) := by kernel_rfl
theorem enter {args : List AVal} {h : Heap} {K : AEnd → Heap → Prop} (F : Nat) (hl : args.length ≤ 59) (a : AW ⟨Pg, F, 59, false, []⟩ ir (RetK rs K) (initT args) [] h) : ACalls Pg fn_law05_made args h K :=
  ACalls.of_comp follows Try.func32 comp hl a
theorem pure {args : List AVal} {v : AVal} (hl : args.length ≤ 59) (a : AW ⟨Pg, 0, 59, false, []⟩ ir (RetK rs fun e _ => e = .ret v) (initT args) [] nilH) : APure Pg fn_law05_made args v :=
  APure.of_nil (enter 0 hl a)
end law05_made

namespace law05_draws
noncomputable def cfg : Cfg := { pure := pures, pcs := [], raw := [], cuts := [], draws := [], keep := [] }
@[simp] noncomputable def r0 (_ : Unit) : List Stp := [S 1 (.box (.t 0)), S 2 (.mv (.c .nilf))]
@[simp] noncomputable def r1 (_ : Unit) : List Stp := [S 3 (.alloc [(.int .i64 0)]), SN (.store 1 (.t 3) (.c (.int .i64 0)))]
@[simp] noncomputable def r2 (_ : Unit) : List Stp := [S 4 (.mkF (.func fn_law05_draws_1) [] [(.t 3), (.t 1)]), S 2 (.mv (.t 4))]
@[simp] noncomputable def ir : IR := (.seq (.ops r0) (.seq (.ops r1) (.seq (.ops r2) .ret)))
@[simp] noncomputable def rs : List RV := [.tmp 2]
theorem comp : compF Pg cfg Try.f33 = some (ir, rs, 5) := by kernel_rfl
theorem enter {args : List AVal} {h : Heap} {K : AEnd → Heap → Prop} (F : Nat) (hl : args.length ≤ 5) (a : AW ⟨Pg, F, 5, false, []⟩ ir (RetK rs K) (initT args) [] h) : ACalls Pg fn_law05_draws args h K :=
  ACalls.of_comp follows Try.func33 comp hl a
theorem pure {args : List AVal} {v : AVal} (hl : args.length ≤ 5) (a : AW ⟨Pg, 0, 5, false, []⟩ ir (RetK rs fun e _ => e = .ret v) (initT args) [] nilH) : APure Pg fn_law05_draws args v :=
  APure.of_nil (enter 0 hl a)
end law05_draws

namespace law05_beside
noncomputable def cfg : Cfg := { pure := pures, pcs := [], raw := [], cuts := [], draws := [], keep := [] }
@[simp] noncomputable def r0 (_ : Unit) : List Stp := [S 3 (.box (.t 0)), S 6 (.mv (.c (.bool false)))]
@[simp] noncomputable def r1 (_ : Unit) : List Stp := [S 9 (.fAddr 1 (.t 3)), S 10 (.load false 1 (.t 9)), S 11 (.len (.t 10)), S 12 (.mv (.c (.int .i64 0)))]
@[simp] noncomputable def r2 (_ : Unit) : List Stp := [S 13 (.bin .lss (.t 12) (.t 11))]
@[simp] noncomputable def r3 (_ : Unit) : List Stp := [S 14 (.ixS 2 (.t 10) (.t 12)), S 15 (.load true 2 (.t 14)), S 8 (.alloc [(.int .i64 0), (.int .i64 0)]), SN (.store 2 (.t 8) (.t 15))]
@[simp] noncomputable def r4 (_ : Unit) : List Stp := [S 16 (.load true 2 (.t 8)), S 17 (.mv (.t 1)), S 18 (.mv (.t 2)), S 19 (.build [(.int .i64 0), (.int .i64 0)] [(0, 1, (.t 17)), (1, 1, (.t 18))]), S 20 (.eqA false [.i, .i] (.t 16) (.t 19)), S 21 (.mv (.t 20)), SG 22 21 false (.load true 2 (.t 8)), SG 23 21 false (.mv (.t 2)), SG 24 21 false (.mv (.t 1)), SG 25 21 false (.build [(.int .i64 0), (.int .i64 0)] [(0, 1, (.t 23)), (1, 1, (.t 24))]), SG 26 21 false (.eqA false [.i, .i] (.t 22) (.t 25)), S 27 (.pick (.t 21) (.c (.bool true)) (.t 26))]
@[simp] noncomputable def r5 (_ : Unit) : List Stp := [S 6 (.mv (.c (.bool true)))]
@[simp] noncomputable def r6 (_ : Unit) : List Stp := [S 28 (.bin .add (.t 12) (.c (.int .i64 1))), S 12 (.mv (.t 28))]
@[simp] noncomputable def r7 (_ : Unit) : List Stp := [S 6 (.mv (.c (.bool false)))]
@[simp] noncomputable def ir : IR := (.seq (.ops r0) (.seq (.seq (.ops r1) (.block 0 (.loop (.seq (.ops r2) (.seq (.cond (.t 13) .skip (.exit 0)) (.seq (.block 1 (.seq (.ops r3) (.seq (.ops r4) (.cond (.t 27) (.seq (.ops r5) .ret) .skip)))) (.ops r6))))))) (.seq (.ops r7) .ret)))
@[simp] noncomputable def rs : List RV := [.tmp 6]
theorem comp : compF Pg cfg Try.f34 = some (ir, rs, 29) := by kernel_rfl
theorem enter {args : List AVal} {h : Heap} {K : AEnd → Heap → Prop} (F : Nat) (hl : args.length ≤ 29) (a : AW ⟨Pg, F, 29, false, []⟩ ir (RetK rs K) (initT args) [] h) : ACalls Pg fn_law05_beside args h K :=
  ACalls.of_comp follows Try.func34 comp hl a
theorem pure {args : List AVal} {v : AVal} (hl : args.length ≤ 29) (a : AW ⟨Pg, 0, 29, false, []⟩ ir (RetK rs fun e _ => e = .ret v) (initT args) [] nilH) : APure Pg fn_law05_beside args v :=
  APure.of_nil (enter 0 hl a)
end law05_beside

namespace law05_truth
noncomputable def cfg : Cfg := { pure := pures, pcs := [], raw := [], cuts := [], draws := [(4, [⟨0, false, [], []⟩, ⟨1, false, [], []⟩, ⟨3, false, [], []⟩, ⟨4, false, [], []⟩, ⟨6, false, [], []⟩, ⟨2, false, [], []⟩, ⟨5, false, [], []⟩, ⟨7, false, [], []⟩, ⟨8, false, [], []⟩, ⟨9, false, [], []⟩, ⟨10, false, [], [2]⟩, ⟨11, false, [], []⟩, ⟨12, false, [], []⟩, ⟨13, false, [], []⟩, ⟨14, false, [], []⟩])], keep := [] }
@[simp] noncomputable def r0 (_ : Unit) : List Stp := [S 2 (.box (.t 0)), S 4 (.mv (.c .nils))]
@[simp] noncomputable def r1 (_ : Unit) : List Stp := [S 7 (.fAddr 2 (.t 2)), S 8 (.load false 1 (.t 7)), S 9 (.len (.t 8)), S 10 (.mv (.c (.int .i64 0)))]
@[simp] noncomputable def r2 (_ : Unit) : List Stp := [S 11 (.bin .lss (.t 10) (.t 9))]
@[simp] noncomputable def r3 (_ : Unit) : List Stp := [S 12 (.ixS 2 (.t 8) (.t 10)), S 13 (.load true 2 (.t 12)), S 6 (.alloc [(.int .i64 0), (.int .i64 0)]), SN (.store 2 (.t 6) (.t 13))]
@[simp] noncomputable def r4 (_ : Unit) : List Stp := [S 14 (.mv (.t 4)), S 15 (.fAddr 0 (.t 6)), S 17 (.mv (.t 1)), S 18 (.fAddr 1 (.t 6)), S 20 (.fAddr 0 (.t 6)), S 16 (.load false 1 (.t 15)), S 19 (.load false 1 (.t 18)), S 21 (.load false 1 (.t 20)), S 22 (.bin .sub (.t 19) (.t 21)), S 23 (.bin .add (.t 22) (.c (.int .i64 1))), SD (some 24) (.call (.t 17) [(.t 23)]) false [] [I 16 (.load false 1 (.t 15))], S 25 (.bin .add (.t 16) (.t 24)), S 26 (.bsl 1 [(.int .i64 0)] [(0, 1, (.t 25))]), S 27 (.app 1 8 (.t 14) (.t 26)), S 4 (.mv (.t 27))]
@[simp] noncomputable def r5 (_ : Unit) : List Stp := [S 28 (.bin .add (.t 10) (.c (.int .i64 1))), S 10 (.mv (.t 28))]
@[simp] noncomputable def r6 (_ : Unit) : List Stp := [S 29 (.mv (.t 4)), S 4 (.mv (.t 29))]
@[simp] noncomputable def ir : IR := (.seq (.ops r0) (.seq (.seq (.ops r1) (.block 0 (.loop (.seq (.ops r2) (.seq (.cond (.t 11) .skip (.exit 0)) (.seq (.block 1 (.seq (.ops r3) (.ops r4))) (.ops r5))))))) (.seq (.ops r6) .ret)))
@[simp] noncomputable def rs : List RV := [.tmp 4]
theorem comp : compF Pg cfg Try.f35 = some (ir, rs, 30) := by kernel_rfl
theorem enter {args : List AVal} {h : Heap} {K : AEnd → Heap → Prop} (F : Nat) (hl : args.length ≤ 30) (a : AW ⟨Pg, F, 30, false, []⟩ ir (RetK rs K) (initT args) [] h) : ACalls Pg fn_law05_truth args h K :=
  ACalls.of_comp follows Try.func35 comp hl a
theorem pure {args : List AVal} {v : AVal} (hl : args.length ≤ 30) (a : AW ⟨Pg, 0, 30, false, []⟩ ir (RetK rs fun e _ => e = .ret v) (initT args) [] nilH) : APure Pg fn_law05_truth args v :=
  APure.of_nil (enter 0 hl a)
end law05_truth

namespace law05_inside
noncomputable def cfg : Cfg := { pure := pures, pcs := [], raw := [], cuts := [], draws := [], keep := [] }
@[simp] noncomputable def r0 (_ : Unit) : List Stp := [S 3 (.box (.t 1)), S 4 (.mv (.c (.bool false)))]
@[simp] noncomputable def r1 (_ : Unit) : List Stp := [S 5 (.fAddr 0 (.t 3)), S 6 (.load false 1 (.t 5)), S 7 (.mv (.t 0)), S 8 (.bin .leq (.t 6) (.t 7)), S 9 (.mv (.t 8)), SG 10 9 true (.mv (.t 0)), SG 11 9 true (.fAddr 1 (.t 3)), SG 12 9 true (.load false 1 (.t 11)), SG 13 9 true (.bin .leq (.t 10) (.t 12)), S 14 (.pick (.t 9) (.t 13) (.c (.bool false))), S 4 (.mv (.t 14))]
@[simp] noncomputable def ir : IR := (.seq (.ops r0) (.seq (.ops r1) .ret))
@[simp] noncomputable def rs : List RV := [.tmp 4]
theorem comp : compF Pg cfg Try.f36 = some (ir, rs, 15) := by kernel_rfl
theorem enter {args : List AVal} {h : Heap} {K : AEnd → Heap → Prop} (F : Nat) (hl : args.length ≤ 15) (a : AW ⟨Pg, F, 15, false, []⟩ ir (RetK rs K) (initT args) [] h) : ACalls Pg fn_law05_inside args h K :=
  ACalls.of_comp follows Try.func36 comp hl a
theorem pure {args : List AVal} {v : AVal} (hl : args.length ≤ 15) (a : AW ⟨Pg, 0, 15, false, []⟩ ir (RetK rs fun e _ => e = .ret v) (initT args) [] nilH) : APure Pg fn_law05_inside args v :=
  APure.of_nil (enter 0 hl a)
end law05_inside

namespace ref05_Truths
noncomputable def cfg : Cfg := { pure := pures, pcs := [], raw := [], cuts := [], draws := [], keep := [] }
@[simp] noncomputable def r0 (_ : Unit) : List Stp := [S 1 (.box (.t 0)), S 2 (.mv (.c .nils))]
@[simp] noncomputable def r1 (_ : Unit) : List Stp := [S 3 (.load true 3 (.t 1)), S 4 (.call (.c (.func (.func fn_ref05_truths) [] [])) [(.t 3), (.c .nils), (.c .nils)]), S 2 (.mv (.t 4))]
@[simp] noncomputable def ir : IR := (.seq (.ops r0) (.seq (.ops r1) .ret))
@[simp] noncomputable def rs : List RV := [.tmp 2]
theorem comp : compF Pg cfg Try.f37 = some (ir, rs, 5) := by kernel_rfl
theorem enter {args : List AVal} {h : Heap} {K : AEnd → Heap → Prop} (F : Nat) (hl : args.length ≤ 5) (a : AW ⟨Pg, F, 5, false, []⟩ ir (RetK rs K) (initT args) [] h) : ACalls Pg fn_ref05_Truths args h K :=
  ACalls.of_comp follows Try.func37 comp hl a
theorem pure {args : List AVal} {v : AVal} (hl : args.length ≤ 5) (a : AW ⟨Pg, 0, 5, false, []⟩ ir (RetK rs fun e _ => e = .ret v) (initT args) [] nilH) : APure Pg fn_ref05_Truths args v :=
  APure.of_nil (enter 0 hl a)
end ref05_Truths

namespace law05_DriveTurned_1
noncomputable def cfg : Cfg := { pure := pures, pcs := [], raw := [], cuts := [], draws := [], keep := [] }
@[simp] noncomputable def r0 (_ : Unit) : List Stp := [S 3 (.mv (.c (.int .i64 0)))]
@[simp] noncomputable def r1 (_ : Unit) : List Stp := [S 4 (.load false 1 (.t 1)), S 5 (.bin .sub (.t 4) (.c (.int .i64 1))), S 6 (.mv (.t 0)), S 7 (.bin .sub (.t 5) (.t 6)), S 3 (.mv (.t 7))]
@[simp] noncomputable def ir : IR := (.seq (.ops r0) (.seq (.ops r1) .ret))
@[simp] noncomputable def rs : List RV := [.tmp 3]
theorem comp : compF Pg cfg Try.f38 = some (ir, rs, 8) := by kernel_rfl
theorem enter {args : List AVal} {h : Heap} {K : AEnd → Heap → Prop} (F : Nat) (hl : args.length ≤ 8) (a : AW ⟨Pg, F, 8, false, []⟩ ir (RetK rs K) (initT args) [] h) : ACalls Pg fn_law05_DriveTurned_1 args h K :=
  ACalls.of_comp follows Try.func38 comp hl a
theorem pure {args : List AVal} {v : AVal} (hl : args.length ≤ 8) (a : AW ⟨Pg, 0, 8, false, []⟩ ir (RetK rs fun e _ => e = .ret v) (initT args) [] nilH) : APure Pg fn_law05_DriveTurned_1 args v :=
  APure.of_nil (enter 0 hl a)
end law05_DriveTurned_1

namespace drive_Settle_1
noncomputable def cfg : Cfg := { pure := pures, pcs := [], raw := [], cuts := [], draws := [], keep := [] }
@[simp] noncomputable def r0 (_ : Unit) : List Stp := [S 1 (.recov), S 2 (.call (.c (.func (.func fn_drive_said) [] [])) [(.t 1), (.t 0)])]
@[simp] noncomputable def ir : IR := (.ops r0)
@[simp] noncomputable def rs : List RV := []
theorem comp : compF Pg cfg Try.f39 = some (ir, rs, 3) := by kernel_rfl
theorem enter {args : List AVal} {h : Heap} {K : AEnd → Heap → Prop} (F : Nat) (hl : args.length ≤ 3) (a : AW ⟨Pg, F, 3, false, []⟩ ir (RetK rs K) (initT args) [] h) : ACalls Pg fn_drive_Settle_1 args h K :=
  ACalls.of_comp follows Try.func39 comp hl a
theorem pure {args : List AVal} {v : AVal} (hl : args.length ≤ 3) (a : AW ⟨Pg, 0, 3, false, []⟩ ir (RetK rs fun e _ => e = .ret v) (initT args) [] nilH) : APure Pg fn_drive_Settle_1 args v :=
  APure.of_nil (enter 0 hl a)
theorem recClo : RecClo Pg fn_drive_Settle_1 fn_drive_said := ⟨_, Try.func39, by kernel_rfl⟩
end drive_Settle_1

namespace drive_said
noncomputable def cfg : Cfg := { pure := pures, pcs := [], raw := [], cuts := [], draws := [], keep := [] }
@[simp] noncomputable def r0 (_ : Unit) : List Stp := [S 6 (.mv (.t 0)), S 7 (.eqN .i false (.t 6))]
@[simp] noncomputable def r1 (_ : Unit) : List Stp := [S 9 (.mv (.t 0)), S 10 (.tyAs 120 true (.agg [(.int .i64 0)]) (.t 9)), S 8 (.mv (.t 10)), S 11 (.ext (.t 8) 0), S 12 (.ext (.t 8) 1), S 4 (.alloc [(.int .i64 0)]), SN (.store 1 (.t 4) (.t 11)), S 5 (.mv (.t 12))]
@[simp] noncomputable def r2 (_ : Unit) : List Stp := [S 13 (.mv (.t 5)), S 14 (.un .not (.t 13))]
@[simp] noncomputable def r3 (_ : Unit) : List Stp := [S 15 (.mv (.t 0)), SN (.panic (.t 15))]
@[simp] noncomputable def r4 (_ : Unit) : List Stp := [S 16 (.mv (.t 1)), S 17 (.fAddr 0 (.t 4)), S 18 (.load false 1 (.t 17)), S 19 (.nilck (.t 16)), SN (.store 1 (.t 19) (.t 18))]
@[simp] noncomputable def ir : IR := (.seq (.seq (.ops r0) (.cond (.t 7) .ret .skip)) (.seq (.ops r1) (.seq (.seq (.ops r2) (.cond (.t 14) (.ops r3) .skip)) (.ops r4))))
@[simp] noncomputable def rs : List RV := []
theorem comp : compF Pg cfg Try.f40 = some (ir, rs, 20) := by kernel_rfl
theorem enter {args : List AVal} {h : Heap} {K : AEnd → Heap → Prop} (F : Nat) (hl : args.length ≤ 20) (a : AW ⟨Pg, F, 20, false, []⟩ ir (RetK rs K) (initT args) [] h) : ACalls Pg fn_drive_said args h K :=
  ACalls.of_comp follows Try.func40 comp hl a
theorem pure {args : List AVal} {v : AVal} (hl : args.length ≤ 20) (a : AW ⟨Pg, 0, 20, false, []⟩ ir (RetK rs fun e _ => e = .ret v) (initT args) [] nilH) : APure Pg fn_drive_said args v :=
  APure.of_nil (enter 0 hl a)
end drive_said

namespace drive_open
noncomputable def cfg : Cfg := { pure := pures, pcs := [], raw := [], cuts := [], draws := [(6, [⟨1, false, [], []⟩, ⟨0, false, [], []⟩, ⟨2, false, [], []⟩, ⟨3, false, [], []⟩, ⟨4, false, [], []⟩, ⟨6, false, [], []⟩, ⟨5, false, [], []⟩, ⟨7, false, [], []⟩, ⟨8, false, [], []⟩, ⟨9, false, [], []⟩, ⟨10, false, [], []⟩, ⟨11, false, [], []⟩, ⟨13, false, [], []⟩, ⟨12, false, [], []⟩, ⟨14, false, [], []⟩, ⟨15, false, [], []⟩, ⟨16, false, [], []⟩, ⟨17, false, [], []⟩, ⟨18, false, [], []⟩, ⟨20, false, [], []⟩, ⟨19, false, [], []⟩, ⟨21, false, [], []⟩, ⟨22, false, [], []⟩, ⟨23, false, [], []⟩, ⟨24, false, [], []⟩, ⟨25, false, [], []⟩, ⟨26, false, [], []⟩]), (7, [⟨0, false, [], []⟩, ⟨1, false, [], []⟩, ⟨3, false, [], []⟩, ⟨4, false, [], []⟩, ⟨6, false, [], []⟩, ⟨7, false, [], []⟩, ⟨9, false, [], []⟩, ⟨10, false, [], []⟩, ⟨13, false, [], []⟩, ⟨17, false, [], []⟩, ⟨18, false, [], []⟩, ⟨20, false, [], []⟩, ⟨21, false, [], []⟩, ⟨24, false, [], []⟩, ⟨28, false, [], []⟩, ⟨29, false, [], []⟩, ⟨32, false, [], []⟩, ⟨33, false, [], []⟩, ⟨2, false, [], []⟩, ⟨5, false, [], []⟩, ⟨8, false, [], []⟩, ⟨11, false, [], []⟩, ⟨12, false, [], []⟩, ⟨14, false, [], []⟩, ⟨19, false, [], []⟩, ⟨22, false, [], []⟩, ⟨23, false, [], []⟩, ⟨25, false, [], []⟩, ⟨15, true, [], []⟩, ⟨26, true, [], []⟩, ⟨16, false, [], [2, 5, 19, 23, 25]⟩, ⟨27, false, [], [2, 5]⟩, ⟨30, false, [], []⟩, ⟨31, false, [], [5]⟩, ⟨34, false, [], []⟩, ⟨35, false, [], []⟩])], keep := [] }
@[simp] noncomputable def r0 (_ : Unit) : List Stp := [S 2 (.box (.t 0)), S 4 (.mv (.c .nilp))]
@[simp] noncomputable def r1 (_ : Unit) : List Stp := [S 11 (.fAddr 0 (.t 2)), S 12 (.load false 1 (.t 11)), S 13 (.len (.t 12)), SP 14 (.call (.c (.func (.func fn_drive_within) [] [])) [(.t 13), (.c (.int .i64 1)), (.c (.int .i64 6))]), S 15 (.mv (.t 14)), SG 16 15 true (.fAddr 2 (.t 2)), SG 17 15 true (.load false 1 (.t 16)), SG 18 15 true (.len (.t 17)), SG 19 15 true (.fAddr 0 (.t 2)), SG 20 15 true (.load false 1 (.t 19)), SG 21 15 true (.len (.t 20)), SG 22 15 true (.bin .eql (.t 18) (.t 21)), S 23 (.pick (.t 15) (.t 22) (.c (.bool false))), S 24 (.call (.c (.func (.func fn_drive_want) [] [])) [(.t 23), (.c (.int .i64 1))])]
@[simp] noncomputable def r2 (_ : Unit) : List Stp := [S 25 (.load true 3 (.t 2)), S 26 (.build [.nils, .nils, .nils, .nils, .nils, .nils, .nils, .nils, .nils] [(0, 3, (.t 25))]), S 27 (.box (.t 26)), S 5 (.mv (.t 27))]
@[simp] noncomputable def r3 (_ : Unit) : List Stp := [S 28 (.fAddr 1 (.t 2)), S 29 (.load false 1 (.t 28)), S 30 (.len (.t 29)), S 31 (.mv (.c (.int .i64 0)))]
@[simp] noncomputable def r4 (_ : Unit) : List Stp := [S 32 (.bin .lss (.t 31) (.t 30))]
@[simp] noncomputable def r5 (_ : Unit) : List Stp := [S 33 (.mv (.t 31)), S 34 (.ixS 2 (.t 29) (.t 31)), S 35 (.load true 2 (.t 34)), S 7 (.alloc [(.int .i64 0), (.int .i64 0)]), S 6 (.mv (.t 33)), SN (.store 2 (.t 7) (.t 35))]
@[simp] noncomputable def r6 (_ : Unit) : List Stp := [S 37 (.ixA 2 1 (.t 7) (.c (.int .i64 0))), S 36 (.load true 3 (.t 2)), S 38 (.load false 1 (.t 37)), SP 39 (.call (.c (.func (.func fn_drive_isSeam) [] [])) [(.t 36), (.t 38)]), S 40 (.mv (.t 39)), SG 42 40 true (.ixA 2 1 (.t 7) (.c (.int .i64 1))), SG 41 40 true (.load true 3 (.t 2)), SG 43 40 true (.load false 1 (.t 42)), SGP 44 40 true (.call (.c (.func (.func fn_drive_isSeam) [] [])) [(.t 41), (.t 43)]), S 45 (.pick (.t 40) (.t 44) (.c (.bool false))), S 46 (.mv (.t 45)), SG 47 46 true (.ixA 2 1 (.t 7) (.c (.int .i64 0))), SG 49 46 true (.ixA 2 1 (.t 7) (.c (.int .i64 1))), SG 48 46 true (.load false 1 (.t 47)), SG 50 46 true (.load false 1 (.t 49)), SG 51 46 true (.bin .lss (.t 48) (.t 50)), S 52 (.pick (.t 46) (.t 51) (.c (.bool false))), S 53 (.mv (.t 52)), SG 54 53 true (.fAddr 1 (.t 2)), SG 56 53 true (.mv (.t 6)), SG 55 53 true (.load false 1 (.t 54)), SG 57 53 true (.slS 2 (.t 55) none (some (.t 56)) none), SG 58 53 true (.load true 2 (.t 7)), SGP 59 53 true (.call (.c (.func (.func fn_slices_Contains_2_int_2_int) [] [])) [(.t 57), (.t 58)]), SG 60 53 true (.un .not (.t 59)), S 61 (.pick (.t 53) (.t 60) (.c (.bool false))), S 62 (.call (.c (.func (.func fn_drive_want) [] [])) [(.t 61), (.c (.int .i64 1))])]
@[simp] noncomputable def r7 (_ : Unit) : List Stp := [S 63 (.mv (.t 5)), S 64 (.ixA 2 1 (.t 7) (.c (.int .i64 0))), S 66 (.mv (.t 5)), S 67 (.ixA 2 1 (.t 7) (.c (.int .i64 1))), S 69 (.mv (.t 5)), S 70 (.ixA 2 1 (.t 7) (.c (.int .i64 0))), S 72 (.nilck (.t 69)), S 73 (.fAddr 3 (.t 72)), S 76 (.ixA 2 1 (.t 7) (.c (.int .i64 1))), S 80 (.mv (.t 5)), S 81 (.ixA 2 1 (.t 7) (.c (.int .i64 1))), S 83 (.nilck (.t 80)), S 84 (.fAddr 3 (.t 83)), S 87 (.ixA 2 1 (.t 7) (.c (.int .i64 0))), S 91 (.nilck (.t 63)), S 92 (.fAddr 3 (.t 91)), S 94 (.nilck (.t 66)), S 95 (.fAddr 3 (.t 94)), S 65 (.load false 1 (.t 64)), S 68 (.load false 1 (.t 67)), S 71 (.load false 1 (.t 70)), S 74 (.ixA 6 1 (.t 73) (.t 71)), S 75 (.load false 1 (.t 74)), S 77 (.load false 1 (.t 76)), S 82 (.load false 1 (.t 81)), S 85 (.ixA 6 1 (.t 84) (.t 82)), S 86 (.load false 1 (.t 85)), S 88 (.load false 1 (.t 87)), SD (some 78) (.bsl 1 [(.int .i64 0)] [(0, 1, (.t 77))]) true [] [], SD (some 89) (.bsl 1 [(.int .i64 0)] [(0, 1, (.t 88))]) true [] [], SD (some 79) (.app 1 8 (.t 75) (.t 78)) false [] [I 65 (.load false 1 (.t 64)), I 68 (.load false 1 (.t 67)), I 82 (.load false 1 (.t 81)), I 86 (.load false 1 (.t 85)), I 88 (.load false 1 (.t 87))], SD (some 90) (.app 1 8 (.t 86) (.t 89)) false [] [I 65 (.load false 1 (.t 64)), I 68 (.load false 1 (.t 67))], S 93 (.ixA 6 1 (.t 92) (.t 65)), SD none (.store 1 (.t 93) (.t 79)) false [] [I 68 (.load false 1 (.t 67))], S 96 (.ixA 6 1 (.t 95) (.t 68)), SN (.store 1 (.t 96) (.t 90))]
@[simp] noncomputable def r8 (_ : Unit) : List Stp := [S 97 (.bin .add (.t 31) (.c (.int .i64 1))), S 31 (.mv (.t 97))]
@[simp] noncomputable def r9 (_ : Unit) : List Stp := [S 98 (.fAddr 0 (.t 2)), S 99 (.load false 1 (.t 98)), S 100 (.len (.t 99)), S 101 (.mv (.c (.int .i64 0)))]
@[simp] noncomputable def r10 (_ : Unit) : List Stp := [S 102 (.bin .lss (.t 101) (.t 100))]
@[simp] noncomputable def r11 (_ : Unit) : List Stp := [S 103 (.mv (.t 101)), S 104 (.ixS 1 (.t 99) (.t 101)), S 105 (.load false 1 (.t 104)), S 8 (.mv (.t 103)), S 9 (.mv (.t 105))]
@[simp] noncomputable def r12 (_ : Unit) : List Stp := [S 106 (.fAddr 2 (.t 2)), S 107 (.load false 1 (.t 106)), S 108 (.mv (.t 8)), S 109 (.ixS 2 (.t 107) (.t 108)), S 110 (.load true 2 (.t 109)), S 10 (.alloc [(.int .i64 0), (.int .i64 0)]), SN (.store 2 (.t 10) (.t 110))]
@[simp] noncomputable def r13 (_ : Unit) : List Stp := [S 111 (.mv (.t 9)), S 112 (.mv (.t 5)), S 113 (.mv (.t 8)), S 114 (.nilck (.t 112)), S 115 (.fAddr 3 (.t 114)), S 116 (.ixA 6 1 (.t 115) (.t 113)), S 117 (.load false 1 (.t 116)), S 118 (.len (.t 117)), S 119 (.bin .add (.t 118) (.c (.int .i64 1))), SP 120 (.call (.c (.func (.func fn_drive_within) [] [])) [(.t 111), (.t 119), (.c (.int .i64 6))]), S 121 (.mv (.t 120)), SG 122 121 true (.fAddr 0 (.t 10)), SG 123 121 true (.load false 1 (.t 122)), SG 124 121 true (.bin .leq (.c (.int .i64 0)) (.t 123)), S 125 (.pick (.t 121) (.t 124) (.c (.bool false))), S 126 (.mv (.t 125)), SG 127 126 true (.fAddr 0 (.t 10)), SG 128 126 true (.load false 1 (.t 127)), SG 129 126 true (.fAddr 1 (.t 10)), SG 130 126 true (.load false 1 (.t 129)), SG 131 126 true (.bin .leq (.t 128) (.t 130)), S 132 (.pick (.t 126) (.t 131) (.c (.bool false))), S 133 (.mv (.t 132)), SG 134 133 true (.fAddr 1 (.t 10)), SG 135 133 true (.load false 1 (.t 134)), SG 136 133 true (.bin .leq (.t 135) (.c (.int .i64 12))), S 137 (.pick (.t 133) (.t 136) (.c (.bool false))), S 138 (.mv (.t 137)), SG 139 138 true (.fAddr 1 (.t 10)), SG 140 138 true (.load false 1 (.t 139)), SG 141 138 true (.fAddr 0 (.t 10)), SG 142 138 true (.load false 1 (.t 141)), SG 143 138 true (.bin .sub (.t 140) (.t 142)), SG 144 138 true (.bin .leq (.t 143) (.c (.int .i64 2))), S 145 (.pick (.t 138) (.t 144) (.c (.bool false))), S 146 (.call (.c (.func (.func fn_drive_want) [] [])) [(.t 145), (.c (.int .i64 1))])]
@[simp] noncomputable def r14 (_ : Unit) : List Stp := [S 147 (.bin .add (.t 101) (.c (.int .i64 1))), S 101 (.mv (.t 147))]
@[simp] noncomputable def r15 (_ : Unit) : List Stp := [S 148 (.mv (.t 1)), S 149 (.call (.c (.func (.func fn_drive_want) [] [])) [(.t 148), (.c (.int .i64 2))])]
@[simp] noncomputable def r16 (_ : Unit) : List Stp := [S 150 (.mv (.t 5)), S 4 (.mv (.t 150))]
@[simp] noncomputable def ir : IR := (.seq (.ops r0) (.seq (.ops r1) (.seq (.ops r2) (.seq (.seq (.ops r3) (.block 0 (.loop (.seq (.ops r4) (.seq (.cond (.t 32) .skip (.exit 0)) (.seq (.block 1 (.seq (.ops r5) (.seq (.ops r6) (.ops r7)))) (.ops r8))))))) (.seq (.seq (.ops r9) (.block 2 (.loop (.seq (.ops r10) (.seq (.cond (.t 102) .skip (.exit 2)) (.seq (.block 3 (.seq (.ops r11) (.seq (.ops r12) (.ops r13)))) (.ops r14))))))) (.seq (.ops r15) (.seq (.ops r16) .ret)))))))
@[simp] noncomputable def rs : List RV := [.tmp 4]
theorem comp : compF Pg cfg Try.f41 = some (ir, rs, 151) := by kernel_rfl
theorem enter {args : List AVal} {h : Heap} {K : AEnd → Heap → Prop} (F : Nat) (hl : args.length ≤ 151) (a : AW ⟨Pg, F, 151, false, []⟩ ir (RetK rs K) (initT args) [] h) : ACalls Pg fn_drive_open args h K :=
  ACalls.of_comp follows Try.func41 comp hl a
theorem pure {args : List AVal} {v : AVal} (hl : args.length ≤ 151) (a : AW ⟨Pg, 0, 151, false, []⟩ ir (RetK rs fun e _ => e = .ret v) (initT args) [] nilH) : APure Pg fn_drive_open args v :=
  APure.of_nil (enter 0 hl a)
end drive_open

namespace drive_areBlows
noncomputable def cfg : Cfg := { pure := pures, pcs := [], raw := [], cuts := [], draws := [], keep := [] }
@[simp] noncomputable def r0 (_ : Unit) : List Stp := [S 2 (.box (.t 0)), S 4 (.mv (.c (.bool false)))]
@[simp] noncomputable def r1 (_ : Unit) : List Stp := [S 5 (.mv (.c (.func (.func fn_drive_areBlows_1) [] [])))]
@[simp] noncomputable def r2 (_ : Unit) : List Stp := [S 6 (.mv (.t 1)), S 7 (.len (.t 6)), S 8 (.fAddr 0 (.t 2)), S 9 (.load false 1 (.t 8)), S 10 (.len (.t 9)), S 11 (.bin .eql (.t 7) (.t 10)), S 12 (.mv (.t 11)), SG 13 12 true (.mv (.t 1)), SG 14 12 true (.mv (.t 5)), SGP 15 12 true (.call (.c (.func (.func fn_slices_ContainsFunc_int_int) [] [])) [(.t 13), (.t 14)]), SG 16 12 true (.un .not (.t 15)), S 17 (.pick (.t 12) (.t 16) (.c (.bool false))), S 4 (.mv (.t 17))]
@[simp] noncomputable def ir : IR := (.seq (.ops r0) (.seq (.ops r1) (.seq (.ops r2) .ret)))
@[simp] noncomputable def rs : List RV := [.tmp 4]
theorem comp : compF Pg cfg Try.f42 = some (ir, rs, 18) := by kernel_rfl
theorem enter {args : List AVal} {h : Heap} {K : AEnd → Heap → Prop} (F : Nat) (hl : args.length ≤ 18) (a : AW ⟨Pg, F, 18, false, []⟩ ir (RetK rs K) (initT args) [] h) : ACalls Pg fn_drive_areBlows args h K :=
  ACalls.of_comp follows Try.func42 comp hl a
theorem pure {args : List AVal} {v : AVal} (hl : args.length ≤ 18) (a : AW ⟨Pg, 0, 18, false, []⟩ ir (RetK rs fun e _ => e = .ret v) (initT args) [] nilH) : APure Pg fn_drive_areBlows args v :=
  APure.of_nil (enter 0 hl a)
end drive_areBlows

namespace drive_hull_settler
noncomputable def cfg : Cfg := { pure := pures, pcs := [], raw := [], cuts := [], draws := [], keep := [] }
@[simp] noncomputable def r0 (_ : Unit) : List Stp := [S 2 (.alloc [.nilp, .nilm])]
@[simp] noncomputable def r1 (_ : Unit) : List Stp := [S 3 (.mv (.t 0)), S 4 (.mkmap), S 5 (.build [.nilp, .nilm] [(0, 1, (.t 3)), (1, 1, (.t 4))]), SN (.store 2 (.t 2) (.t 5))]
@[simp] noncomputable def ir : IR := (.seq (.ops r0) (.seq (.ops r1) .ret))
@[simp] noncomputable def rs : List RV := [.cell 2 true 2]
theorem comp : compF Pg cfg Try.f43 = some (ir, rs, 6) := by kernel_rfl
theorem enter {args : List AVal} {h : Heap} {K : AEnd → Heap → Prop} (F : Nat) (hl : args.length ≤ 6) (a : AW ⟨Pg, F, 6, false, []⟩ ir (RetK rs K) (initT args) [] h) : ACalls Pg fn_drive_hull_settler args h K :=
  ACalls.of_comp follows Try.func43 comp hl a
theorem pure {args : List AVal} {v : AVal} (hl : args.length ≤ 6) (a : AW ⟨Pg, 0, 6, false, []⟩ ir (RetK rs fun e _ => e = .ret v) (initT args) [] nilH) : APure Pg fn_drive_hull_settler args v :=
  APure.of_nil (enter 0 hl a)
end drive_hull_settler

namespace drive_settler_rest
noncomputable def cfg : Cfg := { pure := pures, pcs := [], raw := [], cuts := [], draws := [(11, [⟨0, false, [], []⟩, ⟨1, false, [], []⟩, ⟨2, false, [], []⟩, ⟨4, false, [], []⟩, ⟨10, false, [], []⟩, ⟨3, false, [], []⟩, ⟨5, false, [], []⟩, ⟨6, false, [], []⟩, ⟨7, false, [], []⟩, ⟨8, false, [], []⟩, ⟨9, false, [], []⟩, ⟨11, false, [], []⟩, ⟨12, false, [], []⟩, ⟨13, false, [], []⟩, ⟨14, false, [], []⟩]), (13, [⟨0, false, [], []⟩, ⟨2, false, [], []⟩, ⟨4, false, [], []⟩, ⟨5, false, [], []⟩, ⟨7, false, [], []⟩, ⟨9, false, [], []⟩, ⟨10, false, [], []⟩, ⟨1, false, [], []⟩, ⟨3, false, [], []⟩, ⟨6, false, [], []⟩, ⟨8, false, [], []⟩, ⟨11, false, [], []⟩, ⟨12, false, [], []⟩, ⟨13, false, [], []⟩, ⟨14, false, [], []⟩, ⟨15, false, [], []⟩, ⟨16, false, [], []⟩])], keep := [] }
@[simp] noncomputable def r0 (_ : Unit) : List Stp := [S 2 (.box (.t 0)), S 3 (.box (.t 1)), S 4 (.alloc [(.int .i64 0), (.int .i64 0), (.int .i64 0), (.int .i64 0), (.int .i64 0), (.int .i64 0), (.int .i64 0), (.int .i64 0), (.int .i64 0), (.int .i64 0), (.int .i64 0), (.int .i64 0)])]
@[simp] noncomputable def r1 (_ : Unit) : List Stp := [S 12 (.fAddr 1 (.t 2)), S 13 (.load false 1 (.t 12)), S 14 (.load true 6 (.t 3)), S 15 (.build [(.int .i64 0), (.int .i64 0), (.int .i64 0), (.int .i64 0), (.int .i64 0), (.int .i64 0)] [(0, 6, (.t 14))]), S 16 (.lookup (true, [.i, .i, .i, .i, .i, .i]) true (.agg [(.int .i64 0), (.int .i64 0), (.int .i64 0), (.int .i64 0), (.int .i64 0), (.int .i64 0), (.int .i64 0), (.int .i64 0), (.int .i64 0), (.int .i64 0), (.int .i64 0), (.int .i64 0)]) (.t 13) (.t 15)), S 11 (.mv (.t 16)), S 17 (.ext (.t 11) 0), S 18 (.ext (.t 11) 1), S 5 (.alloc [(.int .i64 0), (.int .i64 0), (.int .i64 0), (.int .i64 0), (.int .i64 0), (.int .i64 0), (.int .i64 0), (.int .i64 0), (.int .i64 0), (.int .i64 0), (.int .i64 0), (.int .i64 0)]), SN (.store 12 (.t 5) (.t 17)), S 6 (.mv (.t 18))]
@[simp] noncomputable def r2 (_ : Unit) : List Stp := [S 19 (.mv (.t 6))]
@[simp] noncomputable def r3 (_ : Unit) : List Stp := [S 20 (.load true 12 (.t 5)), SN (.store 12 (.t 4) (.t 20))]
@[simp] noncomputable def r4 (_ : Unit) : List Stp := [S 21 (.load true 6 (.t 3)), S 22 (.build [(.int .i64 0), (.int .i64 0), (.int .i64 0), (.int .i64 0), (.int .i64 0), (.int .i64 0), (.int .i64 0), (.int .i64 0), (.int .i64 0), (.int .i64 0), (.int .i64 0), (.int .i64 0)] [(0, 6, (.t 21))]), S 7 (.alloc [(.int .i64 0), (.int .i64 0), (.int .i64 0), (.int .i64 0), (.int .i64 0), (.int .i64 0), (.int .i64 0), (.int .i64 0), (.int .i64 0), (.int .i64 0), (.int .i64 0), (.int .i64 0)]), SN (.store 12 (.t 7) (.t 22))]
@[simp] noncomputable def r5 (_ : Unit) : List Stp := [S 8 (.mv (.c (.bool true)))]
@[simp] noncomputable def r6 (_ : Unit) : List Stp := [S 23 (.mv (.t 8))]
@[simp] noncomputable def r7 (_ : Unit) : List Stp := [S 8 (.mv (.c (.bool false)))]
@[simp] noncomputable def r8 (_ : Unit) : List Stp := [S 24 (.fAddr 0 (.t 2)), S 25 (.load false 1 (.t 24)), SP 26 (.call (.c (.func (.func fn_drive_hull_seams) [] [])) [(.t 25)]), S 27 (.mv (.c (.int .i64 0)))]
@[simp] noncomputable def r9 (_ : Unit) : List Stp := [S 28 (.bin .lss (.t 27) (.t 26))]
@[simp] noncomputable def r10 (_ : Unit) : List Stp := [S 29 (.mv (.t 27)), S 9 (.mv (.t 29))]
@[simp] noncomputable def r11 (_ : Unit) : List Stp := [S 30 (.mv (.t 9)), S 31 (.fAddr 0 (.t 7)), S 32 (.ixA 6 1 (.t 31) (.t 30)), S 34 (.fAddr 0 (.t 2)), S 40 (.mv (.t 9)), S 33 (.load false 1 (.t 32)), S 35 (.load false 1 (.t 34)), S 36 (.nilck (.t 35)), S 37 (.fAddr 0 (.t 36)), S 38 (.fAddr 0 (.t 37)), S 39 (.load false 1 (.t 38)), S 41 (.ixS 1 (.t 39) (.t 40)), S 42 (.load false 1 (.t 41)), S 43 (.bin .quo (.t 33) (.t 42)), S 10 (.mv (.t 43))]
@[simp] noncomputable def r12 (_ : Unit) : List Stp := [S 44 (.mv (.t 10)), S 45 (.bin .gtr (.t 44) (.c (.int .i64 0)))]
@[simp] noncomputable def r13 (_ : Unit) : List Stp := [S 46 (.fAddr 0 (.t 2)), S 48 (.fAddr 0 (.t 7)), S 50 (.mv (.t 9)), S 51 (.mv (.t 10)), S 53 (.fAddr 6 (.t 7)), S 55 (.mv (.t 9)), S 56 (.mv (.t 10)), S 47 (.load false 1 (.t 46)), S 49 (.load true 6 (.t 48)), SP 52 (.call (.c (.func (.func fn_drive_hull_opened) [] [])) [(.t 47), (.t 49), (.t 50), (.t 51)]), S 54 (.load true 6 (.t 53)), SP 57 (.call (.c (.func (.func fn_drive_blows_with) [] [])) [(.t 54), (.t 55), (.t 56)]), S 58 (.fAddr 0 (.t 7)), SN (.store 6 (.t 58) (.t 52)), S 59 (.fAddr 6 (.t 7)), SN (.store 6 (.t 59) (.t 57)), S 8 (.mv (.c (.bool true)))]
@[simp] noncomputable def r14 (_ : Unit) : List Stp := [S 60 (.bin .add (.t 27) (.c (.int .i64 1))), S 27 (.mv (.t 60))]
@[simp] noncomputable def r15 (_ : Unit) : List Stp := [S 61 (.fAddr 1 (.t 2)), S 62 (.load false 1 (.t 61)), S 63 (.load true 6 (.t 3)), S 64 (.build [(.int .i64 0), (.int .i64 0), (.int .i64 0), (.int .i64 0), (.int .i64 0), (.int .i64 0)] [(0, 6, (.t 63))]), S 65 (.load true 12 (.t 7)), SN (.mapU (true, [.i, .i, .i, .i, .i, .i]) (.t 62) (.t 64) (.t 65))]
@[simp] noncomputable def r16 (_ : Unit) : List Stp := [S 66 (.load true 12 (.t 7)), SN (.store 12 (.t 4) (.t 66))]
@[simp] noncomputable def ir : IR := (.seq (.ops r0) (.seq (.seq (.ops r1) (.seq (.ops r2) (.cond (.t 19) (.seq (.ops r3) .ret) .skip))) (.seq (.ops r4) (.seq (.seq (.ops r5) (.block 0 (.loop (.seq (.seq (.ops r6) (.cond (.t 23) .skip (.exit 0))) (.block 1 (.seq (.ops r7) (.seq (.ops r8) (.block 2 (.loop (.seq (.ops r9) (.seq (.cond (.t 28) .skip (.exit 2)) (.seq (.block 3 (.seq (.ops r10) (.seq (.ops r11) (.seq (.ops r12) (.cond (.t 45) (.ops r13) .skip))))) (.ops r14))))))))))))) (.seq (.ops r15) (.seq (.ops r16) .ret))))))
@[simp] noncomputable def rs : List RV := [.cell 4 true 12]
theorem comp : compF Pg cfg Try.f44 = some (ir, rs, 67) := by kernel_rfl
theorem enter {args : List AVal} {h : Heap} {K : AEnd → Heap → Prop} (F : Nat) (hl : args.length ≤ 67) (a : AW ⟨Pg, F, 67, false, []⟩ ir (RetK rs K) (initT args) [] h) : ACalls Pg fn_drive_settler_rest args h K :=
  ACalls.of_comp follows Try.func44 comp hl a
theorem pure {args : List AVal} {v : AVal} (hl : args.length ≤ 67) (a : AW ⟨Pg, 0, 67, false, []⟩ ir (RetK rs fun e _ => e = .ret v) (initT args) [] nilH) : APure Pg fn_drive_settler_rest args v :=
  APure.of_nil (enter 0 hl a)
end drive_settler_rest

namespace drive_blowsOf
noncomputable def cfg : Cfg := { pure := pures, pcs := [], raw := [], cuts := [], draws := [], keep := [] }
@[simp] noncomputable def r0 (_ : Unit) : List Stp := [S 2 (.alloc [(.int .i64 0), (.int .i64 0), (.int .i64 0), (.int .i64 0), (.int .i64 0), (.int .i64 0)])]
@[simp] noncomputable def r1 (_ : Unit) : List Stp := [S 3 (.slA 6 1 (.t 2) none none none), S 4 (.mv (.t 0)), S 5 (.copy 1 (.t 3) (.t 4))]
@[simp] noncomputable def r2 (_ : Unit) : List Stp := [S 6 (.load true 6 (.t 2)), SN (.store 6 (.t 2) (.t 6))]
@[simp] noncomputable def ir : IR := (.seq (.ops r0) (.seq (.ops r1) (.seq (.ops r2) .ret)))
@[simp] noncomputable def rs : List RV := [.cell 2 true 6]
theorem comp : compF Pg cfg Try.f45 = some (ir, rs, 7) := by kernel_rfl
theorem enter {args : List AVal} {h : Heap} {K : AEnd → Heap → Prop} (F : Nat) (hl : args.length ≤ 7) (a : AW ⟨Pg, F, 7, false, []⟩ ir (RetK rs K) (initT args) [] h) : ACalls Pg fn_drive_blowsOf args h K :=
  ACalls.of_comp follows Try.func45 comp hl a
theorem pure {args : List AVal} {v : AVal} (hl : args.length ≤ 7) (a : AW ⟨Pg, 0, 7, false, []⟩ ir (RetK rs fun e _ => e = .ret v) (initT args) [] nilH) : APure Pg fn_drive_blowsOf args v :=
  APure.of_nil (enter 0 hl a)
end drive_blowsOf

namespace slices_Clone_int_int
noncomputable def cfg : Cfg := { pure := pures, pcs := [], raw := [], cuts := [], draws := [], keep := [] }
@[simp] noncomputable def r0 (_ : Unit) : List Stp := [S 2 (.mv (.c .nils))]
@[simp] noncomputable def r1 (_ : Unit) : List Stp := [S 3 (.mv (.t 0)), S 4 (.eqN .s false (.t 3))]
@[simp] noncomputable def r2 (_ : Unit) : List Stp := [S 2 (.mv (.c .nils))]
@[simp] noncomputable def r3 (_ : Unit) : List Stp := [S 5 (.bsl 0 [] []), S 6 (.mv (.t 0)), S 7 (.app 1 8 (.t 5) (.t 6)), S 2 (.mv (.t 7))]
@[simp] noncomputable def ir : IR := (.seq (.ops r0) (.seq (.seq (.ops r1) (.cond (.t 4) (.seq (.ops r2) .ret) .skip)) (.seq (.ops r3) .ret)))
@[simp] noncomputable def rs : List RV := [.tmp 2]
theorem comp : compF Pg cfg Try.f46 = some (ir, rs, 8) := by kernel_rfl
theorem enter {args : List AVal} {h : Heap} {K : AEnd → Heap → Prop} (F : Nat) (hl : args.length ≤ 8) (a : AW ⟨Pg, F, 8, false, []⟩ ir (RetK rs K) (initT args) [] h) : ACalls Pg fn_slices_Clone_int_int args h K :=
  ACalls.of_comp follows Try.func46 comp hl a
theorem pure {args : List AVal} {v : AVal} (hl : args.length ≤ 8) (a : AW ⟨Pg, 0, 8, false, []⟩ ir (RetK rs fun e _ => e = .ret v) (initT args) [] nilH) : APure Pg fn_slices_Clone_int_int args v :=
  APure.of_nil (enter 0 hl a)
end slices_Clone_int_int

namespace drive_hull_seams
noncomputable def cfg : Cfg := { pure := pures, pcs := [], raw := [], cuts := [], draws := [], keep := [] }
@[simp] noncomputable def r0 (_ : Unit) : List Stp := [S 2 (.mv (.c (.int .i64 0)))]
@[simp] noncomputable def r1 (_ : Unit) : List Stp := [S 3 (.mv (.t 0)), S 4 (.nilck (.t 3)), S 5 (.fAddr 0 (.t 4)), S 6 (.fAddr 0 (.t 5)), S 7 (.load false 1 (.t 6)), S 8 (.len (.t 7)), S 2 (.mv (.t 8))]
@[simp] noncomputable def ir : IR := (.seq (.ops r0) (.seq (.ops r1) .ret))
@[simp] noncomputable def rs : List RV := [.tmp 2]
theorem comp : compF Pg cfg Try.f47 = some (ir, rs, 9) := by kernel_rfl
theorem enter {args : List AVal} {h : Heap} {K : AEnd → Heap → Prop} (F : Nat) (hl : args.length ≤ 9) (a : AW ⟨Pg, F, 9, false, []⟩ ir (RetK rs K) (initT args) [] h) : ACalls Pg fn_drive_hull_seams args h K :=
  ACalls.of_comp follows Try.func47 comp hl a
theorem pure {args : List AVal} {v : AVal} (hl : args.length ≤ 9) (a : AW ⟨Pg, 0, 9, false, []⟩ ir (RetK rs fun e _ => e = .ret v) (initT args) [] nilH) : APure Pg fn_drive_hull_seams args v :=
  APure.of_nil (enter 0 hl a)
end drive_hull_seams

namespace ref05_check
noncomputable def cfg : Cfg := { pure := pures, pcs := [], raw := [], cuts := [], draws := [], keep := [] }
@[simp] noncomputable def r0 (_ : Unit) : List Stp := [S 2 (.box (.t 0)), S 4 (.mv (.c (.int .i64 0)))]
@[simp] noncomputable def r1 (_ : Unit) : List Stp := [S 5 (.load true 3 (.t 2)), SP 6 (.call (.c (.func (.func fn_ref05_Drive) [] [])) [(.t 5)]), S 7 (.un .not (.t 6))]
@[simp] noncomputable def r2 (_ : Unit) : List Stp := [S 4 (.mv (.c (.int .i64 1)))]
@[simp] noncomputable def r3 (_ : Unit) : List Stp := [S 8 (.mv (.t 1)), S 9 (.un .not (.t 8))]
@[simp] noncomputable def r4 (_ : Unit) : List Stp := [S 4 (.mv (.c (.int .i64 2)))]
@[simp] noncomputable def r5 (_ : Unit) : List Stp := [S 4 (.mv (.c (.int .i64 0)))]
@[simp] noncomputable def ir : IR := (.seq (.ops r0) (.seq (.seq (.ops r1) (.cond (.t 7) (.seq (.ops r2) .ret) .skip)) (.seq (.seq (.ops r3) (.cond (.t 9) (.seq (.ops r4) .ret) .skip)) (.seq (.ops r5) .ret))))
@[simp] noncomputable def rs : List RV := [.tmp 4]
theorem comp : compF Pg cfg Try.f48 = some (ir, rs, 10) := by kernel_rfl
theorem enter {args : List AVal} {h : Heap} {K : AEnd → Heap → Prop} (F : Nat) (hl : args.length ≤ 10) (a : AW ⟨Pg, F, 10, false, []⟩ ir (RetK rs K) (initT args) [] h) : ACalls Pg fn_ref05_check args h K :=
  ACalls.of_comp follows Try.func48 comp hl a
theorem pure {args : List AVal} {v : AVal} (hl : args.length ≤ 10) (a : AW ⟨Pg, 0, 10, false, []⟩ ir (RetK rs fun e _ => e = .ret v) (initT args) [] nilH) : APure Pg fn_ref05_check args v :=
  APure.of_nil (enter 0 hl a)
end ref05_check

namespace ref05_Blows
noncomputable def cfg : Cfg := { pure := pures, pcs := [], raw := [], cuts := [], draws := [], keep := [] }
@[simp] noncomputable def r0 (_ : Unit) : List Stp := [S 2 (.box (.t 0)), S 4 (.mv (.c (.bool false)))]
@[simp] noncomputable def r1 (_ : Unit) : List Stp := [S 5 (.mv (.c (.int .i64 0)))]
@[simp] noncomputable def r2 (_ : Unit) : List Stp := [S 6 (.mv (.t 5)), S 7 (.mv (.t 1)), S 8 (.len (.t 7)), S 9 (.bin .lss (.t 6) (.t 8))]
@[simp] noncomputable def r4 (_ : Unit) : List Stp := [S 12 (.mv (.t 1)), S 13 (.mv (.t 5)), S 14 (.ixS 1 (.t 12) (.t 13)), S 15 (.load false 1 (.t 14)), SP 16 (.call (.c (.func (.func fn_ref05_in) [] [])) [(.t 15), (.c (.int .i64 0)), (.c (.int .i64 52))]), S 17 (.un .not (.t 16))]
@[simp] noncomputable def r5 (_ : Unit) : List Stp := [S 4 (.mv (.c (.bool false)))]
@[simp] noncomputable def r3 (_ : Unit) : List Stp := [S 10 (.mv (.t 5)), S 11 (.bin .add (.t 10) (.c (.int .i64 1))), S 5 (.mv (.t 11))]
@[simp] noncomputable def r6 (_ : Unit) : List Stp := [S 18 (.mv (.t 1)), S 19 (.len (.t 18)), S 20 (.fAddr 0 (.t 2)), S 21 (.load false 1 (.t 20)), S 22 (.len (.t 21)), S 23 (.bin .eql (.t 19) (.t 22)), S 4 (.mv (.t 23))]
@[simp] noncomputable def ir : IR := (.seq (.ops r0) (.seq (.seq (.ops r1) (.block 0 (.loop (.seq (.seq (.ops r2) (.cond (.t 9) .skip (.exit 0))) (.seq (.block 1 (.seq (.ops r4) (.cond (.t 17) (.seq (.ops r5) .ret) .skip))) (.ops r3)))))) (.seq (.ops r6) .ret)))
@[simp] noncomputable def rs : List RV := [.tmp 4]
theorem comp : compF Pg cfg Try.f49 = some (ir, rs, 24) := by kernel_rfl
theorem enter {args : List AVal} {h : Heap} {K : AEnd → Heap → Prop} (F : Nat) (hl : args.length ≤ 24) (a : AW ⟨Pg, F, 24, false, []⟩ ir (RetK rs K) (initT args) [] h) : ACalls Pg fn_ref05_Blows args h K :=
  ACalls.of_comp follows Try.func49 comp hl a
theorem pure {args : List AVal} {v : AVal} (hl : args.length ≤ 24) (a : AW ⟨Pg, 0, 24, false, []⟩ ir (RetK rs fun e _ => e = .ret v) (initT args) [] nilH) : APure Pg fn_ref05_Blows args v :=
  APure.of_nil (enter 0 hl a)
end ref05_Blows

namespace ref05_Rest
noncomputable def cfg : Cfg := { pure := pures, pcs := [], raw := [], cuts := [], draws := [(1, [⟨1, false, [], []⟩, ⟨0, false, [], []⟩, ⟨2, false, [], []⟩, ⟨3, false, [], []⟩, ⟨4, false, [], []⟩, ⟨5, false, [], []⟩, ⟨6, false, [], []⟩, ⟨7, false, [], []⟩, ⟨8, false, [], []⟩, ⟨9, false, [], []⟩])], keep := [] }
@[simp] noncomputable def r0 (_ : Unit) : List Stp := [S 2 (.box (.t 0)), S 4 (.mv (.c .nils)), S 5 (.mv (.c .nils))]
@[simp] noncomputable def r1 (_ : Unit) : List Stp := [S 12 (.mv (.t 1)), S 11 (.load true 3 (.t 2)), S 13 (.load true 3 (.t 2)), SP 14 (.call (.c (.func (.func fn_ref05_rising) [] [])) [(.t 13)]), SP 15 (.call (.c (.func (.func fn_ref05_run) [] [])) [(.t 11), (.t 12), (.t 14)]), S 10 (.mv (.t 15)), S 16 (.ext (.t 10) 0), S 17 (.ext (.t 10) 1), S 6 (.mv (.t 16)), S 7 (.mv (.t 17))]
@[simp] noncomputable def r2 (_ : Unit) : List Stp := [S 18 (.mv (.t 1)), S 19 (.len (.t 18)), S 20 (.mksl 8 [(.int .i64 0)] (.t 19) (.t 19)), S 8 (.mv (.t 20))]
@[simp] noncomputable def r3 (_ : Unit) : List Stp := [S 9 (.mv (.c (.int .i64 0)))]
@[simp] noncomputable def r4 (_ : Unit) : List Stp := [S 21 (.mv (.t 9)), S 22 (.mv (.t 6)), S 23 (.len (.t 22)), S 24 (.bin .lss (.t 21) (.t 23))]
@[simp] noncomputable def r6 (_ : Unit) : List Stp := [S 27 (.mv (.t 8)), S 28 (.mv (.t 6)), S 29 (.mv (.t 9)), S 30 (.ixS 1 (.t 28) (.t 29)), S 31 (.load false 1 (.t 30)), S 32 (.ixS 1 (.t 27) (.t 31)), S 33 (.load false 1 (.t 32)), S 34 (.bin .add (.t 33) (.c (.int .i64 1))), S 35 (.ixS 1 (.t 27) (.t 31)), SN (.store 1 (.t 35) (.t 34))]
@[simp] noncomputable def r5 (_ : Unit) : List Stp := [S 25 (.mv (.t 9)), S 26 (.bin .add (.t 25) (.c (.int .i64 1))), S 9 (.mv (.t 26))]
@[simp] noncomputable def r7 (_ : Unit) : List Stp := [S 36 (.bsl 0 [] []), S 37 (.mv (.t 7)), S 38 (.app 1 8 (.t 36) (.t 37)), S 39 (.mv (.t 8)), S 4 (.mv (.t 38)), S 5 (.mv (.t 39))]
@[simp] noncomputable def ir : IR := (.seq (.ops r0) (.seq (.ops r1) (.seq (.ops r2) (.seq (.seq (.ops r3) (.block 0 (.loop (.seq (.seq (.ops r4) (.cond (.t 24) .skip (.exit 0))) (.seq (.block 1 (.ops r6)) (.ops r5)))))) (.seq (.ops r7) .ret)))))
@[simp] noncomputable def rs : List RV := [.tmp 4, .tmp 5]
theorem comp : compF Pg cfg Try.f50 = some (ir, rs, 40) := by kernel_rfl
theorem enter {args : List AVal} {h : Heap} {K : AEnd → Heap → Prop} (F : Nat) (hl : args.length ≤ 40) (a : AW ⟨Pg, F, 40, false, []⟩ ir (RetK rs K) (initT args) [] h) : ACalls Pg fn_ref05_Rest args h K :=
  ACalls.of_comp follows Try.func50 comp hl a
theorem pure {args : List AVal} {v : AVal} (hl : args.length ≤ 40) (a : AW ⟨Pg, 0, 40, false, []⟩ ir (RetK rs fun e _ => e = .ret v) (initT args) [] nilH) : APure Pg fn_ref05_Rest args v :=
  APure.of_nil (enter 0 hl a)
end ref05_Rest

namespace drive_Run_1
noncomputable def cfg : Cfg := { pure := pures, pcs := [], raw := [], cuts := [], draws := [], keep := [] }
@[simp] noncomputable def r0 (_ : Unit) : List Stp := [S 1 (.recov), S 2 (.call (.c (.func (.func fn_drive_said) [] [])) [(.t 1), (.t 0)])]
@[simp] noncomputable def ir : IR := (.ops r0)
@[simp] noncomputable def rs : List RV := []
theorem comp : compF Pg cfg Try.f51 = some (ir, rs, 3) := by kernel_rfl
theorem enter {args : List AVal} {h : Heap} {K : AEnd → Heap → Prop} (F : Nat) (hl : args.length ≤ 3) (a : AW ⟨Pg, F, 3, false, []⟩ ir (RetK rs K) (initT args) [] h) : ACalls Pg fn_drive_Run_1 args h K :=
  ACalls.of_comp follows Try.func51 comp hl a
theorem pure {args : List AVal} {v : AVal} (hl : args.length ≤ 3) (a : AW ⟨Pg, 0, 3, false, []⟩ ir (RetK rs fun e _ => e = .ret v) (initT args) [] nilH) : APure Pg fn_drive_Run_1 args v :=
  APure.of_nil (enter 0 hl a)
theorem recClo : RecClo Pg fn_drive_Run_1 fn_drive_said := ⟨_, Try.func51, by kernel_rfl⟩
end drive_Run_1

namespace drive_isOrder
noncomputable def cfg : Cfg := { pure := pures, pcs := [], raw := [], cuts := [], draws := [], keep := [] }
@[simp] noncomputable def r0 (_ : Unit) : List Stp := [S 2 (.box (.t 0)), S 4 (.mv (.c (.bool false)))]
@[simp] noncomputable def r1 (_ : Unit) : List Stp := [S 8 (.mv (.t 1)), S 9 (.len (.t 8)), S 10 (.mksl 8 [(.int .i64 0)] (.t 9) (.t 9)), S 5 (.mv (.t 10))]
@[simp] noncomputable def r2 (_ : Unit) : List Stp := [S 11 (.mv (.t 5)), S 12 (.mv (.t 1)), S 13 (.copy 1 (.t 11) (.t 12))]
@[simp] noncomputable def r3 (_ : Unit) : List Stp := [S 14 (.mv (.t 5)), S 15 (.call (.c (.func (.func fn_slices_Sort_int_int) [] [])) [(.t 14)])]
@[simp] noncomputable def r4 (_ : Unit) : List Stp := [S 16 (.mv (.t 5)), S 17 (.len (.t 16)), S 18 (.mv (.c (.int .i64 0)))]
@[simp] noncomputable def r5 (_ : Unit) : List Stp := [S 19 (.bin .lss (.t 18) (.t 17))]
@[simp] noncomputable def r6 (_ : Unit) : List Stp := [S 20 (.mv (.t 18)), S 21 (.ixS 1 (.t 16) (.t 18)), S 22 (.load false 1 (.t 21)), S 6 (.mv (.t 20)), S 7 (.mv (.t 22))]
@[simp] noncomputable def r7 (_ : Unit) : List Stp := [S 23 (.mv (.t 6)), S 24 (.mv (.t 7)), S 25 (.bin .neq (.t 23) (.t 24))]
@[simp] noncomputable def r8 (_ : Unit) : List Stp := [S 4 (.mv (.c (.bool false)))]
@[simp] noncomputable def r9 (_ : Unit) : List Stp := [S 26 (.bin .add (.t 18) (.c (.int .i64 1))), S 18 (.mv (.t 26))]
@[simp] noncomputable def r10 (_ : Unit) : List Stp := [S 27 (.mv (.t 1)), S 28 (.len (.t 27)), S 29 (.fAddr 0 (.t 2)), S 30 (.load false 1 (.t 29)), S 31 (.len (.t 30)), S 32 (.bin .eql (.t 28) (.t 31)), S 4 (.mv (.t 32))]
@[simp] noncomputable def ir : IR := (.seq (.ops r0) (.seq (.ops r1) (.seq (.ops r2) (.seq (.ops r3) (.seq (.seq (.ops r4) (.block 0 (.loop (.seq (.ops r5) (.seq (.cond (.t 19) .skip (.exit 0)) (.seq (.block 1 (.seq (.ops r6) (.seq (.ops r7) (.cond (.t 25) (.seq (.ops r8) .ret) .skip)))) (.ops r9))))))) (.seq (.ops r10) .ret))))))
@[simp] noncomputable def rs : List RV := [.tmp 4]
theorem comp : compF Pg cfg Try.f52 = some (ir, rs, 33) := by kernel_rfl
theorem enter {args : List AVal} {h : Heap} {K : AEnd → Heap → Prop} (F : Nat) (hl : args.length ≤ 33) (a : AW ⟨Pg, F, 33, false, []⟩ ir (RetK rs K) (initT args) [] h) : ACalls Pg fn_drive_isOrder args h K :=
  ACalls.of_comp follows Try.func52 comp hl a
theorem pure {args : List AVal} {v : AVal} (hl : args.length ≤ 33) (a : AW ⟨Pg, 0, 33, false, []⟩ ir (RetK rs fun e _ => e = .ret v) (initT args) [] nilH) : APure Pg fn_drive_isOrder args v :=
  APure.of_nil (enter 0 hl a)
end drive_isOrder

namespace slices_IsSorted_int_int
noncomputable def cfg : Cfg := { pure := pures, pcs := [], raw := [], cuts := [], draws := [(4, [⟨0, false, [], []⟩, ⟨1, false, [], []⟩, ⟨2, false, [], []⟩, ⟨4, false, [], []⟩, ⟨5, false, [], []⟩, ⟨6, false, [], []⟩, ⟨7, false, [], []⟩, ⟨3, false, [], []⟩, ⟨8, false, [], []⟩, ⟨9, false, [], []⟩])], keep := [] }
@[simp] noncomputable def r0 (_ : Unit) : List Stp := [S 2 (.mv (.c (.bool false)))]
@[simp] noncomputable def r1 (_ : Unit) : List Stp := [S 4 (.mv (.t 0)), S 5 (.len (.t 4)), S 6 (.bin .sub (.t 5) (.c (.int .i64 1))), S 3 (.mv (.t 6))]
@[simp] noncomputable def r2 (_ : Unit) : List Stp := [S 7 (.mv (.t 3)), S 8 (.bin .gtr (.t 7) (.c (.int .i64 0)))]
@[simp] noncomputable def r4 (_ : Unit) : List Stp := [S 11 (.mv (.t 0)), S 12 (.mv (.t 3)), S 13 (.ixS 1 (.t 11) (.t 12)), S 15 (.mv (.t 0)), S 16 (.mv (.t 3)), S 17 (.bin .sub (.t 16) (.c (.int .i64 1))), S 18 (.ixS 1 (.t 15) (.t 17)), S 14 (.load false 1 (.t 13)), S 19 (.load false 1 (.t 18)), SP 20 (.call (.c (.func (.func fn_cmp_Less_int) [] [])) [(.t 14), (.t 19)])]
@[simp] noncomputable def r5 (_ : Unit) : List Stp := [S 2 (.mv (.c (.bool false)))]
@[simp] noncomputable def r3 (_ : Unit) : List Stp := [S 9 (.mv (.t 3)), S 10 (.bin .sub (.t 9) (.c (.int .i64 1))), S 3 (.mv (.t 10))]
@[simp] noncomputable def r6 (_ : Unit) : List Stp := [S 2 (.mv (.c (.bool true)))]
@[simp] noncomputable def ir : IR := (.seq (.ops r0) (.seq (.seq (.ops r1) (.block 0 (.loop (.seq (.seq (.ops r2) (.cond (.t 8) .skip (.exit 0))) (.seq (.block 1 (.seq (.ops r4) (.cond (.t 20) (.seq (.ops r5) .ret) .skip))) (.ops r3)))))) (.seq (.ops r6) .ret)))
@[simp] noncomputable def rs : List RV := [.tmp 2]
theorem comp : compF Pg cfg Try.f53 = some (ir, rs, 21) := by kernel_rfl
theorem enter {args : List AVal} {h : Heap} {K : AEnd → Heap → Prop} (F : Nat) (hl : args.length ≤ 21) (a : AW ⟨Pg, F, 21, false, []⟩ ir (RetK rs K) (initT args) [] h) : ACalls Pg fn_slices_IsSorted_int_int args h K :=
  ACalls.of_comp follows Try.func53 comp hl a
theorem pure {args : List AVal} {v : AVal} (hl : args.length ≤ 21) (a : AW ⟨Pg, 0, 21, false, []⟩ ir (RetK rs fun e _ => e = .ret v) (initT args) [] nilH) : APure Pg fn_slices_IsSorted_int_int args v :=
  APure.of_nil (enter 0 hl a)
end slices_IsSorted_int_int

namespace drive_hull_steps
noncomputable def cfg : Cfg := { pure := pures, pcs := [], raw := [], cuts := [], draws := [], keep := [] }
@[simp] noncomputable def r0 (_ : Unit) : List Stp := [S 3 (.box (.t 0)), S 4 (.box (.t 1)), S 5 (.box (.t 2)), S 6 (.mv (.c .nilf))]
@[simp] noncomputable def r1 (_ : Unit) : List Stp := [S 7 (.mkF (.func fn_drive_hull_steps_1) [] [(.t 5), (.t 3), (.t 4)]), S 6 (.mv (.t 7))]
@[simp] noncomputable def ir : IR := (.seq (.ops r0) (.seq (.ops r1) .ret))
@[simp] noncomputable def rs : List RV := [.tmp 6]
theorem comp : compF Pg cfg Try.f54 = some (ir, rs, 8) := by kernel_rfl
theorem enter {args : List AVal} {h : Heap} {K : AEnd → Heap → Prop} (F : Nat) (hl : args.length ≤ 8) (a : AW ⟨Pg, F, 8, false, []⟩ ir (RetK rs K) (initT args) [] h) : ACalls Pg fn_drive_hull_steps args h K :=
  ACalls.of_comp follows Try.func54 comp hl a
theorem pure {args : List AVal} {v : AVal} (hl : args.length ≤ 8) (a : AW ⟨Pg, 0, 8, false, []⟩ ir (RetK rs fun e _ => e = .ret v) (initT args) [] nilH) : APure Pg fn_drive_hull_steps args v :=
  APure.of_nil (enter 0 hl a)
end drive_hull_steps

namespace ref05_Order
noncomputable def cfg : Cfg := { pure := pures, pcs := [], raw := [], cuts := [], draws := [], keep := [] }
@[simp] noncomputable def r0 (_ : Unit) : List Stp := [S 2 (.box (.t 0)), S 4 (.mv (.c (.bool false)))]
@[simp] noncomputable def r1 (_ : Unit) : List Stp := [S 5 (.mv (.c (.int .i64 0)))]
@[simp] noncomputable def r2 (_ : Unit) : List Stp := [S 8 (.mv (.t 5)), S 9 (.fAddr 0 (.t 2)), S 10 (.load false 1 (.t 9)), S 11 (.len (.t 10)), S 12 (.bin .lss (.t 8) (.t 11))]
@[simp] noncomputable def r4 (_ : Unit) : List Stp := [S 6 (.mv (.c (.int .i64 0)))]
@[simp] noncomputable def r5 (_ : Unit) : List Stp := [S 7 (.mv (.c (.int .i64 0)))]
@[simp] noncomputable def r6 (_ : Unit) : List Stp := [S 15 (.mv (.t 7)), S 16 (.mv (.t 1)), S 17 (.len (.t 16)), S 18 (.bin .lss (.t 15) (.t 17))]
@[simp] noncomputable def r8 (_ : Unit) : List Stp := [S 21 (.mv (.t 1)), S 22 (.mv (.t 7)), S 23 (.ixS 1 (.t 21) (.t 22)), S 24 (.load false 1 (.t 23)), S 25 (.mv (.t 5)), S 26 (.bin .eql (.t 24) (.t 25))]
@[simp] noncomputable def r9 (_ : Unit) : List Stp := [S 27 (.mv (.t 6)), S 28 (.bin .add (.t 27) (.c (.int .i64 1))), S 6 (.mv (.t 28))]
@[simp] noncomputable def r7 (_ : Unit) : List Stp := [S 19 (.mv (.t 7)), S 20 (.bin .add (.t 19) (.c (.int .i64 1))), S 7 (.mv (.t 20))]
@[simp] noncomputable def r10 (_ : Unit) : List Stp := [S 29 (.mv (.t 6)), S 30 (.bin .neq (.t 29) (.c (.int .i64 1)))]
@[simp] noncomputable def r11 (_ : Unit) : List Stp := [S 4 (.mv (.c (.bool false)))]
@[simp] noncomputable def r3 (_ : Unit) : List Stp := [S 13 (.mv (.t 5)), S 14 (.bin .add (.t 13) (.c (.int .i64 1))), S 5 (.mv (.t 14))]
@[simp] noncomputable def r12 (_ : Unit) : List Stp := [S 31 (.mv (.t 1)), S 32 (.len (.t 31)), S 33 (.fAddr 0 (.t 2)), S 34 (.load false 1 (.t 33)), S 35 (.len (.t 34)), S 36 (.bin .eql (.t 32) (.t 35)), S 4 (.mv (.t 36))]
@[simp] noncomputable def ir : IR := (.seq (.ops r0) (.seq (.seq (.ops r1) (.block 0 (.loop (.seq (.seq (.ops r2) (.cond (.t 12) .skip (.exit 0))) (.seq (.block 1 (.seq (.ops r4) (.seq (.seq (.ops r5) (.block 2 (.loop (.seq (.seq (.ops r6) (.cond (.t 18) .skip (.exit 2))) (.seq (.block 3 (.seq (.ops r8) (.cond (.t 26) (.ops r9) .skip))) (.ops r7)))))) (.seq (.ops r10) (.cond (.t 30) (.seq (.ops r11) .ret) .skip))))) (.ops r3)))))) (.seq (.ops r12) .ret)))
@[simp] noncomputable def rs : List RV := [.tmp 4]
theorem comp : compF Pg cfg Try.f55 = some (ir, rs, 37) := by kernel_rfl
theorem enter {args : List AVal} {h : Heap} {K : AEnd → Heap → Prop} (F : Nat) (hl : args.length ≤ 37) (a : AW ⟨Pg, F, 37, false, []⟩ ir (RetK rs K) (initT args) [] h) : ACalls Pg fn_ref05_Order args h K :=
  ACalls.of_comp follows Try.func55 comp hl a
theorem pure {args : List AVal} {v : AVal} (hl : args.length ≤ 37) (a : AW ⟨Pg, 0, 37, false, []⟩ ir (RetK rs fun e _ => e = .ret v) (initT args) [] nilH) : APure Pg fn_ref05_Order args v :=
  APure.of_nil (enter 0 hl a)
end ref05_Order

namespace ref05_run
noncomputable def cfg : Cfg := { pure := pures, pcs := [], raw := [], cuts := [], draws := [(8, [⟨0, false, [], []⟩, ⟨1, false, [], []⟩, ⟨2, false, [], []⟩, ⟨3, false, [], []⟩, ⟨7, false, [], []⟩, ⟨9, false, [], []⟩, ⟨10, false, [], []⟩, ⟨11, false, [], []⟩, ⟨4, false, [], []⟩, ⟨5, false, [], []⟩, ⟨6, false, [], []⟩, ⟨8, false, [], []⟩, ⟨12, false, [], []⟩, ⟨13, false, [], []⟩, ⟨14, false, [], []⟩, ⟨15, false, [], []⟩]), (9, [⟨0, false, [], []⟩, ⟨1, false, [], []⟩, ⟨2, false, [], []⟩, ⟨3, false, [], []⟩, ⟨8, false, [], []⟩, ⟨9, false, [], []⟩, ⟨10, false, [], []⟩, ⟨11, false, [], []⟩, ⟨4, false, [], []⟩, ⟨7, false, [], []⟩, ⟨12, false, [], []⟩, ⟨5, true, [], []⟩, ⟨6, false, [], [7, 12]⟩, ⟨13, false, [], []⟩, ⟨14, false, [], []⟩, ⟨15, false, [], []⟩, ⟨16, false, [], []⟩])], keep := [] }
@[simp] noncomputable def r0 (_ : Unit) : List Stp := [S 3 (.box (.t 0)), S 6 (.mv (.c .nils)), S 7 (.mv (.c .nils))]
@[simp] noncomputable def r1 (_ : Unit) : List Stp := [S 8 (.mv (.c .nils))]
@[simp] noncomputable def r2 (_ : Unit) : List Stp := [S 9 (.mv (.c (.bool true)))]
@[simp] noncomputable def r3 (_ : Unit) : List Stp := [S 11 (.mv (.t 9))]
@[simp] noncomputable def r4 (_ : Unit) : List Stp := [S 9 (.mv (.c (.bool false)))]
@[simp] noncomputable def r5 (_ : Unit) : List Stp := [S 10 (.mv (.c (.int .i64 0)))]
@[simp] noncomputable def r6 (_ : Unit) : List Stp := [S 12 (.mv (.t 10)), S 13 (.mv (.t 2)), S 14 (.len (.t 13)), S 15 (.bin .lss (.t 12) (.t 14))]
@[simp] noncomputable def r8 (_ : Unit) : List Stp := [S 18 (.mv (.t 1)), S 19 (.mv (.t 2)), S 20 (.mv (.t 10)), S 21 (.ixS 1 (.t 19) (.t 20)), S 25 (.fAddr 0 (.t 3)), S 27 (.mv (.t 2)), S 28 (.mv (.t 10)), S 29 (.ixS 1 (.t 27) (.t 28)), S 22 (.load false 1 (.t 21)), S 23 (.ixS 1 (.t 18) (.t 22)), S 24 (.load false 1 (.t 23)), S 26 (.load false 1 (.t 25)), S 30 (.load false 1 (.t 29)), S 31 (.ixS 1 (.t 26) (.t 30)), S 32 (.load false 1 (.t 31)), S 33 (.bin .geq (.t 24) (.t 32))]
@[simp] noncomputable def r9 (_ : Unit) : List Stp := [S 34 (.mv (.t 8)), S 35 (.mv (.t 2)), S 36 (.mv (.t 10)), S 37 (.ixS 1 (.t 35) (.t 36)), S 42 (.mv (.t 1)), S 43 (.mv (.t 2)), S 44 (.mv (.t 10)), S 45 (.ixS 1 (.t 43) (.t 44)), S 38 (.load false 1 (.t 37)), S 41 (.load true 3 (.t 3)), S 46 (.load false 1 (.t 45)), SD (some 39) (.bsl 1 [(.int .i64 0)] [(0, 1, (.t 38))]) true [] [], SD (some 40) (.app 1 8 (.t 34) (.t 39)) false [] [I 41 (.load true 3 (.t 3)), I 46 (.load false 1 (.t 45))], SP 47 (.call (.c (.func (.func fn_ref05_open) [] [])) [(.t 41), (.t 42), (.t 46)]), S 8 (.mv (.t 40)), S 1 (.mv (.t 47)), S 9 (.mv (.c (.bool true)))]
@[simp] noncomputable def r7 (_ : Unit) : List Stp := [S 16 (.mv (.t 10)), S 17 (.bin .add (.t 16) (.c (.int .i64 1))), S 10 (.mv (.t 17))]
@[simp] noncomputable def r10 (_ : Unit) : List Stp := [S 48 (.mv (.t 8)), S 49 (.mv (.t 1)), S 6 (.mv (.t 48)), S 7 (.mv (.t 49))]
@[simp] noncomputable def ir : IR := (.seq (.ops r0) (.seq (.ops r1) (.seq (.seq (.ops r2) (.block 0 (.loop (.seq (.seq (.ops r3) (.cond (.t 11) .skip (.exit 0))) (.block 1 (.seq (.ops r4) (.seq (.ops r5) (.block 2 (.loop (.seq (.seq (.ops r6) (.cond (.t 15) .skip (.exit 2))) (.seq (.block 3 (.seq (.ops r8) (.cond (.t 33) (.seq (.ops r9) (.exit 2)) .skip))) (.ops r7)))))))))))) (.seq (.ops r10) .ret))))
@[simp] noncomputable def rs : List RV := [.tmp 6, .tmp 7]
theorem comp : compF Pg cfg Try.f56 = some (ir, rs, 50) := by kernel_rfl
theorem enter {args : List AVal} {h : Heap} {K : AEnd → Heap → Prop} (F : Nat) (hl : args.length ≤ 50) (a : AW ⟨Pg, F, 50, false, []⟩ ir (RetK rs K) (initT args) [] h) : ACalls Pg fn_ref05_run args h K :=
  ACalls.of_comp follows Try.func56 comp hl a
theorem pure {args : List AVal} {v : AVal} (hl : args.length ≤ 50) (a : AW ⟨Pg, 0, 50, false, []⟩ ir (RetK rs fun e _ => e = .ret v) (initT args) [] nilH) : APure Pg fn_ref05_run args v :=
  APure.of_nil (enter 0 hl a)
end ref05_run

namespace drive_Times_1
noncomputable def cfg : Cfg := { pure := pures, pcs := [], raw := [], cuts := [], draws := [], keep := [] }
@[simp] noncomputable def r0 (_ : Unit) : List Stp := [S 1 (.recov), S 2 (.call (.c (.func (.func fn_drive_said) [] [])) [(.t 1), (.t 0)])]
@[simp] noncomputable def ir : IR := (.ops r0)
@[simp] noncomputable def rs : List RV := []
theorem comp : compF Pg cfg Try.f57 = some (ir, rs, 3) := by kernel_rfl
theorem enter {args : List AVal} {h : Heap} {K : AEnd → Heap → Prop} (F : Nat) (hl : args.length ≤ 3) (a : AW ⟨Pg, F, 3, false, []⟩ ir (RetK rs K) (initT args) [] h) : ACalls Pg fn_drive_Times_1 args h K :=
  ACalls.of_comp follows Try.func57 comp hl a
theorem pure {args : List AVal} {v : AVal} (hl : args.length ≤ 3) (a : AW ⟨Pg, 0, 3, false, []⟩ ir (RetK rs fun e _ => e = .ret v) (initT args) [] nilH) : APure Pg fn_drive_Times_1 args v :=
  APure.of_nil (enter 0 hl a)
theorem recClo : RecClo Pg fn_drive_Times_1 fn_drive_said := ⟨_, Try.func57, by kernel_rfl⟩
end drive_Times_1

namespace drive_isSeam
noncomputable def cfg : Cfg := { pure := pures, pcs := [], raw := [], cuts := [], draws := [], keep := [] }
@[simp] noncomputable def r0 (_ : Unit) : List Stp := [S 2 (.box (.t 0)), S 4 (.mv (.c (.bool false)))]
@[simp] noncomputable def r1 (_ : Unit) : List Stp := [S 5 (.mv (.t 1)), S 6 (.fAddr 0 (.t 2)), S 7 (.load false 1 (.t 6)), S 8 (.len (.t 7)), S 9 (.bin .sub (.t 8) (.c (.int .i64 1))), SP 10 (.call (.c (.func (.func fn_drive_within) [] [])) [(.t 5), (.c (.int .i64 0)), (.t 9)]), S 4 (.mv (.t 10))]
@[simp] noncomputable def ir : IR := (.seq (.ops r0) (.seq (.ops r1) .ret))
@[simp] noncomputable def rs : List RV := [.tmp 4]
theorem comp : compF Pg cfg Try.f58 = some (ir, rs, 11) := by kernel_rfl
theorem enter {args : List AVal} {h : Heap} {K : AEnd → Heap → Prop} (F : Nat) (hl : args.length ≤ 11) (a : AW ⟨Pg, F, 11, false, []⟩ ir (RetK rs K) (initT args) [] h) : ACalls Pg fn_drive_isSeam args h K :=
  ACalls.of_comp follows Try.func58 comp hl a
theorem pure {args : List AVal} {v : AVal} (hl : args.length ≤ 11) (a : AW ⟨Pg, 0, 11, false, []⟩ ir (RetK rs fun e _ => e = .ret v) (initT args) [] nilH) : APure Pg fn_drive_isSeam args v :=
  APure.of_nil (enter 0 hl a)
end drive_isSeam

namespace drive_hull_times
noncomputable def cfg : Cfg := { pure := pures, pcs := [], raw := [], cuts := [], draws := [(2, [⟨1, false, [], []⟩, ⟨2, false, [], []⟩, ⟨6, false, [], []⟩, ⟨0, false, [], []⟩, ⟨5, false, [], []⟩, ⟨3, false, [], [5]⟩, ⟨4, false, [], []⟩, ⟨7, false, [], []⟩, ⟨8, false, [], []⟩, ⟨9, false, [], []⟩, ⟨10, false, [], []⟩, ⟨11, false, [], []⟩])], keep := [] }
@[simp] noncomputable def r0 (_ : Unit) : List Stp := [S 2 (.alloc [(.int .i64 0), (.int .i64 0), (.int .i64 0), (.int .i64 0), (.int .i64 0), (.int .i64 0)]), S 3 (.alloc [(.int .i64 0), (.int .i64 0), (.int .i64 0), (.int .i64 0), (.int .i64 0), (.int .i64 0)])]
@[simp] noncomputable def r1 (_ : Unit) : List Stp := [S 5 (.mv (.t 0)), S 6 (.call (.c (.func (.func fn_drive_hull_settler) [] [])) [(.t 5)]), S 4 (.alloc [.nilp, .nilm]), SN (.store 2 (.t 4) (.t 6))]
@[simp] noncomputable def r2 (_ : Unit) : List Stp := [S 8 (.mv (.t 0)), SP 9 (.call (.c (.func (.func fn_drive_hull_ends) [] [])) [(.t 8), (.c (.bool false))]), S 13 (.mv (.t 0)), S 7 (.load true 2 (.t 4)), S 12 (.load true 2 (.t 4)), SD (some 10) (.call (.c (.func (.func fn_drive_settler_rest) [] [])) [(.t 7), (.t 9)]) false [] [I 12 (.load true 2 (.t 4))], S 11 (.fld true 6 6 (.t 10)), SP 14 (.call (.c (.func (.func fn_drive_hull_ends) [] [])) [(.t 13), (.c (.bool true))]), S 15 (.call (.c (.func (.func fn_drive_settler_rest) [] [])) [(.t 12), (.t 14)]), S 16 (.fld true 6 6 (.t 15)), SN (.store 6 (.t 2) (.t 11)), SN (.store 6 (.t 3) (.t 16))]
@[simp] noncomputable def ir : IR := (.seq (.ops r0) (.seq (.ops r1) (.seq (.ops r2) .ret)))
@[simp] noncomputable def rs : List RV := [.cell 2 true 6, .cell 3 true 6]
theorem comp : compF Pg cfg Try.f59 = some (ir, rs, 17) := by kernel_rfl
theorem enter {args : List AVal} {h : Heap} {K : AEnd → Heap → Prop} (F : Nat) (hl : args.length ≤ 17) (a : AW ⟨Pg, F, 17, false, []⟩ ir (RetK rs K) (initT args) [] h) : ACalls Pg fn_drive_hull_times args h K :=
  ACalls.of_comp follows Try.func59 comp hl a
theorem pure {args : List AVal} {v : AVal} (hl : args.length ≤ 17) (a : AW ⟨Pg, 0, 17, false, []⟩ ir (RetK rs fun e _ => e = .ret v) (initT args) [] nilH) : APure Pg fn_drive_hull_times args v :=
  APure.of_nil (enter 0 hl a)
end drive_hull_times

namespace ref05_Seam
noncomputable def cfg : Cfg := { pure := pures, pcs := [], raw := [], cuts := [], draws := [], keep := [] }
@[simp] noncomputable def r0 (_ : Unit) : List Stp := [S 2 (.box (.t 0)), S 4 (.mv (.c (.bool false)))]
@[simp] noncomputable def r1 (_ : Unit) : List Stp := [S 5 (.mv (.t 1)), S 6 (.fAddr 0 (.t 2)), S 7 (.load false 1 (.t 6)), S 8 (.len (.t 7)), S 9 (.bin .sub (.t 8) (.c (.int .i64 1))), SP 10 (.call (.c (.func (.func fn_ref05_in) [] [])) [(.t 5), (.c (.int .i64 0)), (.t 9)]), S 4 (.mv (.t 10))]
@[simp] noncomputable def ir : IR := (.seq (.ops r0) (.seq (.ops r1) .ret))
@[simp] noncomputable def rs : List RV := [.tmp 4]
theorem comp : compF Pg cfg Try.f60 = some (ir, rs, 11) := by kernel_rfl
theorem enter {args : List AVal} {h : Heap} {K : AEnd → Heap → Prop} (F : Nat) (hl : args.length ≤ 11) (a : AW ⟨Pg, F, 11, false, []⟩ ir (RetK rs K) (initT args) [] h) : ACalls Pg fn_ref05_Seam args h K :=
  ACalls.of_comp follows Try.func60 comp hl a
theorem pure {args : List AVal} {v : AVal} (hl : args.length ≤ 11) (a : AW ⟨Pg, 0, 11, false, []⟩ ir (RetK rs fun e _ => e = .ret v) (initT args) [] nilH) : APure Pg fn_ref05_Seam args v :=
  APure.of_nil (enter 0 hl a)
end ref05_Seam

namespace ref05_hull
noncomputable def cfg : Cfg := { pure := pures, pcs := [], raw := [], cuts := [], draws := [(1, [⟨0, false, [], []⟩, ⟨1, false, [], []⟩, ⟨3, false, [], []⟩, ⟨4, false, [], []⟩, ⟨2, false, [], []⟩, ⟨5, false, [], []⟩, ⟨6, false, [], []⟩, ⟨7, true, [], []⟩, ⟨8, false, [], []⟩]), (5, [⟨0, false, [], []⟩, ⟨2, false, [], []⟩, ⟨3, false, [], []⟩, ⟨4, false, [], []⟩, ⟨7, false, [], []⟩, ⟨9, false, [], []⟩, ⟨10, false, [], []⟩, ⟨11, false, [], []⟩, ⟨1, false, [], []⟩, ⟨5, false, [], []⟩, ⟨6, false, [], []⟩, ⟨8, false, [], []⟩, ⟨12, false, [], []⟩, ⟨13, false, [], []⟩, ⟨14, false, [], []⟩, ⟨15, false, [], []⟩])], keep := [] }
@[simp] noncomputable def r0 (_ : Unit) : List Stp := [S 2 (.alloc [(.int .i64 0), (.int .i64 0)])]
@[simp] noncomputable def r1 (_ : Unit) : List Stp := [S 5 (.mv (.t 0)), S 6 (.ixS 1 (.t 5) (.c (.int .i64 0))), S 8 (.mv (.t 0)), S 9 (.ixS 1 (.t 8) (.c (.int .i64 0))), S 7 (.load false 1 (.t 6)), S 10 (.load false 1 (.t 9)), S 11 (.build [(.int .i64 0), (.int .i64 0)] [(0, 1, (.t 7)), (1, 1, (.t 10))]), SD (some 3) (.alloc [(.int .i64 0), (.int .i64 0)]) true [] [], SN (.store 2 (.t 3) (.t 11))]
@[simp] noncomputable def r2 (_ : Unit) : List Stp := [S 4 (.mv (.c (.int .i64 0)))]
@[simp] noncomputable def r3 (_ : Unit) : List Stp := [S 12 (.mv (.t 4)), S 13 (.mv (.t 0)), S 14 (.len (.t 13)), S 15 (.bin .lss (.t 12) (.t 14))]
@[simp] noncomputable def r5 (_ : Unit) : List Stp := [S 18 (.fAddr 0 (.t 3)), S 20 (.mv (.t 0)), S 21 (.mv (.t 4)), S 22 (.ixS 1 (.t 20) (.t 21)), S 25 (.fAddr 1 (.t 3)), S 27 (.mv (.t 0)), S 28 (.mv (.t 4)), S 29 (.ixS 1 (.t 27) (.t 28)), S 19 (.load false 1 (.t 18)), S 23 (.load false 1 (.t 22)), S 24 (.mm false [(.t 19), (.t 23)]), S 26 (.load false 1 (.t 25)), S 30 (.load false 1 (.t 29)), S 31 (.mm true [(.t 26), (.t 30)]), S 32 (.build [(.int .i64 0), (.int .i64 0)] [(0, 1, (.t 24)), (1, 1, (.t 31))]), SN (.store 2 (.t 3) (.t 32))]
@[simp] noncomputable def r4 (_ : Unit) : List Stp := [S 16 (.mv (.t 4)), S 17 (.bin .add (.t 16) (.c (.int .i64 1))), S 4 (.mv (.t 17))]
@[simp] noncomputable def r6 (_ : Unit) : List Stp := [S 33 (.load true 2 (.t 3)), SN (.store 2 (.t 2) (.t 33))]
@[simp] noncomputable def ir : IR := (.seq (.ops r0) (.seq (.ops r1) (.seq (.seq (.ops r2) (.block 0 (.loop (.seq (.seq (.ops r3) (.cond (.t 15) .skip (.exit 0))) (.seq (.block 1 (.ops r5)) (.ops r4)))))) (.seq (.ops r6) .ret))))
@[simp] noncomputable def rs : List RV := [.cell 2 true 2]
theorem comp : compF Pg cfg Try.f61 = some (ir, rs, 34) := by kernel_rfl
theorem enter {args : List AVal} {h : Heap} {K : AEnd → Heap → Prop} (F : Nat) (hl : args.length ≤ 34) (a : AW ⟨Pg, F, 34, false, []⟩ ir (RetK rs K) (initT args) [] h) : ACalls Pg fn_ref05_hull args h K :=
  ACalls.of_comp follows Try.func61 comp hl a
theorem pure {args : List AVal} {v : AVal} (hl : args.length ≤ 34) (a : AW ⟨Pg, 0, 34, false, []⟩ ir (RetK rs fun e _ => e = .ret v) (initT args) [] nilH) : APure Pg fn_ref05_hull args v :=
  APure.of_nil (enter 0 hl a)
end ref05_hull

namespace drive_Left_1
noncomputable def cfg : Cfg := { pure := pures, pcs := [], raw := [], cuts := [], draws := [], keep := [] }
@[simp] noncomputable def r0 (_ : Unit) : List Stp := [S 1 (.recov), S 2 (.call (.c (.func (.func fn_drive_said) [] [])) [(.t 1), (.t 0)])]
@[simp] noncomputable def ir : IR := (.ops r0)
@[simp] noncomputable def rs : List RV := []
theorem comp : compF Pg cfg Try.f62 = some (ir, rs, 3) := by kernel_rfl
theorem enter {args : List AVal} {h : Heap} {K : AEnd → Heap → Prop} (F : Nat) (hl : args.length ≤ 3) (a : AW ⟨Pg, F, 3, false, []⟩ ir (RetK rs K) (initT args) [] h) : ACalls Pg fn_drive_Left_1 args h K :=
  ACalls.of_comp follows Try.func62 comp hl a
theorem pure {args : List AVal} {v : AVal} (hl : args.length ≤ 3) (a : AW ⟨Pg, 0, 3, false, []⟩ ir (RetK rs fun e _ => e = .ret v) (initT args) [] nilH) : APure Pg fn_drive_Left_1 args v :=
  APure.of_nil (enter 0 hl a)
theorem recClo : RecClo Pg fn_drive_Left_1 fn_drive_said := ⟨_, Try.func62, by kernel_rfl⟩
end drive_Left_1

namespace drive_Left_2
noncomputable def cfg : Cfg := { pure := pures, pcs := [], raw := [], cuts := [], draws := [(2, [⟨0, false, [], []⟩, ⟨1, false, [], []⟩, ⟨4, false, [], []⟩, ⟨2, false, [], [4]⟩, ⟨3, false, [], []⟩, ⟨5, false, [], []⟩, ⟨6, false, [], []⟩]), (7, [⟨2, false, [], []⟩, ⟨3, false, [], []⟩, ⟨5, false, [], []⟩, ⟨6, false, [], []⟩, ⟨0, false, [], []⟩, ⟨1, false, [], []⟩, ⟨4, false, [], []⟩, ⟨7, false, [], []⟩])], keep := [] }
@[simp] noncomputable def r0 (_ : Unit) : List Stp := [S 7 (.box (.t 0))]
@[simp] noncomputable def r1 (_ : Unit) : List Stp := [S 11 (.mv (.t 1)), S 12 (.load false 1 (.t 2)), SP 13 (.call (.c (.func (.func fn_drive_hull_seams) [] [])) [(.t 12)]), S 14 (.bin .eql (.t 11) (.t 13))]
@[simp] noncomputable def r2 (_ : Unit) : List Stp := [S 15 (.load false 1 (.t 3)), S 16 (.load true 6 (.t 7)), S 19 (.load false 1 (.t 4)), SD (some 17) (.call (.t 15) [(.t 16)]) false [] [I 19 (.load false 1 (.t 4))], S 18 (.fld true 0 6 (.t 17)), S 20 (.ixV 6 1 false (.t 18) (.t 19)), S 9 (.mv (.t 20))]
@[simp] noncomputable def r3 (_ : Unit) : List Stp := [S 21 (.load false 1 (.t 5)), S 22 (.mv (.t 9)), S 23 (.mv (.t 9)), S 24 (.build [(.int .i64 0), (.int .i64 0)] [(0, 1, (.t 22)), (1, 1, (.t 23))]), S 25 (.bsl 1 [(.int .i64 0), (.int .i64 0)] [(0, 2, (.t 24))]), S 26 (.app 2 16 (.t 21) (.t 25)), SN (.store 1 (.t 5) (.t 26))]
@[simp] noncomputable def r4 (_ : Unit) : List Stp := [S 27 (.load false 1 (.t 2)), S 28 (.nilck (.t 27)), S 29 (.fAddr 0 (.t 28)), S 30 (.fAddr 2 (.t 29)), S 31 (.load false 1 (.t 30)), S 32 (.mv (.t 1)), S 33 (.ixS 2 (.t 31) (.t 32)), S 34 (.fAddr 0 (.t 33)), S 35 (.load false 1 (.t 34)), S 10 (.mv (.t 35))]
@[simp] noncomputable def r5 (_ : Unit) : List Stp := [S 36 (.mv (.t 10)), S 37 (.load false 1 (.t 2)), S 38 (.nilck (.t 37)), S 39 (.fAddr 0 (.t 38)), S 40 (.fAddr 2 (.t 39)), S 41 (.load false 1 (.t 40)), S 42 (.mv (.t 1)), S 43 (.ixS 2 (.t 41) (.t 42)), S 44 (.fAddr 1 (.t 43)), S 45 (.load false 1 (.t 44)), S 46 (.bin .leq (.t 36) (.t 45))]
@[simp] noncomputable def r7 (_ : Unit) : List Stp := [S 51 (.mv (.t 1)), S 52 (.mv (.t 10)), S 54 (.mv (.t 1)), S 55 (.bin .add (.t 54) (.c (.int .i64 1))), S 49 (.load false 1 (.t 6)), S 50 (.load true 6 (.t 7)), SP 53 (.call (.c (.func (.func fn_drive_blows_with) [] [])) [(.t 50), (.t 51), (.t 52)]), S 56 (.call (.t 49) [(.t 53), (.t 55)])]
@[simp] noncomputable def r6 (_ : Unit) : List Stp := [S 47 (.mv (.t 10)), S 48 (.bin .add (.t 47) (.c (.int .i64 1))), S 10 (.mv (.t 48))]
@[simp] noncomputable def ir : IR := (.seq (.ops r0) (.seq (.seq (.ops r1) (.cond (.t 14) (.seq (.ops r2) (.seq (.ops r3) .ret)) .skip)) (.seq (.ops r4) (.block 0 (.loop (.seq (.seq (.ops r5) (.cond (.t 46) .skip (.exit 0))) (.seq (.block 1 (.ops r7)) (.ops r6))))))))
@[simp] noncomputable def rs : List RV := []
theorem comp : compF Pg cfg Try.f63 = some (ir, rs, 57) := by kernel_rfl
theorem enter {args : List AVal} {h : Heap} {K : AEnd → Heap → Prop} (F : Nat) (hl : args.length ≤ 57) (a : AW ⟨Pg, F, 57, false, []⟩ ir (RetK rs K) (initT args) [] h) : ACalls Pg fn_drive_Left_2 args h K :=
  ACalls.of_comp follows Try.func63 comp hl a
theorem pure {args : List AVal} {v : AVal} (hl : args.length ≤ 57) (a : AW ⟨Pg, 0, 57, false, []⟩ ir (RetK rs fun e _ => e = .ret v) (initT args) [] nilH) : APure Pg fn_drive_Left_2 args v :=
  APure.of_nil (enter 0 hl a)
end drive_Left_2

namespace drive_blows_with
noncomputable def cfg : Cfg := { pure := pures, pcs := [], raw := [], cuts := [], draws := [], keep := [] }
@[simp] noncomputable def r0 (_ : Unit) : List Stp := [S 3 (.box (.t 0)), S 6 (.alloc [(.int .i64 0), (.int .i64 0), (.int .i64 0), (.int .i64 0), (.int .i64 0), (.int .i64 0)])]
@[simp] noncomputable def r1 (_ : Unit) : List Stp := [S 7 (.mv (.t 1)), S 8 (.ixA 6 1 (.t 3) (.t 7)), S 9 (.load false 1 (.t 8)), S 10 (.mv (.t 2)), S 11 (.bin .add (.t 9) (.t 10)), S 12 (.ixA 6 1 (.t 3) (.t 7)), SN (.store 1 (.t 12) (.t 11))]
@[simp] noncomputable def r2 (_ : Unit) : List Stp := [S 13 (.load true 6 (.t 3)), SN (.store 6 (.t 6) (.t 13))]
@[simp] noncomputable def ir : IR := (.seq (.ops r0) (.seq (.ops r1) (.seq (.ops r2) .ret)))
@[simp] noncomputable def rs : List RV := [.cell 6 true 6]
theorem comp : compF Pg cfg Try.f64 = some (ir, rs, 14) := by kernel_rfl
theorem enter {args : List AVal} {h : Heap} {K : AEnd → Heap → Prop} (F : Nat) (hl : args.length ≤ 14) (a : AW ⟨Pg, F, 14, false, []⟩ ir (RetK rs K) (initT args) [] h) : ACalls Pg fn_drive_blows_with args h K :=
  ACalls.of_comp follows Try.func64 comp hl a
theorem pure {args : List AVal} {v : AVal} (hl : args.length ≤ 14) (a : AW ⟨Pg, 0, 14, false, []⟩ ir (RetK rs fun e _ => e = .ret v) (initT args) [] nilH) : APure Pg fn_drive_blows_with args v :=
  APure.of_nil (enter 0 hl a)
end drive_blows_with

namespace drive_joined_api_Span
noncomputable def cfg : Cfg := { pure := pures, pcs := [], raw := [], cuts := [], draws := [], keep := [] }
@[simp] noncomputable def r0 (_ : Unit) : List Stp := [S 3 (.box (.t 1)), S 4 (.alloc [(.int .i64 0), (.int .i64 0)])]
@[simp] noncomputable def r1 (_ : Unit) : List Stp := [S 8 (.mv (.t 0)), S 9 (.ixS 2 (.t 8) (.c (.int .i64 0))), S 10 (.load true 2 (.t 9)), S 5 (.alloc [(.int .i64 0), (.int .i64 0)]), SN (.store 2 (.t 5) (.t 10))]
@[simp] noncomputable def r2 (_ : Unit) : List Stp := [S 11 (.mv (.t 0)), S 12 (.slS 2 (.t 11) (some (.c (.int .i64 1))) none none), S 13 (.len (.t 12)), S 14 (.mv (.c (.int .i64 0)))]
@[simp] noncomputable def r3 (_ : Unit) : List Stp := [S 15 (.bin .lss (.t 14) (.t 13))]
@[simp] noncomputable def r4 (_ : Unit) : List Stp := [S 16 (.ixS 2 (.t 12) (.t 14)), S 17 (.load true 2 (.t 16)), S 7 (.alloc [(.int .i64 0), (.int .i64 0)]), SN (.store 2 (.t 7) (.t 17))]
@[simp] noncomputable def r5 (_ : Unit) : List Stp := [S 18 (.fAddr 0 (.t 3)), S 19 (.load false 1 (.t 18)), S 20 (.load true 2 (.t 5)), S 21 (.load true 2 (.t 7)), S 22 (.call (.t 19) [(.t 20), (.t 21)]), SN (.store 2 (.t 5) (.t 22))]
@[simp] noncomputable def r6 (_ : Unit) : List Stp := [S 23 (.bin .add (.t 14) (.c (.int .i64 1))), S 14 (.mv (.t 23))]
@[simp] noncomputable def r7 (_ : Unit) : List Stp := [S 24 (.load true 2 (.t 5)), SN (.store 2 (.t 4) (.t 24))]
@[simp] noncomputable def ir : IR := (.seq (.ops r0) (.seq (.ops r1) (.seq (.seq (.ops r2) (.block 0 (.loop (.seq (.ops r3) (.seq (.cond (.t 15) .skip (.exit 0)) (.seq (.block 1 (.seq (.ops r4) (.ops r5))) (.ops r6))))))) (.seq (.ops r7) .ret))))
@[simp] noncomputable def rs : List RV := [.cell 4 true 2]
theorem comp : compF Pg cfg Try.f65 = some (ir, rs, 25) := by kernel_rfl
theorem enter {args : List AVal} {h : Heap} {K : AEnd → Heap → Prop} (F : Nat) (hl : args.length ≤ 25) (a : AW ⟨Pg, F, 25, false, []⟩ ir (RetK rs K) (initT args) [] h) : ACalls Pg fn_drive_joined_api_Span args h K :=
  ACalls.of_comp follows Try.func65 comp hl a
theorem pure {args : List AVal} {v : AVal} (hl : args.length ≤ 25) (a : AW ⟨Pg, 0, 25, false, []⟩ ir (RetK rs fun e _ => e = .ret v) (initT args) [] nilH) : APure Pg fn_drive_joined_api_Span args v :=
  APure.of_nil (enter 0 hl a)
end drive_joined_api_Span

namespace drive_Left_3
noncomputable def cfg : Cfg := { pure := pures, pcs := [], raw := [], cuts := [], draws := [], keep := [] }
@[simp] noncomputable def r0 (_ : Unit) : List Stp := [S 2 (.box (.t 0)), S 3 (.box (.t 1)), S 4 (.alloc [(.int .i64 0), (.int .i64 0)])]
@[simp] noncomputable def r1 (_ : Unit) : List Stp := [S 5 (.fAddr 0 (.t 2)), S 6 (.load false 1 (.t 5)), S 7 (.fAddr 0 (.t 3)), S 8 (.load false 1 (.t 7)), S 9 (.mm false [(.t 6), (.t 8)]), S 10 (.fAddr 1 (.t 2)), S 11 (.load false 1 (.t 10)), S 12 (.fAddr 1 (.t 3)), S 13 (.load false 1 (.t 12)), S 14 (.mm true [(.t 11), (.t 13)]), S 15 (.build [(.int .i64 0), (.int .i64 0)] [(0, 1, (.t 9)), (1, 1, (.t 14))]), SN (.store 2 (.t 4) (.t 15))]
@[simp] noncomputable def ir : IR := (.seq (.ops r0) (.seq (.ops r1) .ret))
@[simp] noncomputable def rs : List RV := [.cell 4 true 2]
theorem comp : compF Pg cfg Try.f66 = some (ir, rs, 16) := by kernel_rfl
theorem enter {args : List AVal} {h : Heap} {K : AEnd → Heap → Prop} (F : Nat) (hl : args.length ≤ 16) (a : AW ⟨Pg, F, 16, false, []⟩ ir (RetK rs K) (initT args) [] h) : ACalls Pg fn_drive_Left_3 args h K :=
  ACalls.of_comp follows Try.func66 comp hl a
theorem pure {args : List AVal} {v : AVal} (hl : args.length ≤ 16) (a : AW ⟨Pg, 0, 16, false, []⟩ ir (RetK rs fun e _ => e = .ret v) (initT args) [] nilH) : APure Pg fn_drive_Left_3 args v :=
  APure.of_nil (enter 0 hl a)
end drive_Left_3

namespace drive_Opens_1
noncomputable def cfg : Cfg := { pure := pures, pcs := [], raw := [], cuts := [], draws := [], keep := [] }
@[simp] noncomputable def r0 (_ : Unit) : List Stp := [S 1 (.recov), S 2 (.call (.c (.func (.func fn_drive_said) [] [])) [(.t 1), (.t 0)])]
@[simp] noncomputable def ir : IR := (.ops r0)
@[simp] noncomputable def rs : List RV := []
theorem comp : compF Pg cfg Try.f67 = some (ir, rs, 3) := by kernel_rfl
theorem enter {args : List AVal} {h : Heap} {K : AEnd → Heap → Prop} (F : Nat) (hl : args.length ≤ 3) (a : AW ⟨Pg, F, 3, false, []⟩ ir (RetK rs K) (initT args) [] h) : ACalls Pg fn_drive_Opens_1 args h K :=
  ACalls.of_comp follows Try.func67 comp hl a
theorem pure {args : List AVal} {v : AVal} (hl : args.length ≤ 3) (a : AW ⟨Pg, 0, 3, false, []⟩ ir (RetK rs fun e _ => e = .ret v) (initT args) [] nilH) : APure Pg fn_drive_Opens_1 args v :=
  APure.of_nil (enter 0 hl a)
theorem recClo : RecClo Pg fn_drive_Opens_1 fn_drive_said := ⟨_, Try.func67, by kernel_rfl⟩
end drive_Opens_1

namespace drive_rest_open
noncomputable def cfg : Cfg := { pure := pures, pcs := [], raw := [], cuts := [], draws := [], keep := [] }
@[simp] noncomputable def r0 (_ : Unit) : List Stp := [S 1 (.box (.t 0)), S 2 (.mv (.c (.int .i64 0)))]
@[simp] noncomputable def r1 (_ : Unit) : List Stp := [S 5 (.fAddr 6 (.t 1)), S 6 (.load true 6 (.t 5)), S 7 (.mv (.c (.int .i64 0)))]
@[simp] noncomputable def r2 (_ : Unit) : List Stp := [S 8 (.bin .lss (.t 7) (.c (.int .i64 6)))]
@[simp] noncomputable def r3 (_ : Unit) : List Stp := [S 9 (.mv (.t 7)), S 10 (.ixV 6 1 false (.t 6) (.t 7)), S 3 (.mv (.t 9)), S 4 (.mv (.t 10))]
@[simp] noncomputable def r4 (_ : Unit) : List Stp := [S 11 (.mv (.t 4)), S 12 (.bin .gtr (.t 11) (.c (.int .i64 0)))]
@[simp] noncomputable def r5 (_ : Unit) : List Stp := [S 13 (.mv (.t 2)), S 14 (.mv (.t 3)), S 15 (.bsl 1 [(.int .i64 0)] [(0, 1, (.t 14))]), S 16 (.call (.c (.func (.func fn_drive_setOf) [] [])) [(.t 15)]), S 17 (.bin .or (.t 13) (.t 16)), S 2 (.mv (.t 17))]
@[simp] noncomputable def r6 (_ : Unit) : List Stp := [S 18 (.bin .add (.t 7) (.c (.int .i64 1))), S 7 (.mv (.t 18))]
@[simp] noncomputable def r7 (_ : Unit) : List Stp := [S 19 (.mv (.t 2)), S 2 (.mv (.t 19))]
@[simp] noncomputable def ir : IR := (.seq (.ops r0) (.seq (.seq (.ops r1) (.block 0 (.loop (.seq (.ops r2) (.seq (.cond (.t 8) .skip (.exit 0)) (.seq (.block 1 (.seq (.ops r3) (.seq (.ops r4) (.cond (.t 12) (.ops r5) .skip)))) (.ops r6))))))) (.seq (.ops r7) .ret)))
@[simp] noncomputable def rs : List RV := [.tmp 2]
theorem comp : compF Pg cfg Try.f68 = some (ir, rs, 20) := by kernel_rfl
theorem enter {args : List AVal} {h : Heap} {K : AEnd → Heap → Prop} (F : Nat) (hl : args.length ≤ 20) (a : AW ⟨Pg, F, 20, false, []⟩ ir (RetK rs K) (initT args) [] h) : ACalls Pg fn_drive_rest_open args h K :=
  ACalls.of_comp follows Try.func68 comp hl a
theorem pure {args : List AVal} {v : AVal} (hl : args.length ≤ 20) (a : AW ⟨Pg, 0, 20, false, []⟩ ir (RetK rs fun e _ => e = .ret v) (initT args) [] nilH) : APure Pg fn_drive_rest_open args v :=
  APure.of_nil (enter 0 hl a)
end drive_rest_open

namespace ref05_power
noncomputable def cfg : Cfg := { pure := pures, pcs := [], raw := [], cuts := [], draws := [], keep := [] }
@[simp] noncomputable def r0 (_ : Unit) : List Stp := [S 2 (.mv (.c (.int .i64 0)))]
@[simp] noncomputable def r1 (_ : Unit) : List Stp := [S 3 (.mv (.c (.int .i64 1)))]
@[simp] noncomputable def r2 (_ : Unit) : List Stp := [S 4 (.mv (.c (.int .i64 0)))]
@[simp] noncomputable def r3 (_ : Unit) : List Stp := [S 5 (.mv (.t 4)), S 6 (.mv (.t 0)), S 7 (.bin .lss (.t 5) (.t 6))]
@[simp] noncomputable def r5 (_ : Unit) : List Stp := [S 10 (.mv (.t 3)), S 11 (.bin .mul (.c (.int .i64 2)) (.t 10)), S 3 (.mv (.t 11))]
@[simp] noncomputable def r4 (_ : Unit) : List Stp := [S 8 (.mv (.t 4)), S 9 (.bin .add (.t 8) (.c (.int .i64 1))), S 4 (.mv (.t 9))]
@[simp] noncomputable def r6 (_ : Unit) : List Stp := [S 12 (.mv (.t 3)), S 2 (.mv (.t 12))]
@[simp] noncomputable def ir : IR := (.seq (.ops r0) (.seq (.ops r1) (.seq (.seq (.ops r2) (.block 0 (.loop (.seq (.seq (.ops r3) (.cond (.t 7) .skip (.exit 0))) (.seq (.block 1 (.ops r5)) (.ops r4)))))) (.seq (.ops r6) .ret))))
@[simp] noncomputable def rs : List RV := [.tmp 2]
theorem comp : compF Pg cfg Try.f69 = some (ir, rs, 13) := by kernel_rfl
theorem enter {args : List AVal} {h : Heap} {K : AEnd → Heap → Prop} (F : Nat) (hl : args.length ≤ 13) (a : AW ⟨Pg, F, 13, false, []⟩ ir (RetK rs K) (initT args) [] h) : ACalls Pg fn_ref05_power args h K :=
  ACalls.of_comp follows Try.func69 comp hl a
theorem pure {args : List AVal} {v : AVal} (hl : args.length ≤ 13) (a : AW ⟨Pg, 0, 13, false, []⟩ ir (RetK rs fun e _ => e = .ret v) (initT args) [] nilH) : APure Pg fn_ref05_power args v :=
  APure.of_nil (enter 0 hl a)
end ref05_power

namespace drive_Chain_1
noncomputable def cfg : Cfg := { pure := pures, pcs := [], raw := [], cuts := [], draws := [], keep := [] }
@[simp] noncomputable def r0 (_ : Unit) : List Stp := [S 1 (.recov), S 2 (.call (.c (.func (.func fn_drive_said) [] [])) [(.t 1), (.t 0)])]
@[simp] noncomputable def ir : IR := (.ops r0)
@[simp] noncomputable def rs : List RV := []
theorem comp : compF Pg cfg Try.f70 = some (ir, rs, 3) := by kernel_rfl
theorem enter {args : List AVal} {h : Heap} {K : AEnd → Heap → Prop} (F : Nat) (hl : args.length ≤ 3) (a : AW ⟨Pg, F, 3, false, []⟩ ir (RetK rs K) (initT args) [] h) : ACalls Pg fn_drive_Chain_1 args h K :=
  ACalls.of_comp follows Try.func70 comp hl a
theorem pure {args : List AVal} {v : AVal} (hl : args.length ≤ 3) (a : AW ⟨Pg, 0, 3, false, []⟩ ir (RetK rs fun e _ => e = .ret v) (initT args) [] nilH) : APure Pg fn_drive_Chain_1 args v :=
  APure.of_nil (enter 0 hl a)
theorem recClo : RecClo Pg fn_drive_Chain_1 fn_drive_said := ⟨_, Try.func70, by kernel_rfl⟩
end drive_Chain_1

namespace drive_want
noncomputable def cfg : Cfg := { pure := pures, pcs := [], raw := [], cuts := [], draws := [], keep := [] }
@[simp] noncomputable def r0 (_ : Unit) : List Stp := [S 4 (.mv (.t 0)), S 5 (.un .not (.t 4))]
@[simp] noncomputable def r1 (_ : Unit) : List Stp := [S 6 (.mv (.t 1)), S 7 (.build [(.int .i64 0)] [(0, 1, (.t 6))]), S 8 (.mkI 120 (.t 7)), SN (.panic (.t 8))]
@[simp] noncomputable def ir : IR := (.seq (.ops r0) (.cond (.t 5) (.ops r1) .skip))
@[simp] noncomputable def rs : List RV := []
theorem comp : compF Pg cfg Try.f71 = some (ir, rs, 9) := by kernel_rfl
theorem enter {args : List AVal} {h : Heap} {K : AEnd → Heap → Prop} (F : Nat) (hl : args.length ≤ 9) (a : AW ⟨Pg, F, 9, false, []⟩ ir (RetK rs K) (initT args) [] h) : ACalls Pg fn_drive_want args h K :=
  ACalls.of_comp follows Try.func71 comp hl a
theorem pure {args : List AVal} {v : AVal} (hl : args.length ≤ 9) (a : AW ⟨Pg, 0, 9, false, []⟩ ir (RetK rs fun e _ => e = .ret v) (initT args) [] nilH) : APure Pg fn_drive_want args v :=
  APure.of_nil (enter 0 hl a)
end drive_want

namespace drive_hull_can
noncomputable def cfg : Cfg := { pure := pures, pcs := [], raw := [], cuts := [], draws := [(1, [⟨0, false, [], []⟩, ⟨1, false, [], []⟩, ⟨3, false, [], []⟩, ⟨4, false, [], []⟩, ⟨5, false, [], []⟩, ⟨6, false, [], []⟩, ⟨8, false, [], []⟩, ⟨2, false, [], []⟩, ⟨7, false, [], []⟩, ⟨9, false, [], []⟩, ⟨10, false, [], []⟩, ⟨11, false, [], []⟩, ⟨12, false, [], []⟩])], keep := [] }
@[simp] noncomputable def r0 (_ : Unit) : List Stp := [S 4 (.box (.t 1)), S 6 (.mv (.c (.bool false)))]
@[simp] noncomputable def r1 (_ : Unit) : List Stp := [S 7 (.mv (.t 2)), S 8 (.ixA 6 1 (.t 4) (.t 7)), S 10 (.mv (.t 0)), S 11 (.nilck (.t 10)), S 12 (.fAddr 0 (.t 11)), S 13 (.fAddr 0 (.t 12)), S 15 (.mv (.t 2)), S 9 (.load false 1 (.t 8)), S 14 (.load false 1 (.t 13)), S 16 (.ixS 1 (.t 14) (.t 15)), S 17 (.load false 1 (.t 16)), S 18 (.bin .geq (.t 9) (.t 17)), S 6 (.mv (.t 18))]
@[simp] noncomputable def ir : IR := (.seq (.ops r0) (.seq (.ops r1) .ret))
@[simp] noncomputable def rs : List RV := [.tmp 6]
theorem comp : compF Pg cfg Try.f72 = some (ir, rs, 19) := by kernel_rfl
theorem enter {args : List AVal} {h : Heap} {K : AEnd → Heap → Prop} (F : Nat) (hl : args.length ≤ 19) (a : AW ⟨Pg, F, 19, false, []⟩ ir (RetK rs K) (initT args) [] h) : ACalls Pg fn_drive_hull_can args h K :=
  ACalls.of_comp follows Try.func72 comp hl a
theorem pure {args : List AVal} {v : AVal} (hl : args.length ≤ 19) (a : AW ⟨Pg, 0, 19, false, []⟩ ir (RetK rs fun e _ => e = .ret v) (initT args) [] nilH) : APure Pg fn_drive_hull_can args v :=
  APure.of_nil (enter 0 hl a)
end drive_hull_can

namespace ref05_Ints
noncomputable def cfg : Cfg := { pure := pures, pcs := [], raw := [], cuts := [], draws := [(6, [⟨0, false, [], []⟩, ⟨1, false, [], []⟩, ⟨2, false, [], []⟩, ⟨4, false, [], []⟩, ⟨5, false, [], []⟩, ⟨6, false, [], []⟩, ⟨3, false, [], []⟩, ⟨7, false, [], []⟩, ⟨8, false, [], []⟩])], keep := [] }
@[simp] noncomputable def r0 (_ : Unit) : List Stp := [S 4 (.mv (.c (.bool false)))]
@[simp] noncomputable def r1 (_ : Unit) : List Stp := [S 6 (.mv (.t 0)), S 7 (.len (.t 6)), S 8 (.mv (.t 1)), S 9 (.len (.t 8)), S 10 (.bin .neq (.t 7) (.t 9))]
@[simp] noncomputable def r2 (_ : Unit) : List Stp := [S 4 (.mv (.c (.bool false)))]
@[simp] noncomputable def r3 (_ : Unit) : List Stp := [S 5 (.mv (.c (.int .i64 0)))]
@[simp] noncomputable def r4 (_ : Unit) : List Stp := [S 11 (.mv (.t 5)), S 12 (.mv (.t 0)), S 13 (.len (.t 12)), S 14 (.bin .lss (.t 11) (.t 13))]
@[simp] noncomputable def r6 (_ : Unit) : List Stp := [S 17 (.mv (.t 0)), S 18 (.mv (.t 5)), S 19 (.ixS 1 (.t 17) (.t 18)), S 21 (.mv (.t 1)), S 22 (.mv (.t 5)), S 23 (.ixS 1 (.t 21) (.t 22)), S 20 (.load false 1 (.t 19)), S 24 (.load false 1 (.t 23)), S 25 (.bin .neq (.t 20) (.t 24))]
@[simp] noncomputable def r7 (_ : Unit) : List Stp := [S 4 (.mv (.c (.bool false)))]
@[simp] noncomputable def r5 (_ : Unit) : List Stp := [S 15 (.mv (.t 5)), S 16 (.bin .add (.t 15) (.c (.int .i64 1))), S 5 (.mv (.t 16))]
@[simp] noncomputable def r8 (_ : Unit) : List Stp := [S 4 (.mv (.c (.bool true)))]
@[simp] noncomputable def ir : IR := (.seq (.ops r0) (.seq (.seq (.ops r1) (.cond (.t 10) (.seq (.ops r2) .ret) .skip)) (.seq (.seq (.ops r3) (.block 0 (.loop (.seq (.seq (.ops r4) (.cond (.t 14) .skip (.exit 0))) (.seq (.block 1 (.seq (.ops r6) (.cond (.t 25) (.seq (.ops r7) .ret) .skip))) (.ops r5)))))) (.seq (.ops r8) .ret))))
@[simp] noncomputable def rs : List RV := [.tmp 4]
theorem comp : compF Pg cfg Try.f73 = some (ir, rs, 26) := by kernel_rfl
theorem enter {args : List AVal} {h : Heap} {K : AEnd → Heap → Prop} (F : Nat) (hl : args.length ≤ 26) (a : AW ⟨Pg, F, 26, false, []⟩ ir (RetK rs K) (initT args) [] h) : ACalls Pg fn_ref05_Ints args h K :=
  ACalls.of_comp follows Try.func73 comp hl a
theorem pure {args : List AVal} {v : AVal} (hl : args.length ≤ 26) (a : AW ⟨Pg, 0, 26, false, []⟩ ir (RetK rs fun e _ => e = .ret v) (initT args) [] nilH) : APure Pg fn_ref05_Ints args v :=
  APure.of_nil (enter 0 hl a)
end ref05_Ints

namespace ref05_in
noncomputable def cfg : Cfg := { pure := pures, pcs := [], raw := [], cuts := [], draws := [], keep := [] }
@[simp] noncomputable def r0 (_ : Unit) : List Stp := [S 6 (.mv (.c (.bool false)))]
@[simp] noncomputable def r1 (_ : Unit) : List Stp := [S 7 (.mv (.t 1)), S 8 (.mv (.t 0)), S 9 (.bin .leq (.t 7) (.t 8)), S 10 (.mv (.t 9)), SG 11 10 true (.mv (.t 0)), SG 12 10 true (.mv (.t 2)), SG 13 10 true (.bin .leq (.t 11) (.t 12)), S 14 (.pick (.t 10) (.t 13) (.c (.bool false))), S 6 (.mv (.t 14))]
@[simp] noncomputable def ir : IR := (.seq (.ops r0) (.seq (.ops r1) .ret))
@[simp] noncomputable def rs : List RV := [.tmp 6]
theorem comp : compF Pg cfg Try.f74 = some (ir, rs, 15) := by kernel_rfl
theorem enter {args : List AVal} {h : Heap} {K : AEnd → Heap → Prop} (F : Nat) (hl : args.length ≤ 15) (a : AW ⟨Pg, F, 15, false, []⟩ ir (RetK rs K) (initT args) [] h) : ACalls Pg fn_ref05_in args h K :=
  ACalls.of_comp follows Try.func74 comp hl a
theorem pure {args : List AVal} {v : AVal} (hl : args.length ≤ 15) (a : AW ⟨Pg, 0, 15, false, []⟩ ir (RetK rs fun e _ => e = .ret v) (initT args) [] nilH) : APure Pg fn_ref05_in args v :=
  APure.of_nil (enter 0 hl a)
end ref05_in

namespace ref05_Beside
noncomputable def cfg : Cfg := { pure := pures, pcs := [], raw := [], cuts := [], draws := [], keep := [] }
@[simp] noncomputable def r0 (_ : Unit) : List Stp := [S 2 (.box (.t 0)), S 4 (.mv (.c (.int .i64 0)))]
@[simp] noncomputable def r1 (_ : Unit) : List Stp := [S 5 (.mv (.c (.int .i64 0)))]
@[simp] noncomputable def r2 (_ : Unit) : List Stp := [S 6 (.mv (.c (.int .i64 0)))]
@[simp] noncomputable def r3 (_ : Unit) : List Stp := [S 7 (.mv (.t 6)), S 8 (.fAddr 1 (.t 2)), S 9 (.load false 1 (.t 8)), S 10 (.len (.t 9)), S 11 (.bin .lss (.t 7) (.t 10))]
@[simp] noncomputable def r5 (_ : Unit) : List Stp := [S 14 (.fAddr 1 (.t 2)), S 15 (.load false 1 (.t 14)), S 16 (.mv (.t 6)), S 17 (.ixS 2 (.t 15) (.t 16)), S 18 (.ixA 2 1 (.t 17) (.c (.int .i64 0))), S 19 (.load false 1 (.t 18)), S 20 (.mv (.t 1)), S 21 (.bin .eql (.t 19) (.t 20)), S 22 (.mv (.t 21)), SG 23 22 false (.fAddr 1 (.t 2)), SG 24 22 false (.load false 1 (.t 23)), SG 25 22 false (.mv (.t 6)), SG 26 22 false (.ixS 2 (.t 24) (.t 25)), SG 27 22 false (.ixA 2 1 (.t 26) (.c (.int .i64 1))), SG 28 22 false (.load false 1 (.t 27)), SG 29 22 false (.mv (.t 1)), SG 30 22 false (.bin .eql (.t 28) (.t 29)), S 31 (.pick (.t 22) (.c (.bool true)) (.t 30))]
@[simp] noncomputable def r6 (_ : Unit) : List Stp := [S 32 (.mv (.t 5)), S 33 (.bin .add (.t 32) (.c (.int .i64 1))), S 5 (.mv (.t 33))]
@[simp] noncomputable def r4 (_ : Unit) : List Stp := [S 12 (.mv (.t 6)), S 13 (.bin .add (.t 12) (.c (.int .i64 1))), S 6 (.mv (.t 13))]
@[simp] noncomputable def r7 (_ : Unit) : List Stp := [S 34 (.mv (.t 5)), S 4 (.mv (.t 34))]
@[simp] noncomputable def ir : IR := (.seq (.ops r0) (.seq (.ops r1) (.seq (.seq (.ops r2) (.block 0 (.loop (.seq (.seq (.ops r3) (.cond (.t 11) .skip (.exit 0))) (.seq (.block 1 (.seq (.ops r5) (.cond (.t 31) (.ops r6) .skip))) (.ops r4)))))) (.seq (.ops r7) .ret))))
@[simp] noncomputable def rs : List RV := [.tmp 4]
theorem comp : compF Pg cfg Try.f75 = some (ir, rs, 35) := by kernel_rfl
theorem enter {args : List AVal} {h : Heap} {K : AEnd → Heap → Prop} (F : Nat) (hl : args.length ≤ 35) (a : AW ⟨Pg, F, 35, false, []⟩ ir (RetK rs K) (initT args) [] h) : ACalls Pg fn_ref05_Beside args h K :=
  ACalls.of_comp follows Try.func75 comp hl a
theorem pure {args : List AVal} {v : AVal} (hl : args.length ≤ 35) (a : AW ⟨Pg, 0, 35, false, []⟩ ir (RetK rs fun e _ => e = .ret v) (initT args) [] nilH) : APure Pg fn_ref05_Beside args v :=
  APure.of_nil (enter 0 hl a)
end ref05_Beside

namespace drive_Push_1
noncomputable def cfg : Cfg := { pure := pures, pcs := [], raw := [], cuts := [], draws := [], keep := [] }
@[simp] noncomputable def r0 (_ : Unit) : List Stp := [S 1 (.recov), S 2 (.call (.c (.func (.func fn_drive_said) [] [])) [(.t 1), (.t 0)])]
@[simp] noncomputable def ir : IR := (.ops r0)
@[simp] noncomputable def rs : List RV := []
theorem comp : compF Pg cfg Try.f76 = some (ir, rs, 3) := by kernel_rfl
theorem enter {args : List AVal} {h : Heap} {K : AEnd → Heap → Prop} (F : Nat) (hl : args.length ≤ 3) (a : AW ⟨Pg, F, 3, false, []⟩ ir (RetK rs K) (initT args) [] h) : ACalls Pg fn_drive_Push_1 args h K :=
  ACalls.of_comp follows Try.func76 comp hl a
theorem pure {args : List AVal} {v : AVal} (hl : args.length ≤ 3) (a : AW ⟨Pg, 0, 3, false, []⟩ ir (RetK rs fun e _ => e = .ret v) (initT args) [] nilH) : APure Pg fn_drive_Push_1 args v :=
  APure.of_nil (enter 0 hl a)
theorem recClo : RecClo Pg fn_drive_Push_1 fn_drive_said := ⟨_, Try.func76, by kernel_rfl⟩
end drive_Push_1

namespace drive_hull_ends
noncomputable def cfg : Cfg := { pure := pures, pcs := [], raw := [], cuts := [], draws := [], keep := [] }
@[simp] noncomputable def r0 (_ : Unit) : List Stp := [S 4 (.alloc [(.int .i64 0), (.int .i64 0), (.int .i64 0), (.int .i64 0), (.int .i64 0), (.int .i64 0)])]
@[simp] noncomputable def r1 (_ : Unit) : List Stp := [S 7 (.mv (.t 0)), S 8 (.nilck (.t 7)), S 9 (.fAddr 0 (.t 8)), S 10 (.fAddr 2 (.t 9)), S 11 (.load false 1 (.t 10)), S 12 (.len (.t 11)), S 13 (.mv (.c (.int .i64 0)))]
@[simp] noncomputable def r2 (_ : Unit) : List Stp := [S 14 (.bin .lss (.t 13) (.t 12))]
@[simp] noncomputable def r3 (_ : Unit) : List Stp := [S 15 (.mv (.t 13)), S 16 (.ixS 2 (.t 11) (.t 13)), S 17 (.load true 2 (.t 16)), S 6 (.alloc [(.int .i64 0), (.int .i64 0)]), S 5 (.mv (.t 15)), SN (.store 2 (.t 6) (.t 17))]
@[simp] noncomputable def r4 (_ : Unit) : List Stp := [S 18 (.mv (.t 5)), S 19 (.fAddr 0 (.t 6)), S 20 (.load false 1 (.t 19)), S 21 (.ixA 6 1 (.t 4) (.t 18)), SN (.store 1 (.t 21) (.t 20))]
@[simp] noncomputable def r5 (_ : Unit) : List Stp := [S 22 (.mv (.t 1))]
@[simp] noncomputable def r6 (_ : Unit) : List Stp := [S 23 (.mv (.t 5)), S 24 (.fAddr 1 (.t 6)), S 25 (.load false 1 (.t 24)), S 26 (.ixA 6 1 (.t 4) (.t 23)), SN (.store 1 (.t 26) (.t 25))]
@[simp] noncomputable def r7 (_ : Unit) : List Stp := [S 27 (.bin .add (.t 13) (.c (.int .i64 1))), S 13 (.mv (.t 27))]
@[simp] noncomputable def r8 (_ : Unit) : List Stp := [S 28 (.load true 6 (.t 4)), SN (.store 6 (.t 4) (.t 28))]
@[simp] noncomputable def ir : IR := (.seq (.ops r0) (.seq (.seq (.ops r1) (.block 0 (.loop (.seq (.ops r2) (.seq (.cond (.t 14) .skip (.exit 0)) (.seq (.block 1 (.seq (.ops r3) (.seq (.ops r4) (.seq (.ops r5) (.cond (.t 22) (.ops r6) .skip))))) (.ops r7))))))) (.seq (.ops r8) .ret)))
@[simp] noncomputable def rs : List RV := [.cell 4 true 6]
theorem comp : compF Pg cfg Try.f77 = some (ir, rs, 29) := by kernel_rfl
theorem enter {args : List AVal} {h : Heap} {K : AEnd → Heap → Prop} (F : Nat) (hl : args.length ≤ 29) (a : AW ⟨Pg, F, 29, false, []⟩ ir (RetK rs K) (initT args) [] h) : ACalls Pg fn_drive_hull_ends args h K :=
  ACalls.of_comp follows Try.func77 comp hl a
theorem pure {args : List AVal} {v : AVal} (hl : args.length ≤ 29) (a : AW ⟨Pg, 0, 29, false, []⟩ ir (RetK rs fun e _ => e = .ret v) (initT args) [] nilH) : APure Pg fn_drive_hull_ends args v :=
  APure.of_nil (enter 0 hl a)
end drive_hull_ends

namespace law05_draws_1
noncomputable def cfg : Cfg := { pure := pures, pcs := [], raw := [], cuts := [], draws := [(4, [⟨11, false, [], []⟩, ⟨0, false, [], []⟩, ⟨1, false, [], []⟩, ⟨2, false, [], []⟩, ⟨3, false, [], []⟩, ⟨4, false, [], []⟩, ⟨5, false, [], []⟩, ⟨6, false, [], []⟩, ⟨7, false, [], []⟩, ⟨8, false, [], []⟩, ⟨9, false, [], []⟩, ⟨10, false, [], []⟩, ⟨12, false, [], []⟩, ⟨13, false, [], []⟩])], keep := [] }
@[simp] noncomputable def r0 (_ : Unit) : List Stp := [S 4 (.mv (.c (.int .i64 0)))]
@[simp] noncomputable def r1 (_ : Unit) : List Stp := [S 5 (.load false 1 (.t 1)), S 6 (.bin .add (.t 5) (.c (.int .i64 1))), SN (.store 1 (.t 1) (.t 6))]
@[simp] noncomputable def r2 (_ : Unit) : List Stp := [S 7 (.load false 1 (.t 2)), S 8 (.len (.t 7)), S 9 (.bin .eql (.t 8) (.c (.int .i64 0)))]
@[simp] noncomputable def r3 (_ : Unit) : List Stp := [S 10 (.load false 1 (.t 1)), S 11 (.mv (.t 0)), S 12 (.bin .rem (.t 10) (.t 11)), S 4 (.mv (.t 12))]
@[simp] noncomputable def r4 (_ : Unit) : List Stp := [S 24 (.mv (.t 0)), S 13 (.load false 1 (.t 2)), S 14 (.load false 1 (.t 1)), S 15 (.load false 1 (.t 2)), S 16 (.len (.t 15)), S 17 (.bin .rem (.t 14) (.t 16)), S 18 (.ixS 1 (.t 13) (.t 17)), S 19 (.load false 1 (.t 18)), S 20 (.conv .i64 (.t 19)), S 21 (.load false 1 (.t 1)), S 22 (.bin .mul (.c (.int .i64 73)) (.t 21)), S 23 (.bin .add (.t 20) (.t 22)), S 25 (.bin .rem (.t 23) (.t 24)), S 4 (.mv (.t 25))]
@[simp] noncomputable def ir : IR := (.seq (.ops r0) (.seq (.ops r1) (.seq (.seq (.ops r2) (.cond (.t 9) (.seq (.ops r3) .ret) .skip)) (.seq (.ops r4) .ret))))
@[simp] noncomputable def rs : List RV := [.tmp 4]
theorem comp : compF Pg cfg Try.f78 = some (ir, rs, 26) := by kernel_rfl
theorem enter {args : List AVal} {h : Heap} {K : AEnd → Heap → Prop} (F : Nat) (hl : args.length ≤ 26) (a : AW ⟨Pg, F, 26, false, []⟩ ir (RetK rs K) (initT args) [] h) : ACalls Pg fn_law05_draws_1 args h K :=
  ACalls.of_comp follows Try.func78 comp hl a
theorem pure {args : List AVal} {v : AVal} (hl : args.length ≤ 26) (a : AW ⟨Pg, 0, 26, false, []⟩ ir (RetK rs fun e _ => e = .ret v) (initT args) [] nilH) : APure Pg fn_law05_draws_1 args v :=
  APure.of_nil (enter 0 hl a)
end law05_draws_1

namespace ref05_truths
noncomputable def cfg : Cfg := { pure := pures, pcs := [], raw := [], cuts := [], draws := [(7, [⟨2, false, [], []⟩, ⟨4, false, [], []⟩, ⟨7, false, [], []⟩, ⟨0, false, [], []⟩, ⟨1, true, [], []⟩, ⟨5, true, [], []⟩, ⟨3, false, [], [0]⟩, ⟨6, false, [], [0]⟩, ⟨8, false, [], []⟩, ⟨9, false, [], []⟩])], keep := [] }
@[simp] noncomputable def r0 (_ : Unit) : List Stp := [S 3 (.box (.t 0)), S 6 (.mv (.c .nils))]
@[simp] noncomputable def r1 (_ : Unit) : List Stp := [S 9 (.mv (.t 1)), S 10 (.len (.t 9)), S 11 (.fAddr 0 (.t 3)), S 12 (.load false 1 (.t 11)), S 13 (.len (.t 12)), S 14 (.bin .eql (.t 10) (.t 13))]
@[simp] noncomputable def r2 (_ : Unit) : List Stp := [S 15 (.mv (.t 2)), S 16 (.mv (.t 1)), S 17 (.bsl 1 [.nils] [(0, 1, (.t 16))]), S 18 (.app 1 24 (.t 15) (.t 17)), S 6 (.mv (.t 18))]
@[simp] noncomputable def r3 (_ : Unit) : List Stp := [S 19 (.fAddr 2 (.t 3)), S 20 (.load false 1 (.t 19)), S 21 (.mv (.t 1)), S 22 (.len (.t 21)), S 23 (.ixS 2 (.t 20) (.t 22)), S 24 (.load true 2 (.t 23)), S 7 (.alloc [(.int .i64 0), (.int .i64 0)]), SN (.store 2 (.t 7) (.t 24))]
@[simp] noncomputable def r4 (_ : Unit) : List Stp := [S 25 (.fAddr 0 (.t 7)), S 26 (.load false 1 (.t 25)), S 8 (.mv (.t 26))]
@[simp] noncomputable def r5 (_ : Unit) : List Stp := [S 27 (.mv (.t 8)), S 28 (.fAddr 1 (.t 7)), S 29 (.load false 1 (.t 28)), S 30 (.bin .leq (.t 27) (.t 29))]
@[simp] noncomputable def r7 (_ : Unit) : List Stp := [S 35 (.mv (.t 1)), S 37 (.mv (.t 8)), S 40 (.mv (.t 2)), S 33 (.load true 3 (.t 3)), SD (some 34) (.bsl 0 [] []) true [] [], SD (some 38) (.bsl 1 [(.int .i64 0)] [(0, 1, (.t 37))]) true [] [], SD (some 36) (.app 1 8 (.t 34) (.t 35)) false [] [I 33 (.load true 3 (.t 3))], SD (some 39) (.app 1 8 (.t 36) (.t 38)) false [] [I 33 (.load true 3 (.t 3))], S 41 (.call (.c (.func (.func fn_ref05_truths) [] [])) [(.t 33), (.t 39), (.t 40)]), S 2 (.mv (.t 41))]
@[simp] noncomputable def r6 (_ : Unit) : List Stp := [S 31 (.mv (.t 8)), S 32 (.bin .add (.t 31) (.c (.int .i64 1))), S 8 (.mv (.t 32))]
@[simp] noncomputable def r8 (_ : Unit) : List Stp := [S 42 (.mv (.t 2)), S 6 (.mv (.t 42))]
@[simp] noncomputable def ir : IR := (.seq (.ops r0) (.seq (.seq (.ops r1) (.cond (.t 14) (.seq (.ops r2) .ret) .skip)) (.seq (.ops r3) (.seq (.seq (.ops r4) (.block 0 (.loop (.seq (.seq (.ops r5) (.cond (.t 30) .skip (.exit 0))) (.seq (.block 1 (.ops r7)) (.ops r6)))))) (.seq (.ops r8) .ret)))))
@[simp] noncomputable def rs : List RV := [.tmp 6]
theorem comp : compF Pg cfg Try.f79 = some (ir, rs, 43) := by kernel_rfl
theorem enter {args : List AVal} {h : Heap} {K : AEnd → Heap → Prop} (F : Nat) (hl : args.length ≤ 43) (a : AW ⟨Pg, F, 43, false, []⟩ ir (RetK rs K) (initT args) [] h) : ACalls Pg fn_ref05_truths args h K :=
  ACalls.of_comp follows Try.func79 comp hl a
theorem pure {args : List AVal} {v : AVal} (hl : args.length ≤ 43) (a : AW ⟨Pg, 0, 43, false, []⟩ ir (RetK rs fun e _ => e = .ret v) (initT args) [] nilH) : APure Pg fn_ref05_truths args v :=
  APure.of_nil (enter 0 hl a)
end ref05_truths

namespace drive_within
noncomputable def cfg : Cfg := { pure := pures, pcs := [], raw := [], cuts := [], draws := [], keep := [] }
@[simp] noncomputable def r0 (_ : Unit) : List Stp := [S 6 (.mv (.c (.bool false)))]
@[simp] noncomputable def r1 (_ : Unit) : List Stp := [S 7 (.mv (.t 1)), S 8 (.mv (.t 0)), S 9 (.bin .leq (.t 7) (.t 8)), S 10 (.mv (.t 9)), SG 11 10 true (.mv (.t 0)), SG 12 10 true (.mv (.t 2)), SG 13 10 true (.bin .leq (.t 11) (.t 12)), S 14 (.pick (.t 10) (.t 13) (.c (.bool false))), S 6 (.mv (.t 14))]
@[simp] noncomputable def ir : IR := (.seq (.ops r0) (.seq (.ops r1) .ret))
@[simp] noncomputable def rs : List RV := [.tmp 6]
theorem comp : compF Pg cfg Try.f80 = some (ir, rs, 15) := by kernel_rfl
theorem enter {args : List AVal} {h : Heap} {K : AEnd → Heap → Prop} (F : Nat) (hl : args.length ≤ 15) (a : AW ⟨Pg, F, 15, false, []⟩ ir (RetK rs K) (initT args) [] h) : ACalls Pg fn_drive_within args h K :=
  ACalls.of_comp follows Try.func80 comp hl a
theorem pure {args : List AVal} {v : AVal} (hl : args.length ≤ 15) (a : AW ⟨Pg, 0, 15, false, []⟩ ir (RetK rs fun e _ => e = .ret v) (initT args) [] nilH) : APure Pg fn_drive_within args v :=
  APure.of_nil (enter 0 hl a)
end drive_within

namespace slices_Contains_2_int_2_int
noncomputable def cfg : Cfg := { pure := pures, pcs := [], raw := [], cuts := [], draws := [], keep := [] }
@[simp] noncomputable def r0 (_ : Unit) : List Stp := [S 3 (.box (.t 1)), S 4 (.mv (.c (.bool false)))]
@[simp] noncomputable def r1 (_ : Unit) : List Stp := [S 5 (.mv (.t 0)), S 6 (.load true 2 (.t 3)), SP 7 (.call (.c (.func (.func fn_slices_Index_2_int_2_int) [] [])) [(.t 5), (.t 6)]), S 8 (.bin .geq (.t 7) (.c (.int .i64 0))), S 4 (.mv (.t 8))]
@[simp] noncomputable def ir : IR := (.seq (.ops r0) (.seq (.ops r1) .ret))
@[simp] noncomputable def rs : List RV := [.tmp 4]
theorem comp : compF Pg cfg Try.f81 = some (ir, rs, 9) := by kernel_rfl
theorem enter {args : List AVal} {h : Heap} {K : AEnd → Heap → Prop} (F : Nat) (hl : args.length ≤ 9) (a : AW ⟨Pg, F, 9, false, []⟩ ir (RetK rs K) (initT args) [] h) : ACalls Pg fn_slices_Contains_2_int_2_int args h K :=
  ACalls.of_comp follows Try.func81 comp hl a
theorem pure {args : List AVal} {v : AVal} (hl : args.length ≤ 9) (a : AW ⟨Pg, 0, 9, false, []⟩ ir (RetK rs fun e _ => e = .ret v) (initT args) [] nilH) : APure Pg fn_slices_Contains_2_int_2_int args v :=
  APure.of_nil (enter 0 hl a)
end slices_Contains_2_int_2_int

namespace drive_areBlows_1
noncomputable def cfg : Cfg := { pure := pures, pcs := [], raw := [], cuts := [], draws := [], keep := [] }
@[simp] noncomputable def r0 (_ : Unit) : List Stp := [S 2 (.mv (.c (.bool false)))]
@[simp] noncomputable def r1 (_ : Unit) : List Stp := [S 3 (.mv (.t 0)), SP 4 (.call (.c (.func (.func fn_drive_within) [] [])) [(.t 3), (.c (.int .i64 0)), (.c (.int .i64 52))]), S 5 (.un .not (.t 4)), S 2 (.mv (.t 5))]
@[simp] noncomputable def ir : IR := (.seq (.ops r0) (.seq (.ops r1) .ret))
@[simp] noncomputable def rs : List RV := [.tmp 2]
theorem comp : compF Pg cfg Try.f82 = some (ir, rs, 6) := by kernel_rfl
theorem enter {args : List AVal} {h : Heap} {K : AEnd → Heap → Prop} (F : Nat) (hl : args.length ≤ 6) (a : AW ⟨Pg, F, 6, false, []⟩ ir (RetK rs K) (initT args) [] h) : ACalls Pg fn_drive_areBlows_1 args h K :=
  ACalls.of_comp follows Try.func82 comp hl a
theorem pure {args : List AVal} {v : AVal} (hl : args.length ≤ 6) (a : AW ⟨Pg, 0, 6, false, []⟩ ir (RetK rs fun e _ => e = .ret v) (initT args) [] nilH) : APure Pg fn_drive_areBlows_1 args v :=
  APure.of_nil (enter 0 hl a)
end drive_areBlows_1

namespace slices_ContainsFunc_int_int
noncomputable def cfg : Cfg := { pure := pures, pcs := [], raw := [], cuts := [], draws := [], keep := [] }
@[simp] noncomputable def r0 (_ : Unit) : List Stp := [S 4 (.mv (.c (.bool false)))]
@[simp] noncomputable def r1 (_ : Unit) : List Stp := [S 5 (.mv (.t 0)), S 6 (.mv (.t 1)), SP 7 (.call (.c (.func (.func fn_slices_IndexFunc_int_int) [] [])) [(.t 5), (.t 6)]), S 8 (.bin .geq (.t 7) (.c (.int .i64 0))), S 4 (.mv (.t 8))]
@[simp] noncomputable def ir : IR := (.seq (.ops r0) (.seq (.ops r1) .ret))
@[simp] noncomputable def rs : List RV := [.tmp 4]
theorem comp : compF Pg cfg Try.f83 = some (ir, rs, 9) := by kernel_rfl
theorem enter {args : List AVal} {h : Heap} {K : AEnd → Heap → Prop} (F : Nat) (hl : args.length ≤ 9) (a : AW ⟨Pg, F, 9, false, []⟩ ir (RetK rs K) (initT args) [] h) : ACalls Pg fn_slices_ContainsFunc_int_int args h K :=
  ACalls.of_comp follows Try.func83 comp hl a
theorem pure {args : List AVal} {v : AVal} (hl : args.length ≤ 9) (a : AW ⟨Pg, 0, 9, false, []⟩ ir (RetK rs fun e _ => e = .ret v) (initT args) [] nilH) : APure Pg fn_slices_ContainsFunc_int_int args v :=
  APure.of_nil (enter 0 hl a)
end slices_ContainsFunc_int_int

namespace drive_hull_opened
noncomputable def cfg : Cfg := { pure := pures, pcs := [], raw := [], cuts := [], draws := [(2, [⟨0, false, [], []⟩, ⟨2, false, [], []⟩, ⟨3, false, [], []⟩, ⟨4, false, [], []⟩, ⟨5, false, [], []⟩, ⟨6, false, [], []⟩, ⟨7, false, [], []⟩, ⟨8, false, [], []⟩, ⟨10, false, [], []⟩, ⟨1, false, [], []⟩, ⟨9, false, [], []⟩, ⟨11, false, [], []⟩, ⟨12, false, [], []⟩, ⟨13, false, [], []⟩, ⟨14, false, [], []⟩, ⟨15, false, [], []⟩])], keep := [] }
@[simp] noncomputable def r0 (_ : Unit) : List Stp := [S 5 (.box (.t 1)), S 8 (.alloc [(.int .i64 0), (.int .i64 0), (.int .i64 0), (.int .i64 0), (.int .i64 0), (.int .i64 0)])]
@[simp] noncomputable def r1 (_ : Unit) : List Stp := [S 9 (.mv (.c (.func (.func fn_drive_blows_with) [] [])))]
@[simp] noncomputable def r2 (_ : Unit) : List Stp := [S 12 (.mv (.t 9)), S 14 (.mv (.t 2)), S 15 (.mv (.t 3)), S 16 (.un .neg (.t 15)), S 17 (.mv (.t 0)), S 18 (.nilck (.t 17)), S 19 (.fAddr 0 (.t 18)), S 20 (.fAddr 0 (.t 19)), S 22 (.mv (.t 2)), S 13 (.load true 6 (.t 5)), S 21 (.load false 1 (.t 20)), S 23 (.ixS 1 (.t 21) (.t 22)), S 24 (.load false 1 (.t 23)), S 25 (.bin .mul (.t 16) (.t 24)), S 26 (.call (.t 12) [(.t 13), (.t 14), (.t 25)]), SN (.store 6 (.t 5) (.t 26))]
@[simp] noncomputable def r3 (_ : Unit) : List Stp := [S 27 (.mv (.t 0)), S 28 (.mv (.t 2)), S 29 (.nilck (.t 27)), S 30 (.fAddr 3 (.t 29)), S 31 (.ixA 6 1 (.t 30) (.t 28)), S 32 (.load false 1 (.t 31)), S 33 (.len (.t 32)), S 34 (.mv (.c (.int .i64 0)))]
@[simp] noncomputable def r4 (_ : Unit) : List Stp := [S 35 (.bin .lss (.t 34) (.t 33))]
@[simp] noncomputable def r5 (_ : Unit) : List Stp := [S 36 (.ixS 1 (.t 32) (.t 34)), S 37 (.load false 1 (.t 36)), S 11 (.mv (.t 37))]
@[simp] noncomputable def r6 (_ : Unit) : List Stp := [S 38 (.mv (.t 9)), S 39 (.load true 6 (.t 5)), S 40 (.mv (.t 11)), S 41 (.mv (.t 3)), S 42 (.call (.t 38) [(.t 39), (.t 40), (.t 41)]), SN (.store 6 (.t 5) (.t 42))]
@[simp] noncomputable def r7 (_ : Unit) : List Stp := [S 43 (.bin .add (.t 34) (.c (.int .i64 1))), S 34 (.mv (.t 43))]
@[simp] noncomputable def r8 (_ : Unit) : List Stp := [S 44 (.load true 6 (.t 5)), SN (.store 6 (.t 8) (.t 44))]
@[simp] noncomputable def ir : IR := (.seq (.ops r0) (.seq (.ops r1) (.seq (.ops r2) (.seq (.seq (.ops r3) (.block 0 (.loop (.seq (.ops r4) (.seq (.cond (.t 35) .skip (.exit 0)) (.seq (.block 1 (.seq (.ops r5) (.ops r6))) (.ops r7))))))) (.seq (.ops r8) .ret)))))
@[simp] noncomputable def rs : List RV := [.cell 8 true 6]
theorem comp : compF Pg cfg Try.f84 = some (ir, rs, 45) := by kernel_rfl
theorem enter {args : List AVal} {h : Heap} {K : AEnd → Heap → Prop} (F : Nat) (hl : args.length ≤ 45) (a : AW ⟨Pg, F, 45, false, []⟩ ir (RetK rs K) (initT args) [] h) : ACalls Pg fn_drive_hull_opened args h K :=
  ACalls.of_comp follows Try.func84 comp hl a
theorem pure {args : List AVal} {v : AVal} (hl : args.length ≤ 45) (a : AW ⟨Pg, 0, 45, false, []⟩ ir (RetK rs fun e _ => e = .ret v) (initT args) [] nilH) : APure Pg fn_drive_hull_opened args v :=
  APure.of_nil (enter 0 hl a)
end drive_hull_opened

namespace ref05_rising
noncomputable def cfg : Cfg := { pure := pures, pcs := [], raw := [], cuts := [], draws := [], keep := [] }
@[simp] noncomputable def r0 (_ : Unit) : List Stp := [S 1 (.box (.t 0)), S 2 (.mv (.c .nils))]
@[simp] noncomputable def r1 (_ : Unit) : List Stp := [S 3 (.mv (.c .nils))]
@[simp] noncomputable def r2 (_ : Unit) : List Stp := [S 4 (.mv (.c (.int .i64 0)))]
@[simp] noncomputable def r3 (_ : Unit) : List Stp := [S 5 (.mv (.t 4)), S 6 (.fAddr 0 (.t 1)), S 7 (.load false 1 (.t 6)), S 8 (.len (.t 7)), S 9 (.bin .lss (.t 5) (.t 8))]
@[simp] noncomputable def r5 (_ : Unit) : List Stp := [S 12 (.mv (.t 3)), S 13 (.mv (.t 4)), S 14 (.bsl 1 [(.int .i64 0)] [(0, 1, (.t 13))]), S 15 (.app 1 8 (.t 12) (.t 14)), S 3 (.mv (.t 15))]
@[simp] noncomputable def r4 (_ : Unit) : List Stp := [S 10 (.mv (.t 4)), S 11 (.bin .add (.t 10) (.c (.int .i64 1))), S 4 (.mv (.t 11))]
@[simp] noncomputable def r6 (_ : Unit) : List Stp := [S 16 (.mv (.t 3)), S 2 (.mv (.t 16))]
@[simp] noncomputable def ir : IR := (.seq (.ops r0) (.seq (.ops r1) (.seq (.seq (.ops r2) (.block 0 (.loop (.seq (.seq (.ops r3) (.cond (.t 9) .skip (.exit 0))) (.seq (.block 1 (.ops r5)) (.ops r4)))))) (.seq (.ops r6) .ret))))
@[simp] noncomputable def rs : List RV := [.tmp 2]
theorem comp : compF Pg cfg Try.f85 = some (ir, rs, 17) := by kernel_rfl
theorem enter {args : List AVal} {h : Heap} {K : AEnd → Heap → Prop} (F : Nat) (hl : args.length ≤ 17) (a : AW ⟨Pg, F, 17, false, []⟩ ir (RetK rs K) (initT args) [] h) : ACalls Pg fn_ref05_rising args h K :=
  ACalls.of_comp follows Try.func85 comp hl a
theorem pure {args : List AVal} {v : AVal} (hl : args.length ≤ 17) (a : AW ⟨Pg, 0, 17, false, []⟩ ir (RetK rs fun e _ => e = .ret v) (initT args) [] nilH) : APure Pg fn_ref05_rising args v :=
  APure.of_nil (enter 0 hl a)
end ref05_rising

namespace slices_Sort_int_int
noncomputable def cfg : Cfg := { pure := pures, pcs := [], raw := [], cuts := [], draws := [], keep := [] }
@[simp] noncomputable def r0 (_ : Unit) : List Stp := [S 3 (.mv (.t 0)), S 4 (.len (.t 3)), S 2 (.mv (.t 4))]
@[simp] noncomputable def r1 (_ : Unit) : List Stp := [S 5 (.mv (.t 0)), S 6 (.mv (.t 2)), S 7 (.mv (.t 2)), S 8 (.conv .u64 (.t 7)), S 9 (.call (.c (.func (.func fn_math_bits_Len) [] [])) [(.t 8)]), S 10 (.call (.c (.func (.func fn_slices_pdqsortOrdered_int) [] [])) [(.t 5), (.c (.int .i64 0)), (.t 6), (.t 9)])]
@[simp] noncomputable def ir : IR := (.seq (.ops r0) (.ops r1))
@[simp] noncomputable def rs : List RV := []
theorem comp : compF Pg cfg Try.f86 = some (ir, rs, 11) := by kernel_rfl
theorem enter {args : List AVal} {h : Heap} {K : AEnd → Heap → Prop} (F : Nat) (hl : args.length ≤ 11) (a : AW ⟨Pg, F, 11, false, []⟩ ir (RetK rs K) (initT args) [] h) : ACalls Pg fn_slices_Sort_int_int args h K :=
  ACalls.of_comp follows Try.func86 comp hl a
theorem pure {args : List AVal} {v : AVal} (hl : args.length ≤ 11) (a : AW ⟨Pg, 0, 11, false, []⟩ ir (RetK rs fun e _ => e = .ret v) (initT args) [] nilH) : APure Pg fn_slices_Sort_int_int args v :=
  APure.of_nil (enter 0 hl a)
end slices_Sort_int_int

namespace cmp_Less_int
noncomputable def cfg : Cfg := { pure := pures, pcs := [], raw := [], cuts := [], draws := [], keep := [] }
@[simp] noncomputable def r0 (_ : Unit) : List Stp := [S 4 (.mv (.c (.bool false)))]
@[simp] noncomputable def r1 (_ : Unit) : List Stp := [S 5 (.mv (.t 0)), SP 6 (.call (.c (.func (.func fn_cmp_isNaN_int) [] [])) [(.t 5)]), S 7 (.mv (.t 6)), SG 8 7 true (.mv (.t 1)), SGP 9 7 true (.call (.c (.func (.func fn_cmp_isNaN_int) [] [])) [(.t 8)]), SG 10 7 true (.un .not (.t 9)), S 11 (.pick (.t 7) (.t 10) (.c (.bool false))), S 12 (.mv (.t 11)), SG 13 12 false (.mv (.t 0)), SG 14 12 false (.mv (.t 1)), SG 15 12 false (.bin .lss (.t 13) (.t 14)), S 16 (.pick (.t 12) (.c (.bool true)) (.t 15)), S 4 (.mv (.t 16))]
@[simp] noncomputable def ir : IR := (.seq (.ops r0) (.seq (.ops r1) .ret))
@[simp] noncomputable def rs : List RV := [.tmp 4]
theorem comp : compF Pg cfg Try.f87 = some (ir, rs, 17) := by kernel_rfl
theorem enter {args : List AVal} {h : Heap} {K : AEnd → Heap → Prop} (F : Nat) (hl : args.length ≤ 17) (a : AW ⟨Pg, F, 17, false, []⟩ ir (RetK rs K) (initT args) [] h) : ACalls Pg fn_cmp_Less_int args h K :=
  ACalls.of_comp follows Try.func87 comp hl a
theorem pure {args : List AVal} {v : AVal} (hl : args.length ≤ 17) (a : AW ⟨Pg, 0, 17, false, []⟩ ir (RetK rs fun e _ => e = .ret v) (initT args) [] nilH) : APure Pg fn_cmp_Less_int args v :=
  APure.of_nil (enter 0 hl a)
end cmp_Less_int

namespace drive_hull_steps_1
noncomputable def cfg : Cfg := { pure := pures, pcs := [], raw := [], cuts := [], draws := [], keep := [] }
@[simp] noncomputable def r0 (_ : Unit) : List Stp := [S 8 (.load false 1 (.t 1)), S 9 (.load false 1 (.t 2)), S 10 (.load true 6 (.t 3)), S 11 (.inv (.t 8) "caulkworks/drive.pick" [(.t 9), (.t 10)]), S 7 (.mv (.t 11)), S 12 (.ext (.t 7) 0), S 13 (.ext (.t 7) 1), S 5 (.mv (.t 12)), S 6 (.mv (.t 13))]
@[simp] noncomputable def r1 (_ : Unit) : List Stp := [S 14 (.mv (.t 6)), S 15 (.un .not (.t 14))]
@[simp] noncomputable def r2 (_ : Unit) : List Stp := [S 16 (.load false 1 (.t 2)), S 17 (.load true 6 (.t 3)), S 18 (.mv (.t 5)), SP 19 (.call (.c (.func (.func fn_drive_hull_opened) [] [])) [(.t 16), (.t 17), (.t 18), (.c (.int .i64 1))]), SN (.store 6 (.t 3) (.t 19))]
@[simp] noncomputable def r3 (_ : Unit) : List Stp := [S 20 (.mv (.t 0)), S 21 (.mv (.t 5)), S 22 (.load true 6 (.t 3)), S 23 (.call (.t 20) [(.t 21), (.t 22)]), S 24 (.un .not (.t 23))]
@[simp] noncomputable def ir : IR := (.seq .skip (.block 0 (.loop (.block 1 (.seq (.ops r0) (.seq (.seq (.ops r1) (.cond (.t 15) (.exit 0) .skip)) (.seq (.ops r2) (.seq (.ops r3) (.cond (.t 24) .ret .skip)))))))))
@[simp] noncomputable def rs : List RV := []
theorem comp : compF Pg cfg Try.f88 = some (ir, rs, 25) := by kernel_rfl
theorem enter {args : List AVal} {h : Heap} {K : AEnd → Heap → Prop} (F : Nat) (hl : args.length ≤ 25) (a : AW ⟨Pg, F, 25, false, []⟩ ir (RetK rs K) (initT args) [] h) : ACalls Pg fn_drive_hull_steps_1 args h K :=
  ACalls.of_comp follows Try.func88 comp hl a
theorem pure {args : List AVal} {v : AVal} (hl : args.length ≤ 25) (a : AW ⟨Pg, 0, 25, false, []⟩ ir (RetK rs fun e _ => e = .ret v) (initT args) [] nilH) : APure Pg fn_drive_hull_steps_1 args v :=
  APure.of_nil (enter 0 hl a)
end drive_hull_steps_1

namespace ref05_open
noncomputable def cfg : Cfg := { pure := pures, pcs := [], raw := [], cuts := [], draws := [(2, [⟨0, false, [], []⟩, ⟨1, false, [], []⟩, ⟨2, false, [], []⟩, ⟨3, false, [], []⟩, ⟨4, false, [], []⟩, ⟨6, false, [], []⟩, ⟨8, false, [], []⟩, ⟨5, false, [], []⟩, ⟨7, false, [], []⟩, ⟨9, false, [], []⟩, ⟨10, false, [], []⟩, ⟨11, false, [], []⟩, ⟨12, false, [], []⟩, ⟨13, false, [], []⟩])], keep := [] }
@[simp] noncomputable def r0 (_ : Unit) : List Stp := [S 3 (.box (.t 0)), S 6 (.mv (.c .nils))]
@[simp] noncomputable def r1 (_ : Unit) : List Stp := [S 9 (.bsl 0 [] []), S 10 (.mv (.t 1)), S 11 (.app 1 8 (.t 9) (.t 10)), S 7 (.mv (.t 11))]
@[simp] noncomputable def r2 (_ : Unit) : List Stp := [S 12 (.mv (.t 7)), S 13 (.mv (.t 2)), S 14 (.mv (.t 7)), S 15 (.mv (.t 2)), S 16 (.ixS 1 (.t 14) (.t 15)), S 18 (.fAddr 0 (.t 3)), S 20 (.mv (.t 2)), S 17 (.load false 1 (.t 16)), S 19 (.load false 1 (.t 18)), S 21 (.ixS 1 (.t 19) (.t 20)), S 22 (.load false 1 (.t 21)), S 23 (.bin .sub (.t 17) (.t 22)), S 24 (.ixS 1 (.t 12) (.t 13)), SN (.store 1 (.t 24) (.t 23))]
@[simp] noncomputable def r3 (_ : Unit) : List Stp := [S 8 (.mv (.c (.int .i64 0)))]
@[simp] noncomputable def r4 (_ : Unit) : List Stp := [S 25 (.mv (.t 8)), S 26 (.fAddr 1 (.t 3)), S 27 (.load false 1 (.t 26)), S 28 (.len (.t 27)), S 29 (.bin .lss (.t 25) (.t 28))]
@[simp] noncomputable def r6 (_ : Unit) : List Stp := [S 32 (.fAddr 1 (.t 3)), S 33 (.load false 1 (.t 32)), S 34 (.mv (.t 8)), S 35 (.ixS 2 (.t 33) (.t 34)), S 36 (.ixA 2 1 (.t 35) (.c (.int .i64 0))), S 37 (.load false 1 (.t 36)), S 38 (.mv (.t 2)), S 39 (.bin .eql (.t 37) (.t 38))]
@[simp] noncomputable def r7 (_ : Unit) : List Stp := [S 40 (.mv (.t 7)), S 41 (.fAddr 1 (.t 3)), S 42 (.load false 1 (.t 41)), S 43 (.mv (.t 8)), S 44 (.ixS 2 (.t 42) (.t 43)), S 45 (.ixA 2 1 (.t 44) (.c (.int .i64 1))), S 46 (.load false 1 (.t 45)), S 47 (.ixS 1 (.t 40) (.t 46)), S 48 (.load false 1 (.t 47)), S 49 (.bin .add (.t 48) (.c (.int .i64 1))), S 50 (.ixS 1 (.t 40) (.t 46)), SN (.store 1 (.t 50) (.t 49))]
@[simp] noncomputable def r8 (_ : Unit) : List Stp := [S 51 (.fAddr 1 (.t 3)), S 52 (.load false 1 (.t 51)), S 53 (.mv (.t 8)), S 54 (.ixS 2 (.t 52) (.t 53)), S 55 (.ixA 2 1 (.t 54) (.c (.int .i64 1))), S 56 (.load false 1 (.t 55)), S 57 (.mv (.t 2)), S 58 (.bin .eql (.t 56) (.t 57))]
@[simp] noncomputable def r9 (_ : Unit) : List Stp := [S 59 (.mv (.t 7)), S 60 (.fAddr 1 (.t 3)), S 61 (.load false 1 (.t 60)), S 62 (.mv (.t 8)), S 63 (.ixS 2 (.t 61) (.t 62)), S 64 (.ixA 2 1 (.t 63) (.c (.int .i64 0))), S 65 (.load false 1 (.t 64)), S 66 (.ixS 1 (.t 59) (.t 65)), S 67 (.load false 1 (.t 66)), S 68 (.bin .add (.t 67) (.c (.int .i64 1))), S 69 (.ixS 1 (.t 59) (.t 65)), SN (.store 1 (.t 69) (.t 68))]
@[simp] noncomputable def r5 (_ : Unit) : List Stp := [S 30 (.mv (.t 8)), S 31 (.bin .add (.t 30) (.c (.int .i64 1))), S 8 (.mv (.t 31))]
@[simp] noncomputable def r10 (_ : Unit) : List Stp := [S 70 (.mv (.t 7)), S 6 (.mv (.t 70))]
@[simp] noncomputable def ir : IR := (.seq (.ops r0) (.seq (.ops r1) (.seq (.ops r2) (.seq (.seq (.ops r3) (.block 0 (.loop (.seq (.seq (.ops r4) (.cond (.t 29) .skip (.exit 0))) (.seq (.block 1 (.seq (.seq (.ops r6) (.cond (.t 39) (.ops r7) .skip)) (.seq (.ops r8) (.cond (.t 58) (.ops r9) .skip)))) (.ops r5)))))) (.seq (.ops r10) .ret)))))
@[simp] noncomputable def rs : List RV := [.tmp 6]
theorem comp : compF Pg cfg Try.f89 = some (ir, rs, 71) := by kernel_rfl
theorem enter {args : List AVal} {h : Heap} {K : AEnd → Heap → Prop} (F : Nat) (hl : args.length ≤ 71) (a : AW ⟨Pg, F, 71, false, []⟩ ir (RetK rs K) (initT args) [] h) : ACalls Pg fn_ref05_open args h K :=
  ACalls.of_comp follows Try.func89 comp hl a
theorem pure {args : List AVal} {v : AVal} (hl : args.length ≤ 71) (a : AW ⟨Pg, 0, 71, false, []⟩ ir (RetK rs fun e _ => e = .ret v) (initT args) [] nilH) : APure Pg fn_ref05_open args v :=
  APure.of_nil (enter 0 hl a)
end ref05_open

namespace drive_setOf
noncomputable def cfg : Cfg := { pure := pures, pcs := [], raw := [], cuts := [], draws := [], keep := [] }
@[simp] noncomputable def r0 (_ : Unit) : List Stp := [S 2 (.mv (.c (.int .i64 0)))]
@[simp] noncomputable def r1 (_ : Unit) : List Stp := [S 5 (.mv (.t 0)), S 6 (.len (.t 5)), S 7 (.mv (.c (.int .i64 0)))]
@[simp] noncomputable def r2 (_ : Unit) : List Stp := [S 8 (.bin .lss (.t 7) (.t 6))]
@[simp] noncomputable def r3 (_ : Unit) : List Stp := [S 9 (.ixS 1 (.t 5) (.t 7)), S 10 (.load false 1 (.t 9)), S 4 (.mv (.t 10))]
@[simp] noncomputable def r4 (_ : Unit) : List Stp := [S 11 (.mv (.t 2)), S 12 (.mv (.t 4)), S 13 (.bin .shl (.c (.int .i64 1)) (.t 12)), S 14 (.bin .or (.t 11) (.t 13)), S 2 (.mv (.t 14))]
@[simp] noncomputable def r5 (_ : Unit) : List Stp := [S 15 (.bin .add (.t 7) (.c (.int .i64 1))), S 7 (.mv (.t 15))]
@[simp] noncomputable def r6 (_ : Unit) : List Stp := [S 16 (.mv (.t 2)), S 2 (.mv (.t 16))]
@[simp] noncomputable def ir : IR := (.seq (.ops r0) (.seq (.seq (.ops r1) (.block 0 (.loop (.seq (.ops r2) (.seq (.cond (.t 8) .skip (.exit 0)) (.seq (.block 1 (.seq (.ops r3) (.ops r4))) (.ops r5))))))) (.seq (.ops r6) .ret)))
@[simp] noncomputable def rs : List RV := [.tmp 2]
theorem comp : compF Pg cfg Try.f90 = some (ir, rs, 17) := by kernel_rfl
theorem enter {args : List AVal} {h : Heap} {K : AEnd → Heap → Prop} (F : Nat) (hl : args.length ≤ 17) (a : AW ⟨Pg, F, 17, false, []⟩ ir (RetK rs K) (initT args) [] h) : ACalls Pg fn_drive_setOf args h K :=
  ACalls.of_comp follows Try.func90 comp hl a
theorem pure {args : List AVal} {v : AVal} (hl : args.length ≤ 17) (a : AW ⟨Pg, 0, 17, false, []⟩ ir (RetK rs fun e _ => e = .ret v) (initT args) [] nilH) : APure Pg fn_drive_setOf args v :=
  APure.of_nil (enter 0 hl a)
end drive_setOf

namespace slices_Index_2_int_2_int
noncomputable def cfg : Cfg := { pure := pures, pcs := [], raw := [], cuts := [], draws := [(4, [⟨1, false, [], []⟩, ⟨2, false, [], []⟩, ⟨3, false, [], []⟩, ⟨0, false, [], []⟩, ⟨4, false, [], []⟩, ⟨5, false, [], []⟩])], keep := [] }
@[simp] noncomputable def r0 (_ : Unit) : List Stp := [S 3 (.box (.t 1)), S 4 (.mv (.c (.int .i64 0)))]
@[simp] noncomputable def r1 (_ : Unit) : List Stp := [S 6 (.mv (.t 0)), S 7 (.len (.t 6)), S 8 (.mv (.c (.int .i64 0)))]
@[simp] noncomputable def r2 (_ : Unit) : List Stp := [S 9 (.bin .lss (.t 8) (.t 7))]
@[simp] noncomputable def r3 (_ : Unit) : List Stp := [S 10 (.mv (.t 8)), S 5 (.mv (.t 10))]
@[simp] noncomputable def r4 (_ : Unit) : List Stp := [S 12 (.mv (.t 0)), S 13 (.mv (.t 5)), S 14 (.ixS 2 (.t 12) (.t 13)), S 11 (.load true 2 (.t 3)), S 15 (.load true 2 (.t 14)), S 16 (.eqA false [.i, .i] (.t 11) (.t 15))]
@[simp] noncomputable def r5 (_ : Unit) : List Stp := [S 17 (.mv (.t 5)), S 4 (.mv (.t 17))]
@[simp] noncomputable def r6 (_ : Unit) : List Stp := [S 18 (.bin .add (.t 8) (.c (.int .i64 1))), S 8 (.mv (.t 18))]
@[simp] noncomputable def r7 (_ : Unit) : List Stp := [S 4 (.mv (.c (.int .i64 (-1))))]
@[simp] noncomputable def ir : IR := (.seq (.ops r0) (.seq (.seq (.ops r1) (.block 0 (.loop (.seq (.ops r2) (.seq (.cond (.t 9) .skip (.exit 0)) (.seq (.block 1 (.seq (.ops r3) (.seq (.ops r4) (.cond (.t 16) (.seq (.ops r5) .ret) .skip)))) (.ops r6))))))) (.seq (.ops r7) .ret)))
@[simp] noncomputable def rs : List RV := [.tmp 4]
theorem comp : compF Pg cfg Try.f91 = some (ir, rs, 19) := by kernel_rfl
theorem enter {args : List AVal} {h : Heap} {K : AEnd → Heap → Prop} (F : Nat) (hl : args.length ≤ 19) (a : AW ⟨Pg, F, 19, false, []⟩ ir (RetK rs K) (initT args) [] h) : ACalls Pg fn_slices_Index_2_int_2_int args h K :=
  ACalls.of_comp follows Try.func91 comp hl a
theorem pure {args : List AVal} {v : AVal} (hl : args.length ≤ 19) (a : AW ⟨Pg, 0, 19, false, []⟩ ir (RetK rs fun e _ => e = .ret v) (initT args) [] nilH) : APure Pg fn_slices_Index_2_int_2_int args v :=
  APure.of_nil (enter 0 hl a)
end slices_Index_2_int_2_int

namespace slices_IndexFunc_int_int
noncomputable def cfg : Cfg := { pure := pures, pcs := [], raw := [], cuts := [], draws := [], keep := [] }
@[simp] noncomputable def r0 (_ : Unit) : List Stp := [S 4 (.mv (.c (.int .i64 0)))]
@[simp] noncomputable def r1 (_ : Unit) : List Stp := [S 6 (.mv (.t 0)), S 7 (.len (.t 6)), S 8 (.mv (.c (.int .i64 0)))]
@[simp] noncomputable def r2 (_ : Unit) : List Stp := [S 9 (.bin .lss (.t 8) (.t 7))]
@[simp] noncomputable def r3 (_ : Unit) : List Stp := [S 10 (.mv (.t 8)), S 5 (.mv (.t 10))]
@[simp] noncomputable def r4 (_ : Unit) : List Stp := [S 11 (.mv (.t 1)), S 12 (.mv (.t 0)), S 13 (.mv (.t 5)), S 14 (.ixS 1 (.t 12) (.t 13)), S 15 (.load false 1 (.t 14)), S 16 (.call (.t 11) [(.t 15)])]
@[simp] noncomputable def r5 (_ : Unit) : List Stp := [S 17 (.mv (.t 5)), S 4 (.mv (.t 17))]
@[simp] noncomputable def r6 (_ : Unit) : List Stp := [S 18 (.bin .add (.t 8) (.c (.int .i64 1))), S 8 (.mv (.t 18))]
@[simp] noncomputable def r7 (_ : Unit) : List Stp := [S 4 (.mv (.c (.int .i64 (-1))))]
@[simp] noncomputable def ir : IR := (.seq (.ops r0) (.seq (.seq (.ops r1) (.block 0 (.loop (.seq (.ops r2) (.seq (.cond (.t 9) .skip (.exit 0)) (.seq (.block 1 (.seq (.ops r3) (.seq (.ops r4) (.cond (.t 16) (.seq (.ops r5) .ret) .skip)))) (.ops r6))))))) (.seq (.ops r7) .ret)))
@[simp] noncomputable def rs : List RV := [.tmp 4]
theorem comp : compF Pg cfg Try.f92 = some (ir, rs, 19) := by kernel_rfl
theorem enter {args : List AVal} {h : Heap} {K : AEnd → Heap → Prop} (F : Nat) (hl : args.length ≤ 19) (a : AW ⟨Pg, F, 19, false, []⟩ ir (RetK rs K) (initT args) [] h) : ACalls Pg fn_slices_IndexFunc_int_int args h K :=
  ACalls.of_comp follows Try.func92 comp hl a
theorem pure {args : List AVal} {v : AVal} (hl : args.length ≤ 19) (a : AW ⟨Pg, 0, 19, false, []⟩ ir (RetK rs fun e _ => e = .ret v) (initT args) [] nilH) : APure Pg fn_slices_IndexFunc_int_int args v :=
  APure.of_nil (enter 0 hl a)
end slices_IndexFunc_int_int

namespace slices_pdqsortOrdered_int
noncomputable def cfg : Cfg := { pure := pures, pcs := [], raw := [], cuts := [], draws := [(17, [⟨0, false, [], []⟩, ⟨1, false, [], []⟩, ⟨2, false, [], []⟩, ⟨3, false, [], []⟩, ⟨4, false, [], []⟩, ⟨5, false, [], []⟩, ⟨6, false, [], []⟩, ⟨8, false, [], []⟩, ⟨9, false, [], []⟩, ⟨10, false, [], []⟩, ⟨7, false, [], []⟩, ⟨11, false, [], []⟩, ⟨12, false, [], []⟩, ⟨13, false, [], []⟩, ⟨14, false, [], []⟩])], keep := [] }
@[simp] noncomputable def r0 (_ : Unit) : List Stp := [S 8 (.mv (.c (.bool true)))]
@[simp] noncomputable def r1 (_ : Unit) : List Stp := [S 9 (.mv (.c (.bool true)))]
@[simp] noncomputable def r2 (_ : Unit) : List Stp := [S 19 (.mv (.t 2)), S 20 (.mv (.t 1)), S 21 (.bin .sub (.t 19) (.t 20)), S 10 (.mv (.t 21))]
@[simp] noncomputable def r3 (_ : Unit) : List Stp := [S 22 (.mv (.t 10)), S 23 (.bin .leq (.t 22) (.c (.int .i64 12)))]
@[simp] noncomputable def r4 (_ : Unit) : List Stp := [S 24 (.mv (.t 0)), S 25 (.mv (.t 1)), S 26 (.mv (.t 2)), S 27 (.call (.c (.func (.func fn_slices_insertionSortOrdered_int) [] [])) [(.t 24), (.t 25), (.t 26)])]
@[simp] noncomputable def r5 (_ : Unit) : List Stp := [S 28 (.mv (.t 3)), S 29 (.bin .eql (.t 28) (.c (.int .i64 0)))]
@[simp] noncomputable def r6 (_ : Unit) : List Stp := [S 30 (.mv (.t 0)), S 31 (.mv (.t 1)), S 32 (.mv (.t 2)), S 33 (.call (.c (.func (.func fn_slices_heapSortOrdered_int) [] [])) [(.t 30), (.t 31), (.t 32)])]
@[simp] noncomputable def r7 (_ : Unit) : List Stp := [S 34 (.mv (.t 8)), S 35 (.un .not (.t 34))]
@[simp] noncomputable def r8 (_ : Unit) : List Stp := [S 36 (.mv (.t 0)), S 37 (.mv (.t 1)), S 38 (.mv (.t 2)), S 39 (.call (.c (.func (.func fn_slices_breakPatternsOrdered_int) [] [])) [(.t 36), (.t 37), (.t 38)])]
@[simp] noncomputable def r9 (_ : Unit) : List Stp := [S 40 (.mv (.t 3)), S 41 (.bin .sub (.t 40) (.c (.int .i64 1))), S 3 (.mv (.t 41))]
@[simp] noncomputable def r10 (_ : Unit) : List Stp := [S 43 (.mv (.t 0)), S 44 (.mv (.t 1)), S 45 (.mv (.t 2)), S 46 (.call (.c (.func (.func fn_slices_choosePivotOrdered_int) [] [])) [(.t 43), (.t 44), (.t 45)]), S 42 (.mv (.t 46)), S 47 (.ext (.t 42) 0), S 48 (.ext (.t 42) 1), S 11 (.mv (.t 47)), S 12 (.mv (.t 48))]
@[simp] noncomputable def r11 (_ : Unit) : List Stp := [S 49 (.mv (.t 12)), S 50 (.bin .eql (.t 49) (.c (.int .i64 2)))]
@[simp] noncomputable def r12 (_ : Unit) : List Stp := [S 51 (.mv (.t 0)), S 52 (.mv (.t 1)), S 53 (.mv (.t 2)), S 54 (.call (.c (.func (.func fn_slices_reverseRangeOrdered_int) [] [])) [(.t 51), (.t 52), (.t 53)])]
@[simp] noncomputable def r13 (_ : Unit) : List Stp := [S 55 (.mv (.t 2)), S 56 (.bin .sub (.t 55) (.c (.int .i64 1))), S 57 (.mv (.t 11)), S 58 (.mv (.t 1)), S 59 (.bin .sub (.t 57) (.t 58)), S 60 (.bin .sub (.t 56) (.t 59)), S 11 (.mv (.t 60))]
@[simp] noncomputable def r14 (_ : Unit) : List Stp := [S 12 (.mv (.c (.int .i64 1)))]
@[simp] noncomputable def r15 (_ : Unit) : List Stp := [S 61 (.mv (.t 8)), S 62 (.mv (.t 61)), SG 63 62 true (.mv (.t 9)), S 64 (.pick (.t 62) (.t 63) (.c (.bool false))), S 65 (.mv (.t 64)), SG 66 65 true (.mv (.t 12)), SG 67 65 true (.bin .eql (.t 66) (.c (.int .i64 1))), S 68 (.pick (.t 65) (.t 67) (.c (.bool false)))]
@[simp] noncomputable def r16 (_ : Unit) : List Stp := [S 69 (.mv (.t 0)), S 70 (.mv (.t 1)), S 71 (.mv (.t 2)), S 72 (.call (.c (.func (.func fn_slices_partialInsertionSortOrdered_int) [] [])) [(.t 69), (.t 70), (.t 71)])]
@[simp] noncomputable def r17 (_ : Unit) : List Stp := [S 73 (.mv (.t 1)), S 74 (.bin .gtr (.t 73) (.c (.int .i64 0))), S 75 (.mv (.t 74)), SG 76 75 true (.mv (.t 0)), SG 77 75 true (.mv (.t 1)), SG 78 75 true (.bin .sub (.t 77) (.c (.int .i64 1))), SG 79 75 true (.ixS 1 (.t 76) (.t 78)), SG 81 75 true (.mv (.t 0)), SG 82 75 true (.mv (.t 11)), SG 83 75 true (.ixS 1 (.t 81) (.t 82)), SG 80 75 true (.load false 1 (.t 79)), SG 84 75 true (.load false 1 (.t 83)), SGP 85 75 true (.call (.c (.func (.func fn_cmp_Less_int) [] [])) [(.t 80), (.t 84)]), SG 86 75 true (.un .not (.t 85)), S 87 (.pick (.t 75) (.t 86) (.c (.bool false)))]
@[simp] noncomputable def r18 (_ : Unit) : List Stp := [S 88 (.mv (.t 0)), S 89 (.mv (.t 1)), S 90 (.mv (.t 2)), S 91 (.mv (.t 11)), S 92 (.call (.c (.func (.func fn_slices_partitionEqualOrdered_int) [] [])) [(.t 88), (.t 89), (.t 90), (.t 91)]), S 13 (.mv (.t 92))]
@[simp] noncomputable def r19 (_ : Unit) : List Stp := [S 93 (.mv (.t 13)), S 1 (.mv (.t 93))]
@[simp] noncomputable def r20 (_ : Unit) : List Stp := [S 95 (.mv (.t 0)), S 96 (.mv (.t 1)), S 97 (.mv (.t 2)), S 98 (.mv (.t 11)), S 99 (.call (.c (.func (.func fn_slices_partitionOrdered_int) [] [])) [(.t 95), (.t 96), (.t 97), (.t 98)]), S 94 (.mv (.t 99)), S 100 (.ext (.t 94) 0), S 101 (.ext (.t 94) 1), S 14 (.mv (.t 100)), S 15 (.mv (.t 101))]
@[simp] noncomputable def r21 (_ : Unit) : List Stp := [S 102 (.mv (.t 15)), S 9 (.mv (.t 102))]
@[simp] noncomputable def r22 (_ : Unit) : List Stp := [S 103 (.mv (.t 14)), S 104 (.mv (.t 1)), S 105 (.bin .sub (.t 103) (.t 104)), S 106 (.mv (.t 2)), S 107 (.mv (.t 14)), S 108 (.bin .sub (.t 106) (.t 107)), S 16 (.mv (.t 105)), S 17 (.mv (.t 108))]
@[simp] noncomputable def r23 (_ : Unit) : List Stp := [S 109 (.mv (.t 10)), S 110 (.bin .quo (.t 109) (.c (.int .i64 8))), S 18 (.mv (.t 110))]
@[simp] noncomputable def r24 (_ : Unit) : List Stp := [S 111 (.mv (.t 16)), S 112 (.mv (.t 17)), S 113 (.bin .lss (.t 111) (.t 112))]
@[simp] noncomputable def r25 (_ : Unit) : List Stp := [S 114 (.mv (.t 16)), S 115 (.mv (.t 18)), S 116 (.bin .geq (.t 114) (.t 115)), S 8 (.mv (.t 116))]
@[simp] noncomputable def r26 (_ : Unit) : List Stp := [S 117 (.mv (.t 0)), S 118 (.mv (.t 1)), S 119 (.mv (.t 14)), S 120 (.mv (.t 3)), S 121 (.call (.c (.func (.func fn_slices_pdqsortOrdered_int) [] [])) [(.t 117), (.t 118), (.t 119), (.t 120)])]
@[simp] noncomputable def r27 (_ : Unit) : List Stp := [S 122 (.mv (.t 14)), S 123 (.bin .add (.t 122) (.c (.int .i64 1))), S 1 (.mv (.t 123))]
@[simp] noncomputable def r28 (_ : Unit) : List Stp := [S 124 (.mv (.t 17)), S 125 (.mv (.t 18)), S 126 (.bin .geq (.t 124) (.t 125)), S 8 (.mv (.t 126))]
@[simp] noncomputable def r29 (_ : Unit) : List Stp := [S 127 (.mv (.t 0)), S 128 (.mv (.t 14)), S 129 (.bin .add (.t 128) (.c (.int .i64 1))), S 130 (.mv (.t 2)), S 131 (.mv (.t 3)), S 132 (.call (.c (.func (.func fn_slices_pdqsortOrdered_int) [] [])) [(.t 127), (.t 129), (.t 130), (.t 131)])]
@[simp] noncomputable def r30 (_ : Unit) : List Stp := [S 133 (.mv (.t 14)), S 2 (.mv (.t 133))]
@[simp] noncomputable def ir : IR := (.seq (.ops r0) (.seq (.ops r1) (.block 0 (.loop (.block 1 (.seq (.ops r2) (.seq (.seq (.ops r3) (.cond (.t 23) (.seq (.ops r4) .ret) .skip)) (.seq (.seq (.ops r5) (.cond (.t 29) (.seq (.ops r6) .ret) .skip)) (.seq (.seq (.ops r7) (.cond (.t 35) (.seq (.ops r8) (.ops r9)) .skip)) (.seq (.ops r10) (.seq (.seq (.ops r11) (.cond (.t 50) (.seq (.ops r12) (.seq (.ops r13) (.ops r14))) .skip)) (.seq (.seq (.ops r15) (.cond (.t 68) (.seq (.ops r16) (.cond (.t 72) .ret .skip)) .skip)) (.seq (.seq (.ops r17) (.cond (.t 87) (.seq (.ops r18) (.seq (.ops r19) (.exit 1))) .skip)) (.seq (.ops r20) (.seq (.ops r21) (.seq (.ops r22) (.seq (.ops r23) (.seq (.ops r24) (.cond (.t 113) (.seq (.ops r25) (.seq (.ops r26) (.ops r27))) (.seq (.ops r28) (.seq (.ops r29) (.ops r30))))))))))))))))))))))
@[simp] noncomputable def rs : List RV := []
theorem comp : compF Pg cfg Try.f93 = some (ir, rs, 134) := by kernel_rfl
theorem enter {args : List AVal} {h : Heap} {K : AEnd → Heap → Prop} (F : Nat) (hl : args.length ≤ 134) (a : AW ⟨Pg, F, 134, false, []⟩ ir (RetK rs K) (initT args) [] h) : ACalls Pg fn_slices_pdqsortOrdered_int args h K :=
  ACalls.of_comp follows Try.func93 comp hl a
theorem pure {args : List AVal} {v : AVal} (hl : args.length ≤ 134) (a : AW ⟨Pg, 0, 134, false, []⟩ ir (RetK rs fun e _ => e = .ret v) (initT args) [] nilH) : APure Pg fn_slices_pdqsortOrdered_int args v :=
  APure.of_nil (enter 0 hl a)
end slices_pdqsortOrdered_int

namespace math_bits_Len
noncomputable def cfg : Cfg := { pure := pures, pcs := [], raw := [], cuts := [], draws := [], keep := [] }
@[simp] noncomputable def r0 (_ : Unit) : List Stp := [S 2 (.mv (.c (.int .i64 0)))]
@[simp] noncomputable def r1 (_ : Unit) : List Stp := [S 3 (.mv (.t 0)), S 4 (.conv .u32 (.t 3)), S 5 (.call (.c (.func (.func fn_math_bits_Len32) [] [])) [(.t 4)]), S 2 (.mv (.t 5))]
@[simp] noncomputable def r2 (_ : Unit) : List Stp := [S 6 (.mv (.t 0)), S 7 (.call (.c (.func (.func fn_math_bits_Len64) [] [])) [(.t 6)]), S 2 (.mv (.t 7))]
@[simp] noncomputable def ir : IR := (.seq (.ops r0) (.seq (.cond (.c (.bool false)) (.seq (.ops r1) .ret) .skip) (.seq (.ops r2) .ret)))
@[simp] noncomputable def rs : List RV := [.tmp 2]
theorem comp : compF Pg cfg Try.f94 = some (ir, rs, 8) := by kernel_rfl
theorem enter {args : List AVal} {h : Heap} {K : AEnd → Heap → Prop} (F : Nat) (hl : args.length ≤ 8) (a : AW ⟨Pg, F, 8, false, []⟩ ir (RetK rs K) (initT args) [] h) : ACalls Pg fn_math_bits_Len args h K :=
  ACalls.of_comp follows Try.func94 comp hl a
theorem pure {args : List AVal} {v : AVal} (hl : args.length ≤ 8) (a : AW ⟨Pg, 0, 8, false, []⟩ ir (RetK rs fun e _ => e = .ret v) (initT args) [] nilH) : APure Pg fn_math_bits_Len args v :=
  APure.of_nil (enter 0 hl a)
end math_bits_Len

namespace cmp_isNaN_int
noncomputable def cfg : Cfg := { pure := pures, pcs := [], raw := [], cuts := [], draws := [], keep := [] }
@[simp] noncomputable def r0 (_ : Unit) : List Stp := [S 2 (.mv (.c (.bool false)))]
@[simp] noncomputable def r1 (_ : Unit) : List Stp := [S 3 (.mv (.t 0)), S 4 (.mv (.t 0)), S 5 (.bin .neq (.t 3) (.t 4)), S 2 (.mv (.t 5))]
@[simp] noncomputable def ir : IR := (.seq (.ops r0) (.seq (.ops r1) .ret))
@[simp] noncomputable def rs : List RV := [.tmp 2]
theorem comp : compF Pg cfg Try.f95 = some (ir, rs, 6) := by kernel_rfl
theorem enter {args : List AVal} {h : Heap} {K : AEnd → Heap → Prop} (F : Nat) (hl : args.length ≤ 6) (a : AW ⟨Pg, F, 6, false, []⟩ ir (RetK rs K) (initT args) [] h) : ACalls Pg fn_cmp_isNaN_int args h K :=
  ACalls.of_comp follows Try.func95 comp hl a
theorem pure {args : List AVal} {v : AVal} (hl : args.length ≤ 6) (a : AW ⟨Pg, 0, 6, false, []⟩ ir (RetK rs fun e _ => e = .ret v) (initT args) [] nilH) : APure Pg fn_cmp_isNaN_int args v :=
  APure.of_nil (enter 0 hl a)
end cmp_isNaN_int

namespace slices_insertionSortOrdered_int
noncomputable def cfg : Cfg := { pure := pures, pcs := [], raw := [], cuts := [], draws := [(4, [⟨0, false, [], []⟩, ⟨1, false, [], []⟩, ⟨2, false, [], []⟩, ⟨3, false, [], []⟩, ⟨4, false, [], []⟩, ⟨5, false, [], []⟩, ⟨6, false, [], []⟩, ⟨8, false, [], []⟩, ⟨9, false, [], []⟩, ⟨10, false, [], []⟩, ⟨11, false, [], []⟩, ⟨7, false, [], []⟩, ⟨12, false, [], []⟩, ⟨13, false, [], []⟩, ⟨14, false, [], []⟩]), (6, [⟨0, false, [], []⟩, ⟨1, false, [], []⟩, ⟨2, false, [], []⟩, ⟨3, false, [], []⟩, ⟨4, false, [], []⟩, ⟨5, false, [], []⟩, ⟨6, false, [], []⟩, ⟨7, false, [], []⟩, ⟨8, false, [], []⟩, ⟨10, false, [], []⟩, ⟨11, false, [], []⟩, ⟨12, false, [], []⟩, ⟨9, false, [], []⟩, ⟨13, false, [], []⟩, ⟨14, false, [], []⟩, ⟨15, false, [], []⟩, ⟨16, false, [], []⟩, ⟨17, false, [], []⟩])], keep := [] }
@[simp] noncomputable def r0 (_ : Unit) : List Stp := [S 8 (.mv (.t 1)), S 9 (.bin .add (.t 8) (.c (.int .i64 1))), S 6 (.mv (.t 9))]
@[simp] noncomputable def r1 (_ : Unit) : List Stp := [S 10 (.mv (.t 6)), S 11 (.mv (.t 2)), S 12 (.bin .lss (.t 10) (.t 11))]
@[simp] noncomputable def r3 (_ : Unit) : List Stp := [S 15 (.mv (.t 6)), S 7 (.mv (.t 15))]
@[simp] noncomputable def r4 (_ : Unit) : List Stp := [S 16 (.mv (.t 7)), S 17 (.mv (.t 1)), S 18 (.bin .gtr (.t 16) (.t 17)), S 19 (.mv (.t 18)), SG 20 19 true (.mv (.t 0)), SG 21 19 true (.mv (.t 7)), SG 22 19 true (.ixS 1 (.t 20) (.t 21)), SG 24 19 true (.mv (.t 0)), SG 25 19 true (.mv (.t 7)), SG 26 19 true (.bin .sub (.t 25) (.c (.int .i64 1))), SG 27 19 true (.ixS 1 (.t 24) (.t 26)), SG 23 19 true (.load false 1 (.t 22)), SG 28 19 true (.load false 1 (.t 27)), SGP 29 19 true (.call (.c (.func (.func fn_cmp_Less_int) [] [])) [(.t 23), (.t 28)]), S 30 (.pick (.t 19) (.t 29) (.c (.bool false)))]
@[simp] noncomputable def r6 (_ : Unit) : List Stp := [S 33 (.mv (.t 0)), S 34 (.mv (.t 7)), S 35 (.mv (.t 0)), S 36 (.mv (.t 7)), S 37 (.bin .sub (.t 36) (.c (.int .i64 1))), S 38 (.mv (.t 0)), S 39 (.mv (.t 7)), S 40 (.bin .sub (.t 39) (.c (.int .i64 1))), S 41 (.ixS 1 (.t 38) (.t 40)), S 43 (.mv (.t 0)), S 44 (.mv (.t 7)), S 45 (.ixS 1 (.t 43) (.t 44)), S 42 (.load false 1 (.t 41)), S 46 (.load false 1 (.t 45)), S 47 (.ixS 1 (.t 33) (.t 34)), SN (.store 1 (.t 47) (.t 42)), S 48 (.ixS 1 (.t 35) (.t 37)), SN (.store 1 (.t 48) (.t 46))]
@[simp] noncomputable def r5 (_ : Unit) : List Stp := [S 31 (.mv (.t 7)), S 32 (.bin .sub (.t 31) (.c (.int .i64 1))), S 7 (.mv (.t 32))]
@[simp] noncomputable def r2 (_ : Unit) : List Stp := [S 13 (.mv (.t 6)), S 14 (.bin .add (.t 13) (.c (.int .i64 1))), S 6 (.mv (.t 14))]
@[simp] noncomputable def ir : IR := (.seq (.ops r0) (.block 0 (.loop (.seq (.seq (.ops r1) (.cond (.t 12) .skip (.exit 0))) (.seq (.block 1 (.seq (.ops r3) (.block 2 (.loop (.seq (.seq (.ops r4) (.cond (.t 30) .skip (.exit 2))) (.seq (.block 3 (.ops r6)) (.ops r5))))))) (.ops r2))))))
@[simp] noncomputable def rs : List RV := []
theorem comp : compF Pg cfg Try.f96 = some (ir, rs, 49) := by kernel_rfl
theorem enter {args : List AVal} {h : Heap} {K : AEnd → Heap → Prop} (F : Nat) (hl : args.length ≤ 49) (a : AW ⟨Pg, F, 49, false, []⟩ ir (RetK rs K) (initT args) [] h) : ACalls Pg fn_slices_insertionSortOrdered_int args h K :=
  ACalls.of_comp follows Try.func96 comp hl a
theorem pure {args : List AVal} {v : AVal} (hl : args.length ≤ 49) (a : AW ⟨Pg, 0, 49, false, []⟩ ir (RetK rs fun e _ => e = .ret v) (initT args) [] nilH) : APure Pg fn_slices_insertionSortOrdered_int args v :=
  APure.of_nil (enter 0 hl a)
end slices_insertionSortOrdered_int

namespace slices_heapSortOrdered_int
noncomputable def cfg : Cfg := { pure := pures, pcs := [], raw := [], cuts := [], draws := [(10, [⟨0, false, [], []⟩, ⟨1, false, [], []⟩, ⟨2, false, [], []⟩, ⟨3, false, [], []⟩, ⟨4, false, [], []⟩, ⟨5, false, [], []⟩, ⟨6, false, [], []⟩, ⟨7, false, [], []⟩, ⟨8, false, [], []⟩, ⟨9, false, [], []⟩, ⟨10, false, [], []⟩, ⟨12, false, [], []⟩, ⟨13, false, [], []⟩, ⟨14, false, [], []⟩, ⟨11, false, [], []⟩, ⟨15, false, [], []⟩, ⟨16, false, [], []⟩, ⟨17, false, [], []⟩, ⟨18, false, [], []⟩, ⟨19, false, [], []⟩])], keep := [] }
@[simp] noncomputable def r0 (_ : Unit) : List Stp := [S 11 (.mv (.t 1)), S 6 (.mv (.t 11))]
@[simp] noncomputable def r1 (_ : Unit) : List Stp := [S 7 (.mv (.c (.int .i64 0)))]
@[simp] noncomputable def r2 (_ : Unit) : List Stp := [S 12 (.mv (.t 2)), S 13 (.mv (.t 1)), S 14 (.bin .sub (.t 12) (.t 13)), S 8 (.mv (.t 14))]
@[simp] noncomputable def r3 (_ : Unit) : List Stp := [S 15 (.mv (.t 8)), S 16 (.bin .sub (.t 15) (.c (.int .i64 1))), S 17 (.bin .quo (.t 16) (.c (.int .i64 2))), S 9 (.mv (.t 17))]
@[simp] noncomputable def r4 (_ : Unit) : List Stp := [S 18 (.mv (.t 9)), S 19 (.bin .geq (.t 18) (.c (.int .i64 0)))]
@[simp] noncomputable def r6 (_ : Unit) : List Stp := [S 22 (.mv (.t 0)), S 23 (.mv (.t 9)), S 24 (.mv (.t 8)), S 25 (.mv (.t 6)), S 26 (.call (.c (.func (.func fn_slices_siftDownOrdered_int) [] [])) [(.t 22), (.t 23), (.t 24), (.t 25)])]
@[simp] noncomputable def r5 (_ : Unit) : List Stp := [S 20 (.mv (.t 9)), S 21 (.bin .sub (.t 20) (.c (.int .i64 1))), S 9 (.mv (.t 21))]
@[simp] noncomputable def r7 (_ : Unit) : List Stp := [S 27 (.mv (.t 8)), S 28 (.bin .sub (.t 27) (.c (.int .i64 1))), S 10 (.mv (.t 28))]
@[simp] noncomputable def r8 (_ : Unit) : List Stp := [S 29 (.mv (.t 10)), S 30 (.bin .geq (.t 29) (.c (.int .i64 0)))]
@[simp] noncomputable def r10 (_ : Unit) : List Stp := [S 33 (.mv (.t 0)), S 34 (.mv (.t 6)), S 35 (.mv (.t 0)), S 36 (.mv (.t 6)), S 37 (.mv (.t 10)), S 38 (.bin .add (.t 36) (.t 37)), S 39 (.mv (.t 0)), S 40 (.mv (.t 6)), S 41 (.mv (.t 10)), S 42 (.bin .add (.t 40) (.t 41)), S 43 (.ixS 1 (.t 39) (.t 42)), S 45 (.mv (.t 0)), S 46 (.mv (.t 6)), S 47 (.ixS 1 (.t 45) (.t 46)), S 44 (.load false 1 (.t 43)), S 48 (.load false 1 (.t 47)), S 49 (.ixS 1 (.t 33) (.t 34)), SN (.store 1 (.t 49) (.t 44)), S 50 (.ixS 1 (.t 35) (.t 38)), SN (.store 1 (.t 50) (.t 48))]
@[simp] noncomputable def r11 (_ : Unit) : List Stp := [S 51 (.mv (.t 0)), S 52 (.mv (.t 7)), S 53 (.mv (.t 10)), S 54 (.mv (.t 6)), S 55 (.call (.c (.func (.func fn_slices_siftDownOrdered_int) [] [])) [(.t 51), (.t 52), (.t 53), (.t 54)])]
@[simp] noncomputable def r9 (_ : Unit) : List Stp := [S 31 (.mv (.t 10)), S 32 (.bin .sub (.t 31) (.c (.int .i64 1))), S 10 (.mv (.t 32))]
@[simp] noncomputable def ir : IR := (.seq (.ops r0) (.seq (.ops r1) (.seq (.ops r2) (.seq (.seq (.ops r3) (.block 0 (.loop (.seq (.seq (.ops r4) (.cond (.t 19) .skip (.exit 0))) (.seq (.block 1 (.ops r6)) (.ops r5)))))) (.seq (.ops r7) (.block 2 (.loop (.seq (.seq (.ops r8) (.cond (.t 30) .skip (.exit 2))) (.seq (.block 3 (.seq (.ops r10) (.ops r11))) (.ops r9))))))))))
@[simp] noncomputable def rs : List RV := []
theorem comp : compF Pg cfg Try.f97 = some (ir, rs, 56) := by kernel_rfl
theorem enter {args : List AVal} {h : Heap} {K : AEnd → Heap → Prop} (F : Nat) (hl : args.length ≤ 56) (a : AW ⟨Pg, F, 56, false, []⟩ ir (RetK rs K) (initT args) [] h) : ACalls Pg fn_slices_heapSortOrdered_int args h K :=
  ACalls.of_comp follows Try.func97 comp hl a
theorem pure {args : List AVal} {v : AVal} (hl : args.length ≤ 56) (a : AW ⟨Pg, 0, 56, false, []⟩ ir (RetK rs fun e _ => e = .ret v) (initT args) [] nilH) : APure Pg fn_slices_heapSortOrdered_int args v :=
  APure.of_nil (enter 0 hl a)
end slices_heapSortOrdered_int

namespace slices_breakPatternsOrdered_int
noncomputable def cfg : Cfg := { pure := pures, pcs := [], raw := [], cuts := [], draws := [(10, [⟨0, false, [], []⟩, ⟨1, false, [], []⟩, ⟨2, false, [], []⟩, ⟨3, false, [], []⟩, ⟨4, false, [], []⟩, ⟨5, false, [], []⟩, ⟨6, false, [], []⟩, ⟨7, false, [], []⟩, ⟨8, false, [], []⟩, ⟨9, false, [], []⟩, ⟨10, false, [], []⟩, ⟨12, false, [], []⟩, ⟨13, false, [], []⟩, ⟨14, false, [], []⟩, ⟨11, false, [], []⟩, ⟨15, false, [], []⟩, ⟨16, false, [], []⟩, ⟨17, false, [], []⟩, ⟨18, false, [], []⟩, ⟨19, false, [], []⟩])], keep := [] }
@[simp] noncomputable def r0 (_ : Unit) : List Stp := [S 11 (.mv (.t 2)), S 12 (.mv (.t 1)), S 13 (.bin .sub (.t 11) (.t 12)), S 6 (.mv (.t 13))]
@[simp] noncomputable def r1 (_ : Unit) : List Stp := [S 14 (.mv (.t 6)), S 15 (.bin .geq (.t 14) (.c (.int .i64 8)))]
@[simp] noncomputable def r2 (_ : Unit) : List Stp := [S 16 (.mv (.t 6)), S 17 (.conv .u64 (.t 16)), S 7 (.alloc [(.int .u64 0)]), SN (.store 1 (.t 7) (.t 17))]
@[simp] noncomputable def r3 (_ : Unit) : List Stp := [S 18 (.mv (.t 6)), S 19 (.call (.c (.func (.func fn_slices_nextPowerOfTwo) [] [])) [(.t 18)]), S 8 (.mv (.t 19))]
@[simp] noncomputable def r4 (_ : Unit) : List Stp := [S 20 (.mv (.t 1)), S 21 (.mv (.t 6)), S 22 (.bin .quo (.t 21) (.c (.int .i64 4))), S 23 (.bin .mul (.t 22) (.c (.int .i64 2))), S 24 (.bin .add (.t 20) (.t 23)), S 25 (.bin .sub (.t 24) (.c (.int .i64 1))), S 9 (.mv (.t 25))]
@[simp] noncomputable def r5 (_ : Unit) : List Stp := [S 26 (.mv (.t 9)), S 27 (.mv (.t 1)), S 28 (.mv (.t 6)), S 29 (.bin .quo (.t 28) (.c (.int .i64 4))), S 30 (.bin .mul (.t 29) (.c (.int .i64 2))), S 31 (.bin .add (.t 27) (.t 30)), S 32 (.bin .add (.t 31) (.c (.int .i64 1))), S 33 (.bin .leq (.t 26) (.t 32))]
@[simp] noncomputable def r7 (_ : Unit) : List Stp := [S 36 (.call (.c (.func (.func fn_slices_xorshift_Next) [] [])) [(.t 7)]), S 37 (.mv (.t 8)), S 38 (.bin .sub (.t 37) (.c (.int .u64 1))), S 39 (.bin .and (.t 36) (.t 38)), S 40 (.conv .i64 (.t 39)), S 10 (.mv (.t 40))]
@[simp] noncomputable def r8 (_ : Unit) : List Stp := [S 41 (.mv (.t 10)), S 42 (.mv (.t 6)), S 43 (.bin .geq (.t 41) (.t 42))]
@[simp] noncomputable def r9 (_ : Unit) : List Stp := [S 44 (.mv (.t 10)), S 45 (.mv (.t 6)), S 46 (.bin .sub (.t 44) (.t 45)), S 10 (.mv (.t 46))]
@[simp] noncomputable def r10 (_ : Unit) : List Stp := [S 47 (.mv (.t 0)), S 48 (.mv (.t 9)), S 49 (.mv (.t 0)), S 50 (.mv (.t 1)), S 51 (.mv (.t 10)), S 52 (.bin .add (.t 50) (.t 51)), S 53 (.mv (.t 0)), S 54 (.mv (.t 1)), S 55 (.mv (.t 10)), S 56 (.bin .add (.t 54) (.t 55)), S 57 (.ixS 1 (.t 53) (.t 56)), S 59 (.mv (.t 0)), S 60 (.mv (.t 9)), S 61 (.ixS 1 (.t 59) (.t 60)), S 58 (.load false 1 (.t 57)), S 62 (.load false 1 (.t 61)), S 63 (.ixS 1 (.t 47) (.t 48)), SN (.store 1 (.t 63) (.t 58)), S 64 (.ixS 1 (.t 49) (.t 52)), SN (.store 1 (.t 64) (.t 62))]
@[simp] noncomputable def r6 (_ : Unit) : List Stp := [S 34 (.mv (.t 9)), S 35 (.bin .add (.t 34) (.c (.int .i64 1))), S 9 (.mv (.t 35))]
@[simp] noncomputable def ir : IR := (.seq (.ops r0) (.seq (.ops r1) (.cond (.t 15) (.seq (.ops r2) (.seq (.ops r3) (.seq (.ops r4) (.block 0 (.loop (.seq (.seq (.ops r5) (.cond (.t 33) .skip (.exit 0))) (.seq (.block 1 (.seq (.ops r7) (.seq (.seq (.ops r8) (.cond (.t 43) (.ops r9) .skip)) (.ops r10)))) (.ops r6)))))))) .skip)))
@[simp] noncomputable def rs : List RV := []
theorem comp : compF Pg cfg Try.f98 = some (ir, rs, 65) := by kernel_rfl
theorem enter {args : List AVal} {h : Heap} {K : AEnd → Heap → Prop} (F : Nat) (hl : args.length ≤ 65) (a : AW ⟨Pg, F, 65, false, []⟩ ir (RetK rs K) (initT args) [] h) : ACalls Pg fn_slices_breakPatternsOrdered_int args h K :=
  ACalls.of_comp follows Try.func98 comp hl a
theorem pure {args : List AVal} {v : AVal} (hl : args.length ≤ 65) (a : AW ⟨Pg, 0, 65, false, []⟩ ir (RetK rs fun e _ => e = .ret v) (initT args) [] nilH) : APure Pg fn_slices_breakPatternsOrdered_int args v :=
  APure.of_nil (enter 0 hl a)
end slices_breakPatternsOrdered_int

namespace slices_choosePivotOrdered_int
noncomputable def cfg : Cfg := { pure := pures, pcs := [], raw := [], cuts := [], draws := [], keep := [] }
@[simp] noncomputable def r0 (_ : Unit) : List Stp := [S 6 (.mv (.c (.int .i64 0))), S 7 (.mv (.c (.int .i64 0)))]
@[simp] noncomputable def r1 (_ : Unit) : List Stp := [S 13 (.mv (.t 2)), S 14 (.mv (.t 1)), S 15 (.bin .sub (.t 13) (.t 14)), S 8 (.mv (.t 15))]
@[simp] noncomputable def r2 (_ : Unit) : List Stp := [S 9 (.alloc [(.int .i64 0)])]
@[simp] noncomputable def r3 (_ : Unit) : List Stp := [S 16 (.mv (.t 1)), S 17 (.mv (.t 8)), S 18 (.bin .quo (.t 17) (.c (.int .i64 4))), S 19 (.bin .mul (.t 18) (.c (.int .i64 1))), S 20 (.bin .add (.t 16) (.t 19)), S 10 (.mv (.t 20))]
@[simp] noncomputable def r4 (_ : Unit) : List Stp := [S 21 (.mv (.t 1)), S 22 (.mv (.t 8)), S 23 (.bin .quo (.t 22) (.c (.int .i64 4))), S 24 (.bin .mul (.t 23) (.c (.int .i64 2))), S 25 (.bin .add (.t 21) (.t 24)), S 11 (.mv (.t 25))]
@[simp] noncomputable def r5 (_ : Unit) : List Stp := [S 26 (.mv (.t 1)), S 27 (.mv (.t 8)), S 28 (.bin .quo (.t 27) (.c (.int .i64 4))), S 29 (.bin .mul (.t 28) (.c (.int .i64 3))), S 30 (.bin .add (.t 26) (.t 29)), S 12 (.mv (.t 30))]
@[simp] noncomputable def r6 (_ : Unit) : List Stp := [S 31 (.mv (.t 8)), S 32 (.bin .geq (.t 31) (.c (.int .i64 8)))]
@[simp] noncomputable def r7 (_ : Unit) : List Stp := [S 33 (.mv (.t 8)), S 34 (.bin .geq (.t 33) (.c (.int .i64 50)))]
@[simp] noncomputable def r8 (_ : Unit) : List Stp := [S 35 (.mv (.t 0)), S 36 (.mv (.t 10)), S 37 (.call (.c (.func (.func fn_slices_medianAdjacentOrdered_int) [] [])) [(.t 35), (.t 36), (.t 9)]), S 10 (.mv (.t 37))]
@[simp] noncomputable def r9 (_ : Unit) : List Stp := [S 38 (.mv (.t 0)), S 39 (.mv (.t 11)), S 40 (.call (.c (.func (.func fn_slices_medianAdjacentOrdered_int) [] [])) [(.t 38), (.t 39), (.t 9)]), S 11 (.mv (.t 40))]
@[simp] noncomputable def r10 (_ : Unit) : List Stp := [S 41 (.mv (.t 0)), S 42 (.mv (.t 12)), S 43 (.call (.c (.func (.func fn_slices_medianAdjacentOrdered_int) [] [])) [(.t 41), (.t 42), (.t 9)]), S 12 (.mv (.t 43))]
@[simp] noncomputable def r11 (_ : Unit) : List Stp := [S 44 (.mv (.t 0)), S 45 (.mv (.t 10)), S 46 (.mv (.t 11)), S 47 (.mv (.t 12)), S 48 (.call (.c (.func (.func fn_slices_medianOrdered_int) [] [])) [(.t 44), (.t 45), (.t 46), (.t 47), (.t 9)]), S 11 (.mv (.t 48))]
@[simp] noncomputable def r12 (_ : Unit) : List Stp := [S 49 (.load false 1 (.t 9))]
@[simp] noncomputable def r14 (_ : Unit) : List Stp := [S 52 (.bin .eql (.t 49) (.c (.int .i64 0))), S 51 (.mv (.t 52))]
@[simp] noncomputable def r15 (_ : Unit) : List Stp := [S 53 (.mv (.t 11)), S 6 (.mv (.t 53)), S 7 (.mv (.c (.int .i64 1)))]
@[simp] noncomputable def r16 (_ : Unit) : List Stp := [S 55 (.bin .eql (.t 49) (.c (.int .i64 12))), S 54 (.mv (.t 55))]
@[simp] noncomputable def r17 (_ : Unit) : List Stp := [S 56 (.mv (.t 11)), S 6 (.mv (.t 56)), S 7 (.mv (.c (.int .i64 2)))]
@[simp] noncomputable def r13 (_ : Unit) : List Stp := [S 50 (.mv (.t 11)), S 6 (.mv (.t 50)), S 7 (.mv (.c (.int .i64 0)))]
@[simp] noncomputable def ir : IR := (.seq (.ops r0) (.seq (.ops r1) (.seq (.ops r2) (.seq (.ops r3) (.seq (.ops r4) (.seq (.ops r5) (.seq (.seq (.ops r6) (.cond (.t 32) (.seq (.seq (.ops r7) (.cond (.t 34) (.seq (.ops r8) (.seq (.ops r9) (.ops r10))) .skip)) (.ops r11)) .skip)) (.seq (.ops r12) (.block 0 (.seq (.ops r14) (.cond (.t 51) (.seq (.ops r15) .ret) (.seq (.ops r16) (.cond (.t 54) (.seq (.ops r17) .ret) (.seq (.ops r13) .ret))))))))))))))
@[simp] noncomputable def rs : List RV := [.tmp 6, .tmp 7]
theorem comp : compF Pg cfg Try.f99 = some (ir, rs, 57) := by kernel_rfl
theorem enter {args : List AVal} {h : Heap} {K : AEnd → Heap → Prop} (F : Nat) (hl : args.length ≤ 57) (a : AW ⟨Pg, F, 57, false, []⟩ ir (RetK rs K) (initT args) [] h) : ACalls Pg fn_slices_choosePivotOrdered_int args h K :=
  ACalls.of_comp follows Try.func99 comp hl a
theorem pure {args : List AVal} {v : AVal} (hl : args.length ≤ 57) (a : AW ⟨Pg, 0, 57, false, []⟩ ir (RetK rs fun e _ => e = .ret v) (initT args) [] nilH) : APure Pg fn_slices_choosePivotOrdered_int args v :=
  APure.of_nil (enter 0 hl a)
end slices_choosePivotOrdered_int

namespace slices_reverseRangeOrdered_int
noncomputable def cfg : Cfg := { pure := pures, pcs := [], raw := [], cuts := [], draws := [(3, [⟨0, false, [], []⟩, ⟨1, false, [], []⟩, ⟨2, false, [], []⟩, ⟨3, false, [], []⟩, ⟨4, false, [], []⟩, ⟨5, false, [], []⟩, ⟨6, false, [], []⟩, ⟨8, false, [], []⟩, ⟨9, false, [], []⟩, ⟨10, false, [], []⟩, ⟨7, false, [], []⟩, ⟨11, false, [], []⟩, ⟨12, false, [], []⟩, ⟨13, false, [], []⟩, ⟨14, false, [], []⟩, ⟨15, false, [], []⟩])], keep := [] }
@[simp] noncomputable def r0 (_ : Unit) : List Stp := [S 8 (.mv (.t 1)), S 6 (.mv (.t 8))]
@[simp] noncomputable def r1 (_ : Unit) : List Stp := [S 9 (.mv (.t 2)), S 10 (.bin .sub (.t 9) (.c (.int .i64 1))), S 7 (.mv (.t 10))]
@[simp] noncomputable def r2 (_ : Unit) : List Stp := [S 11 (.mv (.t 6)), S 12 (.mv (.t 7)), S 13 (.bin .lss (.t 11) (.t 12))]
@[simp] noncomputable def r3 (_ : Unit) : List Stp := [S 14 (.mv (.t 0)), S 15 (.mv (.t 6)), S 16 (.mv (.t 0)), S 17 (.mv (.t 7)), S 18 (.mv (.t 0)), S 19 (.mv (.t 7)), S 20 (.ixS 1 (.t 18) (.t 19)), S 22 (.mv (.t 0)), S 23 (.mv (.t 6)), S 24 (.ixS 1 (.t 22) (.t 23)), S 21 (.load false 1 (.t 20)), S 25 (.load false 1 (.t 24)), S 26 (.ixS 1 (.t 14) (.t 15)), SN (.store 1 (.t 26) (.t 21)), S 27 (.ixS 1 (.t 16) (.t 17)), SN (.store 1 (.t 27) (.t 25))]
@[simp] noncomputable def r4 (_ : Unit) : List Stp := [S 28 (.mv (.t 6)), S 29 (.bin .add (.t 28) (.c (.int .i64 1))), S 6 (.mv (.t 29))]
@[simp] noncomputable def r5 (_ : Unit) : List Stp := [S 30 (.mv (.t 7)), S 31 (.bin .sub (.t 30) (.c (.int .i64 1))), S 7 (.mv (.t 31))]
@[simp] noncomputable def ir : IR := (.seq (.ops r0) (.seq (.ops r1) (.block 0 (.loop (.seq (.seq (.ops r2) (.cond (.t 13) .skip (.exit 0))) (.block 1 (.seq (.ops r3) (.seq (.ops r4) (.ops r5)))))))))
@[simp] noncomputable def rs : List RV := []
theorem comp : compF Pg cfg Try.f100 = some (ir, rs, 32) := by kernel_rfl
theorem enter {args : List AVal} {h : Heap} {K : AEnd → Heap → Prop} (F : Nat) (hl : args.length ≤ 32) (a : AW ⟨Pg, F, 32, false, []⟩ ir (RetK rs K) (initT args) [] h) : ACalls Pg fn_slices_reverseRangeOrdered_int args h K :=
  ACalls.of_comp follows Try.func100 comp hl a
theorem pure {args : List AVal} {v : AVal} (hl : args.length ≤ 32) (a : AW ⟨Pg, 0, 32, false, []⟩ ir (RetK rs fun e _ => e = .ret v) (initT args) [] nilH) : APure Pg fn_slices_reverseRangeOrdered_int args v :=
  APure.of_nil (enter 0 hl a)
end slices_reverseRangeOrdered_int

namespace slices_partialInsertionSortOrdered_int
noncomputable def cfg : Cfg := { pure := pures, pcs := [], raw := [], cuts := [], draws := [(5, [⟨0, false, [], []⟩, ⟨1, false, [], []⟩, ⟨2, false, [], []⟩, ⟨3, false, [], []⟩, ⟨4, false, [], []⟩, ⟨5, false, [], []⟩, ⟨6, false, [], []⟩, ⟨8, false, [], []⟩, ⟨9, false, [], []⟩, ⟨10, false, [], []⟩, ⟨11, false, [], []⟩, ⟨7, false, [], []⟩, ⟨12, false, [], []⟩, ⟨13, false, [], []⟩, ⟨14, false, [], []⟩, ⟨15, false, [], []⟩]), (11, [⟨0, false, [], []⟩, ⟨1, false, [], []⟩, ⟨2, false, [], []⟩, ⟨3, false, [], []⟩, ⟨4, false, [], []⟩, ⟨5, false, [], []⟩, ⟨6, false, [], []⟩, ⟨7, false, [], []⟩, ⟨8, false, [], []⟩, ⟨10, false, [], []⟩, ⟨11, false, [], []⟩, ⟨12, false, [], []⟩, ⟨9, false, [], []⟩, ⟨13, false, [], []⟩, ⟨14, false, [], []⟩, ⟨15, false, [], []⟩, ⟨16, false, [], []⟩, ⟨17, false, [], []⟩]), (16, [⟨0, false, [], []⟩, ⟨1, false, [], []⟩, ⟨2, false, [], []⟩, ⟨4, false, [], []⟩, ⟨5, false, [], []⟩, ⟨6, false, [], []⟩, ⟨7, false, [], []⟩, ⟨3, false, [], []⟩, ⟨8, false, [], []⟩, ⟨9, false, [], []⟩, ⟨10, false, [], []⟩]), (17, [⟨0, false, [], []⟩, ⟨1, false, [], []⟩, ⟨2, false, [], []⟩, ⟨3, false, [], []⟩, ⟨4, false, [], []⟩, ⟨5, false, [], []⟩, ⟨6, false, [], []⟩, ⟨7, false, [], []⟩, ⟨8, false, [], []⟩, ⟨10, false, [], []⟩, ⟨11, false, [], []⟩, ⟨12, false, [], []⟩, ⟨9, false, [], []⟩, ⟨13, false, [], []⟩, ⟨14, false, [], []⟩, ⟨15, false, [], []⟩, ⟨16, false, [], []⟩, ⟨17, false, [], []⟩]), (22, [⟨0, false, [], []⟩, ⟨1, false, [], []⟩, ⟨2, false, [], []⟩, ⟨4, false, [], []⟩, ⟨5, false, [], []⟩, ⟨6, false, [], []⟩, ⟨7, false, [], []⟩, ⟨3, false, [], []⟩, ⟨8, false, [], []⟩, ⟨9, false, [], []⟩, ⟨10, false, [], []⟩]), (23, [⟨0, false, [], []⟩, ⟨1, false, [], []⟩, ⟨2, false, [], []⟩, ⟨3, false, [], []⟩, ⟨4, false, [], []⟩, ⟨5, false, [], []⟩, ⟨6, false, [], []⟩, ⟨7, false, [], []⟩, ⟨8, false, [], []⟩, ⟨10, false, [], []⟩, ⟨11, false, [], []⟩, ⟨12, false, [], []⟩, ⟨9, false, [], []⟩, ⟨13, false, [], []⟩, ⟨14, false, [], []⟩, ⟨15, false, [], []⟩, ⟨16, false, [], []⟩, ⟨17, false, [], []⟩])], keep := [] }
@[simp] noncomputable def r0 (_ : Unit) : List Stp := [S 6 (.mv (.c (.bool false)))]
@[simp] noncomputable def r1 (_ : Unit) : List Stp := [S 11 (.mv (.t 1)), S 12 (.bin .add (.t 11) (.c (.int .i64 1))), S 7 (.mv (.t 12))]
@[simp] noncomputable def r2 (_ : Unit) : List Stp := [S 8 (.mv (.c (.int .i64 0)))]
@[simp] noncomputable def r3 (_ : Unit) : List Stp := [S 13 (.mv (.t 8)), S 14 (.bin .lss (.t 13) (.c (.int .i64 5)))]
@[simp] noncomputable def r5 (_ : Unit) : List Stp := [S 17 (.mv (.t 7)), S 18 (.mv (.t 2)), S 19 (.bin .lss (.t 17) (.t 18)), S 20 (.mv (.t 19)), SG 21 20 true (.mv (.t 0)), SG 22 20 true (.mv (.t 7)), SG 23 20 true (.ixS 1 (.t 21) (.t 22)), SG 25 20 true (.mv (.t 0)), SG 26 20 true (.mv (.t 7)), SG 27 20 true (.bin .sub (.t 26) (.c (.int .i64 1))), SG 28 20 true (.ixS 1 (.t 25) (.t 27)), SG 24 20 true (.load false 1 (.t 23)), SG 29 20 true (.load false 1 (.t 28)), SGP 30 20 true (.call (.c (.func (.func fn_cmp_Less_int) [] [])) [(.t 24), (.t 29)]), SG 31 20 true (.un .not (.t 30)), S 32 (.pick (.t 20) (.t 31) (.c (.bool false)))]
@[simp] noncomputable def r6 (_ : Unit) : List Stp := [S 33 (.mv (.t 7)), S 34 (.bin .add (.t 33) (.c (.int .i64 1))), S 7 (.mv (.t 34))]
@[simp] noncomputable def r7 (_ : Unit) : List Stp := [S 35 (.mv (.t 7)), S 36 (.mv (.t 2)), S 37 (.bin .eql (.t 35) (.t 36))]
@[simp] noncomputable def r8 (_ : Unit) : List Stp := [S 6 (.mv (.c (.bool true)))]
@[simp] noncomputable def r9 (_ : Unit) : List Stp := [S 38 (.mv (.t 2)), S 39 (.mv (.t 1)), S 40 (.bin .sub (.t 38) (.t 39)), S 41 (.bin .lss (.t 40) (.c (.int .i64 50)))]
@[simp] noncomputable def r10 (_ : Unit) : List Stp := [S 6 (.mv (.c (.bool false)))]
@[simp] noncomputable def r11 (_ : Unit) : List Stp := [S 42 (.mv (.t 0)), S 43 (.mv (.t 7)), S 44 (.mv (.t 0)), S 45 (.mv (.t 7)), S 46 (.bin .sub (.t 45) (.c (.int .i64 1))), S 47 (.mv (.t 0)), S 48 (.mv (.t 7)), S 49 (.bin .sub (.t 48) (.c (.int .i64 1))), S 50 (.ixS 1 (.t 47) (.t 49)), S 52 (.mv (.t 0)), S 53 (.mv (.t 7)), S 54 (.ixS 1 (.t 52) (.t 53)), S 51 (.load false 1 (.t 50)), S 55 (.load false 1 (.t 54)), S 56 (.ixS 1 (.t 42) (.t 43)), SN (.store 1 (.t 56) (.t 51)), S 57 (.ixS 1 (.t 44) (.t 46)), SN (.store 1 (.t 57) (.t 55))]
@[simp] noncomputable def r12 (_ : Unit) : List Stp := [S 58 (.mv (.t 7)), S 59 (.mv (.t 1)), S 60 (.bin .sub (.t 58) (.t 59)), S 61 (.bin .geq (.t 60) (.c (.int .i64 2)))]
@[simp] noncomputable def r13 (_ : Unit) : List Stp := [S 62 (.mv (.t 7)), S 63 (.bin .sub (.t 62) (.c (.int .i64 1))), S 9 (.mv (.t 63))]
@[simp] noncomputable def r14 (_ : Unit) : List Stp := [S 64 (.mv (.t 9)), S 65 (.bin .geq (.t 64) (.c (.int .i64 1)))]
@[simp] noncomputable def r16 (_ : Unit) : List Stp := [S 68 (.mv (.t 0)), S 69 (.mv (.t 9)), S 70 (.ixS 1 (.t 68) (.t 69)), S 72 (.mv (.t 0)), S 73 (.mv (.t 9)), S 74 (.bin .sub (.t 73) (.c (.int .i64 1))), S 75 (.ixS 1 (.t 72) (.t 74)), S 71 (.load false 1 (.t 70)), S 76 (.load false 1 (.t 75)), SP 77 (.call (.c (.func (.func fn_cmp_Less_int) [] [])) [(.t 71), (.t 76)]), S 78 (.un .not (.t 77))]
@[simp] noncomputable def r17 (_ : Unit) : List Stp := [S 79 (.mv (.t 0)), S 80 (.mv (.t 9)), S 81 (.mv (.t 0)), S 82 (.mv (.t 9)), S 83 (.bin .sub (.t 82) (.c (.int .i64 1))), S 84 (.mv (.t 0)), S 85 (.mv (.t 9)), S 86 (.bin .sub (.t 85) (.c (.int .i64 1))), S 87 (.ixS 1 (.t 84) (.t 86)), S 89 (.mv (.t 0)), S 90 (.mv (.t 9)), S 91 (.ixS 1 (.t 89) (.t 90)), S 88 (.load false 1 (.t 87)), S 92 (.load false 1 (.t 91)), S 93 (.ixS 1 (.t 79) (.t 80)), SN (.store 1 (.t 93) (.t 88)), S 94 (.ixS 1 (.t 81) (.t 83)), SN (.store 1 (.t 94) (.t 92))]
@[simp] noncomputable def r15 (_ : Unit) : List Stp := [S 66 (.mv (.t 9)), S 67 (.bin .sub (.t 66) (.c (.int .i64 1))), S 9 (.mv (.t 67))]
@[simp] noncomputable def r18 (_ : Unit) : List Stp := [S 95 (.mv (.t 2)), S 96 (.mv (.t 7)), S 97 (.bin .sub (.t 95) (.t 96)), S 98 (.bin .geq (.t 97) (.c (.int .i64 2)))]
@[simp] noncomputable def r19 (_ : Unit) : List Stp := [S 99 (.mv (.t 7)), S 100 (.bin .add (.t 99) (.c (.int .i64 1))), S 10 (.mv (.t 100))]
@[simp] noncomputable def r20 (_ : Unit) : List Stp := [S 101 (.mv (.t 10)), S 102 (.mv (.t 2)), S 103 (.bin .lss (.t 101) (.t 102))]
@[simp] noncomputable def r22 (_ : Unit) : List Stp := [S 106 (.mv (.t 0)), S 107 (.mv (.t 10)), S 108 (.ixS 1 (.t 106) (.t 107)), S 110 (.mv (.t 0)), S 111 (.mv (.t 10)), S 112 (.bin .sub (.t 111) (.c (.int .i64 1))), S 113 (.ixS 1 (.t 110) (.t 112)), S 109 (.load false 1 (.t 108)), S 114 (.load false 1 (.t 113)), SP 115 (.call (.c (.func (.func fn_cmp_Less_int) [] [])) [(.t 109), (.t 114)]), S 116 (.un .not (.t 115))]
@[simp] noncomputable def r23 (_ : Unit) : List Stp := [S 117 (.mv (.t 0)), S 118 (.mv (.t 10)), S 119 (.mv (.t 0)), S 120 (.mv (.t 10)), S 121 (.bin .sub (.t 120) (.c (.int .i64 1))), S 122 (.mv (.t 0)), S 123 (.mv (.t 10)), S 124 (.bin .sub (.t 123) (.c (.int .i64 1))), S 125 (.ixS 1 (.t 122) (.t 124)), S 127 (.mv (.t 0)), S 128 (.mv (.t 10)), S 129 (.ixS 1 (.t 127) (.t 128)), S 126 (.load false 1 (.t 125)), S 130 (.load false 1 (.t 129)), S 131 (.ixS 1 (.t 117) (.t 118)), SN (.store 1 (.t 131) (.t 126)), S 132 (.ixS 1 (.t 119) (.t 121)), SN (.store 1 (.t 132) (.t 130))]
@[simp] noncomputable def r21 (_ : Unit) : List Stp := [S 104 (.mv (.t 10)), S 105 (.bin .add (.t 104) (.c (.int .i64 1))), S 10 (.mv (.t 105))]
@[simp] noncomputable def r4 (_ : Unit) : List Stp := [S 15 (.mv (.t 8)), S 16 (.bin .add (.t 15) (.c (.int .i64 1))), S 8 (.mv (.t 16))]
@[simp] noncomputable def r24 (_ : Unit) : List Stp := [S 6 (.mv (.c (.bool false)))]
@[simp] noncomputable def ir : IR := (.seq (.ops r0) (.seq (.ops r1) (.seq (.seq (.ops r2) (.block 0 (.loop (.seq (.seq (.ops r3) (.cond (.t 14) .skip (.exit 0))) (.seq (.block 1 (.seq (.block 2 (.loop (.seq (.seq (.ops r5) (.cond (.t 32) .skip (.exit 2))) (.block 3 (.ops r6))))) (.seq (.seq (.ops r7) (.cond (.t 37) (.seq (.ops r8) .ret) .skip)) (.seq (.seq (.ops r9) (.cond (.t 41) (.seq (.ops r10) .ret) .skip)) (.seq (.ops r11) (.seq (.seq (.ops r12) (.cond (.t 61) (.seq (.ops r13) (.block 4 (.loop (.seq (.seq (.ops r14) (.cond (.t 65) .skip (.exit 4))) (.seq (.block 5 (.seq (.seq (.ops r16) (.cond (.t 78) (.exit 4) .skip)) (.ops r17))) (.ops r15)))))) .skip)) (.seq (.ops r18) (.cond (.t 98) (.seq (.ops r19) (.block 6 (.loop (.seq (.seq (.ops r20) (.cond (.t 103) .skip (.exit 6))) (.seq (.block 7 (.seq (.seq (.ops r22) (.cond (.t 116) (.exit 6) .skip)) (.ops r23))) (.ops r21)))))) .skip)))))))) (.ops r4)))))) (.seq (.ops r24) .ret))))
@[simp] noncomputable def rs : List RV := [.tmp 6]
theorem comp : compF Pg cfg Try.f101 = some (ir, rs, 133) := by kernel_rfl
theorem enter {args : List AVal} {h : Heap} {K : AEnd → Heap → Prop} (F : Nat) (hl : args.length ≤ 133) (a : AW ⟨Pg, F, 133, false, []⟩ ir (RetK rs K) (initT args) [] h) : ACalls Pg fn_slices_partialInsertionSortOrdered_int args h K :=
  ACalls.of_comp follows Try.func101 comp hl a
theorem pure {args : List AVal} {v : AVal} (hl : args.length ≤ 133) (a : AW ⟨Pg, 0, 133, false, []⟩ ir (RetK rs fun e _ => e = .ret v) (initT args) [] nilH) : APure Pg fn_slices_partialInsertionSortOrdered_int args v :=
  APure.of_nil (enter 0 hl a)
end slices_partialInsertionSortOrdered_int

namespace slices_partitionEqualOrdered_int
noncomputable def cfg : Cfg := { pure := pures, pcs := [], raw := [], cuts := [], draws := [(1, [⟨0, false, [], []⟩, ⟨1, false, [], []⟩, ⟨2, false, [], []⟩, ⟨3, false, [], []⟩, ⟨4, false, [], []⟩, ⟨5, false, [], []⟩, ⟨6, false, [], []⟩, ⟨8, false, [], []⟩, ⟨9, false, [], []⟩, ⟨10, false, [], []⟩, ⟨7, false, [], []⟩, ⟨11, false, [], []⟩, ⟨12, false, [], []⟩, ⟨13, false, [], []⟩, ⟨14, false, [], []⟩, ⟨15, false, [], []⟩]), (3, [⟨0, false, [], []⟩, ⟨1, false, [], []⟩, ⟨2, false, [], []⟩, ⟨3, false, [], []⟩, ⟨4, false, [], []⟩, ⟨5, false, [], []⟩, ⟨6, false, [], []⟩, ⟨8, false, [], []⟩, ⟨9, false, [], []⟩, ⟨10, false, [], []⟩, ⟨7, false, [], []⟩, ⟨11, false, [], []⟩, ⟨12, false, [], []⟩, ⟨13, false, [], []⟩, ⟨14, false, [], []⟩]), (5, [⟨0, false, [], []⟩, ⟨1, false, [], []⟩, ⟨2, false, [], []⟩, ⟨3, false, [], []⟩, ⟨4, false, [], []⟩, ⟨5, false, [], []⟩, ⟨6, false, [], []⟩, ⟨8, false, [], []⟩, ⟨9, false, [], []⟩, ⟨10, false, [], []⟩, ⟨7, false, [], []⟩, ⟨11, false, [], []⟩, ⟨12, false, [], []⟩, ⟨13, false, [], []⟩]), (8, [⟨0, false, [], []⟩, ⟨1, false, [], []⟩, ⟨2, false, [], []⟩, ⟨3, false, [], []⟩, ⟨4, false, [], []⟩, ⟨5, false, [], []⟩, ⟨6, false, [], []⟩, ⟨8, false, [], []⟩, ⟨9, false, [], []⟩, ⟨10, false, [], []⟩, ⟨7, false, [], []⟩, ⟨11, false, [], []⟩, ⟨12, false, [], []⟩, ⟨13, false, [], []⟩, ⟨14, false, [], []⟩, ⟨15, false, [], []⟩])], keep := [] }
@[simp] noncomputable def r0 (_ : Unit) : List Stp := [S 8 (.mv (.c (.int .i64 0)))]
@[simp] noncomputable def r1 (_ : Unit) : List Stp := [S 11 (.mv (.t 0)), S 12 (.mv (.t 1)), S 13 (.mv (.t 0)), S 14 (.mv (.t 3)), S 15 (.mv (.t 0)), S 16 (.mv (.t 3)), S 17 (.ixS 1 (.t 15) (.t 16)), S 19 (.mv (.t 0)), S 20 (.mv (.t 1)), S 21 (.ixS 1 (.t 19) (.t 20)), S 18 (.load false 1 (.t 17)), S 22 (.load false 1 (.t 21)), S 23 (.ixS 1 (.t 11) (.t 12)), SN (.store 1 (.t 23) (.t 18)), S 24 (.ixS 1 (.t 13) (.t 14)), SN (.store 1 (.t 24) (.t 22))]
@[simp] noncomputable def r2 (_ : Unit) : List Stp := [S 25 (.mv (.t 1)), S 26 (.bin .add (.t 25) (.c (.int .i64 1))), S 27 (.mv (.t 2)), S 28 (.bin .sub (.t 27) (.c (.int .i64 1))), S 9 (.mv (.t 26)), S 10 (.mv (.t 28))]
@[simp] noncomputable def r3 (_ : Unit) : List Stp := [S 29 (.mv (.t 9)), S 30 (.mv (.t 10)), S 31 (.bin .leq (.t 29) (.t 30)), S 32 (.mv (.t 31)), SG 33 32 true (.mv (.t 0)), SG 34 32 true (.mv (.t 1)), SG 35 32 true (.ixS 1 (.t 33) (.t 34)), SG 37 32 true (.mv (.t 0)), SG 38 32 true (.mv (.t 9)), SG 39 32 true (.ixS 1 (.t 37) (.t 38)), SG 36 32 true (.load false 1 (.t 35)), SG 40 32 true (.load false 1 (.t 39)), SGP 41 32 true (.call (.c (.func (.func fn_cmp_Less_int) [] [])) [(.t 36), (.t 40)]), SG 42 32 true (.un .not (.t 41)), S 43 (.pick (.t 32) (.t 42) (.c (.bool false)))]
@[simp] noncomputable def r4 (_ : Unit) : List Stp := [S 44 (.mv (.t 9)), S 45 (.bin .add (.t 44) (.c (.int .i64 1))), S 9 (.mv (.t 45))]
@[simp] noncomputable def r5 (_ : Unit) : List Stp := [S 46 (.mv (.t 9)), S 47 (.mv (.t 10)), S 48 (.bin .leq (.t 46) (.t 47)), S 49 (.mv (.t 48)), SG 50 49 true (.mv (.t 0)), SG 51 49 true (.mv (.t 1)), SG 52 49 true (.ixS 1 (.t 50) (.t 51)), SG 54 49 true (.mv (.t 0)), SG 55 49 true (.mv (.t 10)), SG 56 49 true (.ixS 1 (.t 54) (.t 55)), SG 53 49 true (.load false 1 (.t 52)), SG 57 49 true (.load false 1 (.t 56)), SGP 58 49 true (.call (.c (.func (.func fn_cmp_Less_int) [] [])) [(.t 53), (.t 57)]), S 59 (.pick (.t 49) (.t 58) (.c (.bool false)))]
@[simp] noncomputable def r6 (_ : Unit) : List Stp := [S 60 (.mv (.t 10)), S 61 (.bin .sub (.t 60) (.c (.int .i64 1))), S 10 (.mv (.t 61))]
@[simp] noncomputable def r7 (_ : Unit) : List Stp := [S 62 (.mv (.t 9)), S 63 (.mv (.t 10)), S 64 (.bin .gtr (.t 62) (.t 63))]
@[simp] noncomputable def r8 (_ : Unit) : List Stp := [S 65 (.mv (.t 0)), S 66 (.mv (.t 9)), S 67 (.mv (.t 0)), S 68 (.mv (.t 10)), S 69 (.mv (.t 0)), S 70 (.mv (.t 10)), S 71 (.ixS 1 (.t 69) (.t 70)), S 73 (.mv (.t 0)), S 74 (.mv (.t 9)), S 75 (.ixS 1 (.t 73) (.t 74)), S 72 (.load false 1 (.t 71)), S 76 (.load false 1 (.t 75)), S 77 (.ixS 1 (.t 65) (.t 66)), SN (.store 1 (.t 77) (.t 72)), S 78 (.ixS 1 (.t 67) (.t 68)), SN (.store 1 (.t 78) (.t 76))]
@[simp] noncomputable def r9 (_ : Unit) : List Stp := [S 79 (.mv (.t 9)), S 80 (.bin .add (.t 79) (.c (.int .i64 1))), S 9 (.mv (.t 80))]
@[simp] noncomputable def r10 (_ : Unit) : List Stp := [S 81 (.mv (.t 10)), S 82 (.bin .sub (.t 81) (.c (.int .i64 1))), S 10 (.mv (.t 82))]
@[simp] noncomputable def r11 (_ : Unit) : List Stp := [S 83 (.mv (.t 9)), S 8 (.mv (.t 83))]
@[simp] noncomputable def ir : IR := (.seq (.ops r0) (.seq (.ops r1) (.seq (.ops r2) (.seq (.block 0 (.loop (.block 1 (.seq (.block 2 (.loop (.seq (.seq (.ops r3) (.cond (.t 43) .skip (.exit 2))) (.block 3 (.ops r4))))) (.seq (.block 4 (.loop (.seq (.seq (.ops r5) (.cond (.t 59) .skip (.exit 4))) (.block 5 (.ops r6))))) (.seq (.seq (.ops r7) (.cond (.t 64) (.exit 0) .skip)) (.seq (.ops r8) (.seq (.ops r9) (.ops r10))))))))) (.seq (.ops r11) .ret)))))
@[simp] noncomputable def rs : List RV := [.tmp 8]
theorem comp : compF Pg cfg Try.f102 = some (ir, rs, 84) := by kernel_rfl
theorem enter {args : List AVal} {h : Heap} {K : AEnd → Heap → Prop} (F : Nat) (hl : args.length ≤ 84) (a : AW ⟨Pg, F, 84, false, []⟩ ir (RetK rs K) (initT args) [] h) : ACalls Pg fn_slices_partitionEqualOrdered_int args h K :=
  ACalls.of_comp follows Try.func102 comp hl a
theorem pure {args : List AVal} {v : AVal} (hl : args.length ≤ 84) (a : AW ⟨Pg, 0, 84, false, []⟩ ir (RetK rs fun e _ => e = .ret v) (initT args) [] nilH) : APure Pg fn_slices_partitionEqualOrdered_int args v :=
  APure.of_nil (enter 0 hl a)
end slices_partitionEqualOrdered_int

namespace slices_partitionOrdered_int
noncomputable def cfg : Cfg := { pure := pures, pcs := [], raw := [], cuts := [], draws := [(1, [⟨0, false, [], []⟩, ⟨1, false, [], []⟩, ⟨2, false, [], []⟩, ⟨3, false, [], []⟩, ⟨4, false, [], []⟩, ⟨5, false, [], []⟩, ⟨6, false, [], []⟩, ⟨8, false, [], []⟩, ⟨9, false, [], []⟩, ⟨10, false, [], []⟩, ⟨7, false, [], []⟩, ⟨11, false, [], []⟩, ⟨12, false, [], []⟩, ⟨13, false, [], []⟩, ⟨14, false, [], []⟩, ⟨15, false, [], []⟩]), (3, [⟨0, false, [], []⟩, ⟨1, false, [], []⟩, ⟨2, false, [], []⟩, ⟨3, false, [], []⟩, ⟨4, false, [], []⟩, ⟨5, false, [], []⟩, ⟨6, false, [], []⟩, ⟨8, false, [], []⟩, ⟨9, false, [], []⟩, ⟨10, false, [], []⟩, ⟨7, false, [], []⟩, ⟨11, false, [], []⟩, ⟨12, false, [], []⟩, ⟨13, false, [], []⟩]), (5, [⟨0, false, [], []⟩, ⟨1, false, [], []⟩, ⟨2, false, [], []⟩, ⟨3, false, [], []⟩, ⟨4, false, [], []⟩, ⟨5, false, [], []⟩, ⟨6, false, [], []⟩, ⟨8, false, [], []⟩, ⟨9, false, [], []⟩, ⟨10, false, [], []⟩, ⟨7, false, [], []⟩, ⟨11, false, [], []⟩, ⟨12, false, [], []⟩, ⟨13, false, [], []⟩, ⟨14, false, [], []⟩]), (8, [⟨0, false, [], []⟩, ⟨1, false, [], []⟩, ⟨2, false, [], []⟩, ⟨3, false, [], []⟩, ⟨4, false, [], []⟩, ⟨5, false, [], []⟩, ⟨6, false, [], []⟩, ⟨8, false, [], []⟩, ⟨9, false, [], []⟩, ⟨10, false, [], []⟩, ⟨7, false, [], []⟩, ⟨11, false, [], []⟩, ⟨12, false, [], []⟩, ⟨13, false, [], []⟩, ⟨14, false, [], []⟩, ⟨15, false, [], []⟩]), (10, [⟨0, false, [], []⟩, ⟨1, false, [], []⟩, ⟨2, false, [], []⟩, ⟨3, false, [], []⟩, ⟨4, false, [], []⟩, ⟨5, false, [], []⟩, ⟨6, false, [], []⟩, ⟨8, false, [], []⟩, ⟨9, false, [], []⟩, ⟨10, false, [], []⟩, ⟨7, false, [], []⟩, ⟨11, false, [], []⟩, ⟨12, false, [], []⟩, ⟨13, false, [], []⟩, ⟨14, false, [], []⟩, ⟨15, false, [], []⟩]), (13, [⟨0, false, [], []⟩, ⟨1, false, [], []⟩, ⟨2, false, [], []⟩, ⟨3, false, [], []⟩, ⟨4, false, [], []⟩, ⟨5, false, [], []⟩, ⟨6, false, [], []⟩, ⟨8, false, [], []⟩, ⟨9, false, [], []⟩, ⟨10, false, [], []⟩, ⟨7, false, [], []⟩, ⟨11, false, [], []⟩, ⟨12, false, [], []⟩, ⟨13, false, [], []⟩]), (15, [⟨0, false, [], []⟩, ⟨1, false, [], []⟩, ⟨2, false, [], []⟩, ⟨3, false, [], []⟩, ⟨4, false, [], []⟩, ⟨5, false, [], []⟩, ⟨6, false, [], []⟩, ⟨8, false, [], []⟩, ⟨9, false, [], []⟩, ⟨10, false, [], []⟩, ⟨7, false, [], []⟩, ⟨11, false, [], []⟩, ⟨12, false, [], []⟩, ⟨13, false, [], []⟩, ⟨14, false, [], []⟩]), (18, [⟨0, false, [], []⟩, ⟨1, false, [], []⟩, ⟨2, false, [], []⟩, ⟨3, false, [], []⟩, ⟨4, false, [], []⟩, ⟨5, false, [], []⟩, ⟨6, false, [], []⟩, ⟨8, false, [], []⟩, ⟨9, false, [], []⟩, ⟨10, false, [], []⟩, ⟨7, false, [], []⟩, ⟨11, false, [], []⟩, ⟨12, false, [], []⟩, ⟨13, false, [], []⟩, ⟨14, false, [], []⟩, ⟨15, false, [], []⟩]), (21, [⟨0, false, [], []⟩, ⟨1, false, [], []⟩, ⟨2, false, [], []⟩, ⟨3, false, [], []⟩, ⟨4, false, [], []⟩, ⟨5, false, [], []⟩, ⟨6, false, [], []⟩, ⟨8, false, [], []⟩, ⟨9, false, [], []⟩, ⟨10, false, [], []⟩, ⟨7, false, [], []⟩, ⟨11, false, [], []⟩, ⟨12, false, [], []⟩, ⟨13, false, [], []⟩, ⟨14, false, [], []⟩, ⟨15, false, [], []⟩])], keep := [] }
@[simp] noncomputable def r0 (_ : Unit) : List Stp := [S 8 (.mv (.c (.int .i64 0))), S 9 (.mv (.c (.bool false)))]
@[simp] noncomputable def r1 (_ : Unit) : List Stp := [S 12 (.mv (.t 0)), S 13 (.mv (.t 1)), S 14 (.mv (.t 0)), S 15 (.mv (.t 3)), S 16 (.mv (.t 0)), S 17 (.mv (.t 3)), S 18 (.ixS 1 (.t 16) (.t 17)), S 20 (.mv (.t 0)), S 21 (.mv (.t 1)), S 22 (.ixS 1 (.t 20) (.t 21)), S 19 (.load false 1 (.t 18)), S 23 (.load false 1 (.t 22)), S 24 (.ixS 1 (.t 12) (.t 13)), SN (.store 1 (.t 24) (.t 19)), S 25 (.ixS 1 (.t 14) (.t 15)), SN (.store 1 (.t 25) (.t 23))]
@[simp] noncomputable def r2 (_ : Unit) : List Stp := [S 26 (.mv (.t 1)), S 27 (.bin .add (.t 26) (.c (.int .i64 1))), S 28 (.mv (.t 2)), S 29 (.bin .sub (.t 28) (.c (.int .i64 1))), S 10 (.mv (.t 27)), S 11 (.mv (.t 29))]
@[simp] noncomputable def r3 (_ : Unit) : List Stp := [S 30 (.mv (.t 10)), S 31 (.mv (.t 11)), S 32 (.bin .leq (.t 30) (.t 31)), S 33 (.mv (.t 32)), SG 34 33 true (.mv (.t 0)), SG 35 33 true (.mv (.t 10)), SG 36 33 true (.ixS 1 (.t 34) (.t 35)), SG 38 33 true (.mv (.t 0)), SG 39 33 true (.mv (.t 1)), SG 40 33 true (.ixS 1 (.t 38) (.t 39)), SG 37 33 true (.load false 1 (.t 36)), SG 41 33 true (.load false 1 (.t 40)), SGP 42 33 true (.call (.c (.func (.func fn_cmp_Less_int) [] [])) [(.t 37), (.t 41)]), S 43 (.pick (.t 33) (.t 42) (.c (.bool false)))]
@[simp] noncomputable def r4 (_ : Unit) : List Stp := [S 44 (.mv (.t 10)), S 45 (.bin .add (.t 44) (.c (.int .i64 1))), S 10 (.mv (.t 45))]
@[simp] noncomputable def r5 (_ : Unit) : List Stp := [S 46 (.mv (.t 10)), S 47 (.mv (.t 11)), S 48 (.bin .leq (.t 46) (.t 47)), S 49 (.mv (.t 48)), SG 50 49 true (.mv (.t 0)), SG 51 49 true (.mv (.t 11)), SG 52 49 true (.ixS 1 (.t 50) (.t 51)), SG 54 49 true (.mv (.t 0)), SG 55 49 true (.mv (.t 1)), SG 56 49 true (.ixS 1 (.t 54) (.t 55)), SG 53 49 true (.load false 1 (.t 52)), SG 57 49 true (.load false 1 (.t 56)), SGP 58 49 true (.call (.c (.func (.func fn_cmp_Less_int) [] [])) [(.t 53), (.t 57)]), SG 59 49 true (.un .not (.t 58)), S 60 (.pick (.t 49) (.t 59) (.c (.bool false)))]
@[simp] noncomputable def r6 (_ : Unit) : List Stp := [S 61 (.mv (.t 11)), S 62 (.bin .sub (.t 61) (.c (.int .i64 1))), S 11 (.mv (.t 62))]
@[simp] noncomputable def r7 (_ : Unit) : List Stp := [S 63 (.mv (.t 10)), S 64 (.mv (.t 11)), S 65 (.bin .gtr (.t 63) (.t 64))]
@[simp] noncomputable def r8 (_ : Unit) : List Stp := [S 66 (.mv (.t 0)), S 67 (.mv (.t 11)), S 68 (.mv (.t 0)), S 69 (.mv (.t 1)), S 70 (.mv (.t 0)), S 71 (.mv (.t 1)), S 72 (.ixS 1 (.t 70) (.t 71)), S 74 (.mv (.t 0)), S 75 (.mv (.t 11)), S 76 (.ixS 1 (.t 74) (.t 75)), S 73 (.load false 1 (.t 72)), S 77 (.load false 1 (.t 76)), S 78 (.ixS 1 (.t 66) (.t 67)), SN (.store 1 (.t 78) (.t 73)), S 79 (.ixS 1 (.t 68) (.t 69)), SN (.store 1 (.t 79) (.t 77))]
@[simp] noncomputable def r9 (_ : Unit) : List Stp := [S 80 (.mv (.t 11)), S 8 (.mv (.t 80)), S 9 (.mv (.c (.bool true)))]
@[simp] noncomputable def r10 (_ : Unit) : List Stp := [S 81 (.mv (.t 0)), S 82 (.mv (.t 10)), S 83 (.mv (.t 0)), S 84 (.mv (.t 11)), S 85 (.mv (.t 0)), S 86 (.mv (.t 11)), S 87 (.ixS 1 (.t 85) (.t 86)), S 89 (.mv (.t 0)), S 90 (.mv (.t 10)), S 91 (.ixS 1 (.t 89) (.t 90)), S 88 (.load false 1 (.t 87)), S 92 (.load false 1 (.t 91)), S 93 (.ixS 1 (.t 81) (.t 82)), SN (.store 1 (.t 93) (.t 88)), S 94 (.ixS 1 (.t 83) (.t 84)), SN (.store 1 (.t 94) (.t 92))]
@[simp] noncomputable def r11 (_ : Unit) : List Stp := [S 95 (.mv (.t 10)), S 96 (.bin .add (.t 95) (.c (.int .i64 1))), S 10 (.mv (.t 96))]
@[simp] noncomputable def r12 (_ : Unit) : List Stp := [S 97 (.mv (.t 11)), S 98 (.bin .sub (.t 97) (.c (.int .i64 1))), S 11 (.mv (.t 98))]
@[simp] noncomputable def r13 (_ : Unit) : List Stp := [S 99 (.mv (.t 10)), S 100 (.mv (.t 11)), S 101 (.bin .leq (.t 99) (.t 100)), S 102 (.mv (.t 101)), SG 103 102 true (.mv (.t 0)), SG 104 102 true (.mv (.t 10)), SG 105 102 true (.ixS 1 (.t 103) (.t 104)), SG 107 102 true (.mv (.t 0)), SG 108 102 true (.mv (.t 1)), SG 109 102 true (.ixS 1 (.t 107) (.t 108)), SG 106 102 true (.load false 1 (.t 105)), SG 110 102 true (.load false 1 (.t 109)), SGP 111 102 true (.call (.c (.func (.func fn_cmp_Less_int) [] [])) [(.t 106), (.t 110)]), S 112 (.pick (.t 102) (.t 111) (.c (.bool false)))]
@[simp] noncomputable def r14 (_ : Unit) : List Stp := [S 113 (.mv (.t 10)), S 114 (.bin .add (.t 113) (.c (.int .i64 1))), S 10 (.mv (.t 114))]
@[simp] noncomputable def r15 (_ : Unit) : List Stp := [S 115 (.mv (.t 10)), S 116 (.mv (.t 11)), S 117 (.bin .leq (.t 115) (.t 116)), S 118 (.mv (.t 117)), SG 119 118 true (.mv (.t 0)), SG 120 118 true (.mv (.t 11)), SG 121 118 true (.ixS 1 (.t 119) (.t 120)), SG 123 118 true (.mv (.t 0)), SG 124 118 true (.mv (.t 1)), SG 125 118 true (.ixS 1 (.t 123) (.t 124)), SG 122 118 true (.load false 1 (.t 121)), SG 126 118 true (.load false 1 (.t 125)), SGP 127 118 true (.call (.c (.func (.func fn_cmp_Less_int) [] [])) [(.t 122), (.t 126)]), SG 128 118 true (.un .not (.t 127)), S 129 (.pick (.t 118) (.t 128) (.c (.bool false)))]
@[simp] noncomputable def r16 (_ : Unit) : List Stp := [S 130 (.mv (.t 11)), S 131 (.bin .sub (.t 130) (.c (.int .i64 1))), S 11 (.mv (.t 131))]
@[simp] noncomputable def r17 (_ : Unit) : List Stp := [S 132 (.mv (.t 10)), S 133 (.mv (.t 11)), S 134 (.bin .gtr (.t 132) (.t 133))]
@[simp] noncomputable def r18 (_ : Unit) : List Stp := [S 135 (.mv (.t 0)), S 136 (.mv (.t 10)), S 137 (.mv (.t 0)), S 138 (.mv (.t 11)), S 139 (.mv (.t 0)), S 140 (.mv (.t 11)), S 141 (.ixS 1 (.t 139) (.t 140)), S 143 (.mv (.t 0)), S 144 (.mv (.t 10)), S 145 (.ixS 1 (.t 143) (.t 144)), S 142 (.load false 1 (.t 141)), S 146 (.load false 1 (.t 145)), S 147 (.ixS 1 (.t 135) (.t 136)), SN (.store 1 (.t 147) (.t 142)), S 148 (.ixS 1 (.t 137) (.t 138)), SN (.store 1 (.t 148) (.t 146))]
@[simp] noncomputable def r19 (_ : Unit) : List Stp := [S 149 (.mv (.t 10)), S 150 (.bin .add (.t 149) (.c (.int .i64 1))), S 10 (.mv (.t 150))]
@[simp] noncomputable def r20 (_ : Unit) : List Stp := [S 151 (.mv (.t 11)), S 152 (.bin .sub (.t 151) (.c (.int .i64 1))), S 11 (.mv (.t 152))]
@[simp] noncomputable def r21 (_ : Unit) : List Stp := [S 153 (.mv (.t 0)), S 154 (.mv (.t 11)), S 155 (.mv (.t 0)), S 156 (.mv (.t 1)), S 157 (.mv (.t 0)), S 158 (.mv (.t 1)), S 159 (.ixS 1 (.t 157) (.t 158)), S 161 (.mv (.t 0)), S 162 (.mv (.t 11)), S 163 (.ixS 1 (.t 161) (.t 162)), S 160 (.load false 1 (.t 159)), S 164 (.load false 1 (.t 163)), S 165 (.ixS 1 (.t 153) (.t 154)), SN (.store 1 (.t 165) (.t 160)), S 166 (.ixS 1 (.t 155) (.t 156)), SN (.store 1 (.t 166) (.t 164))]
@[simp] noncomputable def r22 (_ : Unit) : List Stp := [S 167 (.mv (.t 11)), S 8 (.mv (.t 167)), S 9 (.mv (.c (.bool false)))]
@[simp] noncomputable def ir : IR := (.seq (.ops r0) (.seq (.ops r1) (.seq (.ops r2) (.seq (.block 0 (.loop (.seq (.seq (.ops r3) (.cond (.t 43) .skip (.exit 0))) (.block 1 (.ops r4))))) (.seq (.block 2 (.loop (.seq (.seq (.ops r5) (.cond (.t 60) .skip (.exit 2))) (.block 3 (.ops r6))))) (.seq (.seq (.ops r7) (.cond (.t 65) (.seq (.ops r8) (.seq (.ops r9) .ret)) .skip)) (.seq (.ops r10) (.seq (.ops r11) (.seq (.ops r12) (.seq (.block 4 (.loop (.block 5 (.seq (.block 6 (.loop (.seq (.seq (.ops r13) (.cond (.t 112) .skip (.exit 6))) (.block 7 (.ops r14))))) (.seq (.block 8 (.loop (.seq (.seq (.ops r15) (.cond (.t 129) .skip (.exit 8))) (.block 9 (.ops r16))))) (.seq (.seq (.ops r17) (.cond (.t 134) (.exit 4) .skip)) (.seq (.ops r18) (.seq (.ops r19) (.ops r20))))))))) (.seq (.ops r21) (.seq (.ops r22) .ret))))))))))))
@[simp] noncomputable def rs : List RV := [.tmp 8, .tmp 9]
theorem comp : compF Pg cfg Try.f103 = some (ir, rs, 168) := by kernel_rfl
theorem enter {args : List AVal} {h : Heap} {K : AEnd → Heap → Prop} (F : Nat) (hl : args.length ≤ 168) (a : AW ⟨Pg, F, 168, false, []⟩ ir (RetK rs K) (initT args) [] h) : ACalls Pg fn_slices_partitionOrdered_int args h K :=
  ACalls.of_comp follows Try.func103 comp hl a
theorem pure {args : List AVal} {v : AVal} (hl : args.length ≤ 168) (a : AW ⟨Pg, 0, 168, false, []⟩ ir (RetK rs fun e _ => e = .ret v) (initT args) [] nilH) : APure Pg fn_slices_partitionOrdered_int args v :=
  APure.of_nil (enter 0 hl a)
end slices_partitionOrdered_int

namespace math_bits_Len32
noncomputable def cfg : Cfg := { pure := pures, pcs := [], raw := [], cuts := [], draws := [], keep := [] }
@[simp] noncomputable def r0 (_ : Unit) : List Stp := [S 2 (.mv (.c (.int .i64 0)))]
@[simp] noncomputable def r1 (_ : Unit) : List Stp := [S 3 (.mv (.t 0)), S 4 (.bin .geq (.t 3) (.c (.int .u32 65536)))]
@[simp] noncomputable def r2 (_ : Unit) : List Stp := [S 5 (.mv (.t 0)), S 6 (.bin .shr (.t 5) (.c (.int .u64 16))), S 0 (.mv (.t 6))]
@[simp] noncomputable def r3 (_ : Unit) : List Stp := [S 2 (.mv (.c (.int .i64 16)))]
@[simp] noncomputable def r4 (_ : Unit) : List Stp := [S 7 (.mv (.t 0)), S 8 (.bin .geq (.t 7) (.c (.int .u32 256)))]
@[simp] noncomputable def r5 (_ : Unit) : List Stp := [S 9 (.mv (.t 0)), S 10 (.bin .shr (.t 9) (.c (.int .u64 8))), S 0 (.mv (.t 10))]
@[simp] noncomputable def r6 (_ : Unit) : List Stp := [S 11 (.mv (.t 2)), S 12 (.bin .add (.t 11) (.c (.int .i64 8))), S 2 (.mv (.t 12))]
@[simp] noncomputable def r7 (_ : Unit) : List Stp := [S 13 (.mv (.t 2)), S 14 (.mv (.t 0)), S 15 (.conv .u8 (.t 14)), S 16 (.ixT (.c (.str [0, 1, 2, 2, 3, 3, 3, 3, 4, 4, 4, 4, 4, 4, 4, 4, 5, 5, 5, 5, 5, 5, 5, 5, 5, 5, 5, 5, 5, 5, 5, 5, 6, 6, 6, 6, 6, 6, 6, 6, 6, 6, 6, 6, 6, 6, 6, 6, 6, 6, 6, 6, 6, 6, 6, 6, 6, 6, 6, 6, 6, 6, 6, 6, 7, 7, 7, 7, 7, 7, 7, 7, 7, 7, 7, 7, 7, 7, 7, 7, 7, 7, 7, 7, 7, 7, 7, 7, 7, 7, 7, 7, 7, 7, 7, 7, 7, 7, 7, 7, 7, 7, 7, 7, 7, 7, 7, 7, 7, 7, 7, 7, 7, 7, 7, 7, 7, 7, 7, 7, 7, 7, 7, 7, 7, 7, 7, 7, 8, 8, 8, 8, 8, 8, 8, 8, 8, 8, 8, 8, 8, 8, 8, 8, 8, 8, 8, 8, 8, 8, 8, 8, 8, 8, 8, 8, 8, 8, 8, 8, 8, 8, 8, 8, 8, 8, 8, 8, 8, 8, 8, 8, 8, 8, 8, 8, 8, 8, 8, 8, 8, 8, 8, 8, 8, 8, 8, 8, 8, 8, 8, 8, 8, 8, 8, 8, 8, 8, 8, 8, 8, 8, 8, 8, 8, 8, 8, 8, 8, 8, 8, 8, 8, 8, 8, 8, 8, 8, 8, 8, 8, 8, 8, 8, 8, 8, 8, 8, 8, 8, 8, 8, 8, 8, 8, 8, 8, 8, 8, 8, 8, 8, 8, 8, 8, 8, 8, 8, 8, 8, 8, 8, 8, 8, 8, 8])) (.t 15)), S 17 (.conv .i64 (.t 16)), S 18 (.bin .add (.t 13) (.t 17)), S 2 (.mv (.t 18))]
@[simp] noncomputable def ir : IR := (.seq (.ops r0) (.seq (.seq (.ops r1) (.cond (.t 4) (.seq (.ops r2) (.ops r3)) .skip)) (.seq (.seq (.ops r4) (.cond (.t 8) (.seq (.ops r5) (.ops r6)) .skip)) (.seq (.ops r7) .ret))))
@[simp] noncomputable def rs : List RV := [.tmp 2]
theorem comp : compF Pg cfg Try.f104 = some (ir, rs, 19) := by kernel_rfl
theorem enter {args : List AVal} {h : Heap} {K : AEnd → Heap → Prop} (F : Nat) (hl : args.length ≤ 19) (a : AW ⟨Pg, F, 19, false, []⟩ ir (RetK rs K) (initT args) [] h) : ACalls Pg fn_math_bits_Len32 args h K :=
  ACalls.of_comp follows Try.func104 comp hl a
theorem pure {args : List AVal} {v : AVal} (hl : args.length ≤ 19) (a : AW ⟨Pg, 0, 19, false, []⟩ ir (RetK rs fun e _ => e = .ret v) (initT args) [] nilH) : APure Pg fn_math_bits_Len32 args v :=
  APure.of_nil (enter 0 hl a)
end math_bits_Len32

namespace math_bits_Len64
noncomputable def cfg : Cfg := { pure := pures, pcs := [], raw := [], cuts := [], draws := [], keep := [] }
@[simp] noncomputable def r0 (_ : Unit) : List Stp := [S 2 (.mv (.c (.int .i64 0)))]
@[simp] noncomputable def r1 (_ : Unit) : List Stp := [S 3 (.mv (.t 0)), S 4 (.bin .geq (.t 3) (.c (.int .u64 4294967296)))]
@[simp] noncomputable def r2 (_ : Unit) : List Stp := [S 5 (.mv (.t 0)), S 6 (.bin .shr (.t 5) (.c (.int .u64 32))), S 0 (.mv (.t 6))]
@[simp] noncomputable def r3 (_ : Unit) : List Stp := [S 2 (.mv (.c (.int .i64 32)))]
@[simp] noncomputable def r4 (_ : Unit) : List Stp := [S 7 (.mv (.t 0)), S 8 (.bin .geq (.t 7) (.c (.int .u64 65536)))]
@[simp] noncomputable def r5 (_ : Unit) : List Stp := [S 9 (.mv (.t 0)), S 10 (.bin .shr (.t 9) (.c (.int .u64 16))), S 0 (.mv (.t 10))]
@[simp] noncomputable def r6 (_ : Unit) : List Stp := [S 11 (.mv (.t 2)), S 12 (.bin .add (.t 11) (.c (.int .i64 16))), S 2 (.mv (.t 12))]
@[simp] noncomputable def r7 (_ : Unit) : List Stp := [S 13 (.mv (.t 0)), S 14 (.bin .geq (.t 13) (.c (.int .u64 256)))]
@[simp] noncomputable def r8 (_ : Unit) : List Stp := [S 15 (.mv (.t 0)), S 16 (.bin .shr (.t 15) (.c (.int .u64 8))), S 0 (.mv (.t 16))]
@[simp] noncomputable def r9 (_ : Unit) : List Stp := [S 17 (.mv (.t 2)), S 18 (.bin .add (.t 17) (.c (.int .i64 8))), S 2 (.mv (.t 18))]
@[simp] noncomputable def r10 (_ : Unit) : List Stp := [S 19 (.mv (.t 2)), S 20 (.mv (.t 0)), S 21 (.conv .u8 (.t 20)), S 22 (.ixT (.c (.str [0, 1, 2, 2, 3, 3, 3, 3, 4, 4, 4, 4, 4, 4, 4, 4, 5, 5, 5, 5, 5, 5, 5, 5, 5, 5, 5, 5, 5, 5, 5, 5, 6, 6, 6, 6, 6, 6, 6, 6, 6, 6, 6, 6, 6, 6, 6, 6, 6, 6, 6, 6, 6, 6, 6, 6, 6, 6, 6, 6, 6, 6, 6, 6, 7, 7, 7, 7, 7, 7, 7, 7, 7, 7, 7, 7, 7, 7, 7, 7, 7, 7, 7, 7, 7, 7, 7, 7, 7, 7, 7, 7, 7, 7, 7, 7, 7, 7, 7, 7, 7, 7, 7, 7, 7, 7, 7, 7, 7, 7, 7, 7, 7, 7, 7, 7, 7, 7, 7, 7, 7, 7, 7, 7, 7, 7, 7, 7, 8, 8, 8, 8, 8, 8, 8, 8, 8, 8, 8, 8, 8, 8, 8, 8, 8, 8, 8, 8, 8, 8, 8, 8, 8, 8, 8, 8, 8, 8, 8, 8, 8, 8, 8, 8, 8, 8, 8, 8, 8, 8, 8, 8, 8, 8, 8, 8, 8, 8, 8, 8, 8, 8, 8, 8, 8, 8, 8, 8, 8, 8, 8, 8, 8, 8, 8, 8, 8, 8, 8, 8, 8, 8, 8, 8, 8, 8, 8, 8, 8, 8, 8, 8, 8, 8, 8, 8, 8, 8, 8, 8, 8, 8, 8, 8, 8, 8, 8, 8, 8, 8, 8, 8, 8, 8, 8, 8, 8, 8, 8, 8, 8, 8, 8, 8, 8, 8, 8, 8, 8, 8, 8, 8, 8, 8, 8, 8])) (.t 21)), S 23 (.conv .i64 (.t 22)), S 24 (.bin .add (.t 19) (.t 23)), S 2 (.mv (.t 24))]
@[simp] noncomputable def ir : IR := (.seq (.ops r0) (.seq (.seq (.ops r1) (.cond (.t 4) (.seq (.ops r2) (.ops r3)) .skip)) (.seq (.seq (.ops r4) (.cond (.t 8) (.seq (.ops r5) (.ops r6)) .skip)) (.seq (.seq (.ops r7) (.cond (.t 14) (.seq (.ops r8) (.ops r9)) .skip)) (.seq (.ops r10) .ret)))))
@[simp] noncomputable def rs : List RV := [.tmp 2]
theorem comp : compF Pg cfg Try.f105 = some (ir, rs, 25) := by kernel_rfl
theorem enter {args : List AVal} {h : Heap} {K : AEnd → Heap → Prop} (F : Nat) (hl : args.length ≤ 25) (a : AW ⟨Pg, F, 25, false, []⟩ ir (RetK rs K) (initT args) [] h) : ACalls Pg fn_math_bits_Len64 args h K :=
  ACalls.of_comp follows Try.func105 comp hl a
theorem pure {args : List AVal} {v : AVal} (hl : args.length ≤ 25) (a : AW ⟨Pg, 0, 25, false, []⟩ ir (RetK rs fun e _ => e = .ret v) (initT args) [] nilH) : APure Pg fn_math_bits_Len64 args v :=
  APure.of_nil (enter 0 hl a)
end math_bits_Len64

namespace slices_siftDownOrdered_int
noncomputable def cfg : Cfg := { pure := pures, pcs := [], raw := [], cuts := [], draws := [(3, [⟨0, false, [], []⟩, ⟨1, false, [], []⟩, ⟨2, false, [], []⟩, ⟨3, false, [], []⟩, ⟨4, false, [], []⟩, ⟨5, false, [], []⟩, ⟨6, false, [], []⟩, ⟨7, false, [], []⟩, ⟨8, false, [], []⟩, ⟨9, false, [], []⟩, ⟨11, false, [], []⟩, ⟨12, false, [], []⟩, ⟨13, false, [], []⟩, ⟨14, false, [], []⟩, ⟨15, false, [], []⟩, ⟨16, false, [], []⟩, ⟨10, false, [], []⟩, ⟨17, false, [], []⟩, ⟨18, false, [], []⟩, ⟨19, false, [], []⟩]), (5, [⟨0, false, [], []⟩, ⟨1, false, [], []⟩, ⟨2, false, [], []⟩, ⟨3, false, [], []⟩, ⟨4, false, [], []⟩, ⟨6, false, [], []⟩, ⟨7, false, [], []⟩, ⟨8, false, [], []⟩, ⟨9, false, [], []⟩, ⟨10, false, [], []⟩, ⟨5, false, [], []⟩, ⟨11, false, [], []⟩, ⟨12, false, [], []⟩, ⟨13, false, [], []⟩]), (6, [⟨0, false, [], []⟩, ⟨1, false, [], []⟩, ⟨2, false, [], []⟩, ⟨3, false, [], []⟩, ⟨4, false, [], []⟩, ⟨5, false, [], []⟩, ⟨6, false, [], []⟩, ⟨7, false, [], []⟩, ⟨8, false, [], []⟩, ⟨9, false, [], []⟩, ⟨10, false, [], []⟩, ⟨11, false, [], []⟩, ⟨12, false, [], []⟩, ⟨14, false, [], []⟩, ⟨15, false, [], []⟩, ⟨16, false, [], []⟩, ⟨17, false, [], []⟩, ⟨18, false, [], []⟩, ⟨13, false, [], []⟩, ⟨19, false, [], []⟩, ⟨20, false, [], []⟩, ⟨21, false, [], []⟩, ⟨22, false, [], []⟩, ⟨23, false, [], []⟩])], keep := [] }
@[simp] noncomputable def r0 (_ : Unit) : List Stp := [S 10 (.mv (.t 1)), S 8 (.mv (.t 10))]
@[simp] noncomputable def r1 (_ : Unit) : List Stp := [S 11 (.mv (.t 8)), S 12 (.bin .mul (.c (.int .i64 2)) (.t 11)), S 13 (.bin .add (.t 12) (.c (.int .i64 1))), S 9 (.mv (.t 13))]
@[simp] noncomputable def r2 (_ : Unit) : List Stp := [S 14 (.mv (.t 9)), S 15 (.mv (.t 2)), S 16 (.bin .geq (.t 14) (.t 15))]
@[simp] noncomputable def r3 (_ : Unit) : List Stp := [S 17 (.mv (.t 9)), S 18 (.bin .add (.t 17) (.c (.int .i64 1))), S 19 (.mv (.t 2)), S 20 (.bin .lss (.t 18) (.t 19)), S 21 (.mv (.t 20)), SG 22 21 true (.mv (.t 0)), SG 23 21 true (.mv (.t 3)), SG 24 21 true (.mv (.t 9)), SG 25 21 true (.bin .add (.t 23) (.t 24)), SG 26 21 true (.ixS 1 (.t 22) (.t 25)), SG 28 21 true (.mv (.t 0)), SG 29 21 true (.mv (.t 3)), SG 30 21 true (.mv (.t 9)), SG 31 21 true (.bin .add (.t 29) (.t 30)), SG 32 21 true (.bin .add (.t 31) (.c (.int .i64 1))), SG 33 21 true (.ixS 1 (.t 28) (.t 32)), SG 27 21 true (.load false 1 (.t 26)), SG 34 21 true (.load false 1 (.t 33)), SGP 35 21 true (.call (.c (.func (.func fn_cmp_Less_int) [] [])) [(.t 27), (.t 34)]), S 36 (.pick (.t 21) (.t 35) (.c (.bool false)))]
@[simp] noncomputable def r4 (_ : Unit) : List Stp := [S 37 (.mv (.t 9)), S 38 (.bin .add (.t 37) (.c (.int .i64 1))), S 9 (.mv (.t 38))]
@[simp] noncomputable def r5 (_ : Unit) : List Stp := [S 39 (.mv (.t 0)), S 40 (.mv (.t 3)), S 41 (.mv (.t 8)), S 42 (.bin .add (.t 40) (.t 41)), S 43 (.ixS 1 (.t 39) (.t 42)), S 45 (.mv (.t 0)), S 46 (.mv (.t 3)), S 47 (.mv (.t 9)), S 48 (.bin .add (.t 46) (.t 47)), S 49 (.ixS 1 (.t 45) (.t 48)), S 44 (.load false 1 (.t 43)), S 50 (.load false 1 (.t 49)), SP 51 (.call (.c (.func (.func fn_cmp_Less_int) [] [])) [(.t 44), (.t 50)]), S 52 (.un .not (.t 51))]
@[simp] noncomputable def r6 (_ : Unit) : List Stp := [S 53 (.mv (.t 0)), S 54 (.mv (.t 3)), S 55 (.mv (.t 8)), S 56 (.bin .add (.t 54) (.t 55)), S 57 (.mv (.t 0)), S 58 (.mv (.t 3)), S 59 (.mv (.t 9)), S 60 (.bin .add (.t 58) (.t 59)), S 61 (.mv (.t 0)), S 62 (.mv (.t 3)), S 63 (.mv (.t 9)), S 64 (.bin .add (.t 62) (.t 63)), S 65 (.ixS 1 (.t 61) (.t 64)), S 67 (.mv (.t 0)), S 68 (.mv (.t 3)), S 69 (.mv (.t 8)), S 70 (.bin .add (.t 68) (.t 69)), S 71 (.ixS 1 (.t 67) (.t 70)), S 66 (.load false 1 (.t 65)), S 72 (.load false 1 (.t 71)), S 73 (.ixS 1 (.t 53) (.t 56)), SN (.store 1 (.t 73) (.t 66)), S 74 (.ixS 1 (.t 57) (.t 60)), SN (.store 1 (.t 74) (.t 72))]
@[simp] noncomputable def r7 (_ : Unit) : List Stp := [S 75 (.mv (.t 9)), S 8 (.mv (.t 75))]
@[simp] noncomputable def ir : IR := (.seq (.ops r0) (.block 0 (.loop (.block 1 (.seq (.ops r1) (.seq (.seq (.ops r2) (.cond (.t 16) (.exit 0) .skip)) (.seq (.seq (.ops r3) (.cond (.t 36) (.ops r4) .skip)) (.seq (.seq (.ops r5) (.cond (.t 52) .ret .skip)) (.seq (.ops r6) (.ops r7))))))))))
@[simp] noncomputable def rs : List RV := []
theorem comp : compF Pg cfg Try.f106 = some (ir, rs, 76) := by kernel_rfl
theorem enter {args : List AVal} {h : Heap} {K : AEnd → Heap → Prop} (F : Nat) (hl : args.length ≤ 76) (a : AW ⟨Pg, F, 76, false, []⟩ ir (RetK rs K) (initT args) [] h) : ACalls Pg fn_slices_siftDownOrdered_int args h K :=
  ACalls.of_comp follows Try.func106 comp hl a
theorem pure {args : List AVal} {v : AVal} (hl : args.length ≤ 76) (a : AW ⟨Pg, 0, 76, false, []⟩ ir (RetK rs fun e _ => e = .ret v) (initT args) [] nilH) : APure Pg fn_slices_siftDownOrdered_int args v :=
  APure.of_nil (enter 0 hl a)
end slices_siftDownOrdered_int

namespace slices_nextPowerOfTwo
noncomputable def cfg : Cfg := { pure := pures, pcs := [], raw := [], cuts := [], draws := [], keep := [] }
@[simp] noncomputable def r0 (_ : Unit) : List Stp := [S 2 (.mv (.c (.int .u64 0)))]
@[simp] noncomputable def r1 (_ : Unit) : List Stp := [S 3 (.mv (.t 0)), S 4 (.conv .u64 (.t 3)), S 5 (.call (.c (.func (.func fn_math_bits_Len) [] [])) [(.t 4)]), S 6 (.bin .shl (.c (.int .u64 1)) (.t 5)), S 2 (.mv (.t 6))]
@[simp] noncomputable def ir : IR := (.seq (.ops r0) (.seq (.ops r1) .ret))
@[simp] noncomputable def rs : List RV := [.tmp 2]
theorem comp : compF Pg cfg Try.f107 = some (ir, rs, 7) := by kernel_rfl
theorem enter {args : List AVal} {h : Heap} {K : AEnd → Heap → Prop} (F : Nat) (hl : args.length ≤ 7) (a : AW ⟨Pg, F, 7, false, []⟩ ir (RetK rs K) (initT args) [] h) : ACalls Pg fn_slices_nextPowerOfTwo args h K :=
  ACalls.of_comp follows Try.func107 comp hl a
theorem pure {args : List AVal} {v : AVal} (hl : args.length ≤ 7) (a : AW ⟨Pg, 0, 7, false, []⟩ ir (RetK rs fun e _ => e = .ret v) (initT args) [] nilH) : APure Pg fn_slices_nextPowerOfTwo args v :=
  APure.of_nil (enter 0 hl a)
end slices_nextPowerOfTwo

namespace slices_xorshift_Next
noncomputable def cfg : Cfg := { pure := pures, pcs := [], raw := [], cuts := [], draws := [(1, [⟨0, false, [], []⟩, ⟨1, false, [], []⟩, ⟨3, false, [], []⟩, ⟨4, false, [], []⟩, ⟨2, false, [], []⟩, ⟨5, false, [], []⟩, ⟨6, false, [], []⟩, ⟨7, false, [], []⟩, ⟨8, false, [], []⟩, ⟨9, false, [], []⟩]), (2, [⟨0, false, [], []⟩, ⟨1, false, [], []⟩, ⟨3, false, [], []⟩, ⟨4, false, [], []⟩, ⟨2, false, [], []⟩, ⟨5, false, [], []⟩, ⟨6, false, [], []⟩, ⟨7, false, [], []⟩, ⟨8, false, [], []⟩, ⟨9, false, [], []⟩]), (3, [⟨0, false, [], []⟩, ⟨1, false, [], []⟩, ⟨3, false, [], []⟩, ⟨4, false, [], []⟩, ⟨2, false, [], []⟩, ⟨5, false, [], []⟩, ⟨6, false, [], []⟩, ⟨7, false, [], []⟩, ⟨8, false, [], []⟩, ⟨9, false, [], []⟩])], keep := [] }
@[simp] noncomputable def r0 (_ : Unit) : List Stp := [S 2 (.mv (.c (.int .u64 0)))]
@[simp] noncomputable def r1 (_ : Unit) : List Stp := [S 3 (.mv (.t 0)), S 4 (.nilck (.t 3)), S 6 (.mv (.t 0)), S 7 (.nilck (.t 6)), S 5 (.load false 1 (.t 4)), S 8 (.load false 1 (.t 7)), S 9 (.bin .shl (.t 8) (.c (.int .u64 13))), S 10 (.bin .xor (.t 5) (.t 9)), S 11 (.nilck (.t 3)), SN (.store 1 (.t 11) (.t 10))]
@[simp] noncomputable def r2 (_ : Unit) : List Stp := [S 12 (.mv (.t 0)), S 13 (.nilck (.t 12)), S 15 (.mv (.t 0)), S 16 (.nilck (.t 15)), S 14 (.load false 1 (.t 13)), S 17 (.load false 1 (.t 16)), S 18 (.bin .shr (.t 17) (.c (.int .u64 7))), S 19 (.bin .xor (.t 14) (.t 18)), S 20 (.nilck (.t 12)), SN (.store 1 (.t 20) (.t 19))]
@[simp] noncomputable def r3 (_ : Unit) : List Stp := [S 21 (.mv (.t 0)), S 22 (.nilck (.t 21)), S 24 (.mv (.t 0)), S 25 (.nilck (.t 24)), S 23 (.load false 1 (.t 22)), S 26 (.load false 1 (.t 25)), S 27 (.bin .shl (.t 26) (.c (.int .u64 17))), S 28 (.bin .xor (.t 23) (.t 27)), S 29 (.nilck (.t 21)), SN (.store 1 (.t 29) (.t 28))]
@[simp] noncomputable def r4 (_ : Unit) : List Stp := [S 30 (.mv (.t 0)), S 31 (.nilck (.t 30)), S 32 (.load false 1 (.t 31)), S 2 (.mv (.t 32))]
@[simp] noncomputable def ir : IR := (.seq (.ops r0) (.seq (.ops r1) (.seq (.ops r2) (.seq (.ops r3) (.seq (.ops r4) .ret)))))
@[simp] noncomputable def rs : List RV := [.tmp 2]
theorem comp : compF Pg cfg Try.f108 = some (ir, rs, 33) := by kernel_rfl
theorem enter {args : List AVal} {h : Heap} {K : AEnd → Heap → Prop} (F : Nat) (hl : args.length ≤ 33) (a : AW ⟨Pg, F, 33, false, []⟩ ir (RetK rs K) (initT args) [] h) : ACalls Pg fn_slices_xorshift_Next args h K :=
  ACalls.of_comp follows Try.func108 comp hl a
theorem pure {args : List AVal} {v : AVal} (hl : args.length ≤ 33) (a : AW ⟨Pg, 0, 33, false, []⟩ ir (RetK rs fun e _ => e = .ret v) (initT args) [] nilH) : APure Pg fn_slices_xorshift_Next args v :=
  APure.of_nil (enter 0 hl a)
end slices_xorshift_Next

namespace slices_medianAdjacentOrdered_int
noncomputable def cfg : Cfg := { pure := pures, pcs := [], raw := [], cuts := [], draws := [], keep := [] }
@[simp] noncomputable def r0 (_ : Unit) : List Stp := [S 6 (.mv (.c (.int .i64 0)))]
@[simp] noncomputable def r1 (_ : Unit) : List Stp := [S 7 (.mv (.t 0)), S 8 (.mv (.t 1)), S 9 (.bin .sub (.t 8) (.c (.int .i64 1))), S 10 (.mv (.t 1)), S 11 (.mv (.t 1)), S 12 (.bin .add (.t 11) (.c (.int .i64 1))), S 13 (.mv (.t 2)), S 14 (.call (.c (.func (.func fn_slices_medianOrdered_int) [] [])) [(.t 7), (.t 9), (.t 10), (.t 12), (.t 13)]), S 6 (.mv (.t 14))]
@[simp] noncomputable def ir : IR := (.seq (.ops r0) (.seq (.ops r1) .ret))
@[simp] noncomputable def rs : List RV := [.tmp 6]
theorem comp : compF Pg cfg Try.f109 = some (ir, rs, 15) := by kernel_rfl
theorem enter {args : List AVal} {h : Heap} {K : AEnd → Heap → Prop} (F : Nat) (hl : args.length ≤ 15) (a : AW ⟨Pg, F, 15, false, []⟩ ir (RetK rs K) (initT args) [] h) : ACalls Pg fn_slices_medianAdjacentOrdered_int args h K :=
  ACalls.of_comp follows Try.func109 comp hl a
theorem pure {args : List AVal} {v : AVal} (hl : args.length ≤ 15) (a : AW ⟨Pg, 0, 15, false, []⟩ ir (RetK rs fun e _ => e = .ret v) (initT args) [] nilH) : APure Pg fn_slices_medianAdjacentOrdered_int args v :=
  APure.of_nil (enter 0 hl a)
end slices_medianAdjacentOrdered_int

namespace slices_medianOrdered_int
noncomputable def cfg : Cfg := { pure := pures, pcs := [], raw := [], cuts := [], draws := [], keep := [] }
@[simp] noncomputable def r0 (_ : Unit) : List Stp := [S 10 (.mv (.c (.int .i64 0)))]
@[simp] noncomputable def r1 (_ : Unit) : List Stp := [S 12 (.mv (.t 0)), S 13 (.mv (.t 1)), S 14 (.mv (.t 2)), S 15 (.mv (.t 4)), S 16 (.call (.c (.func (.func fn_slices_order2Ordered_int) [] [])) [(.t 12), (.t 13), (.t 14), (.t 15)]), S 11 (.mv (.t 16)), S 17 (.ext (.t 11) 0), S 18 (.ext (.t 11) 1), S 1 (.mv (.t 17)), S 2 (.mv (.t 18))]
@[simp] noncomputable def r2 (_ : Unit) : List Stp := [S 20 (.mv (.t 0)), S 21 (.mv (.t 2)), S 22 (.mv (.t 3)), S 23 (.mv (.t 4)), S 24 (.call (.c (.func (.func fn_slices_order2Ordered_int) [] [])) [(.t 20), (.t 21), (.t 22), (.t 23)]), S 19 (.mv (.t 24)), S 25 (.ext (.t 19) 0), S 26 (.ext (.t 19) 1), S 2 (.mv (.t 25)), S 3 (.mv (.t 26))]
@[simp] noncomputable def r3 (_ : Unit) : List Stp := [S 28 (.mv (.t 0)), S 29 (.mv (.t 1)), S 30 (.mv (.t 2)), S 31 (.mv (.t 4)), S 32 (.call (.c (.func (.func fn_slices_order2Ordered_int) [] [])) [(.t 28), (.t 29), (.t 30), (.t 31)]), S 27 (.mv (.t 32)), S 33 (.ext (.t 27) 0), S 34 (.ext (.t 27) 1), S 1 (.mv (.t 33)), S 2 (.mv (.t 34))]
@[simp] noncomputable def r4 (_ : Unit) : List Stp := [S 35 (.mv (.t 2)), S 10 (.mv (.t 35))]
@[simp] noncomputable def ir : IR := (.seq (.ops r0) (.seq (.ops r1) (.seq (.ops r2) (.seq (.ops r3) (.seq (.ops r4) .ret)))))
@[simp] noncomputable def rs : List RV := [.tmp 10]
theorem comp : compF Pg cfg Try.f110 = some (ir, rs, 36) := by kernel_rfl
theorem enter {args : List AVal} {h : Heap} {K : AEnd → Heap → Prop} (F : Nat) (hl : args.length ≤ 36) (a : AW ⟨Pg, F, 36, false, []⟩ ir (RetK rs K) (initT args) [] h) : ACalls Pg fn_slices_medianOrdered_int args h K :=
  ACalls.of_comp follows Try.func110 comp hl a
theorem pure {args : List AVal} {v : AVal} (hl : args.length ≤ 36) (a : AW ⟨Pg, 0, 36, false, []⟩ ir (RetK rs fun e _ => e = .ret v) (initT args) [] nilH) : APure Pg fn_slices_medianOrdered_int args v :=
  APure.of_nil (enter 0 hl a)
end slices_medianOrdered_int

end Go.Cw
end

/- Functions in the small form. Printed by a program of this seat's proofs. -/
section
namespace Go.Cw
open Go Go.Proofs

namespace slices_order2Ordered_int
noncomputable def cfg : Cfg := { pure := pures, pcs := [], raw := [], cuts := [], draws := [(1, [⟨0, false, [], []⟩, ⟨1, false, [], []⟩, ⟨2, false, [], []⟩, ⟨4, false, [], []⟩, ⟨5, false, [], []⟩, ⟨6, false, [], []⟩, ⟨3, false, [], []⟩, ⟨7, false, [], []⟩, ⟨8, false, [], []⟩])], keep := [] }
@[simp] noncomputable def r0 (_ : Unit) : List Stp := [S 8 (.mv (.c (.int .i64 0))), S 9 (.mv (.c (.int .i64 0)))]
@[simp] noncomputable def r1 (_ : Unit) : List Stp := [S 10 (.mv (.t 0)), S 11 (.mv (.t 2)), S 12 (.ixS 1 (.t 10) (.t 11)), S 14 (.mv (.t 0)), S 15 (.mv (.t 1)), S 16 (.ixS 1 (.t 14) (.t 15)), S 13 (.load false 1 (.t 12)), S 17 (.load false 1 (.t 16)), SP 18 (.call (.c (.func (.func fn_cmp_Less_int) [] [])) [(.t 13), (.t 17)])]
@[simp] noncomputable def r2 (_ : Unit) : List Stp := [S 19 (.mv (.t 3)), S 20 (.nilck (.t 19)), S 21 (.load false 1 (.t 20)), S 22 (.bin .add (.t 21) (.c (.int .i64 1))), S 23 (.nilck (.t 19)), SN (.store 1 (.t 23) (.t 22))]
@[simp] noncomputable def r3 (_ : Unit) : List Stp := [S 24 (.mv (.t 2)), S 25 (.mv (.t 1)), S 8 (.mv (.t 24)), S 9 (.mv (.t 25))]
@[simp] noncomputable def r4 (_ : Unit) : List Stp := [S 26 (.mv (.t 1)), S 27 (.mv (.t 2)), S 8 (.mv (.t 26)), S 9 (.mv (.t 27))]
@[simp] noncomputable def ir : IR := (.seq (.ops r0) (.seq (.seq (.ops r1) (.cond (.t 18) (.seq (.ops r2) (.seq (.ops r3) .ret)) .skip)) (.seq (.ops r4) .ret)))
@[simp] noncomputable def rs : List RV := [.tmp 8, .tmp 9]
theorem comp : compF Pg cfg Try.f111 = some (ir, rs, 28) := by kernel_rfl
theorem enter {args : List AVal} {h : Heap} {K : AEnd → Heap → Prop} (F : Nat) (hl : args.length ≤ 28) (a : AW ⟨Pg, F, 28, false, []⟩ ir (RetK rs K) (initT args) [] h) : ACalls Pg fn_slices_order2Ordered_int args h K :=
  ACalls.of_comp follows Try.func111 comp hl a
theorem pure {args : List AVal} {v : AVal} (hl : args.length ≤ 28) (a : AW ⟨Pg, 0, 28, false, []⟩ ir (RetK rs fun e _ => e = .ret v) (initT args) [] nilH) : APure Pg fn_slices_order2Ordered_int args v :=
  APure.of_nil (enter 0 hl a)
end slices_order2Ordered_int

namespace drive_ordered_pick
noncomputable def cfg : Cfg := { pure := pures, pcs := [], raw := [], cuts := [1], draws := [], keep := [] }
@[simp] noncomputable def r0 (_ : Unit) : List Stp := [S 3 (.box (.t 0)), S 4 (.box (.t 1)), S 5 (.box (.t 2)), S 6 (.mv (.c (.int .i64 0))), S 7 (.mv (.c (.bool false)))]
@[simp] noncomputable def r1 (_ : Unit) : List Stp := [S 9 (.fAddr 0 (.t 3)), S 10 (.load false 1 (.t 9)), S 11 (.mkF (.func fn_drive_ordered_pick_1) [] [(.t 4), (.t 5)]), SP 12 (.call (.c (.func (.func fn_slices_IndexFunc_int_int) [] [])) [(.t 10), (.t 11)]), S 8 (.mv (.t 12))]
@[simp] noncomputable def r2 (_ : Unit) : List Stp := [S 13 (.mv (.t 8)), S 14 (.bin .lss (.t 13) (.c (.int .i64 0)))]
@[simp] noncomputable def r3 (_ : Unit) : List Stp := [S 6 (.mv (.c (.int .i64 0))), S 7 (.mv (.c (.bool false)))]
@[simp] noncomputable def r4 (_ : Unit) : List Stp := [S 15 (.fAddr 0 (.t 3)), S 16 (.load false 1 (.t 15)), S 17 (.mv (.t 8)), S 18 (.ixS 1 (.t 16) (.t 17)), S 19 (.load false 1 (.t 18)), S 6 (.mv (.t 19)), S 7 (.mv (.c (.bool true)))]
@[simp] noncomputable def ir : IR := (.seq (.ops r0) (.seq (.cut (.ops r1)) (.seq (.seq (.ops r2) (.cond (.t 14) (.seq (.ops r3) .ret) .skip)) (.seq (.ops r4) .ret))))
@[simp] noncomputable def rs : List RV := [.tmp 6, .tmp 7]
theorem comp : compF Pg cfg Try.f127 = some (ir, rs, 20) := by kernel_rfl
theorem enter {args : List AVal} {h : Heap} {K : AEnd → Heap → Prop} (F : Nat) (hl : args.length ≤ 20) (a : AW ⟨Pg, F, 20, false, []⟩ ir (RetK rs K) (initT args) [] h) : ACalls Pg fn_drive_ordered_pick args h K :=
  ACalls.of_comp follows Try.func127 comp hl a
theorem pure {args : List AVal} {v : AVal} (hl : args.length ≤ 20) (a : AW ⟨Pg, 0, 20, false, []⟩ ir (RetK rs fun e _ => e = .ret v) (initT args) [] nilH) : APure Pg fn_drive_ordered_pick args v :=
  APure.of_nil (enter 0 hl a)
end drive_ordered_pick

namespace drive_ordered_pick_1
noncomputable def cfg : Cfg := { pure := pures, pcs := [], raw := [], cuts := [], draws := [], keep := [] }
@[simp] noncomputable def r0 (_ : Unit) : List Stp := [S 4 (.mv (.c (.bool false)))]
@[simp] noncomputable def r1 (_ : Unit) : List Stp := [S 5 (.load false 1 (.t 1)), S 6 (.load true 6 (.t 2)), S 7 (.mv (.t 0)), SP 8 (.call (.c (.func (.func fn_drive_hull_can) [] [])) [(.t 5), (.t 6), (.t 7)]), S 4 (.mv (.t 8))]
@[simp] noncomputable def ir : IR := (.seq (.ops r0) (.seq (.ops r1) .ret))
@[simp] noncomputable def rs : List RV := [.tmp 4]
theorem comp : compF Pg cfg Try.f128 = some (ir, rs, 9) := by kernel_rfl
theorem enter {args : List AVal} {h : Heap} {K : AEnd → Heap → Prop} (F : Nat) (hl : args.length ≤ 9) (a : AW ⟨Pg, F, 9, false, []⟩ ir (RetK rs K) (initT args) [] h) : ACalls Pg fn_drive_ordered_pick_1 args h K :=
  ACalls.of_comp follows Try.func128 comp hl a
theorem pure {args : List AVal} {v : AVal} (hl : args.length ≤ 9) (a : AW ⟨Pg, 0, 9, false, []⟩ ir (RetK rs fun e _ => e = .ret v) (initT args) [] nilH) : APure Pg fn_drive_ordered_pick_1 args v :=
  APure.of_nil (enter 0 hl a)
end drive_ordered_pick_1

namespace drive_rising_pick
noncomputable def cfg : Cfg := { pure := pures, pcs := [], raw := [], cuts := [], draws := [], keep := [] }
@[simp] noncomputable def r0 (_ : Unit) : List Stp := [S 3 (.box (.t 0)), S 5 (.box (.t 2)), S 6 (.mv (.c (.int .i64 0))), S 7 (.mv (.c (.bool false)))]
@[simp] noncomputable def r1 (_ : Unit) : List Stp := [S 9 (.fAddr 0 (.t 3)), S 10 (.fAddr 0 (.t 9)), S 11 (.load false 1 (.t 10)), S 12 (.len (.t 11)), S 13 (.mv (.c (.int .i64 0)))]
@[simp] noncomputable def r2 (_ : Unit) : List Stp := [S 14 (.bin .lss (.t 13) (.t 12))]
@[simp] noncomputable def r3 (_ : Unit) : List Stp := [S 15 (.mv (.t 13)), S 8 (.mv (.t 15))]
@[simp] noncomputable def r4 (_ : Unit) : List Stp := [S 16 (.mv (.t 1)), S 17 (.load true 6 (.t 5)), S 18 (.mv (.t 8)), SP 19 (.call (.c (.func (.func fn_drive_hull_can) [] [])) [(.t 16), (.t 17), (.t 18)])]
@[simp] noncomputable def r5 (_ : Unit) : List Stp := [S 20 (.mv (.t 8)), S 6 (.mv (.t 20)), S 7 (.mv (.c (.bool true)))]
@[simp] noncomputable def r6 (_ : Unit) : List Stp := [S 21 (.bin .add (.t 13) (.c (.int .i64 1))), S 13 (.mv (.t 21))]
@[simp] noncomputable def r7 (_ : Unit) : List Stp := [S 6 (.mv (.c (.int .i64 0))), S 7 (.mv (.c (.bool false)))]
@[simp] noncomputable def ir : IR := (.seq (.ops r0) (.seq (.seq (.ops r1) (.block 0 (.loop (.seq (.ops r2) (.seq (.cond (.t 14) .skip (.exit 0)) (.seq (.block 1 (.seq (.ops r3) (.seq (.ops r4) (.cond (.t 19) (.seq (.ops r5) .ret) .skip)))) (.ops r6))))))) (.seq (.ops r7) .ret)))
@[simp] noncomputable def rs : List RV := [.tmp 6, .tmp 7]
theorem comp : compF Pg cfg Try.f129 = some (ir, rs, 22) := by kernel_rfl
theorem enter {args : List AVal} {h : Heap} {K : AEnd → Heap → Prop} (F : Nat) (hl : args.length ≤ 22) (a : AW ⟨Pg, F, 22, false, []⟩ ir (RetK rs K) (initT args) [] h) : ACalls Pg fn_drive_rising_pick args h K :=
  ACalls.of_comp follows Try.func129 comp hl a
theorem pure {args : List AVal} {v : AVal} (hl : args.length ≤ 22) (a : AW ⟨Pg, 0, 22, false, []⟩ ir (RetK rs fun e _ => e = .ret v) (initT args) [] nilH) : APure Pg fn_drive_rising_pick args v :=
  APure.of_nil (enter 0 hl a)
end drive_rising_pick

end Go.Cw
end
