/-
  The program's functions in the small form.
-/
import Derived.Test.YtdfllmjgmdhlpaaGreatGa
set_option linter.unusedVariables false
set_option linter.unusedSimpArgs false
set_option linter.unusedSectionVars false

/- Functions in the small form. Printed by a program of this seat's proofs. -/
section
namespace Go.Cw
open Go Go.Proofs

namespace rake_lengths_sum
noncomputable def cfg : Cfg := { pure := pures, pcs := [], raw := [], cuts := [], draws := [], keep := [] }
@[simp] noncomputable def r0 (_ : Unit) : List Stp := [S 2 (.box (.t 0)), S 4 (.mv (.c (.int .i64 0)))]
@[simp] noncomputable def r1 (_ : Unit) : List Stp := [S 6 (.mv (.c (.int .i64 0)))]
@[simp] noncomputable def r2 (_ : Unit) : List Stp := [S 7 (.bin .lss (.t 6) (.c (.int .i64 6)))]
@[simp] noncomputable def r3 (_ : Unit) : List Stp := [S 8 (.mv (.t 6)), S 5 (.mv (.t 8))]
@[simp] noncomputable def r4 (_ : Unit) : List Stp := [S 9 (.mv (.t 1)), S 10 (.mv (.t 5)), S 11 (.bin .shr (.t 9) (.t 10)), S 12 (.bin .and (.t 11) (.c (.int .i64 1))), S 13 (.bin .eql (.t 12) (.c (.int .i64 1)))]
@[simp] noncomputable def r5 (_ : Unit) : List Stp := [S 14 (.mv (.t 4)), S 15 (.load true 6 (.t 2)), S 16 (.mv (.t 5)), SP 17 (.call (.c (.func (.func fn_rake_lengths_of) [] [])) [(.t 15), (.t 16)]), S 18 (.bin .add (.t 14) (.t 17)), S 4 (.mv (.t 18))]
@[simp] noncomputable def r6 (_ : Unit) : List Stp := [S 19 (.bin .add (.t 6) (.c (.int .i64 1))), S 6 (.mv (.t 19))]
@[simp] noncomputable def r7 (_ : Unit) : List Stp := [S 20 (.mv (.t 4)), S 4 (.mv (.t 20))]
@[simp] noncomputable def ir : IR := (.seq (.ops r0) (.seq (.seq (.ops r1) (.block 0 (.loop (.seq (.ops r2) (.seq (.cond (.t 7) .skip (.exit 0)) (.seq (.block 1 (.seq (.ops r3) (.seq (.ops r4) (.cond (.t 13) (.ops r5) .skip)))) (.ops r6))))))) (.seq (.ops r7) .ret)))
@[simp] noncomputable def rs : List RV := [.tmp 4]
theorem comp : compF Pg cfg Tryz.f71 = some (ir, rs, 21) := by kernel_rfl
theorem enter {args : List AVal} {h : Heap} {K : AEnd → Heap → Prop} (F : Nat) (hl : args.length ≤ 21) (a : AW ⟨Pg, F, 21, false, []⟩ ir (RetK rs K) (initT args) [] h) : ACalls Pg fn_rake_lengths_sum args h K :=
  ACalls.of_comp follows Tryz.func71 comp hl a
theorem pure {args : List AVal} {v : AVal} (hl : args.length ≤ 21) (a : AW ⟨Pg, 0, 21, false, []⟩ ir (RetK rs fun e _ => e = .ret v) (initT args) [] nilH) : APure Pg fn_rake_lengths_sum args v :=
  APure.of_nil (enter 0 hl a)
end rake_lengths_sum

namespace rake_Enough_2
noncomputable def cfg : Cfg := { pure := pures, pcs := [], raw := [], cuts := [], draws := [(1, [⟨5, false, [], []⟩, ⟨0, false, [], []⟩, ⟨1, false, [], []⟩, ⟨2, false, [], []⟩, ⟨3, false, [], []⟩, ⟨4, false, [], []⟩, ⟨6, false, [], []⟩, ⟨7, false, [], []⟩])], keep := [] }
@[simp] noncomputable def r0 (_ : Unit) : List Stp := [S 4 (.mv (.c (.int .i64 0)))]
@[simp] noncomputable def r1 (_ : Unit) : List Stp := [S 10 (.mv (.t 0)), S 5 (.load false 1 (.t 1)), S 6 (.load false 1 (.t 2)), S 7 (.nilck Pg (.t 6)), S 8 (.fAddr 0 (.t 7)), S 9 (.load true 6 (.t 8)), S 11 (.call (.t 5) [(.t 9), (.t 10)]), S 4 (.mv (.t 11))]
@[simp] noncomputable def ir : IR := (.seq (.ops r0) (.seq (.ops r1) .ret))
@[simp] noncomputable def rs : List RV := [.tmp 4]
theorem comp : compF Pg cfg Tryz.f72 = some (ir, rs, 12) := by kernel_rfl
theorem enter {args : List AVal} {h : Heap} {K : AEnd → Heap → Prop} (F : Nat) (hl : args.length ≤ 12) (a : AW ⟨Pg, F, 12, false, []⟩ ir (RetK rs K) (initT args) [] h) : ACalls Pg fn_rake_Enough_2 args h K :=
  ACalls.of_comp follows Tryz.func72 comp hl a
theorem pure {args : List AVal} {v : AVal} (hl : args.length ≤ 12) (a : AW ⟨Pg, 0, 12, false, []⟩ ir (RetK rs fun e _ => e = .ret v) (initT args) [] nilH) : APure Pg fn_rake_Enough_2 args v :=
  APure.of_nil (enter 0 hl a)
end rake_Enough_2

namespace rake_hull_tells
noncomputable def cfg : Cfg := { pure := pures, pcs := [], raw := [], cuts := [], draws := [], keep := [] }
@[simp] noncomputable def r0 (_ : Unit) : List Stp := [S 4 (.mv (.c (.bool false)))]
@[simp] noncomputable def r1 (_ : Unit) : List Stp := [S 9 (.mkmap), S 5 (.mv (.t 9))]
@[simp] noncomputable def r2 (_ : Unit) : List Stp := [S 10 (.mv (.t 0)), S 11 (.nilck Pg (.t 10)), S 12 (.fAddr 7 (.t 11)), S 13 (.load false 1 (.t 12)), S 14 (.len (.t 13)), S 15 (.mv (.c (.int .i64 0)))]
@[simp] noncomputable def r3 (_ : Unit) : List Stp := [S 16 (.bin .lss (.t 15) (.t 14))]
@[simp] noncomputable def r4 (_ : Unit) : List Stp := [S 17 (.ixS 1 (.t 13) (.t 15)), S 18 (.load false 1 (.t 17)), S 7 (.mv (.t 18))]
@[simp] noncomputable def r5 (_ : Unit) : List Stp := [S 19 (.mv (.t 1)), S 20 (.mv (.t 7)), S 21 (.mv (.t 1)), S 22 (.bin .and (.t 20) (.t 21)), S 23 (.build [(.int .i64 0), (.int .i64 0)] [(0, 1, (.t 19)), (1, 1, (.t 22))]), S 8 (.alloc [(.int .i64 0), (.int .i64 0)]), SN (.store 2 (.t 8) (.t 23))]
@[simp] noncomputable def r6 (_ : Unit) : List Stp := [S 24 (.mv (.t 5)), S 25 (.load true 2 (.t 8)), S 26 (.lookup (true, [.i, .i]) false (.bool false) (.t 24) (.t 25))]
@[simp] noncomputable def r7 (_ : Unit) : List Stp := [S 4 (.mv (.c (.bool false)))]
@[simp] noncomputable def r8 (_ : Unit) : List Stp := [S 27 (.mv (.t 5)), S 28 (.load true 2 (.t 8)), SN (.mapU (true, [.i, .i]) (.t 27) (.t 28) (.c (.bool true)))]
@[simp] noncomputable def r9 (_ : Unit) : List Stp := [S 29 (.bin .add (.t 15) (.c (.int .i64 1))), S 15 (.mv (.t 29))]
@[simp] noncomputable def r10 (_ : Unit) : List Stp := [S 4 (.mv (.c (.bool true)))]
@[simp] noncomputable def ir : IR := (.seq (.ops r0) (.seq (.ops r1) (.seq (.seq (.ops r2) (.block 0 (.loop (.seq (.ops r3) (.seq (.cond (.t 16) .skip (.exit 0)) (.seq (.block 1 (.seq (.ops r4) (.seq (.ops r5) (.seq (.seq (.ops r6) (.cond (.t 26) (.seq (.ops r7) .ret) .skip)) (.ops r8))))) (.ops r9))))))) (.seq (.ops r10) .ret))))
@[simp] noncomputable def rs : List RV := [.tmp 4]
theorem comp : compF Pg cfg Tryz.f73 = some (ir, rs, 30) := by kernel_rfl
theorem enter {args : List AVal} {h : Heap} {K : AEnd → Heap → Prop} (F : Nat) (hl : args.length ≤ 30) (a : AW ⟨Pg, F, 30, false, []⟩ ir (RetK rs K) (initT args) [] h) : ACalls Pg fn_rake_hull_tells args h K :=
  ACalls.of_comp follows Tryz.func73 comp hl a
theorem pure {args : List AVal} {v : AVal} (hl : args.length ≤ 30) (a : AW ⟨Pg, 0, 30, false, []⟩ ir (RetK rs fun e _ => e = .ret v) (initT args) [] nilH) : APure Pg fn_rake_hull_tells args v :=
  APure.of_nil (enter 0 hl a)
end rake_hull_tells

namespace rake_best_int_see
noncomputable def cfg : Cfg := { pure := pures, pcs := [], raw := [], cuts := [], draws := [], keep := [] }
@[simp] noncomputable def r0 (_ : Unit) : List Stp := [S 5 (.mv (.t 0)), S 6 (.nilck Pg (.t 5)), S 7 (.fAddr 3 (.t 6)), S 8 (.load false 1 (.t 7)), S 9 (.mv (.t 1)), S 10 (.call (.t 8) [(.t 9)]), S 4 (.mv (.t 10))]
@[simp] noncomputable def r1 (_ : Unit) : List Stp := [S 11 (.mv (.t 0)), S 12 (.nilck Pg (.t 11)), S 13 (.fAddr 0 (.t 12)), S 14 (.load false 1 (.t 13)), S 15 (.un .not (.t 14)), S 16 (.mv (.t 15)), SG 17 16 false (.mv (.t 4)), SG 18 16 false (.mv (.t 0)), SG 19 16 false (.nilck Pg (.t 18)), SG 20 16 false (.fAddr 2 (.t 19)), SG 21 16 false (.load false 1 (.t 20)), SG 22 16 false (.bin .lss (.t 17) (.t 21)), S 23 (.pick (.t 16) (.c (.bool true)) (.t 22))]
@[simp] noncomputable def r2 (_ : Unit) : List Stp := [S 24 (.mv (.t 0)), S 25 (.mv (.t 0)), S 26 (.mv (.t 0)), S 27 (.mv (.t 1)), S 28 (.mv (.t 4)), S 29 (.nilck Pg (.t 24)), S 30 (.fAddr 0 (.t 29)), SN (.store 1 (.t 30) (.c (.bool true))), S 31 (.nilck Pg (.t 25)), S 32 (.fAddr 1 (.t 31)), SN (.store 1 (.t 32) (.t 27)), S 33 (.nilck Pg (.t 26)), S 34 (.fAddr 2 (.t 33)), SN (.store 1 (.t 34) (.t 28))]
@[simp] noncomputable def ir : IR := (.seq (.ops r0) (.seq (.ops r1) (.cond (.t 23) (.ops r2) .skip)))
@[simp] noncomputable def rs : List RV := []
theorem comp : compF Pg cfg Tryz.f74 = some (ir, rs, 35) := by kernel_rfl
theorem enter {args : List AVal} {h : Heap} {K : AEnd → Heap → Prop} (F : Nat) (hl : args.length ≤ 35) (a : AW ⟨Pg, F, 35, false, []⟩ ir (RetK rs K) (initT args) [] h) : ACalls Pg fn_rake_best_int_see args h K :=
  ACalls.of_comp follows Tryz.func74 comp hl a
theorem pure {args : List AVal} {v : AVal} (hl : args.length ≤ 35) (a : AW ⟨Pg, 0, 35, false, []⟩ ir (RetK rs fun e _ => e = .ret v) (initT args) [] nilH) : APure Pg fn_rake_best_int_see args v :=
  APure.of_nil (enter 0 hl a)
end rake_best_int_see



namespace law03_span
noncomputable def cfg : Cfg := { pure := pures, pcs := [], raw := [], cuts := [], draws := [], keep := [] }
@[simp] noncomputable def r0 (_ : Unit) : List Stp := [S 4 (.alloc [(.int .i64 0), (.int .i64 0)])]
@[simp] noncomputable def r1 (_ : Unit) : List Stp := [S 5 (.mv (.t 0)), S 6 (.mv (.t 1)), S 7 (.build [(.int .i64 0), (.int .i64 0)] [(0, 1, (.t 5)), (1, 1, (.t 6))]), SN (.store 2 (.t 4) (.t 7))]
@[simp] noncomputable def ir : IR := (.seq (.ops r0) (.seq (.ops r1) .ret))
@[simp] noncomputable def rs : List RV := [.cell 4 true 2]
theorem comp : compF Pg cfg Tryz.f77 = some (ir, rs, 8) := by kernel_rfl
theorem enter {args : List AVal} {h : Heap} {K : AEnd → Heap → Prop} (F : Nat) (hl : args.length ≤ 8) (a : AW ⟨Pg, F, 8, false, []⟩ ir (RetK rs K) (initT args) [] h) : ACalls Pg fn_law03_span args h K :=
  ACalls.of_comp follows Tryz.func77 comp hl a
theorem pure {args : List AVal} {v : AVal} (hl : args.length ≤ 8) (a : AW ⟨Pg, 0, 8, false, []⟩ ir (RetK rs fun e _ => e = .ret v) (initT args) [] nilH) : APure Pg fn_law03_span args v :=
  APure.of_nil (enter 0 hl a)
end law03_span

namespace ref01_Hull
noncomputable def cfg : Cfg := { pure := pures, pcs := [], raw := [], cuts := [], draws := [], keep := [] }
@[simp] noncomputable def r0 (_ : Unit) : List Stp := [S 1 (.box (.t 0)), S 2 (.mv (.c (.bool false)))]
@[simp] noncomputable def r1 (_ : Unit) : List Stp := [S 7 (.fAddr 0 (.t 1)), S 8 (.load false 1 (.t 7)), S 9 (.len (.t 8)), SP 10 (.call (.c (.func (.func fn_ref01_in) [] [])) [(.t 9), (.c (.int .i64 1)), (.c (.int .i64 6))]), S 11 (.un .not (.t 10)), S 12 (.mv (.t 11)), SG 13 12 false (.fAddr 1 (.t 1)), SG 14 12 false (.load false 1 (.t 13)), SG 15 12 false (.len (.t 14)), SG 16 12 false (.bin .gtr (.t 15) (.c (.int .i64 8))), S 17 (.pick (.t 12) (.c (.bool true)) (.t 16))]
@[simp] noncomputable def r2 (_ : Unit) : List Stp := [S 2 (.mv (.c (.bool false)))]
@[simp] noncomputable def r3 (_ : Unit) : List Stp := [S 3 (.mv (.c (.int .i64 0)))]
@[simp] noncomputable def r4 (_ : Unit) : List Stp := [S 18 (.mv (.t 3)), S 19 (.fAddr 0 (.t 1)), S 20 (.load false 1 (.t 19)), S 21 (.len (.t 20)), S 22 (.bin .lss (.t 18) (.t 21))]
@[simp] noncomputable def r6 (_ : Unit) : List Stp := [S 25 (.fAddr 0 (.t 1)), S 26 (.load false 1 (.t 25)), S 27 (.mv (.t 3)), S 28 (.ixS 3 (.t 26) (.t 27)), S 29 (.load true 3 (.t 28)), S 4 (.alloc [(.int .i64 0), (.int .i64 0), (.int .i64 0)]), SN (.store 3 (.t 4) (.t 29))]
@[simp] noncomputable def r7 (_ : Unit) : List Stp := [S 30 (.fAddr 0 (.t 4)), S 31 (.load false 1 (.t 30)), SP 32 (.call (.c (.func (.func fn_ref01_in) [] [])) [(.t 31), (.c (.int .i64 0)), (.c (.int .i64 12))]), S 33 (.un .not (.t 32)), S 34 (.mv (.t 33)), SG 35 34 false (.fAddr 1 (.t 4)), SG 36 34 false (.load false 1 (.t 35)), SGP 37 34 false (.call (.c (.func (.func fn_ref01_in) [] [])) [(.t 36), (.c (.int .i64 (-1))), (.c (.int .i64 1))]), SG 38 34 false (.un .not (.t 37)), S 39 (.pick (.t 34) (.c (.bool true)) (.t 38)), S 40 (.mv (.t 39)), SG 41 40 false (.fAddr 2 (.t 4)), SG 42 40 false (.load false 1 (.t 41)), SGP 43 40 false (.call (.c (.func (.func fn_ref01_in) [] [])) [(.t 42), (.c (.int .i64 0)), (.c (.int .i64 4))]), SG 44 40 false (.un .not (.t 43)), S 45 (.pick (.t 40) (.c (.bool true)) (.t 44))]
@[simp] noncomputable def r8 (_ : Unit) : List Stp := [S 2 (.mv (.c (.bool false)))]
@[simp] noncomputable def r5 (_ : Unit) : List Stp := [S 23 (.mv (.t 3)), S 24 (.bin .add (.t 23) (.c (.int .i64 1))), S 3 (.mv (.t 24))]
@[simp] noncomputable def r9 (_ : Unit) : List Stp := [S 5 (.mv (.c (.int .i64 0)))]
@[simp] noncomputable def r10 (_ : Unit) : List Stp := [S 46 (.mv (.t 5)), S 47 (.fAddr 1 (.t 1)), S 48 (.load false 1 (.t 47)), S 49 (.len (.t 48)), S 50 (.bin .lss (.t 46) (.t 49))]
@[simp] noncomputable def r12 (_ : Unit) : List Stp := [S 53 (.fAddr 1 (.t 1)), S 54 (.load false 1 (.t 53)), S 55 (.mv (.t 5)), S 56 (.ixS 4 (.t 54) (.t 55)), S 57 (.load true 4 (.t 56)), S 6 (.alloc [(.int .i64 0), (.int .i64 0), (.int .i64 0), (.int .i64 0)]), SN (.store 4 (.t 6) (.t 57))]
@[simp] noncomputable def r13 (_ : Unit) : List Stp := [S 58 (.fAddr 0 (.t 6)), S 59 (.load false 1 (.t 58)), S 60 (.fAddr 1 (.t 6)), S 61 (.load false 1 (.t 60)), SP 62 (.call (.c (.func (.func fn_ref01_At) [] [])) [(.t 59), (.t 61)]), S 63 (.un .not (.t 62)), S 64 (.mv (.t 63)), SG 65 64 false (.fAddr 2 (.t 6)), SG 66 64 false (.fAddr 0 (.t 65)), SG 67 64 false (.load false 1 (.t 66)), SG 68 64 false (.bin .lss (.t 67) (.c (.int .i64 0))), S 69 (.pick (.t 64) (.c (.bool true)) (.t 68)), S 70 (.mv (.t 69)), SG 71 70 false (.fAddr 2 (.t 6)), SG 72 70 false (.fAddr 0 (.t 71)), SG 73 70 false (.load false 1 (.t 72)), SG 74 70 false (.fAddr 2 (.t 6)), SG 75 70 false (.fAddr 1 (.t 74)), SG 76 70 false (.load false 1 (.t 75)), SG 77 70 false (.bin .gtr (.t 73) (.t 76)), S 78 (.pick (.t 70) (.c (.bool true)) (.t 77)), S 79 (.mv (.t 78)), SG 80 79 false (.fAddr 2 (.t 6)), SG 81 79 false (.fAddr 1 (.t 80)), SG 82 79 false (.load false 1 (.t 81)), SG 83 79 false (.bin .gtr (.t 82) (.c (.int .i64 24))), S 84 (.pick (.t 79) (.c (.bool true)) (.t 83))]
@[simp] noncomputable def r14 (_ : Unit) : List Stp := [S 2 (.mv (.c (.bool false)))]
@[simp] noncomputable def r11 (_ : Unit) : List Stp := [S 51 (.mv (.t 5)), S 52 (.bin .add (.t 51) (.c (.int .i64 1))), S 5 (.mv (.t 52))]
@[simp] noncomputable def r15 (_ : Unit) : List Stp := [S 2 (.mv (.c (.bool true)))]
@[simp] noncomputable def ir : IR := (.seq (.ops r0) (.seq (.seq (.ops r1) (.cond (.t 17) (.seq (.ops r2) .ret) .skip)) (.seq (.seq (.ops r3) (.block 0 (.loop (.seq (.seq (.ops r4) (.cond (.t 22) .skip (.exit 0))) (.seq (.block 1 (.seq (.ops r6) (.seq (.ops r7) (.cond (.t 45) (.seq (.ops r8) .ret) .skip)))) (.ops r5)))))) (.seq (.seq (.ops r9) (.block 2 (.loop (.seq (.seq (.ops r10) (.cond (.t 50) .skip (.exit 2))) (.seq (.block 3 (.seq (.ops r12) (.seq (.ops r13) (.cond (.t 84) (.seq (.ops r14) .ret) .skip)))) (.ops r11)))))) (.seq (.ops r15) .ret)))))
@[simp] noncomputable def rs : List RV := [.tmp 2]
theorem comp : compF Pg cfg Tryz.f78 = some (ir, rs, 85) := by kernel_rfl
theorem enter {args : List AVal} {h : Heap} {K : AEnd → Heap → Prop} (F : Nat) (hl : args.length ≤ 85) (a : AW ⟨Pg, F, 85, false, []⟩ ir (RetK rs K) (initT args) [] h) : ACalls Pg fn_ref01_Hull args h K :=
  ACalls.of_comp follows Tryz.func78 comp hl a
theorem pure {args : List AVal} {v : AVal} (hl : args.length ≤ 85) (a : AW ⟨Pg, 0, 85, false, []⟩ ir (RetK rs fun e _ => e = .ret v) (initT args) [] nilH) : APure Pg fn_ref01_Hull args v :=
  APure.of_nil (enter 0 hl a)
end ref01_Hull

namespace ref03_in
noncomputable def cfg : Cfg := { pure := pures, pcs := [], raw := [], cuts := [], draws := [], keep := [] }
@[simp] noncomputable def r0 (_ : Unit) : List Stp := [S 6 (.mv (.c (.bool false)))]
@[simp] noncomputable def r1 (_ : Unit) : List Stp := [S 7 (.mv (.t 1)), S 8 (.mv (.t 0)), S 9 (.bin .leq (.t 7) (.t 8)), S 10 (.mv (.t 9)), SG 11 10 true (.mv (.t 0)), SG 12 10 true (.mv (.t 2)), SG 13 10 true (.bin .leq (.t 11) (.t 12)), S 14 (.pick (.t 10) (.t 13) (.c (.bool false))), S 6 (.mv (.t 14))]
@[simp] noncomputable def ir : IR := (.seq (.ops r0) (.seq (.ops r1) .ret))
@[simp] noncomputable def rs : List RV := [.tmp 6]
theorem comp : compF Pg cfg Tryz.f79 = some (ir, rs, 15) := by kernel_rfl
theorem enter {args : List AVal} {h : Heap} {K : AEnd → Heap → Prop} (F : Nat) (hl : args.length ≤ 15) (a : AW ⟨Pg, F, 15, false, []⟩ ir (RetK rs K) (initT args) [] h) : ACalls Pg fn_ref03_in args h K :=
  ACalls.of_comp follows Tryz.func79 comp hl a
theorem pure {args : List AVal} {v : AVal} (hl : args.length ≤ 15) (a : AW ⟨Pg, 0, 15, false, []⟩ ir (RetK rs fun e _ => e = .ret v) (initT args) [] nilH) : APure Pg fn_ref03_in args v :=
  APure.of_nil (enter 0 hl a)
end ref03_in

namespace leak_Sets_1
noncomputable def cfg : Cfg := { pure := pures, pcs := [], raw := [], cuts := [], draws := [], keep := [] }
@[simp] noncomputable def r0 (_ : Unit) : List Stp := [S 1 (.recov), S 2 (.call (.c (.func (.func fn_leak_said) [] [])) [(.t 1), (.t 0)])]
@[simp] noncomputable def ir : IR := (.ops r0)
@[simp] noncomputable def rs : List RV := []
theorem comp : compF Pg cfg Tryz.f80 = some (ir, rs, 3) := by kernel_rfl
theorem enter {args : List AVal} {h : Heap} {K : AEnd → Heap → Prop} (F : Nat) (hl : args.length ≤ 3) (a : AW ⟨Pg, F, 3, false, []⟩ ir (RetK rs K) (initT args) [] h) : ACalls Pg fn_leak_Sets_1 args h K :=
  ACalls.of_comp follows Tryz.func80 comp hl a
theorem pure {args : List AVal} {v : AVal} (hl : args.length ≤ 3) (a : AW ⟨Pg, 0, 3, false, []⟩ ir (RetK rs fun e _ => e = .ret v) (initT args) [] nilH) : APure Pg fn_leak_Sets_1 args v :=
  APure.of_nil (enter 0 hl a)
theorem recClo : RecClo Pg fn_leak_Sets_1 fn_leak_said := ⟨_, Tryz.func80, by kernel_rfl⟩
end leak_Sets_1

namespace leak_said
noncomputable def cfg : Cfg := { pure := pures, pcs := [], raw := [], cuts := [], draws := [], keep := [] }
@[simp] noncomputable def r0 (_ : Unit) : List Stp := [S 6 (.mv (.t 0)), S 7 (.eqN .i false (.t 6))]
@[simp] noncomputable def r1 (_ : Unit) : List Stp := [S 9 (.mv (.t 0)), S 10 (.tyAs 153 true (.agg [(.int .i64 0)]) (.t 9)), S 8 (.mv (.t 10)), S 11 (.ext (.t 8) 0), S 12 (.ext (.t 8) 1), S 4 (.alloc [(.int .i64 0)]), SN (.store 1 (.t 4) (.t 11)), S 5 (.mv (.t 12))]
@[simp] noncomputable def r2 (_ : Unit) : List Stp := [S 13 (.mv (.t 5)), S 14 (.un .not (.t 13))]
@[simp] noncomputable def r3 (_ : Unit) : List Stp := [S 15 (.mv (.t 0)), SN (.panic (.t 15))]
@[simp] noncomputable def r4 (_ : Unit) : List Stp := [S 16 (.mv (.t 1)), S 17 (.fAddr 0 (.t 4)), S 18 (.load false 1 (.t 17)), S 19 (.nilck Pg (.t 16)), SN (.store 1 (.t 19) (.t 18))]
@[simp] noncomputable def ir : IR := (.seq (.seq (.ops r0) (.cond (.t 7) .ret .skip)) (.seq (.ops r1) (.seq (.seq (.ops r2) (.cond (.t 14) (.ops r3) .skip)) (.ops r4))))
@[simp] noncomputable def rs : List RV := []
theorem comp : compF Pg cfg Tryz.f81 = some (ir, rs, 20) := by kernel_rfl
theorem enter {args : List AVal} {h : Heap} {K : AEnd → Heap → Prop} (F : Nat) (hl : args.length ≤ 20) (a : AW ⟨Pg, F, 20, false, []⟩ ir (RetK rs K) (initT args) [] h) : ACalls Pg fn_leak_said args h K :=
  ACalls.of_comp follows Tryz.func81 comp hl a
theorem pure {args : List AVal} {v : AVal} (hl : args.length ≤ 20) (a : AW ⟨Pg, 0, 20, false, []⟩ ir (RetK rs fun e _ => e = .ret v) (initT args) [] nilH) : APure Pg fn_leak_said args v :=
  APure.of_nil (enter 0 hl a)
end leak_said

namespace leak_open
noncomputable def cfg : Cfg := { pure := pures, pcs := [], raw := [], cuts := [], draws := [(7, [⟨0, false, [], []⟩, ⟨1, false, [], []⟩, ⟨2, false, [], []⟩, ⟨3, false, [], []⟩, ⟨5, false, [], []⟩, ⟨4, false, [], []⟩, ⟨6, false, [], []⟩, ⟨7, true, [], []⟩, ⟨8, false, [], []⟩, ⟨9, false, [], []⟩, ⟨10, false, [], []⟩, ⟨11, false, [], []⟩])], keep := [] }
@[simp] noncomputable def r0 (_ : Unit) : List Stp := [S 2 (.box (.t 0)), S 4 (.mv (.c .nilp))]
@[simp] noncomputable def r1 (_ : Unit) : List Stp := [S 10 (.fAddr 0 (.t 2)), S 11 (.load false 1 (.t 10)), S 12 (.len (.t 11)), SP 13 (.call (.c (.func (.func fn_leak_within) [] [])) [(.t 12), (.c (.int .i64 1)), (.c (.int .i64 6))]), S 14 (.mv (.t 13)), SG 15 14 true (.fAddr 1 (.t 2)), SG 16 14 true (.load false 1 (.t 15)), SG 17 14 true (.len (.t 16)), SG 18 14 true (.bin .leq (.t 17) (.c (.int .i64 8))), S 19 (.pick (.t 14) (.t 18) (.c (.bool false))), S 20 (.call (.c (.func (.func fn_leak_want) [] [])) [(.t 19), (.c (.int .i64 1))])]
@[simp] noncomputable def r2 (_ : Unit) : List Stp := [S 21 (.load true 2 (.t 2)), S 22 (.mkmap), S 23 (.build [.nils, .nils, .nils, .nilm] [(0, 2, (.t 21)), (3, 1, (.t 22))]), S 24 (.box (.t 23)), S 5 (.mv (.t 24))]
@[simp] noncomputable def r3 (_ : Unit) : List Stp := [S 25 (.fAddr 0 (.t 2)), S 26 (.load false 1 (.t 25)), S 27 (.len (.t 26)), S 28 (.mv (.c (.int .i64 0)))]
@[simp] noncomputable def r4 (_ : Unit) : List Stp := [S 29 (.bin .lss (.t 28) (.t 27))]
@[simp] noncomputable def r5 (_ : Unit) : List Stp := [S 30 (.ixS 3 (.t 26) (.t 28)), S 31 (.load true 3 (.t 30)), S 7 (.alloc [(.int .i64 0), (.int .i64 0), (.int .i64 0)]), SN (.store 3 (.t 7) (.t 31))]
@[simp] noncomputable def r6 (_ : Unit) : List Stp := [S 32 (.fAddr 0 (.t 7)), S 33 (.load false 1 (.t 32)), SP 34 (.call (.c (.func (.func fn_leak_within) [] [])) [(.t 33), (.c (.int .i64 0)), (.c (.int .i64 12))]), S 35 (.mv (.t 34)), SG 36 35 true (.fAddr 1 (.t 7)), SG 37 35 true (.load false 1 (.t 36)), SGP 38 35 true (.call (.c (.func (.func fn_leak_within) [] [])) [(.t 37), (.c (.int .i64 (-1))), (.c (.int .i64 1))]), S 39 (.pick (.t 35) (.t 38) (.c (.bool false))), S 40 (.mv (.t 39)), SG 41 40 true (.fAddr 2 (.t 7)), SG 42 40 true (.load false 1 (.t 41)), SGP 43 40 true (.call (.c (.func (.func fn_leak_within) [] [])) [(.t 42), (.c (.int .i64 0)), (.c (.int .i64 4))]), S 44 (.pick (.t 40) (.t 43) (.c (.bool false))), S 45 (.call (.c (.func (.func fn_leak_want) [] [])) [(.t 44), (.c (.int .i64 1))])]
@[simp] noncomputable def r7 (_ : Unit) : List Stp := [S 46 (.mv (.t 5)), S 47 (.mv (.t 5)), S 48 (.nilck Pg (.t 47)), S 49 (.fAddr 2 (.t 48)), S 51 (.fAddr 2 (.t 7)), S 50 (.load false 1 (.t 49)), S 52 (.load false 1 (.t 51)), SD (some 53) (.bsl 1 [(.int .i64 0)] [(0, 1, (.t 52))]) true [] [], S 54 (.app 1 8 (.t 50) (.t 53)), S 55 (.nilck Pg (.t 46)), S 56 (.fAddr 2 (.t 55)), SN (.store 1 (.t 56) (.t 54))]
@[simp] noncomputable def r8 (_ : Unit) : List Stp := [S 57 (.bin .add (.t 28) (.c (.int .i64 1))), S 28 (.mv (.t 57))]
@[simp] noncomputable def r9 (_ : Unit) : List Stp := [S 58 (.fAddr 1 (.t 2)), S 59 (.load false 1 (.t 58)), S 60 (.len (.t 59)), S 61 (.mv (.c (.int .i64 0)))]
@[simp] noncomputable def r10 (_ : Unit) : List Stp := [S 62 (.bin .lss (.t 61) (.t 60))]
@[simp] noncomputable def r11 (_ : Unit) : List Stp := [S 63 (.ixS 4 (.t 59) (.t 61)), S 64 (.load true 4 (.t 63)), S 9 (.alloc [(.int .i64 0), (.int .i64 0), (.int .i64 0), (.int .i64 0)]), SN (.store 4 (.t 9) (.t 64))]
@[simp] noncomputable def r12 (_ : Unit) : List Stp := [S 65 (.fAddr 0 (.t 9)), S 66 (.load false 1 (.t 65)), S 67 (.fAddr 1 (.t 9)), S 68 (.load false 1 (.t 67)), S 69 (.build [(.int .i64 0), (.int .i64 0)] [(0, 1, (.t 66)), (1, 1, (.t 68))]), SP 70 (.call (.c (.func (.func fn_leak_place_isPlace) [] [])) [(.t 69)]), S 71 (.mv (.t 70)), SG 72 71 true (.fAddr 2 (.t 9)), SG 73 71 true (.fAddr 0 (.t 72)), SG 74 71 true (.load false 1 (.t 73)), SG 75 71 true (.fAddr 2 (.t 9)), SG 76 71 true (.fAddr 1 (.t 75)), SG 77 71 true (.load false 1 (.t 76)), SGP 78 71 true (.call (.c (.func (.func fn_leak_within) [] [])) [(.t 74), (.c (.int .i64 0)), (.t 77)]), S 79 (.pick (.t 71) (.t 78) (.c (.bool false))), S 80 (.mv (.t 79)), SG 81 80 true (.fAddr 2 (.t 9)), SG 82 80 true (.fAddr 1 (.t 81)), SG 83 80 true (.load false 1 (.t 82)), SG 84 80 true (.bin .leq (.t 83) (.c (.int .i64 24))), S 85 (.pick (.t 80) (.t 84) (.c (.bool false))), S 86 (.call (.c (.func (.func fn_leak_want) [] [])) [(.t 85), (.c (.int .i64 1))])]
@[simp] noncomputable def r13 (_ : Unit) : List Stp := [S 87 (.bin .add (.t 61) (.c (.int .i64 1))), S 61 (.mv (.t 87))]
@[simp] noncomputable def r14 (_ : Unit) : List Stp := [S 88 (.mv (.t 1)), S 89 (.call (.c (.func (.func fn_leak_want) [] [])) [(.t 88), (.c (.int .i64 2))])]
@[simp] noncomputable def r15 (_ : Unit) : List Stp := [S 90 (.mv (.t 5)), S 4 (.mv (.t 90))]
@[simp] noncomputable def ir : IR := (.seq (.ops r0) (.seq (.ops r1) (.seq (.ops r2) (.seq (.seq (.ops r3) (.block 0 (.loop (.seq (.ops r4) (.seq (.cond (.t 29) .skip (.exit 0)) (.seq (.block 1 (.seq (.ops r5) (.seq (.ops r6) (.ops r7)))) (.ops r8))))))) (.seq (.seq (.ops r9) (.block 2 (.loop (.seq (.ops r10) (.seq (.cond (.t 62) .skip (.exit 2)) (.seq (.block 3 (.seq (.ops r11) (.ops r12))) (.ops r13))))))) (.seq (.ops r14) (.seq (.ops r15) .ret)))))))
@[simp] noncomputable def rs : List RV := [.tmp 4]
theorem comp : compF Pg cfg Tryz.f82 = some (ir, rs, 91) := by kernel_rfl
theorem enter {args : List AVal} {h : Heap} {K : AEnd → Heap → Prop} (F : Nat) (hl : args.length ≤ 91) (a : AW ⟨Pg, F, 91, false, []⟩ ir (RetK rs K) (initT args) [] h) : ACalls Pg fn_leak_open args h K :=
  ACalls.of_comp follows Tryz.func82 comp hl a
theorem pure {args : List AVal} {v : AVal} (hl : args.length ≤ 91) (a : AW ⟨Pg, 0, 91, false, []⟩ ir (RetK rs fun e _ => e = .ret v) (initT args) [] nilH) : APure Pg fn_leak_open args v :=
  APure.of_nil (enter 0 hl a)
end leak_open

namespace leak_hull_sets
noncomputable def cfg : Cfg := { pure := pures, pcs := [], raw := [], cuts := [], draws := [], keep := [] }
@[simp] noncomputable def r0 (_ : Unit) : List Stp := [S 2 (.mv (.c .nils))]
@[simp] noncomputable def r1 (_ : Unit) : List Stp := [S 9 (.mkmap), S 3 (.mv (.t 9))]
@[simp] noncomputable def r2 (_ : Unit) : List Stp := [S 10 (.mv (.t 0)), S 11 (.call (.c (.func (.func fn_leak_hull_truths) [] [])) [(.t 10)]), S 12 (.len (.t 11)), S 13 (.mv (.c (.int .i64 0)))]
@[simp] noncomputable def r3 (_ : Unit) : List Stp := [S 14 (.bin .lss (.t 13) (.t 12))]
@[simp] noncomputable def r4 (_ : Unit) : List Stp := [S 15 (.ixS 6 (.t 11) (.t 13)), S 16 (.load true 6 (.t 15)), S 5 (.alloc [(.int .i64 0), (.int .i64 0), (.int .i64 0), (.int .i64 0), (.int .i64 0), (.int .i64 0)]), SN (.store 6 (.t 5) (.t 16))]
@[simp] noncomputable def r5 (_ : Unit) : List Stp := [S 17 (.mv (.t 3)), S 18 (.load true 6 (.t 5)), SP 19 (.call (.c (.func (.func fn_leak_inflow_leaks) [] [])) [(.t 18)]), SN (.mapU (false, [.i]) (.t 17) (.t 19) (.c (.bool true)))]
@[simp] noncomputable def r6 (_ : Unit) : List Stp := [S 20 (.bin .add (.t 13) (.c (.int .i64 1))), S 13 (.mv (.t 20))]
@[simp] noncomputable def r7 (_ : Unit) : List Stp := [S 21 (.mv (.t 3)), S 22 (.lenM (.t 21)), S 23 (.mksl 8 [(.int .i64 0)] (.c (.int .i64 0)) (.t 22)), S 6 (.mv (.t 23))]
@[simp] noncomputable def r8 (_ : Unit) : List Stp := [S 24 (.mv (.t 3)), S 25 (.range (.t 24))]
@[simp] noncomputable def r9 (_ : Unit) : List Stp := [S 26 (.next (.t 25)), S 27 (.ext (.t 26) 0)]
@[simp] noncomputable def r10 (_ : Unit) : List Stp := [S 28 (.entry (.t 25)), S 29 (.ext (.t 28) 0), S 7 (.mv (.t 29))]
@[simp] noncomputable def r11 (_ : Unit) : List Stp := [S 30 (.mv (.t 6)), S 31 (.mv (.t 7)), S 32 (.conv .i64 (.t 31)), S 33 (.bsl 1 [(.int .i64 0)] [(0, 1, (.t 32))]), S 34 (.app 1 8 (.t 30) (.t 33)), S 6 (.mv (.t 34))]
@[simp] noncomputable def r12 (_ : Unit) : List Stp := [S 35 (.mv (.t 6)), S 36 (.len (.t 35)), S 37 (.mksl 8 [(.int .i64 0)] (.t 36) (.t 36)), S 8 (.mv (.t 37))]
@[simp] noncomputable def r13 (_ : Unit) : List Stp := [S 38 (.mv (.t 8)), S 39 (.mv (.t 6)), S 40 (.copy 1 (.t 38) (.t 39))]
@[simp] noncomputable def r14 (_ : Unit) : List Stp := [S 41 (.mv (.t 8)), S 42 (.call (.c (.func (.func fn_slices_Sort_int_int) [] [])) [(.t 41)])]
@[simp] noncomputable def r15 (_ : Unit) : List Stp := [S 43 (.mv (.t 8)), S 2 (.mv (.t 43))]
@[simp] noncomputable def ir : IR := (.seq (.ops r0) (.seq (.ops r1) (.seq (.seq (.ops r2) (.block 0 (.loop (.seq (.ops r3) (.seq (.cond (.t 14) .skip (.exit 0)) (.seq (.block 1 (.seq (.ops r4) (.ops r5))) (.ops r6))))))) (.seq (.ops r7) (.seq (.seq (.ops r8) (.block 2 (.loop (.seq (.ops r9) (.seq (.cond (.t 27) .skip (.exit 2)) (.block 3 (.seq (.ops r10) (.ops r11)))))))) (.seq (.ops r12) (.seq (.ops r13) (.seq (.ops r14) (.seq (.ops r15) .ret)))))))))
@[simp] noncomputable def rs : List RV := [.tmp 2]
theorem comp : compF Pg cfg Tryz.f83 = some (ir, rs, 44) := by kernel_rfl
theorem enter {args : List AVal} {h : Heap} {K : AEnd → Heap → Prop} (F : Nat) (hl : args.length ≤ 44) (a : AW ⟨Pg, F, 44, false, []⟩ ir (RetK rs K) (initT args) [] h) : ACalls Pg fn_leak_hull_sets args h K :=
  ACalls.of_comp follows Tryz.func83 comp hl a
theorem pure {args : List AVal} {v : AVal} (hl : args.length ≤ 44) (a : AW ⟨Pg, 0, 44, false, []⟩ ir (RetK rs fun e _ => e = .ret v) (initT args) [] nilH) : APure Pg fn_leak_hull_sets args v :=
  APure.of_nil (enter 0 hl a)
end leak_hull_sets

namespace ref01_Has
noncomputable def cfg : Cfg := { pure := pures, pcs := [], raw := [], cuts := [], draws := [], keep := [] }
@[simp] noncomputable def r0 (_ : Unit) : List Stp := [S 4 (.mv (.c (.bool false)))]
@[simp] noncomputable def r1 (_ : Unit) : List Stp := [S 5 (.mv (.t 0)), S 6 (.mv (.t 1)), SP 7 (.call (.c (.func (.func fn_ref01_power) [] [])) [(.t 6)]), S 8 (.bin .quo (.t 5) (.t 7)), S 9 (.bin .rem (.t 8) (.c (.int .i64 2))), S 10 (.bin .eql (.t 9) (.c (.int .i64 1))), S 4 (.mv (.t 10))]
@[simp] noncomputable def ir : IR := (.seq (.ops r0) (.seq (.ops r1) .ret))
@[simp] noncomputable def rs : List RV := [.tmp 4]
theorem comp : compF Pg cfg Tryz.f84 = some (ir, rs, 11) := by kernel_rfl
theorem enter {args : List AVal} {h : Heap} {K : AEnd → Heap → Prop} (F : Nat) (hl : args.length ≤ 11) (a : AW ⟨Pg, F, 11, false, []⟩ ir (RetK rs K) (initT args) [] h) : ACalls Pg fn_ref01_Has args h K :=
  ACalls.of_comp follows Tryz.func84 comp hl a
theorem pure {args : List AVal} {v : AVal} (hl : args.length ≤ 11) (a : AW ⟨Pg, 0, 11, false, []⟩ ir (RetK rs fun e _ => e = .ret v) (initT args) [] nilH) : APure Pg fn_ref01_Has args v :=
  APure.of_nil (enter 0 hl a)
end ref01_Has


namespace leak_hull_truths
noncomputable def cfg : Cfg := { pure := pures, pcs := [], raw := [], cuts := [], draws := [], keep := [] }
@[simp] noncomputable def r0 (_ : Unit) : List Stp := [S 2 (.mv (.c .nils))]
@[simp] noncomputable def r1 (_ : Unit) : List Stp := [S 4 (.mv (.t 0)), S 5 (.mv (.t 0)), S 6 (.call (.c (.func (.func fn_leak_hull_every) [] [])) [(.t 5)]), S 7 (.call (.c (.func (.func fn_leak_hull_inflows) [] [])) [(.t 4), (.t 6)]), S 8 (.call (.c (.func (.func fn_slices_Collect_leak_inflow) [] [])) [(.t 7)]), S 3 (.mv (.t 8))]
@[simp] noncomputable def r2 (_ : Unit) : List Stp := [S 9 (.mv (.t 3)), S 10 (.len (.t 9)), S 11 (.bin .gtr (.t 10) (.c (.int .i64 0))), S 12 (.call (.c (.func (.func fn_leak_want) [] [])) [(.t 11), (.c (.int .i64 10))])]
@[simp] noncomputable def r3 (_ : Unit) : List Stp := [S 13 (.mv (.t 3)), S 2 (.mv (.t 13))]
@[simp] noncomputable def ir : IR := (.seq (.ops r0) (.seq (.ops r1) (.seq (.ops r2) (.seq (.ops r3) .ret))))
@[simp] noncomputable def rs : List RV := [.tmp 2]
theorem comp : compF Pg cfg Tryz.f86 = some (ir, rs, 14) := by kernel_rfl
theorem enter {args : List AVal} {h : Heap} {K : AEnd → Heap → Prop} (F : Nat) (hl : args.length ≤ 14) (a : AW ⟨Pg, F, 14, false, []⟩ ir (RetK rs K) (initT args) [] h) : ACalls Pg fn_leak_hull_truths args h K :=
  ACalls.of_comp follows Tryz.func86 comp hl a
theorem pure {args : List AVal} {v : AVal} (hl : args.length ≤ 14) (a : AW ⟨Pg, 0, 14, false, []⟩ ir (RetK rs fun e _ => e = .ret v) (initT args) [] nilH) : APure Pg fn_leak_hull_truths args v :=
  APure.of_nil (enter 0 hl a)
end leak_hull_truths

namespace leak_inflow_leaks
noncomputable def cfg : Cfg := { pure := pures, pcs := [], raw := [], cuts := [], draws := [], keep := [] }
@[simp] noncomputable def r0 (_ : Unit) : List Stp := [S 1 (.box (.t 0)), S 2 (.mv (.c (.int .u64 0)))]
@[simp] noncomputable def r1 (_ : Unit) : List Stp := [S 5 (.load true 6 (.t 1)), S 6 (.mv (.c (.int .i64 0)))]
@[simp] noncomputable def r2 (_ : Unit) : List Stp := [S 7 (.bin .lss (.t 6) (.c (.int .i64 6)))]
@[simp] noncomputable def r3 (_ : Unit) : List Stp := [S 8 (.mv (.t 6)), S 9 (.ixV 6 1 false (.t 5) (.t 6)), S 3 (.mv (.t 8)), S 4 (.mv (.t 9))]
@[simp] noncomputable def r4 (_ : Unit) : List Stp := [S 10 (.mv (.t 4)), S 11 (.bin .gtr (.t 10) (.c (.int .i64 0)))]
@[simp] noncomputable def r5 (_ : Unit) : List Stp := [S 12 (.mv (.t 2)), S 13 (.mv (.t 3)), S 14 (.bin .shl (.c (.int .u64 1)) (.t 13)), S 15 (.bin .or (.t 12) (.t 14)), S 2 (.mv (.t 15))]
@[simp] noncomputable def r6 (_ : Unit) : List Stp := [S 16 (.bin .add (.t 6) (.c (.int .i64 1))), S 6 (.mv (.t 16))]
@[simp] noncomputable def r7 (_ : Unit) : List Stp := [S 17 (.mv (.t 2)), S 2 (.mv (.t 17))]
@[simp] noncomputable def ir : IR := (.seq (.ops r0) (.seq (.seq (.ops r1) (.block 0 (.loop (.seq (.ops r2) (.seq (.cond (.t 7) .skip (.exit 0)) (.seq (.block 1 (.seq (.ops r3) (.seq (.ops r4) (.cond (.t 11) (.ops r5) .skip)))) (.ops r6))))))) (.seq (.ops r7) .ret)))
@[simp] noncomputable def rs : List RV := [.tmp 2]
theorem comp : compF Pg cfg Tryz.f87 = some (ir, rs, 18) := by kernel_rfl
theorem enter {args : List AVal} {h : Heap} {K : AEnd → Heap → Prop} (F : Nat) (hl : args.length ≤ 18) (a : AW ⟨Pg, F, 18, false, []⟩ ir (RetK rs K) (initT args) [] h) : ACalls Pg fn_leak_inflow_leaks args h K :=
  ACalls.of_comp follows Tryz.func87 comp hl a
theorem pure {args : List AVal} {v : AVal} (hl : args.length ≤ 18) (a : AW ⟨Pg, 0, 18, false, []⟩ ir (RetK rs fun e _ => e = .ret v) (initT args) [] nilH) : APure Pg fn_leak_inflow_leaks args v :=
  APure.of_nil (enter 0 hl a)
end leak_inflow_leaks

namespace rake_check
noncomputable def cfg : Cfg := { pure := pures, pcs := [], raw := [], cuts := [], draws := [], keep := [] }
@[simp] noncomputable def r0 (_ : Unit) : List Stp := [S 3 (.box (.t 0))]
@[simp] noncomputable def r1 (_ : Unit) : List Stp := [S 15 (.fAddr 0 (.t 3)), S 16 (.load true 2 (.t 15)), SP 17 (.call (.c (.func (.func fn_leak_Rate) [] [])) [(.t 16), (.c (.int .i64 (-1)))]), S 14 (.mv (.t 17)), S 18 (.ext (.t 14) 0), S 19 (.ext (.t 14) 1), S 6 (.alloc [(.int .i64 0), (.int .i64 0)]), SN (.store 2 (.t 6) (.t 18)), S 7 (.mv (.t 19))]
@[simp] noncomputable def r2 (_ : Unit) : List Stp := [S 8 (.mv (.c (.func (.func fn_rake_check_1) [] [])))]
@[simp] noncomputable def r3 (_ : Unit) : List Stp := [S 20 (.mv (.t 7)), S 21 (.bin .eql (.t 20) (.c (.int .i64 2))), S 22 (.mv (.t 21)), SG 23 22 true (.fAddr 2 (.t 3)), SG 24 22 true (.load false 1 (.t 23)), SG 25 22 true (.len (.t 24)), SG 26 22 true (.fAddr 0 (.t 3)), SG 27 22 true (.fAddr 0 (.t 26)), SG 28 22 true (.load false 1 (.t 27)), SG 29 22 true (.len (.t 28)), SG 30 22 true (.bin .eql (.t 25) (.t 29)), S 31 (.pick (.t 22) (.t 30) (.c (.bool false))), S 32 (.mv (.t 31)), SG 33 32 true (.fAddr 2 (.t 3)), SG 34 32 true (.load false 1 (.t 33)), SG 35 32 true (.mv (.t 8)), SG 36 32 true (.call (.c (.func (.func fn_slices_ContainsFunc_int_int) [] [])) [(.t 34), (.t 35)]), SG 37 32 true (.un .not (.t 36)), S 38 (.pick (.t 32) (.t 37) (.c (.bool false))), S 39 (.call (.c (.func (.func fn_rake_want) [] [])) [(.t 38), (.c (.int .i64 1))])]
@[simp] noncomputable def r4 (_ : Unit) : List Stp := [S 40 (.mv (.t 1)), S 41 (.len (.t 40)), S 42 (.mv (.c (.int .i64 0)))]
@[simp] noncomputable def r5 (_ : Unit) : List Stp := [S 43 (.bin .lss (.t 42) (.t 41))]
@[simp] noncomputable def r6 (_ : Unit) : List Stp := [S 44 (.ixS 2 (.t 40) (.t 42)), S 45 (.load true 2 (.t 44)), S 10 (.alloc [(.int .i64 0), (.bool false)]), SN (.store 2 (.t 10) (.t 45))]
@[simp] noncomputable def r7 (_ : Unit) : List Stp := [S 46 (.fAddr 0 (.t 10)), S 47 (.load false 1 (.t 46)), S 48 (.fAddr 2 (.t 3)), S 49 (.load false 1 (.t 48)), S 50 (.len (.t 49)), S 51 (.bin .sub (.t 50) (.c (.int .i64 1))), SP 52 (.call (.c (.func (.func fn_rake_within) [] [])) [(.t 47), (.c (.int .i64 0)), (.t 51)]), S 53 (.call (.c (.func (.func fn_rake_want) [] [])) [(.t 52), (.c (.int .i64 2))])]
@[simp] noncomputable def r8 (_ : Unit) : List Stp := [S 54 (.bin .add (.t 42) (.c (.int .i64 1))), S 42 (.mv (.t 54))]
@[simp] noncomputable def r9 (_ : Unit) : List Stp := [S 55 (.mv (.t 2)), S 56 (.call (.c (.func (.func fn_rake_want) [] [])) [(.t 55), (.c (.int .i64 2))])]
@[simp] noncomputable def r10 (_ : Unit) : List Stp := [S 11 (.alloc [(.int .i64 0), (.int .i64 0)])]
@[simp] noncomputable def r11 (_ : Unit) : List Stp := [S 57 (.mv (.t 1)), S 58 (.len (.t 57)), S 59 (.mv (.c (.int .i64 0)))]
@[simp] noncomputable def r12 (_ : Unit) : List Stp := [S 60 (.bin .lss (.t 59) (.t 58))]
@[simp] noncomputable def r13 (_ : Unit) : List Stp := [S 61 (.ixS 2 (.t 57) (.t 59)), S 62 (.load true 2 (.t 61)), S 13 (.alloc [(.int .i64 0), (.bool false)]), SN (.store 2 (.t 13) (.t 62))]
@[simp] noncomputable def r14 (_ : Unit) : List Stp := [S 63 (.fAddr 0 (.t 11)), S 64 (.load false 1 (.t 63)), S 65 (.fAddr 0 (.t 13)), S 66 (.load false 1 (.t 65)), S 67 (.bin .shr (.t 64) (.t 66)), S 68 (.bin .and (.t 67) (.c (.int .i64 1))), S 69 (.bin .eql (.t 68) (.c (.int .i64 0))), S 70 (.call (.c (.func (.func fn_rake_want) [] [])) [(.t 69), (.c (.int .i64 5))])]
@[simp] noncomputable def r15 (_ : Unit) : List Stp := [S 71 (.load true 2 (.t 11)), S 72 (.fAddr 0 (.t 13)), S 73 (.load false 1 (.t 72)), S 74 (.fAddr 1 (.t 13)), S 75 (.load false 1 (.t 74)), SP 76 (.call (.c (.func (.func fn_rake_known_with) [] [])) [(.t 71), (.t 73), (.t 75)]), SN (.store 2 (.t 11) (.t 76))]
@[simp] noncomputable def r16 (_ : Unit) : List Stp := [S 77 (.bin .add (.t 59) (.c (.int .i64 1))), S 59 (.mv (.t 77))]
@[simp] noncomputable def ir : IR := (.seq (.ops r0) (.seq (.ops r1) (.seq (.ops r2) (.seq (.ops r3) (.seq (.seq (.ops r4) (.block 0 (.loop (.seq (.ops r5) (.seq (.cond (.t 43) .skip (.exit 0)) (.seq (.block 1 (.seq (.ops r6) (.ops r7))) (.ops r8))))))) (.seq (.ops r9) (.seq (.ops r10) (.seq (.ops r11) (.block 2 (.loop (.seq (.ops r12) (.seq (.cond (.t 60) .skip (.exit 2)) (.seq (.block 3 (.seq (.ops r13) (.seq (.ops r14) (.ops r15)))) (.ops r16))))))))))))))
@[simp] noncomputable def rs : List RV := []
theorem comp : compF Pg cfg Tryz.f88 = some (ir, rs, 78) := by kernel_rfl
theorem enter {args : List AVal} {h : Heap} {K : AEnd → Heap → Prop} (F : Nat) (hl : args.length ≤ 78) (a : AW ⟨Pg, F, 78, false, []⟩ ir (RetK rs K) (initT args) [] h) : ACalls Pg fn_rake_check args h K :=
  ACalls.of_comp follows Tryz.func88 comp hl a
theorem pure {args : List AVal} {v : AVal} (hl : args.length ≤ 78) (a : AW ⟨Pg, 0, 78, false, []⟩ ir (RetK rs fun e _ => e = .ret v) (initT args) [] nilH) : APure Pg fn_rake_check args v :=
  APure.of_nil (enter 0 hl a)
end rake_check

namespace rake_known_with
noncomputable def cfg : Cfg := { pure := pures, pcs := [], raw := [], cuts := [], draws := [(1, [⟨0, false, [], []⟩, ⟨2, false, [], []⟩, ⟨3, false, [], []⟩, ⟨1, false, [], []⟩, ⟨4, false, [], []⟩, ⟨5, false, [], []⟩, ⟨6, false, [], []⟩]), (3, [⟨0, false, [], []⟩, ⟨2, false, [], []⟩, ⟨3, false, [], []⟩, ⟨1, false, [], []⟩, ⟨4, false, [], []⟩, ⟨5, false, [], []⟩, ⟨6, false, [], []⟩])], keep := [] }
@[simp] noncomputable def r0 (_ : Unit) : List Stp := [S 3 (.box (.t 0)), S 6 (.alloc [(.int .i64 0), (.int .i64 0)])]
@[simp] noncomputable def r1 (_ : Unit) : List Stp := [S 7 (.fAddr 0 (.t 3)), S 9 (.mv (.t 1)), S 10 (.bin .shl (.c (.int .i64 1)) (.t 9)), S 8 (.load false 1 (.t 7)), S 11 (.bin .or (.t 8) (.t 10)), S 12 (.fAddr 0 (.t 3)), SN (.store 1 (.t 12) (.t 11))]
@[simp] noncomputable def r2 (_ : Unit) : List Stp := [S 13 (.mv (.t 2))]
@[simp] noncomputable def r3 (_ : Unit) : List Stp := [S 14 (.fAddr 1 (.t 3)), S 16 (.mv (.t 1)), S 17 (.bin .shl (.c (.int .i64 1)) (.t 16)), S 15 (.load false 1 (.t 14)), S 18 (.bin .or (.t 15) (.t 17)), S 19 (.fAddr 1 (.t 3)), SN (.store 1 (.t 19) (.t 18))]
@[simp] noncomputable def r4 (_ : Unit) : List Stp := [S 20 (.load true 2 (.t 3)), SN (.store 2 (.t 6) (.t 20))]
@[simp] noncomputable def ir : IR := (.seq (.ops r0) (.seq (.ops r1) (.seq (.seq (.ops r2) (.cond (.t 13) (.ops r3) .skip)) (.seq (.ops r4) .ret))))
@[simp] noncomputable def rs : List RV := [.cell 6 true 2]
theorem comp : compF Pg cfg Tryz.f89 = some (ir, rs, 21) := by kernel_rfl
theorem enter {args : List AVal} {h : Heap} {K : AEnd → Heap → Prop} (F : Nat) (hl : args.length ≤ 21) (a : AW ⟨Pg, F, 21, false, []⟩ ir (RetK rs K) (initT args) [] h) : ACalls Pg fn_rake_known_with args h K :=
  ACalls.of_comp follows Tryz.func89 comp hl a
theorem pure {args : List AVal} {v : AVal} (hl : args.length ≤ 21) (a : AW ⟨Pg, 0, 21, false, []⟩ ir (RetK rs fun e _ => e = .ret v) (initT args) [] nilH) : APure Pg fn_rake_known_with args v :=
  APure.of_nil (enter 0 hl a)
end rake_known_with

namespace rake_known_agrees
noncomputable def cfg : Cfg := { pure := pures, pcs := [], raw := [], cuts := [], draws := [], keep := [] }
@[simp] noncomputable def r0 (_ : Unit) : List Stp := [S 2 (.box (.t 0)), S 4 (.mv (.c (.bool false)))]
@[simp] noncomputable def r1 (_ : Unit) : List Stp := [S 5 (.mv (.t 1)), S 6 (.fAddr 0 (.t 2)), S 7 (.load false 1 (.t 6)), S 8 (.bin .and (.t 5) (.t 7)), S 9 (.fAddr 1 (.t 2)), S 10 (.load false 1 (.t 9)), S 11 (.bin .eql (.t 8) (.t 10)), S 4 (.mv (.t 11))]
@[simp] noncomputable def ir : IR := (.seq (.ops r0) (.seq (.ops r1) .ret))
@[simp] noncomputable def rs : List RV := [.tmp 4]
theorem comp : compF Pg cfg Tryz.f90 = some (ir, rs, 12) := by kernel_rfl
theorem enter {args : List AVal} {h : Heap} {K : AEnd → Heap → Prop} (F : Nat) (hl : args.length ≤ 12) (a : AW ⟨Pg, F, 12, false, []⟩ ir (RetK rs K) (initT args) [] h) : ACalls Pg fn_rake_known_agrees args h K :=
  ACalls.of_comp follows Tryz.func90 comp hl a
theorem pure {args : List AVal} {v : AVal} (hl : args.length ≤ 12) (a : AW ⟨Pg, 0, 12, false, []⟩ ir (RetK rs fun e _ => e = .ret v) (initT args) [] nilH) : APure Pg fn_rake_known_agrees args v :=
  APure.of_nil (enter 0 hl a)
end rake_known_agrees




namespace rake_hull_plan_1
noncomputable def cfg : Cfg := { pure := pures, pcs := [], raw := [], cuts := [], draws := [(6, [⟨0, false, [], []⟩, ⟨2, false, [], []⟩, ⟨1, false, [], []⟩, ⟨4, false, [], []⟩, ⟨3, false, [], []⟩, ⟨5, false, [], []⟩]), (16, [⟨0, false, [], []⟩, ⟨2, false, [], []⟩, ⟨1, false, [], []⟩, ⟨4, false, [], []⟩, ⟨3, false, [], []⟩, ⟨5, false, [], []⟩])], keep := [] }
@[simp] noncomputable def r0 (_ : Unit) : List Stp := [S 5 (.box (.t 0)), S 6 (.mv (.c (.int .i64 0))), S 7 (.mv (.c (.int .i64 0)))]
@[simp] noncomputable def r1 (_ : Unit) : List Stp := [S 14 (.load false 1 (.t 1)), S 15 (.load true 2 (.t 5)), S 16 (.call (.c (.func (.func fn_rake_hull_agreeing) [] [])) [(.t 14), (.t 15)]), S 8 (.mv (.t 16))]
@[simp] noncomputable def r2 (_ : Unit) : List Stp := [S 17 (.load false 1 (.t 2)), S 18 (.load true 2 (.t 5)), S 19 (.mv (.t 8)), S 20 (.inv (.t 17) "caulkworks/rake.done" [(.t 18), (.t 19)]), S 21 (.mv (.t 20)), SG 22 21 false (.mv (.t 8)), SG 23 21 false (.len (.t 22)), SG 24 21 false (.bin .eql (.t 23) (.c (.int .i64 0))), S 25 (.pick (.t 21) (.c (.bool true)) (.t 24))]
@[simp] noncomputable def r3 (_ : Unit) : List Stp := [S 6 (.mv (.c (.int .i64 0))), S 7 (.mv (.c (.int .i64 0)))]
@[simp] noncomputable def r4 (_ : Unit) : List Stp := [S 27 (.load false 1 (.t 3)), S 28 (.load true 2 (.t 5)), S 29 (.lookup (true, [.i, .i]) true (.agg [(.int .i64 0), (.int .i64 0)]) (.t 27) (.t 28)), S 26 (.mv (.t 29)), S 30 (.ext (.t 26) 0), S 31 (.ext (.t 26) 1), S 9 (.alloc [(.int .i64 0), (.int .i64 0)]), SN (.store 2 (.t 9) (.t 30)), S 10 (.mv (.t 31))]
@[simp] noncomputable def r5 (_ : Unit) : List Stp := [S 32 (.mv (.t 10))]
@[simp] noncomputable def r6 (_ : Unit) : List Stp := [S 33 (.fAddr 0 (.t 9)), S 35 (.fAddr 1 (.t 9)), S 34 (.load false 1 (.t 33)), S 6 (.mv (.t 34)), S 36 (.load false 1 (.t 35)), S 7 (.mv (.t 36))]
@[simp] noncomputable def r7 (_ : Unit) : List Stp := [S 37 (.load false 1 (.t 1)), S 38 (.nilck Pg (.t 37)), S 39 (.fAddr 0 (.t 38)), S 40 (.load true 6 (.t 39)), S 41 (.mkF (.func fn_rake_lengths_of) [(.t 40)] []), S 11 (.alloc [.nilf]), SN (.store 1 (.t 11) (.t 41))]
@[simp] noncomputable def r8 (_ : Unit) : List Stp := [S 42 (.mkF (.func fn_rake_hull_plan_1_1) [] [(.t 4), (.t 5), (.t 11)]), S 43 (.build [(.bool false), (.int .i64 0), (.int .i64 0), .nilf] [(3, 1, (.t 42))]), S 12 (.alloc [(.bool false), (.int .i64 0), (.int .i64 0), .nilf]), SN (.store 4 (.t 12) (.t 43))]
@[simp] noncomputable def r9 (_ : Unit) : List Stp := [S 44 (.load false 1 (.t 1)), S 45 (.nilck Pg (.t 44)), S 46 (.fAddr 6 (.t 45)), S 47 (.load false 1 (.t 46)), S 48 (.mv (.c (.int .i64 0)))]
@[simp] noncomputable def r10 (_ : Unit) : List Stp := [S 49 (.bin .lss (.t 48) (.t 47))]
@[simp] noncomputable def r11 (_ : Unit) : List Stp := [S 50 (.mv (.t 48)), S 13 (.mv (.t 50))]
@[simp] noncomputable def r12 (_ : Unit) : List Stp := [S 51 (.fAddr 0 (.t 5)), S 52 (.load false 1 (.t 51)), S 53 (.mv (.t 13)), S 54 (.bin .shr (.t 52) (.t 53)), S 55 (.bin .and (.t 54) (.c (.int .i64 1))), S 56 (.bin .eql (.t 55) (.c (.int .i64 1)))]
@[simp] noncomputable def r13 (_ : Unit) : List Stp := [S 57 (.mv (.t 13)), S 58 (.call (.c (.func (.func fn_rake_best_int_see) [] [])) [(.t 12), (.t 57)])]
@[simp] noncomputable def r14 (_ : Unit) : List Stp := [S 59 (.bin .add (.t 48) (.c (.int .i64 1))), S 48 (.mv (.t 59))]
@[simp] noncomputable def r15 (_ : Unit) : List Stp := [S 60 (.load false 1 (.t 3)), S 61 (.load true 2 (.t 5)), S 62 (.fAddr 1 (.t 12)), S 63 (.load false 1 (.t 62)), S 64 (.fAddr 2 (.t 12)), S 65 (.load false 1 (.t 64)), S 66 (.build [(.int .i64 0), (.int .i64 0)] [(0, 1, (.t 63)), (1, 1, (.t 65))]), SN (.mapU (true, [.i, .i]) (.t 60) (.t 61) (.t 66))]
@[simp] noncomputable def r16 (_ : Unit) : List Stp := [S 67 (.fAddr 1 (.t 12)), S 69 (.fAddr 2 (.t 12)), S 68 (.load false 1 (.t 67)), S 6 (.mv (.t 68)), S 70 (.load false 1 (.t 69)), S 7 (.mv (.t 70))]
@[simp] noncomputable def ir : IR := (.seq (.ops r0) (.seq (.ops r1) (.seq (.seq (.ops r2) (.cond (.t 25) (.seq (.ops r3) .ret) .skip)) (.seq (.seq (.ops r4) (.seq (.ops r5) (.cond (.t 32) (.seq (.ops r6) .ret) .skip))) (.seq (.ops r7) (.seq (.ops r8) (.seq .skip (.seq (.seq (.ops r9) (.block 0 (.loop (.seq (.ops r10) (.seq (.cond (.t 49) .skip (.exit 0)) (.seq (.block 1 (.seq (.ops r11) (.seq (.seq (.ops r12) (.cond (.t 56) (.exit 1) .skip)) (.ops r13)))) (.ops r14))))))) (.seq (.ops r15) (.seq (.ops r16) .ret))))))))))
@[simp] noncomputable def rs : List RV := [.tmp 6, .tmp 7]
theorem comp : compF Pg cfg Tryz.f94 = some (ir, rs, 71) := by kernel_rfl
theorem enter {args : List AVal} {h : Heap} {K : AEnd → Heap → Prop} (F : Nat) (hl : args.length ≤ 71) (a : AW ⟨Pg, F, 71, false, []⟩ ir (RetK rs K) (initT args) [] h) : ACalls Pg fn_rake_hull_plan_1 args h K :=
  ACalls.of_comp follows Tryz.func94 comp hl a
theorem pure {args : List AVal} {v : AVal} (hl : args.length ≤ 71) (a : AW ⟨Pg, 0, 71, false, []⟩ ir (RetK rs fun e _ => e = .ret v) (initT args) [] nilH) : APure Pg fn_rake_hull_plan_1 args v :=
  APure.of_nil (enter 0 hl a)
end rake_hull_plan_1

namespace rake_lengths_of
noncomputable def cfg : Cfg := { pure := pures, pcs := [], raw := [], cuts := [], draws := [], keep := [] }
@[simp] noncomputable def r0 (_ : Unit) : List Stp := [S 2 (.box (.t 0)), S 4 (.mv (.c (.int .i64 0)))]
@[simp] noncomputable def r1 (_ : Unit) : List Stp := [S 5 (.mv (.t 1)), S 6 (.ixA 6 1 (.t 2) (.t 5)), S 7 (.load false 1 (.t 6)), S 4 (.mv (.t 7))]
@[simp] noncomputable def ir : IR := (.seq (.ops r0) (.seq (.ops r1) .ret))
@[simp] noncomputable def rs : List RV := [.tmp 4]
theorem comp : compF Pg cfg Tryz.f95 = some (ir, rs, 8) := by kernel_rfl
theorem enter {args : List AVal} {h : Heap} {K : AEnd → Heap → Prop} (F : Nat) (hl : args.length ≤ 8) (a : AW ⟨Pg, F, 8, false, []⟩ ir (RetK rs K) (initT args) [] h) : ACalls Pg fn_rake_lengths_of args h K :=
  ACalls.of_comp follows Tryz.func95 comp hl a
theorem pure {args : List AVal} {v : AVal} (hl : args.length ≤ 8) (a : AW ⟨Pg, 0, 8, false, []⟩ ir (RetK rs fun e _ => e = .ret v) (initT args) [] nilH) : APure Pg fn_rake_lengths_of args v :=
  APure.of_nil (enter 0 hl a)
end rake_lengths_of

namespace rake_hull_plan_1_1
noncomputable def cfg : Cfg := { pure := pures, pcs := [], raw := [], cuts := [], draws := [(1, [⟨2, false, [], []⟩, ⟨0, false, [], []⟩, ⟨1, false, [], []⟩, ⟨3, false, [], []⟩, ⟨4, false, [], []⟩, ⟨5, false, [], []⟩, ⟨6, false, [], []⟩, ⟨7, false, [], []⟩, ⟨8, false, [], []⟩, ⟨9, false, [], []⟩]), (2, [⟨2, false, [], []⟩, ⟨0, false, [], []⟩, ⟨1, false, [], []⟩, ⟨3, false, [], []⟩, ⟨4, false, [], []⟩, ⟨5, false, [], []⟩, ⟨6, false, [], []⟩, ⟨7, false, [], []⟩, ⟨8, false, [], []⟩, ⟨9, false, [], []⟩])], keep := [] }
@[simp] noncomputable def r0 (_ : Unit) : List Stp := [S 5 (.mv (.c (.int .i64 0)))]
@[simp] noncomputable def r1 (_ : Unit) : List Stp := [S 13 (.mv (.t 0)), S 11 (.load false 1 (.t 1)), S 12 (.load true 2 (.t 2)), SP 14 (.call (.c (.func (.func fn_rake_known_with) [] [])) [(.t 12), (.t 13), (.c (.bool true))]), S 15 (.call (.t 11) [(.t 14)]), S 10 (.mv (.t 15)), S 16 (.ext (.t 10) 0), S 17 (.ext (.t 10) 1), S 6 (.mv (.t 16)), S 7 (.mv (.t 17))]
@[simp] noncomputable def r2 (_ : Unit) : List Stp := [S 21 (.mv (.t 0)), S 19 (.load false 1 (.t 1)), S 20 (.load true 2 (.t 2)), SP 22 (.call (.c (.func (.func fn_rake_known_with) [] [])) [(.t 20), (.t 21), (.c (.bool false))]), S 23 (.call (.t 19) [(.t 22)]), S 18 (.mv (.t 23)), S 24 (.ext (.t 18) 0), S 25 (.ext (.t 18) 1), S 8 (.mv (.t 24)), S 9 (.mv (.t 25))]
@[simp] noncomputable def r3 (_ : Unit) : List Stp := [S 26 (.load false 1 (.t 3)), S 27 (.mv (.t 0)), S 28 (.call (.t 26) [(.t 27)]), S 29 (.mv (.t 7)), S 30 (.mv (.t 9)), S 31 (.bsl 2 [(.int .i64 0), (.int .i64 0)] [(0, 1, (.t 29)), (1, 1, (.t 30))]), S 32 (.call (.c (.func (.func fn_rake_greatest) [] [])) [(.t 31)]), S 33 (.bin .add (.t 28) (.t 32)), S 5 (.mv (.t 33))]
@[simp] noncomputable def ir : IR := (.seq (.ops r0) (.seq (.ops r1) (.seq (.ops r2) (.seq (.ops r3) .ret))))
@[simp] noncomputable def rs : List RV := [.tmp 5]
theorem comp : compF Pg cfg Tryz.f96 = some (ir, rs, 34) := by kernel_rfl
theorem enter {args : List AVal} {h : Heap} {K : AEnd → Heap → Prop} (F : Nat) (hl : args.length ≤ 34) (a : AW ⟨Pg, F, 34, false, []⟩ ir (RetK rs K) (initT args) [] h) : ACalls Pg fn_rake_hull_plan_1_1 args h K :=
  ACalls.of_comp follows Tryz.func96 comp hl a
theorem pure {args : List AVal} {v : AVal} (hl : args.length ≤ 34) (a : AW ⟨Pg, 0, 34, false, []⟩ ir (RetK rs fun e _ => e = .ret v) (initT args) [] nilH) : APure Pg fn_rake_hull_plan_1_1 args v :=
  APure.of_nil (enter 0 hl a)
end rake_hull_plan_1_1


namespace slices_Index_int_int
noncomputable def cfg : Cfg := { pure := pures, pcs := [], raw := [], cuts := [], draws := [], keep := [] }
@[simp] noncomputable def r0 (_ : Unit) : List Stp := [S 4 (.mv (.c (.int .i64 0)))]
@[simp] noncomputable def r1 (_ : Unit) : List Stp := [S 6 (.mv (.t 0)), S 7 (.len (.t 6)), S 8 (.mv (.c (.int .i64 0)))]
@[simp] noncomputable def r2 (_ : Unit) : List Stp := [S 9 (.bin .lss (.t 8) (.t 7))]
@[simp] noncomputable def r3 (_ : Unit) : List Stp := [S 10 (.mv (.t 8)), S 5 (.mv (.t 10))]
@[simp] noncomputable def r4 (_ : Unit) : List Stp := [S 11 (.mv (.t 1)), S 12 (.mv (.t 0)), S 13 (.mv (.t 5)), S 14 (.ixS 1 (.t 12) (.t 13)), S 15 (.load false 1 (.t 14)), S 16 (.bin .eql (.t 11) (.t 15))]
@[simp] noncomputable def r5 (_ : Unit) : List Stp := [S 17 (.mv (.t 5)), S 4 (.mv (.t 17))]
@[simp] noncomputable def r6 (_ : Unit) : List Stp := [S 18 (.bin .add (.t 8) (.c (.int .i64 1))), S 8 (.mv (.t 18))]
@[simp] noncomputable def r7 (_ : Unit) : List Stp := [S 4 (.mv (.c (.int .i64 (-1))))]
@[simp] noncomputable def ir : IR := (.seq (.ops r0) (.seq (.seq (.ops r1) (.block 0 (.loop (.seq (.ops r2) (.seq (.cond (.t 9) .skip (.exit 0)) (.seq (.block 1 (.seq (.ops r3) (.seq (.ops r4) (.cond (.t 16) (.seq (.ops r5) .ret) .skip)))) (.ops r6))))))) (.seq (.ops r7) .ret)))
@[simp] noncomputable def rs : List RV := [.tmp 4]
theorem comp : compF Pg cfg Tryz.f98 = some (ir, rs, 19) := by kernel_rfl
theorem enter {args : List AVal} {h : Heap} {K : AEnd → Heap → Prop} (F : Nat) (hl : args.length ≤ 19) (a : AW ⟨Pg, F, 19, false, []⟩ ir (RetK rs K) (initT args) [] h) : ACalls Pg fn_slices_Index_int_int args h K :=
  ACalls.of_comp follows Tryz.func98 comp hl a
theorem pure {args : List AVal} {v : AVal} (hl : args.length ≤ 19) (a : AW ⟨Pg, 0, 19, false, []⟩ ir (RetK rs fun e _ => e = .ret v) (initT args) [] nilH) : APure Pg fn_slices_Index_int_int args v :=
  APure.of_nil (enter 0 hl a)
end slices_Index_int_int

namespace slices_Sort_int_int
noncomputable def cfg : Cfg := { pure := pures, pcs := [], raw := [], cuts := [], draws := [], keep := [] }
@[simp] noncomputable def r0 (_ : Unit) : List Stp := [S 3 (.mv (.t 0)), S 4 (.len (.t 3)), S 2 (.mv (.t 4))]
@[simp] noncomputable def r1 (_ : Unit) : List Stp := [S 5 (.mv (.t 0)), S 6 (.mv (.t 2)), S 7 (.mv (.t 2)), S 8 (.conv .u64 (.t 7)), S 9 (.call (.c (.func (.func fn_math_bits_Len) [] [])) [(.t 8)]), S 10 (.call (.c (.func (.func fn_slices_pdqsortOrdered_int) [] [])) [(.t 5), (.c (.int .i64 0)), (.t 6), (.t 9)])]
@[simp] noncomputable def ir : IR := (.seq (.ops r0) (.ops r1))
@[simp] noncomputable def rs : List RV := []
theorem comp : compF Pg cfg Tryz.f99 = some (ir, rs, 11) := by kernel_rfl
theorem enter {args : List AVal} {h : Heap} {K : AEnd → Heap → Prop} (F : Nat) (hl : args.length ≤ 11) (a : AW ⟨Pg, F, 11, false, []⟩ ir (RetK rs K) (initT args) [] h) : ACalls Pg fn_slices_Sort_int_int args h K :=
  ACalls.of_comp follows Tryz.func99 comp hl a
theorem pure {args : List AVal} {v : AVal} (hl : args.length ≤ 11) (a : AW ⟨Pg, 0, 11, false, []⟩ ir (RetK rs fun e _ => e = .ret v) (initT args) [] nilH) : APure Pg fn_slices_Sort_int_int args v :=
  APure.of_nil (enter 0 hl a)
end slices_Sort_int_int

namespace rake_all_done
noncomputable def cfg : Cfg := { pure := pures, pcs := [], raw := [], cuts := [], draws := [], keep := [] }
@[simp] noncomputable def r0 (_ : Unit) : List Stp := [S 3 (.box (.t 0)), S 4 (.box (.t 1)), S 6 (.mv (.c (.bool false)))]
@[simp] noncomputable def r1 (_ : Unit) : List Stp := [S 7 (.mv (.t 2)), S 8 (.len (.t 7)), S 9 (.bin .leq (.t 8) (.c (.int .i64 1))), S 6 (.mv (.t 9))]
@[simp] noncomputable def ir : IR := (.seq (.ops r0) (.seq (.ops r1) .ret))
@[simp] noncomputable def rs : List RV := [.tmp 6]
theorem comp : compF Pg cfg Tryz.f100 = some (ir, rs, 10) := by kernel_rfl
theorem enter {args : List AVal} {h : Heap} {K : AEnd → Heap → Prop} (F : Nat) (hl : args.length ≤ 10) (a : AW ⟨Pg, F, 10, false, []⟩ ir (RetK rs K) (initT args) [] h) : ACalls Pg fn_rake_all_done args h K :=
  ACalls.of_comp follows Tryz.func100 comp hl a
theorem pure {args : List AVal} {v : AVal} (hl : args.length ≤ 10) (a : AW ⟨Pg, 0, 10, false, []⟩ ir (RetK rs fun e _ => e = .ret v) (initT args) [] nilH) : APure Pg fn_rake_all_done args v :=
  APure.of_nil (enter 0 hl a)
end rake_all_done

namespace ref01_in
noncomputable def cfg : Cfg := { pure := pures, pcs := [], raw := [], cuts := [], draws := [], keep := [] }
@[simp] noncomputable def r0 (_ : Unit) : List Stp := [S 6 (.mv (.c (.bool false)))]
@[simp] noncomputable def r1 (_ : Unit) : List Stp := [S 7 (.mv (.t 1)), S 8 (.mv (.t 0)), S 9 (.bin .leq (.t 7) (.t 8)), S 10 (.mv (.t 9)), SG 11 10 true (.mv (.t 0)), SG 12 10 true (.mv (.t 2)), SG 13 10 true (.bin .leq (.t 11) (.t 12)), S 14 (.pick (.t 10) (.t 13) (.c (.bool false))), S 6 (.mv (.t 14))]
@[simp] noncomputable def ir : IR := (.seq (.ops r0) (.seq (.ops r1) .ret))
@[simp] noncomputable def rs : List RV := [.tmp 6]
theorem comp : compF Pg cfg Tryz.f101 = some (ir, rs, 15) := by kernel_rfl
theorem enter {args : List AVal} {h : Heap} {K : AEnd → Heap → Prop} (F : Nat) (hl : args.length ≤ 15) (a : AW ⟨Pg, F, 15, false, []⟩ ir (RetK rs K) (initT args) [] h) : ACalls Pg fn_ref01_in args h K :=
  ACalls.of_comp follows Tryz.func101 comp hl a
theorem pure {args : List AVal} {v : AVal} (hl : args.length ≤ 15) (a : AW ⟨Pg, 0, 15, false, []⟩ ir (RetK rs fun e _ => e = .ret v) (initT args) [] nilH) : APure Pg fn_ref01_in args v :=
  APure.of_nil (enter 0 hl a)
end ref01_in

namespace ref01_power
noncomputable def cfg : Cfg := { pure := pures, pcs := [], raw := [], cuts := [], draws := [], keep := [] }
@[simp] noncomputable def r0 (_ : Unit) : List Stp := [S 2 (.mv (.c (.int .i64 0)))]
@[simp] noncomputable def r1 (_ : Unit) : List Stp := [S 3 (.mv (.c (.int .i64 1)))]
@[simp] noncomputable def r2 (_ : Unit) : List Stp := [S 4 (.mv (.c (.int .i64 0)))]
@[simp] noncomputable def r3 (_ : Unit) : List Stp := [S 5 (.mv (.t 4)), S 6 (.mv (.t 0)), S 7 (.bin .lss (.t 5) (.t 6))]
@[simp] noncomputable def r5 (_ : Unit) : List Stp := [S 10 (.mv (.t 3)), S 11 (.bin .mul (.c (.int .i64 2)) (.t 10)), S 3 (.mv (.t 11))]
@[simp] noncomputable def r4 (_ : Unit) : List Stp := [S 8 (.mv (.t 4)), S 9 (.bin .add (.t 8) (.c (.int .i64 1))), S 4 (.mv (.t 9))]
@[simp] noncomputable def r6 (_ : Unit) : List Stp := [S 12 (.mv (.t 3)), S 2 (.mv (.t 12))]
@[simp] noncomputable def ir : IR := (.seq (.ops r0) (.seq (.ops r1) (.seq (.seq (.ops r2) (.block 0 (.loop (.seq (.seq (.ops r3) (.cond (.t 7) .skip (.exit 0))) (.seq (.block 1 (.ops r5)) (.ops r4)))))) (.seq (.ops r6) .ret))))
@[simp] noncomputable def rs : List RV := [.tmp 2]
theorem comp : compF Pg cfg Tryz.f102 = some (ir, rs, 13) := by kernel_rfl
theorem enter {args : List AVal} {h : Heap} {K : AEnd → Heap → Prop} (F : Nat) (hl : args.length ≤ 13) (a : AW ⟨Pg, F, 13, false, []⟩ ir (RetK rs K) (initT args) [] h) : ACalls Pg fn_ref01_power args h K :=
  ACalls.of_comp follows Tryz.func102 comp hl a
theorem pure {args : List AVal} {v : AVal} (hl : args.length ≤ 13) (a : AW ⟨Pg, 0, 13, false, []⟩ ir (RetK rs fun e _ => e = .ret v) (initT args) [] nilH) : APure Pg fn_ref01_power args v :=
  APure.of_nil (enter 0 hl a)
end ref01_power

namespace slices_Max_int_int
noncomputable def cfg : Cfg := { pure := pures, pcs := [], raw := [], cuts := [], draws := [], keep := [] }
@[simp] noncomputable def r0 (_ : Unit) : List Stp := [S 2 (.mv (.c (.int .i64 0)))]
@[simp] noncomputable def r1 (_ : Unit) : List Stp := [S 5 (.mv (.t 0)), S 6 (.len (.t 5)), S 7 (.bin .lss (.t 6) (.c (.int .i64 1)))]
@[simp] noncomputable def r2 (_ : Unit) : List Stp := [S 8 (.mkI 9 (.c (.str [115, 108, 105, 99, 101, 115, 46, 77, 97, 120, 58, 32, 101, 109, 112, 116, 121, 32, 108, 105, 115, 116]))), SN (.panic (.t 8))]
@[simp] noncomputable def r3 (_ : Unit) : List Stp := [S 9 (.mv (.t 0)), S 10 (.ixS 1 (.t 9) (.c (.int .i64 0))), S 11 (.load false 1 (.t 10)), S 3 (.mv (.t 11))]
@[simp] noncomputable def r4 (_ : Unit) : List Stp := [S 4 (.mv (.c (.int .i64 1)))]
@[simp] noncomputable def r5 (_ : Unit) : List Stp := [S 12 (.mv (.t 4)), S 13 (.mv (.t 0)), S 14 (.len (.t 13)), S 15 (.bin .lss (.t 12) (.t 14))]
@[simp] noncomputable def r7 (_ : Unit) : List Stp := [S 18 (.mv (.t 3)), S 19 (.mv (.t 0)), S 20 (.mv (.t 4)), S 21 (.ixS 1 (.t 19) (.t 20)), S 22 (.load false 1 (.t 21)), S 23 (.mm true [(.t 18), (.t 22)]), S 3 (.mv (.t 23))]
@[simp] noncomputable def r6 (_ : Unit) : List Stp := [S 16 (.mv (.t 4)), S 17 (.bin .add (.t 16) (.c (.int .i64 1))), S 4 (.mv (.t 17))]
@[simp] noncomputable def r8 (_ : Unit) : List Stp := [S 24 (.mv (.t 3)), S 2 (.mv (.t 24))]
@[simp] noncomputable def ir : IR := (.seq (.ops r0) (.seq (.seq (.ops r1) (.cond (.t 7) (.ops r2) .skip)) (.seq (.ops r3) (.seq (.seq (.ops r4) (.block 0 (.loop (.seq (.seq (.ops r5) (.cond (.t 15) .skip (.exit 0))) (.seq (.block 1 (.ops r7)) (.ops r6)))))) (.seq (.ops r8) .ret)))))
@[simp] noncomputable def rs : List RV := [.tmp 2]
theorem comp : compF Pg cfg Tryz.f103 = some (ir, rs, 25) := by kernel_rfl
theorem enter {args : List AVal} {h : Heap} {K : AEnd → Heap → Prop} (F : Nat) (hl : args.length ≤ 25) (a : AW ⟨Pg, F, 25, false, []⟩ ir (RetK rs K) (initT args) [] h) : ACalls Pg fn_slices_Max_int_int args h K :=
  ACalls.of_comp follows Tryz.func103 comp hl a
theorem pure {args : List AVal} {v : AVal} (hl : args.length ≤ 25) (a : AW ⟨Pg, 0, 25, false, []⟩ ir (RetK rs fun e _ => e = .ret v) (initT args) [] nilH) : APure Pg fn_slices_Max_int_int args v :=
  APure.of_nil (enter 0 hl a)
end slices_Max_int_int

namespace rake_hull_orders_1
noncomputable def cfg : Cfg := { pure := pures, pcs := [], raw := [], cuts := [], draws := [], keep := [] }
@[simp] noncomputable def r0 (_ : Unit) : List Stp := [S 2 (.box (.t 0))]
@[simp] noncomputable def r1 (_ : Unit) : List Stp := [S 3 (.alloc [.nilf])]
@[simp] noncomputable def r2 (_ : Unit) : List Stp := [S 4 (.mkF (.func fn_rake_hull_orders_1_1) [] [(.t 1), (.t 2), (.t 3)]), SN (.store 1 (.t 3) (.t 4))]
@[simp] noncomputable def r3 (_ : Unit) : List Stp := [S 5 (.load false 1 (.t 3)), S 6 (.call (.t 5) [(.c .nils)])]
@[simp] noncomputable def ir : IR := (.seq (.ops r0) (.seq (.ops r1) (.seq (.ops r2) (.ops r3))))
@[simp] noncomputable def rs : List RV := []
theorem comp : compF Pg cfg Tryz.f104 = some (ir, rs, 7) := by kernel_rfl
theorem enter {args : List AVal} {h : Heap} {K : AEnd → Heap → Prop} (F : Nat) (hl : args.length ≤ 7) (a : AW ⟨Pg, F, 7, false, []⟩ ir (RetK rs K) (initT args) [] h) : ACalls Pg fn_rake_hull_orders_1 args h K :=
  ACalls.of_comp follows Tryz.func104 comp hl a
theorem pure {args : List AVal} {v : AVal} (hl : args.length ≤ 7) (a : AW ⟨Pg, 0, 7, false, []⟩ ir (RetK rs fun e _ => e = .ret v) (initT args) [] nilH) : APure Pg fn_rake_hull_orders_1 args v :=
  APure.of_nil (enter 0 hl a)
end rake_hull_orders_1

namespace rake_hull_orders_1_1
noncomputable def cfg : Cfg := { pure := pures, pcs := [], raw := [], cuts := [], draws := [(9, [⟨1, false, [], []⟩, ⟨2, false, [], []⟩, ⟨0, false, [], []⟩, ⟨3, true, [], []⟩, ⟨4, false, [], [0]⟩, ⟨5, false, [], []⟩, ⟨6, false, [], []⟩])], keep := [] }
@[simp] noncomputable def r0 (_ : Unit) : List Stp := [S 5 (.mv (.c (.bool false)))]
@[simp] noncomputable def r1 (_ : Unit) : List Stp := [S 8 (.mv (.t 0)), S 9 (.len (.t 8)), S 10 (.load false 1 (.t 1)), S 11 (.nilck Pg (.t 10)), S 12 (.fAddr 6 (.t 11)), S 13 (.load false 1 (.t 12)), S 14 (.bin .eql (.t 9) (.t 13))]
@[simp] noncomputable def r2 (_ : Unit) : List Stp := [S 15 (.load false 1 (.t 2)), S 16 (.mv (.t 0)), S 17 (.call (.t 15) [(.t 16)]), S 5 (.mv (.t 17))]
@[simp] noncomputable def r3 (_ : Unit) : List Stp := [S 18 (.load false 1 (.t 1)), S 19 (.nilck Pg (.t 18)), S 20 (.fAddr 6 (.t 19)), S 21 (.load false 1 (.t 20)), S 22 (.mv (.c (.int .i64 0)))]
@[simp] noncomputable def r4 (_ : Unit) : List Stp := [S 23 (.bin .lss (.t 22) (.t 21))]
@[simp] noncomputable def r5 (_ : Unit) : List Stp := [S 24 (.mv (.t 22)), S 6 (.mv (.t 24))]
@[simp] noncomputable def r6 (_ : Unit) : List Stp := [S 25 (.mv (.t 0)), S 26 (.mv (.t 6)), S 27 (.call (.c (.func (.func fn_slices_Contains_int_int) [] [])) [(.t 25), (.t 26)])]
@[simp] noncomputable def r7 (_ : Unit) : List Stp := [S 28 (.mv (.t 0)), S 29 (.len (.t 28)), S 30 (.load false 1 (.t 1)), S 31 (.nilck Pg (.t 30)), S 32 (.fAddr 6 (.t 31)), S 33 (.load false 1 (.t 32)), S 34 (.mksl 8 [(.int .i64 0)] (.t 29) (.t 33)), S 7 (.mv (.t 34))]
@[simp] noncomputable def r8 (_ : Unit) : List Stp := [S 35 (.mv (.t 7)), S 36 (.mv (.t 0)), S 37 (.copy 1 (.t 35) (.t 36))]
@[simp] noncomputable def r9 (_ : Unit) : List Stp := [S 39 (.mv (.t 7)), S 40 (.mv (.t 6)), S 38 (.load false 1 (.t 3)), SD (some 41) (.bsl 1 [(.int .i64 0)] [(0, 1, (.t 40))]) true [] [], SD (some 42) (.app 1 8 (.t 39) (.t 41)) false [] [I 38 (.load false 1 (.t 3))], S 43 (.call (.t 38) [(.t 42)]), S 44 (.un .not (.t 43))]
@[simp] noncomputable def r10 (_ : Unit) : List Stp := [S 5 (.mv (.c (.bool false)))]
@[simp] noncomputable def r11 (_ : Unit) : List Stp := [S 45 (.bin .add (.t 22) (.c (.int .i64 1))), S 22 (.mv (.t 45))]
@[simp] noncomputable def r12 (_ : Unit) : List Stp := [S 5 (.mv (.c (.bool true)))]
@[simp] noncomputable def ir : IR := (.seq (.ops r0) (.seq (.seq (.ops r1) (.cond (.t 14) (.seq (.ops r2) .ret) .skip)) (.seq (.seq (.ops r3) (.block 0 (.loop (.seq (.ops r4) (.seq (.cond (.t 23) .skip (.exit 0)) (.seq (.block 1 (.seq (.ops r5) (.seq (.seq (.ops r6) (.cond (.t 27) (.exit 1) .skip)) (.seq (.ops r7) (.seq (.ops r8) (.seq (.ops r9) (.cond (.t 44) (.seq (.ops r10) .ret) .skip))))))) (.ops r11))))))) (.seq (.ops r12) .ret))))
@[simp] noncomputable def rs : List RV := [.tmp 5]
theorem comp : compF Pg cfg Tryz.f105 = some (ir, rs, 46) := by kernel_rfl
theorem enter {args : List AVal} {h : Heap} {K : AEnd → Heap → Prop} (F : Nat) (hl : args.length ≤ 46) (a : AW ⟨Pg, F, 46, false, []⟩ ir (RetK rs K) (initT args) [] h) : ACalls Pg fn_rake_hull_orders_1_1 args h K :=
  ACalls.of_comp follows Tryz.func105 comp hl a
theorem pure {args : List AVal} {v : AVal} (hl : args.length ≤ 46) (a : AW ⟨Pg, 0, 46, false, []⟩ ir (RetK rs fun e _ => e = .ret v) (initT args) [] nilH) : APure Pg fn_rake_hull_orders_1_1 args v :=
  APure.of_nil (enter 0 hl a)
end rake_hull_orders_1_1

namespace ref01_At
noncomputable def cfg : Cfg := { pure := pures, pcs := [], raw := [], cuts := [], draws := [], keep := [] }
@[simp] noncomputable def r0 (_ : Unit) : List Stp := [S 4 (.mv (.c (.bool false)))]
@[simp] noncomputable def r1 (_ : Unit) : List Stp := [S 5 (.mv (.t 0)), SP 6 (.call (.c (.func (.func fn_ref01_in) [] [])) [(.t 5), (.c (.int .i64 0)), (.c (.int .i64 12))]), S 7 (.mv (.t 6)), SG 8 7 true (.mv (.t 1)), SGP 9 7 true (.call (.c (.func (.func fn_ref01_in) [] [])) [(.t 8), (.c (.int .i64 (-3))), (.c (.int .i64 3))]), S 10 (.pick (.t 7) (.t 9) (.c (.bool false))), S 4 (.mv (.t 10))]
@[simp] noncomputable def ir : IR := (.seq (.ops r0) (.seq (.ops r1) .ret))
@[simp] noncomputable def rs : List RV := [.tmp 4]
theorem comp : compF Pg cfg Tryz.f106 = some (ir, rs, 11) := by kernel_rfl
theorem enter {args : List AVal} {h : Heap} {K : AEnd → Heap → Prop} (F : Nat) (hl : args.length ≤ 11) (a : AW ⟨Pg, F, 11, false, []⟩ ir (RetK rs K) (initT args) [] h) : ACalls Pg fn_ref01_At args h K :=
  ACalls.of_comp follows Tryz.func106 comp hl a
theorem pure {args : List AVal} {v : AVal} (hl : args.length ≤ 11) (a : AW ⟨Pg, 0, 11, false, []⟩ ir (RetK rs fun e _ => e = .ret v) (initT args) [] nilH) : APure Pg fn_ref01_At args v :=
  APure.of_nil (enter 0 hl a)
end ref01_At

namespace leak_want
noncomputable def cfg : Cfg := { pure := pures, pcs := [], raw := [], cuts := [], draws := [], keep := [] }
@[simp] noncomputable def r0 (_ : Unit) : List Stp := [S 4 (.mv (.t 0)), S 5 (.un .not (.t 4))]
@[simp] noncomputable def r1 (_ : Unit) : List Stp := [S 6 (.mv (.t 1)), S 7 (.build [(.int .i64 0)] [(0, 1, (.t 6))]), S 8 (.mkI 153 (.t 7)), SN (.panic (.t 8))]
@[simp] noncomputable def ir : IR := (.seq (.ops r0) (.cond (.t 5) (.ops r1) .skip))
@[simp] noncomputable def rs : List RV := []
theorem comp : compF Pg cfg Tryz.f107 = some (ir, rs, 9) := by kernel_rfl
theorem enter {args : List AVal} {h : Heap} {K : AEnd → Heap → Prop} (F : Nat) (hl : args.length ≤ 9) (a : AW ⟨Pg, F, 9, false, []⟩ ir (RetK rs K) (initT args) [] h) : ACalls Pg fn_leak_want args h K :=
  ACalls.of_comp follows Tryz.func107 comp hl a
theorem pure {args : List AVal} {v : AVal} (hl : args.length ≤ 9) (a : AW ⟨Pg, 0, 9, false, []⟩ ir (RetK rs fun e _ => e = .ret v) (initT args) [] nilH) : APure Pg fn_leak_want args v :=
  APure.of_nil (enter 0 hl a)
end leak_want

namespace leak_within
noncomputable def cfg : Cfg := { pure := pures, pcs := [], raw := [], cuts := [], draws := [], keep := [] }
@[simp] noncomputable def r0 (_ : Unit) : List Stp := [S 6 (.mv (.c (.bool false)))]
@[simp] noncomputable def r1 (_ : Unit) : List Stp := [S 7 (.mv (.t 1)), S 8 (.mv (.t 0)), S 9 (.bin .leq (.t 7) (.t 8)), S 10 (.mv (.t 9)), SG 11 10 true (.mv (.t 0)), SG 12 10 true (.mv (.t 2)), SG 13 10 true (.bin .leq (.t 11) (.t 12)), S 14 (.pick (.t 10) (.t 13) (.c (.bool false))), S 6 (.mv (.t 14))]
@[simp] noncomputable def ir : IR := (.seq (.ops r0) (.seq (.ops r1) .ret))
@[simp] noncomputable def rs : List RV := [.tmp 6]
theorem comp : compF Pg cfg Tryz.f108 = some (ir, rs, 15) := by kernel_rfl
theorem enter {args : List AVal} {h : Heap} {K : AEnd → Heap → Prop} (F : Nat) (hl : args.length ≤ 15) (a : AW ⟨Pg, F, 15, false, []⟩ ir (RetK rs K) (initT args) [] h) : ACalls Pg fn_leak_within args h K :=
  ACalls.of_comp follows Tryz.func108 comp hl a
theorem pure {args : List AVal} {v : AVal} (hl : args.length ≤ 15) (a : AW ⟨Pg, 0, 15, false, []⟩ ir (RetK rs fun e _ => e = .ret v) (initT args) [] nilH) : APure Pg fn_leak_within args v :=
  APure.of_nil (enter 0 hl a)
end leak_within

namespace leak_place_isPlace
noncomputable def cfg : Cfg := { pure := pures, pcs := [], raw := [], cuts := [], draws := [], keep := [] }
@[simp] noncomputable def r0 (_ : Unit) : List Stp := [S 1 (.box (.t 0)), S 2 (.mv (.c (.bool false)))]
@[simp] noncomputable def r1 (_ : Unit) : List Stp := [S 3 (.fAddr 0 (.t 1)), S 4 (.load false 1 (.t 3)), SP 5 (.call (.c (.func (.func fn_leak_within) [] [])) [(.t 4), (.c (.int .i64 0)), (.c (.int .i64 12))]), S 6 (.mv (.t 5)), SG 7 6 true (.fAddr 1 (.t 1)), SG 8 6 true (.load false 1 (.t 7)), SGP 9 6 true (.call (.c (.func (.func fn_leak_within) [] [])) [(.t 8), (.c (.int .i64 (-3))), (.c (.int .i64 3))]), S 10 (.pick (.t 6) (.t 9) (.c (.bool false))), S 2 (.mv (.t 10))]
@[simp] noncomputable def ir : IR := (.seq (.ops r0) (.seq (.ops r1) .ret))
@[simp] noncomputable def rs : List RV := [.tmp 2]
theorem comp : compF Pg cfg Tryz.f109 = some (ir, rs, 11) := by kernel_rfl
theorem enter {args : List AVal} {h : Heap} {K : AEnd → Heap → Prop} (F : Nat) (hl : args.length ≤ 11) (a : AW ⟨Pg, F, 11, false, []⟩ ir (RetK rs K) (initT args) [] h) : ACalls Pg fn_leak_place_isPlace args h K :=
  ACalls.of_comp follows Tryz.func109 comp hl a
theorem pure {args : List AVal} {v : AVal} (hl : args.length ≤ 11) (a : AW ⟨Pg, 0, 11, false, []⟩ ir (RetK rs fun e _ => e = .ret v) (initT args) [] nilH) : APure Pg fn_leak_place_isPlace args v :=
  APure.of_nil (enter 0 hl a)
end leak_place_isPlace

namespace slices_Collect_leak_inflow
noncomputable def cfg : Cfg := { pure := pures, pcs := [], raw := [], cuts := [], draws := [], keep := [] }
@[simp] noncomputable def r0 (_ : Unit) : List Stp := [S 2 (.mv (.c .nils))]
@[simp] noncomputable def r1 (_ : Unit) : List Stp := [S 3 (.mv (.t 0)), S 4 (.call (.c (.func (.func fn_slices_AppendSeq_leak_inflow_leak_inflow) [] [])) [(.c .nils), (.t 3)]), S 2 (.mv (.t 4))]
@[simp] noncomputable def ir : IR := (.seq (.ops r0) (.seq (.ops r1) .ret))
@[simp] noncomputable def rs : List RV := [.tmp 2]
theorem comp : compF Pg cfg Tryz.f110 = some (ir, rs, 5) := by kernel_rfl
theorem enter {args : List AVal} {h : Heap} {K : AEnd → Heap → Prop} (F : Nat) (hl : args.length ≤ 5) (a : AW ⟨Pg, F, 5, false, []⟩ ir (RetK rs K) (initT args) [] h) : ACalls Pg fn_slices_Collect_leak_inflow args h K :=
  ACalls.of_comp follows Tryz.func110 comp hl a
theorem pure {args : List AVal} {v : AVal} (hl : args.length ≤ 5) (a : AW ⟨Pg, 0, 5, false, []⟩ ir (RetK rs fun e _ => e = .ret v) (initT args) [] nilH) : APure Pg fn_slices_Collect_leak_inflow args v :=
  APure.of_nil (enter 0 hl a)
end slices_Collect_leak_inflow

namespace leak_hull_inflows
noncomputable def cfg : Cfg := { pure := pures, pcs := [], raw := [], cuts := [], draws := [], keep := [] }
@[simp] noncomputable def r0 (_ : Unit) : List Stp := [S 2 (.box (.t 0)), S 4 (.mv (.c .nilf))]
@[simp] noncomputable def r1 (_ : Unit) : List Stp := [S 6 (.load false 1 (.t 2)), S 7 (.mv (.t 1)), S 8 (.call (.c (.func (.func fn_leak_hull_conditions) [] [])) [(.t 6), (.t 7)]), S 5 (.alloc [.nils]), SN (.store 1 (.t 5) (.t 8))]
@[simp] noncomputable def r2 (_ : Unit) : List Stp := [S 9 (.mkF (.func fn_leak_hull_inflows_1) [] [(.t 2), (.t 5)]), S 4 (.mv (.t 9))]
@[simp] noncomputable def ir : IR := (.seq (.ops r0) (.seq (.ops r1) (.seq (.ops r2) .ret)))
@[simp] noncomputable def rs : List RV := [.tmp 4]
theorem comp : compF Pg cfg Tryz.f111 = some (ir, rs, 10) := by kernel_rfl
theorem enter {args : List AVal} {h : Heap} {K : AEnd → Heap → Prop} (F : Nat) (hl : args.length ≤ 10) (a : AW ⟨Pg, F, 10, false, []⟩ ir (RetK rs K) (initT args) [] h) : ACalls Pg fn_leak_hull_inflows args h K :=
  ACalls.of_comp follows Tryz.func111 comp hl a
theorem pure {args : List AVal} {v : AVal} (hl : args.length ≤ 10) (a : AW ⟨Pg, 0, 10, false, []⟩ ir (RetK rs fun e _ => e = .ret v) (initT args) [] nilH) : APure Pg fn_leak_hull_inflows args v :=
  APure.of_nil (enter 0 hl a)
end leak_hull_inflows

namespace leak_hull_every
noncomputable def cfg : Cfg := { pure := pures, pcs := [], raw := [], cuts := [], draws := [], keep := [] }
@[simp] noncomputable def r0 (_ : Unit) : List Stp := [S 2 (.mv (.c (.int .u64 0)))]
@[simp] noncomputable def r1 (_ : Unit) : List Stp := [S 3 (.mv (.t 0)), S 4 (.nilck Pg (.t 3)), S 5 (.fAddr 0 (.t 4)), S 6 (.fAddr 1 (.t 5)), S 7 (.load false 1 (.t 6)), S 8 (.len (.t 7)), S 9 (.bin .shl (.c (.int .u64 1)) (.t 8)), S 10 (.bin .sub (.t 9) (.c (.int .u64 1))), S 2 (.mv (.t 10))]
@[simp] noncomputable def ir : IR := (.seq (.ops r0) (.seq (.ops r1) .ret))
@[simp] noncomputable def rs : List RV := [.tmp 2]
theorem comp : compF Pg cfg Tryz.f112 = some (ir, rs, 11) := by kernel_rfl
theorem enter {args : List AVal} {h : Heap} {K : AEnd → Heap → Prop} (F : Nat) (hl : args.length ≤ 11) (a : AW ⟨Pg, F, 11, false, []⟩ ir (RetK rs K) (initT args) [] h) : ACalls Pg fn_leak_hull_every args h K :=
  ACalls.of_comp follows Tryz.func112 comp hl a
theorem pure {args : List AVal} {v : AVal} (hl : args.length ≤ 11) (a : AW ⟨Pg, 0, 11, false, []⟩ ir (RetK rs fun e _ => e = .ret v) (initT args) [] nilH) : APure Pg fn_leak_hull_every args v :=
  APure.of_nil (enter 0 hl a)
end leak_hull_every

namespace leak_Rate
noncomputable def cfg : Cfg := { pure := pures, pcs := [], raw := [], cuts := [], draws := [(2, [⟨1, false, [], []⟩, ⟨2, false, [], []⟩, ⟨0, false, [], []⟩, ⟨3, false, [], []⟩, ⟨4, false, [], []⟩, ⟨5, false, [], []⟩, ⟨6, false, [], []⟩, ⟨7, false, [], []⟩, ⟨8, false, [], []⟩])], keep := [4, 5] }
@[simp] noncomputable def r0 (_ : Unit) : List Stp := [S 2 (.box (.t 0)), S 4 (.alloc [(.int .i64 0), (.int .i64 0)]), S 5 (.alloc [(.int .i64 0)])]
@[simp] noncomputable def r1 (_ : Unit) : List Stp := [S 7 (.mkF (.func fn_leak_Rate_1) [] [(.t 5)]), SN (.defer (.t 7) [])]
@[simp] noncomputable def r2 (_ : Unit) : List Stp := [S 9 (.mv (.t 1)), S 10 (.fAddr 0 (.t 2)), S 8 (.load true 2 (.t 2)), S 11 (.load false 1 (.t 10)), S 12 (.len (.t 11)), S 13 (.bin .sub (.t 12) (.c (.int .i64 1))), SP 14 (.call (.c (.func (.func fn_leak_within) [] [])) [(.t 9), (.c (.int .i64 0)), (.t 13)]), S 15 (.call (.c (.func (.func fn_leak_open) [] [])) [(.t 8), (.t 14)]), S 6 (.mv (.t 15))]
@[simp] noncomputable def r3 (_ : Unit) : List Stp := [S 16 (.mv (.t 6)), S 17 (.mv (.t 1)), S 18 (.bin .shl (.c (.int .u64 1)) (.t 17)), S 19 (.call (.c (.func (.func fn_leak_hull_total) [] [])) [(.t 16), (.t 18)]), SN (.store 2 (.t 4) (.t 19)), SN (.store 1 (.t 5) (.c (.int .i64 0)))]
@[simp] noncomputable def ir : IR := (.seq (.ops r0) (.seq (.ops r1) (.seq (.ops r2) (.seq (.ops r3) .ret))))
@[simp] noncomputable def rs : List RV := [.cell 4 true 2, .cell 5 false 1]
theorem comp : compF Pg cfg Tryz.f113 = some (ir, rs, 20) := by kernel_rfl
theorem enter {args : List AVal} {h : Heap} {K : AEnd → Heap → Prop} (F : Nat) (hl : args.length ≤ 20) (a : AW ⟨Pg, F, 20, false, [4, 5]⟩ ir (RetD Pg rs K) (initT args) [] h) : ACalls Pg fn_leak_Rate args h K :=
  ACalls.of_comp_defer follows Tryz.func113 comp hl a
theorem pure {args : List AVal} {v : AVal} (hl : args.length ≤ 20) (a : AW ⟨Pg, 0, 20, false, [4, 5]⟩ ir (RetD Pg rs fun e _ => e = .ret v) (initT args) [] nilH) : APure Pg fn_leak_Rate args v :=
  APure.of_nil (enter 0 hl a)
end leak_Rate

namespace rake_check_1
noncomputable def cfg : Cfg := { pure := pures, pcs := [], raw := [], cuts := [], draws := [], keep := [] }
@[simp] noncomputable def r0 (_ : Unit) : List Stp := [S 2 (.mv (.c (.bool false)))]
@[simp] noncomputable def r1 (_ : Unit) : List Stp := [S 3 (.mv (.t 0)), SP 4 (.call (.c (.func (.func fn_rake_within) [] [])) [(.t 3), (.c (.int .i64 1)), (.c (.int .i64 20))]), S 5 (.un .not (.t 4)), S 2 (.mv (.t 5))]
@[simp] noncomputable def ir : IR := (.seq (.ops r0) (.seq (.ops r1) .ret))
@[simp] noncomputable def rs : List RV := [.tmp 2]
theorem comp : compF Pg cfg Tryz.f114 = some (ir, rs, 6) := by kernel_rfl
theorem enter {args : List AVal} {h : Heap} {K : AEnd → Heap → Prop} (F : Nat) (hl : args.length ≤ 6) (a : AW ⟨Pg, F, 6, false, []⟩ ir (RetK rs K) (initT args) [] h) : ACalls Pg fn_rake_check_1 args h K :=
  ACalls.of_comp follows Tryz.func114 comp hl a
theorem pure {args : List AVal} {v : AVal} (hl : args.length ≤ 6) (a : AW ⟨Pg, 0, 6, false, []⟩ ir (RetK rs fun e _ => e = .ret v) (initT args) [] nilH) : APure Pg fn_rake_check_1 args v :=
  APure.of_nil (enter 0 hl a)
end rake_check_1

namespace rake_within
noncomputable def cfg : Cfg := { pure := pures, pcs := [], raw := [], cuts := [], draws := [], keep := [] }
@[simp] noncomputable def r0 (_ : Unit) : List Stp := [S 6 (.mv (.c (.bool false)))]
@[simp] noncomputable def r1 (_ : Unit) : List Stp := [S 7 (.mv (.t 1)), S 8 (.mv (.t 0)), S 9 (.bin .leq (.t 7) (.t 8)), S 10 (.mv (.t 9)), SG 11 10 true (.mv (.t 0)), SG 12 10 true (.mv (.t 2)), SG 13 10 true (.bin .leq (.t 11) (.t 12)), S 14 (.pick (.t 10) (.t 13) (.c (.bool false))), S 6 (.mv (.t 14))]
@[simp] noncomputable def ir : IR := (.seq (.ops r0) (.seq (.ops r1) .ret))
@[simp] noncomputable def rs : List RV := [.tmp 6]
theorem comp : compF Pg cfg Tryz.f115 = some (ir, rs, 15) := by kernel_rfl
theorem enter {args : List AVal} {h : Heap} {K : AEnd → Heap → Prop} (F : Nat) (hl : args.length ≤ 15) (a : AW ⟨Pg, F, 15, false, []⟩ ir (RetK rs K) (initT args) [] h) : ACalls Pg fn_rake_within args h K :=
  ACalls.of_comp follows Tryz.func115 comp hl a
theorem pure {args : List AVal} {v : AVal} (hl : args.length ≤ 15) (a : AW ⟨Pg, 0, 15, false, []⟩ ir (RetK rs fun e _ => e = .ret v) (initT args) [] nilH) : APure Pg fn_rake_within args v :=
  APure.of_nil (enter 0 hl a)
end rake_within

namespace slices_ContainsFunc_int_int
noncomputable def cfg : Cfg := { pure := pures, pcs := [], raw := [], cuts := [], draws := [], keep := [] }
@[simp] noncomputable def r0 (_ : Unit) : List Stp := [S 4 (.mv (.c (.bool false)))]
@[simp] noncomputable def r1 (_ : Unit) : List Stp := [S 5 (.mv (.t 0)), S 6 (.mv (.t 1)), S 7 (.call (.c (.func (.func fn_slices_IndexFunc_int_int) [] [])) [(.t 5), (.t 6)]), S 8 (.bin .geq (.t 7) (.c (.int .i64 0))), S 4 (.mv (.t 8))]
@[simp] noncomputable def ir : IR := (.seq (.ops r0) (.seq (.ops r1) .ret))
@[simp] noncomputable def rs : List RV := [.tmp 4]
theorem comp : compF Pg cfg Tryz.f116 = some (ir, rs, 9) := by kernel_rfl
theorem enter {args : List AVal} {h : Heap} {K : AEnd → Heap → Prop} (F : Nat) (hl : args.length ≤ 9) (a : AW ⟨Pg, F, 9, false, []⟩ ir (RetK rs K) (initT args) [] h) : ACalls Pg fn_slices_ContainsFunc_int_int args h K :=
  ACalls.of_comp follows Tryz.func116 comp hl a
theorem pure {args : List AVal} {v : AVal} (hl : args.length ≤ 9) (a : AW ⟨Pg, 0, 9, false, []⟩ ir (RetK rs fun e _ => e = .ret v) (initT args) [] nilH) : APure Pg fn_slices_ContainsFunc_int_int args v :=
  APure.of_nil (enter 0 hl a)
end slices_ContainsFunc_int_int




namespace slices_pdqsortOrdered_int
noncomputable def cfg : Cfg := { pure := pures, pcs := [], raw := [], cuts := [], draws := [(17, [⟨0, false, [], []⟩, ⟨1, false, [], []⟩, ⟨2, false, [], []⟩, ⟨3, false, [], []⟩, ⟨4, false, [], []⟩, ⟨5, false, [], []⟩, ⟨6, false, [], []⟩, ⟨8, false, [], []⟩, ⟨9, false, [], []⟩, ⟨10, false, [], []⟩, ⟨7, false, [], []⟩, ⟨11, false, [], []⟩, ⟨12, false, [], []⟩, ⟨13, false, [], []⟩, ⟨14, false, [], []⟩])], keep := [] }
@[simp] noncomputable def r0 (_ : Unit) : List Stp := [S 8 (.mv (.c (.bool true)))]
@[simp] noncomputable def r1 (_ : Unit) : List Stp := [S 9 (.mv (.c (.bool true)))]
@[simp] noncomputable def r2 (_ : Unit) : List Stp := [S 19 (.mv (.t 2)), S 20 (.mv (.t 1)), S 21 (.bin .sub (.t 19) (.t 20)), S 10 (.mv (.t 21))]
@[simp] noncomputable def r3 (_ : Unit) : List Stp := [S 22 (.mv (.t 10)), S 23 (.bin .leq (.t 22) (.c (.int .i64 12)))]
@[simp] noncomputable def r4 (_ : Unit) : List Stp := [S 24 (.mv (.t 0)), S 25 (.mv (.t 1)), S 26 (.mv (.t 2)), S 27 (.call (.c (.func (.func fn_slices_insertionSortOrdered_int) [] [])) [(.t 24), (.t 25), (.t 26)])]
@[simp] noncomputable def r5 (_ : Unit) : List Stp := [S 28 (.mv (.t 3)), S 29 (.bin .eql (.t 28) (.c (.int .i64 0)))]
@[simp] noncomputable def r6 (_ : Unit) : List Stp := [S 30 (.mv (.t 0)), S 31 (.mv (.t 1)), S 32 (.mv (.t 2)), S 33 (.call (.c (.func (.func fn_slices_heapSortOrdered_int) [] [])) [(.t 30), (.t 31), (.t 32)])]
@[simp] noncomputable def r7 (_ : Unit) : List Stp := [S 34 (.mv (.t 8)), S 35 (.un .not (.t 34))]
@[simp] noncomputable def r8 (_ : Unit) : List Stp := [S 36 (.mv (.t 0)), S 37 (.mv (.t 1)), S 38 (.mv (.t 2)), S 39 (.call (.c (.func (.func fn_slices_breakPatternsOrdered_int) [] [])) [(.t 36), (.t 37), (.t 38)])]
@[simp] noncomputable def r9 (_ : Unit) : List Stp := [S 40 (.mv (.t 3)), S 41 (.bin .sub (.t 40) (.c (.int .i64 1))), S 3 (.mv (.t 41))]
@[simp] noncomputable def r10 (_ : Unit) : List Stp := [S 43 (.mv (.t 0)), S 44 (.mv (.t 1)), S 45 (.mv (.t 2)), S 46 (.call (.c (.func (.func fn_slices_choosePivotOrdered_int) [] [])) [(.t 43), (.t 44), (.t 45)]), S 42 (.mv (.t 46)), S 47 (.ext (.t 42) 0), S 48 (.ext (.t 42) 1), S 11 (.mv (.t 47)), S 12 (.mv (.t 48))]
@[simp] noncomputable def r11 (_ : Unit) : List Stp := [S 49 (.mv (.t 12)), S 50 (.bin .eql (.t 49) (.c (.int .i64 2)))]
@[simp] noncomputable def r12 (_ : Unit) : List Stp := [S 51 (.mv (.t 0)), S 52 (.mv (.t 1)), S 53 (.mv (.t 2)), S 54 (.call (.c (.func (.func fn_slices_reverseRangeOrdered_int) [] [])) [(.t 51), (.t 52), (.t 53)])]
@[simp] noncomputable def r13 (_ : Unit) : List Stp := [S 55 (.mv (.t 2)), S 56 (.bin .sub (.t 55) (.c (.int .i64 1))), S 57 (.mv (.t 11)), S 58 (.mv (.t 1)), S 59 (.bin .sub (.t 57) (.t 58)), S 60 (.bin .sub (.t 56) (.t 59)), S 11 (.mv (.t 60))]
@[simp] noncomputable def r14 (_ : Unit) : List Stp := [S 12 (.mv (.c (.int .i64 1)))]
@[simp] noncomputable def r15 (_ : Unit) : List Stp := [S 61 (.mv (.t 8)), S 62 (.mv (.t 61)), SG 63 62 true (.mv (.t 9)), S 64 (.pick (.t 62) (.t 63) (.c (.bool false))), S 65 (.mv (.t 64)), SG 66 65 true (.mv (.t 12)), SG 67 65 true (.bin .eql (.t 66) (.c (.int .i64 1))), S 68 (.pick (.t 65) (.t 67) (.c (.bool false)))]
@[simp] noncomputable def r16 (_ : Unit) : List Stp := [S 69 (.mv (.t 0)), S 70 (.mv (.t 1)), S 71 (.mv (.t 2)), S 72 (.call (.c (.func (.func fn_slices_partialInsertionSortOrdered_int) [] [])) [(.t 69), (.t 70), (.t 71)])]
@[simp] noncomputable def r17 (_ : Unit) : List Stp := [S 73 (.mv (.t 1)), S 74 (.bin .gtr (.t 73) (.c (.int .i64 0))), S 75 (.mv (.t 74)), SG 76 75 true (.mv (.t 0)), SG 77 75 true (.mv (.t 1)), SG 78 75 true (.bin .sub (.t 77) (.c (.int .i64 1))), SG 79 75 true (.ixS 1 (.t 76) (.t 78)), SG 81 75 true (.mv (.t 0)), SG 82 75 true (.mv (.t 11)), SG 83 75 true (.ixS 1 (.t 81) (.t 82)), SG 80 75 true (.load false 1 (.t 79)), SG 84 75 true (.load false 1 (.t 83)), SG 85 75 true (.call (.c (.func (.func fn_cmp_Less_int) [] [])) [(.t 80), (.t 84)]), SG 86 75 true (.un .not (.t 85)), S 87 (.pick (.t 75) (.t 86) (.c (.bool false)))]
@[simp] noncomputable def r18 (_ : Unit) : List Stp := [S 88 (.mv (.t 0)), S 89 (.mv (.t 1)), S 90 (.mv (.t 2)), S 91 (.mv (.t 11)), S 92 (.call (.c (.func (.func fn_slices_partitionEqualOrdered_int) [] [])) [(.t 88), (.t 89), (.t 90), (.t 91)]), S 13 (.mv (.t 92))]
@[simp] noncomputable def r19 (_ : Unit) : List Stp := [S 93 (.mv (.t 13)), S 1 (.mv (.t 93))]
@[simp] noncomputable def r20 (_ : Unit) : List Stp := [S 95 (.mv (.t 0)), S 96 (.mv (.t 1)), S 97 (.mv (.t 2)), S 98 (.mv (.t 11)), S 99 (.call (.c (.func (.func fn_slices_partitionOrdered_int) [] [])) [(.t 95), (.t 96), (.t 97), (.t 98)]), S 94 (.mv (.t 99)), S 100 (.ext (.t 94) 0), S 101 (.ext (.t 94) 1), S 14 (.mv (.t 100)), S 15 (.mv (.t 101))]
@[simp] noncomputable def r21 (_ : Unit) : List Stp := [S 102 (.mv (.t 15)), S 9 (.mv (.t 102))]
@[simp] noncomputable def r22 (_ : Unit) : List Stp := [S 103 (.mv (.t 14)), S 104 (.mv (.t 1)), S 105 (.bin .sub (.t 103) (.t 104)), S 106 (.mv (.t 2)), S 107 (.mv (.t 14)), S 108 (.bin .sub (.t 106) (.t 107)), S 16 (.mv (.t 105)), S 17 (.mv (.t 108))]
@[simp] noncomputable def r23 (_ : Unit) : List Stp := [S 109 (.mv (.t 10)), S 110 (.bin .quo (.t 109) (.c (.int .i64 8))), S 18 (.mv (.t 110))]
@[simp] noncomputable def r24 (_ : Unit) : List Stp := [S 111 (.mv (.t 16)), S 112 (.mv (.t 17)), S 113 (.bin .lss (.t 111) (.t 112))]
@[simp] noncomputable def r25 (_ : Unit) : List Stp := [S 114 (.mv (.t 16)), S 115 (.mv (.t 18)), S 116 (.bin .geq (.t 114) (.t 115)), S 8 (.mv (.t 116))]
@[simp] noncomputable def r26 (_ : Unit) : List Stp := [S 117 (.mv (.t 0)), S 118 (.mv (.t 1)), S 119 (.mv (.t 14)), S 120 (.mv (.t 3)), S 121 (.call (.c (.func (.func fn_slices_pdqsortOrdered_int) [] [])) [(.t 117), (.t 118), (.t 119), (.t 120)])]
@[simp] noncomputable def r27 (_ : Unit) : List Stp := [S 122 (.mv (.t 14)), S 123 (.bin .add (.t 122) (.c (.int .i64 1))), S 1 (.mv (.t 123))]
@[simp] noncomputable def r28 (_ : Unit) : List Stp := [S 124 (.mv (.t 17)), S 125 (.mv (.t 18)), S 126 (.bin .geq (.t 124) (.t 125)), S 8 (.mv (.t 126))]
@[simp] noncomputable def r29 (_ : Unit) : List Stp := [S 127 (.mv (.t 0)), S 128 (.mv (.t 14)), S 129 (.bin .add (.t 128) (.c (.int .i64 1))), S 130 (.mv (.t 2)), S 131 (.mv (.t 3)), S 132 (.call (.c (.func (.func fn_slices_pdqsortOrdered_int) [] [])) [(.t 127), (.t 129), (.t 130), (.t 131)])]
@[simp] noncomputable def r30 (_ : Unit) : List Stp := [S 133 (.mv (.t 14)), S 2 (.mv (.t 133))]
@[simp] noncomputable def ir : IR := (.seq (.ops r0) (.seq (.ops r1) (.block 0 (.loop (.block 1 (.seq (.ops r2) (.seq (.seq (.ops r3) (.cond (.t 23) (.seq (.ops r4) .ret) .skip)) (.seq (.seq (.ops r5) (.cond (.t 29) (.seq (.ops r6) .ret) .skip)) (.seq (.seq (.ops r7) (.cond (.t 35) (.seq (.ops r8) (.ops r9)) .skip)) (.seq (.ops r10) (.seq (.seq (.ops r11) (.cond (.t 50) (.seq (.ops r12) (.seq (.ops r13) (.ops r14))) .skip)) (.seq (.seq (.ops r15) (.cond (.t 68) (.seq (.ops r16) (.cond (.t 72) .ret .skip)) .skip)) (.seq (.seq (.ops r17) (.cond (.t 87) (.seq (.ops r18) (.seq (.ops r19) (.exit 1))) .skip)) (.seq (.ops r20) (.seq (.ops r21) (.seq (.ops r22) (.seq (.ops r23) (.seq (.ops r24) (.cond (.t 113) (.seq (.ops r25) (.seq (.ops r26) (.ops r27))) (.seq (.ops r28) (.seq (.ops r29) (.ops r30))))))))))))))))))))))
@[simp] noncomputable def rs : List RV := []
theorem comp : compF Pg cfg Tryz.f120 = some (ir, rs, 134) := by kernel_rfl
theorem enter {args : List AVal} {h : Heap} {K : AEnd → Heap → Prop} (F : Nat) (hl : args.length ≤ 134) (a : AW ⟨Pg, F, 134, false, []⟩ ir (RetK rs K) (initT args) [] h) : ACalls Pg fn_slices_pdqsortOrdered_int args h K :=
  ACalls.of_comp follows Tryz.func120 comp hl a
theorem pure {args : List AVal} {v : AVal} (hl : args.length ≤ 134) (a : AW ⟨Pg, 0, 134, false, []⟩ ir (RetK rs fun e _ => e = .ret v) (initT args) [] nilH) : APure Pg fn_slices_pdqsortOrdered_int args v :=
  APure.of_nil (enter 0 hl a)
end slices_pdqsortOrdered_int

namespace math_bits_Len
noncomputable def cfg : Cfg := { pure := pures, pcs := [], raw := [], cuts := [], draws := [], keep := [] }
@[simp] noncomputable def r0 (_ : Unit) : List Stp := [S 2 (.mv (.c (.int .i64 0)))]
@[simp] noncomputable def r1 (_ : Unit) : List Stp := [S 3 (.mv (.t 0)), S 4 (.conv .u32 (.t 3)), S 5 (.call (.c (.func (.func fn_math_bits_Len32) [] [])) [(.t 4)]), S 2 (.mv (.t 5))]
@[simp] noncomputable def r2 (_ : Unit) : List Stp := [S 6 (.mv (.t 0)), S 7 (.call (.c (.func (.func fn_math_bits_Len64) [] [])) [(.t 6)]), S 2 (.mv (.t 7))]
@[simp] noncomputable def ir : IR := (.seq (.ops r0) (.seq (.cond (.c (.bool false)) (.seq (.ops r1) .ret) .skip) (.seq (.ops r2) .ret)))
@[simp] noncomputable def rs : List RV := [.tmp 2]
theorem comp : compF Pg cfg Tryz.f121 = some (ir, rs, 8) := by kernel_rfl
theorem enter {args : List AVal} {h : Heap} {K : AEnd → Heap → Prop} (F : Nat) (hl : args.length ≤ 8) (a : AW ⟨Pg, F, 8, false, []⟩ ir (RetK rs K) (initT args) [] h) : ACalls Pg fn_math_bits_Len args h K :=
  ACalls.of_comp follows Tryz.func121 comp hl a
theorem pure {args : List AVal} {v : AVal} (hl : args.length ≤ 8) (a : AW ⟨Pg, 0, 8, false, []⟩ ir (RetK rs fun e _ => e = .ret v) (initT args) [] nilH) : APure Pg fn_math_bits_Len args v :=
  APure.of_nil (enter 0 hl a)
end math_bits_Len

namespace slices_AppendSeq_leak_inflow_leak_inflow
noncomputable def cfg : Cfg := { pure := pures, pcs := [], raw := [], cuts := [], draws := [], keep := [] }
@[simp] noncomputable def r0 (_ : Unit) : List Stp := [S 2 (.box (.t 0)), S 4 (.mv (.c .nils))]
@[simp] noncomputable def r1 (_ : Unit) : List Stp := [S 6 (.mv (.t 1))]
@[simp] noncomputable def r2 (_ : Unit) : List Stp := [S 5 (.alloc [(.int .i64 0), (.int .i64 0), (.int .i64 0), (.int .i64 0), (.int .i64 0), (.int .i64 0)]), SN (.store 6 (.t 5) (.t 7))]
@[simp] noncomputable def r3 (_ : Unit) : List Stp := [S 8 (.load false 1 (.t 2)), S 9 (.load true 6 (.t 5)), S 10 (.bsl 1 [(.int .i64 0), (.int .i64 0), (.int .i64 0), (.int .i64 0), (.int .i64 0), (.int .i64 0)] [(0, 6, (.t 9))]), S 11 (.app 6 48 (.t 8) (.t 10)), SN (.store 1 (.t 2) (.t 11))]
@[simp] noncomputable def r4 (_ : Unit) : List Stp := [S 12 (.load false 1 (.t 2)), S 4 (.mv (.t 12))]
@[simp] noncomputable def ir : IR := (.seq (.ops r0) (.seq (.seq (.ops r1) (.block 0 (.rangeF (.t 6) [7] (.ops r2) (.block 1 (.ops r3))))) (.seq (.ops r4) .ret)))
@[simp] noncomputable def rs : List RV := [.tmp 4]
theorem comp : compF Pg cfg Tryz.f122 = some (ir, rs, 13) := by kernel_rfl
theorem enter {args : List AVal} {h : Heap} {K : AEnd → Heap → Prop} (F : Nat) (hl : args.length ≤ 13) (a : AW ⟨Pg, F, 13, false, []⟩ ir (RetK rs K) (initT args) [] h) : ACalls Pg fn_slices_AppendSeq_leak_inflow_leak_inflow args h K :=
  ACalls.of_comp follows Tryz.func122 comp hl a
theorem pure {args : List AVal} {v : AVal} (hl : args.length ≤ 13) (a : AW ⟨Pg, 0, 13, false, []⟩ ir (RetK rs fun e _ => e = .ret v) (initT args) [] nilH) : APure Pg fn_slices_AppendSeq_leak_inflow_leak_inflow args v :=
  APure.of_nil (enter 0 hl a)
end slices_AppendSeq_leak_inflow_leak_inflow

namespace leak_hull_conditions
noncomputable def cfg : Cfg := { pure := pures, pcs := [], raw := [], cuts := [], draws := [(6, [⟨0, false, [], []⟩, ⟨1, false, [], []⟩, ⟨2, false, [], []⟩, ⟨4, false, [], []⟩, ⟨9, false, [], []⟩, ⟨3, false, [], []⟩, ⟨5, false, [], []⟩, ⟨6, false, [], []⟩, ⟨10, false, [], []⟩, ⟨7, false, [], [10]⟩, ⟨8, false, [], []⟩, ⟨11, false, [], []⟩, ⟨12, false, [], []⟩, ⟨13, false, [], []⟩, ⟨14, false, [], []⟩, ⟨15, false, [], []⟩])], keep := [] }
@[simp] noncomputable def r0 (_ : Unit) : List Stp := [S 4 (.mv (.c .nils))]
@[simp] noncomputable def r1 (_ : Unit) : List Stp := [S 8 (.build [] []), S 9 (.mkI 196 (.t 8)), S 10 (.bsl 1 [.nili] [(0, 1, (.t 9))]), S 5 (.mv (.t 10))]
@[simp] noncomputable def r2 (_ : Unit) : List Stp := [S 11 (.mv (.t 0)), S 12 (.nilck Pg (.t 11)), S 13 (.fAddr 0 (.t 12)), S 14 (.fAddr 1 (.t 13)), S 15 (.load false 1 (.t 14)), S 16 (.len (.t 15)), S 17 (.mv (.c (.int .i64 0)))]
@[simp] noncomputable def r3 (_ : Unit) : List Stp := [S 18 (.bin .lss (.t 17) (.t 16))]
@[simp] noncomputable def r4 (_ : Unit) : List Stp := [S 19 (.mv (.t 17)), S 20 (.ixS 4 (.t 15) (.t 17)), S 21 (.load true 4 (.t 20)), S 7 (.alloc [(.int .i64 0), (.int .i64 0), (.int .i64 0), (.int .i64 0)]), S 6 (.mv (.t 19)), SN (.store 4 (.t 7) (.t 21))]
@[simp] noncomputable def r5 (_ : Unit) : List Stp := [S 22 (.mv (.t 1)), S 23 (.mv (.t 6)), S 24 (.bin .shr (.t 22) (.t 23)), S 25 (.bin .and (.t 24) (.c (.int .u64 1))), S 26 (.bin .eql (.t 25) (.c (.int .u64 1)))]
@[simp] noncomputable def r6 (_ : Unit) : List Stp := [S 27 (.mv (.t 5)), S 28 (.mv (.t 0)), S 29 (.fAddr 0 (.t 7)), S 31 (.fAddr 1 (.t 7)), S 36 (.fAddr 2 (.t 7)), S 30 (.load false 1 (.t 29)), S 32 (.load false 1 (.t 31)), S 33 (.build [(.int .i64 0), (.int .i64 0)] [(0, 1, (.t 30)), (1, 1, (.t 32))]), S 37 (.load true 2 (.t 36)), SD (some 34) (.call (.c (.func (.func fn_leak_hull_wet) [] [])) [(.t 28), (.t 33)]) false [] [I 37 (.load true 2 (.t 36))], S 35 (.build [(.int .u64 0)] [(0, 1, (.t 34))]), S 38 (.build [(.int .u64 0), (.int .i64 0), (.int .i64 0)] [(0, 1, (.t 35)), (1, 2, (.t 37))]), S 39 (.mkI 201 (.t 38)), S 40 (.bsl 1 [.nili] [(0, 1, (.t 39))]), S 41 (.app 1 16 (.t 27) (.t 40)), S 5 (.mv (.t 41))]
@[simp] noncomputable def r7 (_ : Unit) : List Stp := [S 42 (.bin .add (.t 17) (.c (.int .i64 1))), S 17 (.mv (.t 42))]
@[simp] noncomputable def r8 (_ : Unit) : List Stp := [S 43 (.mv (.t 5)), S 4 (.mv (.t 43))]
@[simp] noncomputable def ir : IR := (.seq (.ops r0) (.seq (.ops r1) (.seq (.seq (.ops r2) (.block 0 (.loop (.seq (.ops r3) (.seq (.cond (.t 18) .skip (.exit 0)) (.seq (.block 1 (.seq (.ops r4) (.seq (.ops r5) (.cond (.t 26) (.ops r6) .skip)))) (.ops r7))))))) (.seq (.ops r8) .ret))))
@[simp] noncomputable def rs : List RV := [.tmp 4]
theorem comp : compF Pg cfg Tryz.f123 = some (ir, rs, 44) := by kernel_rfl
theorem enter {args : List AVal} {h : Heap} {K : AEnd → Heap → Prop} (F : Nat) (hl : args.length ≤ 44) (a : AW ⟨Pg, F, 44, false, []⟩ ir (RetK rs K) (initT args) [] h) : ACalls Pg fn_leak_hull_conditions args h K :=
  ACalls.of_comp follows Tryz.func123 comp hl a
theorem pure {args : List AVal} {v : AVal} (hl : args.length ≤ 44) (a : AW ⟨Pg, 0, 44, false, []⟩ ir (RetK rs fun e _ => e = .ret v) (initT args) [] nilH) : APure Pg fn_leak_hull_conditions args v :=
  APure.of_nil (enter 0 hl a)
end leak_hull_conditions

namespace leak_hull_inflows_1
noncomputable def cfg : Cfg := { pure := pures, pcs := [], raw := [], cuts := [], draws := [], keep := [] }
@[simp] noncomputable def r0 (_ : Unit) : List Stp := [S 3 (.box (.t 0))]
@[simp] noncomputable def r1 (_ : Unit) : List Stp := [S 4 (.alloc [.nilf])]
@[simp] noncomputable def r2 (_ : Unit) : List Stp := [S 5 (.mkF (.func fn_leak_hull_inflows_1_1) [] [(.t 1), (.t 3), (.t 2), (.t 4)]), SN (.store 1 (.t 4) (.t 5))]
@[simp] noncomputable def r3 (_ : Unit) : List Stp := [S 6 (.load false 1 (.t 4)), S 7 (.build [(.int .i64 0), (.int .i64 0), (.int .i64 0), (.int .i64 0), (.int .i64 0), (.int .i64 0)] []), S 8 (.call (.t 6) [(.t 7), (.c (.int .i64 0))])]
@[simp] noncomputable def ir : IR := (.seq (.ops r0) (.seq (.ops r1) (.seq (.ops r2) (.ops r3))))
@[simp] noncomputable def rs : List RV := []
theorem comp : compF Pg cfg Tryz.f124 = some (ir, rs, 9) := by kernel_rfl
theorem enter {args : List AVal} {h : Heap} {K : AEnd → Heap → Prop} (F : Nat) (hl : args.length ≤ 9) (a : AW ⟨Pg, F, 9, false, []⟩ ir (RetK rs K) (initT args) [] h) : ACalls Pg fn_leak_hull_inflows_1 args h K :=
  ACalls.of_comp follows Tryz.func124 comp hl a
theorem pure {args : List AVal} {v : AVal} (hl : args.length ≤ 9) (a : AW ⟨Pg, 0, 9, false, []⟩ ir (RetK rs fun e _ => e = .ret v) (initT args) [] nilH) : APure Pg fn_leak_hull_inflows_1 args v :=
  APure.of_nil (enter 0 hl a)
end leak_hull_inflows_1

namespace leak_hull_inflows_1_1
noncomputable def cfg : Cfg := { pure := pures, pcs := [], raw := [], cuts := [], draws := [(10, [⟨0, false, [], []⟩, ⟨2, false, [], []⟩, ⟨3, false, [], []⟩, ⟨8, false, [], []⟩, ⟨9, false, [], []⟩, ⟨10, false, [], []⟩, ⟨1, false, [], []⟩, ⟨4, false, [], []⟩, ⟨5, false, [], []⟩, ⟨6, false, [], []⟩, ⟨7, false, [], []⟩, ⟨11, false, [], []⟩, ⟨12, false, [], []⟩])], keep := [] }
@[simp] noncomputable def r0 (_ : Unit) : List Stp := [S 6 (.box (.t 0)), S 8 (.mv (.c (.bool false)))]
@[simp] noncomputable def r1 (_ : Unit) : List Stp := [S 12 (.mv (.t 1)), S 13 (.load false 1 (.t 2)), S 14 (.nilck Pg (.t 13)), S 15 (.fAddr 2 (.t 14)), S 16 (.load false 1 (.t 15)), S 17 (.len (.t 16)), S 18 (.bin .eql (.t 12) (.t 17))]
@[simp] noncomputable def r2 (_ : Unit) : List Stp := [S 19 (.load false 1 (.t 3)), S 20 (.load true 6 (.t 6)), S 21 (.call (.t 19) [(.t 20)]), S 8 (.mv (.t 21))]
@[simp] noncomputable def r3 (_ : Unit) : List Stp := [S 9 (.mv (.c (.int .i64 0)))]
@[simp] noncomputable def r4 (_ : Unit) : List Stp := [S 22 (.mv (.t 9)), S 23 (.load false 1 (.t 2)), S 24 (.nilck Pg (.t 23)), S 25 (.fAddr 2 (.t 24)), S 26 (.load false 1 (.t 25)), S 27 (.mv (.t 1)), S 28 (.ixS 1 (.t 26) (.t 27)), S 29 (.load false 1 (.t 28)), S 30 (.bin .leq (.t 22) (.t 29))]
@[simp] noncomputable def r6 (_ : Unit) : List Stp := [S 33 (.mv (.t 1)), S 34 (.mv (.t 9)), S 35 (.ixA 6 1 (.t 6) (.t 33)), SN (.store 1 (.t 35) (.t 34))]
@[simp] noncomputable def r7 (_ : Unit) : List Stp := [S 36 (.load false 1 (.t 4)), S 37 (.len (.t 36)), S 38 (.mv (.c (.int .i64 0)))]
@[simp] noncomputable def r8 (_ : Unit) : List Stp := [S 39 (.bin .lss (.t 38) (.t 37))]
@[simp] noncomputable def r9 (_ : Unit) : List Stp := [S 40 (.ixS 1 (.t 36) (.t 38)), S 41 (.load false 1 (.t 40)), S 11 (.mv (.t 41))]
@[simp] noncomputable def r10 (_ : Unit) : List Stp := [S 42 (.mv (.t 11)), S 44 (.mv (.t 1)), S 45 (.bin .add (.t 44) (.c (.int .i64 1))), S 50 (.mkF (.method "caulkworks/leak.can") [(.t 42)] []), S 51 (.nilck Pg (.t 50)), S 52 (.mv (.t 42)), S 43 (.load true 6 (.t 6)), S 46 (.load false 1 (.t 2)), S 47 (.nilck Pg (.t 46)), S 48 (.fAddr 2 (.t 47)), S 49 (.load false 1 (.t 48)), S 53 (.inv (.t 52) "caulkworks/leak.can" [(.t 43), (.t 45), (.t 49)]), S 54 (.un .not (.t 53))]
@[simp] noncomputable def r11 (_ : Unit) : List Stp := [S 55 (.bin .add (.t 38) (.c (.int .i64 1))), S 38 (.mv (.t 55))]
@[simp] noncomputable def r12 (_ : Unit) : List Stp := [S 56 (.load false 1 (.t 5)), S 57 (.load true 6 (.t 6)), S 58 (.mv (.t 1)), S 59 (.bin .add (.t 58) (.c (.int .i64 1))), S 60 (.call (.t 56) [(.t 57), (.t 59)]), S 61 (.un .not (.t 60))]
@[simp] noncomputable def r13 (_ : Unit) : List Stp := [S 8 (.mv (.c (.bool false)))]
@[simp] noncomputable def r5 (_ : Unit) : List Stp := [S 31 (.mv (.t 9)), S 32 (.bin .add (.t 31) (.c (.int .i64 1))), S 9 (.mv (.t 32))]
@[simp] noncomputable def r14 (_ : Unit) : List Stp := [S 8 (.mv (.c (.bool true)))]
@[simp] noncomputable def ir : IR := (.seq (.ops r0) (.seq (.seq (.ops r1) (.cond (.t 18) (.seq (.ops r2) .ret) .skip)) (.seq .skip (.seq (.seq (.ops r3) (.block 0 (.loop (.seq (.seq (.ops r4) (.cond (.t 30) .skip (.exit 0))) (.seq (.block 1 (.seq (.ops r6) (.seq (.seq (.ops r7) (.block 2 (.loop (.seq (.ops r8) (.seq (.cond (.t 39) .skip (.exit 2)) (.seq (.block 3 (.seq (.ops r9) (.seq (.ops r10) (.cond (.t 54) (.exit 1) .skip)))) (.ops r11))))))) (.seq (.ops r12) (.cond (.t 61) (.seq (.ops r13) .ret) .skip))))) (.ops r5)))))) (.seq (.ops r14) .ret)))))
@[simp] noncomputable def rs : List RV := [.tmp 8]
theorem comp : compF Pg cfg Tryz.f125 = some (ir, rs, 62) := by kernel_rfl
theorem enter {args : List AVal} {h : Heap} {K : AEnd → Heap → Prop} (F : Nat) (hl : args.length ≤ 62) (a : AW ⟨Pg, F, 62, false, []⟩ ir (RetK rs K) (initT args) [] h) : ACalls Pg fn_leak_hull_inflows_1_1 args h K :=
  ACalls.of_comp follows Tryz.func125 comp hl a
theorem pure {args : List AVal} {v : AVal} (hl : args.length ≤ 62) (a : AW ⟨Pg, 0, 62, false, []⟩ ir (RetK rs fun e _ => e = .ret v) (initT args) [] nilH) : APure Pg fn_leak_hull_inflows_1_1 args v :=
  APure.of_nil (enter 0 hl a)
end leak_hull_inflows_1_1

namespace leak_Rate_1
noncomputable def cfg : Cfg := { pure := pures, pcs := [], raw := [], cuts := [], draws := [], keep := [] }
@[simp] noncomputable def r0 (_ : Unit) : List Stp := [S 1 (.recov), S 2 (.call (.c (.func (.func fn_leak_said) [] [])) [(.t 1), (.t 0)])]
@[simp] noncomputable def ir : IR := (.ops r0)
@[simp] noncomputable def rs : List RV := []
theorem comp : compF Pg cfg Tryz.f126 = some (ir, rs, 3) := by kernel_rfl
theorem enter {args : List AVal} {h : Heap} {K : AEnd → Heap → Prop} (F : Nat) (hl : args.length ≤ 3) (a : AW ⟨Pg, F, 3, false, []⟩ ir (RetK rs K) (initT args) [] h) : ACalls Pg fn_leak_Rate_1 args h K :=
  ACalls.of_comp follows Tryz.func126 comp hl a
theorem pure {args : List AVal} {v : AVal} (hl : args.length ≤ 3) (a : AW ⟨Pg, 0, 3, false, []⟩ ir (RetK rs fun e _ => e = .ret v) (initT args) [] nilH) : APure Pg fn_leak_Rate_1 args v :=
  APure.of_nil (enter 0 hl a)
theorem recClo : RecClo Pg fn_leak_Rate_1 fn_leak_said := ⟨_, Tryz.func126, by kernel_rfl⟩
end leak_Rate_1

namespace leak_hull_total
noncomputable def cfg : Cfg := { pure := pures, pcs := [], raw := [], cuts := [], draws := [], keep := [] }
@[simp] noncomputable def r0 (_ : Unit) : List Stp := [S 3 (.box (.t 1)), S 4 (.alloc [(.int .i64 0), (.int .i64 0)])]
@[simp] noncomputable def r1 (_ : Unit) : List Stp := [S 5 (.alloc [.nilf]), SN (.store 1 (.t 5) (.c (.func (.func fn_leak_inflow_sum) [] [])))]
@[simp] noncomputable def r2 (_ : Unit) : List Stp := [S 6 (.mv (.t 0)), S 7 (.call (.c (.func (.func fn_leak_hull_truths) [] [])) [(.t 6)]), S 8 (.mkF (.func fn_leak_hull_total_1) [] [(.t 5), (.t 3)]), S 9 (.call (.c (.func (.func fn_leak_sums) [] [])) [(.t 7), (.t 8)]), SN (.store 2 (.t 4) (.t 9))]
@[simp] noncomputable def ir : IR := (.seq (.ops r0) (.seq (.ops r1) (.seq (.ops r2) .ret)))
@[simp] noncomputable def rs : List RV := [.cell 4 true 2]
theorem comp : compF Pg cfg Tryz.f127 = some (ir, rs, 10) := by kernel_rfl
theorem enter {args : List AVal} {h : Heap} {K : AEnd → Heap → Prop} (F : Nat) (hl : args.length ≤ 10) (a : AW ⟨Pg, F, 10, false, []⟩ ir (RetK rs K) (initT args) [] h) : ACalls Pg fn_leak_hull_total args h K :=
  ACalls.of_comp follows Tryz.func127 comp hl a
theorem pure {args : List AVal} {v : AVal} (hl : args.length ≤ 10) (a : AW ⟨Pg, 0, 10, false, []⟩ ir (RetK rs fun e _ => e = .ret v) (initT args) [] nilH) : APure Pg fn_leak_hull_total args v :=
  APure.of_nil (enter 0 hl a)
end leak_hull_total

namespace slices_IndexFunc_int_int
noncomputable def cfg : Cfg := { pure := pures, pcs := [], raw := [], cuts := [], draws := [], keep := [] }
@[simp] noncomputable def r0 (_ : Unit) : List Stp := [S 4 (.mv (.c (.int .i64 0)))]
@[simp] noncomputable def r1 (_ : Unit) : List Stp := [S 6 (.mv (.t 0)), S 7 (.len (.t 6)), S 8 (.mv (.c (.int .i64 0)))]
@[simp] noncomputable def r2 (_ : Unit) : List Stp := [S 9 (.bin .lss (.t 8) (.t 7))]
@[simp] noncomputable def r3 (_ : Unit) : List Stp := [S 10 (.mv (.t 8)), S 5 (.mv (.t 10))]
@[simp] noncomputable def r4 (_ : Unit) : List Stp := [S 11 (.mv (.t 1)), S 12 (.mv (.t 0)), S 13 (.mv (.t 5)), S 14 (.ixS 1 (.t 12) (.t 13)), S 15 (.load false 1 (.t 14)), S 16 (.call (.t 11) [(.t 15)])]
@[simp] noncomputable def r5 (_ : Unit) : List Stp := [S 17 (.mv (.t 5)), S 4 (.mv (.t 17))]
@[simp] noncomputable def r6 (_ : Unit) : List Stp := [S 18 (.bin .add (.t 8) (.c (.int .i64 1))), S 8 (.mv (.t 18))]
@[simp] noncomputable def r7 (_ : Unit) : List Stp := [S 4 (.mv (.c (.int .i64 (-1))))]
@[simp] noncomputable def ir : IR := (.seq (.ops r0) (.seq (.seq (.ops r1) (.block 0 (.loop (.seq (.ops r2) (.seq (.cond (.t 9) .skip (.exit 0)) (.seq (.block 1 (.seq (.ops r3) (.seq (.ops r4) (.cond (.t 16) (.seq (.ops r5) .ret) .skip)))) (.ops r6))))))) (.seq (.ops r7) .ret)))
@[simp] noncomputable def rs : List RV := [.tmp 4]
theorem comp : compF Pg cfg Tryz.f128 = some (ir, rs, 19) := by kernel_rfl
theorem enter {args : List AVal} {h : Heap} {K : AEnd → Heap → Prop} (F : Nat) (hl : args.length ≤ 19) (a : AW ⟨Pg, F, 19, false, []⟩ ir (RetK rs K) (initT args) [] h) : ACalls Pg fn_slices_IndexFunc_int_int args h K :=
  ACalls.of_comp follows Tryz.func128 comp hl a
theorem pure {args : List AVal} {v : AVal} (hl : args.length ≤ 19) (a : AW ⟨Pg, 0, 19, false, []⟩ ir (RetK rs fun e _ => e = .ret v) (initT args) [] nilH) : APure Pg fn_slices_IndexFunc_int_int args v :=
  APure.of_nil (enter 0 hl a)
end slices_IndexFunc_int_int

namespace ref01_Truths
noncomputable def cfg : Cfg := { pure := pures, pcs := [], raw := [], cuts := [], draws := [(1, [⟨0, false, [], []⟩, ⟨1, false, [], []⟩, ⟨2, false, [], []⟩, ⟨3, false, [], []⟩, ⟨4, false, [], []⟩])], keep := [] }
@[simp] noncomputable def r0 (_ : Unit) : List Stp := [S 1 (.box (.t 0)), S 2 (.mv (.c .nils))]
@[simp] noncomputable def r1 (_ : Unit) : List Stp := [S 3 (.load true 2 (.t 1)), S 4 (.load true 2 (.t 1)), SP 5 (.call (.c (.func (.func fn_ref01_every) [] [])) [(.t 4)]), S 6 (.call (.c (.func (.func fn_ref01_truths) [] [])) [(.t 3), (.t 5), (.c .nils), (.c .nils)]), S 2 (.mv (.t 6))]
@[simp] noncomputable def ir : IR := (.seq (.ops r0) (.seq (.ops r1) .ret))
@[simp] noncomputable def rs : List RV := [.tmp 2]
theorem comp : compF Pg cfg Tryz.f129 = some (ir, rs, 7) := by kernel_rfl
theorem enter {args : List AVal} {h : Heap} {K : AEnd → Heap → Prop} (F : Nat) (hl : args.length ≤ 7) (a : AW ⟨Pg, F, 7, false, []⟩ ir (RetK rs K) (initT args) [] h) : ACalls Pg fn_ref01_Truths args h K :=
  ACalls.of_comp follows Tryz.func129 comp hl a
theorem pure {args : List AVal} {v : AVal} (hl : args.length ≤ 7) (a : AW ⟨Pg, 0, 7, false, []⟩ ir (RetK rs fun e _ => e = .ret v) (initT args) [] nilH) : APure Pg fn_ref01_Truths args v :=
  APure.of_nil (enter 0 hl a)
end ref01_Truths

namespace slices_insertionSortOrdered_int
noncomputable def cfg : Cfg := { pure := pures, pcs := [], raw := [], cuts := [], draws := [(4, [⟨0, false, [], []⟩, ⟨1, false, [], []⟩, ⟨2, false, [], []⟩, ⟨3, false, [], []⟩, ⟨4, false, [], []⟩, ⟨5, false, [], []⟩, ⟨6, false, [], []⟩, ⟨8, false, [], []⟩, ⟨9, false, [], []⟩, ⟨10, false, [], []⟩, ⟨11, false, [], []⟩, ⟨7, false, [], []⟩, ⟨12, false, [], []⟩, ⟨13, false, [], []⟩, ⟨14, false, [], []⟩]), (6, [⟨0, false, [], []⟩, ⟨1, false, [], []⟩, ⟨2, false, [], []⟩, ⟨3, false, [], []⟩, ⟨4, false, [], []⟩, ⟨5, false, [], []⟩, ⟨6, false, [], []⟩, ⟨7, false, [], []⟩, ⟨8, false, [], []⟩, ⟨10, false, [], []⟩, ⟨11, false, [], []⟩, ⟨12, false, [], []⟩, ⟨9, false, [], []⟩, ⟨13, false, [], []⟩, ⟨14, false, [], []⟩, ⟨15, false, [], []⟩, ⟨16, false, [], []⟩, ⟨17, false, [], []⟩])], keep := [] }
@[simp] noncomputable def r0 (_ : Unit) : List Stp := [S 8 (.mv (.t 1)), S 9 (.bin .add (.t 8) (.c (.int .i64 1))), S 6 (.mv (.t 9))]
@[simp] noncomputable def r1 (_ : Unit) : List Stp := [S 10 (.mv (.t 6)), S 11 (.mv (.t 2)), S 12 (.bin .lss (.t 10) (.t 11))]
@[simp] noncomputable def r3 (_ : Unit) : List Stp := [S 15 (.mv (.t 6)), S 7 (.mv (.t 15))]
@[simp] noncomputable def r4 (_ : Unit) : List Stp := [S 16 (.mv (.t 7)), S 17 (.mv (.t 1)), S 18 (.bin .gtr (.t 16) (.t 17)), S 19 (.mv (.t 18)), SG 20 19 true (.mv (.t 0)), SG 21 19 true (.mv (.t 7)), SG 22 19 true (.ixS 1 (.t 20) (.t 21)), SG 24 19 true (.mv (.t 0)), SG 25 19 true (.mv (.t 7)), SG 26 19 true (.bin .sub (.t 25) (.c (.int .i64 1))), SG 27 19 true (.ixS 1 (.t 24) (.t 26)), SG 23 19 true (.load false 1 (.t 22)), SG 28 19 true (.load false 1 (.t 27)), SG 29 19 true (.call (.c (.func (.func fn_cmp_Less_int) [] [])) [(.t 23), (.t 28)]), S 30 (.pick (.t 19) (.t 29) (.c (.bool false)))]
@[simp] noncomputable def r6 (_ : Unit) : List Stp := [S 33 (.mv (.t 0)), S 34 (.mv (.t 7)), S 35 (.mv (.t 0)), S 36 (.mv (.t 7)), S 37 (.bin .sub (.t 36) (.c (.int .i64 1))), S 38 (.mv (.t 0)), S 39 (.mv (.t 7)), S 40 (.bin .sub (.t 39) (.c (.int .i64 1))), S 41 (.ixS 1 (.t 38) (.t 40)), S 43 (.mv (.t 0)), S 44 (.mv (.t 7)), S 45 (.ixS 1 (.t 43) (.t 44)), S 42 (.load false 1 (.t 41)), S 46 (.load false 1 (.t 45)), S 47 (.ixS 1 (.t 33) (.t 34)), SN (.store 1 (.t 47) (.t 42)), S 48 (.ixS 1 (.t 35) (.t 37)), SN (.store 1 (.t 48) (.t 46))]
@[simp] noncomputable def r5 (_ : Unit) : List Stp := [S 31 (.mv (.t 7)), S 32 (.bin .sub (.t 31) (.c (.int .i64 1))), S 7 (.mv (.t 32))]
@[simp] noncomputable def r2 (_ : Unit) : List Stp := [S 13 (.mv (.t 6)), S 14 (.bin .add (.t 13) (.c (.int .i64 1))), S 6 (.mv (.t 14))]
@[simp] noncomputable def ir : IR := (.seq (.ops r0) (.block 0 (.loop (.seq (.seq (.ops r1) (.cond (.t 12) .skip (.exit 0))) (.seq (.block 1 (.seq (.ops r3) (.block 2 (.loop (.seq (.seq (.ops r4) (.cond (.t 30) .skip (.exit 2))) (.seq (.block 3 (.ops r6)) (.ops r5))))))) (.ops r2))))))
@[simp] noncomputable def rs : List RV := []
theorem comp : compF Pg cfg Tryz.f130 = some (ir, rs, 49) := by kernel_rfl
theorem enter {args : List AVal} {h : Heap} {K : AEnd → Heap → Prop} (F : Nat) (hl : args.length ≤ 49) (a : AW ⟨Pg, F, 49, false, []⟩ ir (RetK rs K) (initT args) [] h) : ACalls Pg fn_slices_insertionSortOrdered_int args h K :=
  ACalls.of_comp follows Tryz.func130 comp hl a
theorem pure {args : List AVal} {v : AVal} (hl : args.length ≤ 49) (a : AW ⟨Pg, 0, 49, false, []⟩ ir (RetK rs fun e _ => e = .ret v) (initT args) [] nilH) : APure Pg fn_slices_insertionSortOrdered_int args v :=
  APure.of_nil (enter 0 hl a)
end slices_insertionSortOrdered_int

namespace cmp_Less_int
noncomputable def cfg : Cfg := { pure := pures, pcs := [], raw := [], cuts := [], draws := [], keep := [] }
@[simp] noncomputable def r0 (_ : Unit) : List Stp := [S 4 (.mv (.c (.bool false)))]
@[simp] noncomputable def r1 (_ : Unit) : List Stp := [S 5 (.mv (.t 0)), S 6 (.call (.c (.func (.func fn_cmp_isNaN_int) [] [])) [(.t 5)]), S 7 (.mv (.t 6)), SG 8 7 true (.mv (.t 1)), SG 9 7 true (.call (.c (.func (.func fn_cmp_isNaN_int) [] [])) [(.t 8)]), SG 10 7 true (.un .not (.t 9)), S 11 (.pick (.t 7) (.t 10) (.c (.bool false))), S 12 (.mv (.t 11)), SG 13 12 false (.mv (.t 0)), SG 14 12 false (.mv (.t 1)), SG 15 12 false (.bin .lss (.t 13) (.t 14)), S 16 (.pick (.t 12) (.c (.bool true)) (.t 15)), S 4 (.mv (.t 16))]
@[simp] noncomputable def ir : IR := (.seq (.ops r0) (.seq (.ops r1) .ret))
@[simp] noncomputable def rs : List RV := [.tmp 4]
theorem comp : compF Pg cfg Tryz.f136 = some (ir, rs, 17) := by kernel_rfl
theorem enter {args : List AVal} {h : Heap} {K : AEnd → Heap → Prop} (F : Nat) (hl : args.length ≤ 17) (a : AW ⟨Pg, F, 17, false, []⟩ ir (RetK rs K) (initT args) [] h) : ACalls Pg fn_cmp_Less_int args h K :=
  ACalls.of_comp follows Tryz.func136 comp hl a
theorem pure {args : List AVal} {v : AVal} (hl : args.length ≤ 17) (a : AW ⟨Pg, 0, 17, false, []⟩ ir (RetK rs fun e _ => e = .ret v) (initT args) [] nilH) : APure Pg fn_cmp_Less_int args v :=
  APure.of_nil (enter 0 hl a)
end cmp_Less_int

namespace math_bits_Len32
noncomputable def cfg : Cfg := { pure := pures, pcs := [], raw := [], cuts := [], draws := [], keep := [] }
@[simp] noncomputable def r0 (_ : Unit) : List Stp := [S 2 (.mv (.c (.int .i64 0)))]
@[simp] noncomputable def r1 (_ : Unit) : List Stp := [S 3 (.mv (.t 0)), S 4 (.bin .geq (.t 3) (.c (.int .u32 65536)))]
@[simp] noncomputable def r2 (_ : Unit) : List Stp := [S 5 (.mv (.t 0)), S 6 (.bin .shr (.t 5) (.c (.int .u64 16))), S 0 (.mv (.t 6))]
@[simp] noncomputable def r3 (_ : Unit) : List Stp := [S 2 (.mv (.c (.int .i64 16)))]
@[simp] noncomputable def r4 (_ : Unit) : List Stp := [S 7 (.mv (.t 0)), S 8 (.bin .geq (.t 7) (.c (.int .u32 256)))]
@[simp] noncomputable def r5 (_ : Unit) : List Stp := [S 9 (.mv (.t 0)), S 10 (.bin .shr (.t 9) (.c (.int .u64 8))), S 0 (.mv (.t 10))]
@[simp] noncomputable def r6 (_ : Unit) : List Stp := [S 11 (.mv (.t 2)), S 12 (.bin .add (.t 11) (.c (.int .i64 8))), S 2 (.mv (.t 12))]
@[simp] noncomputable def r7 (_ : Unit) : List Stp := [S 13 (.mv (.t 2)), S 14 (.mv (.t 0)), S 15 (.conv .u8 (.t 14)), S 16 (.ixT (.c (.str [0, 1, 2, 2, 3, 3, 3, 3, 4, 4, 4, 4, 4, 4, 4, 4, 5, 5, 5, 5, 5, 5, 5, 5, 5, 5, 5, 5, 5, 5, 5, 5, 6, 6, 6, 6, 6, 6, 6, 6, 6, 6, 6, 6, 6, 6, 6, 6, 6, 6, 6, 6, 6, 6, 6, 6, 6, 6, 6, 6, 6, 6, 6, 6, 7, 7, 7, 7, 7, 7, 7, 7, 7, 7, 7, 7, 7, 7, 7, 7, 7, 7, 7, 7, 7, 7, 7, 7, 7, 7, 7, 7, 7, 7, 7, 7, 7, 7, 7, 7, 7, 7, 7, 7, 7, 7, 7, 7, 7, 7, 7, 7, 7, 7, 7, 7, 7, 7, 7, 7, 7, 7, 7, 7, 7, 7, 7, 7, 8, 8, 8, 8, 8, 8, 8, 8, 8, 8, 8, 8, 8, 8, 8, 8, 8, 8, 8, 8, 8, 8, 8, 8, 8, 8, 8, 8, 8, 8, 8, 8, 8, 8, 8, 8, 8, 8, 8, 8, 8, 8, 8, 8, 8, 8, 8, 8, 8, 8, 8, 8, 8, 8, 8, 8, 8, 8, 8, 8, 8, 8, 8, 8, 8, 8, 8, 8, 8, 8, 8, 8, 8, 8, 8, 8, 8, 8, 8, 8, 8, 8, 8, 8, 8, 8, 8, 8, 8, 8, 8, 8, 8, 8, 8, 8, 8, 8, 8, 8, 8, 8, 8, 8, 8, 8, 8, 8, 8, 8, 8, 8, 8, 8, 8, 8, 8, 8, 8, 8, 8, 8, 8, 8, 8, 8, 8, 8])) (.t 15)), S 17 (.conv .i64 (.t 16)), S 18 (.bin .add (.t 13) (.t 17)), S 2 (.mv (.t 18))]
@[simp] noncomputable def ir : IR := (.seq (.ops r0) (.seq (.seq (.ops r1) (.cond (.t 4) (.seq (.ops r2) (.ops r3)) .skip)) (.seq (.seq (.ops r4) (.cond (.t 8) (.seq (.ops r5) (.ops r6)) .skip)) (.seq (.ops r7) .ret))))
@[simp] noncomputable def rs : List RV := [.tmp 2]
theorem comp : compF Pg cfg Tryz.f139 = some (ir, rs, 19) := by kernel_rfl
theorem enter {args : List AVal} {h : Heap} {K : AEnd → Heap → Prop} (F : Nat) (hl : args.length ≤ 19) (a : AW ⟨Pg, F, 19, false, []⟩ ir (RetK rs K) (initT args) [] h) : ACalls Pg fn_math_bits_Len32 args h K :=
  ACalls.of_comp follows Tryz.func139 comp hl a
theorem pure {args : List AVal} {v : AVal} (hl : args.length ≤ 19) (a : AW ⟨Pg, 0, 19, false, []⟩ ir (RetK rs fun e _ => e = .ret v) (initT args) [] nilH) : APure Pg fn_math_bits_Len32 args v :=
  APure.of_nil (enter 0 hl a)
end math_bits_Len32

namespace math_bits_Len64
noncomputable def cfg : Cfg := { pure := pures, pcs := [], raw := [], cuts := [], draws := [], keep := [] }
@[simp] noncomputable def r0 (_ : Unit) : List Stp := [S 2 (.mv (.c (.int .i64 0)))]
@[simp] noncomputable def r1 (_ : Unit) : List Stp := [S 3 (.mv (.t 0)), S 4 (.bin .geq (.t 3) (.c (.int .u64 4294967296)))]
@[simp] noncomputable def r2 (_ : Unit) : List Stp := [S 5 (.mv (.t 0)), S 6 (.bin .shr (.t 5) (.c (.int .u64 32))), S 0 (.mv (.t 6))]
@[simp] noncomputable def r3 (_ : Unit) : List Stp := [S 2 (.mv (.c (.int .i64 32)))]
@[simp] noncomputable def r4 (_ : Unit) : List Stp := [S 7 (.mv (.t 0)), S 8 (.bin .geq (.t 7) (.c (.int .u64 65536)))]
@[simp] noncomputable def r5 (_ : Unit) : List Stp := [S 9 (.mv (.t 0)), S 10 (.bin .shr (.t 9) (.c (.int .u64 16))), S 0 (.mv (.t 10))]
@[simp] noncomputable def r6 (_ : Unit) : List Stp := [S 11 (.mv (.t 2)), S 12 (.bin .add (.t 11) (.c (.int .i64 16))), S 2 (.mv (.t 12))]
@[simp] noncomputable def r7 (_ : Unit) : List Stp := [S 13 (.mv (.t 0)), S 14 (.bin .geq (.t 13) (.c (.int .u64 256)))]
@[simp] noncomputable def r8 (_ : Unit) : List Stp := [S 15 (.mv (.t 0)), S 16 (.bin .shr (.t 15) (.c (.int .u64 8))), S 0 (.mv (.t 16))]
@[simp] noncomputable def r9 (_ : Unit) : List Stp := [S 17 (.mv (.t 2)), S 18 (.bin .add (.t 17) (.c (.int .i64 8))), S 2 (.mv (.t 18))]
@[simp] noncomputable def r10 (_ : Unit) : List Stp := [S 19 (.mv (.t 2)), S 20 (.mv (.t 0)), S 21 (.conv .u8 (.t 20)), S 22 (.ixT (.c (.str [0, 1, 2, 2, 3, 3, 3, 3, 4, 4, 4, 4, 4, 4, 4, 4, 5, 5, 5, 5, 5, 5, 5, 5, 5, 5, 5, 5, 5, 5, 5, 5, 6, 6, 6, 6, 6, 6, 6, 6, 6, 6, 6, 6, 6, 6, 6, 6, 6, 6, 6, 6, 6, 6, 6, 6, 6, 6, 6, 6, 6, 6, 6, 6, 7, 7, 7, 7, 7, 7, 7, 7, 7, 7, 7, 7, 7, 7, 7, 7, 7, 7, 7, 7, 7, 7, 7, 7, 7, 7, 7, 7, 7, 7, 7, 7, 7, 7, 7, 7, 7, 7, 7, 7, 7, 7, 7, 7, 7, 7, 7, 7, 7, 7, 7, 7, 7, 7, 7, 7, 7, 7, 7, 7, 7, 7, 7, 7, 8, 8, 8, 8, 8, 8, 8, 8, 8, 8, 8, 8, 8, 8, 8, 8, 8, 8, 8, 8, 8, 8, 8, 8, 8, 8, 8, 8, 8, 8, 8, 8, 8, 8, 8, 8, 8, 8, 8, 8, 8, 8, 8, 8, 8, 8, 8, 8, 8, 8, 8, 8, 8, 8, 8, 8, 8, 8, 8, 8, 8, 8, 8, 8, 8, 8, 8, 8, 8, 8, 8, 8, 8, 8, 8, 8, 8, 8, 8, 8, 8, 8, 8, 8, 8, 8, 8, 8, 8, 8, 8, 8, 8, 8, 8, 8, 8, 8, 8, 8, 8, 8, 8, 8, 8, 8, 8, 8, 8, 8, 8, 8, 8, 8, 8, 8, 8, 8, 8, 8, 8, 8, 8, 8, 8, 8, 8, 8])) (.t 21)), S 23 (.conv .i64 (.t 22)), S 24 (.bin .add (.t 19) (.t 23)), S 2 (.mv (.t 24))]
@[simp] noncomputable def ir : IR := (.seq (.ops r0) (.seq (.seq (.ops r1) (.cond (.t 4) (.seq (.ops r2) (.ops r3)) .skip)) (.seq (.seq (.ops r4) (.cond (.t 8) (.seq (.ops r5) (.ops r6)) .skip)) (.seq (.seq (.ops r7) (.cond (.t 14) (.seq (.ops r8) (.ops r9)) .skip)) (.seq (.ops r10) .ret)))))
@[simp] noncomputable def rs : List RV := [.tmp 2]
theorem comp : compF Pg cfg Tryz.f140 = some (ir, rs, 25) := by kernel_rfl
theorem enter {args : List AVal} {h : Heap} {K : AEnd → Heap → Prop} (F : Nat) (hl : args.length ≤ 25) (a : AW ⟨Pg, F, 25, false, []⟩ ir (RetK rs K) (initT args) [] h) : ACalls Pg fn_math_bits_Len64 args h K :=
  ACalls.of_comp follows Tryz.func140 comp hl a
theorem pure {args : List AVal} {v : AVal} (hl : args.length ≤ 25) (a : AW ⟨Pg, 0, 25, false, []⟩ ir (RetK rs fun e _ => e = .ret v) (initT args) [] nilH) : APure Pg fn_math_bits_Len64 args v :=
  APure.of_nil (enter 0 hl a)
end math_bits_Len64

namespace leak_hull_wet
noncomputable def cfg : Cfg := { pure := pures, pcs := [], raw := [], cuts := [], draws := [(1, [⟨0, false, [], []⟩, ⟨1, false, [], []⟩, ⟨2, false, [], []⟩, ⟨3, false, [], []⟩, ⟨4, false, [], []⟩, ⟨5, false, [], []⟩, ⟨6, false, [], []⟩, ⟨7, false, [], []⟩, ⟨8, false, [], []⟩, ⟨9, false, [], []⟩, ⟨10, false, [], []⟩]), (11, [⟨0, false, [], []⟩, ⟨1, false, [], []⟩, ⟨2, false, [], []⟩, ⟨5, false, [], []⟩, ⟨3, false, [], []⟩, ⟨4, false, [], []⟩, ⟨6, false, [], []⟩])], keep := [] }
@[simp] noncomputable def r0 (_ : Unit) : List Stp := [S 3 (.box (.t 1)), S 4 (.mv (.c (.int .u64 0)))]
@[simp] noncomputable def r1 (_ : Unit) : List Stp := [S 11 (.mv (.t 0)), S 12 (.nilck Pg (.t 11)), S 13 (.fAddr 3 (.t 12)), S 14 (.load false 1 (.t 13)), S 15 (.load true 2 (.t 3)), S 16 (.lookup (true, [.i, .i]) true (.int .u64 0) (.t 14) (.t 15)), S 10 (.mv (.t 16)), S 17 (.ext (.t 10) 0), S 18 (.ext (.t 10) 1), S 5 (.mv (.t 17)), S 6 (.mv (.t 18))]
@[simp] noncomputable def r2 (_ : Unit) : List Stp := [S 19 (.mv (.t 6))]
@[simp] noncomputable def r3 (_ : Unit) : List Stp := [S 20 (.mv (.t 5)), S 4 (.mv (.t 20))]
@[simp] noncomputable def r4 (_ : Unit) : List Stp := [S 7 (.mv (.c (.int .u64 0)))]
@[simp] noncomputable def r5 (_ : Unit) : List Stp := [S 21 (.mv (.t 0)), S 22 (.nilck Pg (.t 21)), S 23 (.fAddr 0 (.t 22)), S 24 (.fAddr 0 (.t 23)), S 25 (.load false 1 (.t 24)), S 26 (.len (.t 25)), S 27 (.mv (.c (.int .i64 0)))]
@[simp] noncomputable def r6 (_ : Unit) : List Stp := [S 28 (.bin .lss (.t 27) (.t 26))]
@[simp] noncomputable def r7 (_ : Unit) : List Stp := [S 29 (.mv (.t 27)), S 30 (.ixS 3 (.t 25) (.t 27)), S 31 (.load true 3 (.t 30)), S 9 (.alloc [(.int .i64 0), (.int .i64 0), (.int .i64 0)]), S 8 (.mv (.t 29)), SN (.store 3 (.t 9) (.t 31))]
@[simp] noncomputable def r8 (_ : Unit) : List Stp := [S 32 (.fAddr 0 (.t 9)), S 33 (.load false 1 (.t 32)), S 34 (.fAddr 0 (.t 3)), S 35 (.load false 1 (.t 34)), S 36 (.fAddr 1 (.t 9)), S 37 (.load false 1 (.t 36)), S 38 (.fAddr 1 (.t 3)), S 39 (.load false 1 (.t 38)), S 40 (.bin .mul (.t 37) (.t 39)), S 41 (.bin .add (.t 35) (.t 40)), S 42 (.bin .leq (.t 33) (.t 41))]
@[simp] noncomputable def r9 (_ : Unit) : List Stp := [S 43 (.mv (.t 7)), S 44 (.mv (.t 8)), S 45 (.bin .shl (.c (.int .u64 1)) (.t 44)), S 46 (.bin .or (.t 43) (.t 45)), S 7 (.mv (.t 46))]
@[simp] noncomputable def r10 (_ : Unit) : List Stp := [S 47 (.bin .add (.t 27) (.c (.int .i64 1))), S 27 (.mv (.t 47))]
@[simp] noncomputable def r11 (_ : Unit) : List Stp := [S 48 (.mv (.t 0)), S 49 (.nilck Pg (.t 48)), S 50 (.fAddr 3 (.t 49)), S 53 (.mv (.t 7)), S 51 (.load false 1 (.t 50)), S 52 (.load true 2 (.t 3)), SN (.mapU (true, [.i, .i]) (.t 51) (.t 52) (.t 53))]
@[simp] noncomputable def r12 (_ : Unit) : List Stp := [S 54 (.mv (.t 7)), S 4 (.mv (.t 54))]
@[simp] noncomputable def ir : IR := (.seq (.ops r0) (.seq (.seq (.ops r1) (.seq (.ops r2) (.cond (.t 19) (.seq (.ops r3) .ret) .skip))) (.seq (.ops r4) (.seq (.seq (.ops r5) (.block 0 (.loop (.seq (.ops r6) (.seq (.cond (.t 28) .skip (.exit 0)) (.seq (.block 1 (.seq (.ops r7) (.seq (.ops r8) (.cond (.t 42) (.ops r9) .skip)))) (.ops r10))))))) (.seq (.ops r11) (.seq (.ops r12) .ret))))))
@[simp] noncomputable def rs : List RV := [.tmp 4]
theorem comp : compF Pg cfg Tryz.f141 = some (ir, rs, 55) := by kernel_rfl
theorem enter {args : List AVal} {h : Heap} {K : AEnd → Heap → Prop} (F : Nat) (hl : args.length ≤ 55) (a : AW ⟨Pg, F, 55, false, []⟩ ir (RetK rs K) (initT args) [] h) : ACalls Pg fn_leak_hull_wet args h K :=
  ACalls.of_comp follows Tryz.func141 comp hl a
theorem pure {args : List AVal} {v : AVal} (hl : args.length ≤ 55) (a : AW ⟨Pg, 0, 55, false, []⟩ ir (RetK rs fun e _ => e = .ret v) (initT args) [] nilH) : APure Pg fn_leak_hull_wet args v :=
  APure.of_nil (enter 0 hl a)
end leak_hull_wet

namespace leak_inflow_sum
noncomputable def cfg : Cfg := { pure := pures, pcs := [], raw := [], cuts := [], draws := [], keep := [] }
@[simp] noncomputable def r0 (_ : Unit) : List Stp := [S 2 (.box (.t 0)), S 4 (.mv (.c (.int .i64 0)))]
@[simp] noncomputable def r1 (_ : Unit) : List Stp := [S 7 (.load true 6 (.t 2)), S 8 (.mv (.c (.int .i64 0)))]
@[simp] noncomputable def r2 (_ : Unit) : List Stp := [S 9 (.bin .lss (.t 8) (.c (.int .i64 6)))]
@[simp] noncomputable def r3 (_ : Unit) : List Stp := [S 10 (.mv (.t 8)), S 11 (.ixV 6 1 false (.t 7) (.t 8)), S 5 (.mv (.t 10)), S 6 (.mv (.t 11))]
@[simp] noncomputable def r4 (_ : Unit) : List Stp := [S 12 (.mv (.t 1)), S 13 (.mv (.t 5)), SP 14 (.call (.c (.func (.func fn_leak_set_has) [] [])) [(.t 12), (.t 13)])]
@[simp] noncomputable def r5 (_ : Unit) : List Stp := [S 15 (.mv (.t 4)), S 16 (.mv (.t 6)), S 17 (.bsl 2 [(.int .i64 0), (.int .i64 0)] [(0, 1, (.t 15)), (1, 1, (.t 16))]), S 18 (.call (.c (.func (.func fn_leak_flows) [] [])) [(.t 17)]), S 4 (.mv (.t 18))]
@[simp] noncomputable def r6 (_ : Unit) : List Stp := [S 19 (.bin .add (.t 8) (.c (.int .i64 1))), S 8 (.mv (.t 19))]
@[simp] noncomputable def r7 (_ : Unit) : List Stp := [S 20 (.mv (.t 4)), S 4 (.mv (.t 20))]
@[simp] noncomputable def ir : IR := (.seq (.ops r0) (.seq (.seq (.ops r1) (.block 0 (.loop (.seq (.ops r2) (.seq (.cond (.t 9) .skip (.exit 0)) (.seq (.block 1 (.seq (.ops r3) (.seq (.ops r4) (.cond (.t 14) (.ops r5) .skip)))) (.ops r6))))))) (.seq (.ops r7) .ret)))
@[simp] noncomputable def rs : List RV := [.tmp 4]
theorem comp : compF Pg cfg Tryz.f142 = some (ir, rs, 21) := by kernel_rfl
theorem enter {args : List AVal} {h : Heap} {K : AEnd → Heap → Prop} (F : Nat) (hl : args.length ≤ 21) (a : AW ⟨Pg, F, 21, false, []⟩ ir (RetK rs K) (initT args) [] h) : ACalls Pg fn_leak_inflow_sum args h K :=
  ACalls.of_comp follows Tryz.func142 comp hl a
theorem pure {args : List AVal} {v : AVal} (hl : args.length ≤ 21) (a : AW ⟨Pg, 0, 21, false, []⟩ ir (RetK rs fun e _ => e = .ret v) (initT args) [] nilH) : APure Pg fn_leak_inflow_sum args v :=
  APure.of_nil (enter 0 hl a)
end leak_inflow_sum

namespace leak_sums
noncomputable def cfg : Cfg := { pure := pures, pcs := [], raw := [], cuts := [], draws := [(1, [⟨0, false, [], []⟩, ⟨1, false, [], []⟩, ⟨2, false, [], []⟩, ⟨5, false, [], []⟩, ⟨6, false, [], []⟩, ⟨7, false, [], []⟩, ⟨3, false, [], []⟩, ⟨8, false, [], []⟩, ⟨4, false, [11], [8]⟩, ⟨9, false, [11], []⟩, ⟨10, false, [], []⟩, ⟨11, true, [], []⟩, ⟨12, false, [], []⟩]), (5, [⟨0, false, [], []⟩, ⟨2, false, [], []⟩, ⟨6, false, [], []⟩, ⟨8, false, [], []⟩, ⟨1, false, [], []⟩, ⟨3, false, [], []⟩, ⟨7, false, [], []⟩, ⟨9, false, [], []⟩, ⟨4, false, [], [1, 7, 9]⟩, ⟨5, false, [], []⟩, ⟨10, false, [], [1, 7]⟩, ⟨11, false, [], []⟩, ⟨12, false, [], []⟩, ⟨13, false, [], []⟩])], keep := [] }
@[simp] noncomputable def r0 (_ : Unit) : List Stp := [S 4 (.alloc [(.int .i64 0), (.int .i64 0)])]
@[simp] noncomputable def r1 (_ : Unit) : List Stp := [S 8 (.mv (.t 1)), S 9 (.mv (.t 0)), S 10 (.ixS 6 (.t 9) (.c (.int .i64 0))), S 13 (.mv (.t 1)), S 14 (.mv (.t 0)), S 15 (.ixS 6 (.t 14) (.c (.int .i64 0))), S 11 (.load true 6 (.t 10)), S 16 (.load true 6 (.t 15)), SD (some 12) (.call (.t 8) [(.t 11)]) false [I 5 (.alloc [(.int .i64 0), (.int .i64 0)])] [I 16 (.load true 6 (.t 15))], SD (some 17) (.call (.t 13) [(.t 16)]) false [I 5 (.alloc [(.int .i64 0), (.int .i64 0)])] [], S 18 (.build [(.int .i64 0), (.int .i64 0)] [(0, 1, (.t 12)), (1, 1, (.t 17))]), SD (some 5) (.alloc [(.int .i64 0), (.int .i64 0)]) true [] [], SN (.store 2 (.t 5) (.t 18))]
@[simp] noncomputable def r2 (_ : Unit) : List Stp := [S 19 (.mv (.t 0)), S 20 (.len (.t 19)), S 21 (.mv (.c (.int .i64 0)))]
@[simp] noncomputable def r3 (_ : Unit) : List Stp := [S 22 (.bin .lss (.t 21) (.t 20))]
@[simp] noncomputable def r4 (_ : Unit) : List Stp := [S 23 (.ixS 6 (.t 19) (.t 21)), S 24 (.load true 6 (.t 23)), S 7 (.alloc [(.int .i64 0), (.int .i64 0), (.int .i64 0), (.int .i64 0), (.int .i64 0), (.int .i64 0)]), SN (.store 6 (.t 7) (.t 24))]
@[simp] noncomputable def r5 (_ : Unit) : List Stp := [S 25 (.fAddr 0 (.t 5)), S 27 (.mv (.t 1)), S 31 (.fAddr 1 (.t 5)), S 33 (.mv (.t 1)), S 26 (.load false 1 (.t 25)), S 28 (.load true 6 (.t 7)), S 32 (.load false 1 (.t 31)), S 34 (.load true 6 (.t 7)), SD (some 29) (.call (.t 27) [(.t 28)]) false [] [I 26 (.load false 1 (.t 25)), I 32 (.load false 1 (.t 31)), I 34 (.load true 6 (.t 7))], S 30 (.mm false [(.t 26), (.t 29)]), SD (some 35) (.call (.t 33) [(.t 34)]) false [] [I 26 (.load false 1 (.t 25)), I 32 (.load false 1 (.t 31))], S 36 (.mm true [(.t 32), (.t 35)]), S 37 (.build [(.int .i64 0), (.int .i64 0)] [(0, 1, (.t 30)), (1, 1, (.t 36))]), SN (.store 2 (.t 5) (.t 37))]
@[simp] noncomputable def r6 (_ : Unit) : List Stp := [S 38 (.bin .add (.t 21) (.c (.int .i64 1))), S 21 (.mv (.t 38))]
@[simp] noncomputable def r7 (_ : Unit) : List Stp := [S 39 (.load true 2 (.t 5)), SN (.store 2 (.t 4) (.t 39))]
@[simp] noncomputable def ir : IR := (.seq (.ops r0) (.seq (.ops r1) (.seq (.seq (.ops r2) (.block 0 (.loop (.seq (.ops r3) (.seq (.cond (.t 22) .skip (.exit 0)) (.seq (.block 1 (.seq (.ops r4) (.ops r5))) (.ops r6))))))) (.seq (.ops r7) .ret))))
@[simp] noncomputable def rs : List RV := [.cell 4 true 2]
theorem comp : compF Pg cfg Tryz.f143 = some (ir, rs, 40) := by kernel_rfl
theorem enter {args : List AVal} {h : Heap} {K : AEnd → Heap → Prop} (F : Nat) (hl : args.length ≤ 40) (a : AW ⟨Pg, F, 40, false, []⟩ ir (RetK rs K) (initT args) [] h) : ACalls Pg fn_leak_sums args h K :=
  ACalls.of_comp follows Tryz.func143 comp hl a
theorem pure {args : List AVal} {v : AVal} (hl : args.length ≤ 40) (a : AW ⟨Pg, 0, 40, false, []⟩ ir (RetK rs fun e _ => e = .ret v) (initT args) [] nilH) : APure Pg fn_leak_sums args v :=
  APure.of_nil (enter 0 hl a)
end leak_sums

namespace leak_hull_total_1
noncomputable def cfg : Cfg := { pure := pures, pcs := [], raw := [], cuts := [], draws := [], keep := [] }
@[simp] noncomputable def r0 (_ : Unit) : List Stp := [S 3 (.box (.t 0)), S 4 (.mv (.c (.int .i64 0)))]
@[simp] noncomputable def r1 (_ : Unit) : List Stp := [S 5 (.load false 1 (.t 1)), S 6 (.load true 6 (.t 3)), S 7 (.load false 1 (.t 2)), S 8 (.call (.t 5) [(.t 6), (.t 7)]), S 4 (.mv (.t 8))]
@[simp] noncomputable def ir : IR := (.seq (.ops r0) (.seq (.ops r1) .ret))
@[simp] noncomputable def rs : List RV := [.tmp 4]
theorem comp : compF Pg cfg Tryz.f144 = some (ir, rs, 9) := by kernel_rfl
theorem enter {args : List AVal} {h : Heap} {K : AEnd → Heap → Prop} (F : Nat) (hl : args.length ≤ 9) (a : AW ⟨Pg, F, 9, false, []⟩ ir (RetK rs K) (initT args) [] h) : ACalls Pg fn_leak_hull_total_1 args h K :=
  ACalls.of_comp follows Tryz.func144 comp hl a
theorem pure {args : List AVal} {v : AVal} (hl : args.length ≤ 9) (a : AW ⟨Pg, 0, 9, false, []⟩ ir (RetK rs fun e _ => e = .ret v) (initT args) [] nilH) : APure Pg fn_leak_hull_total_1 args v :=
  APure.of_nil (enter 0 hl a)
end leak_hull_total_1

namespace ref01_truths
noncomputable def cfg : Cfg := { pure := pures, pcs := [], raw := [], cuts := [], draws := [(8, [⟨1, false, [], []⟩, ⟨3, false, [], []⟩, ⟨5, false, [], []⟩, ⟨8, false, [], []⟩, ⟨0, false, [], []⟩, ⟨2, true, [], []⟩, ⟨6, true, [], []⟩, ⟨4, false, [], [0]⟩, ⟨7, false, [], [0]⟩, ⟨9, false, [], []⟩, ⟨10, false, [], []⟩])], keep := [] }
@[simp] noncomputable def r0 (_ : Unit) : List Stp := [S 4 (.box (.t 0)), S 8 (.mv (.c .nils))]
@[simp] noncomputable def r1 (_ : Unit) : List Stp := [S 10 (.mv (.t 2)), S 11 (.len (.t 10)), S 12 (.fAddr 0 (.t 4)), S 13 (.load false 1 (.t 12)), S 14 (.len (.t 13)), S 15 (.bin .eql (.t 11) (.t 14))]
@[simp] noncomputable def r2 (_ : Unit) : List Stp := [S 16 (.load true 2 (.t 4)), S 17 (.mv (.t 2)), S 18 (.mv (.t 1)), SP 19 (.call (.c (.func (.func fn_ref01_right) [] [])) [(.t 16), (.t 17), (.t 18)])]
@[simp] noncomputable def r3 (_ : Unit) : List Stp := [S 20 (.mv (.t 3)), S 21 (.mv (.t 2)), S 22 (.bsl 1 [.nils] [(0, 1, (.t 21))]), S 23 (.app 1 24 (.t 20) (.t 22)), S 3 (.mv (.t 23))]
@[simp] noncomputable def r4 (_ : Unit) : List Stp := [S 24 (.mv (.t 3)), S 8 (.mv (.t 24))]
@[simp] noncomputable def r5 (_ : Unit) : List Stp := [S 9 (.mv (.c (.int .i64 0)))]
@[simp] noncomputable def r6 (_ : Unit) : List Stp := [S 25 (.mv (.t 9)), S 26 (.fAddr 0 (.t 4)), S 27 (.load false 1 (.t 26)), S 28 (.mv (.t 2)), S 29 (.len (.t 28)), S 30 (.ixS 3 (.t 27) (.t 29)), S 31 (.fAddr 2 (.t 30)), S 32 (.load false 1 (.t 31)), S 33 (.bin .leq (.t 25) (.t 32))]
@[simp] noncomputable def r8 (_ : Unit) : List Stp := [S 37 (.mv (.t 1)), S 39 (.mv (.t 2)), S 41 (.mv (.t 9)), S 44 (.mv (.t 3)), S 36 (.load true 2 (.t 4)), SD (some 38) (.bsl 0 [] []) true [] [], SD (some 42) (.bsl 1 [(.int .i64 0)] [(0, 1, (.t 41))]) true [] [], SD (some 40) (.app 1 8 (.t 38) (.t 39)) false [] [I 36 (.load true 2 (.t 4))], SD (some 43) (.app 1 8 (.t 40) (.t 42)) false [] [I 36 (.load true 2 (.t 4))], S 45 (.call (.c (.func (.func fn_ref01_truths) [] [])) [(.t 36), (.t 37), (.t 43), (.t 44)]), S 3 (.mv (.t 45))]
@[simp] noncomputable def r7 (_ : Unit) : List Stp := [S 34 (.mv (.t 9)), S 35 (.bin .add (.t 34) (.c (.int .i64 1))), S 9 (.mv (.t 35))]
@[simp] noncomputable def r9 (_ : Unit) : List Stp := [S 46 (.mv (.t 3)), S 8 (.mv (.t 46))]
@[simp] noncomputable def ir : IR := (.seq (.ops r0) (.seq (.seq (.ops r1) (.cond (.t 15) (.seq (.seq (.ops r2) (.cond (.t 19) (.ops r3) .skip)) (.seq (.ops r4) .ret)) .skip)) (.seq (.seq (.ops r5) (.block 0 (.loop (.seq (.seq (.ops r6) (.cond (.t 33) .skip (.exit 0))) (.seq (.block 1 (.ops r8)) (.ops r7)))))) (.seq (.ops r9) .ret))))
@[simp] noncomputable def rs : List RV := [.tmp 8]
theorem comp : compF Pg cfg Tryz.f145 = some (ir, rs, 47) := by kernel_rfl
theorem enter {args : List AVal} {h : Heap} {K : AEnd → Heap → Prop} (F : Nat) (hl : args.length ≤ 47) (a : AW ⟨Pg, F, 47, false, []⟩ ir (RetK rs K) (initT args) [] h) : ACalls Pg fn_ref01_truths args h K :=
  ACalls.of_comp follows Tryz.func145 comp hl a
theorem pure {args : List AVal} {v : AVal} (hl : args.length ≤ 47) (a : AW ⟨Pg, 0, 47, false, []⟩ ir (RetK rs fun e _ => e = .ret v) (initT args) [] nilH) : APure Pg fn_ref01_truths args v :=
  APure.of_nil (enter 0 hl a)
end ref01_truths

namespace ref01_every
noncomputable def cfg : Cfg := { pure := pures, pcs := [], raw := [], cuts := [], draws := [], keep := [] }
@[simp] noncomputable def r0 (_ : Unit) : List Stp := [S 1 (.box (.t 0)), S 2 (.mv (.c (.int .i64 0)))]
@[simp] noncomputable def r1 (_ : Unit) : List Stp := [S 3 (.fAddr 1 (.t 1)), S 4 (.load false 1 (.t 3)), S 5 (.len (.t 4)), SP 6 (.call (.c (.func (.func fn_ref01_power) [] [])) [(.t 5)]), S 7 (.bin .sub (.t 6) (.c (.int .i64 1))), S 2 (.mv (.t 7))]
@[simp] noncomputable def ir : IR := (.seq (.ops r0) (.seq (.ops r1) .ret))
@[simp] noncomputable def rs : List RV := [.tmp 2]
theorem comp : compF Pg cfg Tryz.f146 = some (ir, rs, 8) := by kernel_rfl
theorem enter {args : List AVal} {h : Heap} {K : AEnd → Heap → Prop} (F : Nat) (hl : args.length ≤ 8) (a : AW ⟨Pg, F, 8, false, []⟩ ir (RetK rs K) (initT args) [] h) : ACalls Pg fn_ref01_every args h K :=
  ACalls.of_comp follows Tryz.func146 comp hl a
theorem pure {args : List AVal} {v : AVal} (hl : args.length ≤ 8) (a : AW ⟨Pg, 0, 8, false, []⟩ ir (RetK rs fun e _ => e = .ret v) (initT args) [] nilH) : APure Pg fn_ref01_every args v :=
  APure.of_nil (enter 0 hl a)
end ref01_every

namespace cmp_isNaN_int
noncomputable def cfg : Cfg := { pure := pures, pcs := [], raw := [], cuts := [], draws := [], keep := [] }
@[simp] noncomputable def r0 (_ : Unit) : List Stp := [S 2 (.mv (.c (.bool false)))]
@[simp] noncomputable def r1 (_ : Unit) : List Stp := [S 3 (.mv (.t 0)), S 4 (.mv (.t 0)), S 5 (.bin .neq (.t 3) (.t 4)), S 2 (.mv (.t 5))]
@[simp] noncomputable def ir : IR := (.seq (.ops r0) (.seq (.ops r1) .ret))
@[simp] noncomputable def rs : List RV := [.tmp 2]
theorem comp : compF Pg cfg Tryz.f152 = some (ir, rs, 6) := by kernel_rfl
theorem enter {args : List AVal} {h : Heap} {K : AEnd → Heap → Prop} (F : Nat) (hl : args.length ≤ 6) (a : AW ⟨Pg, F, 6, false, []⟩ ir (RetK rs K) (initT args) [] h) : ACalls Pg fn_cmp_isNaN_int args h K :=
  ACalls.of_comp follows Tryz.func152 comp hl a
theorem pure {args : List AVal} {v : AVal} (hl : args.length ≤ 6) (a : AW ⟨Pg, 0, 6, false, []⟩ ir (RetK rs fun e _ => e = .ret v) (initT args) [] nilH) : APure Pg fn_cmp_isNaN_int args v :=
  APure.of_nil (enter 0 hl a)
end cmp_isNaN_int

namespace leak_set_has
noncomputable def cfg : Cfg := { pure := pures, pcs := [], raw := [], cuts := [], draws := [], keep := [] }
@[simp] noncomputable def r0 (_ : Unit) : List Stp := [S 4 (.mv (.c (.bool false)))]
@[simp] noncomputable def r1 (_ : Unit) : List Stp := [S 5 (.mv (.t 0)), S 6 (.mv (.t 1)), S 7 (.bin .shr (.t 5) (.t 6)), S 8 (.bin .and (.t 7) (.c (.int .u64 1))), S 9 (.bin .eql (.t 8) (.c (.int .u64 1))), S 4 (.mv (.t 9))]
@[simp] noncomputable def ir : IR := (.seq (.ops r0) (.seq (.ops r1) .ret))
@[simp] noncomputable def rs : List RV := [.tmp 4]
theorem comp : compF Pg cfg Tryz.f153 = some (ir, rs, 10) := by kernel_rfl
theorem enter {args : List AVal} {h : Heap} {K : AEnd → Heap → Prop} (F : Nat) (hl : args.length ≤ 10) (a : AW ⟨Pg, F, 10, false, []⟩ ir (RetK rs K) (initT args) [] h) : ACalls Pg fn_leak_set_has args h K :=
  ACalls.of_comp follows Tryz.func153 comp hl a
theorem pure {args : List AVal} {v : AVal} (hl : args.length ≤ 10) (a : AW ⟨Pg, 0, 10, false, []⟩ ir (RetK rs fun e _ => e = .ret v) (initT args) [] nilH) : APure Pg fn_leak_set_has args v :=
  APure.of_nil (enter 0 hl a)
end leak_set_has

namespace leak_flows
noncomputable def cfg : Cfg := { pure := pures, pcs := [], raw := [], cuts := [], draws := [], keep := [] }
@[simp] noncomputable def r0 (_ : Unit) : List Stp := [S 2 (.mv (.c (.int .i64 0)))]
@[simp] noncomputable def r1 (_ : Unit) : List Stp := [S 5 (.mv (.t 0)), S 6 (.len (.t 5)), S 7 (.mv (.c (.int .i64 0)))]
@[simp] noncomputable def r2 (_ : Unit) : List Stp := [S 8 (.bin .lss (.t 7) (.t 6))]
@[simp] noncomputable def r3 (_ : Unit) : List Stp := [S 9 (.ixS 1 (.t 5) (.t 7)), S 10 (.load false 1 (.t 9)), S 4 (.mv (.t 10))]
@[simp] noncomputable def r4 (_ : Unit) : List Stp := [S 11 (.mv (.t 2)), S 12 (.mv (.t 4)), S 13 (.bin .add (.t 11) (.t 12)), S 2 (.mv (.t 13))]
@[simp] noncomputable def r5 (_ : Unit) : List Stp := [S 14 (.bin .add (.t 7) (.c (.int .i64 1))), S 7 (.mv (.t 14))]
@[simp] noncomputable def r6 (_ : Unit) : List Stp := [S 15 (.mv (.t 2)), S 2 (.mv (.t 15))]
@[simp] noncomputable def ir : IR := (.seq (.ops r0) (.seq (.seq (.ops r1) (.block 0 (.loop (.seq (.ops r2) (.seq (.cond (.t 8) .skip (.exit 0)) (.seq (.block 1 (.seq (.ops r3) (.ops r4))) (.ops r5))))))) (.seq (.ops r6) .ret)))
@[simp] noncomputable def rs : List RV := [.tmp 2]
theorem comp : compF Pg cfg Tryz.f154 = some (ir, rs, 16) := by kernel_rfl
theorem enter {args : List AVal} {h : Heap} {K : AEnd → Heap → Prop} (F : Nat) (hl : args.length ≤ 16) (a : AW ⟨Pg, F, 16, false, []⟩ ir (RetK rs K) (initT args) [] h) : ACalls Pg fn_leak_flows args h K :=
  ACalls.of_comp follows Tryz.func154 comp hl a
theorem pure {args : List AVal} {v : AVal} (hl : args.length ≤ 16) (a : AW ⟨Pg, 0, 16, false, []⟩ ir (RetK rs fun e _ => e = .ret v) (initT args) [] nilH) : APure Pg fn_leak_flows args v :=
  APure.of_nil (enter 0 hl a)
end leak_flows

namespace ref01_right
noncomputable def cfg : Cfg := { pure := pures, pcs := [], raw := [], cuts := [], draws := [(5, [⟨0, false, [], []⟩, ⟨1, false, [], []⟩, ⟨2, false, [], []⟩, ⟨3, false, [], []⟩, ⟨4, false, [], []⟩, ⟨6, false, [], []⟩, ⟨8, false, [], []⟩, ⟨12, false, [], []⟩, ⟨13, false, [], []⟩, ⟨15, false, [], []⟩, ⟨16, false, [], []⟩, ⟨5, false, [], []⟩, ⟨7, false, [], []⟩, ⟨9, false, [], []⟩, ⟨10, false, [], []⟩, ⟨11, false, [], []⟩, ⟨14, false, [], []⟩, ⟨17, false, [], []⟩, ⟨18, false, [], []⟩, ⟨19, false, [], []⟩, ⟨20, false, [], []⟩])], keep := [] }
@[simp] noncomputable def r0 (_ : Unit) : List Stp := [S 3 (.box (.t 0)), S 6 (.mv (.c (.bool false)))]
@[simp] noncomputable def r1 (_ : Unit) : List Stp := [S 7 (.mv (.c (.int .i64 0)))]
@[simp] noncomputable def r2 (_ : Unit) : List Stp := [S 9 (.mv (.t 7)), S 10 (.fAddr 1 (.t 3)), S 11 (.load false 1 (.t 10)), S 12 (.len (.t 11)), S 13 (.bin .lss (.t 9) (.t 12))]
@[simp] noncomputable def r4 (_ : Unit) : List Stp := [S 16 (.fAddr 1 (.t 3)), S 17 (.load false 1 (.t 16)), S 18 (.mv (.t 7)), S 19 (.ixS 4 (.t 17) (.t 18)), S 20 (.load true 4 (.t 19)), S 8 (.alloc [(.int .i64 0), (.int .i64 0), (.int .i64 0), (.int .i64 0)]), SN (.store 4 (.t 8) (.t 20))]
@[simp] noncomputable def r5 (_ : Unit) : List Stp := [S 21 (.mv (.t 2)), S 22 (.mv (.t 7)), SP 23 (.call (.c (.func (.func fn_ref01_Has) [] [])) [(.t 21), (.t 22)]), S 24 (.mv (.t 23)), SG 25 24 true (.mv (.t 1)), SG 27 24 true (.fAddr 0 (.t 8)), SG 29 24 true (.fAddr 1 (.t 8)), SG 33 24 true (.fAddr 2 (.t 8)), SG 34 24 true (.fAddr 0 (.t 33)), SG 36 24 true (.fAddr 2 (.t 8)), SG 37 24 true (.fAddr 1 (.t 36)), SG 26 24 true (.load true 2 (.t 3)), SG 28 24 true (.load false 1 (.t 27)), SG 30 24 true (.load false 1 (.t 29)), SGP 31 24 true (.call (.c (.func (.func fn_ref01_wet) [] [])) [(.t 26), (.t 28), (.t 30)]), SGP 32 24 true (.call (.c (.func (.func fn_ref01_Sum) [] [])) [(.t 25), (.t 31)]), SG 35 24 true (.load false 1 (.t 34)), SG 38 24 true (.load false 1 (.t 37)), SGP 39 24 true (.call (.c (.func (.func fn_ref01_in) [] [])) [(.t 32), (.t 35), (.t 38)]), SG 40 24 true (.un .not (.t 39)), S 41 (.pick (.t 24) (.t 40) (.c (.bool false)))]
@[simp] noncomputable def r6 (_ : Unit) : List Stp := [S 6 (.mv (.c (.bool false)))]
@[simp] noncomputable def r3 (_ : Unit) : List Stp := [S 14 (.mv (.t 7)), S 15 (.bin .add (.t 14) (.c (.int .i64 1))), S 7 (.mv (.t 15))]
@[simp] noncomputable def r7 (_ : Unit) : List Stp := [S 6 (.mv (.c (.bool true)))]
@[simp] noncomputable def ir : IR := (.seq (.ops r0) (.seq (.seq (.ops r1) (.block 0 (.loop (.seq (.seq (.ops r2) (.cond (.t 13) .skip (.exit 0))) (.seq (.block 1 (.seq (.ops r4) (.seq (.ops r5) (.cond (.t 41) (.seq (.ops r6) .ret) .skip)))) (.ops r3)))))) (.seq (.ops r7) .ret)))
@[simp] noncomputable def rs : List RV := [.tmp 6]
theorem comp : compF Pg cfg Tryz.f155 = some (ir, rs, 42) := by kernel_rfl
theorem enter {args : List AVal} {h : Heap} {K : AEnd → Heap → Prop} (F : Nat) (hl : args.length ≤ 42) (a : AW ⟨Pg, F, 42, false, []⟩ ir (RetK rs K) (initT args) [] h) : ACalls Pg fn_ref01_right args h K :=
  ACalls.of_comp follows Tryz.func155 comp hl a
theorem pure {args : List AVal} {v : AVal} (hl : args.length ≤ 42) (a : AW ⟨Pg, 0, 42, false, []⟩ ir (RetK rs fun e _ => e = .ret v) (initT args) [] nilH) : APure Pg fn_ref01_right args v :=
  APure.of_nil (enter 0 hl a)
end ref01_right

namespace ref01_Sum
noncomputable def cfg : Cfg := { pure := pures, pcs := [], raw := [], cuts := [], draws := [], keep := [] }
@[simp] noncomputable def r0 (_ : Unit) : List Stp := [S 4 (.mv (.c (.int .i64 0)))]
@[simp] noncomputable def r1 (_ : Unit) : List Stp := [S 5 (.mv (.c (.int .i64 0)))]
@[simp] noncomputable def r2 (_ : Unit) : List Stp := [S 6 (.mv (.c (.int .i64 0)))]
@[simp] noncomputable def r3 (_ : Unit) : List Stp := [S 7 (.mv (.t 6)), S 8 (.mv (.t 0)), S 9 (.len (.t 8)), S 10 (.bin .lss (.t 7) (.t 9))]
@[simp] noncomputable def r5 (_ : Unit) : List Stp := [S 13 (.mv (.t 1)), S 14 (.mv (.t 6)), SP 15 (.call (.c (.func (.func fn_ref01_Has) [] [])) [(.t 13), (.t 14)])]
@[simp] noncomputable def r6 (_ : Unit) : List Stp := [S 16 (.mv (.t 5)), S 17 (.mv (.t 0)), S 18 (.mv (.t 6)), S 19 (.ixS 1 (.t 17) (.t 18)), S 20 (.load false 1 (.t 19)), S 21 (.bin .add (.t 16) (.t 20)), S 5 (.mv (.t 21))]
@[simp] noncomputable def r4 (_ : Unit) : List Stp := [S 11 (.mv (.t 6)), S 12 (.bin .add (.t 11) (.c (.int .i64 1))), S 6 (.mv (.t 12))]
@[simp] noncomputable def r7 (_ : Unit) : List Stp := [S 22 (.mv (.t 5)), S 4 (.mv (.t 22))]
@[simp] noncomputable def ir : IR := (.seq (.ops r0) (.seq (.ops r1) (.seq (.seq (.ops r2) (.block 0 (.loop (.seq (.seq (.ops r3) (.cond (.t 10) .skip (.exit 0))) (.seq (.block 1 (.seq (.ops r5) (.cond (.t 15) (.ops r6) .skip))) (.ops r4)))))) (.seq (.ops r7) .ret))))
@[simp] noncomputable def rs : List RV := [.tmp 4]
theorem comp : compF Pg cfg Tryz.f157 = some (ir, rs, 23) := by kernel_rfl
theorem enter {args : List AVal} {h : Heap} {K : AEnd → Heap → Prop} (F : Nat) (hl : args.length ≤ 23) (a : AW ⟨Pg, F, 23, false, []⟩ ir (RetK rs K) (initT args) [] h) : ACalls Pg fn_ref01_Sum args h K :=
  ACalls.of_comp follows Tryz.func157 comp hl a
theorem pure {args : List AVal} {v : AVal} (hl : args.length ≤ 23) (a : AW ⟨Pg, 0, 23, false, []⟩ ir (RetK rs fun e _ => e = .ret v) (initT args) [] nilH) : APure Pg fn_ref01_Sum args v :=
  APure.of_nil (enter 0 hl a)
end ref01_Sum

namespace ref01_wet
noncomputable def cfg : Cfg := { pure := pures, pcs := [], raw := [], cuts := [], draws := [(5, [⟨0, false, [], []⟩, ⟨2, false, [], []⟩, ⟨6, false, [], []⟩, ⟨7, false, [], []⟩, ⟨9, false, [], []⟩, ⟨13, false, [], []⟩, ⟨1, false, [], []⟩, ⟨3, false, [], []⟩, ⟨4, false, [], []⟩, ⟨5, false, [], []⟩, ⟨8, false, [], []⟩, ⟨10, false, [], []⟩, ⟨11, false, [], []⟩, ⟨12, false, [], []⟩, ⟨14, false, [], []⟩, ⟨15, false, [], []⟩, ⟨16, false, [], []⟩])], keep := [] }
@[simp] noncomputable def r0 (_ : Unit) : List Stp := [S 3 (.box (.t 0)), S 6 (.mv (.c (.int .i64 0)))]
@[simp] noncomputable def r1 (_ : Unit) : List Stp := [S 7 (.mv (.c (.int .i64 0)))]
@[simp] noncomputable def r2 (_ : Unit) : List Stp := [S 8 (.mv (.c (.int .i64 0)))]
@[simp] noncomputable def r3 (_ : Unit) : List Stp := [S 9 (.mv (.t 8)), S 10 (.fAddr 0 (.t 3)), S 11 (.load false 1 (.t 10)), S 12 (.len (.t 11)), S 13 (.bin .lss (.t 9) (.t 12))]
@[simp] noncomputable def r5 (_ : Unit) : List Stp := [S 16 (.fAddr 0 (.t 3)), S 18 (.mv (.t 8)), S 22 (.mv (.t 1)), S 23 (.fAddr 0 (.t 3)), S 25 (.mv (.t 8)), S 29 (.mv (.t 2)), S 17 (.load false 1 (.t 16)), S 19 (.ixS 3 (.t 17) (.t 18)), S 20 (.fAddr 0 (.t 19)), S 21 (.load false 1 (.t 20)), S 24 (.load false 1 (.t 23)), S 26 (.ixS 3 (.t 24) (.t 25)), S 27 (.fAddr 1 (.t 26)), S 28 (.load false 1 (.t 27)), S 30 (.bin .mul (.t 28) (.t 29)), S 31 (.bin .add (.t 22) (.t 30)), S 32 (.bin .leq (.t 21) (.t 31))]
@[simp] noncomputable def r6 (_ : Unit) : List Stp := [S 33 (.mv (.t 7)), S 34 (.mv (.t 8)), SP 35 (.call (.c (.func (.func fn_ref01_power) [] [])) [(.t 34)]), S 36 (.bin .add (.t 33) (.t 35)), S 7 (.mv (.t 36))]
@[simp] noncomputable def r4 (_ : Unit) : List Stp := [S 14 (.mv (.t 8)), S 15 (.bin .add (.t 14) (.c (.int .i64 1))), S 8 (.mv (.t 15))]
@[simp] noncomputable def r7 (_ : Unit) : List Stp := [S 37 (.mv (.t 7)), S 6 (.mv (.t 37))]
@[simp] noncomputable def ir : IR := (.seq (.ops r0) (.seq (.ops r1) (.seq (.seq (.ops r2) (.block 0 (.loop (.seq (.seq (.ops r3) (.cond (.t 13) .skip (.exit 0))) (.seq (.block 1 (.seq (.ops r5) (.cond (.t 32) (.ops r6) .skip))) (.ops r4)))))) (.seq (.ops r7) .ret))))
@[simp] noncomputable def rs : List RV := [.tmp 6]
theorem comp : compF Pg cfg Tryz.f158 = some (ir, rs, 38) := by kernel_rfl
theorem enter {args : List AVal} {h : Heap} {K : AEnd → Heap → Prop} (F : Nat) (hl : args.length ≤ 38) (a : AW ⟨Pg, F, 38, false, []⟩ ir (RetK rs K) (initT args) [] h) : ACalls Pg fn_ref01_wet args h K :=
  ACalls.of_comp follows Tryz.func158 comp hl a
theorem pure {args : List AVal} {v : AVal} (hl : args.length ≤ 38) (a : AW ⟨Pg, 0, 38, false, []⟩ ir (RetK rs fun e _ => e = .ret v) (initT args) [] nilH) : APure Pg fn_ref01_wet args v :=
  APure.of_nil (enter 0 hl a)
end ref01_wet

-- rake_some_done: not covered

namespace leak_hull_can
noncomputable def cfg : Cfg := { pure := pures, pcs := [], raw := [], cuts := [], draws := [], keep := [] }
@[simp] noncomputable def r0 (_ : Unit) : List Stp := [S 4 (.alloc [(.bool false)])]
@[simp] noncomputable def r1 (_ : Unit) : List Stp := [S 5 (.mv (.t 0)), S 6 (.mv (.t 1)), S 7 (.call (.c (.func (.func fn_leak_hull_inflows) [] [])) [(.t 5), (.t 6)])]
@[simp] noncomputable def r2 (_ : Unit) : List Stp := [SN (.store 1 (.t 4) (.c (.bool true)))]
@[simp] noncomputable def r3 (_ : Unit) : List Stp := [SN (.store 1 (.t 4) (.c (.bool false)))]
@[simp] noncomputable def ir : IR := (.seq (.ops r0) (.seq (.seq (.ops r1) (.block 0 (.rangeF (.t 7) [8] .skip (.block 1 (.seq (.ops r2) .ret))))) (.seq (.ops r3) .ret)))
@[simp] noncomputable def rs : List RV := [.cell 4 false 1]
theorem comp : compF Pg cfg Tryz.f175 = some (ir, rs, 9) := by kernel_rfl
theorem enter {args : List AVal} {h : Heap} {K : AEnd → Heap → Prop} (F : Nat) (hl : args.length ≤ 9) (a : AW ⟨Pg, F, 9, false, []⟩ ir (RetK rs K) (initT args) [] h) : ACalls Pg fn_leak_hull_can args h K :=
  ACalls.of_comp follows Tryz.func175 comp hl a
theorem pure {args : List AVal} {v : AVal} (hl : args.length ≤ 9) (a : AW ⟨Pg, 0, 9, false, []⟩ ir (RetK rs fun e _ => e = .ret v) (initT args) [] nilH) : APure Pg fn_leak_hull_can args v :=
  APure.of_nil (enter 0 hl a)
end leak_hull_can

namespace leak_none_can
noncomputable def cfg : Cfg := { pure := pures, pcs := [], raw := [], cuts := [], draws := [], keep := [] }
@[simp] noncomputable def r0 (_ : Unit) : List Stp := [S 4 (.box (.t 0)), S 5 (.box (.t 1)), S 8 (.mv (.c (.bool false)))]
@[simp] noncomputable def r1 (_ : Unit) : List Stp := [S 8 (.mv (.c (.bool true)))]
@[simp] noncomputable def ir : IR := (.seq (.ops r0) (.seq (.ops r1) .ret))
@[simp] noncomputable def rs : List RV := [.tmp 8]
theorem comp : compF Pg cfg Tryz.f176 = some (ir, rs, 9) := by kernel_rfl
theorem enter {args : List AVal} {h : Heap} {K : AEnd → Heap → Prop} (F : Nat) (hl : args.length ≤ 9) (a : AW ⟨Pg, F, 9, false, []⟩ ir (RetK rs K) (initT args) [] h) : ACalls Pg fn_leak_none_can args h K :=
  ACalls.of_comp follows Tryz.func176 comp hl a
theorem pure {args : List AVal} {v : AVal} (hl : args.length ≤ 9) (a : AW ⟨Pg, 0, 9, false, []⟩ ir (RetK rs fun e _ => e = .ret v) (initT args) [] nilH) : APure Pg fn_leak_none_can args v :=
  APure.of_nil (enter 0 hl a)
end leak_none_can

namespace leak_wet_ends
noncomputable def cfg : Cfg := { pure := pures, pcs := [], raw := [], cuts := [], draws := [(1, [⟨1, false, [], []⟩, ⟨3, false, [], []⟩, ⟨4, false, [], []⟩, ⟨5, false, [], []⟩, ⟨0, false, [], []⟩, ⟨2, false, [], []⟩, ⟨6, false, [], []⟩, ⟨7, false, [], []⟩, ⟨8, false, [], []⟩])], keep := [] }
@[simp] noncomputable def r0 (_ : Unit) : List Stp := [S 4 (.box (.t 0)), S 5 (.box (.t 1)), S 8 (.mv (.c (.int .i64 0))), S 9 (.mv (.c (.int .i64 0)))]
@[simp] noncomputable def r1 (_ : Unit) : List Stp := [S 12 (.fAddr 0 (.t 4)), S 14 (.mv (.t 2)), S 15 (.bin .shl (.c (.int .u64 1)) (.t 14)), S 16 (.bin .sub (.t 15) (.c (.int .u64 1))), S 11 (.load true 6 (.t 5)), S 13 (.load false 1 (.t 12)), S 17 (.bin .and (.t 13) (.t 16)), SP 18 (.call (.c (.func (.func fn_leak_inflow_sum) [] [])) [(.t 11), (.t 17)]), S 8 (.mv (.t 18))]
@[simp] noncomputable def r2 (_ : Unit) : List Stp := [S 19 (.mv (.t 8)), S 9 (.mv (.t 19))]
@[simp] noncomputable def r3 (_ : Unit) : List Stp := [S 20 (.mv (.t 2)), S 10 (.mv (.t 20))]
@[simp] noncomputable def r4 (_ : Unit) : List Stp := [S 21 (.mv (.t 10)), S 22 (.mv (.t 3)), S 23 (.len (.t 22)), S 24 (.bin .lss (.t 21) (.t 23))]
@[simp] noncomputable def r6 (_ : Unit) : List Stp := [S 27 (.fAddr 0 (.t 4)), S 28 (.load false 1 (.t 27)), S 29 (.mv (.t 10)), SP 30 (.call (.c (.func (.func fn_leak_set_has) [] [])) [(.t 28), (.t 29)])]
@[simp] noncomputable def r7 (_ : Unit) : List Stp := [S 31 (.mv (.t 9)), S 32 (.mv (.t 3)), S 33 (.mv (.t 10)), S 34 (.ixS 1 (.t 32) (.t 33)), S 35 (.load false 1 (.t 34)), S 36 (.bsl 2 [(.int .i64 0), (.int .i64 0)] [(0, 1, (.t 31)), (1, 1, (.t 35))]), S 37 (.call (.c (.func (.func fn_leak_flows) [] [])) [(.t 36)]), S 9 (.mv (.t 37))]
@[simp] noncomputable def r5 (_ : Unit) : List Stp := [S 25 (.mv (.t 10)), S 26 (.bin .add (.t 25) (.c (.int .i64 1))), S 10 (.mv (.t 26))]
@[simp] noncomputable def r8 (_ : Unit) : List Stp := [S 38 (.mv (.t 8)), S 39 (.mv (.t 9)), S 8 (.mv (.t 38)), S 9 (.mv (.t 39))]
@[simp] noncomputable def ir : IR := (.seq (.ops r0) (.seq (.ops r1) (.seq (.ops r2) (.seq (.seq (.ops r3) (.block 0 (.loop (.seq (.seq (.ops r4) (.cond (.t 24) .skip (.exit 0))) (.seq (.block 1 (.seq (.ops r6) (.cond (.t 30) (.ops r7) .skip))) (.ops r5)))))) (.seq (.ops r8) .ret)))))
@[simp] noncomputable def rs : List RV := [.tmp 8, .tmp 9]
theorem comp : compF Pg cfg Tryz.f177 = some (ir, rs, 40) := by kernel_rfl
theorem enter {args : List AVal} {h : Heap} {K : AEnd → Heap → Prop} (F : Nat) (hl : args.length ≤ 40) (a : AW ⟨Pg, F, 40, false, []⟩ ir (RetK rs K) (initT args) [] h) : ACalls Pg fn_leak_wet_ends args h K :=
  ACalls.of_comp follows Tryz.func177 comp hl a
theorem pure {args : List AVal} {v : AVal} (hl : args.length ≤ 40) (a : AW ⟨Pg, 0, 40, false, []⟩ ir (RetK rs fun e _ => e = .ret v) (initT args) [] nilH) : APure Pg fn_leak_wet_ends args v :=
  APure.of_nil (enter 0 hl a)
end leak_wet_ends

namespace leak_sounding_can
noncomputable def cfg : Cfg := { pure := pures, pcs := [], raw := [], cuts := [], draws := [], keep := [] }
@[simp] noncomputable def r0 (_ : Unit) : List Stp := [S 4 (.box (.t 0)), S 5 (.box (.t 1)), S 8 (.mv (.c (.bool false)))]
@[simp] noncomputable def r1 (_ : Unit) : List Stp := [S 12 (.fAddr 0 (.t 4)), S 13 (.load true 1 (.t 12)), S 14 (.load true 6 (.t 5)), S 15 (.mv (.t 2)), S 16 (.mv (.t 3)), S 17 (.call (.c (.func (.func fn_leak_wet_ends) [] [])) [(.t 13), (.t 14), (.t 15), (.t 16)]), S 11 (.mv (.t 17)), S 18 (.ext (.t 11) 0), S 19 (.ext (.t 11) 1), S 9 (.mv (.t 18)), S 10 (.mv (.t 19))]
@[simp] noncomputable def r2 (_ : Unit) : List Stp := [S 20 (.mv (.t 9)), S 21 (.fAddr 1 (.t 4)), S 22 (.fAddr 1 (.t 21)), S 23 (.load false 1 (.t 22)), S 24 (.bin .leq (.t 20) (.t 23)), S 25 (.mv (.t 24)), SG 26 25 true (.mv (.t 10)), SG 27 25 true (.fAddr 1 (.t 4)), SG 28 25 true (.fAddr 0 (.t 27)), SG 29 25 true (.load false 1 (.t 28)), SG 30 25 true (.bin .geq (.t 26) (.t 29)), S 31 (.pick (.t 25) (.t 30) (.c (.bool false))), S 8 (.mv (.t 31))]
@[simp] noncomputable def ir : IR := (.seq (.ops r0) (.seq (.ops r1) (.seq (.ops r2) .ret)))
@[simp] noncomputable def rs : List RV := [.tmp 8]
theorem comp : compF Pg cfg Tryz.f178 = some (ir, rs, 32) := by kernel_rfl
theorem enter {args : List AVal} {h : Heap} {K : AEnd → Heap → Prop} (F : Nat) (hl : args.length ≤ 32) (a : AW ⟨Pg, F, 32, false, []⟩ ir (RetK rs K) (initT args) [] h) : ACalls Pg fn_leak_sounding_can args h K :=
  ACalls.of_comp follows Tryz.func178 comp hl a
theorem pure {args : List AVal} {v : AVal} (hl : args.length ≤ 32) (a : AW ⟨Pg, 0, 32, false, []⟩ ir (RetK rs fun e _ => e = .ret v) (initT args) [] nilH) : APure Pg fn_leak_sounding_can args v :=
  APure.of_nil (enter 0 hl a)
end leak_sounding_can

end Go.Cw
end

/- Functions in the small form: no more of them. -/
section
namespace Go.Cw
end Go.Cw
end
