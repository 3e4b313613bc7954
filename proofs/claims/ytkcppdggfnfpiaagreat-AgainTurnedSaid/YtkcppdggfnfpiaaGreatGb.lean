/-
  The program's functions in the small form.
-/
import Derived.Test.YtkcppdggfnfpiaaGreatGa
set_option linter.unusedVariables false
set_option linter.unusedSimpArgs false
set_option linter.unusedSectionVars false

/- Functions in the small form. Printed by a program of this seat's proofs. -/
section
namespace Go.Cw
open Go Go.Proofs

namespace again_ship_settles
noncomputable def cfg : Cfg := { pure := [12, 13, 14, 15, 16, 17, 18, 19, 20, 21, 22, 23, 24, 25, 26, 27, 28, 29, 30, 31, 32, 33, 35, 36, 37, 39, 40, 42, 47, 48, 49, 53, 54, 55, 58, 61, 62, 69, 71, 72, 73, 78, 80, 90, 91, 92, 95, 96, 97, 101, 102, 104, 106, 108, 111, 114, 118, 124, 130, 131, 148, 149, 150], pcs := [], raw := [], cuts := [], draws := [(1, [⟨0, false, [], []⟩, ⟨1, false, [], []⟩, ⟨2, false, [], []⟩, ⟨3, false, [], []⟩, ⟨5, false, [], []⟩, ⟨7, false, [], []⟩, ⟨4, false, [], []⟩, ⟨6, false, [], []⟩, ⟨8, false, [], []⟩, ⟨9, false, [], []⟩, ⟨10, false, [], []⟩, ⟨11, false, [], []⟩, ⟨12, false, [], []⟩, ⟨13, true, [], []⟩, ⟨14, false, [], []⟩, ⟨15, false, [], []⟩]), (7, [⟨0, false, [], []⟩, ⟨1, false, [], []⟩, ⟨2, false, [], []⟩, ⟨3, false, [], []⟩, ⟨4, false, [], []⟩, ⟨7, false, [], []⟩, ⟨9, false, [], []⟩, ⟨11, false, [], []⟩, ⟨12, false, [], []⟩, ⟨13, false, [], []⟩, ⟨5, false, [], []⟩, ⟨8, false, [], []⟩, ⟨10, false, [], []⟩, ⟨14, false, [], []⟩, ⟨6, false, [15], [8, 10]⟩, ⟨15, true, [], []⟩, ⟨16, false, [], []⟩, ⟨17, false, [], []⟩, ⟨18, false, [], []⟩])], keep := [] }
@[simp] noncomputable def r0 (_ : Unit) : List Stp := [S 3 (.box (.t 1)), S 4 (.mv (.c (.bool false)))]
@[simp] noncomputable def r1 (_ : Unit) : List Stp := [S 12 (.mv (.t 0)), S 13 (.nilck Pg (.t 12)), S 14 (.fAddr 0 (.t 13)), S 15 (.fAddr 0 (.t 14)), S 17 (.fAddr 0 (.t 3)), S 19 (.fAddr 1 (.t 3)), S 16 (.load true 2 (.t 15)), S 18 (.load false 1 (.t 17)), S 20 (.load false 1 (.t 19)), SP 21 (.call (.c (.func (.func fn_leak_Flow) [] [])) [(.t 16), (.t 18), (.t 20)]), S 11 (.mv (.t 21)), S 22 (.ext (.t 11) 0), S 23 (.ext (.t 11) 1), SD (some 5) (.alloc [(.int .i64 0), (.int .i64 0)]) true [] [], SN (.store 2 (.t 5) (.t 22)), S 6 (.mv (.t 23))]
@[simp] noncomputable def r2 (_ : Unit) : List Stp := [S 24 (.mv (.t 6)), S 25 (.bin .eql (.t 24) (.c (.int .i64 0))), S 26 (.mv (.t 6)), S 27 (.call (.c (.func (.func fn_again_want) [] [])) [(.t 25), (.t 26)])]
@[simp] noncomputable def r3 (_ : Unit) : List Stp := [S 28 (.fAddr 0 (.t 5)), S 29 (.load false 1 (.t 28)), S 7 (.mv (.t 29))]
@[simp] noncomputable def r4 (_ : Unit) : List Stp := [S 30 (.mv (.t 7)), S 31 (.fAddr 1 (.t 5)), S 32 (.load false 1 (.t 31)), S 33 (.bin .leq (.t 30) (.t 32))]
@[simp] noncomputable def r6 (_ : Unit) : List Stp := [S 36 (.mv (.t 0)), S 37 (.nilck Pg (.t 36)), S 38 (.fAddr 0 (.t 37)), S 39 (.fAddr 0 (.t 38)), S 40 (.load true 2 (.t 39)), S 8 (.alloc [.nils, .nils]), SN (.store 2 (.t 8) (.t 40))]
@[simp] noncomputable def r7 (_ : Unit) : List Stp := [S 41 (.mv (.t 0)), S 42 (.nilck Pg (.t 41)), S 43 (.fAddr 0 (.t 42)), S 44 (.fAddr 0 (.t 43)), S 45 (.fAddr 1 (.t 44)), S 48 (.fAddr 0 (.t 3)), S 50 (.fAddr 1 (.t 3)), S 52 (.mv (.t 7)), S 53 (.mv (.t 7)), S 54 (.build [(.int .i64 0), (.int .i64 0)] [(0, 1, (.t 52)), (1, 1, (.t 53))]), S 46 (.load false 1 (.t 45)), S 49 (.load false 1 (.t 48)), S 51 (.load false 1 (.t 50)), S 55 (.build [(.int .i64 0), (.int .i64 0), (.int .i64 0), (.int .i64 0)] [(0, 1, (.t 49)), (1, 1, (.t 51)), (2, 2, (.t 54))]), SD (some 47) (.call (.c (.func (.func fn_slices_Clone_api_LeakSounding_api_LeakSounding) [] [])) [(.t 46)]) false [I 56 (.bsl 1 [(.int .i64 0), (.int .i64 0), (.int .i64 0), (.int .i64 0)] [(0, 4, (.t 55))])] [I 49 (.load false 1 (.t 48)), I 51 (.load false 1 (.t 50))], SD (some 56) (.bsl 1 [(.int .i64 0), (.int .i64 0), (.int .i64 0), (.int .i64 0)] [(0, 4, (.t 55))]) true [] [], S 57 (.app 4 32 (.t 47) (.t 56)), S 58 (.fAddr 1 (.t 8)), SN (.store 1 (.t 58) (.t 57))]
@[simp] noncomputable def r8 (_ : Unit) : List Stp := [S 60 (.load true 2 (.t 8)), S 61 (.call (.c (.func (.func fn_leak_Sets) [] [])) [(.t 60)]), S 59 (.mv (.t 61)), S 62 (.ext (.t 59) 0), S 63 (.ext (.t 59) 1), S 9 (.mv (.t 62)), S 10 (.mv (.t 63))]
@[simp] noncomputable def r9 (_ : Unit) : List Stp := [S 64 (.mv (.t 10)), S 65 (.bin .eql (.t 64) (.c (.int .i64 0))), S 66 (.mv (.t 65)), SG 67 66 true (.mv (.t 0)), SG 68 66 true (.mv (.t 9)), SG 69 66 true (.mv (.t 0)), SG 70 66 true (.nilck Pg (.t 69)), SG 71 66 true (.fAddr 0 (.t 70)), SG 72 66 true (.fAddr 5 (.t 71)), SG 73 66 true (.load false 1 (.t 72)), SG 74 66 true (.call (.c (.func (.func fn_again_ship_verdict) [] [])) [(.t 67), (.t 68), (.t 73)]), SGP 75 66 true (.call (.c (.func (.func fn_again_verdict_told) [] [])) [(.t 74)]), SG 76 66 true (.bin .eql (.t 75) (.c (.int .i64 1))), S 77 (.pick (.t 66) (.t 76) (.c (.bool false)))]
@[simp] noncomputable def r10 (_ : Unit) : List Stp := [S 4 (.mv (.c (.bool false)))]
@[simp] noncomputable def r5 (_ : Unit) : List Stp := [S 34 (.mv (.t 7)), S 35 (.bin .add (.t 34) (.c (.int .i64 1))), S 7 (.mv (.t 35))]
@[simp] noncomputable def r11 (_ : Unit) : List Stp := [S 4 (.mv (.c (.bool true)))]
@[simp] noncomputable def ir : IR := (.seq (.ops r0) (.seq (.ops r1) (.seq (.ops r2) (.seq (.seq (.ops r3) (.block 0 (.loop (.seq (.seq (.ops r4) (.cond (.t 33) .skip (.exit 0))) (.seq (.block 1 (.seq (.ops r6) (.seq (.ops r7) (.seq (.ops r8) (.seq (.ops r9) (.cond (.t 77) (.seq (.ops r10) .ret) .skip)))))) (.ops r5)))))) (.seq (.ops r11) .ret)))))
@[simp] noncomputable def rs : List RV := [.tmp 4]
theorem comp : compF Pg cfg Tryz.f70 = some (ir, rs, 78) := by kernel_rfl
theorem enter {args : List AVal} {h : Heap} {K : AEnd → Heap → Prop} (F : Nat) (hl : args.length ≤ 78) (a : AW ⟨Pg, F, 78, false, []⟩ ir (RetK rs K) (initT args) [] h) : ACalls Pg fn_again_ship_settles args h K :=
  ACalls.of_comp follows Tryz.func70 comp hl a
theorem pure {args : List AVal} {v : AVal} (hl : args.length ≤ 78) (a : AW ⟨Pg, 0, 78, false, []⟩ ir (RetK rs fun e _ => e = .ret v) (initT args) [] nilH) : APure Pg fn_again_ship_settles args v :=
  APure.of_nil (enter 0 hl a)
end again_ship_settles

namespace ref01_Hull
noncomputable def cfg : Cfg := { pure := pures, pcs := [], raw := [], cuts := [], draws := [], keep := [] }
@[simp] noncomputable def r0 (_ : Unit) : List Stp := [S 1 (.box (.t 0)), S 2 (.mv (.c (.bool false)))]
@[simp] noncomputable def r1 (_ : Unit) : List Stp := [S 7 (.fAddr 0 (.t 1)), S 8 (.load false 1 (.t 7)), S 9 (.len (.t 8)), SP 10 (.call (.c (.func (.func fn_ref01_in) [] [])) [(.t 9), (.c (.int .i64 1)), (.c (.int .i64 6))]), S 11 (.un .not (.t 10)), S 12 (.mv (.t 11)), SG 13 12 false (.fAddr 1 (.t 1)), SG 14 12 false (.load false 1 (.t 13)), SG 15 12 false (.len (.t 14)), SG 16 12 false (.bin .gtr (.t 15) (.c (.int .i64 8))), S 17 (.pick (.t 12) (.c (.bool true)) (.t 16))]
@[simp] noncomputable def r2 (_ : Unit) : List Stp := [S 2 (.mv (.c (.bool false)))]
@[simp] noncomputable def r3 (_ : Unit) : List Stp := [S 3 (.mv (.c (.int .i64 0)))]
@[simp] noncomputable def r4 (_ : Unit) : List Stp := [S 18 (.mv (.t 3)), S 19 (.fAddr 0 (.t 1)), S 20 (.load false 1 (.t 19)), S 21 (.len (.t 20)), S 22 (.bin .lss (.t 18) (.t 21))]
@[simp] noncomputable def r6 (_ : Unit) : List Stp := [S 25 (.fAddr 0 (.t 1)), S 26 (.load false 1 (.t 25)), S 27 (.mv (.t 3)), S 28 (.ixS 3 (.t 26) (.t 27)), S 29 (.load true 3 (.t 28)), S 4 (.alloc [(.int .i64 0), (.int .i64 0), (.int .i64 0)]), SN (.store 3 (.t 4) (.t 29))]
@[simp] noncomputable def r7 (_ : Unit) : List Stp := [S 30 (.fAddr 0 (.t 4)), S 31 (.load false 1 (.t 30)), SP 32 (.call (.c (.func (.func fn_ref01_in) [] [])) [(.t 31), (.c (.int .i64 0)), (.c (.int .i64 12))]), S 33 (.un .not (.t 32)), S 34 (.mv (.t 33)), SG 35 34 false (.fAddr 1 (.t 4)), SG 36 34 false (.load false 1 (.t 35)), SGP 37 34 false (.call (.c (.func (.func fn_ref01_in) [] [])) [(.t 36), (.c (.int .i64 (-1))), (.c (.int .i64 1))]), SG 38 34 false (.un .not (.t 37)), S 39 (.pick (.t 34) (.c (.bool true)) (.t 38)), S 40 (.mv (.t 39)), SG 41 40 false (.fAddr 2 (.t 4)), SG 42 40 false (.load false 1 (.t 41)), SGP 43 40 false (.call (.c (.func (.func fn_ref01_in) [] [])) [(.t 42), (.c (.int .i64 0)), (.c (.int .i64 4))]), SG 44 40 false (.un .not (.t 43)), S 45 (.pick (.t 40) (.c (.bool true)) (.t 44))]
@[simp] noncomputable def r8 (_ : Unit) : List Stp := [S 2 (.mv (.c (.bool false)))]
@[simp] noncomputable def r5 (_ : Unit) : List Stp := [S 23 (.mv (.t 3)), S 24 (.bin .add (.t 23) (.c (.int .i64 1))), S 3 (.mv (.t 24))]
@[simp] noncomputable def r9 (_ : Unit) : List Stp := [S 5 (.mv (.c (.int .i64 0)))]
@[simp] noncomputable def r10 (_ : Unit) : List Stp := [S 46 (.mv (.t 5)), S 47 (.fAddr 1 (.t 1)), S 48 (.load false 1 (.t 47)), S 49 (.len (.t 48)), S 50 (.bin .lss (.t 46) (.t 49))]
@[simp] noncomputable def r12 (_ : Unit) : List Stp := [S 53 (.fAddr 1 (.t 1)), S 54 (.load false 1 (.t 53)), S 55 (.mv (.t 5)), S 56 (.ixS 4 (.t 54) (.t 55)), S 57 (.load true 4 (.t 56)), S 6 (.alloc [(.int .i64 0), (.int .i64 0), (.int .i64 0), (.int .i64 0)]), SN (.store 4 (.t 6) (.t 57))]
@[simp] noncomputable def r13 (_ : Unit) : List Stp := [S 58 (.fAddr 0 (.t 6)), S 59 (.load false 1 (.t 58)), S 60 (.fAddr 1 (.t 6)), S 61 (.load false 1 (.t 60)), SP 62 (.call (.c (.func (.func fn_ref01_At) [] [])) [(.t 59), (.t 61)]), S 63 (.un .not (.t 62)), S 64 (.mv (.t 63)), SG 65 64 false (.fAddr 2 (.t 6)), SG 66 64 false (.fAddr 0 (.t 65)), SG 67 64 false (.load false 1 (.t 66)), SG 68 64 false (.bin .lss (.t 67) (.c (.int .i64 0))), S 69 (.pick (.t 64) (.c (.bool true)) (.t 68)), S 70 (.mv (.t 69)), SG 71 70 false (.fAddr 2 (.t 6)), SG 72 70 false (.fAddr 0 (.t 71)), SG 73 70 false (.load false 1 (.t 72)), SG 74 70 false (.fAddr 2 (.t 6)), SG 75 70 false (.fAddr 1 (.t 74)), SG 76 70 false (.load false 1 (.t 75)), SG 77 70 false (.bin .gtr (.t 73) (.t 76)), S 78 (.pick (.t 70) (.c (.bool true)) (.t 77)), S 79 (.mv (.t 78)), SG 80 79 false (.fAddr 2 (.t 6)), SG 81 79 false (.fAddr 1 (.t 80)), SG 82 79 false (.load false 1 (.t 81)), SG 83 79 false (.bin .gtr (.t 82) (.c (.int .i64 24))), S 84 (.pick (.t 79) (.c (.bool true)) (.t 83))]
@[simp] noncomputable def r14 (_ : Unit) : List Stp := [S 2 (.mv (.c (.bool false)))]
@[simp] noncomputable def r11 (_ : Unit) : List Stp := [S 51 (.mv (.t 5)), S 52 (.bin .add (.t 51) (.c (.int .i64 1))), S 5 (.mv (.t 52))]
@[simp] noncomputable def r15 (_ : Unit) : List Stp := [S 2 (.mv (.c (.bool true)))]
@[simp] noncomputable def ir : IR := (.seq (.ops r0) (.seq (.seq (.ops r1) (.cond (.t 17) (.seq (.ops r2) .ret) .skip)) (.seq (.seq (.ops r3) (.block 0 (.loop (.seq (.seq (.ops r4) (.cond (.t 22) .skip (.exit 0))) (.seq (.block 1 (.seq (.ops r6) (.seq (.ops r7) (.cond (.t 45) (.seq (.ops r8) .ret) .skip)))) (.ops r5)))))) (.seq (.seq (.ops r9) (.block 2 (.loop (.seq (.seq (.ops r10) (.cond (.t 50) .skip (.exit 2))) (.seq (.block 3 (.seq (.ops r12) (.seq (.ops r13) (.cond (.t 84) (.seq (.ops r14) .ret) .skip)))) (.ops r11)))))) (.seq (.ops r15) .ret)))))
@[simp] noncomputable def rs : List RV := [.tmp 2]
theorem comp : compF Pg cfg Tryz.f72 = some (ir, rs, 85) := by kernel_rfl
theorem enter {args : List AVal} {h : Heap} {K : AEnd → Heap → Prop} (F : Nat) (hl : args.length ≤ 85) (a : AW ⟨Pg, F, 85, false, []⟩ ir (RetK rs K) (initT args) [] h) : ACalls Pg fn_ref01_Hull args h K :=
  ACalls.of_comp follows Tryz.func72 comp hl a
theorem pure {args : List AVal} {v : AVal} (hl : args.length ≤ 85) (a : AW ⟨Pg, 0, 85, false, []⟩ ir (RetK rs fun e _ => e = .ret v) (initT args) [] nilH) : APure Pg fn_ref01_Hull args v :=
  APure.of_nil (enter 0 hl a)
end ref01_Hull

namespace ref01_Seam
noncomputable def cfg : Cfg := { pure := pures, pcs := [], raw := [], cuts := [], draws := [], keep := [] }
@[simp] noncomputable def r0 (_ : Unit) : List Stp := [S 2 (.box (.t 0)), S 4 (.mv (.c (.bool false)))]
@[simp] noncomputable def r1 (_ : Unit) : List Stp := [S 5 (.mv (.t 1)), S 6 (.fAddr 0 (.t 2)), S 7 (.load false 1 (.t 6)), S 8 (.len (.t 7)), S 9 (.bin .sub (.t 8) (.c (.int .i64 1))), SP 10 (.call (.c (.func (.func fn_ref01_in) [] [])) [(.t 5), (.c (.int .i64 0)), (.t 9)]), S 4 (.mv (.t 10))]
@[simp] noncomputable def ir : IR := (.seq (.ops r0) (.seq (.ops r1) .ret))
@[simp] noncomputable def rs : List RV := [.tmp 4]
theorem comp : compF Pg cfg Tryz.f73 = some (ir, rs, 11) := by kernel_rfl
theorem enter {args : List AVal} {h : Heap} {K : AEnd → Heap → Prop} (F : Nat) (hl : args.length ≤ 11) (a : AW ⟨Pg, F, 11, false, []⟩ ir (RetK rs K) (initT args) [] h) : ACalls Pg fn_ref01_Seam args h K :=
  ACalls.of_comp follows Tryz.func73 comp hl a
theorem pure {args : List AVal} {v : AVal} (hl : args.length ≤ 11) (a : AW ⟨Pg, 0, 11, false, []⟩ ir (RetK rs fun e _ => e = .ret v) (initT args) [] nilH) : APure Pg fn_ref01_Seam args v :=
  APure.of_nil (enter 0 hl a)
end ref01_Seam

namespace leak_Sets_1
noncomputable def cfg : Cfg := { pure := pures, pcs := [], raw := [], cuts := [], draws := [], keep := [] }
@[simp] noncomputable def r0 (_ : Unit) : List Stp := [S 1 (.recov), S 2 (.call (.c (.func (.func fn_leak_said) [] [])) [(.t 1), (.t 0)])]
@[simp] noncomputable def ir : IR := (.ops r0)
@[simp] noncomputable def rs : List RV := []
theorem comp : compF Pg cfg Tryz.f74 = some (ir, rs, 3) := by kernel_rfl
theorem enter {args : List AVal} {h : Heap} {K : AEnd → Heap → Prop} (F : Nat) (hl : args.length ≤ 3) (a : AW ⟨Pg, F, 3, false, []⟩ ir (RetK rs K) (initT args) [] h) : ACalls Pg fn_leak_Sets_1 args h K :=
  ACalls.of_comp follows Tryz.func74 comp hl a
theorem pure {args : List AVal} {v : AVal} (hl : args.length ≤ 3) (a : AW ⟨Pg, 0, 3, false, []⟩ ir (RetK rs fun e _ => e = .ret v) (initT args) [] nilH) : APure Pg fn_leak_Sets_1 args v :=
  APure.of_nil (enter 0 hl a)
theorem recClo : RecClo Pg fn_leak_Sets_1 fn_leak_said := ⟨_, Tryz.func74, by kernel_rfl⟩
end leak_Sets_1

namespace leak_said
noncomputable def cfg : Cfg := { pure := pures, pcs := [], raw := [], cuts := [], draws := [], keep := [] }
@[simp] noncomputable def r0 (_ : Unit) : List Stp := [S 6 (.mv (.t 0)), S 7 (.eqN .i false (.t 6))]
@[simp] noncomputable def r1 (_ : Unit) : List Stp := [S 9 (.mv (.t 0)), S 10 (.tyAs 145 true (.agg [(.int .i64 0)]) (.t 9)), S 8 (.mv (.t 10)), S 11 (.ext (.t 8) 0), S 12 (.ext (.t 8) 1), S 4 (.alloc [(.int .i64 0)]), SN (.store 1 (.t 4) (.t 11)), S 5 (.mv (.t 12))]
@[simp] noncomputable def r2 (_ : Unit) : List Stp := [S 13 (.mv (.t 5)), S 14 (.un .not (.t 13))]
@[simp] noncomputable def r3 (_ : Unit) : List Stp := [S 15 (.mv (.t 0)), SN (.panic (.t 15))]
@[simp] noncomputable def r4 (_ : Unit) : List Stp := [S 16 (.mv (.t 1)), S 17 (.fAddr 0 (.t 4)), S 18 (.load false 1 (.t 17)), S 19 (.nilck Pg (.t 16)), SN (.store 1 (.t 19) (.t 18))]
@[simp] noncomputable def ir : IR := (.seq (.seq (.ops r0) (.cond (.t 7) .ret .skip)) (.seq (.ops r1) (.seq (.seq (.ops r2) (.cond (.t 14) (.ops r3) .skip)) (.ops r4))))
@[simp] noncomputable def rs : List RV := []
theorem comp : compF Pg cfg Tryz.f75 = some (ir, rs, 20) := by kernel_rfl
theorem enter {args : List AVal} {h : Heap} {K : AEnd → Heap → Prop} (F : Nat) (hl : args.length ≤ 20) (a : AW ⟨Pg, F, 20, false, []⟩ ir (RetK rs K) (initT args) [] h) : ACalls Pg fn_leak_said args h K :=
  ACalls.of_comp follows Tryz.func75 comp hl a
theorem pure {args : List AVal} {v : AVal} (hl : args.length ≤ 20) (a : AW ⟨Pg, 0, 20, false, []⟩ ir (RetK rs fun e _ => e = .ret v) (initT args) [] nilH) : APure Pg fn_leak_said args v :=
  APure.of_nil (enter 0 hl a)
end leak_said

namespace leak_open
noncomputable def cfg : Cfg := { pure := pures, pcs := [], raw := [], cuts := [], draws := [(7, [⟨0, false, [], []⟩, ⟨1, false, [], []⟩, ⟨2, false, [], []⟩, ⟨3, false, [], []⟩, ⟨5, false, [], []⟩, ⟨4, false, [], []⟩, ⟨6, false, [], []⟩, ⟨7, true, [], []⟩, ⟨8, false, [], []⟩, ⟨9, false, [], []⟩, ⟨10, false, [], []⟩, ⟨11, false, [], []⟩])], keep := [] }
@[simp] noncomputable def r0 (_ : Unit) : List Stp := [S 2 (.box (.t 0)), S 4 (.mv (.c .nilp))]
@[simp] noncomputable def r1 (_ : Unit) : List Stp := [S 10 (.fAddr 0 (.t 2)), S 11 (.load false 1 (.t 10)), S 12 (.len (.t 11)), SP 13 (.call (.c (.func (.func fn_leak_within) [] [])) [(.t 12), (.c (.int .i64 1)), (.c (.int .i64 6))]), S 14 (.mv (.t 13)), SG 15 14 true (.fAddr 1 (.t 2)), SG 16 14 true (.load false 1 (.t 15)), SG 17 14 true (.len (.t 16)), SG 18 14 true (.bin .leq (.t 17) (.c (.int .i64 8))), S 19 (.pick (.t 14) (.t 18) (.c (.bool false))), S 20 (.call (.c (.func (.func fn_leak_want) [] [])) [(.t 19), (.c (.int .i64 1))])]
@[simp] noncomputable def r2 (_ : Unit) : List Stp := [S 21 (.load true 2 (.t 2)), S 22 (.mkmap), S 23 (.build [.nils, .nils, .nils, .nilm] [(0, 2, (.t 21)), (3, 1, (.t 22))]), S 24 (.box (.t 23)), S 5 (.mv (.t 24))]
@[simp] noncomputable def r3 (_ : Unit) : List Stp := [S 25 (.fAddr 0 (.t 2)), S 26 (.load false 1 (.t 25)), S 27 (.len (.t 26)), S 28 (.mv (.c (.int .i64 0)))]
@[simp] noncomputable def r4 (_ : Unit) : List Stp := [S 29 (.bin .lss (.t 28) (.t 27))]
@[simp] noncomputable def r5 (_ : Unit) : List Stp := [S 30 (.ixS 3 (.t 26) (.t 28)), S 31 (.load true 3 (.t 30)), S 7 (.alloc [(.int .i64 0), (.int .i64 0), (.int .i64 0)]), SN (.store 3 (.t 7) (.t 31))]
@[simp] noncomputable def r6 (_ : Unit) : List Stp := [S 32 (.fAddr 0 (.t 7)), S 33 (.load false 1 (.t 32)), SP 34 (.call (.c (.func (.func fn_leak_within) [] [])) [(.t 33), (.c (.int .i64 0)), (.c (.int .i64 12))]), S 35 (.mv (.t 34)), SG 36 35 true (.fAddr 1 (.t 7)), SG 37 35 true (.load false 1 (.t 36)), SGP 38 35 true (.call (.c (.func (.func fn_leak_within) [] [])) [(.t 37), (.c (.int .i64 (-1))), (.c (.int .i64 1))]), S 39 (.pick (.t 35) (.t 38) (.c (.bool false))), S 40 (.mv (.t 39)), SG 41 40 true (.fAddr 2 (.t 7)), SG 42 40 true (.load false 1 (.t 41)), SGP 43 40 true (.call (.c (.func (.func fn_leak_within) [] [])) [(.t 42), (.c (.int .i64 0)), (.c (.int .i64 4))]), S 44 (.pick (.t 40) (.t 43) (.c (.bool false))), S 45 (.call (.c (.func (.func fn_leak_want) [] [])) [(.t 44), (.c (.int .i64 1))])]
@[simp] noncomputable def r7 (_ : Unit) : List Stp := [S 46 (.mv (.t 5)), S 47 (.mv (.t 5)), S 48 (.nilck Pg (.t 47)), S 49 (.fAddr 2 (.t 48)), S 51 (.fAddr 2 (.t 7)), S 50 (.load false 1 (.t 49)), S 52 (.load false 1 (.t 51)), SD (some 53) (.bsl 1 [(.int .i64 0)] [(0, 1, (.t 52))]) true [] [], S 54 (.app 1 8 (.t 50) (.t 53)), S 55 (.nilck Pg (.t 46)), S 56 (.fAddr 2 (.t 55)), SN (.store 1 (.t 56) (.t 54))]
@[simp] noncomputable def r8 (_ : Unit) : List Stp := [S 57 (.bin .add (.t 28) (.c (.int .i64 1))), S 28 (.mv (.t 57))]
@[simp] noncomputable def r9 (_ : Unit) : List Stp := [S 58 (.fAddr 1 (.t 2)), S 59 (.load false 1 (.t 58)), S 60 (.len (.t 59)), S 61 (.mv (.c (.int .i64 0)))]
@[simp] noncomputable def r10 (_ : Unit) : List Stp := [S 62 (.bin .lss (.t 61) (.t 60))]
@[simp] noncomputable def r11 (_ : Unit) : List Stp := [S 63 (.ixS 4 (.t 59) (.t 61)), S 64 (.load true 4 (.t 63)), S 9 (.alloc [(.int .i64 0), (.int .i64 0), (.int .i64 0), (.int .i64 0)]), SN (.store 4 (.t 9) (.t 64))]
@[simp] noncomputable def r12 (_ : Unit) : List Stp := [S 65 (.fAddr 0 (.t 9)), S 66 (.load false 1 (.t 65)), S 67 (.fAddr 1 (.t 9)), S 68 (.load false 1 (.t 67)), S 69 (.build [(.int .i64 0), (.int .i64 0)] [(0, 1, (.t 66)), (1, 1, (.t 68))]), SP 70 (.call (.c (.func (.func fn_leak_place_isPlace) [] [])) [(.t 69)]), S 71 (.mv (.t 70)), SG 72 71 true (.fAddr 2 (.t 9)), SG 73 71 true (.fAddr 0 (.t 72)), SG 74 71 true (.load false 1 (.t 73)), SG 75 71 true (.fAddr 2 (.t 9)), SG 76 71 true (.fAddr 1 (.t 75)), SG 77 71 true (.load false 1 (.t 76)), SGP 78 71 true (.call (.c (.func (.func fn_leak_within) [] [])) [(.t 74), (.c (.int .i64 0)), (.t 77)]), S 79 (.pick (.t 71) (.t 78) (.c (.bool false))), S 80 (.mv (.t 79)), SG 81 80 true (.fAddr 2 (.t 9)), SG 82 80 true (.fAddr 1 (.t 81)), SG 83 80 true (.load false 1 (.t 82)), SG 84 80 true (.bin .leq (.t 83) (.c (.int .i64 24))), S 85 (.pick (.t 80) (.t 84) (.c (.bool false))), S 86 (.call (.c (.func (.func fn_leak_want) [] [])) [(.t 85), (.c (.int .i64 1))])]
@[simp] noncomputable def r13 (_ : Unit) : List Stp := [S 87 (.bin .add (.t 61) (.c (.int .i64 1))), S 61 (.mv (.t 87))]
@[simp] noncomputable def r14 (_ : Unit) : List Stp := [S 88 (.mv (.t 1)), S 89 (.call (.c (.func (.func fn_leak_want) [] [])) [(.t 88), (.c (.int .i64 2))])]
@[simp] noncomputable def r15 (_ : Unit) : List Stp := [S 90 (.mv (.t 5)), S 4 (.mv (.t 90))]
@[simp] noncomputable def ir : IR := (.seq (.ops r0) (.seq (.ops r1) (.seq (.ops r2) (.seq (.seq (.ops r3) (.block 0 (.loop (.seq (.ops r4) (.seq (.cond (.t 29) .skip (.exit 0)) (.seq (.block 1 (.seq (.ops r5) (.seq (.ops r6) (.ops r7)))) (.ops r8))))))) (.seq (.seq (.ops r9) (.block 2 (.loop (.seq (.ops r10) (.seq (.cond (.t 62) .skip (.exit 2)) (.seq (.block 3 (.seq (.ops r11) (.ops r12))) (.ops r13))))))) (.seq (.ops r14) (.seq (.ops r15) .ret)))))))
@[simp] noncomputable def rs : List RV := [.tmp 4]
theorem comp : compF Pg cfg Tryz.f76 = some (ir, rs, 91) := by kernel_rfl
theorem enter {args : List AVal} {h : Heap} {K : AEnd → Heap → Prop} (F : Nat) (hl : args.length ≤ 91) (a : AW ⟨Pg, F, 91, false, []⟩ ir (RetK rs K) (initT args) [] h) : ACalls Pg fn_leak_open args h K :=
  ACalls.of_comp follows Tryz.func76 comp hl a
theorem pure {args : List AVal} {v : AVal} (hl : args.length ≤ 91) (a : AW ⟨Pg, 0, 91, false, []⟩ ir (RetK rs fun e _ => e = .ret v) (initT args) [] nilH) : APure Pg fn_leak_open args v :=
  APure.of_nil (enter 0 hl a)
end leak_open

namespace leak_hull_sets
noncomputable def cfg : Cfg := { pure := pures, pcs := [], raw := [], cuts := [], draws := [], keep := [] }
@[simp] noncomputable def r0 (_ : Unit) : List Stp := [S 2 (.mv (.c .nils))]
@[simp] noncomputable def r1 (_ : Unit) : List Stp := [S 9 (.mkmap), S 3 (.mv (.t 9))]
@[simp] noncomputable def r2 (_ : Unit) : List Stp := [S 10 (.mv (.t 0)), S 11 (.call (.c (.func (.func fn_leak_hull_truths) [] [])) [(.t 10)]), S 12 (.len (.t 11)), S 13 (.mv (.c (.int .i64 0)))]
@[simp] noncomputable def r3 (_ : Unit) : List Stp := [S 14 (.bin .lss (.t 13) (.t 12))]
@[simp] noncomputable def r4 (_ : Unit) : List Stp := [S 15 (.ixS 6 (.t 11) (.t 13)), S 16 (.load true 6 (.t 15)), S 5 (.alloc [(.int .i64 0), (.int .i64 0), (.int .i64 0), (.int .i64 0), (.int .i64 0), (.int .i64 0)]), SN (.store 6 (.t 5) (.t 16))]
@[simp] noncomputable def r5 (_ : Unit) : List Stp := [S 17 (.mv (.t 3)), S 18 (.load true 6 (.t 5)), SP 19 (.call (.c (.func (.func fn_leak_inflow_leaks) [] [])) [(.t 18)]), SN (.mapU (false, [.i]) (.t 17) (.t 19) (.c (.bool true)))]
@[simp] noncomputable def r6 (_ : Unit) : List Stp := [S 20 (.bin .add (.t 13) (.c (.int .i64 1))), S 13 (.mv (.t 20))]
@[simp] noncomputable def r7 (_ : Unit) : List Stp := [S 21 (.mv (.t 3)), S 22 (.lenM (.t 21)), S 23 (.mksl 8 [(.int .i64 0)] (.c (.int .i64 0)) (.t 22)), S 6 (.mv (.t 23))]
@[simp] noncomputable def r8 (_ : Unit) : List Stp := [S 24 (.mv (.t 3)), S 25 (.range (.t 24))]
@[simp] noncomputable def r9 (_ : Unit) : List Stp := [S 26 (.next (.t 25)), S 27 (.ext (.t 26) 0)]
@[simp] noncomputable def r10 (_ : Unit) : List Stp := [S 28 (.entry (.t 25)), S 29 (.ext (.t 28) 0), S 7 (.mv (.t 29))]
@[simp] noncomputable def r11 (_ : Unit) : List Stp := [S 30 (.mv (.t 6)), S 31 (.mv (.t 7)), S 32 (.conv .i64 (.t 31)), S 33 (.bsl 1 [(.int .i64 0)] [(0, 1, (.t 32))]), S 34 (.app 1 8 (.t 30) (.t 33)), S 6 (.mv (.t 34))]
@[simp] noncomputable def r12 (_ : Unit) : List Stp := [S 35 (.mv (.t 6)), S 36 (.len (.t 35)), S 37 (.mksl 8 [(.int .i64 0)] (.t 36) (.t 36)), S 8 (.mv (.t 37))]
@[simp] noncomputable def r13 (_ : Unit) : List Stp := [S 38 (.mv (.t 8)), S 39 (.mv (.t 6)), S 40 (.copy 1 (.t 38) (.t 39))]
@[simp] noncomputable def r14 (_ : Unit) : List Stp := [S 41 (.mv (.t 8)), S 42 (.call (.c (.func (.func fn_slices_Sort_int_int) [] [])) [(.t 41)])]
@[simp] noncomputable def r15 (_ : Unit) : List Stp := [S 43 (.mv (.t 8)), S 2 (.mv (.t 43))]
@[simp] noncomputable def ir : IR := (.seq (.ops r0) (.seq (.ops r1) (.seq (.seq (.ops r2) (.block 0 (.loop (.seq (.ops r3) (.seq (.cond (.t 14) .skip (.exit 0)) (.seq (.block 1 (.seq (.ops r4) (.ops r5))) (.ops r6))))))) (.seq (.ops r7) (.seq (.seq (.ops r8) (.block 2 (.loop (.seq (.ops r9) (.seq (.cond (.t 27) .skip (.exit 2)) (.block 3 (.seq (.ops r10) (.ops r11)))))))) (.seq (.ops r12) (.seq (.ops r13) (.seq (.ops r14) (.seq (.ops r15) .ret)))))))))
@[simp] noncomputable def rs : List RV := [.tmp 2]
theorem comp : compF Pg cfg Tryz.f77 = some (ir, rs, 44) := by kernel_rfl
theorem enter {args : List AVal} {h : Heap} {K : AEnd → Heap → Prop} (F : Nat) (hl : args.length ≤ 44) (a : AW ⟨Pg, F, 44, false, []⟩ ir (RetK rs K) (initT args) [] h) : ACalls Pg fn_leak_hull_sets args h K :=
  ACalls.of_comp follows Tryz.func77 comp hl a
theorem pure {args : List AVal} {v : AVal} (hl : args.length ≤ 44) (a : AW ⟨Pg, 0, 44, false, []⟩ ir (RetK rs fun e _ => e = .ret v) (initT args) [] nilH) : APure Pg fn_leak_hull_sets args v :=
  APure.of_nil (enter 0 hl a)
end leak_hull_sets

namespace leak_Flow_1
noncomputable def cfg : Cfg := { pure := pures, pcs := [], raw := [], cuts := [], draws := [], keep := [] }
@[simp] noncomputable def r0 (_ : Unit) : List Stp := [S 1 (.recov), S 2 (.call (.c (.func (.func fn_leak_said) [] [])) [(.t 1), (.t 0)])]
@[simp] noncomputable def ir : IR := (.ops r0)
@[simp] noncomputable def rs : List RV := []
theorem comp : compF Pg cfg Tryz.f79 = some (ir, rs, 3) := by kernel_rfl
theorem enter {args : List AVal} {h : Heap} {K : AEnd → Heap → Prop} (F : Nat) (hl : args.length ≤ 3) (a : AW ⟨Pg, F, 3, false, []⟩ ir (RetK rs K) (initT args) [] h) : ACalls Pg fn_leak_Flow_1 args h K :=
  ACalls.of_comp follows Tryz.func79 comp hl a
theorem pure {args : List AVal} {v : AVal} (hl : args.length ≤ 3) (a : AW ⟨Pg, 0, 3, false, []⟩ ir (RetK rs fun e _ => e = .ret v) (initT args) [] nilH) : APure Pg fn_leak_Flow_1 args v :=
  APure.of_nil (enter 0 hl a)
theorem recClo : RecClo Pg fn_leak_Flow_1 fn_leak_said := ⟨_, Tryz.func79, by kernel_rfl⟩
end leak_Flow_1

namespace leak_place_isPlace
noncomputable def cfg : Cfg := { pure := pures, pcs := [], raw := [], cuts := [], draws := [], keep := [] }
@[simp] noncomputable def r0 (_ : Unit) : List Stp := [S 1 (.box (.t 0)), S 2 (.mv (.c (.bool false)))]
@[simp] noncomputable def r1 (_ : Unit) : List Stp := [S 3 (.fAddr 0 (.t 1)), S 4 (.load false 1 (.t 3)), SP 5 (.call (.c (.func (.func fn_leak_within) [] [])) [(.t 4), (.c (.int .i64 0)), (.c (.int .i64 12))]), S 6 (.mv (.t 5)), SG 7 6 true (.fAddr 1 (.t 1)), SG 8 6 true (.load false 1 (.t 7)), SGP 9 6 true (.call (.c (.func (.func fn_leak_within) [] [])) [(.t 8), (.c (.int .i64 (-3))), (.c (.int .i64 3))]), S 10 (.pick (.t 6) (.t 9) (.c (.bool false))), S 2 (.mv (.t 10))]
@[simp] noncomputable def ir : IR := (.seq (.ops r0) (.seq (.ops r1) .ret))
@[simp] noncomputable def rs : List RV := [.tmp 2]
theorem comp : compF Pg cfg Tryz.f80 = some (ir, rs, 11) := by kernel_rfl
theorem enter {args : List AVal} {h : Heap} {K : AEnd → Heap → Prop} (F : Nat) (hl : args.length ≤ 11) (a : AW ⟨Pg, F, 11, false, []⟩ ir (RetK rs K) (initT args) [] h) : ACalls Pg fn_leak_place_isPlace args h K :=
  ACalls.of_comp follows Tryz.func80 comp hl a
theorem pure {args : List AVal} {v : AVal} (hl : args.length ≤ 11) (a : AW ⟨Pg, 0, 11, false, []⟩ ir (RetK rs fun e _ => e = .ret v) (initT args) [] nilH) : APure Pg fn_leak_place_isPlace args v :=
  APure.of_nil (enter 0 hl a)
end leak_place_isPlace

namespace leak_hull_total
noncomputable def cfg : Cfg := { pure := pures, pcs := [], raw := [], cuts := [], draws := [], keep := [] }
@[simp] noncomputable def r0 (_ : Unit) : List Stp := [S 3 (.box (.t 1)), S 4 (.alloc [(.int .i64 0), (.int .i64 0)])]
@[simp] noncomputable def r1 (_ : Unit) : List Stp := [S 5 (.alloc [.nilf]), SN (.store 1 (.t 5) (.c (.func (.func fn_leak_inflow_sum) [] [])))]
@[simp] noncomputable def r2 (_ : Unit) : List Stp := [S 6 (.mv (.t 0)), S 7 (.call (.c (.func (.func fn_leak_hull_truths) [] [])) [(.t 6)]), S 8 (.mkF (.func fn_leak_hull_total_1) [] [(.t 5), (.t 3)]), S 9 (.call (.c (.func (.func fn_leak_sums) [] [])) [(.t 7), (.t 8)]), SN (.store 2 (.t 4) (.t 9))]
@[simp] noncomputable def ir : IR := (.seq (.ops r0) (.seq (.ops r1) (.seq (.ops r2) .ret)))
@[simp] noncomputable def rs : List RV := [.cell 4 true 2]
theorem comp : compF Pg cfg Tryz.f81 = some (ir, rs, 10) := by kernel_rfl
theorem enter {args : List AVal} {h : Heap} {K : AEnd → Heap → Prop} (F : Nat) (hl : args.length ≤ 10) (a : AW ⟨Pg, F, 10, false, []⟩ ir (RetK rs K) (initT args) [] h) : ACalls Pg fn_leak_hull_total args h K :=
  ACalls.of_comp follows Tryz.func81 comp hl a
theorem pure {args : List AVal} {v : AVal} (hl : args.length ≤ 10) (a : AW ⟨Pg, 0, 10, false, []⟩ ir (RetK rs fun e _ => e = .ret v) (initT args) [] nilH) : APure Pg fn_leak_hull_total args v :=
  APure.of_nil (enter 0 hl a)
end leak_hull_total

namespace leak_hull_wet
noncomputable def cfg : Cfg := { pure := pures, pcs := [], raw := [], cuts := [], draws := [(1, [⟨0, false, [], []⟩, ⟨1, false, [], []⟩, ⟨2, false, [], []⟩, ⟨3, false, [], []⟩, ⟨4, false, [], []⟩, ⟨5, false, [], []⟩, ⟨6, false, [], []⟩, ⟨7, false, [], []⟩, ⟨8, false, [], []⟩, ⟨9, false, [], []⟩, ⟨10, false, [], []⟩]), (11, [⟨0, false, [], []⟩, ⟨1, false, [], []⟩, ⟨2, false, [], []⟩, ⟨5, false, [], []⟩, ⟨3, false, [], []⟩, ⟨4, false, [], []⟩, ⟨6, false, [], []⟩])], keep := [] }
@[simp] noncomputable def r0 (_ : Unit) : List Stp := [S 3 (.box (.t 1)), S 4 (.mv (.c (.int .u64 0)))]
@[simp] noncomputable def r1 (_ : Unit) : List Stp := [S 11 (.mv (.t 0)), S 12 (.nilck Pg (.t 11)), S 13 (.fAddr 3 (.t 12)), S 14 (.load false 1 (.t 13)), S 15 (.load true 2 (.t 3)), S 16 (.lookup (true, [.i, .i]) true (.int .u64 0) (.t 14) (.t 15)), S 10 (.mv (.t 16)), S 17 (.ext (.t 10) 0), S 18 (.ext (.t 10) 1), S 5 (.mv (.t 17)), S 6 (.mv (.t 18))]
@[simp] noncomputable def r2 (_ : Unit) : List Stp := [S 19 (.mv (.t 6))]
@[simp] noncomputable def r3 (_ : Unit) : List Stp := [S 20 (.mv (.t 5)), S 4 (.mv (.t 20))]
@[simp] noncomputable def r4 (_ : Unit) : List Stp := [S 7 (.mv (.c (.int .u64 0)))]
@[simp] noncomputable def r5 (_ : Unit) : List Stp := [S 21 (.mv (.t 0)), S 22 (.nilck Pg (.t 21)), S 23 (.fAddr 0 (.t 22)), S 24 (.fAddr 0 (.t 23)), S 25 (.load false 1 (.t 24)), S 26 (.len (.t 25)), S 27 (.mv (.c (.int .i64 0)))]
@[simp] noncomputable def r6 (_ : Unit) : List Stp := [S 28 (.bin .lss (.t 27) (.t 26))]
@[simp] noncomputable def r7 (_ : Unit) : List Stp := [S 29 (.mv (.t 27)), S 30 (.ixS 3 (.t 25) (.t 27)), S 31 (.load true 3 (.t 30)), S 9 (.alloc [(.int .i64 0), (.int .i64 0), (.int .i64 0)]), S 8 (.mv (.t 29)), SN (.store 3 (.t 9) (.t 31))]
@[simp] noncomputable def r8 (_ : Unit) : List Stp := [S 32 (.fAddr 0 (.t 9)), S 33 (.load false 1 (.t 32)), S 34 (.fAddr 0 (.t 3)), S 35 (.load false 1 (.t 34)), S 36 (.fAddr 1 (.t 9)), S 37 (.load false 1 (.t 36)), S 38 (.fAddr 1 (.t 3)), S 39 (.load false 1 (.t 38)), S 40 (.bin .mul (.t 37) (.t 39)), S 41 (.bin .add (.t 35) (.t 40)), S 42 (.bin .leq (.t 33) (.t 41))]
@[simp] noncomputable def r9 (_ : Unit) : List Stp := [S 43 (.mv (.t 7)), S 44 (.mv (.t 8)), S 45 (.bin .shl (.c (.int .u64 1)) (.t 44)), S 46 (.bin .or (.t 43) (.t 45)), S 7 (.mv (.t 46))]
@[simp] noncomputable def r10 (_ : Unit) : List Stp := [S 47 (.bin .add (.t 27) (.c (.int .i64 1))), S 27 (.mv (.t 47))]
@[simp] noncomputable def r11 (_ : Unit) : List Stp := [S 48 (.mv (.t 0)), S 49 (.nilck Pg (.t 48)), S 50 (.fAddr 3 (.t 49)), S 53 (.mv (.t 7)), S 51 (.load false 1 (.t 50)), S 52 (.load true 2 (.t 3)), SN (.mapU (true, [.i, .i]) (.t 51) (.t 52) (.t 53))]
@[simp] noncomputable def r12 (_ : Unit) : List Stp := [S 54 (.mv (.t 7)), S 4 (.mv (.t 54))]
@[simp] noncomputable def ir : IR := (.seq (.ops r0) (.seq (.seq (.ops r1) (.seq (.ops r2) (.cond (.t 19) (.seq (.ops r3) .ret) .skip))) (.seq (.ops r4) (.seq (.seq (.ops r5) (.block 0 (.loop (.seq (.ops r6) (.seq (.cond (.t 28) .skip (.exit 0)) (.seq (.block 1 (.seq (.ops r7) (.seq (.ops r8) (.cond (.t 42) (.ops r9) .skip)))) (.ops r10))))))) (.seq (.ops r11) (.seq (.ops r12) .ret))))))
@[simp] noncomputable def rs : List RV := [.tmp 4]
theorem comp : compF Pg cfg Tryz.f82 = some (ir, rs, 55) := by kernel_rfl
theorem enter {args : List AVal} {h : Heap} {K : AEnd → Heap → Prop} (F : Nat) (hl : args.length ≤ 55) (a : AW ⟨Pg, F, 55, false, []⟩ ir (RetK rs K) (initT args) [] h) : ACalls Pg fn_leak_hull_wet args h K :=
  ACalls.of_comp follows Tryz.func82 comp hl a
theorem pure {args : List AVal} {v : AVal} (hl : args.length ≤ 55) (a : AW ⟨Pg, 0, 55, false, []⟩ ir (RetK rs fun e _ => e = .ret v) (initT args) [] nilH) : APure Pg fn_leak_hull_wet args v :=
  APure.of_nil (enter 0 hl a)
end leak_hull_wet

namespace again_check
noncomputable def cfg : Cfg := { pure := pures, pcs := [], raw := [], cuts := [], draws := [], keep := [] }
@[simp] noncomputable def r0 (_ : Unit) : List Stp := [S 2 (.box (.t 0))]
@[simp] noncomputable def r1 (_ : Unit) : List Stp := [S 10 (.fAddr 0 (.t 2)), S 11 (.load true 2 (.t 10)), SP 12 (.call (.c (.func (.func fn_leak_Rate) [] [])) [(.t 11), (.c (.int .i64 (-1)))]), S 9 (.mv (.t 12)), S 13 (.ext (.t 9) 0), S 14 (.ext (.t 9) 1), S 4 (.alloc [(.int .i64 0), (.int .i64 0)]), SN (.store 2 (.t 4) (.t 13)), S 5 (.mv (.t 14))]
@[simp] noncomputable def r2 (_ : Unit) : List Stp := [S 6 (.mv (.c (.func (.func fn_again_check_1) [] [])))]
@[simp] noncomputable def r3 (_ : Unit) : List Stp := [S 15 (.mv (.t 5)), S 16 (.bin .eql (.t 15) (.c (.int .i64 2))), S 17 (.mv (.t 16)), SG 18 17 true (.fAddr 0 (.t 2)), SG 19 17 true (.fAddr 1 (.t 18)), SG 20 17 true (.load false 1 (.t 19)), SG 21 17 true (.len (.t 20)), SG 22 17 true (.bin .lss (.t 21) (.c (.int .i64 8))), S 23 (.pick (.t 17) (.t 22) (.c (.bool false))), S 24 (.mv (.t 23)), SG 25 24 true (.fAddr 2 (.t 2)), SG 26 24 true (.load false 1 (.t 25)), SG 27 24 true (.len (.t 26)), SG 28 24 true (.fAddr 0 (.t 2)), SG 29 24 true (.fAddr 0 (.t 28)), SG 30 24 true (.load false 1 (.t 29)), SG 31 24 true (.len (.t 30)), SG 32 24 true (.bin .eql (.t 27) (.t 31)), S 33 (.pick (.t 24) (.t 32) (.c (.bool false))), S 34 (.mv (.t 33)), SG 35 34 true (.fAddr 2 (.t 2)), SG 36 34 true (.load false 1 (.t 35)), SG 37 34 true (.mv (.t 6)), SG 38 34 true (.call (.c (.func (.func fn_slices_ContainsFunc_int_int) [] [])) [(.t 36), (.t 37)]), SG 39 34 true (.un .not (.t 38)), S 40 (.pick (.t 34) (.t 39) (.c (.bool false))), S 41 (.call (.c (.func (.func fn_again_want) [] [])) [(.t 40), (.c (.int .i64 1))])]
@[simp] noncomputable def r4 (_ : Unit) : List Stp := [S 42 (.fAddr 3 (.t 2)), S 43 (.load false 1 (.t 42)), SP 44 (.call (.c (.func (.func fn_again_within) [] [])) [(.t 43), (.c (.int .i64 0)), (.c (.int .i64 100))]), S 45 (.mv (.t 44)), SG 46 45 true (.fAddr 5 (.t 2)), SG 47 45 true (.load false 1 (.t 46)), SGP 48 45 true (.call (.c (.func (.func fn_again_within) [] [])) [(.t 47), (.c (.int .i64 0)), (.c (.int .i64 5000))]), S 49 (.pick (.t 45) (.t 48) (.c (.bool false))), S 50 (.mv (.t 49)), SG 51 50 true (.fAddr 4 (.t 2)), SG 52 50 true (.load false 1 (.t 51)), SG 53 50 true (.len (.t 52)), SG 54 50 true (.bin .leq (.t 53) (.c (.int .i64 12))), S 55 (.pick (.t 50) (.t 54) (.c (.bool false))), S 56 (.call (.c (.func (.func fn_again_want) [] [])) [(.t 55), (.c (.int .i64 1))])]
@[simp] noncomputable def r5 (_ : Unit) : List Stp := [S 57 (.fAddr 4 (.t 2)), S 58 (.load false 1 (.t 57)), S 59 (.len (.t 58)), S 60 (.mv (.c (.int .i64 0)))]
@[simp] noncomputable def r6 (_ : Unit) : List Stp := [S 61 (.bin .lss (.t 60) (.t 59))]
@[simp] noncomputable def r7 (_ : Unit) : List Stp := [S 62 (.ixS 3 (.t 58) (.t 60)), S 63 (.load true 3 (.t 62)), S 8 (.alloc [(.int .i64 0), (.int .i64 0), (.int .i64 0)]), SN (.store 3 (.t 8) (.t 63))]
@[simp] noncomputable def r8 (_ : Unit) : List Stp := [S 64 (.load true 6 (.t 2)), S 65 (.load true 3 (.t 8)), SP 66 (.call (.c (.func (.func fn_again_isWork) [] [])) [(.t 64), (.t 65)]), S 67 (.call (.c (.func (.func fn_again_want) [] [])) [(.t 66), (.c (.int .i64 1))])]
@[simp] noncomputable def r9 (_ : Unit) : List Stp := [S 68 (.bin .add (.t 60) (.c (.int .i64 1))), S 60 (.mv (.t 68))]
@[simp] noncomputable def r10 (_ : Unit) : List Stp := [S 69 (.mv (.t 1)), S 70 (.call (.c (.func (.func fn_again_want) [] [])) [(.t 69), (.c (.int .i64 2))])]
@[simp] noncomputable def ir : IR := (.seq (.ops r0) (.seq (.ops r1) (.seq (.ops r2) (.seq (.ops r3) (.seq (.ops r4) (.seq (.seq (.ops r5) (.block 0 (.loop (.seq (.ops r6) (.seq (.cond (.t 61) .skip (.exit 0)) (.seq (.block 1 (.seq (.ops r7) (.ops r8))) (.ops r9))))))) (.ops r10)))))))
@[simp] noncomputable def rs : List RV := []
theorem comp : compF Pg cfg Tryz.f83 = some (ir, rs, 71) := by kernel_rfl
theorem enter {args : List AVal} {h : Heap} {K : AEnd → Heap → Prop} (F : Nat) (hl : args.length ≤ 71) (a : AW ⟨Pg, F, 71, false, []⟩ ir (RetK rs K) (initT args) [] h) : ACalls Pg fn_again_check args h K :=
  ACalls.of_comp follows Tryz.func83 comp hl a
theorem pure {args : List AVal} {v : AVal} (hl : args.length ≤ 71) (a : AW ⟨Pg, 0, 71, false, []⟩ ir (RetK rs fun e _ => e = .ret v) (initT args) [] nilH) : APure Pg fn_again_check args v :=
  APure.of_nil (enter 0 hl a)
end again_check

namespace again_open_1
noncomputable def cfg : Cfg := { pure := pures, pcs := [], raw := [], cuts := [], draws := [], keep := [] }
@[simp] noncomputable def r0 (_ : Unit) : List Stp := [S 2 (.box (.t 0)), S 3 (.box (.t 1)), S 4 (.mv (.c (.int .i64 0)))]
@[simp] noncomputable def r1 (_ : Unit) : List Stp := [S 5 (.fAddr 1 (.t 2)), S 6 (.load false 1 (.t 5)), S 7 (.fAddr 1 (.t 3)), S 8 (.load false 1 (.t 7)), S 9 (.call (.c (.func (.func fn_cmp_Compare_int) [] [])) [(.t 6), (.t 8)]), S 4 (.mv (.t 9))]
@[simp] noncomputable def ir : IR := (.seq (.ops r0) (.seq (.ops r1) .ret))
@[simp] noncomputable def rs : List RV := [.tmp 4]
theorem comp : compF Pg cfg Tryz.f84 = some (ir, rs, 10) := by kernel_rfl
theorem enter {args : List AVal} {h : Heap} {K : AEnd → Heap → Prop} (F : Nat) (hl : args.length ≤ 10) (a : AW ⟨Pg, F, 10, false, []⟩ ir (RetK rs K) (initT args) [] h) : ACalls Pg fn_again_open_1 args h K :=
  ACalls.of_comp follows Tryz.func84 comp hl a
theorem pure {args : List AVal} {v : AVal} (hl : args.length ≤ 10) (a : AW ⟨Pg, 0, 10, false, []⟩ ir (RetK rs fun e _ => e = .ret v) (initT args) [] nilH) : APure Pg fn_again_open_1 args v :=
  APure.of_nil (enter 0 hl a)
end again_open_1

namespace cmp_Compare_int
noncomputable def cfg : Cfg := { pure := pures, pcs := [], raw := [], cuts := [], draws := [], keep := [] }
@[simp] noncomputable def r0 (_ : Unit) : List Stp := [S 4 (.mv (.c (.int .i64 0)))]
@[simp] noncomputable def r1 (_ : Unit) : List Stp := [S 7 (.mv (.t 0)), S 8 (.call (.c (.func (.func fn_cmp_isNaN_int) [] [])) [(.t 7)]), S 5 (.mv (.t 8))]
@[simp] noncomputable def r2 (_ : Unit) : List Stp := [S 9 (.mv (.t 1)), S 10 (.call (.c (.func (.func fn_cmp_isNaN_int) [] [])) [(.t 9)]), S 6 (.mv (.t 10))]
@[simp] noncomputable def r3 (_ : Unit) : List Stp := [S 11 (.mv (.t 5))]
@[simp] noncomputable def r4 (_ : Unit) : List Stp := [S 12 (.mv (.t 6))]
@[simp] noncomputable def r5 (_ : Unit) : List Stp := [S 4 (.mv (.c (.int .i64 0)))]
@[simp] noncomputable def r6 (_ : Unit) : List Stp := [S 4 (.mv (.c (.int .i64 (-1))))]
@[simp] noncomputable def r7 (_ : Unit) : List Stp := [S 13 (.mv (.t 6))]
@[simp] noncomputable def r8 (_ : Unit) : List Stp := [S 4 (.mv (.c (.int .i64 1)))]
@[simp] noncomputable def r9 (_ : Unit) : List Stp := [S 14 (.mv (.t 0)), S 15 (.mv (.t 1)), S 16 (.bin .lss (.t 14) (.t 15))]
@[simp] noncomputable def r10 (_ : Unit) : List Stp := [S 4 (.mv (.c (.int .i64 (-1))))]
@[simp] noncomputable def r11 (_ : Unit) : List Stp := [S 17 (.mv (.t 0)), S 18 (.mv (.t 1)), S 19 (.bin .gtr (.t 17) (.t 18))]
@[simp] noncomputable def r12 (_ : Unit) : List Stp := [S 4 (.mv (.c (.int .i64 1)))]
@[simp] noncomputable def r13 (_ : Unit) : List Stp := [S 4 (.mv (.c (.int .i64 0)))]
@[simp] noncomputable def ir : IR := (.seq (.ops r0) (.seq (.ops r1) (.seq (.ops r2) (.seq (.seq (.ops r3) (.cond (.t 11) (.seq (.seq (.ops r4) (.cond (.t 12) (.seq (.ops r5) .ret) .skip)) (.seq (.ops r6) .ret)) .skip)) (.seq (.seq (.ops r7) (.cond (.t 13) (.seq (.ops r8) .ret) .skip)) (.seq (.seq (.ops r9) (.cond (.t 16) (.seq (.ops r10) .ret) .skip)) (.seq (.seq (.ops r11) (.cond (.t 19) (.seq (.ops r12) .ret) .skip)) (.seq (.ops r13) .ret))))))))
@[simp] noncomputable def rs : List RV := [.tmp 4]
theorem comp : compF Pg cfg Tryz.f85 = some (ir, rs, 20) := by kernel_rfl
theorem enter {args : List AVal} {h : Heap} {K : AEnd → Heap → Prop} (F : Nat) (hl : args.length ≤ 20) (a : AW ⟨Pg, F, 20, false, []⟩ ir (RetK rs K) (initT args) [] h) : ACalls Pg fn_cmp_Compare_int args h K :=
  ACalls.of_comp follows Tryz.func85 comp hl a
theorem pure {args : List AVal} {v : AVal} (hl : args.length ≤ 20) (a : AW ⟨Pg, 0, 20, false, []⟩ ir (RetK rs fun e _ => e = .ret v) (initT args) [] nilH) : APure Pg fn_cmp_Compare_int args v :=
  APure.of_nil (enter 0 hl a)
end cmp_Compare_int

namespace slices_SortStableFunc_api_AgainWork_api_AgainWork
noncomputable def cfg : Cfg := { pure := pures, pcs := [], raw := [], cuts := [], draws := [], keep := [] }
@[simp] noncomputable def r0 (_ : Unit) : List Stp := [S 4 (.mv (.t 0)), S 5 (.mv (.t 0)), S 6 (.len (.t 5)), S 7 (.mv (.t 1)), S 8 (.call (.c (.func (.func fn_slices_stableCmpFunc_api_AgainWork) [] [])) [(.t 4), (.t 6), (.t 7)])]
@[simp] noncomputable def ir : IR := (.ops r0)
@[simp] noncomputable def rs : List RV := []
theorem comp : compF Pg cfg Tryz.f86 = some (ir, rs, 9) := by kernel_rfl
theorem enter {args : List AVal} {h : Heap} {K : AEnd → Heap → Prop} (F : Nat) (hl : args.length ≤ 9) (a : AW ⟨Pg, F, 9, false, []⟩ ir (RetK rs K) (initT args) [] h) : ACalls Pg fn_slices_SortStableFunc_api_AgainWork_api_AgainWork args h K :=
  ACalls.of_comp follows Tryz.func86 comp hl a
theorem pure {args : List AVal} {v : AVal} (hl : args.length ≤ 9) (a : AW ⟨Pg, 0, 9, false, []⟩ ir (RetK rs fun e _ => e = .ret v) (initT args) [] nilH) : APure Pg fn_slices_SortStableFunc_api_AgainWork_api_AgainWork args v :=
  APure.of_nil (enter 0 hl a)
end slices_SortStableFunc_api_AgainWork_api_AgainWork

namespace again_joined_again_verdict
noncomputable def cfg : Cfg := { pure := pures, pcs := [], raw := [], cuts := [], draws := [(5, [⟨0, false, [], []⟩, ⟨2, false, [], []⟩, ⟨3, false, [], []⟩, ⟨1, false, [], []⟩, ⟨4, false, [], [1]⟩, ⟨5, false, [], []⟩, ⟨6, false, [], []⟩])], keep := [] }
@[simp] noncomputable def r0 (_ : Unit) : List Stp := [S 6 (.alloc [(.bool false), (.bool false)])]
@[simp] noncomputable def r1 (_ : Unit) : List Stp := [S 10 (.mv (.t 1)), S 11 (.mv (.t 0)), S 12 (.ixS 1 (.t 11) (.c (.int .i64 0))), S 13 (.load false 1 (.t 12)), S 14 (.call (.t 10) [(.t 13)]), S 7 (.alloc [(.bool false), (.bool false)]), SN (.store 2 (.t 7) (.t 14))]
@[simp] noncomputable def r2 (_ : Unit) : List Stp := [S 15 (.mv (.t 0)), S 16 (.slS 1 (.t 15) (some (.c (.int .i64 1))) none none), S 17 (.len (.t 16)), S 18 (.mv (.c (.int .i64 0)))]
@[simp] noncomputable def r3 (_ : Unit) : List Stp := [S 19 (.bin .lss (.t 18) (.t 17))]
@[simp] noncomputable def r4 (_ : Unit) : List Stp := [S 20 (.ixS 1 (.t 16) (.t 18)), S 21 (.load false 1 (.t 20)), S 9 (.mv (.t 21))]
@[simp] noncomputable def r5 (_ : Unit) : List Stp := [S 22 (.mv (.t 2)), S 24 (.mv (.t 1)), S 25 (.mv (.t 9)), S 23 (.load true 2 (.t 7)), SD (some 26) (.call (.t 24) [(.t 25)]) false [] [I 23 (.load true 2 (.t 7))], S 27 (.call (.t 22) [(.t 23), (.t 26)]), SN (.store 2 (.t 7) (.t 27))]
@[simp] noncomputable def r6 (_ : Unit) : List Stp := [S 28 (.bin .add (.t 18) (.c (.int .i64 1))), S 18 (.mv (.t 28))]
@[simp] noncomputable def r7 (_ : Unit) : List Stp := [S 29 (.load true 2 (.t 7)), SN (.store 2 (.t 6) (.t 29))]
@[simp] noncomputable def ir : IR := (.seq (.ops r0) (.seq (.ops r1) (.seq (.seq (.ops r2) (.block 0 (.loop (.seq (.ops r3) (.seq (.cond (.t 19) .skip (.exit 0)) (.seq (.block 1 (.seq (.ops r4) (.ops r5))) (.ops r6))))))) (.seq (.ops r7) .ret))))
@[simp] noncomputable def rs : List RV := [.cell 6 true 2]
theorem comp : compF Pg cfg Tryz.f87 = some (ir, rs, 30) := by kernel_rfl
theorem enter {args : List AVal} {h : Heap} {K : AEnd → Heap → Prop} (F : Nat) (hl : args.length ≤ 30) (a : AW ⟨Pg, F, 30, false, []⟩ ir (RetK rs K) (initT args) [] h) : ACalls Pg fn_again_joined_again_verdict args h K :=
  ACalls.of_comp follows Tryz.func87 comp hl a
theorem pure {args : List AVal} {v : AVal} (hl : args.length ≤ 30) (a : AW ⟨Pg, 0, 30, false, []⟩ ir (RetK rs fun e _ => e = .ret v) (initT args) [] nilH) : APure Pg fn_again_joined_again_verdict args v :=
  APure.of_nil (enter 0 hl a)
end again_joined_again_verdict

namespace again_ship_verdict_1
noncomputable def cfg : Cfg := { pure := pures, pcs := [], raw := [], cuts := [], draws := [], keep := [] }
@[simp] noncomputable def r0 (_ : Unit) : List Stp := [S 3 (.alloc [(.bool false), (.bool false)])]
@[simp] noncomputable def r1 (_ : Unit) : List Stp := [S 5 (.mv (.t 0)), S 6 (.bin .neq (.t 5) (.c (.int .i64 0))), S 7 (.mv (.t 6)), SG 8 7 true (.mv (.t 0)), SG 9 7 true (.load false 1 (.t 1)), SG 10 7 true (.bin .andNot (.t 8) (.t 9)), SG 11 7 true (.bin .eql (.t 10) (.c (.int .i64 0))), S 12 (.pick (.t 7) (.t 11) (.c (.bool false))), S 4 (.mv (.t 12))]
@[simp] noncomputable def r2 (_ : Unit) : List Stp := [S 13 (.mv (.t 4)), S 14 (.mv (.t 4)), S 15 (.un .not (.t 14)), S 16 (.build [(.bool false), (.bool false)] [(0, 1, (.t 13)), (1, 1, (.t 15))]), SN (.store 2 (.t 3) (.t 16))]
@[simp] noncomputable def ir : IR := (.seq (.ops r0) (.seq (.ops r1) (.seq (.ops r2) .ret)))
@[simp] noncomputable def rs : List RV := [.cell 3 true 2]
theorem comp : compF Pg cfg Tryz.f88 = some (ir, rs, 17) := by kernel_rfl
theorem enter {args : List AVal} {h : Heap} {K : AEnd → Heap → Prop} (F : Nat) (hl : args.length ≤ 17) (a : AW ⟨Pg, F, 17, false, []⟩ ir (RetK rs K) (initT args) [] h) : ACalls Pg fn_again_ship_verdict_1 args h K :=
  ACalls.of_comp follows Tryz.func88 comp hl a
theorem pure {args : List AVal} {v : AVal} (hl : args.length ≤ 17) (a : AW ⟨Pg, 0, 17, false, []⟩ ir (RetK rs fun e _ => e = .ret v) (initT args) [] nilH) : APure Pg fn_again_ship_verdict_1 args v :=
  APure.of_nil (enter 0 hl a)
end again_ship_verdict_1

namespace again_ship_verdict_2
noncomputable def cfg : Cfg := { pure := pures, pcs := [], raw := [], cuts := [], draws := [], keep := [] }
@[simp] noncomputable def r0 (_ : Unit) : List Stp := [S 2 (.box (.t 0)), S 3 (.box (.t 1)), S 4 (.alloc [(.bool false), (.bool false)])]
@[simp] noncomputable def r1 (_ : Unit) : List Stp := [S 5 (.fAddr 0 (.t 2)), S 6 (.load false 1 (.t 5)), S 7 (.mv (.t 6)), SG 8 7 false (.fAddr 0 (.t 3)), SG 9 7 false (.load false 1 (.t 8)), S 10 (.pick (.t 7) (.c (.bool true)) (.t 9)), S 11 (.fAddr 1 (.t 2)), S 12 (.load false 1 (.t 11)), S 13 (.mv (.t 12)), SG 14 13 false (.fAddr 1 (.t 3)), SG 15 13 false (.load false 1 (.t 14)), S 16 (.pick (.t 13) (.c (.bool true)) (.t 15)), S 17 (.build [(.bool false), (.bool false)] [(0, 1, (.t 10)), (1, 1, (.t 16))]), SN (.store 2 (.t 4) (.t 17))]
@[simp] noncomputable def ir : IR := (.seq (.ops r0) (.seq (.ops r1) .ret))
@[simp] noncomputable def rs : List RV := [.cell 4 true 2]
theorem comp : compF Pg cfg Tryz.f89 = some (ir, rs, 18) := by kernel_rfl
theorem enter {args : List AVal} {h : Heap} {K : AEnd → Heap → Prop} (F : Nat) (hl : args.length ≤ 18) (a : AW ⟨Pg, F, 18, false, []⟩ ir (RetK rs K) (initT args) [] h) : ACalls Pg fn_again_ship_verdict_2 args h K :=
  ACalls.of_comp follows Tryz.func89 comp hl a
theorem pure {args : List AVal} {v : AVal} (hl : args.length ≤ 18) (a : AW ⟨Pg, 0, 18, false, []⟩ ir (RetK rs fun e _ => e = .ret v) (initT args) [] nilH) : APure Pg fn_again_ship_verdict_2 args v :=
  APure.of_nil (enter 0 hl a)
end again_ship_verdict_2

namespace ref01_Truths
noncomputable def cfg : Cfg := { pure := pures, pcs := [], raw := [], cuts := [], draws := [(1, [⟨0, false, [], []⟩, ⟨1, false, [], []⟩, ⟨2, false, [], []⟩, ⟨3, false, [], []⟩, ⟨4, false, [], []⟩])], keep := [] }
@[simp] noncomputable def r0 (_ : Unit) : List Stp := [S 1 (.box (.t 0)), S 2 (.mv (.c .nils))]
@[simp] noncomputable def r1 (_ : Unit) : List Stp := [S 3 (.load true 2 (.t 1)), S 4 (.load true 2 (.t 1)), SP 5 (.call (.c (.func (.func fn_ref01_every) [] [])) [(.t 4)]), S 6 (.call (.c (.func (.func fn_ref01_truths) [] [])) [(.t 3), (.t 5), (.c .nils), (.c .nils)]), S 2 (.mv (.t 6))]
@[simp] noncomputable def ir : IR := (.seq (.ops r0) (.seq (.ops r1) .ret))
@[simp] noncomputable def rs : List RV := [.tmp 2]
theorem comp : compF Pg cfg Tryz.f90 = some (ir, rs, 7) := by kernel_rfl
theorem enter {args : List AVal} {h : Heap} {K : AEnd → Heap → Prop} (F : Nat) (hl : args.length ≤ 7) (a : AW ⟨Pg, F, 7, false, []⟩ ir (RetK rs K) (initT args) [] h) : ACalls Pg fn_ref01_Truths args h K :=
  ACalls.of_comp follows Tryz.func90 comp hl a
theorem pure {args : List AVal} {v : AVal} (hl : args.length ≤ 7) (a : AW ⟨Pg, 0, 7, false, []⟩ ir (RetK rs fun e _ => e = .ret v) (initT args) [] nilH) : APure Pg fn_ref01_Truths args v :=
  APure.of_nil (enter 0 hl a)
end ref01_Truths

namespace again_lengths_sum
noncomputable def cfg : Cfg := { pure := pures, pcs := [], raw := [], cuts := [], draws := [], keep := [] }
@[simp] noncomputable def r0 (_ : Unit) : List Stp := [S 2 (.box (.t 0)), S 4 (.mv (.c (.int .i64 0)))]
@[simp] noncomputable def r1 (_ : Unit) : List Stp := [S 7 (.load true 6 (.t 2)), S 8 (.mv (.c (.int .i64 0)))]
@[simp] noncomputable def r2 (_ : Unit) : List Stp := [S 9 (.bin .lss (.t 8) (.c (.int .i64 6)))]
@[simp] noncomputable def r3 (_ : Unit) : List Stp := [S 10 (.mv (.t 8)), S 11 (.ixV 6 1 false (.t 7) (.t 8)), S 5 (.mv (.t 10)), S 6 (.mv (.t 11))]
@[simp] noncomputable def r4 (_ : Unit) : List Stp := [S 12 (.mv (.t 1)), S 13 (.mv (.t 5)), S 14 (.bin .shr (.t 12) (.t 13)), S 15 (.bin .and (.t 14) (.c (.int .i64 1))), S 16 (.bin .eql (.t 15) (.c (.int .i64 1)))]
@[simp] noncomputable def r5 (_ : Unit) : List Stp := [S 17 (.mv (.t 4)), S 18 (.mv (.t 6)), S 19 (.bin .add (.t 17) (.t 18)), S 4 (.mv (.t 19))]
@[simp] noncomputable def r6 (_ : Unit) : List Stp := [S 20 (.bin .add (.t 8) (.c (.int .i64 1))), S 8 (.mv (.t 20))]
@[simp] noncomputable def r7 (_ : Unit) : List Stp := [S 21 (.mv (.t 4)), S 4 (.mv (.t 21))]
@[simp] noncomputable def ir : IR := (.seq (.ops r0) (.seq (.seq (.ops r1) (.block 0 (.loop (.seq (.ops r2) (.seq (.cond (.t 9) .skip (.exit 0)) (.seq (.block 1 (.seq (.ops r3) (.seq (.ops r4) (.cond (.t 16) (.ops r5) .skip)))) (.ops r6))))))) (.seq (.ops r7) .ret)))
@[simp] noncomputable def rs : List RV := [.tmp 4]
theorem comp : compF Pg cfg Tryz.f92 = some (ir, rs, 22) := by kernel_rfl
theorem enter {args : List AVal} {h : Heap} {K : AEnd → Heap → Prop} (F : Nat) (hl : args.length ≤ 22) (a : AW ⟨Pg, F, 22, false, []⟩ ir (RetK rs K) (initT args) [] h) : ACalls Pg fn_again_lengths_sum args h K :=
  ACalls.of_comp follows Tryz.func92 comp hl a
theorem pure {args : List AVal} {v : AVal} (hl : args.length ≤ 22) (a : AW ⟨Pg, 0, 22, false, []⟩ ir (RetK rs fun e _ => e = .ret v) (initT args) [] nilH) : APure Pg fn_again_lengths_sum args v :=
  APure.of_nil (enter 0 hl a)
end again_lengths_sum

namespace again_joined_api_Span
noncomputable def cfg : Cfg := { pure := pures, pcs := [], raw := [], cuts := [], draws := [(5, [⟨0, false, [], []⟩, ⟨2, false, [], []⟩, ⟨3, false, [], []⟩, ⟨1, false, [], []⟩, ⟨4, false, [], [1]⟩, ⟨5, false, [], []⟩, ⟨6, false, [], []⟩])], keep := [] }
@[simp] noncomputable def r0 (_ : Unit) : List Stp := [S 6 (.alloc [(.int .i64 0), (.int .i64 0)])]
@[simp] noncomputable def r1 (_ : Unit) : List Stp := [S 10 (.mv (.t 1)), S 11 (.mv (.t 0)), S 12 (.ixS 1 (.t 11) (.c (.int .i64 0))), S 13 (.load false 1 (.t 12)), S 14 (.call (.t 10) [(.t 13)]), S 7 (.alloc [(.int .i64 0), (.int .i64 0)]), SN (.store 2 (.t 7) (.t 14))]
@[simp] noncomputable def r2 (_ : Unit) : List Stp := [S 15 (.mv (.t 0)), S 16 (.slS 1 (.t 15) (some (.c (.int .i64 1))) none none), S 17 (.len (.t 16)), S 18 (.mv (.c (.int .i64 0)))]
@[simp] noncomputable def r3 (_ : Unit) : List Stp := [S 19 (.bin .lss (.t 18) (.t 17))]
@[simp] noncomputable def r4 (_ : Unit) : List Stp := [S 20 (.ixS 1 (.t 16) (.t 18)), S 21 (.load false 1 (.t 20)), S 9 (.mv (.t 21))]
@[simp] noncomputable def r5 (_ : Unit) : List Stp := [S 22 (.mv (.t 2)), S 24 (.mv (.t 1)), S 25 (.mv (.t 9)), S 23 (.load true 2 (.t 7)), SD (some 26) (.call (.t 24) [(.t 25)]) false [] [I 23 (.load true 2 (.t 7))], S 27 (.call (.t 22) [(.t 23), (.t 26)]), SN (.store 2 (.t 7) (.t 27))]
@[simp] noncomputable def r6 (_ : Unit) : List Stp := [S 28 (.bin .add (.t 18) (.c (.int .i64 1))), S 18 (.mv (.t 28))]
@[simp] noncomputable def r7 (_ : Unit) : List Stp := [S 29 (.load true 2 (.t 7)), SN (.store 2 (.t 6) (.t 29))]
@[simp] noncomputable def ir : IR := (.seq (.ops r0) (.seq (.ops r1) (.seq (.seq (.ops r2) (.block 0 (.loop (.seq (.ops r3) (.seq (.cond (.t 19) .skip (.exit 0)) (.seq (.block 1 (.seq (.ops r4) (.ops r5))) (.ops r6))))))) (.seq (.ops r7) .ret))))
@[simp] noncomputable def rs : List RV := [.cell 6 true 2]
theorem comp : compF Pg cfg Tryz.f93 = some (ir, rs, 30) := by kernel_rfl
theorem enter {args : List AVal} {h : Heap} {K : AEnd → Heap → Prop} (F : Nat) (hl : args.length ≤ 30) (a : AW ⟨Pg, F, 30, false, []⟩ ir (RetK rs K) (initT args) [] h) : ACalls Pg fn_again_joined_api_Span args h K :=
  ACalls.of_comp follows Tryz.func93 comp hl a
theorem pure {args : List AVal} {v : AVal} (hl : args.length ≤ 30) (a : AW ⟨Pg, 0, 30, false, []⟩ ir (RetK rs fun e _ => e = .ret v) (initT args) [] nilH) : APure Pg fn_again_joined_api_Span args v :=
  APure.of_nil (enter 0 hl a)
end again_joined_api_Span

namespace again_ship_span_1
noncomputable def cfg : Cfg := { pure := pures, pcs := [], raw := [], cuts := [], draws := [(1, [⟨7, false, [], []⟩, ⟨0, false, [], []⟩, ⟨1, false, [], []⟩, ⟨2, false, [], []⟩, ⟨3, false, [], []⟩, ⟨4, false, [], []⟩, ⟨5, false, [], []⟩, ⟨6, false, [], []⟩, ⟨8, false, [], [0, 1, 4]⟩, ⟨9, false, [], []⟩, ⟨10, false, [], []⟩])], keep := [] }
@[simp] noncomputable def r0 (_ : Unit) : List Stp := [S 5 (.alloc [(.int .i64 0), (.int .i64 0)])]
@[simp] noncomputable def r1 (_ : Unit) : List Stp := [S 14 (.mv (.t 0)), S 7 (.load false 1 (.t 1)), S 8 (.load false 1 (.t 2)), S 9 (.nilck Pg (.t 8)), S 10 (.fAddr 6 (.t 9)), S 11 (.load true 6 (.t 10)), S 12 (.load false 1 (.t 3)), S 13 (.load false 1 (.t 2)), SD (some 15) (.inv (.t 12) "caulkworks/again.seams" [(.t 13), (.t 14)]) false [] [I 7 (.load false 1 (.t 1)), I 8 (.load false 1 (.t 2)), I 11 (.load true 6 (.t 10))], S 16 (.call (.t 7) [(.t 11), (.t 15)]), S 6 (.mv (.t 16))]
@[simp] noncomputable def r2 (_ : Unit) : List Stp := [S 17 (.mv (.t 6)), S 18 (.mv (.t 6)), S 19 (.build [(.int .i64 0), (.int .i64 0)] [(0, 1, (.t 17)), (1, 1, (.t 18))]), SN (.store 2 (.t 5) (.t 19))]
@[simp] noncomputable def ir : IR := (.seq (.ops r0) (.seq (.ops r1) (.seq (.ops r2) .ret)))
@[simp] noncomputable def rs : List RV := [.cell 5 true 2]
theorem comp : compF Pg cfg Tryz.f94 = some (ir, rs, 20) := by kernel_rfl
theorem enter {args : List AVal} {h : Heap} {K : AEnd → Heap → Prop} (F : Nat) (hl : args.length ≤ 20) (a : AW ⟨Pg, F, 20, false, []⟩ ir (RetK rs K) (initT args) [] h) : ACalls Pg fn_again_ship_span_1 args h K :=
  ACalls.of_comp follows Tryz.func94 comp hl a
theorem pure {args : List AVal} {v : AVal} (hl : args.length ≤ 20) (a : AW ⟨Pg, 0, 20, false, []⟩ ir (RetK rs fun e _ => e = .ret v) (initT args) [] nilH) : APure Pg fn_again_ship_span_1 args v :=
  APure.of_nil (enter 0 hl a)
end again_ship_span_1

namespace again_hull
noncomputable def cfg : Cfg := { pure := pures, pcs := [], raw := [], cuts := [], draws := [], keep := [] }
@[simp] noncomputable def r0 (_ : Unit) : List Stp := [S 2 (.box (.t 0)), S 3 (.box (.t 1)), S 4 (.alloc [(.int .i64 0), (.int .i64 0)])]
@[simp] noncomputable def r1 (_ : Unit) : List Stp := [S 5 (.fAddr 0 (.t 2)), S 6 (.load false 1 (.t 5)), S 7 (.fAddr 0 (.t 3)), S 8 (.load false 1 (.t 7)), S 9 (.mm false [(.t 6), (.t 8)]), S 10 (.fAddr 1 (.t 2)), S 11 (.load false 1 (.t 10)), S 12 (.fAddr 1 (.t 3)), S 13 (.load false 1 (.t 12)), S 14 (.mm true [(.t 11), (.t 13)]), S 15 (.build [(.int .i64 0), (.int .i64 0)] [(0, 1, (.t 9)), (1, 1, (.t 14))]), SN (.store 2 (.t 4) (.t 15))]
@[simp] noncomputable def ir : IR := (.seq (.ops r0) (.seq (.ops r1) .ret))
@[simp] noncomputable def rs : List RV := [.cell 4 true 2]
theorem comp : compF Pg cfg Tryz.f95 = some (ir, rs, 16) := by kernel_rfl
theorem enter {args : List AVal} {h : Heap} {K : AEnd → Heap → Prop} (F : Nat) (hl : args.length ≤ 16) (a : AW ⟨Pg, F, 16, false, []⟩ ir (RetK rs K) (initT args) [] h) : ACalls Pg fn_again_hull args h K :=
  ACalls.of_comp follows Tryz.func95 comp hl a
theorem pure {args : List AVal} {v : AVal} (hl : args.length ≤ 16) (a : AW ⟨Pg, 0, 16, false, []⟩ ir (RetK rs fun e _ => e = .ret v) (initT args) [] nilH) : APure Pg fn_again_hull args v :=
  APure.of_nil (enter 0 hl a)
end again_hull

namespace again_places_1
noncomputable def cfg : Cfg := { pure := pures, pcs := [], raw := [], cuts := [], draws := [], keep := [] }
@[simp] noncomputable def r0 (_ : Unit) : List Stp := [S 4 (.mv (.c (.int .i64 0)))]
@[simp] noncomputable def r1 (_ : Unit) : List Stp := [S 5 (.bin .lss (.t 4) (.c (.int .i64 13)))]
@[simp] noncomputable def r2 (_ : Unit) : List Stp := [S 6 (.mv (.t 4)), S 2 (.mv (.t 6))]
@[simp] noncomputable def r3 (_ : Unit) : List Stp := [S 3 (.mv (.c (.int .i64 (-3))))]
@[simp] noncomputable def r4 (_ : Unit) : List Stp := [S 7 (.mv (.t 3)), S 8 (.bin .leq (.t 7) (.c (.int .i64 3)))]
@[simp] noncomputable def r6 (_ : Unit) : List Stp := [S 11 (.mv (.t 0)), S 12 (.mv (.t 2)), S 13 (.mv (.t 3)), S 14 (.build [(.int .i64 0), (.int .i64 0)] [(0, 1, (.t 12)), (1, 1, (.t 13))]), S 15 (.call (.t 11) [(.t 14)]), S 16 (.un .not (.t 15))]
@[simp] noncomputable def r5 (_ : Unit) : List Stp := [S 9 (.mv (.t 3)), S 10 (.bin .add (.t 9) (.c (.int .i64 1))), S 3 (.mv (.t 10))]
@[simp] noncomputable def r7 (_ : Unit) : List Stp := [S 17 (.bin .add (.t 4) (.c (.int .i64 1))), S 4 (.mv (.t 17))]
@[simp] noncomputable def ir : IR := (.seq (.ops r0) (.block 0 (.loop (.seq (.ops r1) (.seq (.cond (.t 5) .skip (.exit 0)) (.seq (.block 1 (.seq (.ops r2) (.seq (.ops r3) (.block 2 (.loop (.seq (.seq (.ops r4) (.cond (.t 8) .skip (.exit 2))) (.seq (.block 3 (.seq (.ops r6) (.cond (.t 16) .ret .skip))) (.ops r5)))))))) (.ops r7)))))))
@[simp] noncomputable def rs : List RV := []
theorem comp : compF Pg cfg Tryz.f98 = some (ir, rs, 18) := by kernel_rfl
theorem enter {args : List AVal} {h : Heap} {K : AEnd → Heap → Prop} (F : Nat) (hl : args.length ≤ 18) (a : AW ⟨Pg, F, 18, false, []⟩ ir (RetK rs K) (initT args) [] h) : ACalls Pg fn_again_places_1 args h K :=
  ACalls.of_comp follows Tryz.func98 comp hl a
theorem pure {args : List AVal} {v : AVal} (hl : args.length ≤ 18) (a : AW ⟨Pg, 0, 18, false, []⟩ ir (RetK rs fun e _ => e = .ret v) (initT args) [] nilH) : APure Pg fn_again_places_1 args v :=
  APure.of_nil (enter 0 hl a)
end again_places_1

namespace leak_Wet_1
noncomputable def cfg : Cfg := { pure := pures, pcs := [], raw := [], cuts := [], draws := [], keep := [] }
@[simp] noncomputable def r0 (_ : Unit) : List Stp := [S 1 (.recov), S 2 (.call (.c (.func (.func fn_leak_said) [] [])) [(.t 1), (.t 0)])]
@[simp] noncomputable def ir : IR := (.ops r0)
@[simp] noncomputable def rs : List RV := []
theorem comp : compF Pg cfg Tryz.f99 = some (ir, rs, 3) := by kernel_rfl
theorem enter {args : List AVal} {h : Heap} {K : AEnd → Heap → Prop} (F : Nat) (hl : args.length ≤ 3) (a : AW ⟨Pg, F, 3, false, []⟩ ir (RetK rs K) (initT args) [] h) : ACalls Pg fn_leak_Wet_1 args h K :=
  ACalls.of_comp follows Tryz.func99 comp hl a
theorem pure {args : List AVal} {v : AVal} (hl : args.length ≤ 3) (a : AW ⟨Pg, 0, 3, false, []⟩ ir (RetK rs fun e _ => e = .ret v) (initT args) [] nilH) : APure Pg fn_leak_Wet_1 args v :=
  APure.of_nil (enter 0 hl a)
theorem recClo : RecClo Pg fn_leak_Wet_1 fn_leak_said := ⟨_, Tryz.func99, by kernel_rfl⟩
end leak_Wet_1

namespace slices_Clone_api_LeakSounding_api_LeakSounding
noncomputable def cfg : Cfg := { pure := pures, pcs := [], raw := [], cuts := [], draws := [], keep := [] }
@[simp] noncomputable def r0 (_ : Unit) : List Stp := [S 2 (.mv (.c .nils))]
@[simp] noncomputable def r1 (_ : Unit) : List Stp := [S 3 (.mv (.t 0)), S 4 (.eqN .s false (.t 3))]
@[simp] noncomputable def r2 (_ : Unit) : List Stp := [S 2 (.mv (.c .nils))]
@[simp] noncomputable def r3 (_ : Unit) : List Stp := [S 5 (.bsl 0 [] []), S 6 (.mv (.t 0)), S 7 (.app 4 32 (.t 5) (.t 6)), S 2 (.mv (.t 7))]
@[simp] noncomputable def ir : IR := (.seq (.ops r0) (.seq (.seq (.ops r1) (.cond (.t 4) (.seq (.ops r2) .ret) .skip)) (.seq (.ops r3) .ret)))
@[simp] noncomputable def rs : List RV := [.tmp 2]
theorem comp : compF Pg cfg Tryz.f100 = some (ir, rs, 8) := by kernel_rfl
theorem enter {args : List AVal} {h : Heap} {K : AEnd → Heap → Prop} (F : Nat) (hl : args.length ≤ 8) (a : AW ⟨Pg, F, 8, false, []⟩ ir (RetK rs K) (initT args) [] h) : ACalls Pg fn_slices_Clone_api_LeakSounding_api_LeakSounding args h K :=
  ACalls.of_comp follows Tryz.func100 comp hl a
theorem pure {args : List AVal} {v : AVal} (hl : args.length ≤ 8) (a : AW ⟨Pg, 0, 8, false, []⟩ ir (RetK rs fun e _ => e = .ret v) (initT args) [] nilH) : APure Pg fn_slices_Clone_api_LeakSounding_api_LeakSounding args v :=
  APure.of_nil (enter 0 hl a)
end slices_Clone_api_LeakSounding_api_LeakSounding

namespace ref01_in
noncomputable def cfg : Cfg := { pure := pures, pcs := [], raw := [], cuts := [], draws := [], keep := [] }
@[simp] noncomputable def r0 (_ : Unit) : List Stp := [S 6 (.mv (.c (.bool false)))]
@[simp] noncomputable def r1 (_ : Unit) : List Stp := [S 7 (.mv (.t 1)), S 8 (.mv (.t 0)), S 9 (.bin .leq (.t 7) (.t 8)), S 10 (.mv (.t 9)), SG 11 10 true (.mv (.t 0)), SG 12 10 true (.mv (.t 2)), SG 13 10 true (.bin .leq (.t 11) (.t 12)), S 14 (.pick (.t 10) (.t 13) (.c (.bool false))), S 6 (.mv (.t 14))]
@[simp] noncomputable def ir : IR := (.seq (.ops r0) (.seq (.ops r1) .ret))
@[simp] noncomputable def rs : List RV := [.tmp 6]
theorem comp : compF Pg cfg Tryz.f101 = some (ir, rs, 15) := by kernel_rfl
theorem enter {args : List AVal} {h : Heap} {K : AEnd → Heap → Prop} (F : Nat) (hl : args.length ≤ 15) (a : AW ⟨Pg, F, 15, false, []⟩ ir (RetK rs K) (initT args) [] h) : ACalls Pg fn_ref01_in args h K :=
  ACalls.of_comp follows Tryz.func101 comp hl a
theorem pure {args : List AVal} {v : AVal} (hl : args.length ≤ 15) (a : AW ⟨Pg, 0, 15, false, []⟩ ir (RetK rs fun e _ => e = .ret v) (initT args) [] nilH) : APure Pg fn_ref01_in args v :=
  APure.of_nil (enter 0 hl a)
end ref01_in

namespace ref01_At
noncomputable def cfg : Cfg := { pure := pures, pcs := [], raw := [], cuts := [], draws := [], keep := [] }
@[simp] noncomputable def r0 (_ : Unit) : List Stp := [S 4 (.mv (.c (.bool false)))]
@[simp] noncomputable def r1 (_ : Unit) : List Stp := [S 5 (.mv (.t 0)), SP 6 (.call (.c (.func (.func fn_ref01_in) [] [])) [(.t 5), (.c (.int .i64 0)), (.c (.int .i64 12))]), S 7 (.mv (.t 6)), SG 8 7 true (.mv (.t 1)), SGP 9 7 true (.call (.c (.func (.func fn_ref01_in) [] [])) [(.t 8), (.c (.int .i64 (-3))), (.c (.int .i64 3))]), S 10 (.pick (.t 7) (.t 9) (.c (.bool false))), S 4 (.mv (.t 10))]
@[simp] noncomputable def ir : IR := (.seq (.ops r0) (.seq (.ops r1) .ret))
@[simp] noncomputable def rs : List RV := [.tmp 4]
theorem comp : compF Pg cfg Tryz.f102 = some (ir, rs, 11) := by kernel_rfl
theorem enter {args : List AVal} {h : Heap} {K : AEnd → Heap → Prop} (F : Nat) (hl : args.length ≤ 11) (a : AW ⟨Pg, F, 11, false, []⟩ ir (RetK rs K) (initT args) [] h) : ACalls Pg fn_ref01_At args h K :=
  ACalls.of_comp follows Tryz.func102 comp hl a
theorem pure {args : List AVal} {v : AVal} (hl : args.length ≤ 11) (a : AW ⟨Pg, 0, 11, false, []⟩ ir (RetK rs fun e _ => e = .ret v) (initT args) [] nilH) : APure Pg fn_ref01_At args v :=
  APure.of_nil (enter 0 hl a)
end ref01_At

namespace leak_want
noncomputable def cfg : Cfg := { pure := pures, pcs := [], raw := [], cuts := [], draws := [], keep := [] }
@[simp] noncomputable def r0 (_ : Unit) : List Stp := [S 4 (.mv (.t 0)), S 5 (.un .not (.t 4))]
@[simp] noncomputable def r1 (_ : Unit) : List Stp := [S 6 (.mv (.t 1)), S 7 (.build [(.int .i64 0)] [(0, 1, (.t 6))]), S 8 (.mkI 145 (.t 7)), SN (.panic (.t 8))]
@[simp] noncomputable def ir : IR := (.seq (.ops r0) (.cond (.t 5) (.ops r1) .skip))
@[simp] noncomputable def rs : List RV := []
theorem comp : compF Pg cfg Tryz.f103 = some (ir, rs, 9) := by kernel_rfl
theorem enter {args : List AVal} {h : Heap} {K : AEnd → Heap → Prop} (F : Nat) (hl : args.length ≤ 9) (a : AW ⟨Pg, F, 9, false, []⟩ ir (RetK rs K) (initT args) [] h) : ACalls Pg fn_leak_want args h K :=
  ACalls.of_comp follows Tryz.func103 comp hl a
theorem pure {args : List AVal} {v : AVal} (hl : args.length ≤ 9) (a : AW ⟨Pg, 0, 9, false, []⟩ ir (RetK rs fun e _ => e = .ret v) (initT args) [] nilH) : APure Pg fn_leak_want args v :=
  APure.of_nil (enter 0 hl a)
end leak_want

namespace leak_within
noncomputable def cfg : Cfg := { pure := pures, pcs := [], raw := [], cuts := [], draws := [], keep := [] }
@[simp] noncomputable def r0 (_ : Unit) : List Stp := [S 6 (.mv (.c (.bool false)))]
@[simp] noncomputable def r1 (_ : Unit) : List Stp := [S 7 (.mv (.t 1)), S 8 (.mv (.t 0)), S 9 (.bin .leq (.t 7) (.t 8)), S 10 (.mv (.t 9)), SG 11 10 true (.mv (.t 0)), SG 12 10 true (.mv (.t 2)), SG 13 10 true (.bin .leq (.t 11) (.t 12)), S 14 (.pick (.t 10) (.t 13) (.c (.bool false))), S 6 (.mv (.t 14))]
@[simp] noncomputable def ir : IR := (.seq (.ops r0) (.seq (.ops r1) .ret))
@[simp] noncomputable def rs : List RV := [.tmp 6]
theorem comp : compF Pg cfg Tryz.f104 = some (ir, rs, 15) := by kernel_rfl
theorem enter {args : List AVal} {h : Heap} {K : AEnd → Heap → Prop} (F : Nat) (hl : args.length ≤ 15) (a : AW ⟨Pg, F, 15, false, []⟩ ir (RetK rs K) (initT args) [] h) : ACalls Pg fn_leak_within args h K :=
  ACalls.of_comp follows Tryz.func104 comp hl a
theorem pure {args : List AVal} {v : AVal} (hl : args.length ≤ 15) (a : AW ⟨Pg, 0, 15, false, []⟩ ir (RetK rs fun e _ => e = .ret v) (initT args) [] nilH) : APure Pg fn_leak_within args v :=
  APure.of_nil (enter 0 hl a)
end leak_within

namespace leak_hull_truths
noncomputable def cfg : Cfg := { pure := pures, pcs := [], raw := [], cuts := [], draws := [], keep := [] }
@[simp] noncomputable def r0 (_ : Unit) : List Stp := [S 2 (.mv (.c .nils))]
@[simp] noncomputable def r1 (_ : Unit) : List Stp := [S 4 (.mv (.t 0)), S 5 (.mv (.t 0)), S 6 (.call (.c (.func (.func fn_leak_hull_every) [] [])) [(.t 5)]), S 7 (.call (.c (.func (.func fn_leak_hull_inflows) [] [])) [(.t 4), (.t 6)]), S 8 (.call (.c (.func (.func fn_slices_Collect_leak_inflow) [] [])) [(.t 7)]), S 3 (.mv (.t 8))]
@[simp] noncomputable def r2 (_ : Unit) : List Stp := [S 9 (.mv (.t 3)), S 10 (.len (.t 9)), S 11 (.bin .gtr (.t 10) (.c (.int .i64 0))), S 12 (.call (.c (.func (.func fn_leak_want) [] [])) [(.t 11), (.c (.int .i64 10))])]
@[simp] noncomputable def r3 (_ : Unit) : List Stp := [S 13 (.mv (.t 3)), S 2 (.mv (.t 13))]
@[simp] noncomputable def ir : IR := (.seq (.ops r0) (.seq (.ops r1) (.seq (.ops r2) (.seq (.ops r3) .ret))))
@[simp] noncomputable def rs : List RV := [.tmp 2]
theorem comp : compF Pg cfg Tryz.f105 = some (ir, rs, 14) := by kernel_rfl
theorem enter {args : List AVal} {h : Heap} {K : AEnd → Heap → Prop} (F : Nat) (hl : args.length ≤ 14) (a : AW ⟨Pg, F, 14, false, []⟩ ir (RetK rs K) (initT args) [] h) : ACalls Pg fn_leak_hull_truths args h K :=
  ACalls.of_comp follows Tryz.func105 comp hl a
theorem pure {args : List AVal} {v : AVal} (hl : args.length ≤ 14) (a : AW ⟨Pg, 0, 14, false, []⟩ ir (RetK rs fun e _ => e = .ret v) (initT args) [] nilH) : APure Pg fn_leak_hull_truths args v :=
  APure.of_nil (enter 0 hl a)
end leak_hull_truths

namespace leak_inflow_leaks
noncomputable def cfg : Cfg := { pure := pures, pcs := [], raw := [], cuts := [], draws := [], keep := [] }
@[simp] noncomputable def r0 (_ : Unit) : List Stp := [S 1 (.box (.t 0)), S 2 (.mv (.c (.int .u64 0)))]
@[simp] noncomputable def r1 (_ : Unit) : List Stp := [S 5 (.load true 6 (.t 1)), S 6 (.mv (.c (.int .i64 0)))]
@[simp] noncomputable def r2 (_ : Unit) : List Stp := [S 7 (.bin .lss (.t 6) (.c (.int .i64 6)))]
@[simp] noncomputable def r3 (_ : Unit) : List Stp := [S 8 (.mv (.t 6)), S 9 (.ixV 6 1 false (.t 5) (.t 6)), S 3 (.mv (.t 8)), S 4 (.mv (.t 9))]
@[simp] noncomputable def r4 (_ : Unit) : List Stp := [S 10 (.mv (.t 4)), S 11 (.bin .gtr (.t 10) (.c (.int .i64 0)))]
@[simp] noncomputable def r5 (_ : Unit) : List Stp := [S 12 (.mv (.t 2)), S 13 (.mv (.t 3)), S 14 (.bin .shl (.c (.int .u64 1)) (.t 13)), S 15 (.bin .or (.t 12) (.t 14)), S 2 (.mv (.t 15))]
@[simp] noncomputable def r6 (_ : Unit) : List Stp := [S 16 (.bin .add (.t 6) (.c (.int .i64 1))), S 6 (.mv (.t 16))]
@[simp] noncomputable def r7 (_ : Unit) : List Stp := [S 17 (.mv (.t 2)), S 2 (.mv (.t 17))]
@[simp] noncomputable def ir : IR := (.seq (.ops r0) (.seq (.seq (.ops r1) (.block 0 (.loop (.seq (.ops r2) (.seq (.cond (.t 7) .skip (.exit 0)) (.seq (.block 1 (.seq (.ops r3) (.seq (.ops r4) (.cond (.t 11) (.ops r5) .skip)))) (.ops r6))))))) (.seq (.ops r7) .ret)))
@[simp] noncomputable def rs : List RV := [.tmp 2]
theorem comp : compF Pg cfg Tryz.f106 = some (ir, rs, 18) := by kernel_rfl
theorem enter {args : List AVal} {h : Heap} {K : AEnd → Heap → Prop} (F : Nat) (hl : args.length ≤ 18) (a : AW ⟨Pg, F, 18, false, []⟩ ir (RetK rs K) (initT args) [] h) : ACalls Pg fn_leak_inflow_leaks args h K :=
  ACalls.of_comp follows Tryz.func106 comp hl a
theorem pure {args : List AVal} {v : AVal} (hl : args.length ≤ 18) (a : AW ⟨Pg, 0, 18, false, []⟩ ir (RetK rs fun e _ => e = .ret v) (initT args) [] nilH) : APure Pg fn_leak_inflow_leaks args v :=
  APure.of_nil (enter 0 hl a)
end leak_inflow_leaks

namespace slices_Sort_int_int
noncomputable def cfg : Cfg := { pure := pures, pcs := [], raw := [], cuts := [], draws := [], keep := [] }
@[simp] noncomputable def r0 (_ : Unit) : List Stp := [S 3 (.mv (.t 0)), S 4 (.len (.t 3)), S 2 (.mv (.t 4))]
@[simp] noncomputable def r1 (_ : Unit) : List Stp := [S 5 (.mv (.t 0)), S 6 (.mv (.t 2)), S 7 (.mv (.t 2)), S 8 (.conv .u64 (.t 7)), S 9 (.call (.c (.func (.func fn_math_bits_Len) [] [])) [(.t 8)]), S 10 (.call (.c (.func (.func fn_slices_pdqsortOrdered_int) [] [])) [(.t 5), (.c (.int .i64 0)), (.t 6), (.t 9)])]
@[simp] noncomputable def ir : IR := (.seq (.ops r0) (.ops r1))
@[simp] noncomputable def rs : List RV := []
theorem comp : compF Pg cfg Tryz.f107 = some (ir, rs, 11) := by kernel_rfl
theorem enter {args : List AVal} {h : Heap} {K : AEnd → Heap → Prop} (F : Nat) (hl : args.length ≤ 11) (a : AW ⟨Pg, F, 11, false, []⟩ ir (RetK rs K) (initT args) [] h) : ACalls Pg fn_slices_Sort_int_int args h K :=
  ACalls.of_comp follows Tryz.func107 comp hl a
theorem pure {args : List AVal} {v : AVal} (hl : args.length ≤ 11) (a : AW ⟨Pg, 0, 11, false, []⟩ ir (RetK rs fun e _ => e = .ret v) (initT args) [] nilH) : APure Pg fn_slices_Sort_int_int args v :=
  APure.of_nil (enter 0 hl a)
end slices_Sort_int_int

namespace leak_inflow_sum
noncomputable def cfg : Cfg := { pure := pures, pcs := [], raw := [], cuts := [], draws := [], keep := [] }
@[simp] noncomputable def r0 (_ : Unit) : List Stp := [S 2 (.box (.t 0)), S 4 (.mv (.c (.int .i64 0)))]
@[simp] noncomputable def r1 (_ : Unit) : List Stp := [S 7 (.load true 6 (.t 2)), S 8 (.mv (.c (.int .i64 0)))]
@[simp] noncomputable def r2 (_ : Unit) : List Stp := [S 9 (.bin .lss (.t 8) (.c (.int .i64 6)))]
@[simp] noncomputable def r3 (_ : Unit) : List Stp := [S 10 (.mv (.t 8)), S 11 (.ixV 6 1 false (.t 7) (.t 8)), S 5 (.mv (.t 10)), S 6 (.mv (.t 11))]
@[simp] noncomputable def r4 (_ : Unit) : List Stp := [S 12 (.mv (.t 1)), S 13 (.mv (.t 5)), SP 14 (.call (.c (.func (.func fn_leak_set_has) [] [])) [(.t 12), (.t 13)])]
@[simp] noncomputable def r5 (_ : Unit) : List Stp := [S 15 (.mv (.t 4)), S 16 (.mv (.t 6)), S 17 (.bsl 2 [(.int .i64 0), (.int .i64 0)] [(0, 1, (.t 15)), (1, 1, (.t 16))]), S 18 (.call (.c (.func (.func fn_leak_flows) [] [])) [(.t 17)]), S 4 (.mv (.t 18))]
@[simp] noncomputable def r6 (_ : Unit) : List Stp := [S 19 (.bin .add (.t 8) (.c (.int .i64 1))), S 8 (.mv (.t 19))]
@[simp] noncomputable def r7 (_ : Unit) : List Stp := [S 20 (.mv (.t 4)), S 4 (.mv (.t 20))]
@[simp] noncomputable def ir : IR := (.seq (.ops r0) (.seq (.seq (.ops r1) (.block 0 (.loop (.seq (.ops r2) (.seq (.cond (.t 9) .skip (.exit 0)) (.seq (.block 1 (.seq (.ops r3) (.seq (.ops r4) (.cond (.t 14) (.ops r5) .skip)))) (.ops r6))))))) (.seq (.ops r7) .ret)))
@[simp] noncomputable def rs : List RV := [.tmp 4]
theorem comp : compF Pg cfg Tryz.f108 = some (ir, rs, 21) := by kernel_rfl
theorem enter {args : List AVal} {h : Heap} {K : AEnd → Heap → Prop} (F : Nat) (hl : args.length ≤ 21) (a : AW ⟨Pg, F, 21, false, []⟩ ir (RetK rs K) (initT args) [] h) : ACalls Pg fn_leak_inflow_sum args h K :=
  ACalls.of_comp follows Tryz.func108 comp hl a
theorem pure {args : List AVal} {v : AVal} (hl : args.length ≤ 21) (a : AW ⟨Pg, 0, 21, false, []⟩ ir (RetK rs fun e _ => e = .ret v) (initT args) [] nilH) : APure Pg fn_leak_inflow_sum args v :=
  APure.of_nil (enter 0 hl a)
end leak_inflow_sum

namespace leak_sums
noncomputable def cfg : Cfg := { pure := pures, pcs := [], raw := [], cuts := [], draws := [(1, [⟨0, false, [], []⟩, ⟨1, false, [], []⟩, ⟨2, false, [], []⟩, ⟨5, false, [], []⟩, ⟨6, false, [], []⟩, ⟨7, false, [], []⟩, ⟨3, false, [], []⟩, ⟨8, false, [], []⟩, ⟨4, false, [11], [8]⟩, ⟨9, false, [11], []⟩, ⟨10, false, [], []⟩, ⟨11, true, [], []⟩, ⟨12, false, [], []⟩]), (5, [⟨0, false, [], []⟩, ⟨2, false, [], []⟩, ⟨6, false, [], []⟩, ⟨8, false, [], []⟩, ⟨1, false, [], []⟩, ⟨3, false, [], []⟩, ⟨7, false, [], []⟩, ⟨9, false, [], []⟩, ⟨4, false, [], [1, 7, 9]⟩, ⟨5, false, [], []⟩, ⟨10, false, [], [1, 7]⟩, ⟨11, false, [], []⟩, ⟨12, false, [], []⟩, ⟨13, false, [], []⟩])], keep := [] }
@[simp] noncomputable def r0 (_ : Unit) : List Stp := [S 4 (.alloc [(.int .i64 0), (.int .i64 0)])]
@[simp] noncomputable def r1 (_ : Unit) : List Stp := [S 8 (.mv (.t 1)), S 9 (.mv (.t 0)), S 10 (.ixS 6 (.t 9) (.c (.int .i64 0))), S 13 (.mv (.t 1)), S 14 (.mv (.t 0)), S 15 (.ixS 6 (.t 14) (.c (.int .i64 0))), S 11 (.load true 6 (.t 10)), S 16 (.load true 6 (.t 15)), SD (some 12) (.call (.t 8) [(.t 11)]) false [I 5 (.alloc [(.int .i64 0), (.int .i64 0)])] [I 16 (.load true 6 (.t 15))], SD (some 17) (.call (.t 13) [(.t 16)]) false [I 5 (.alloc [(.int .i64 0), (.int .i64 0)])] [], S 18 (.build [(.int .i64 0), (.int .i64 0)] [(0, 1, (.t 12)), (1, 1, (.t 17))]), SD (some 5) (.alloc [(.int .i64 0), (.int .i64 0)]) true [] [], SN (.store 2 (.t 5) (.t 18))]
@[simp] noncomputable def r2 (_ : Unit) : List Stp := [S 19 (.mv (.t 0)), S 20 (.len (.t 19)), S 21 (.mv (.c (.int .i64 0)))]
@[simp] noncomputable def r3 (_ : Unit) : List Stp := [S 22 (.bin .lss (.t 21) (.t 20))]
@[simp] noncomputable def r4 (_ : Unit) : List Stp := [S 23 (.ixS 6 (.t 19) (.t 21)), S 24 (.load true 6 (.t 23)), S 7 (.alloc [(.int .i64 0), (.int .i64 0), (.int .i64 0), (.int .i64 0), (.int .i64 0), (.int .i64 0)]), SN (.store 6 (.t 7) (.t 24))]
@[simp] noncomputable def r5 (_ : Unit) : List Stp := [S 25 (.fAddr 0 (.t 5)), S 27 (.mv (.t 1)), S 31 (.fAddr 1 (.t 5)), S 33 (.mv (.t 1)), S 26 (.load false 1 (.t 25)), S 28 (.load true 6 (.t 7)), S 32 (.load false 1 (.t 31)), S 34 (.load true 6 (.t 7)), SD (some 29) (.call (.t 27) [(.t 28)]) false [] [I 26 (.load false 1 (.t 25)), I 32 (.load false 1 (.t 31)), I 34 (.load true 6 (.t 7))], S 30 (.mm false [(.t 26), (.t 29)]), SD (some 35) (.call (.t 33) [(.t 34)]) false [] [I 26 (.load false 1 (.t 25)), I 32 (.load false 1 (.t 31))], S 36 (.mm true [(.t 32), (.t 35)]), S 37 (.build [(.int .i64 0), (.int .i64 0)] [(0, 1, (.t 30)), (1, 1, (.t 36))]), SN (.store 2 (.t 5) (.t 37))]
@[simp] noncomputable def r6 (_ : Unit) : List Stp := [S 38 (.bin .add (.t 21) (.c (.int .i64 1))), S 21 (.mv (.t 38))]
@[simp] noncomputable def r7 (_ : Unit) : List Stp := [S 39 (.load true 2 (.t 5)), SN (.store 2 (.t 4) (.t 39))]
@[simp] noncomputable def ir : IR := (.seq (.ops r0) (.seq (.ops r1) (.seq (.seq (.ops r2) (.block 0 (.loop (.seq (.ops r3) (.seq (.cond (.t 22) .skip (.exit 0)) (.seq (.block 1 (.seq (.ops r4) (.ops r5))) (.ops r6))))))) (.seq (.ops r7) .ret))))
@[simp] noncomputable def rs : List RV := [.cell 4 true 2]
theorem comp : compF Pg cfg Tryz.f109 = some (ir, rs, 40) := by kernel_rfl
theorem enter {args : List AVal} {h : Heap} {K : AEnd → Heap → Prop} (F : Nat) (hl : args.length ≤ 40) (a : AW ⟨Pg, F, 40, false, []⟩ ir (RetK rs K) (initT args) [] h) : ACalls Pg fn_leak_sums args h K :=
  ACalls.of_comp follows Tryz.func109 comp hl a
theorem pure {args : List AVal} {v : AVal} (hl : args.length ≤ 40) (a : AW ⟨Pg, 0, 40, false, []⟩ ir (RetK rs fun e _ => e = .ret v) (initT args) [] nilH) : APure Pg fn_leak_sums args v :=
  APure.of_nil (enter 0 hl a)
end leak_sums

namespace leak_hull_total_1
noncomputable def cfg : Cfg := { pure := pures, pcs := [], raw := [], cuts := [], draws := [], keep := [] }
@[simp] noncomputable def r0 (_ : Unit) : List Stp := [S 3 (.box (.t 0)), S 4 (.mv (.c (.int .i64 0)))]
@[simp] noncomputable def r1 (_ : Unit) : List Stp := [S 5 (.load false 1 (.t 1)), S 6 (.load true 6 (.t 3)), S 7 (.load false 1 (.t 2)), S 8 (.call (.t 5) [(.t 6), (.t 7)]), S 4 (.mv (.t 8))]
@[simp] noncomputable def ir : IR := (.seq (.ops r0) (.seq (.ops r1) .ret))
@[simp] noncomputable def rs : List RV := [.tmp 4]
theorem comp : compF Pg cfg Tryz.f110 = some (ir, rs, 9) := by kernel_rfl
theorem enter {args : List AVal} {h : Heap} {K : AEnd → Heap → Prop} (F : Nat) (hl : args.length ≤ 9) (a : AW ⟨Pg, F, 9, false, []⟩ ir (RetK rs K) (initT args) [] h) : ACalls Pg fn_leak_hull_total_1 args h K :=
  ACalls.of_comp follows Tryz.func110 comp hl a
theorem pure {args : List AVal} {v : AVal} (hl : args.length ≤ 9) (a : AW ⟨Pg, 0, 9, false, []⟩ ir (RetK rs fun e _ => e = .ret v) (initT args) [] nilH) : APure Pg fn_leak_hull_total_1 args v :=
  APure.of_nil (enter 0 hl a)
end leak_hull_total_1

namespace leak_Rate
noncomputable def cfg : Cfg := { pure := pures, pcs := [], raw := [], cuts := [], draws := [(2, [⟨1, false, [], []⟩, ⟨2, false, [], []⟩, ⟨0, false, [], []⟩, ⟨3, false, [], []⟩, ⟨4, false, [], []⟩, ⟨5, false, [], []⟩, ⟨6, false, [], []⟩, ⟨7, false, [], []⟩, ⟨8, false, [], []⟩])], keep := [4, 5] }
@[simp] noncomputable def r0 (_ : Unit) : List Stp := [S 2 (.box (.t 0)), S 4 (.alloc [(.int .i64 0), (.int .i64 0)]), S 5 (.alloc [(.int .i64 0)])]
@[simp] noncomputable def r1 (_ : Unit) : List Stp := [S 7 (.mkF (.func fn_leak_Rate_1) [] [(.t 5)]), SN (.defer (.t 7) [])]
@[simp] noncomputable def r2 (_ : Unit) : List Stp := [S 9 (.mv (.t 1)), S 10 (.fAddr 0 (.t 2)), S 8 (.load true 2 (.t 2)), S 11 (.load false 1 (.t 10)), S 12 (.len (.t 11)), S 13 (.bin .sub (.t 12) (.c (.int .i64 1))), SP 14 (.call (.c (.func (.func fn_leak_within) [] [])) [(.t 9), (.c (.int .i64 0)), (.t 13)]), S 15 (.call (.c (.func (.func fn_leak_open) [] [])) [(.t 8), (.t 14)]), S 6 (.mv (.t 15))]
@[simp] noncomputable def r3 (_ : Unit) : List Stp := [S 16 (.mv (.t 6)), S 17 (.mv (.t 1)), S 18 (.bin .shl (.c (.int .u64 1)) (.t 17)), S 19 (.call (.c (.func (.func fn_leak_hull_total) [] [])) [(.t 16), (.t 18)]), SN (.store 2 (.t 4) (.t 19)), SN (.store 1 (.t 5) (.c (.int .i64 0)))]
@[simp] noncomputable def ir : IR := (.seq (.ops r0) (.seq (.ops r1) (.seq (.ops r2) (.seq (.ops r3) .ret))))
@[simp] noncomputable def rs : List RV := [.cell 4 true 2, .cell 5 false 1]
theorem comp : compF Pg cfg Tryz.f111 = some (ir, rs, 20) := by kernel_rfl
theorem enter {args : List AVal} {h : Heap} {K : AEnd → Heap → Prop} (F : Nat) (hl : args.length ≤ 20) (a : AW ⟨Pg, F, 20, false, [4, 5]⟩ ir (RetD Pg rs K) (initT args) [] h) : ACalls Pg fn_leak_Rate args h K :=
  ACalls.of_comp_defer follows Tryz.func111 comp hl a
theorem pure {args : List AVal} {v : AVal} (hl : args.length ≤ 20) (a : AW ⟨Pg, 0, 20, false, [4, 5]⟩ ir (RetD Pg rs fun e _ => e = .ret v) (initT args) [] nilH) : APure Pg fn_leak_Rate args v :=
  APure.of_nil (enter 0 hl a)
end leak_Rate

namespace again_check_1
noncomputable def cfg : Cfg := { pure := pures, pcs := [], raw := [], cuts := [], draws := [], keep := [] }
@[simp] noncomputable def r0 (_ : Unit) : List Stp := [S 2 (.mv (.c (.bool false)))]
@[simp] noncomputable def r1 (_ : Unit) : List Stp := [S 3 (.mv (.t 0)), SP 4 (.call (.c (.func (.func fn_again_within) [] [])) [(.t 3), (.c (.int .i64 1)), (.c (.int .i64 20))]), S 5 (.un .not (.t 4)), S 2 (.mv (.t 5))]
@[simp] noncomputable def ir : IR := (.seq (.ops r0) (.seq (.ops r1) .ret))
@[simp] noncomputable def rs : List RV := [.tmp 2]
theorem comp : compF Pg cfg Tryz.f112 = some (ir, rs, 6) := by kernel_rfl
theorem enter {args : List AVal} {h : Heap} {K : AEnd → Heap → Prop} (F : Nat) (hl : args.length ≤ 6) (a : AW ⟨Pg, F, 6, false, []⟩ ir (RetK rs K) (initT args) [] h) : ACalls Pg fn_again_check_1 args h K :=
  ACalls.of_comp follows Tryz.func112 comp hl a
theorem pure {args : List AVal} {v : AVal} (hl : args.length ≤ 6) (a : AW ⟨Pg, 0, 6, false, []⟩ ir (RetK rs fun e _ => e = .ret v) (initT args) [] nilH) : APure Pg fn_again_check_1 args v :=
  APure.of_nil (enter 0 hl a)
end again_check_1

namespace slices_ContainsFunc_int_int
noncomputable def cfg : Cfg := { pure := pures, pcs := [], raw := [], cuts := [], draws := [], keep := [] }
@[simp] noncomputable def r0 (_ : Unit) : List Stp := [S 4 (.mv (.c (.bool false)))]
@[simp] noncomputable def r1 (_ : Unit) : List Stp := [S 5 (.mv (.t 0)), S 6 (.mv (.t 1)), S 7 (.call (.c (.func (.func fn_slices_IndexFunc_int_int) [] [])) [(.t 5), (.t 6)]), S 8 (.bin .geq (.t 7) (.c (.int .i64 0))), S 4 (.mv (.t 8))]
@[simp] noncomputable def ir : IR := (.seq (.ops r0) (.seq (.ops r1) .ret))
@[simp] noncomputable def rs : List RV := [.tmp 4]
theorem comp : compF Pg cfg Tryz.f113 = some (ir, rs, 9) := by kernel_rfl
theorem enter {args : List AVal} {h : Heap} {K : AEnd → Heap → Prop} (F : Nat) (hl : args.length ≤ 9) (a : AW ⟨Pg, F, 9, false, []⟩ ir (RetK rs K) (initT args) [] h) : ACalls Pg fn_slices_ContainsFunc_int_int args h K :=
  ACalls.of_comp follows Tryz.func113 comp hl a
theorem pure {args : List AVal} {v : AVal} (hl : args.length ≤ 9) (a : AW ⟨Pg, 0, 9, false, []⟩ ir (RetK rs fun e _ => e = .ret v) (initT args) [] nilH) : APure Pg fn_slices_ContainsFunc_int_int args v :=
  APure.of_nil (enter 0 hl a)
end slices_ContainsFunc_int_int

namespace again_isWork
noncomputable def cfg : Cfg := { pure := pures, pcs := [], raw := [], cuts := [], draws := [], keep := [] }
@[simp] noncomputable def r0 (_ : Unit) : List Stp := [S 2 (.box (.t 0)), S 3 (.box (.t 1)), S 4 (.mv (.c (.bool false)))]
@[simp] noncomputable def r1 (_ : Unit) : List Stp := [S 5 (.fAddr 0 (.t 3)), S 6 (.load false 1 (.t 5)), S 7 (.fAddr 2 (.t 2)), S 8 (.load false 1 (.t 7)), S 9 (.len (.t 8)), S 10 (.bin .sub (.t 9) (.c (.int .i64 1))), SP 11 (.call (.c (.func (.func fn_again_within) [] [])) [(.t 6), (.c (.int .i64 0)), (.t 10)]), S 12 (.mv (.t 11)), SG 13 12 true (.fAddr 2 (.t 3)), SG 14 12 true (.load false 1 (.t 13)), SGP 15 12 true (.call (.c (.func (.func fn_again_within) [] [])) [(.t 14), (.c (.int .i64 0)), (.c (.int .i64 3))]), S 16 (.pick (.t 12) (.t 15) (.c (.bool false))), S 17 (.mv (.t 16)), SG 18 17 true (.fAddr 1 (.t 3)), SG 19 17 true (.load false 1 (.t 18)), SG 20 17 true (.fAddr 5 (.t 2)), SG 21 17 true (.load false 1 (.t 20)), SGP 22 17 true (.call (.c (.func (.func fn_again_within) [] [])) [(.t 19), (.c (.int .i64 0)), (.t 21)]), S 23 (.pick (.t 17) (.t 22) (.c (.bool false))), S 4 (.mv (.t 23))]
@[simp] noncomputable def ir : IR := (.seq (.ops r0) (.seq (.ops r1) .ret))
@[simp] noncomputable def rs : List RV := [.tmp 4]
theorem comp : compF Pg cfg Tryz.f114 = some (ir, rs, 24) := by kernel_rfl
theorem enter {args : List AVal} {h : Heap} {K : AEnd → Heap → Prop} (F : Nat) (hl : args.length ≤ 24) (a : AW ⟨Pg, F, 24, false, []⟩ ir (RetK rs K) (initT args) [] h) : ACalls Pg fn_again_isWork args h K :=
  ACalls.of_comp follows Tryz.func114 comp hl a
theorem pure {args : List AVal} {v : AVal} (hl : args.length ≤ 24) (a : AW ⟨Pg, 0, 24, false, []⟩ ir (RetK rs fun e _ => e = .ret v) (initT args) [] nilH) : APure Pg fn_again_isWork args v :=
  APure.of_nil (enter 0 hl a)
end again_isWork

namespace cmp_isNaN_int
noncomputable def cfg : Cfg := { pure := pures, pcs := [], raw := [], cuts := [], draws := [], keep := [] }
@[simp] noncomputable def r0 (_ : Unit) : List Stp := [S 2 (.mv (.c (.bool false)))]
@[simp] noncomputable def r1 (_ : Unit) : List Stp := [S 3 (.mv (.t 0)), S 4 (.mv (.t 0)), S 5 (.bin .neq (.t 3) (.t 4)), S 2 (.mv (.t 5))]
@[simp] noncomputable def ir : IR := (.seq (.ops r0) (.seq (.ops r1) .ret))
@[simp] noncomputable def rs : List RV := [.tmp 2]
theorem comp : compF Pg cfg Tryz.f115 = some (ir, rs, 6) := by kernel_rfl
theorem enter {args : List AVal} {h : Heap} {K : AEnd → Heap → Prop} (F : Nat) (hl : args.length ≤ 6) (a : AW ⟨Pg, F, 6, false, []⟩ ir (RetK rs K) (initT args) [] h) : ACalls Pg fn_cmp_isNaN_int args h K :=
  ACalls.of_comp follows Tryz.func115 comp hl a
theorem pure {args : List AVal} {v : AVal} (hl : args.length ≤ 6) (a : AW ⟨Pg, 0, 6, false, []⟩ ir (RetK rs fun e _ => e = .ret v) (initT args) [] nilH) : APure Pg fn_cmp_isNaN_int args v :=
  APure.of_nil (enter 0 hl a)
end cmp_isNaN_int

namespace slices_stableCmpFunc_api_AgainWork
noncomputable def cfg : Cfg := { pure := pures, pcs := [], raw := [], cuts := [], draws := [], keep := [] }
@[simp] noncomputable def r0 (_ : Unit) : List Stp := [S 6 (.mv (.c (.int .i64 20)))]
@[simp] noncomputable def r1 (_ : Unit) : List Stp := [S 10 (.mv (.t 6)), S 7 (.mv (.c (.int .i64 0))), S 8 (.mv (.t 10))]
@[simp] noncomputable def r2 (_ : Unit) : List Stp := [S 11 (.mv (.t 8)), S 12 (.mv (.t 1)), S 13 (.bin .leq (.t 11) (.t 12))]
@[simp] noncomputable def r3 (_ : Unit) : List Stp := [S 14 (.mv (.t 0)), S 15 (.mv (.t 7)), S 16 (.mv (.t 8)), S 17 (.mv (.t 2)), S 18 (.call (.c (.func (.func fn_slices_insertionSortCmpFunc_api_AgainWork) [] [])) [(.t 14), (.t 15), (.t 16), (.t 17)])]
@[simp] noncomputable def r4 (_ : Unit) : List Stp := [S 19 (.mv (.t 8)), S 7 (.mv (.t 19))]
@[simp] noncomputable def r5 (_ : Unit) : List Stp := [S 20 (.mv (.t 8)), S 21 (.mv (.t 6)), S 22 (.bin .add (.t 20) (.t 21)), S 8 (.mv (.t 22))]
@[simp] noncomputable def r6 (_ : Unit) : List Stp := [S 23 (.mv (.t 0)), S 24 (.mv (.t 7)), S 25 (.mv (.t 1)), S 26 (.mv (.t 2)), S 27 (.call (.c (.func (.func fn_slices_insertionSortCmpFunc_api_AgainWork) [] [])) [(.t 23), (.t 24), (.t 25), (.t 26)])]
@[simp] noncomputable def r7 (_ : Unit) : List Stp := [S 28 (.mv (.t 6)), S 29 (.mv (.t 1)), S 30 (.bin .lss (.t 28) (.t 29))]
@[simp] noncomputable def r8 (_ : Unit) : List Stp := [S 31 (.mv (.t 6)), S 32 (.bin .mul (.c (.int .i64 2)) (.t 31)), S 7 (.mv (.c (.int .i64 0))), S 8 (.mv (.t 32))]
@[simp] noncomputable def r9 (_ : Unit) : List Stp := [S 33 (.mv (.t 8)), S 34 (.mv (.t 1)), S 35 (.bin .leq (.t 33) (.t 34))]
@[simp] noncomputable def r10 (_ : Unit) : List Stp := [S 36 (.mv (.t 0)), S 37 (.mv (.t 7)), S 38 (.mv (.t 7)), S 39 (.mv (.t 6)), S 40 (.bin .add (.t 38) (.t 39)), S 41 (.mv (.t 8)), S 42 (.mv (.t 2)), S 43 (.call (.c (.func (.func fn_slices_symMergeCmpFunc_api_AgainWork) [] [])) [(.t 36), (.t 37), (.t 40), (.t 41), (.t 42)])]
@[simp] noncomputable def r11 (_ : Unit) : List Stp := [S 44 (.mv (.t 8)), S 7 (.mv (.t 44))]
@[simp] noncomputable def r12 (_ : Unit) : List Stp := [S 45 (.mv (.t 8)), S 46 (.mv (.t 6)), S 47 (.bin .mul (.c (.int .i64 2)) (.t 46)), S 48 (.bin .add (.t 45) (.t 47)), S 8 (.mv (.t 48))]
@[simp] noncomputable def r13 (_ : Unit) : List Stp := [S 49 (.mv (.t 7)), S 50 (.mv (.t 6)), S 51 (.bin .add (.t 49) (.t 50)), S 9 (.mv (.t 51))]
@[simp] noncomputable def r14 (_ : Unit) : List Stp := [S 52 (.mv (.t 9)), S 53 (.mv (.t 1)), S 54 (.bin .lss (.t 52) (.t 53))]
@[simp] noncomputable def r15 (_ : Unit) : List Stp := [S 55 (.mv (.t 0)), S 56 (.mv (.t 7)), S 57 (.mv (.t 9)), S 58 (.mv (.t 1)), S 59 (.mv (.t 2)), S 60 (.call (.c (.func (.func fn_slices_symMergeCmpFunc_api_AgainWork) [] [])) [(.t 55), (.t 56), (.t 57), (.t 58), (.t 59)])]
@[simp] noncomputable def r16 (_ : Unit) : List Stp := [S 61 (.mv (.t 6)), S 62 (.bin .mul (.t 61) (.c (.int .i64 2))), S 6 (.mv (.t 62))]
@[simp] noncomputable def ir : IR := (.seq (.ops r0) (.seq (.ops r1) (.seq (.block 0 (.loop (.seq (.seq (.ops r2) (.cond (.t 13) .skip (.exit 0))) (.block 1 (.seq (.ops r3) (.seq (.ops r4) (.ops r5))))))) (.seq (.ops r6) (.block 2 (.loop (.seq (.seq (.ops r7) (.cond (.t 30) .skip (.exit 2))) (.block 3 (.seq (.ops r8) (.seq (.block 4 (.loop (.seq (.seq (.ops r9) (.cond (.t 35) .skip (.exit 4))) (.block 5 (.seq (.ops r10) (.seq (.ops r11) (.ops r12))))))) (.seq (.seq (.ops r13) (.seq (.ops r14) (.cond (.t 54) (.ops r15) .skip))) (.ops r16))))))))))))
@[simp] noncomputable def rs : List RV := []
theorem comp : compF Pg cfg Tryz.f116 = some (ir, rs, 63) := by kernel_rfl
theorem enter {args : List AVal} {h : Heap} {K : AEnd → Heap → Prop} (F : Nat) (hl : args.length ≤ 63) (a : AW ⟨Pg, F, 63, false, []⟩ ir (RetK rs K) (initT args) [] h) : ACalls Pg fn_slices_stableCmpFunc_api_AgainWork args h K :=
  ACalls.of_comp follows Tryz.func116 comp hl a
theorem pure {args : List AVal} {v : AVal} (hl : args.length ≤ 63) (a : AW ⟨Pg, 0, 63, false, []⟩ ir (RetK rs fun e _ => e = .ret v) (initT args) [] nilH) : APure Pg fn_slices_stableCmpFunc_api_AgainWork args v :=
  APure.of_nil (enter 0 hl a)
end slices_stableCmpFunc_api_AgainWork

namespace ref01_truths
noncomputable def cfg : Cfg := { pure := pures, pcs := [], raw := [], cuts := [], draws := [(8, [⟨1, false, [], []⟩, ⟨3, false, [], []⟩, ⟨5, false, [], []⟩, ⟨8, false, [], []⟩, ⟨0, false, [], []⟩, ⟨2, true, [], []⟩, ⟨6, true, [], []⟩, ⟨4, false, [], [0]⟩, ⟨7, false, [], [0]⟩, ⟨9, false, [], []⟩, ⟨10, false, [], []⟩])], keep := [] }
@[simp] noncomputable def r0 (_ : Unit) : List Stp := [S 4 (.box (.t 0)), S 8 (.mv (.c .nils))]
@[simp] noncomputable def r1 (_ : Unit) : List Stp := [S 10 (.mv (.t 2)), S 11 (.len (.t 10)), S 12 (.fAddr 0 (.t 4)), S 13 (.load false 1 (.t 12)), S 14 (.len (.t 13)), S 15 (.bin .eql (.t 11) (.t 14))]
@[simp] noncomputable def r2 (_ : Unit) : List Stp := [S 16 (.load true 2 (.t 4)), S 17 (.mv (.t 2)), S 18 (.mv (.t 1)), SP 19 (.call (.c (.func (.func fn_ref01_right) [] [])) [(.t 16), (.t 17), (.t 18)])]
@[simp] noncomputable def r3 (_ : Unit) : List Stp := [S 20 (.mv (.t 3)), S 21 (.mv (.t 2)), S 22 (.bsl 1 [.nils] [(0, 1, (.t 21))]), S 23 (.app 1 24 (.t 20) (.t 22)), S 3 (.mv (.t 23))]
@[simp] noncomputable def r4 (_ : Unit) : List Stp := [S 24 (.mv (.t 3)), S 8 (.mv (.t 24))]
@[simp] noncomputable def r5 (_ : Unit) : List Stp := [S 9 (.mv (.c (.int .i64 0)))]
@[simp] noncomputable def r6 (_ : Unit) : List Stp := [S 25 (.mv (.t 9)), S 26 (.fAddr 0 (.t 4)), S 27 (.load false 1 (.t 26)), S 28 (.mv (.t 2)), S 29 (.len (.t 28)), S 30 (.ixS 3 (.t 27) (.t 29)), S 31 (.fAddr 2 (.t 30)), S 32 (.load false 1 (.t 31)), S 33 (.bin .leq (.t 25) (.t 32))]
@[simp] noncomputable def r8 (_ : Unit) : List Stp := [S 37 (.mv (.t 1)), S 39 (.mv (.t 2)), S 41 (.mv (.t 9)), S 44 (.mv (.t 3)), S 36 (.load true 2 (.t 4)), SD (some 38) (.bsl 0 [] []) true [] [], SD (some 42) (.bsl 1 [(.int .i64 0)] [(0, 1, (.t 41))]) true [] [], SD (some 40) (.app 1 8 (.t 38) (.t 39)) false [] [I 36 (.load true 2 (.t 4))], SD (some 43) (.app 1 8 (.t 40) (.t 42)) false [] [I 36 (.load true 2 (.t 4))], S 45 (.call (.c (.func (.func fn_ref01_truths) [] [])) [(.t 36), (.t 37), (.t 43), (.t 44)]), S 3 (.mv (.t 45))]
@[simp] noncomputable def r7 (_ : Unit) : List Stp := [S 34 (.mv (.t 9)), S 35 (.bin .add (.t 34) (.c (.int .i64 1))), S 9 (.mv (.t 35))]
@[simp] noncomputable def r9 (_ : Unit) : List Stp := [S 46 (.mv (.t 3)), S 8 (.mv (.t 46))]
@[simp] noncomputable def ir : IR := (.seq (.ops r0) (.seq (.seq (.ops r1) (.cond (.t 15) (.seq (.seq (.ops r2) (.cond (.t 19) (.ops r3) .skip)) (.seq (.ops r4) .ret)) .skip)) (.seq (.seq (.ops r5) (.block 0 (.loop (.seq (.seq (.ops r6) (.cond (.t 33) .skip (.exit 0))) (.seq (.block 1 (.ops r8)) (.ops r7)))))) (.seq (.ops r9) .ret))))
@[simp] noncomputable def rs : List RV := [.tmp 8]
theorem comp : compF Pg cfg Tryz.f117 = some (ir, rs, 47) := by kernel_rfl
theorem enter {args : List AVal} {h : Heap} {K : AEnd → Heap → Prop} (F : Nat) (hl : args.length ≤ 47) (a : AW ⟨Pg, F, 47, false, []⟩ ir (RetK rs K) (initT args) [] h) : ACalls Pg fn_ref01_truths args h K :=
  ACalls.of_comp follows Tryz.func117 comp hl a
theorem pure {args : List AVal} {v : AVal} (hl : args.length ≤ 47) (a : AW ⟨Pg, 0, 47, false, []⟩ ir (RetK rs fun e _ => e = .ret v) (initT args) [] nilH) : APure Pg fn_ref01_truths args v :=
  APure.of_nil (enter 0 hl a)
end ref01_truths

namespace ref01_every
noncomputable def cfg : Cfg := { pure := pures, pcs := [], raw := [], cuts := [], draws := [], keep := [] }
@[simp] noncomputable def r0 (_ : Unit) : List Stp := [S 1 (.box (.t 0)), S 2 (.mv (.c (.int .i64 0)))]
@[simp] noncomputable def r1 (_ : Unit) : List Stp := [S 3 (.fAddr 1 (.t 1)), S 4 (.load false 1 (.t 3)), S 5 (.len (.t 4)), SP 6 (.call (.c (.func (.func fn_ref01_power) [] [])) [(.t 5)]), S 7 (.bin .sub (.t 6) (.c (.int .i64 1))), S 2 (.mv (.t 7))]
@[simp] noncomputable def ir : IR := (.seq (.ops r0) (.seq (.ops r1) .ret))
@[simp] noncomputable def rs : List RV := [.tmp 2]
theorem comp : compF Pg cfg Tryz.f118 = some (ir, rs, 8) := by kernel_rfl
theorem enter {args : List AVal} {h : Heap} {K : AEnd → Heap → Prop} (F : Nat) (hl : args.length ≤ 8) (a : AW ⟨Pg, F, 8, false, []⟩ ir (RetK rs K) (initT args) [] h) : ACalls Pg fn_ref01_every args h K :=
  ACalls.of_comp follows Tryz.func118 comp hl a
theorem pure {args : List AVal} {v : AVal} (hl : args.length ≤ 8) (a : AW ⟨Pg, 0, 8, false, []⟩ ir (RetK rs fun e _ => e = .ret v) (initT args) [] nilH) : APure Pg fn_ref01_every args v :=
  APure.of_nil (enter 0 hl a)
end ref01_every

namespace slices_Collect_leak_inflow
noncomputable def cfg : Cfg := { pure := pures, pcs := [], raw := [], cuts := [], draws := [], keep := [] }
@[simp] noncomputable def r0 (_ : Unit) : List Stp := [S 2 (.mv (.c .nils))]
@[simp] noncomputable def r1 (_ : Unit) : List Stp := [S 3 (.mv (.t 0)), S 4 (.call (.c (.func (.func fn_slices_AppendSeq_leak_inflow_leak_inflow) [] [])) [(.c .nils), (.t 3)]), S 2 (.mv (.t 4))]
@[simp] noncomputable def ir : IR := (.seq (.ops r0) (.seq (.ops r1) .ret))
@[simp] noncomputable def rs : List RV := [.tmp 2]
theorem comp : compF Pg cfg Tryz.f119 = some (ir, rs, 5) := by kernel_rfl
theorem enter {args : List AVal} {h : Heap} {K : AEnd → Heap → Prop} (F : Nat) (hl : args.length ≤ 5) (a : AW ⟨Pg, F, 5, false, []⟩ ir (RetK rs K) (initT args) [] h) : ACalls Pg fn_slices_Collect_leak_inflow args h K :=
  ACalls.of_comp follows Tryz.func119 comp hl a
theorem pure {args : List AVal} {v : AVal} (hl : args.length ≤ 5) (a : AW ⟨Pg, 0, 5, false, []⟩ ir (RetK rs fun e _ => e = .ret v) (initT args) [] nilH) : APure Pg fn_slices_Collect_leak_inflow args v :=
  APure.of_nil (enter 0 hl a)
end slices_Collect_leak_inflow

namespace leak_hull_inflows
noncomputable def cfg : Cfg := { pure := pures, pcs := [], raw := [], cuts := [], draws := [], keep := [] }
@[simp] noncomputable def r0 (_ : Unit) : List Stp := [S 2 (.box (.t 0)), S 4 (.mv (.c .nilf))]
@[simp] noncomputable def r1 (_ : Unit) : List Stp := [S 6 (.load false 1 (.t 2)), S 7 (.mv (.t 1)), S 8 (.call (.c (.func (.func fn_leak_hull_conditions) [] [])) [(.t 6), (.t 7)]), S 5 (.alloc [.nils]), SN (.store 1 (.t 5) (.t 8))]
@[simp] noncomputable def r2 (_ : Unit) : List Stp := [S 9 (.mkF (.func fn_leak_hull_inflows_1) [] [(.t 2), (.t 5)]), S 4 (.mv (.t 9))]
@[simp] noncomputable def ir : IR := (.seq (.ops r0) (.seq (.ops r1) (.seq (.ops r2) .ret)))
@[simp] noncomputable def rs : List RV := [.tmp 4]
theorem comp : compF Pg cfg Tryz.f120 = some (ir, rs, 10) := by kernel_rfl
theorem enter {args : List AVal} {h : Heap} {K : AEnd → Heap → Prop} (F : Nat) (hl : args.length ≤ 10) (a : AW ⟨Pg, F, 10, false, []⟩ ir (RetK rs K) (initT args) [] h) : ACalls Pg fn_leak_hull_inflows args h K :=
  ACalls.of_comp follows Tryz.func120 comp hl a
theorem pure {args : List AVal} {v : AVal} (hl : args.length ≤ 10) (a : AW ⟨Pg, 0, 10, false, []⟩ ir (RetK rs fun e _ => e = .ret v) (initT args) [] nilH) : APure Pg fn_leak_hull_inflows args v :=
  APure.of_nil (enter 0 hl a)
end leak_hull_inflows

namespace leak_hull_every
noncomputable def cfg : Cfg := { pure := pures, pcs := [], raw := [], cuts := [], draws := [], keep := [] }
@[simp] noncomputable def r0 (_ : Unit) : List Stp := [S 2 (.mv (.c (.int .u64 0)))]
@[simp] noncomputable def r1 (_ : Unit) : List Stp := [S 3 (.mv (.t 0)), S 4 (.nilck Pg (.t 3)), S 5 (.fAddr 0 (.t 4)), S 6 (.fAddr 1 (.t 5)), S 7 (.load false 1 (.t 6)), S 8 (.len (.t 7)), S 9 (.bin .shl (.c (.int .u64 1)) (.t 8)), S 10 (.bin .sub (.t 9) (.c (.int .u64 1))), S 2 (.mv (.t 10))]
@[simp] noncomputable def ir : IR := (.seq (.ops r0) (.seq (.ops r1) .ret))
@[simp] noncomputable def rs : List RV := [.tmp 2]
theorem comp : compF Pg cfg Tryz.f121 = some (ir, rs, 11) := by kernel_rfl
theorem enter {args : List AVal} {h : Heap} {K : AEnd → Heap → Prop} (F : Nat) (hl : args.length ≤ 11) (a : AW ⟨Pg, F, 11, false, []⟩ ir (RetK rs K) (initT args) [] h) : ACalls Pg fn_leak_hull_every args h K :=
  ACalls.of_comp follows Tryz.func121 comp hl a
theorem pure {args : List AVal} {v : AVal} (hl : args.length ≤ 11) (a : AW ⟨Pg, 0, 11, false, []⟩ ir (RetK rs fun e _ => e = .ret v) (initT args) [] nilH) : APure Pg fn_leak_hull_every args v :=
  APure.of_nil (enter 0 hl a)
end leak_hull_every

namespace slices_pdqsortOrdered_int
noncomputable def cfg : Cfg := { pure := pures, pcs := [], raw := [], cuts := [], draws := [(17, [⟨0, false, [], []⟩, ⟨1, false, [], []⟩, ⟨2, false, [], []⟩, ⟨3, false, [], []⟩, ⟨4, false, [], []⟩, ⟨5, false, [], []⟩, ⟨6, false, [], []⟩, ⟨8, false, [], []⟩, ⟨9, false, [], []⟩, ⟨10, false, [], []⟩, ⟨7, false, [], []⟩, ⟨11, false, [], []⟩, ⟨12, false, [], []⟩, ⟨13, false, [], []⟩, ⟨14, false, [], []⟩])], keep := [] }
@[simp] noncomputable def r0 (_ : Unit) : List Stp := [S 8 (.mv (.c (.bool true)))]
@[simp] noncomputable def r1 (_ : Unit) : List Stp := [S 9 (.mv (.c (.bool true)))]
@[simp] noncomputable def r2 (_ : Unit) : List Stp := [S 19 (.mv (.t 2)), S 20 (.mv (.t 1)), S 21 (.bin .sub (.t 19) (.t 20)), S 10 (.mv (.t 21))]
@[simp] noncomputable def r3 (_ : Unit) : List Stp := [S 22 (.mv (.t 10)), S 23 (.bin .leq (.t 22) (.c (.int .i64 12)))]
@[simp] noncomputable def r4 (_ : Unit) : List Stp := [S 24 (.mv (.t 0)), S 25 (.mv (.t 1)), S 26 (.mv (.t 2)), S 27 (.call (.c (.func (.func fn_slices_insertionSortOrdered_int) [] [])) [(.t 24), (.t 25), (.t 26)])]
@[simp] noncomputable def r5 (_ : Unit) : List Stp := [S 28 (.mv (.t 3)), S 29 (.bin .eql (.t 28) (.c (.int .i64 0)))]
@[simp] noncomputable def r6 (_ : Unit) : List Stp := [S 30 (.mv (.t 0)), S 31 (.mv (.t 1)), S 32 (.mv (.t 2)), S 33 (.call (.c (.func (.func fn_slices_heapSortOrdered_int) [] [])) [(.t 30), (.t 31), (.t 32)])]
@[simp] noncomputable def r7 (_ : Unit) : List Stp := [S 34 (.mv (.t 8)), S 35 (.un .not (.t 34))]
@[simp] noncomputable def r8 (_ : Unit) : List Stp := [S 36 (.mv (.t 0)), S 37 (.mv (.t 1)), S 38 (.mv (.t 2)), S 39 (.call (.c (.func (.func fn_slices_breakPatternsOrdered_int) [] [])) [(.t 36), (.t 37), (.t 38)])]
@[simp] noncomputable def r9 (_ : Unit) : List Stp := [S 40 (.mv (.t 3)), S 41 (.bin .sub (.t 40) (.c (.int .i64 1))), S 3 (.mv (.t 41))]
@[simp] noncomputable def r10 (_ : Unit) : List Stp := [S 43 (.mv (.t 0)), S 44 (.mv (.t 1)), S 45 (.mv (.t 2)), S 46 (.call (.c (.func (.func fn_slices_choosePivotOrdered_int) [] [])) [(.t 43), (.t 44), (.t 45)]), S 42 (.mv (.t 46)), S 47 (.ext (.t 42) 0), S 48 (.ext (.t 42) 1), S 11 (.mv (.t 47)), S 12 (.mv (.t 48))]
@[simp] noncomputable def r11 (_ : Unit) : List Stp := [S 49 (.mv (.t 12)), S 50 (.bin .eql (.t 49) (.c (.int .i64 2)))]
@[simp] noncomputable def r12 (_ : Unit) : List Stp := [S 51 (.mv (.t 0)), S 52 (.mv (.t 1)), S 53 (.mv (.t 2)), S 54 (.call (.c (.func (.func fn_slices_reverseRangeOrdered_int) [] [])) [(.t 51), (.t 52), (.t 53)])]
@[simp] noncomputable def r13 (_ : Unit) : List Stp := [S 55 (.mv (.t 2)), S 56 (.bin .sub (.t 55) (.c (.int .i64 1))), S 57 (.mv (.t 11)), S 58 (.mv (.t 1)), S 59 (.bin .sub (.t 57) (.t 58)), S 60 (.bin .sub (.t 56) (.t 59)), S 11 (.mv (.t 60))]
@[simp] noncomputable def r14 (_ : Unit) : List Stp := [S 12 (.mv (.c (.int .i64 1)))]
@[simp] noncomputable def r15 (_ : Unit) : List Stp := [S 61 (.mv (.t 8)), S 62 (.mv (.t 61)), SG 63 62 true (.mv (.t 9)), S 64 (.pick (.t 62) (.t 63) (.c (.bool false))), S 65 (.mv (.t 64)), SG 66 65 true (.mv (.t 12)), SG 67 65 true (.bin .eql (.t 66) (.c (.int .i64 1))), S 68 (.pick (.t 65) (.t 67) (.c (.bool false)))]
@[simp] noncomputable def r16 (_ : Unit) : List Stp := [S 69 (.mv (.t 0)), S 70 (.mv (.t 1)), S 71 (.mv (.t 2)), S 72 (.call (.c (.func (.func fn_slices_partialInsertionSortOrdered_int) [] [])) [(.t 69), (.t 70), (.t 71)])]
@[simp] noncomputable def r17 (_ : Unit) : List Stp := [S 73 (.mv (.t 1)), S 74 (.bin .gtr (.t 73) (.c (.int .i64 0))), S 75 (.mv (.t 74)), SG 76 75 true (.mv (.t 0)), SG 77 75 true (.mv (.t 1)), SG 78 75 true (.bin .sub (.t 77) (.c (.int .i64 1))), SG 79 75 true (.ixS 1 (.t 76) (.t 78)), SG 81 75 true (.mv (.t 0)), SG 82 75 true (.mv (.t 11)), SG 83 75 true (.ixS 1 (.t 81) (.t 82)), SG 80 75 true (.load false 1 (.t 79)), SG 84 75 true (.load false 1 (.t 83)), SG 85 75 true (.call (.c (.func (.func fn_cmp_Less_int) [] [])) [(.t 80), (.t 84)]), SG 86 75 true (.un .not (.t 85)), S 87 (.pick (.t 75) (.t 86) (.c (.bool false)))]
@[simp] noncomputable def r18 (_ : Unit) : List Stp := [S 88 (.mv (.t 0)), S 89 (.mv (.t 1)), S 90 (.mv (.t 2)), S 91 (.mv (.t 11)), S 92 (.call (.c (.func (.func fn_slices_partitionEqualOrdered_int) [] [])) [(.t 88), (.t 89), (.t 90), (.t 91)]), S 13 (.mv (.t 92))]
@[simp] noncomputable def r19 (_ : Unit) : List Stp := [S 93 (.mv (.t 13)), S 1 (.mv (.t 93))]
@[simp] noncomputable def r20 (_ : Unit) : List Stp := [S 95 (.mv (.t 0)), S 96 (.mv (.t 1)), S 97 (.mv (.t 2)), S 98 (.mv (.t 11)), S 99 (.call (.c (.func (.func fn_slices_partitionOrdered_int) [] [])) [(.t 95), (.t 96), (.t 97), (.t 98)]), S 94 (.mv (.t 99)), S 100 (.ext (.t 94) 0), S 101 (.ext (.t 94) 1), S 14 (.mv (.t 100)), S 15 (.mv (.t 101))]
@[simp] noncomputable def r21 (_ : Unit) : List Stp := [S 102 (.mv (.t 15)), S 9 (.mv (.t 102))]
@[simp] noncomputable def r22 (_ : Unit) : List Stp := [S 103 (.mv (.t 14)), S 104 (.mv (.t 1)), S 105 (.bin .sub (.t 103) (.t 104)), S 106 (.mv (.t 2)), S 107 (.mv (.t 14)), S 108 (.bin .sub (.t 106) (.t 107)), S 16 (.mv (.t 105)), S 17 (.mv (.t 108))]
@[simp] noncomputable def r23 (_ : Unit) : List Stp := [S 109 (.mv (.t 10)), S 110 (.bin .quo (.t 109) (.c (.int .i64 8))), S 18 (.mv (.t 110))]
@[simp] noncomputable def r24 (_ : Unit) : List Stp := [S 111 (.mv (.t 16)), S 112 (.mv (.t 17)), S 113 (.bin .lss (.t 111) (.t 112))]
@[simp] noncomputable def r25 (_ : Unit) : List Stp := [S 114 (.mv (.t 16)), S 115 (.mv (.t 18)), S 116 (.bin .geq (.t 114) (.t 115)), S 8 (.mv (.t 116))]
@[simp] noncomputable def r26 (_ : Unit) : List Stp := [S 117 (.mv (.t 0)), S 118 (.mv (.t 1)), S 119 (.mv (.t 14)), S 120 (.mv (.t 3)), S 121 (.call (.c (.func (.func fn_slices_pdqsortOrdered_int) [] [])) [(.t 117), (.t 118), (.t 119), (.t 120)])]
@[simp] noncomputable def r27 (_ : Unit) : List Stp := [S 122 (.mv (.t 14)), S 123 (.bin .add (.t 122) (.c (.int .i64 1))), S 1 (.mv (.t 123))]
@[simp] noncomputable def r28 (_ : Unit) : List Stp := [S 124 (.mv (.t 17)), S 125 (.mv (.t 18)), S 126 (.bin .geq (.t 124) (.t 125)), S 8 (.mv (.t 126))]
@[simp] noncomputable def r29 (_ : Unit) : List Stp := [S 127 (.mv (.t 0)), S 128 (.mv (.t 14)), S 129 (.bin .add (.t 128) (.c (.int .i64 1))), S 130 (.mv (.t 2)), S 131 (.mv (.t 3)), S 132 (.call (.c (.func (.func fn_slices_pdqsortOrdered_int) [] [])) [(.t 127), (.t 129), (.t 130), (.t 131)])]
@[simp] noncomputable def r30 (_ : Unit) : List Stp := [S 133 (.mv (.t 14)), S 2 (.mv (.t 133))]
@[simp] noncomputable def ir : IR := (.seq (.ops r0) (.seq (.ops r1) (.block 0 (.loop (.block 1 (.seq (.ops r2) (.seq (.seq (.ops r3) (.cond (.t 23) (.seq (.ops r4) .ret) .skip)) (.seq (.seq (.ops r5) (.cond (.t 29) (.seq (.ops r6) .ret) .skip)) (.seq (.seq (.ops r7) (.cond (.t 35) (.seq (.ops r8) (.ops r9)) .skip)) (.seq (.ops r10) (.seq (.seq (.ops r11) (.cond (.t 50) (.seq (.ops r12) (.seq (.ops r13) (.ops r14))) .skip)) (.seq (.seq (.ops r15) (.cond (.t 68) (.seq (.ops r16) (.cond (.t 72) .ret .skip)) .skip)) (.seq (.seq (.ops r17) (.cond (.t 87) (.seq (.ops r18) (.seq (.ops r19) (.exit 1))) .skip)) (.seq (.ops r20) (.seq (.ops r21) (.seq (.ops r22) (.seq (.ops r23) (.seq (.ops r24) (.cond (.t 113) (.seq (.ops r25) (.seq (.ops r26) (.ops r27))) (.seq (.ops r28) (.seq (.ops r29) (.ops r30))))))))))))))))))))))
@[simp] noncomputable def rs : List RV := []
theorem comp : compF Pg cfg Tryz.f122 = some (ir, rs, 134) := by kernel_rfl
theorem enter {args : List AVal} {h : Heap} {K : AEnd → Heap → Prop} (F : Nat) (hl : args.length ≤ 134) (a : AW ⟨Pg, F, 134, false, []⟩ ir (RetK rs K) (initT args) [] h) : ACalls Pg fn_slices_pdqsortOrdered_int args h K :=
  ACalls.of_comp follows Tryz.func122 comp hl a
theorem pure {args : List AVal} {v : AVal} (hl : args.length ≤ 134) (a : AW ⟨Pg, 0, 134, false, []⟩ ir (RetK rs fun e _ => e = .ret v) (initT args) [] nilH) : APure Pg fn_slices_pdqsortOrdered_int args v :=
  APure.of_nil (enter 0 hl a)
end slices_pdqsortOrdered_int

namespace math_bits_Len
noncomputable def cfg : Cfg := { pure := pures, pcs := [], raw := [], cuts := [], draws := [], keep := [] }
@[simp] noncomputable def r0 (_ : Unit) : List Stp := [S 2 (.mv (.c (.int .i64 0)))]
@[simp] noncomputable def r1 (_ : Unit) : List Stp := [S 3 (.mv (.t 0)), S 4 (.conv .u32 (.t 3)), S 5 (.call (.c (.func (.func fn_math_bits_Len32) [] [])) [(.t 4)]), S 2 (.mv (.t 5))]
@[simp] noncomputable def r2 (_ : Unit) : List Stp := [S 6 (.mv (.t 0)), S 7 (.call (.c (.func (.func fn_math_bits_Len64) [] [])) [(.t 6)]), S 2 (.mv (.t 7))]
@[simp] noncomputable def ir : IR := (.seq (.ops r0) (.seq (.cond (.c (.bool false)) (.seq (.ops r1) .ret) .skip) (.seq (.ops r2) .ret)))
@[simp] noncomputable def rs : List RV := [.tmp 2]
theorem comp : compF Pg cfg Tryz.f123 = some (ir, rs, 8) := by kernel_rfl
theorem enter {args : List AVal} {h : Heap} {K : AEnd → Heap → Prop} (F : Nat) (hl : args.length ≤ 8) (a : AW ⟨Pg, F, 8, false, []⟩ ir (RetK rs K) (initT args) [] h) : ACalls Pg fn_math_bits_Len args h K :=
  ACalls.of_comp follows Tryz.func123 comp hl a
theorem pure {args : List AVal} {v : AVal} (hl : args.length ≤ 8) (a : AW ⟨Pg, 0, 8, false, []⟩ ir (RetK rs fun e _ => e = .ret v) (initT args) [] nilH) : APure Pg fn_math_bits_Len args v :=
  APure.of_nil (enter 0 hl a)
end math_bits_Len

namespace leak_set_has
noncomputable def cfg : Cfg := { pure := pures, pcs := [], raw := [], cuts := [], draws := [], keep := [] }
@[simp] noncomputable def r0 (_ : Unit) : List Stp := [S 4 (.mv (.c (.bool false)))]
@[simp] noncomputable def r1 (_ : Unit) : List Stp := [S 5 (.mv (.t 0)), S 6 (.mv (.t 1)), S 7 (.bin .shr (.t 5) (.t 6)), S 8 (.bin .and (.t 7) (.c (.int .u64 1))), S 9 (.bin .eql (.t 8) (.c (.int .u64 1))), S 4 (.mv (.t 9))]
@[simp] noncomputable def ir : IR := (.seq (.ops r0) (.seq (.ops r1) .ret))
@[simp] noncomputable def rs : List RV := [.tmp 4]
theorem comp : compF Pg cfg Tryz.f124 = some (ir, rs, 10) := by kernel_rfl
theorem enter {args : List AVal} {h : Heap} {K : AEnd → Heap → Prop} (F : Nat) (hl : args.length ≤ 10) (a : AW ⟨Pg, F, 10, false, []⟩ ir (RetK rs K) (initT args) [] h) : ACalls Pg fn_leak_set_has args h K :=
  ACalls.of_comp follows Tryz.func124 comp hl a
theorem pure {args : List AVal} {v : AVal} (hl : args.length ≤ 10) (a : AW ⟨Pg, 0, 10, false, []⟩ ir (RetK rs fun e _ => e = .ret v) (initT args) [] nilH) : APure Pg fn_leak_set_has args v :=
  APure.of_nil (enter 0 hl a)
end leak_set_has

namespace leak_flows
noncomputable def cfg : Cfg := { pure := pures, pcs := [], raw := [], cuts := [], draws := [], keep := [] }
@[simp] noncomputable def r0 (_ : Unit) : List Stp := [S 2 (.mv (.c (.int .i64 0)))]
@[simp] noncomputable def r1 (_ : Unit) : List Stp := [S 5 (.mv (.t 0)), S 6 (.len (.t 5)), S 7 (.mv (.c (.int .i64 0)))]
@[simp] noncomputable def r2 (_ : Unit) : List Stp := [S 8 (.bin .lss (.t 7) (.t 6))]
@[simp] noncomputable def r3 (_ : Unit) : List Stp := [S 9 (.ixS 1 (.t 5) (.t 7)), S 10 (.load false 1 (.t 9)), S 4 (.mv (.t 10))]
@[simp] noncomputable def r4 (_ : Unit) : List Stp := [S 11 (.mv (.t 2)), S 12 (.mv (.t 4)), S 13 (.bin .add (.t 11) (.t 12)), S 2 (.mv (.t 13))]
@[simp] noncomputable def r5 (_ : Unit) : List Stp := [S 14 (.bin .add (.t 7) (.c (.int .i64 1))), S 7 (.mv (.t 14))]
@[simp] noncomputable def r6 (_ : Unit) : List Stp := [S 15 (.mv (.t 2)), S 2 (.mv (.t 15))]
@[simp] noncomputable def ir : IR := (.seq (.ops r0) (.seq (.seq (.ops r1) (.block 0 (.loop (.seq (.ops r2) (.seq (.cond (.t 8) .skip (.exit 0)) (.seq (.block 1 (.seq (.ops r3) (.ops r4))) (.ops r5))))))) (.seq (.ops r6) .ret)))
@[simp] noncomputable def rs : List RV := [.tmp 2]
theorem comp : compF Pg cfg Tryz.f125 = some (ir, rs, 16) := by kernel_rfl
theorem enter {args : List AVal} {h : Heap} {K : AEnd → Heap → Prop} (F : Nat) (hl : args.length ≤ 16) (a : AW ⟨Pg, F, 16, false, []⟩ ir (RetK rs K) (initT args) [] h) : ACalls Pg fn_leak_flows args h K :=
  ACalls.of_comp follows Tryz.func125 comp hl a
theorem pure {args : List AVal} {v : AVal} (hl : args.length ≤ 16) (a : AW ⟨Pg, 0, 16, false, []⟩ ir (RetK rs fun e _ => e = .ret v) (initT args) [] nilH) : APure Pg fn_leak_flows args v :=
  APure.of_nil (enter 0 hl a)
end leak_flows

namespace leak_Rate_1
noncomputable def cfg : Cfg := { pure := pures, pcs := [], raw := [], cuts := [], draws := [], keep := [] }
@[simp] noncomputable def r0 (_ : Unit) : List Stp := [S 1 (.recov), S 2 (.call (.c (.func (.func fn_leak_said) [] [])) [(.t 1), (.t 0)])]
@[simp] noncomputable def ir : IR := (.ops r0)
@[simp] noncomputable def rs : List RV := []
theorem comp : compF Pg cfg Tryz.f126 = some (ir, rs, 3) := by kernel_rfl
theorem enter {args : List AVal} {h : Heap} {K : AEnd → Heap → Prop} (F : Nat) (hl : args.length ≤ 3) (a : AW ⟨Pg, F, 3, false, []⟩ ir (RetK rs K) (initT args) [] h) : ACalls Pg fn_leak_Rate_1 args h K :=
  ACalls.of_comp follows Tryz.func126 comp hl a
theorem pure {args : List AVal} {v : AVal} (hl : args.length ≤ 3) (a : AW ⟨Pg, 0, 3, false, []⟩ ir (RetK rs fun e _ => e = .ret v) (initT args) [] nilH) : APure Pg fn_leak_Rate_1 args v :=
  APure.of_nil (enter 0 hl a)
theorem recClo : RecClo Pg fn_leak_Rate_1 fn_leak_said := ⟨_, Tryz.func126, by kernel_rfl⟩
end leak_Rate_1

namespace slices_IndexFunc_int_int
noncomputable def cfg : Cfg := { pure := pures, pcs := [], raw := [], cuts := [], draws := [], keep := [] }
@[simp] noncomputable def r0 (_ : Unit) : List Stp := [S 4 (.mv (.c (.int .i64 0)))]
@[simp] noncomputable def r1 (_ : Unit) : List Stp := [S 6 (.mv (.t 0)), S 7 (.len (.t 6)), S 8 (.mv (.c (.int .i64 0)))]
@[simp] noncomputable def r2 (_ : Unit) : List Stp := [S 9 (.bin .lss (.t 8) (.t 7))]
@[simp] noncomputable def r3 (_ : Unit) : List Stp := [S 10 (.mv (.t 8)), S 5 (.mv (.t 10))]
@[simp] noncomputable def r4 (_ : Unit) : List Stp := [S 11 (.mv (.t 1)), S 12 (.mv (.t 0)), S 13 (.mv (.t 5)), S 14 (.ixS 1 (.t 12) (.t 13)), S 15 (.load false 1 (.t 14)), S 16 (.call (.t 11) [(.t 15)])]
@[simp] noncomputable def r5 (_ : Unit) : List Stp := [S 17 (.mv (.t 5)), S 4 (.mv (.t 17))]
@[simp] noncomputable def r6 (_ : Unit) : List Stp := [S 18 (.bin .add (.t 8) (.c (.int .i64 1))), S 8 (.mv (.t 18))]
@[simp] noncomputable def r7 (_ : Unit) : List Stp := [S 4 (.mv (.c (.int .i64 (-1))))]
@[simp] noncomputable def ir : IR := (.seq (.ops r0) (.seq (.seq (.ops r1) (.block 0 (.loop (.seq (.ops r2) (.seq (.cond (.t 9) .skip (.exit 0)) (.seq (.block 1 (.seq (.ops r3) (.seq (.ops r4) (.cond (.t 16) (.seq (.ops r5) .ret) .skip)))) (.ops r6))))))) (.seq (.ops r7) .ret)))
@[simp] noncomputable def rs : List RV := [.tmp 4]
theorem comp : compF Pg cfg Tryz.f127 = some (ir, rs, 19) := by kernel_rfl
theorem enter {args : List AVal} {h : Heap} {K : AEnd → Heap → Prop} (F : Nat) (hl : args.length ≤ 19) (a : AW ⟨Pg, F, 19, false, []⟩ ir (RetK rs K) (initT args) [] h) : ACalls Pg fn_slices_IndexFunc_int_int args h K :=
  ACalls.of_comp follows Tryz.func127 comp hl a
theorem pure {args : List AVal} {v : AVal} (hl : args.length ≤ 19) (a : AW ⟨Pg, 0, 19, false, []⟩ ir (RetK rs fun e _ => e = .ret v) (initT args) [] nilH) : APure Pg fn_slices_IndexFunc_int_int args v :=
  APure.of_nil (enter 0 hl a)
end slices_IndexFunc_int_int

namespace slices_insertionSortCmpFunc_api_AgainWork
noncomputable def cfg : Cfg := { pure := pures, pcs := [], raw := [], cuts := [], draws := [(4, [⟨0, false, [], []⟩, ⟨1, false, [], []⟩, ⟨2, false, [], []⟩, ⟨3, false, [], []⟩, ⟨4, false, [], []⟩, ⟨5, false, [], []⟩, ⟨6, false, [], []⟩, ⟨7, false, [], []⟩, ⟨9, false, [], []⟩, ⟨10, false, [], []⟩, ⟨11, false, [], []⟩, ⟨12, false, [], []⟩, ⟨8, false, [], []⟩, ⟨13, false, [], []⟩, ⟨14, false, [], []⟩, ⟨15, false, [], []⟩, ⟨16, false, [], []⟩]), (6, [⟨0, false, [], []⟩, ⟨1, false, [], []⟩, ⟨2, false, [], []⟩, ⟨3, false, [], []⟩, ⟨4, false, [], []⟩, ⟨5, false, [], []⟩, ⟨6, false, [], []⟩, ⟨7, false, [], []⟩, ⟨8, false, [], []⟩, ⟨10, false, [], []⟩, ⟨11, false, [], []⟩, ⟨12, false, [], []⟩, ⟨9, false, [], []⟩, ⟨13, false, [], []⟩, ⟨14, false, [], []⟩, ⟨15, false, [], []⟩, ⟨16, false, [], []⟩, ⟨17, false, [], []⟩])], keep := [] }
@[simp] noncomputable def r0 (_ : Unit) : List Stp := [S 10 (.mv (.t 1)), S 11 (.bin .add (.t 10) (.c (.int .i64 1))), S 8 (.mv (.t 11))]
@[simp] noncomputable def r1 (_ : Unit) : List Stp := [S 12 (.mv (.t 8)), S 13 (.mv (.t 2)), S 14 (.bin .lss (.t 12) (.t 13))]
@[simp] noncomputable def r3 (_ : Unit) : List Stp := [S 17 (.mv (.t 8)), S 9 (.mv (.t 17))]
@[simp] noncomputable def r4 (_ : Unit) : List Stp := [S 18 (.mv (.t 9)), S 19 (.mv (.t 1)), S 20 (.bin .gtr (.t 18) (.t 19)), S 21 (.mv (.t 20)), SG 22 21 true (.mv (.t 3)), SG 23 21 true (.mv (.t 0)), SG 24 21 true (.mv (.t 9)), SG 25 21 true (.ixS 3 (.t 23) (.t 24)), SG 27 21 true (.mv (.t 0)), SG 28 21 true (.mv (.t 9)), SG 29 21 true (.bin .sub (.t 28) (.c (.int .i64 1))), SG 30 21 true (.ixS 3 (.t 27) (.t 29)), SG 26 21 true (.load true 3 (.t 25)), SG 31 21 true (.load true 3 (.t 30)), SG 32 21 true (.call (.t 22) [(.t 26), (.t 31)]), SG 33 21 true (.bin .lss (.t 32) (.c (.int .i64 0))), S 34 (.pick (.t 21) (.t 33) (.c (.bool false)))]
@[simp] noncomputable def r6 (_ : Unit) : List Stp := [S 37 (.mv (.t 0)), S 38 (.mv (.t 9)), S 39 (.mv (.t 0)), S 40 (.mv (.t 9)), S 41 (.bin .sub (.t 40) (.c (.int .i64 1))), S 42 (.mv (.t 0)), S 43 (.mv (.t 9)), S 44 (.bin .sub (.t 43) (.c (.int .i64 1))), S 45 (.ixS 3 (.t 42) (.t 44)), S 47 (.mv (.t 0)), S 48 (.mv (.t 9)), S 49 (.ixS 3 (.t 47) (.t 48)), S 46 (.load true 3 (.t 45)), S 50 (.load true 3 (.t 49)), S 51 (.ixS 3 (.t 37) (.t 38)), SN (.store 3 (.t 51) (.t 46)), S 52 (.ixS 3 (.t 39) (.t 41)), SN (.store 3 (.t 52) (.t 50))]
@[simp] noncomputable def r5 (_ : Unit) : List Stp := [S 35 (.mv (.t 9)), S 36 (.bin .sub (.t 35) (.c (.int .i64 1))), S 9 (.mv (.t 36))]
@[simp] noncomputable def r2 (_ : Unit) : List Stp := [S 15 (.mv (.t 8)), S 16 (.bin .add (.t 15) (.c (.int .i64 1))), S 8 (.mv (.t 16))]
@[simp] noncomputable def ir : IR := (.seq (.ops r0) (.block 0 (.loop (.seq (.seq (.ops r1) (.cond (.t 14) .skip (.exit 0))) (.seq (.block 1 (.seq (.ops r3) (.block 2 (.loop (.seq (.seq (.ops r4) (.cond (.t 34) .skip (.exit 2))) (.seq (.block 3 (.ops r6)) (.ops r5))))))) (.ops r2))))))
@[simp] noncomputable def rs : List RV := []
theorem comp : compF Pg cfg Tryz.f128 = some (ir, rs, 53) := by kernel_rfl
theorem enter {args : List AVal} {h : Heap} {K : AEnd → Heap → Prop} (F : Nat) (hl : args.length ≤ 53) (a : AW ⟨Pg, F, 53, false, []⟩ ir (RetK rs K) (initT args) [] h) : ACalls Pg fn_slices_insertionSortCmpFunc_api_AgainWork args h K :=
  ACalls.of_comp follows Tryz.func128 comp hl a
theorem pure {args : List AVal} {v : AVal} (hl : args.length ≤ 53) (a : AW ⟨Pg, 0, 53, false, []⟩ ir (RetK rs fun e _ => e = .ret v) (initT args) [] nilH) : APure Pg fn_slices_insertionSortCmpFunc_api_AgainWork args v :=
  APure.of_nil (enter 0 hl a)
end slices_insertionSortCmpFunc_api_AgainWork

namespace slices_symMergeCmpFunc_api_AgainWork
noncomputable def cfg : Cfg := { pure := pures, pcs := [], raw := [], cuts := [], draws := [(5, [⟨0, false, [], []⟩, ⟨1, false, [], []⟩, ⟨2, false, [], []⟩, ⟨3, false, [], []⟩, ⟨5, false, [], []⟩, ⟨6, false, [], []⟩, ⟨7, false, [], []⟩, ⟨4, false, [], []⟩, ⟨8, false, [], []⟩, ⟨9, false, [], []⟩, ⟨10, false, [], []⟩]), (11, [⟨0, false, [], []⟩, ⟨1, false, [], []⟩, ⟨2, false, [], []⟩, ⟨3, false, [], []⟩, ⟨4, false, [], []⟩, ⟨5, false, [], []⟩, ⟨6, false, [], []⟩, ⟨7, false, [], []⟩, ⟨8, false, [], []⟩, ⟨10, false, [], []⟩, ⟨11, false, [], []⟩, ⟨12, false, [], []⟩, ⟨9, false, [], []⟩, ⟨13, false, [], []⟩, ⟨14, false, [], []⟩, ⟨15, false, [], []⟩, ⟨16, false, [], []⟩, ⟨17, false, [], []⟩]), (17, [⟨0, false, [], []⟩, ⟨1, false, [], []⟩, ⟨2, false, [], []⟩, ⟨3, false, [], []⟩, ⟨5, false, [], []⟩, ⟨6, false, [], []⟩, ⟨7, false, [], []⟩, ⟨4, false, [], []⟩, ⟨8, false, [], []⟩, ⟨9, false, [], []⟩, ⟨10, false, [], []⟩, ⟨11, false, [], []⟩]), (23, [⟨0, false, [], []⟩, ⟨1, false, [], []⟩, ⟨2, false, [], []⟩, ⟨3, false, [], []⟩, ⟨4, false, [], []⟩, ⟨5, false, [], []⟩, ⟨6, false, [], []⟩, ⟨7, false, [], []⟩, ⟨8, false, [], []⟩, ⟨10, false, [], []⟩, ⟨11, false, [], []⟩, ⟨12, false, [], []⟩, ⟨9, false, [], []⟩, ⟨13, false, [], []⟩, ⟨14, false, [], []⟩, ⟨15, false, [], []⟩, ⟨16, false, [], []⟩, ⟨17, false, [], []⟩]), (35, [⟨0, false, [], []⟩, ⟨1, false, [], []⟩, ⟨2, false, [], []⟩, ⟨3, false, [], []⟩, ⟨4, false, [], []⟩, ⟨5, false, [], []⟩, ⟨7, false, [], []⟩, ⟨8, false, [], []⟩, ⟨9, false, [], []⟩, ⟨6, false, [], []⟩, ⟨10, false, [], []⟩, ⟨11, false, [], []⟩, ⟨12, false, [], []⟩, ⟨13, false, [], []⟩])], keep := [] }
@[simp] noncomputable def r0 (_ : Unit) : List Stp := [S 25 (.mv (.t 2)), S 26 (.mv (.t 1)), S 27 (.bin .sub (.t 25) (.t 26)), S 28 (.bin .eql (.t 27) (.c (.int .i64 1)))]
@[simp] noncomputable def r1 (_ : Unit) : List Stp := [S 29 (.mv (.t 2)), S 10 (.mv (.t 29))]
@[simp] noncomputable def r2 (_ : Unit) : List Stp := [S 30 (.mv (.t 3)), S 11 (.mv (.t 30))]
@[simp] noncomputable def r3 (_ : Unit) : List Stp := [S 31 (.mv (.t 10)), S 32 (.mv (.t 11)), S 33 (.bin .lss (.t 31) (.t 32))]
@[simp] noncomputable def r4 (_ : Unit) : List Stp := [S 34 (.mv (.t 10)), S 35 (.mv (.t 11)), S 36 (.bin .add (.t 34) (.t 35)), S 37 (.conv .u64 (.t 36)), S 38 (.bin .shr (.t 37) (.c (.int .u64 1))), S 39 (.conv .i64 (.t 38)), S 12 (.mv (.t 39))]
@[simp] noncomputable def r5 (_ : Unit) : List Stp := [S 40 (.mv (.t 4)), S 41 (.mv (.t 0)), S 42 (.mv (.t 12)), S 43 (.ixS 3 (.t 41) (.t 42)), S 45 (.mv (.t 0)), S 46 (.mv (.t 1)), S 47 (.ixS 3 (.t 45) (.t 46)), S 44 (.load true 3 (.t 43)), S 48 (.load true 3 (.t 47)), S 49 (.call (.t 40) [(.t 44), (.t 48)]), S 50 (.bin .lss (.t 49) (.c (.int .i64 0)))]
@[simp] noncomputable def r6 (_ : Unit) : List Stp := [S 51 (.mv (.t 12)), S 52 (.bin .add (.t 51) (.c (.int .i64 1))), S 10 (.mv (.t 52))]
@[simp] noncomputable def r7 (_ : Unit) : List Stp := [S 53 (.mv (.t 12)), S 11 (.mv (.t 53))]
@[simp] noncomputable def r8 (_ : Unit) : List Stp := [S 54 (.mv (.t 1)), S 13 (.mv (.t 54))]
@[simp] noncomputable def r9 (_ : Unit) : List Stp := [S 55 (.mv (.t 13)), S 56 (.mv (.t 10)), S 57 (.bin .sub (.t 56) (.c (.int .i64 1))), S 58 (.bin .lss (.t 55) (.t 57))]
@[simp] noncomputable def r11 (_ : Unit) : List Stp := [S 61 (.mv (.t 0)), S 62 (.mv (.t 13)), S 63 (.mv (.t 0)), S 64 (.mv (.t 13)), S 65 (.bin .add (.t 64) (.c (.int .i64 1))), S 66 (.mv (.t 0)), S 67 (.mv (.t 13)), S 68 (.bin .add (.t 67) (.c (.int .i64 1))), S 69 (.ixS 3 (.t 66) (.t 68)), S 71 (.mv (.t 0)), S 72 (.mv (.t 13)), S 73 (.ixS 3 (.t 71) (.t 72)), S 70 (.load true 3 (.t 69)), S 74 (.load true 3 (.t 73)), S 75 (.ixS 3 (.t 61) (.t 62)), SN (.store 3 (.t 75) (.t 70)), S 76 (.ixS 3 (.t 63) (.t 65)), SN (.store 3 (.t 76) (.t 74))]
@[simp] noncomputable def r10 (_ : Unit) : List Stp := [S 59 (.mv (.t 13)), S 60 (.bin .add (.t 59) (.c (.int .i64 1))), S 13 (.mv (.t 60))]
@[simp] noncomputable def r12 (_ : Unit) : List Stp := [S 77 (.mv (.t 3)), S 78 (.mv (.t 2)), S 79 (.bin .sub (.t 77) (.t 78)), S 80 (.bin .eql (.t 79) (.c (.int .i64 1)))]
@[simp] noncomputable def r13 (_ : Unit) : List Stp := [S 81 (.mv (.t 1)), S 14 (.mv (.t 81))]
@[simp] noncomputable def r14 (_ : Unit) : List Stp := [S 82 (.mv (.t 2)), S 15 (.mv (.t 82))]
@[simp] noncomputable def r15 (_ : Unit) : List Stp := [S 83 (.mv (.t 14)), S 84 (.mv (.t 15)), S 85 (.bin .lss (.t 83) (.t 84))]
@[simp] noncomputable def r16 (_ : Unit) : List Stp := [S 86 (.mv (.t 14)), S 87 (.mv (.t 15)), S 88 (.bin .add (.t 86) (.t 87)), S 89 (.conv .u64 (.t 88)), S 90 (.bin .shr (.t 89) (.c (.int .u64 1))), S 91 (.conv .i64 (.t 90)), S 16 (.mv (.t 91))]
@[simp] noncomputable def r17 (_ : Unit) : List Stp := [S 92 (.mv (.t 4)), S 93 (.mv (.t 0)), S 94 (.mv (.t 2)), S 95 (.ixS 3 (.t 93) (.t 94)), S 97 (.mv (.t 0)), S 98 (.mv (.t 16)), S 99 (.ixS 3 (.t 97) (.t 98)), S 96 (.load true 3 (.t 95)), S 100 (.load true 3 (.t 99)), S 101 (.call (.t 92) [(.t 96), (.t 100)]), S 102 (.bin .lss (.t 101) (.c (.int .i64 0))), S 103 (.un .not (.t 102))]
@[simp] noncomputable def r18 (_ : Unit) : List Stp := [S 104 (.mv (.t 16)), S 105 (.bin .add (.t 104) (.c (.int .i64 1))), S 14 (.mv (.t 105))]
@[simp] noncomputable def r19 (_ : Unit) : List Stp := [S 106 (.mv (.t 16)), S 15 (.mv (.t 106))]
@[simp] noncomputable def r20 (_ : Unit) : List Stp := [S 107 (.mv (.t 2)), S 17 (.mv (.t 107))]
@[simp] noncomputable def r21 (_ : Unit) : List Stp := [S 108 (.mv (.t 17)), S 109 (.mv (.t 14)), S 110 (.bin .gtr (.t 108) (.t 109))]
@[simp] noncomputable def r23 (_ : Unit) : List Stp := [S 113 (.mv (.t 0)), S 114 (.mv (.t 17)), S 115 (.mv (.t 0)), S 116 (.mv (.t 17)), S 117 (.bin .sub (.t 116) (.c (.int .i64 1))), S 118 (.mv (.t 0)), S 119 (.mv (.t 17)), S 120 (.bin .sub (.t 119) (.c (.int .i64 1))), S 121 (.ixS 3 (.t 118) (.t 120)), S 123 (.mv (.t 0)), S 124 (.mv (.t 17)), S 125 (.ixS 3 (.t 123) (.t 124)), S 122 (.load true 3 (.t 121)), S 126 (.load true 3 (.t 125)), S 127 (.ixS 3 (.t 113) (.t 114)), SN (.store 3 (.t 127) (.t 122)), S 128 (.ixS 3 (.t 115) (.t 117)), SN (.store 3 (.t 128) (.t 126))]
@[simp] noncomputable def r22 (_ : Unit) : List Stp := [S 111 (.mv (.t 17)), S 112 (.bin .sub (.t 111) (.c (.int .i64 1))), S 17 (.mv (.t 112))]
@[simp] noncomputable def r24 (_ : Unit) : List Stp := [S 129 (.mv (.t 1)), S 130 (.mv (.t 3)), S 131 (.bin .add (.t 129) (.t 130)), S 132 (.conv .u64 (.t 131)), S 133 (.bin .shr (.t 132) (.c (.int .u64 1))), S 134 (.conv .i64 (.t 133)), S 18 (.mv (.t 134))]
@[simp] noncomputable def r25 (_ : Unit) : List Stp := [S 135 (.mv (.t 18)), S 136 (.mv (.t 2)), S 137 (.bin .add (.t 135) (.t 136)), S 19 (.mv (.t 137))]
@[simp] noncomputable def r26 (_ : Unit) : List Stp := [S 20 (.mv (.c (.int .i64 0))), S 21 (.mv (.c (.int .i64 0)))]
@[simp] noncomputable def r27 (_ : Unit) : List Stp := [S 138 (.mv (.t 2)), S 139 (.mv (.t 18)), S 140 (.bin .gtr (.t 138) (.t 139))]
@[simp] noncomputable def r28 (_ : Unit) : List Stp := [S 141 (.mv (.t 19)), S 142 (.mv (.t 3)), S 143 (.bin .sub (.t 141) (.t 142)), S 20 (.mv (.t 143))]
@[simp] noncomputable def r29 (_ : Unit) : List Stp := [S 144 (.mv (.t 18)), S 21 (.mv (.t 144))]
@[simp] noncomputable def r30 (_ : Unit) : List Stp := [S 145 (.mv (.t 1)), S 20 (.mv (.t 145))]
@[simp] noncomputable def r31 (_ : Unit) : List Stp := [S 146 (.mv (.t 2)), S 21 (.mv (.t 146))]
@[simp] noncomputable def r32 (_ : Unit) : List Stp := [S 147 (.mv (.t 19)), S 148 (.bin .sub (.t 147) (.c (.int .i64 1))), S 22 (.mv (.t 148))]
@[simp] noncomputable def r33 (_ : Unit) : List Stp := [S 149 (.mv (.t 20)), S 150 (.mv (.t 21)), S 151 (.bin .lss (.t 149) (.t 150))]
@[simp] noncomputable def r34 (_ : Unit) : List Stp := [S 152 (.mv (.t 20)), S 153 (.mv (.t 21)), S 154 (.bin .add (.t 152) (.t 153)), S 155 (.conv .u64 (.t 154)), S 156 (.bin .shr (.t 155) (.c (.int .u64 1))), S 157 (.conv .i64 (.t 156)), S 23 (.mv (.t 157))]
@[simp] noncomputable def r35 (_ : Unit) : List Stp := [S 158 (.mv (.t 4)), S 159 (.mv (.t 0)), S 160 (.mv (.t 22)), S 161 (.mv (.t 23)), S 162 (.bin .sub (.t 160) (.t 161)), S 163 (.ixS 3 (.t 159) (.t 162)), S 165 (.mv (.t 0)), S 166 (.mv (.t 23)), S 167 (.ixS 3 (.t 165) (.t 166)), S 164 (.load true 3 (.t 163)), S 168 (.load true 3 (.t 167)), S 169 (.call (.t 158) [(.t 164), (.t 168)]), S 170 (.bin .lss (.t 169) (.c (.int .i64 0))), S 171 (.un .not (.t 170))]
@[simp] noncomputable def r36 (_ : Unit) : List Stp := [S 172 (.mv (.t 23)), S 173 (.bin .add (.t 172) (.c (.int .i64 1))), S 20 (.mv (.t 173))]
@[simp] noncomputable def r37 (_ : Unit) : List Stp := [S 174 (.mv (.t 23)), S 21 (.mv (.t 174))]
@[simp] noncomputable def r38 (_ : Unit) : List Stp := [S 175 (.mv (.t 19)), S 176 (.mv (.t 20)), S 177 (.bin .sub (.t 175) (.t 176)), S 24 (.mv (.t 177))]
@[simp] noncomputable def r39 (_ : Unit) : List Stp := [S 178 (.mv (.t 20)), S 179 (.mv (.t 2)), S 180 (.bin .lss (.t 178) (.t 179)), S 181 (.mv (.t 180)), SG 182 181 true (.mv (.t 2)), SG 183 181 true (.mv (.t 24)), SG 184 181 true (.bin .lss (.t 182) (.t 183)), S 185 (.pick (.t 181) (.t 184) (.c (.bool false)))]
@[simp] noncomputable def r40 (_ : Unit) : List Stp := [S 186 (.mv (.t 0)), S 187 (.mv (.t 20)), S 188 (.mv (.t 2)), S 189 (.mv (.t 24)), S 190 (.mv (.t 4)), S 191 (.call (.c (.func (.func fn_slices_rotateCmpFunc_api_AgainWork) [] [])) [(.t 186), (.t 187), (.t 188), (.t 189), (.t 190)])]
@[simp] noncomputable def r41 (_ : Unit) : List Stp := [S 192 (.mv (.t 1)), S 193 (.mv (.t 20)), S 194 (.bin .lss (.t 192) (.t 193)), S 195 (.mv (.t 194)), SG 196 195 true (.mv (.t 20)), SG 197 195 true (.mv (.t 18)), SG 198 195 true (.bin .lss (.t 196) (.t 197)), S 199 (.pick (.t 195) (.t 198) (.c (.bool false)))]
@[simp] noncomputable def r42 (_ : Unit) : List Stp := [S 200 (.mv (.t 0)), S 201 (.mv (.t 1)), S 202 (.mv (.t 20)), S 203 (.mv (.t 18)), S 204 (.mv (.t 4)), S 205 (.call (.c (.func (.func fn_slices_symMergeCmpFunc_api_AgainWork) [] [])) [(.t 200), (.t 201), (.t 202), (.t 203), (.t 204)])]
@[simp] noncomputable def r43 (_ : Unit) : List Stp := [S 206 (.mv (.t 18)), S 207 (.mv (.t 24)), S 208 (.bin .lss (.t 206) (.t 207)), S 209 (.mv (.t 208)), SG 210 209 true (.mv (.t 24)), SG 211 209 true (.mv (.t 3)), SG 212 209 true (.bin .lss (.t 210) (.t 211)), S 213 (.pick (.t 209) (.t 212) (.c (.bool false)))]
@[simp] noncomputable def r44 (_ : Unit) : List Stp := [S 214 (.mv (.t 0)), S 215 (.mv (.t 18)), S 216 (.mv (.t 24)), S 217 (.mv (.t 3)), S 218 (.mv (.t 4)), S 219 (.call (.c (.func (.func fn_slices_symMergeCmpFunc_api_AgainWork) [] [])) [(.t 214), (.t 215), (.t 216), (.t 217), (.t 218)])]
@[simp] noncomputable def ir : IR := (.seq (.seq (.ops r0) (.cond (.t 28) (.seq (.ops r1) (.seq (.ops r2) (.seq (.block 0 (.loop (.seq (.seq (.ops r3) (.cond (.t 33) .skip (.exit 0))) (.block 1 (.seq (.ops r4) (.seq (.ops r5) (.cond (.t 50) (.ops r6) (.ops r7)))))))) (.seq (.seq (.ops r8) (.block 2 (.loop (.seq (.seq (.ops r9) (.cond (.t 58) .skip (.exit 2))) (.seq (.block 3 (.ops r11)) (.ops r10)))))) .ret)))) .skip)) (.seq (.seq (.ops r12) (.cond (.t 80) (.seq (.ops r13) (.seq (.ops r14) (.seq (.block 4 (.loop (.seq (.seq (.ops r15) (.cond (.t 85) .skip (.exit 4))) (.block 5 (.seq (.ops r16) (.seq (.ops r17) (.cond (.t 103) (.ops r18) (.ops r19)))))))) (.seq (.seq (.ops r20) (.block 6 (.loop (.seq (.seq (.ops r21) (.cond (.t 110) .skip (.exit 6))) (.seq (.block 7 (.ops r23)) (.ops r22)))))) .ret)))) .skip)) (.seq (.ops r24) (.seq (.ops r25) (.seq (.ops r26) (.seq (.seq (.ops r27) (.cond (.t 140) (.seq (.ops r28) (.ops r29)) (.seq (.ops r30) (.ops r31)))) (.seq (.ops r32) (.seq (.block 8 (.loop (.seq (.seq (.ops r33) (.cond (.t 151) .skip (.exit 8))) (.block 9 (.seq (.ops r34) (.seq (.ops r35) (.cond (.t 171) (.ops r36) (.ops r37)))))))) (.seq (.ops r38) (.seq (.seq (.ops r39) (.cond (.t 185) (.ops r40) .skip)) (.seq (.seq (.ops r41) (.cond (.t 199) (.ops r42) .skip)) (.seq (.ops r43) (.cond (.t 213) (.ops r44) .skip)))))))))))))
@[simp] noncomputable def rs : List RV := []
theorem comp : compF Pg cfg Tryz.f129 = some (ir, rs, 220) := by kernel_rfl
theorem enter {args : List AVal} {h : Heap} {K : AEnd → Heap → Prop} (F : Nat) (hl : args.length ≤ 220) (a : AW ⟨Pg, F, 220, false, []⟩ ir (RetK rs K) (initT args) [] h) : ACalls Pg fn_slices_symMergeCmpFunc_api_AgainWork args h K :=
  ACalls.of_comp follows Tryz.func129 comp hl a
theorem pure {args : List AVal} {v : AVal} (hl : args.length ≤ 220) (a : AW ⟨Pg, 0, 220, false, []⟩ ir (RetK rs fun e _ => e = .ret v) (initT args) [] nilH) : APure Pg fn_slices_symMergeCmpFunc_api_AgainWork args v :=
  APure.of_nil (enter 0 hl a)
end slices_symMergeCmpFunc_api_AgainWork

namespace ref01_right
noncomputable def cfg : Cfg := { pure := pures, pcs := [], raw := [], cuts := [], draws := [(5, [⟨0, false, [], []⟩, ⟨1, false, [], []⟩, ⟨2, false, [], []⟩, ⟨3, false, [], []⟩, ⟨4, false, [], []⟩, ⟨6, false, [], []⟩, ⟨8, false, [], []⟩, ⟨12, false, [], []⟩, ⟨13, false, [], []⟩, ⟨15, false, [], []⟩, ⟨16, false, [], []⟩, ⟨5, false, [], []⟩, ⟨7, false, [], []⟩, ⟨9, false, [], []⟩, ⟨10, false, [], []⟩, ⟨11, false, [], []⟩, ⟨14, false, [], []⟩, ⟨17, false, [], []⟩, ⟨18, false, [], []⟩, ⟨19, false, [], []⟩, ⟨20, false, [], []⟩])], keep := [] }
@[simp] noncomputable def r0 (_ : Unit) : List Stp := [S 3 (.box (.t 0)), S 6 (.mv (.c (.bool false)))]
@[simp] noncomputable def r1 (_ : Unit) : List Stp := [S 7 (.mv (.c (.int .i64 0)))]
@[simp] noncomputable def r2 (_ : Unit) : List Stp := [S 9 (.mv (.t 7)), S 10 (.fAddr 1 (.t 3)), S 11 (.load false 1 (.t 10)), S 12 (.len (.t 11)), S 13 (.bin .lss (.t 9) (.t 12))]
@[simp] noncomputable def r4 (_ : Unit) : List Stp := [S 16 (.fAddr 1 (.t 3)), S 17 (.load false 1 (.t 16)), S 18 (.mv (.t 7)), S 19 (.ixS 4 (.t 17) (.t 18)), S 20 (.load true 4 (.t 19)), S 8 (.alloc [(.int .i64 0), (.int .i64 0), (.int .i64 0), (.int .i64 0)]), SN (.store 4 (.t 8) (.t 20))]
@[simp] noncomputable def r5 (_ : Unit) : List Stp := [S 21 (.mv (.t 2)), S 22 (.mv (.t 7)), SP 23 (.call (.c (.func (.func fn_ref01_Has) [] [])) [(.t 21), (.t 22)]), S 24 (.mv (.t 23)), SG 25 24 true (.mv (.t 1)), SG 27 24 true (.fAddr 0 (.t 8)), SG 29 24 true (.fAddr 1 (.t 8)), SG 33 24 true (.fAddr 2 (.t 8)), SG 34 24 true (.fAddr 0 (.t 33)), SG 36 24 true (.fAddr 2 (.t 8)), SG 37 24 true (.fAddr 1 (.t 36)), SG 26 24 true (.load true 2 (.t 3)), SG 28 24 true (.load false 1 (.t 27)), SG 30 24 true (.load false 1 (.t 29)), SGP 31 24 true (.call (.c (.func (.func fn_ref01_wet) [] [])) [(.t 26), (.t 28), (.t 30)]), SGP 32 24 true (.call (.c (.func (.func fn_ref01_Sum) [] [])) [(.t 25), (.t 31)]), SG 35 24 true (.load false 1 (.t 34)), SG 38 24 true (.load false 1 (.t 37)), SGP 39 24 true (.call (.c (.func (.func fn_ref01_in) [] [])) [(.t 32), (.t 35), (.t 38)]), SG 40 24 true (.un .not (.t 39)), S 41 (.pick (.t 24) (.t 40) (.c (.bool false)))]
@[simp] noncomputable def r6 (_ : Unit) : List Stp := [S 6 (.mv (.c (.bool false)))]
@[simp] noncomputable def r3 (_ : Unit) : List Stp := [S 14 (.mv (.t 7)), S 15 (.bin .add (.t 14) (.c (.int .i64 1))), S 7 (.mv (.t 15))]
@[simp] noncomputable def r7 (_ : Unit) : List Stp := [S 6 (.mv (.c (.bool true)))]
@[simp] noncomputable def ir : IR := (.seq (.ops r0) (.seq (.seq (.ops r1) (.block 0 (.loop (.seq (.seq (.ops r2) (.cond (.t 13) .skip (.exit 0))) (.seq (.block 1 (.seq (.ops r4) (.seq (.ops r5) (.cond (.t 41) (.seq (.ops r6) .ret) .skip)))) (.ops r3)))))) (.seq (.ops r7) .ret)))
@[simp] noncomputable def rs : List RV := [.tmp 6]
theorem comp : compF Pg cfg Tryz.f130 = some (ir, rs, 42) := by kernel_rfl
theorem enter {args : List AVal} {h : Heap} {K : AEnd → Heap → Prop} (F : Nat) (hl : args.length ≤ 42) (a : AW ⟨Pg, F, 42, false, []⟩ ir (RetK rs K) (initT args) [] h) : ACalls Pg fn_ref01_right args h K :=
  ACalls.of_comp follows Tryz.func130 comp hl a
theorem pure {args : List AVal} {v : AVal} (hl : args.length ≤ 42) (a : AW ⟨Pg, 0, 42, false, []⟩ ir (RetK rs fun e _ => e = .ret v) (initT args) [] nilH) : APure Pg fn_ref01_right args v :=
  APure.of_nil (enter 0 hl a)
end ref01_right

namespace ref01_power
noncomputable def cfg : Cfg := { pure := pures, pcs := [], raw := [], cuts := [], draws := [], keep := [] }
@[simp] noncomputable def r0 (_ : Unit) : List Stp := [S 2 (.mv (.c (.int .i64 0)))]
@[simp] noncomputable def r1 (_ : Unit) : List Stp := [S 3 (.mv (.c (.int .i64 1)))]
@[simp] noncomputable def r2 (_ : Unit) : List Stp := [S 4 (.mv (.c (.int .i64 0)))]
@[simp] noncomputable def r3 (_ : Unit) : List Stp := [S 5 (.mv (.t 4)), S 6 (.mv (.t 0)), S 7 (.bin .lss (.t 5) (.t 6))]
@[simp] noncomputable def r5 (_ : Unit) : List Stp := [S 10 (.mv (.t 3)), S 11 (.bin .mul (.c (.int .i64 2)) (.t 10)), S 3 (.mv (.t 11))]
@[simp] noncomputable def r4 (_ : Unit) : List Stp := [S 8 (.mv (.t 4)), S 9 (.bin .add (.t 8) (.c (.int .i64 1))), S 4 (.mv (.t 9))]
@[simp] noncomputable def r6 (_ : Unit) : List Stp := [S 12 (.mv (.t 3)), S 2 (.mv (.t 12))]
@[simp] noncomputable def ir : IR := (.seq (.ops r0) (.seq (.ops r1) (.seq (.seq (.ops r2) (.block 0 (.loop (.seq (.seq (.ops r3) (.cond (.t 7) .skip (.exit 0))) (.seq (.block 1 (.ops r5)) (.ops r4)))))) (.seq (.ops r6) .ret))))
@[simp] noncomputable def rs : List RV := [.tmp 2]
theorem comp : compF Pg cfg Tryz.f131 = some (ir, rs, 13) := by kernel_rfl
theorem enter {args : List AVal} {h : Heap} {K : AEnd → Heap → Prop} (F : Nat) (hl : args.length ≤ 13) (a : AW ⟨Pg, F, 13, false, []⟩ ir (RetK rs K) (initT args) [] h) : ACalls Pg fn_ref01_power args h K :=
  ACalls.of_comp follows Tryz.func131 comp hl a
theorem pure {args : List AVal} {v : AVal} (hl : args.length ≤ 13) (a : AW ⟨Pg, 0, 13, false, []⟩ ir (RetK rs fun e _ => e = .ret v) (initT args) [] nilH) : APure Pg fn_ref01_power args v :=
  APure.of_nil (enter 0 hl a)
end ref01_power

namespace slices_AppendSeq_leak_inflow_leak_inflow
noncomputable def cfg : Cfg := { pure := pures, pcs := [], raw := [], cuts := [], draws := [], keep := [] }
@[simp] noncomputable def r0 (_ : Unit) : List Stp := [S 2 (.box (.t 0)), S 4 (.mv (.c .nils))]
@[simp] noncomputable def r1 (_ : Unit) : List Stp := [S 6 (.mv (.t 1))]
@[simp] noncomputable def r2 (_ : Unit) : List Stp := [S 5 (.alloc [(.int .i64 0), (.int .i64 0), (.int .i64 0), (.int .i64 0), (.int .i64 0), (.int .i64 0)]), SN (.store 6 (.t 5) (.t 7))]
@[simp] noncomputable def r3 (_ : Unit) : List Stp := [S 8 (.load false 1 (.t 2)), S 9 (.load true 6 (.t 5)), S 10 (.bsl 1 [(.int .i64 0), (.int .i64 0), (.int .i64 0), (.int .i64 0), (.int .i64 0), (.int .i64 0)] [(0, 6, (.t 9))]), S 11 (.app 6 48 (.t 8) (.t 10)), SN (.store 1 (.t 2) (.t 11))]
@[simp] noncomputable def r4 (_ : Unit) : List Stp := [S 12 (.load false 1 (.t 2)), S 4 (.mv (.t 12))]
@[simp] noncomputable def ir : IR := (.seq (.ops r0) (.seq (.seq (.ops r1) (.block 0 (.rangeF (.t 6) [7] (.ops r2) (.block 1 (.ops r3))))) (.seq (.ops r4) .ret)))
@[simp] noncomputable def rs : List RV := [.tmp 4]
theorem comp : compF Pg cfg Tryz.f132 = some (ir, rs, 13) := by kernel_rfl
theorem enter {args : List AVal} {h : Heap} {K : AEnd → Heap → Prop} (F : Nat) (hl : args.length ≤ 13) (a : AW ⟨Pg, F, 13, false, []⟩ ir (RetK rs K) (initT args) [] h) : ACalls Pg fn_slices_AppendSeq_leak_inflow_leak_inflow args h K :=
  ACalls.of_comp follows Tryz.func132 comp hl a
theorem pure {args : List AVal} {v : AVal} (hl : args.length ≤ 13) (a : AW ⟨Pg, 0, 13, false, []⟩ ir (RetK rs fun e _ => e = .ret v) (initT args) [] nilH) : APure Pg fn_slices_AppendSeq_leak_inflow_leak_inflow args v :=
  APure.of_nil (enter 0 hl a)
end slices_AppendSeq_leak_inflow_leak_inflow

namespace leak_hull_conditions
noncomputable def cfg : Cfg := { pure := pures, pcs := [], raw := [], cuts := [], draws := [(6, [⟨0, false, [], []⟩, ⟨1, false, [], []⟩, ⟨2, false, [], []⟩, ⟨4, false, [], []⟩, ⟨9, false, [], []⟩, ⟨3, false, [], []⟩, ⟨5, false, [], []⟩, ⟨6, false, [], []⟩, ⟨10, false, [], []⟩, ⟨7, false, [], [10]⟩, ⟨8, false, [], []⟩, ⟨11, false, [], []⟩, ⟨12, false, [], []⟩, ⟨13, false, [], []⟩, ⟨14, false, [], []⟩, ⟨15, false, [], []⟩])], keep := [] }
@[simp] noncomputable def r0 (_ : Unit) : List Stp := [S 4 (.mv (.c .nils))]
@[simp] noncomputable def r1 (_ : Unit) : List Stp := [S 8 (.build [] []), S 9 (.mkI 201 (.t 8)), S 10 (.bsl 1 [.nili] [(0, 1, (.t 9))]), S 5 (.mv (.t 10))]
@[simp] noncomputable def r2 (_ : Unit) : List Stp := [S 11 (.mv (.t 0)), S 12 (.nilck Pg (.t 11)), S 13 (.fAddr 0 (.t 12)), S 14 (.fAddr 1 (.t 13)), S 15 (.load false 1 (.t 14)), S 16 (.len (.t 15)), S 17 (.mv (.c (.int .i64 0)))]
@[simp] noncomputable def r3 (_ : Unit) : List Stp := [S 18 (.bin .lss (.t 17) (.t 16))]
@[simp] noncomputable def r4 (_ : Unit) : List Stp := [S 19 (.mv (.t 17)), S 20 (.ixS 4 (.t 15) (.t 17)), S 21 (.load true 4 (.t 20)), S 7 (.alloc [(.int .i64 0), (.int .i64 0), (.int .i64 0), (.int .i64 0)]), S 6 (.mv (.t 19)), SN (.store 4 (.t 7) (.t 21))]
@[simp] noncomputable def r5 (_ : Unit) : List Stp := [S 22 (.mv (.t 1)), S 23 (.mv (.t 6)), S 24 (.bin .shr (.t 22) (.t 23)), S 25 (.bin .and (.t 24) (.c (.int .u64 1))), S 26 (.bin .eql (.t 25) (.c (.int .u64 1)))]
@[simp] noncomputable def r6 (_ : Unit) : List Stp := [S 27 (.mv (.t 5)), S 28 (.mv (.t 0)), S 29 (.fAddr 0 (.t 7)), S 31 (.fAddr 1 (.t 7)), S 36 (.fAddr 2 (.t 7)), S 30 (.load false 1 (.t 29)), S 32 (.load false 1 (.t 31)), S 33 (.build [(.int .i64 0), (.int .i64 0)] [(0, 1, (.t 30)), (1, 1, (.t 32))]), S 37 (.load true 2 (.t 36)), SD (some 34) (.call (.c (.func (.func fn_leak_hull_wet) [] [])) [(.t 28), (.t 33)]) false [] [I 37 (.load true 2 (.t 36))], S 35 (.build [(.int .u64 0)] [(0, 1, (.t 34))]), S 38 (.build [(.int .u64 0), (.int .i64 0), (.int .i64 0)] [(0, 1, (.t 35)), (1, 2, (.t 37))]), S 39 (.mkI 205 (.t 38)), S 40 (.bsl 1 [.nili] [(0, 1, (.t 39))]), S 41 (.app 1 16 (.t 27) (.t 40)), S 5 (.mv (.t 41))]
@[simp] noncomputable def r7 (_ : Unit) : List Stp := [S 42 (.bin .add (.t 17) (.c (.int .i64 1))), S 17 (.mv (.t 42))]
@[simp] noncomputable def r8 (_ : Unit) : List Stp := [S 43 (.mv (.t 5)), S 4 (.mv (.t 43))]
@[simp] noncomputable def ir : IR := (.seq (.ops r0) (.seq (.ops r1) (.seq (.seq (.ops r2) (.block 0 (.loop (.seq (.ops r3) (.seq (.cond (.t 18) .skip (.exit 0)) (.seq (.block 1 (.seq (.ops r4) (.seq (.ops r5) (.cond (.t 26) (.ops r6) .skip)))) (.ops r7))))))) (.seq (.ops r8) .ret))))
@[simp] noncomputable def rs : List RV := [.tmp 4]
theorem comp : compF Pg cfg Tryz.f133 = some (ir, rs, 44) := by kernel_rfl
theorem enter {args : List AVal} {h : Heap} {K : AEnd → Heap → Prop} (F : Nat) (hl : args.length ≤ 44) (a : AW ⟨Pg, F, 44, false, []⟩ ir (RetK rs K) (initT args) [] h) : ACalls Pg fn_leak_hull_conditions args h K :=
  ACalls.of_comp follows Tryz.func133 comp hl a
theorem pure {args : List AVal} {v : AVal} (hl : args.length ≤ 44) (a : AW ⟨Pg, 0, 44, false, []⟩ ir (RetK rs fun e _ => e = .ret v) (initT args) [] nilH) : APure Pg fn_leak_hull_conditions args v :=
  APure.of_nil (enter 0 hl a)
end leak_hull_conditions

namespace leak_hull_inflows_1
noncomputable def cfg : Cfg := { pure := pures, pcs := [], raw := [], cuts := [], draws := [], keep := [] }
@[simp] noncomputable def r0 (_ : Unit) : List Stp := [S 3 (.box (.t 0))]
@[simp] noncomputable def r1 (_ : Unit) : List Stp := [S 4 (.alloc [.nilf])]
@[simp] noncomputable def r2 (_ : Unit) : List Stp := [S 5 (.mkF (.func fn_leak_hull_inflows_1_1) [] [(.t 1), (.t 3), (.t 2), (.t 4)]), SN (.store 1 (.t 4) (.t 5))]
@[simp] noncomputable def r3 (_ : Unit) : List Stp := [S 6 (.load false 1 (.t 4)), S 7 (.build [(.int .i64 0), (.int .i64 0), (.int .i64 0), (.int .i64 0), (.int .i64 0), (.int .i64 0)] []), S 8 (.call (.t 6) [(.t 7), (.c (.int .i64 0))])]
@[simp] noncomputable def ir : IR := (.seq (.ops r0) (.seq (.ops r1) (.seq (.ops r2) (.ops r3))))
@[simp] noncomputable def rs : List RV := []
theorem comp : compF Pg cfg Tryz.f134 = some (ir, rs, 9) := by kernel_rfl
theorem enter {args : List AVal} {h : Heap} {K : AEnd → Heap → Prop} (F : Nat) (hl : args.length ≤ 9) (a : AW ⟨Pg, F, 9, false, []⟩ ir (RetK rs K) (initT args) [] h) : ACalls Pg fn_leak_hull_inflows_1 args h K :=
  ACalls.of_comp follows Tryz.func134 comp hl a
theorem pure {args : List AVal} {v : AVal} (hl : args.length ≤ 9) (a : AW ⟨Pg, 0, 9, false, []⟩ ir (RetK rs fun e _ => e = .ret v) (initT args) [] nilH) : APure Pg fn_leak_hull_inflows_1 args v :=
  APure.of_nil (enter 0 hl a)
end leak_hull_inflows_1

namespace leak_hull_inflows_1_1
noncomputable def cfg : Cfg := { pure := pures, pcs := [], raw := [], cuts := [], draws := [(10, [⟨0, false, [], []⟩, ⟨2, false, [], []⟩, ⟨3, false, [], []⟩, ⟨8, false, [], []⟩, ⟨9, false, [], []⟩, ⟨10, false, [], []⟩, ⟨1, false, [], []⟩, ⟨4, false, [], []⟩, ⟨5, false, [], []⟩, ⟨6, false, [], []⟩, ⟨7, false, [], []⟩, ⟨11, false, [], []⟩, ⟨12, false, [], []⟩])], keep := [] }
@[simp] noncomputable def r0 (_ : Unit) : List Stp := [S 6 (.box (.t 0)), S 8 (.mv (.c (.bool false)))]
@[simp] noncomputable def r1 (_ : Unit) : List Stp := [S 12 (.mv (.t 1)), S 13 (.load false 1 (.t 2)), S 14 (.nilck Pg (.t 13)), S 15 (.fAddr 2 (.t 14)), S 16 (.load false 1 (.t 15)), S 17 (.len (.t 16)), S 18 (.bin .eql (.t 12) (.t 17))]
@[simp] noncomputable def r2 (_ : Unit) : List Stp := [S 19 (.load false 1 (.t 3)), S 20 (.load true 6 (.t 6)), S 21 (.call (.t 19) [(.t 20)]), S 8 (.mv (.t 21))]
@[simp] noncomputable def r3 (_ : Unit) : List Stp := [S 9 (.mv (.c (.int .i64 0)))]
@[simp] noncomputable def r4 (_ : Unit) : List Stp := [S 22 (.mv (.t 9)), S 23 (.load false 1 (.t 2)), S 24 (.nilck Pg (.t 23)), S 25 (.fAddr 2 (.t 24)), S 26 (.load false 1 (.t 25)), S 27 (.mv (.t 1)), S 28 (.ixS 1 (.t 26) (.t 27)), S 29 (.load false 1 (.t 28)), S 30 (.bin .leq (.t 22) (.t 29))]
@[simp] noncomputable def r6 (_ : Unit) : List Stp := [S 33 (.mv (.t 1)), S 34 (.mv (.t 9)), S 35 (.ixA 6 1 (.t 6) (.t 33)), SN (.store 1 (.t 35) (.t 34))]
@[simp] noncomputable def r7 (_ : Unit) : List Stp := [S 36 (.load false 1 (.t 4)), S 37 (.len (.t 36)), S 38 (.mv (.c (.int .i64 0)))]
@[simp] noncomputable def r8 (_ : Unit) : List Stp := [S 39 (.bin .lss (.t 38) (.t 37))]
@[simp] noncomputable def r9 (_ : Unit) : List Stp := [S 40 (.ixS 1 (.t 36) (.t 38)), S 41 (.load false 1 (.t 40)), S 11 (.mv (.t 41))]
@[simp] noncomputable def r10 (_ : Unit) : List Stp := [S 42 (.mv (.t 11)), S 44 (.mv (.t 1)), S 45 (.bin .add (.t 44) (.c (.int .i64 1))), S 50 (.mkF (.method "caulkworks/leak.can") [(.t 42)] []), S 51 (.nilck Pg (.t 50)), S 52 (.mv (.t 42)), S 43 (.load true 6 (.t 6)), S 46 (.load false 1 (.t 2)), S 47 (.nilck Pg (.t 46)), S 48 (.fAddr 2 (.t 47)), S 49 (.load false 1 (.t 48)), S 53 (.inv (.t 52) "caulkworks/leak.can" [(.t 43), (.t 45), (.t 49)]), S 54 (.un .not (.t 53))]
@[simp] noncomputable def r11 (_ : Unit) : List Stp := [S 55 (.bin .add (.t 38) (.c (.int .i64 1))), S 38 (.mv (.t 55))]
@[simp] noncomputable def r12 (_ : Unit) : List Stp := [S 56 (.load false 1 (.t 5)), S 57 (.load true 6 (.t 6)), S 58 (.mv (.t 1)), S 59 (.bin .add (.t 58) (.c (.int .i64 1))), S 60 (.call (.t 56) [(.t 57), (.t 59)]), S 61 (.un .not (.t 60))]
@[simp] noncomputable def r13 (_ : Unit) : List Stp := [S 8 (.mv (.c (.bool false)))]
@[simp] noncomputable def r5 (_ : Unit) : List Stp := [S 31 (.mv (.t 9)), S 32 (.bin .add (.t 31) (.c (.int .i64 1))), S 9 (.mv (.t 32))]
@[simp] noncomputable def r14 (_ : Unit) : List Stp := [S 8 (.mv (.c (.bool true)))]
@[simp] noncomputable def ir : IR := (.seq (.ops r0) (.seq (.seq (.ops r1) (.cond (.t 18) (.seq (.ops r2) .ret) .skip)) (.seq .skip (.seq (.seq (.ops r3) (.block 0 (.loop (.seq (.seq (.ops r4) (.cond (.t 30) .skip (.exit 0))) (.seq (.block 1 (.seq (.ops r6) (.seq (.seq (.ops r7) (.block 2 (.loop (.seq (.ops r8) (.seq (.cond (.t 39) .skip (.exit 2)) (.seq (.block 3 (.seq (.ops r9) (.seq (.ops r10) (.cond (.t 54) (.exit 1) .skip)))) (.ops r11))))))) (.seq (.ops r12) (.cond (.t 61) (.seq (.ops r13) .ret) .skip))))) (.ops r5)))))) (.seq (.ops r14) .ret)))))
@[simp] noncomputable def rs : List RV := [.tmp 8]
theorem comp : compF Pg cfg Tryz.f135 = some (ir, rs, 62) := by kernel_rfl
theorem enter {args : List AVal} {h : Heap} {K : AEnd → Heap → Prop} (F : Nat) (hl : args.length ≤ 62) (a : AW ⟨Pg, F, 62, false, []⟩ ir (RetK rs K) (initT args) [] h) : ACalls Pg fn_leak_hull_inflows_1_1 args h K :=
  ACalls.of_comp follows Tryz.func135 comp hl a
theorem pure {args : List AVal} {v : AVal} (hl : args.length ≤ 62) (a : AW ⟨Pg, 0, 62, false, []⟩ ir (RetK rs fun e _ => e = .ret v) (initT args) [] nilH) : APure Pg fn_leak_hull_inflows_1_1 args v :=
  APure.of_nil (enter 0 hl a)
end leak_hull_inflows_1_1

namespace slices_insertionSortOrdered_int
noncomputable def cfg : Cfg := { pure := pures, pcs := [], raw := [], cuts := [], draws := [(4, [⟨0, false, [], []⟩, ⟨1, false, [], []⟩, ⟨2, false, [], []⟩, ⟨3, false, [], []⟩, ⟨4, false, [], []⟩, ⟨5, false, [], []⟩, ⟨6, false, [], []⟩, ⟨8, false, [], []⟩, ⟨9, false, [], []⟩, ⟨10, false, [], []⟩, ⟨11, false, [], []⟩, ⟨7, false, [], []⟩, ⟨12, false, [], []⟩, ⟨13, false, [], []⟩, ⟨14, false, [], []⟩]), (6, [⟨0, false, [], []⟩, ⟨1, false, [], []⟩, ⟨2, false, [], []⟩, ⟨3, false, [], []⟩, ⟨4, false, [], []⟩, ⟨5, false, [], []⟩, ⟨6, false, [], []⟩, ⟨7, false, [], []⟩, ⟨8, false, [], []⟩, ⟨10, false, [], []⟩, ⟨11, false, [], []⟩, ⟨12, false, [], []⟩, ⟨9, false, [], []⟩, ⟨13, false, [], []⟩, ⟨14, false, [], []⟩, ⟨15, false, [], []⟩, ⟨16, false, [], []⟩, ⟨17, false, [], []⟩])], keep := [] }
@[simp] noncomputable def r0 (_ : Unit) : List Stp := [S 8 (.mv (.t 1)), S 9 (.bin .add (.t 8) (.c (.int .i64 1))), S 6 (.mv (.t 9))]
@[simp] noncomputable def r1 (_ : Unit) : List Stp := [S 10 (.mv (.t 6)), S 11 (.mv (.t 2)), S 12 (.bin .lss (.t 10) (.t 11))]
@[simp] noncomputable def r3 (_ : Unit) : List Stp := [S 15 (.mv (.t 6)), S 7 (.mv (.t 15))]
@[simp] noncomputable def r4 (_ : Unit) : List Stp := [S 16 (.mv (.t 7)), S 17 (.mv (.t 1)), S 18 (.bin .gtr (.t 16) (.t 17)), S 19 (.mv (.t 18)), SG 20 19 true (.mv (.t 0)), SG 21 19 true (.mv (.t 7)), SG 22 19 true (.ixS 1 (.t 20) (.t 21)), SG 24 19 true (.mv (.t 0)), SG 25 19 true (.mv (.t 7)), SG 26 19 true (.bin .sub (.t 25) (.c (.int .i64 1))), SG 27 19 true (.ixS 1 (.t 24) (.t 26)), SG 23 19 true (.load false 1 (.t 22)), SG 28 19 true (.load false 1 (.t 27)), SG 29 19 true (.call (.c (.func (.func fn_cmp_Less_int) [] [])) [(.t 23), (.t 28)]), S 30 (.pick (.t 19) (.t 29) (.c (.bool false)))]
@[simp] noncomputable def r6 (_ : Unit) : List Stp := [S 33 (.mv (.t 0)), S 34 (.mv (.t 7)), S 35 (.mv (.t 0)), S 36 (.mv (.t 7)), S 37 (.bin .sub (.t 36) (.c (.int .i64 1))), S 38 (.mv (.t 0)), S 39 (.mv (.t 7)), S 40 (.bin .sub (.t 39) (.c (.int .i64 1))), S 41 (.ixS 1 (.t 38) (.t 40)), S 43 (.mv (.t 0)), S 44 (.mv (.t 7)), S 45 (.ixS 1 (.t 43) (.t 44)), S 42 (.load false 1 (.t 41)), S 46 (.load false 1 (.t 45)), S 47 (.ixS 1 (.t 33) (.t 34)), SN (.store 1 (.t 47) (.t 42)), S 48 (.ixS 1 (.t 35) (.t 37)), SN (.store 1 (.t 48) (.t 46))]
@[simp] noncomputable def r5 (_ : Unit) : List Stp := [S 31 (.mv (.t 7)), S 32 (.bin .sub (.t 31) (.c (.int .i64 1))), S 7 (.mv (.t 32))]
@[simp] noncomputable def r2 (_ : Unit) : List Stp := [S 13 (.mv (.t 6)), S 14 (.bin .add (.t 13) (.c (.int .i64 1))), S 6 (.mv (.t 14))]
@[simp] noncomputable def ir : IR := (.seq (.ops r0) (.block 0 (.loop (.seq (.seq (.ops r1) (.cond (.t 12) .skip (.exit 0))) (.seq (.block 1 (.seq (.ops r3) (.block 2 (.loop (.seq (.seq (.ops r4) (.cond (.t 30) .skip (.exit 2))) (.seq (.block 3 (.ops r6)) (.ops r5))))))) (.ops r2))))))
@[simp] noncomputable def rs : List RV := []
theorem comp : compF Pg cfg Tryz.f136 = some (ir, rs, 49) := by kernel_rfl
theorem enter {args : List AVal} {h : Heap} {K : AEnd → Heap → Prop} (F : Nat) (hl : args.length ≤ 49) (a : AW ⟨Pg, F, 49, false, []⟩ ir (RetK rs K) (initT args) [] h) : ACalls Pg fn_slices_insertionSortOrdered_int args h K :=
  ACalls.of_comp follows Tryz.func136 comp hl a
theorem pure {args : List AVal} {v : AVal} (hl : args.length ≤ 49) (a : AW ⟨Pg, 0, 49, false, []⟩ ir (RetK rs fun e _ => e = .ret v) (initT args) [] nilH) : APure Pg fn_slices_insertionSortOrdered_int args v :=
  APure.of_nil (enter 0 hl a)
end slices_insertionSortOrdered_int

namespace cmp_Less_int
noncomputable def cfg : Cfg := { pure := pures, pcs := [], raw := [], cuts := [], draws := [], keep := [] }
@[simp] noncomputable def r0 (_ : Unit) : List Stp := [S 4 (.mv (.c (.bool false)))]
@[simp] noncomputable def r1 (_ : Unit) : List Stp := [S 5 (.mv (.t 0)), S 6 (.call (.c (.func (.func fn_cmp_isNaN_int) [] [])) [(.t 5)]), S 7 (.mv (.t 6)), SG 8 7 true (.mv (.t 1)), SG 9 7 true (.call (.c (.func (.func fn_cmp_isNaN_int) [] [])) [(.t 8)]), SG 10 7 true (.un .not (.t 9)), S 11 (.pick (.t 7) (.t 10) (.c (.bool false))), S 12 (.mv (.t 11)), SG 13 12 false (.mv (.t 0)), SG 14 12 false (.mv (.t 1)), SG 15 12 false (.bin .lss (.t 13) (.t 14)), S 16 (.pick (.t 12) (.c (.bool true)) (.t 15)), S 4 (.mv (.t 16))]
@[simp] noncomputable def ir : IR := (.seq (.ops r0) (.seq (.ops r1) .ret))
@[simp] noncomputable def rs : List RV := [.tmp 4]
theorem comp : compF Pg cfg Tryz.f142 = some (ir, rs, 17) := by kernel_rfl
theorem enter {args : List AVal} {h : Heap} {K : AEnd → Heap → Prop} (F : Nat) (hl : args.length ≤ 17) (a : AW ⟨Pg, F, 17, false, []⟩ ir (RetK rs K) (initT args) [] h) : ACalls Pg fn_cmp_Less_int args h K :=
  ACalls.of_comp follows Tryz.func142 comp hl a
theorem pure {args : List AVal} {v : AVal} (hl : args.length ≤ 17) (a : AW ⟨Pg, 0, 17, false, []⟩ ir (RetK rs fun e _ => e = .ret v) (initT args) [] nilH) : APure Pg fn_cmp_Less_int args v :=
  APure.of_nil (enter 0 hl a)
end cmp_Less_int

namespace math_bits_Len32
noncomputable def cfg : Cfg := { pure := pures, pcs := [], raw := [], cuts := [], draws := [], keep := [] }
@[simp] noncomputable def r0 (_ : Unit) : List Stp := [S 2 (.mv (.c (.int .i64 0)))]
@[simp] noncomputable def r1 (_ : Unit) : List Stp := [S 3 (.mv (.t 0)), S 4 (.bin .geq (.t 3) (.c (.int .u32 65536)))]
@[simp] noncomputable def r2 (_ : Unit) : List Stp := [S 5 (.mv (.t 0)), S 6 (.bin .shr (.t 5) (.c (.int .u64 16))), S 0 (.mv (.t 6))]
@[simp] noncomputable def r3 (_ : Unit) : List Stp := [S 2 (.mv (.c (.int .i64 16)))]
@[simp] noncomputable def r4 (_ : Unit) : List Stp := [S 7 (.mv (.t 0)), S 8 (.bin .geq (.t 7) (.c (.int .u32 256)))]
@[simp] noncomputable def r5 (_ : Unit) : List Stp := [S 9 (.mv (.t 0)), S 10 (.bin .shr (.t 9) (.c (.int .u64 8))), S 0 (.mv (.t 10))]
@[simp] noncomputable def r6 (_ : Unit) : List Stp := [S 11 (.mv (.t 2)), S 12 (.bin .add (.t 11) (.c (.int .i64 8))), S 2 (.mv (.t 12))]
@[simp] noncomputable def r7 (_ : Unit) : List Stp := [S 13 (.mv (.t 2)), S 14 (.mv (.t 0)), S 15 (.conv .u8 (.t 14)), S 16 (.ixT (.c (.str [0, 1, 2, 2, 3, 3, 3, 3, 4, 4, 4, 4, 4, 4, 4, 4, 5, 5, 5, 5, 5, 5, 5, 5, 5, 5, 5, 5, 5, 5, 5, 5, 6, 6, 6, 6, 6, 6, 6, 6, 6, 6, 6, 6, 6, 6, 6, 6, 6, 6, 6, 6, 6, 6, 6, 6, 6, 6, 6, 6, 6, 6, 6, 6, 7, 7, 7, 7, 7, 7, 7, 7, 7, 7, 7, 7, 7, 7, 7, 7, 7, 7, 7, 7, 7, 7, 7, 7, 7, 7, 7, 7, 7, 7, 7, 7, 7, 7, 7, 7, 7, 7, 7, 7, 7, 7, 7, 7, 7, 7, 7, 7, 7, 7, 7, 7, 7, 7, 7, 7, 7, 7, 7, 7, 7, 7, 7, 7, 8, 8, 8, 8, 8, 8, 8, 8, 8, 8, 8, 8, 8, 8, 8, 8, 8, 8, 8, 8, 8, 8, 8, 8, 8, 8, 8, 8, 8, 8, 8, 8, 8, 8, 8, 8, 8, 8, 8, 8, 8, 8, 8, 8, 8, 8, 8, 8, 8, 8, 8, 8, 8, 8, 8, 8, 8, 8, 8, 8, 8, 8, 8, 8, 8, 8, 8, 8, 8, 8, 8, 8, 8, 8, 8, 8, 8, 8, 8, 8, 8, 8, 8, 8, 8, 8, 8, 8, 8, 8, 8, 8, 8, 8, 8, 8, 8, 8, 8, 8, 8, 8, 8, 8, 8, 8, 8, 8, 8, 8, 8, 8, 8, 8, 8, 8, 8, 8, 8, 8, 8, 8, 8, 8, 8, 8, 8, 8])) (.t 15)), S 17 (.conv .i64 (.t 16)), S 18 (.bin .add (.t 13) (.t 17)), S 2 (.mv (.t 18))]
@[simp] noncomputable def ir : IR := (.seq (.ops r0) (.seq (.seq (.ops r1) (.cond (.t 4) (.seq (.ops r2) (.ops r3)) .skip)) (.seq (.seq (.ops r4) (.cond (.t 8) (.seq (.ops r5) (.ops r6)) .skip)) (.seq (.ops r7) .ret))))
@[simp] noncomputable def rs : List RV := [.tmp 2]
theorem comp : compF Pg cfg Tryz.f145 = some (ir, rs, 19) := by kernel_rfl
theorem enter {args : List AVal} {h : Heap} {K : AEnd → Heap → Prop} (F : Nat) (hl : args.length ≤ 19) (a : AW ⟨Pg, F, 19, false, []⟩ ir (RetK rs K) (initT args) [] h) : ACalls Pg fn_math_bits_Len32 args h K :=
  ACalls.of_comp follows Tryz.func145 comp hl a
theorem pure {args : List AVal} {v : AVal} (hl : args.length ≤ 19) (a : AW ⟨Pg, 0, 19, false, []⟩ ir (RetK rs fun e _ => e = .ret v) (initT args) [] nilH) : APure Pg fn_math_bits_Len32 args v :=
  APure.of_nil (enter 0 hl a)
end math_bits_Len32

namespace math_bits_Len64
noncomputable def cfg : Cfg := { pure := pures, pcs := [], raw := [], cuts := [], draws := [], keep := [] }
@[simp] noncomputable def r0 (_ : Unit) : List Stp := [S 2 (.mv (.c (.int .i64 0)))]
@[simp] noncomputable def r1 (_ : Unit) : List Stp := [S 3 (.mv (.t 0)), S 4 (.bin .geq (.t 3) (.c (.int .u64 4294967296)))]
@[simp] noncomputable def r2 (_ : Unit) : List Stp := [S 5 (.mv (.t 0)), S 6 (.bin .shr (.t 5) (.c (.int .u64 32))), S 0 (.mv (.t 6))]
@[simp] noncomputable def r3 (_ : Unit) : List Stp := [S 2 (.mv (.c (.int .i64 32)))]
@[simp] noncomputable def r4 (_ : Unit) : List Stp := [S 7 (.mv (.t 0)), S 8 (.bin .geq (.t 7) (.c (.int .u64 65536)))]
@[simp] noncomputable def r5 (_ : Unit) : List Stp := [S 9 (.mv (.t 0)), S 10 (.bin .shr (.t 9) (.c (.int .u64 16))), S 0 (.mv (.t 10))]
@[simp] noncomputable def r6 (_ : Unit) : List Stp := [S 11 (.mv (.t 2)), S 12 (.bin .add (.t 11) (.c (.int .i64 16))), S 2 (.mv (.t 12))]
@[simp] noncomputable def r7 (_ : Unit) : List Stp := [S 13 (.mv (.t 0)), S 14 (.bin .geq (.t 13) (.c (.int .u64 256)))]
@[simp] noncomputable def r8 (_ : Unit) : List Stp := [S 15 (.mv (.t 0)), S 16 (.bin .shr (.t 15) (.c (.int .u64 8))), S 0 (.mv (.t 16))]
@[simp] noncomputable def r9 (_ : Unit) : List Stp := [S 17 (.mv (.t 2)), S 18 (.bin .add (.t 17) (.c (.int .i64 8))), S 2 (.mv (.t 18))]
@[simp] noncomputable def r10 (_ : Unit) : List Stp := [S 19 (.mv (.t 2)), S 20 (.mv (.t 0)), S 21 (.conv .u8 (.t 20)), S 22 (.ixT (.c (.str [0, 1, 2, 2, 3, 3, 3, 3, 4, 4, 4, 4, 4, 4, 4, 4, 5, 5, 5, 5, 5, 5, 5, 5, 5, 5, 5, 5, 5, 5, 5, 5, 6, 6, 6, 6, 6, 6, 6, 6, 6, 6, 6, 6, 6, 6, 6, 6, 6, 6, 6, 6, 6, 6, 6, 6, 6, 6, 6, 6, 6, 6, 6, 6, 7, 7, 7, 7, 7, 7, 7, 7, 7, 7, 7, 7, 7, 7, 7, 7, 7, 7, 7, 7, 7, 7, 7, 7, 7, 7, 7, 7, 7, 7, 7, 7, 7, 7, 7, 7, 7, 7, 7, 7, 7, 7, 7, 7, 7, 7, 7, 7, 7, 7, 7, 7, 7, 7, 7, 7, 7, 7, 7, 7, 7, 7, 7, 7, 8, 8, 8, 8, 8, 8, 8, 8, 8, 8, 8, 8, 8, 8, 8, 8, 8, 8, 8, 8, 8, 8, 8, 8, 8, 8, 8, 8, 8, 8, 8, 8, 8, 8, 8, 8, 8, 8, 8, 8, 8, 8, 8, 8, 8, 8, 8, 8, 8, 8, 8, 8, 8, 8, 8, 8, 8, 8, 8, 8, 8, 8, 8, 8, 8, 8, 8, 8, 8, 8, 8, 8, 8, 8, 8, 8, 8, 8, 8, 8, 8, 8, 8, 8, 8, 8, 8, 8, 8, 8, 8, 8, 8, 8, 8, 8, 8, 8, 8, 8, 8, 8, 8, 8, 8, 8, 8, 8, 8, 8, 8, 8, 8, 8, 8, 8, 8, 8, 8, 8, 8, 8, 8, 8, 8, 8, 8, 8])) (.t 21)), S 23 (.conv .i64 (.t 22)), S 24 (.bin .add (.t 19) (.t 23)), S 2 (.mv (.t 24))]
@[simp] noncomputable def ir : IR := (.seq (.ops r0) (.seq (.seq (.ops r1) (.cond (.t 4) (.seq (.ops r2) (.ops r3)) .skip)) (.seq (.seq (.ops r4) (.cond (.t 8) (.seq (.ops r5) (.ops r6)) .skip)) (.seq (.seq (.ops r7) (.cond (.t 14) (.seq (.ops r8) (.ops r9)) .skip)) (.seq (.ops r10) .ret)))))
@[simp] noncomputable def rs : List RV := [.tmp 2]
theorem comp : compF Pg cfg Tryz.f146 = some (ir, rs, 25) := by kernel_rfl
theorem enter {args : List AVal} {h : Heap} {K : AEnd → Heap → Prop} (F : Nat) (hl : args.length ≤ 25) (a : AW ⟨Pg, F, 25, false, []⟩ ir (RetK rs K) (initT args) [] h) : ACalls Pg fn_math_bits_Len64 args h K :=
  ACalls.of_comp follows Tryz.func146 comp hl a
theorem pure {args : List AVal} {v : AVal} (hl : args.length ≤ 25) (a : AW ⟨Pg, 0, 25, false, []⟩ ir (RetK rs fun e _ => e = .ret v) (initT args) [] nilH) : APure Pg fn_math_bits_Len64 args v :=
  APure.of_nil (enter 0 hl a)
end math_bits_Len64

namespace slices_rotateCmpFunc_api_AgainWork
noncomputable def cfg : Cfg := { pure := pures, pcs := [], raw := [], cuts := [], draws := [], keep := [] }
@[simp] noncomputable def r0 (_ : Unit) : List Stp := [S 12 (.mv (.t 2)), S 13 (.mv (.t 1)), S 14 (.bin .sub (.t 12) (.t 13)), S 10 (.mv (.t 14))]
@[simp] noncomputable def r1 (_ : Unit) : List Stp := [S 15 (.mv (.t 3)), S 16 (.mv (.t 2)), S 17 (.bin .sub (.t 15) (.t 16)), S 11 (.mv (.t 17))]
@[simp] noncomputable def r2 (_ : Unit) : List Stp := [S 18 (.mv (.t 10)), S 19 (.mv (.t 11)), S 20 (.bin .neq (.t 18) (.t 19))]
@[simp] noncomputable def r3 (_ : Unit) : List Stp := [S 21 (.mv (.t 10)), S 22 (.mv (.t 11)), S 23 (.bin .gtr (.t 21) (.t 22))]
@[simp] noncomputable def r4 (_ : Unit) : List Stp := [S 24 (.mv (.t 0)), S 25 (.mv (.t 2)), S 26 (.mv (.t 10)), S 27 (.bin .sub (.t 25) (.t 26)), S 28 (.mv (.t 2)), S 29 (.mv (.t 11)), S 30 (.mv (.t 4)), S 31 (.call (.c (.func (.func fn_slices_swapRangeCmpFunc_api_AgainWork) [] [])) [(.t 24), (.t 27), (.t 28), (.t 29), (.t 30)])]
@[simp] noncomputable def r5 (_ : Unit) : List Stp := [S 32 (.mv (.t 10)), S 33 (.mv (.t 11)), S 34 (.bin .sub (.t 32) (.t 33)), S 10 (.mv (.t 34))]
@[simp] noncomputable def r6 (_ : Unit) : List Stp := [S 35 (.mv (.t 0)), S 36 (.mv (.t 2)), S 37 (.mv (.t 10)), S 38 (.bin .sub (.t 36) (.t 37)), S 39 (.mv (.t 2)), S 40 (.mv (.t 11)), S 41 (.bin .add (.t 39) (.t 40)), S 42 (.mv (.t 10)), S 43 (.bin .sub (.t 41) (.t 42)), S 44 (.mv (.t 10)), S 45 (.mv (.t 4)), S 46 (.call (.c (.func (.func fn_slices_swapRangeCmpFunc_api_AgainWork) [] [])) [(.t 35), (.t 38), (.t 43), (.t 44), (.t 45)])]
@[simp] noncomputable def r7 (_ : Unit) : List Stp := [S 47 (.mv (.t 11)), S 48 (.mv (.t 10)), S 49 (.bin .sub (.t 47) (.t 48)), S 11 (.mv (.t 49))]
@[simp] noncomputable def r8 (_ : Unit) : List Stp := [S 50 (.mv (.t 0)), S 51 (.mv (.t 2)), S 52 (.mv (.t 10)), S 53 (.bin .sub (.t 51) (.t 52)), S 54 (.mv (.t 2)), S 55 (.mv (.t 10)), S 56 (.mv (.t 4)), S 57 (.call (.c (.func (.func fn_slices_swapRangeCmpFunc_api_AgainWork) [] [])) [(.t 50), (.t 53), (.t 54), (.t 55), (.t 56)])]
@[simp] noncomputable def ir : IR := (.seq (.ops r0) (.seq (.ops r1) (.seq (.block 0 (.loop (.seq (.seq (.ops r2) (.cond (.t 20) .skip (.exit 0))) (.block 1 (.seq (.ops r3) (.cond (.t 23) (.seq (.ops r4) (.ops r5)) (.seq (.ops r6) (.ops r7)))))))) (.ops r8))))
@[simp] noncomputable def rs : List RV := []
theorem comp : compF Pg cfg Tryz.f147 = some (ir, rs, 58) := by kernel_rfl
theorem enter {args : List AVal} {h : Heap} {K : AEnd → Heap → Prop} (F : Nat) (hl : args.length ≤ 58) (a : AW ⟨Pg, F, 58, false, []⟩ ir (RetK rs K) (initT args) [] h) : ACalls Pg fn_slices_rotateCmpFunc_api_AgainWork args h K :=
  ACalls.of_comp follows Tryz.func147 comp hl a
theorem pure {args : List AVal} {v : AVal} (hl : args.length ≤ 58) (a : AW ⟨Pg, 0, 58, false, []⟩ ir (RetK rs fun e _ => e = .ret v) (initT args) [] nilH) : APure Pg fn_slices_rotateCmpFunc_api_AgainWork args v :=
  APure.of_nil (enter 0 hl a)
end slices_rotateCmpFunc_api_AgainWork

namespace ref01_Has
noncomputable def cfg : Cfg := { pure := pures, pcs := [], raw := [], cuts := [], draws := [], keep := [] }
@[simp] noncomputable def r0 (_ : Unit) : List Stp := [S 4 (.mv (.c (.bool false)))]
@[simp] noncomputable def r1 (_ : Unit) : List Stp := [S 5 (.mv (.t 0)), S 6 (.mv (.t 1)), SP 7 (.call (.c (.func (.func fn_ref01_power) [] [])) [(.t 6)]), S 8 (.bin .quo (.t 5) (.t 7)), S 9 (.bin .rem (.t 8) (.c (.int .i64 2))), S 10 (.bin .eql (.t 9) (.c (.int .i64 1))), S 4 (.mv (.t 10))]
@[simp] noncomputable def ir : IR := (.seq (.ops r0) (.seq (.ops r1) .ret))
@[simp] noncomputable def rs : List RV := [.tmp 4]
theorem comp : compF Pg cfg Tryz.f148 = some (ir, rs, 11) := by kernel_rfl
theorem enter {args : List AVal} {h : Heap} {K : AEnd → Heap → Prop} (F : Nat) (hl : args.length ≤ 11) (a : AW ⟨Pg, F, 11, false, []⟩ ir (RetK rs K) (initT args) [] h) : ACalls Pg fn_ref01_Has args h K :=
  ACalls.of_comp follows Tryz.func148 comp hl a
theorem pure {args : List AVal} {v : AVal} (hl : args.length ≤ 11) (a : AW ⟨Pg, 0, 11, false, []⟩ ir (RetK rs fun e _ => e = .ret v) (initT args) [] nilH) : APure Pg fn_ref01_Has args v :=
  APure.of_nil (enter 0 hl a)
end ref01_Has

namespace ref01_Sum
noncomputable def cfg : Cfg := { pure := pures, pcs := [], raw := [], cuts := [], draws := [], keep := [] }
@[simp] noncomputable def r0 (_ : Unit) : List Stp := [S 4 (.mv (.c (.int .i64 0)))]
@[simp] noncomputable def r1 (_ : Unit) : List Stp := [S 5 (.mv (.c (.int .i64 0)))]
@[simp] noncomputable def r2 (_ : Unit) : List Stp := [S 6 (.mv (.c (.int .i64 0)))]
@[simp] noncomputable def r3 (_ : Unit) : List Stp := [S 7 (.mv (.t 6)), S 8 (.mv (.t 0)), S 9 (.len (.t 8)), S 10 (.bin .lss (.t 7) (.t 9))]
@[simp] noncomputable def r5 (_ : Unit) : List Stp := [S 13 (.mv (.t 1)), S 14 (.mv (.t 6)), SP 15 (.call (.c (.func (.func fn_ref01_Has) [] [])) [(.t 13), (.t 14)])]
@[simp] noncomputable def r6 (_ : Unit) : List Stp := [S 16 (.mv (.t 5)), S 17 (.mv (.t 0)), S 18 (.mv (.t 6)), S 19 (.ixS 1 (.t 17) (.t 18)), S 20 (.load false 1 (.t 19)), S 21 (.bin .add (.t 16) (.t 20)), S 5 (.mv (.t 21))]
@[simp] noncomputable def r4 (_ : Unit) : List Stp := [S 11 (.mv (.t 6)), S 12 (.bin .add (.t 11) (.c (.int .i64 1))), S 6 (.mv (.t 12))]
@[simp] noncomputable def r7 (_ : Unit) : List Stp := [S 22 (.mv (.t 5)), S 4 (.mv (.t 22))]
@[simp] noncomputable def ir : IR := (.seq (.ops r0) (.seq (.ops r1) (.seq (.seq (.ops r2) (.block 0 (.loop (.seq (.seq (.ops r3) (.cond (.t 10) .skip (.exit 0))) (.seq (.block 1 (.seq (.ops r5) (.cond (.t 15) (.ops r6) .skip))) (.ops r4)))))) (.seq (.ops r7) .ret))))
@[simp] noncomputable def rs : List RV := [.tmp 4]
theorem comp : compF Pg cfg Tryz.f149 = some (ir, rs, 23) := by kernel_rfl
theorem enter {args : List AVal} {h : Heap} {K : AEnd → Heap → Prop} (F : Nat) (hl : args.length ≤ 23) (a : AW ⟨Pg, F, 23, false, []⟩ ir (RetK rs K) (initT args) [] h) : ACalls Pg fn_ref01_Sum args h K :=
  ACalls.of_comp follows Tryz.func149 comp hl a
theorem pure {args : List AVal} {v : AVal} (hl : args.length ≤ 23) (a : AW ⟨Pg, 0, 23, false, []⟩ ir (RetK rs fun e _ => e = .ret v) (initT args) [] nilH) : APure Pg fn_ref01_Sum args v :=
  APure.of_nil (enter 0 hl a)
end ref01_Sum

namespace ref01_wet
noncomputable def cfg : Cfg := { pure := pures, pcs := [], raw := [], cuts := [], draws := [(5, [⟨0, false, [], []⟩, ⟨2, false, [], []⟩, ⟨6, false, [], []⟩, ⟨7, false, [], []⟩, ⟨9, false, [], []⟩, ⟨13, false, [], []⟩, ⟨1, false, [], []⟩, ⟨3, false, [], []⟩, ⟨4, false, [], []⟩, ⟨5, false, [], []⟩, ⟨8, false, [], []⟩, ⟨10, false, [], []⟩, ⟨11, false, [], []⟩, ⟨12, false, [], []⟩, ⟨14, false, [], []⟩, ⟨15, false, [], []⟩, ⟨16, false, [], []⟩])], keep := [] }
@[simp] noncomputable def r0 (_ : Unit) : List Stp := [S 3 (.box (.t 0)), S 6 (.mv (.c (.int .i64 0)))]
@[simp] noncomputable def r1 (_ : Unit) : List Stp := [S 7 (.mv (.c (.int .i64 0)))]
@[simp] noncomputable def r2 (_ : Unit) : List Stp := [S 8 (.mv (.c (.int .i64 0)))]
@[simp] noncomputable def r3 (_ : Unit) : List Stp := [S 9 (.mv (.t 8)), S 10 (.fAddr 0 (.t 3)), S 11 (.load false 1 (.t 10)), S 12 (.len (.t 11)), S 13 (.bin .lss (.t 9) (.t 12))]
@[simp] noncomputable def r5 (_ : Unit) : List Stp := [S 16 (.fAddr 0 (.t 3)), S 18 (.mv (.t 8)), S 22 (.mv (.t 1)), S 23 (.fAddr 0 (.t 3)), S 25 (.mv (.t 8)), S 29 (.mv (.t 2)), S 17 (.load false 1 (.t 16)), S 19 (.ixS 3 (.t 17) (.t 18)), S 20 (.fAddr 0 (.t 19)), S 21 (.load false 1 (.t 20)), S 24 (.load false 1 (.t 23)), S 26 (.ixS 3 (.t 24) (.t 25)), S 27 (.fAddr 1 (.t 26)), S 28 (.load false 1 (.t 27)), S 30 (.bin .mul (.t 28) (.t 29)), S 31 (.bin .add (.t 22) (.t 30)), S 32 (.bin .leq (.t 21) (.t 31))]
@[simp] noncomputable def r6 (_ : Unit) : List Stp := [S 33 (.mv (.t 7)), S 34 (.mv (.t 8)), SP 35 (.call (.c (.func (.func fn_ref01_power) [] [])) [(.t 34)]), S 36 (.bin .add (.t 33) (.t 35)), S 7 (.mv (.t 36))]
@[simp] noncomputable def r4 (_ : Unit) : List Stp := [S 14 (.mv (.t 8)), S 15 (.bin .add (.t 14) (.c (.int .i64 1))), S 8 (.mv (.t 15))]
@[simp] noncomputable def r7 (_ : Unit) : List Stp := [S 37 (.mv (.t 7)), S 6 (.mv (.t 37))]
@[simp] noncomputable def ir : IR := (.seq (.ops r0) (.seq (.ops r1) (.seq (.seq (.ops r2) (.block 0 (.loop (.seq (.seq (.ops r3) (.cond (.t 13) .skip (.exit 0))) (.seq (.block 1 (.seq (.ops r5) (.cond (.t 32) (.ops r6) .skip))) (.ops r4)))))) (.seq (.ops r7) .ret))))
@[simp] noncomputable def rs : List RV := [.tmp 6]
theorem comp : compF Pg cfg Tryz.f150 = some (ir, rs, 38) := by kernel_rfl
theorem enter {args : List AVal} {h : Heap} {K : AEnd → Heap → Prop} (F : Nat) (hl : args.length ≤ 38) (a : AW ⟨Pg, F, 38, false, []⟩ ir (RetK rs K) (initT args) [] h) : ACalls Pg fn_ref01_wet args h K :=
  ACalls.of_comp follows Tryz.func150 comp hl a
theorem pure {args : List AVal} {v : AVal} (hl : args.length ≤ 38) (a : AW ⟨Pg, 0, 38, false, []⟩ ir (RetK rs fun e _ => e = .ret v) (initT args) [] nilH) : APure Pg fn_ref01_wet args v :=
  APure.of_nil (enter 0 hl a)
end ref01_wet

namespace slices_swapRangeCmpFunc_api_AgainWork
noncomputable def cfg : Cfg := { pure := pures, pcs := [], raw := [], cuts := [], draws := [(3, [⟨0, false, [], []⟩, ⟨1, false, [], []⟩, ⟨2, false, [], []⟩, ⟨3, false, [], []⟩, ⟨4, false, [], []⟩, ⟨5, false, [], []⟩, ⟨6, false, [], []⟩, ⟨7, false, [], []⟩, ⟨8, false, [], []⟩, ⟨9, false, [], []⟩, ⟨10, false, [], []⟩, ⟨11, false, [], []⟩, ⟨12, false, [], []⟩, ⟨14, false, [], []⟩, ⟨15, false, [], []⟩, ⟨16, false, [], []⟩, ⟨17, false, [], []⟩, ⟨18, false, [], []⟩, ⟨13, false, [], []⟩, ⟨19, false, [], []⟩, ⟨20, false, [], []⟩, ⟨21, false, [], []⟩, ⟨22, false, [], []⟩, ⟨23, false, [], []⟩])], keep := [] }
@[simp] noncomputable def r0 (_ : Unit) : List Stp := [S 10 (.mv (.c (.int .i64 0)))]
@[simp] noncomputable def r1 (_ : Unit) : List Stp := [S 11 (.mv (.t 10)), S 12 (.mv (.t 3)), S 13 (.bin .lss (.t 11) (.t 12))]
@[simp] noncomputable def r3 (_ : Unit) : List Stp := [S 16 (.mv (.t 0)), S 17 (.mv (.t 1)), S 18 (.mv (.t 10)), S 19 (.bin .add (.t 17) (.t 18)), S 20 (.mv (.t 0)), S 21 (.mv (.t 2)), S 22 (.mv (.t 10)), S 23 (.bin .add (.t 21) (.t 22)), S 24 (.mv (.t 0)), S 25 (.mv (.t 2)), S 26 (.mv (.t 10)), S 27 (.bin .add (.t 25) (.t 26)), S 28 (.ixS 3 (.t 24) (.t 27)), S 30 (.mv (.t 0)), S 31 (.mv (.t 1)), S 32 (.mv (.t 10)), S 33 (.bin .add (.t 31) (.t 32)), S 34 (.ixS 3 (.t 30) (.t 33)), S 29 (.load true 3 (.t 28)), S 35 (.load true 3 (.t 34)), S 36 (.ixS 3 (.t 16) (.t 19)), SN (.store 3 (.t 36) (.t 29)), S 37 (.ixS 3 (.t 20) (.t 23)), SN (.store 3 (.t 37) (.t 35))]
@[simp] noncomputable def r2 (_ : Unit) : List Stp := [S 14 (.mv (.t 10)), S 15 (.bin .add (.t 14) (.c (.int .i64 1))), S 10 (.mv (.t 15))]
@[simp] noncomputable def ir : IR := (.seq (.ops r0) (.block 0 (.loop (.seq (.seq (.ops r1) (.cond (.t 13) .skip (.exit 0))) (.seq (.block 1 (.ops r3)) (.ops r2))))))
@[simp] noncomputable def rs : List RV := []
theorem comp : compF Pg cfg Tryz.f156 = some (ir, rs, 38) := by kernel_rfl
theorem enter {args : List AVal} {h : Heap} {K : AEnd → Heap → Prop} (F : Nat) (hl : args.length ≤ 38) (a : AW ⟨Pg, F, 38, false, []⟩ ir (RetK rs K) (initT args) [] h) : ACalls Pg fn_slices_swapRangeCmpFunc_api_AgainWork args h K :=
  ACalls.of_comp follows Tryz.func156 comp hl a
theorem pure {args : List AVal} {v : AVal} (hl : args.length ≤ 38) (a : AW ⟨Pg, 0, 38, false, []⟩ ir (RetK rs fun e _ => e = .ret v) (initT args) [] nilH) : APure Pg fn_slices_swapRangeCmpFunc_api_AgainWork args v :=
  APure.of_nil (enter 0 hl a)
end slices_swapRangeCmpFunc_api_AgainWork

namespace again_yard_seams
noncomputable def cfg : Cfg := { pure := pures, pcs := [], raw := [], cuts := [], draws := [], keep := [] }
@[simp] noncomputable def r0 (_ : Unit) : List Stp := [S 3 (.box (.t 0)), S 6 (.mv (.c (.int .i64 0)))]
@[simp] noncomputable def r1 (_ : Unit) : List Stp := [S 7 (.mv (.t 2)), S 8 (.mv (.t 1)), S 9 (.mv (.t 1)), S 10 (.nilck Pg (.t 9)), S 11 (.fAddr 0 (.t 10)), S 12 (.fAddr 5 (.t 11)), S 13 (.load false 1 (.t 12)), S 14 (.call (.c (.func (.func fn_again_ship_promised) [] [])) [(.t 8), (.t 13)]), S 15 (.bin .and (.t 7) (.t 14)), S 6 (.mv (.t 15))]
@[simp] noncomputable def ir : IR := (.seq (.ops r0) (.seq (.ops r1) .ret))
@[simp] noncomputable def rs : List RV := [.tmp 6]
theorem comp : compF Pg cfg Tryz.f173 = some (ir, rs, 16) := by kernel_rfl
theorem enter {args : List AVal} {h : Heap} {K : AEnd → Heap → Prop} (F : Nat) (hl : args.length ≤ 16) (a : AW ⟨Pg, F, 16, false, []⟩ ir (RetK rs K) (initT args) [] h) : ACalls Pg fn_again_yard_seams args h K :=
  ACalls.of_comp follows Tryz.func173 comp hl a
theorem pure {args : List AVal} {v : AVal} (hl : args.length ≤ 16) (a : AW ⟨Pg, 0, 16, false, []⟩ ir (RetK rs fun e _ => e = .ret v) (initT args) [] nilH) : APure Pg fn_again_yard_seams args v :=
  APure.of_nil (enter 0 hl a)
end again_yard_seams

namespace again_owner_seams
noncomputable def cfg : Cfg := { pure := pures, pcs := [], raw := [], cuts := [], draws := [], keep := [] }
@[simp] noncomputable def r0 (_ : Unit) : List Stp := [S 3 (.box (.t 0)), S 6 (.mv (.c (.int .i64 0)))]
@[simp] noncomputable def r1 (_ : Unit) : List Stp := [S 7 (.mv (.t 2)), S 8 (.zAddr (.t 3)), S 9 (.load true 0 (.t 8)), S 10 (.mv (.t 1)), S 11 (.mv (.t 2)), S 12 (.call (.c (.func (.func fn_again_yard_seams) [] [])) [(.t 9), (.t 10), (.t 11)]), S 13 (.bin .andNot (.t 7) (.t 12)), S 6 (.mv (.t 13))]
@[simp] noncomputable def ir : IR := (.seq (.ops r0) (.seq (.ops r1) .ret))
@[simp] noncomputable def rs : List RV := [.tmp 6]
theorem comp : compF Pg cfg Tryz.f174 = some (ir, rs, 14) := by kernel_rfl
theorem enter {args : List AVal} {h : Heap} {K : AEnd → Heap → Prop} (F : Nat) (hl : args.length ≤ 14) (a : AW ⟨Pg, F, 14, false, []⟩ ir (RetK rs K) (initT args) [] h) : ACalls Pg fn_again_owner_seams args h K :=
  ACalls.of_comp follows Tryz.func174 comp hl a
theorem pure {args : List AVal} {v : AVal} (hl : args.length ≤ 14) (a : AW ⟨Pg, 0, 14, false, []⟩ ir (RetK rs fun e _ => e = .ret v) (initT args) [] nilH) : APure Pg fn_again_owner_seams args v :=
  APure.of_nil (enter 0 hl a)
end again_owner_seams

namespace again_gang_seams
noncomputable def cfg : Cfg := { pure := pures, pcs := [], raw := [], cuts := [], draws := [], keep := [] }
@[simp] noncomputable def r0 (_ : Unit) : List Stp := [S 3 (.box (.t 0)), S 6 (.mv (.c (.int .i64 0)))]
@[simp] noncomputable def r1 (_ : Unit) : List Stp := [S 9 (.mv (.t 1)), S 10 (.nilck Pg (.t 9)), S 11 (.fAddr 12 (.t 10)), S 12 (.load false 1 (.t 11)), S 13 (.range (.t 12))]
@[simp] noncomputable def r2 (_ : Unit) : List Stp := [S 14 (.next (.t 13)), S 15 (.ext (.t 14) 0)]
@[simp] noncomputable def r3 (_ : Unit) : List Stp := [S 16 (.entry (.t 13)), S 17 (.ext (.t 16) 0), S 18 (.ext (.t 16) 1), S 8 (.alloc [(.int .i64 0), (.int .i64 0), (.int .i64 0)]), S 7 (.mv (.t 17)), SN (.store 3 (.t 8) (.t 18))]
@[simp] noncomputable def r4 (_ : Unit) : List Stp := [S 19 (.fAddr 2 (.t 8)), S 20 (.load false 1 (.t 19)), S 21 (.fAddr 0 (.t 3)), S 22 (.load false 1 (.t 21)), S 23 (.bin .eql (.t 20) (.t 22))]
@[simp] noncomputable def r5 (_ : Unit) : List Stp := [S 24 (.mv (.t 6)), S 25 (.mv (.t 7)), S 26 (.bsl 1 [(.int .i64 0)] [(0, 1, (.t 25))]), S 27 (.call (.c (.func (.func fn_again_setOf) [] [])) [(.t 26)]), S 28 (.bin .or (.t 24) (.t 27)), S 6 (.mv (.t 28))]
@[simp] noncomputable def r6 (_ : Unit) : List Stp := [S 29 (.mv (.t 6)), S 30 (.zAddr (.t 3)), S 31 (.load true 0 (.t 30)), S 32 (.mv (.t 1)), S 33 (.mv (.t 2)), S 34 (.call (.c (.func (.func fn_again_yard_seams) [] [])) [(.t 31), (.t 32), (.t 33)]), S 35 (.bin .and (.t 29) (.t 34)), S 6 (.mv (.t 35))]
@[simp] noncomputable def ir : IR := (.seq (.ops r0) (.seq (.seq (.ops r1) (.block 0 (.loop (.seq (.ops r2) (.seq (.cond (.t 15) .skip (.exit 0)) (.block 1 (.seq (.ops r3) (.seq (.ops r4) (.cond (.t 23) (.ops r5) .skip))))))))) (.seq (.ops r6) .ret)))
@[simp] noncomputable def rs : List RV := [.tmp 6]
theorem comp : compF Pg cfg Tryz.f175 = some (ir, rs, 36) := by kernel_rfl
theorem enter {args : List AVal} {h : Heap} {K : AEnd → Heap → Prop} (F : Nat) (hl : args.length ≤ 36) (a : AW ⟨Pg, F, 36, false, []⟩ ir (RetK rs K) (initT args) [] h) : ACalls Pg fn_again_gang_seams args h K :=
  ACalls.of_comp follows Tryz.func175 comp hl a
theorem pure {args : List AVal} {v : AVal} (hl : args.length ≤ 36) (a : AW ⟨Pg, 0, 36, false, []⟩ ir (RetK rs fun e _ => e = .ret v) (initT args) [] nilH) : APure Pg fn_again_gang_seams args v :=
  APure.of_nil (enter 0 hl a)
end again_gang_seams

namespace leak_hull_can
noncomputable def cfg : Cfg := { pure := pures, pcs := [], raw := [], cuts := [], draws := [], keep := [] }
@[simp] noncomputable def r0 (_ : Unit) : List Stp := [S 4 (.alloc [(.bool false)])]
@[simp] noncomputable def r1 (_ : Unit) : List Stp := [S 5 (.mv (.t 0)), S 6 (.mv (.t 1)), S 7 (.call (.c (.func (.func fn_leak_hull_inflows) [] [])) [(.t 5), (.t 6)])]
@[simp] noncomputable def r2 (_ : Unit) : List Stp := [SN (.store 1 (.t 4) (.c (.bool true)))]
@[simp] noncomputable def r3 (_ : Unit) : List Stp := [SN (.store 1 (.t 4) (.c (.bool false)))]
@[simp] noncomputable def ir : IR := (.seq (.ops r0) (.seq (.seq (.ops r1) (.block 0 (.rangeF (.t 7) [8] .skip (.block 1 (.seq (.ops r2) .ret))))) (.seq (.ops r3) .ret)))
@[simp] noncomputable def rs : List RV := [.cell 4 false 1]
theorem comp : compF Pg cfg Tryz.f176 = some (ir, rs, 9) := by kernel_rfl
theorem enter {args : List AVal} {h : Heap} {K : AEnd → Heap → Prop} (F : Nat) (hl : args.length ≤ 9) (a : AW ⟨Pg, F, 9, false, []⟩ ir (RetK rs K) (initT args) [] h) : ACalls Pg fn_leak_hull_can args h K :=
  ACalls.of_comp follows Tryz.func176 comp hl a
theorem pure {args : List AVal} {v : AVal} (hl : args.length ≤ 9) (a : AW ⟨Pg, 0, 9, false, []⟩ ir (RetK rs fun e _ => e = .ret v) (initT args) [] nilH) : APure Pg fn_leak_hull_can args v :=
  APure.of_nil (enter 0 hl a)
end leak_hull_can

namespace leak_none_can
noncomputable def cfg : Cfg := { pure := pures, pcs := [], raw := [], cuts := [], draws := [], keep := [] }
@[simp] noncomputable def r0 (_ : Unit) : List Stp := [S 4 (.box (.t 0)), S 5 (.box (.t 1)), S 8 (.mv (.c (.bool false)))]
@[simp] noncomputable def r1 (_ : Unit) : List Stp := [S 8 (.mv (.c (.bool true)))]
@[simp] noncomputable def ir : IR := (.seq (.ops r0) (.seq (.ops r1) .ret))
@[simp] noncomputable def rs : List RV := [.tmp 8]
theorem comp : compF Pg cfg Tryz.f177 = some (ir, rs, 9) := by kernel_rfl
theorem enter {args : List AVal} {h : Heap} {K : AEnd → Heap → Prop} (F : Nat) (hl : args.length ≤ 9) (a : AW ⟨Pg, F, 9, false, []⟩ ir (RetK rs K) (initT args) [] h) : ACalls Pg fn_leak_none_can args h K :=
  ACalls.of_comp follows Tryz.func177 comp hl a
theorem pure {args : List AVal} {v : AVal} (hl : args.length ≤ 9) (a : AW ⟨Pg, 0, 9, false, []⟩ ir (RetK rs fun e _ => e = .ret v) (initT args) [] nilH) : APure Pg fn_leak_none_can args v :=
  APure.of_nil (enter 0 hl a)
end leak_none_can

namespace leak_wet_ends
noncomputable def cfg : Cfg := { pure := pures, pcs := [], raw := [], cuts := [], draws := [(1, [⟨1, false, [], []⟩, ⟨3, false, [], []⟩, ⟨4, false, [], []⟩, ⟨5, false, [], []⟩, ⟨0, false, [], []⟩, ⟨2, false, [], []⟩, ⟨6, false, [], []⟩, ⟨7, false, [], []⟩, ⟨8, false, [], []⟩])], keep := [] }
@[simp] noncomputable def r0 (_ : Unit) : List Stp := [S 4 (.box (.t 0)), S 5 (.box (.t 1)), S 8 (.mv (.c (.int .i64 0))), S 9 (.mv (.c (.int .i64 0)))]
@[simp] noncomputable def r1 (_ : Unit) : List Stp := [S 12 (.fAddr 0 (.t 4)), S 14 (.mv (.t 2)), S 15 (.bin .shl (.c (.int .u64 1)) (.t 14)), S 16 (.bin .sub (.t 15) (.c (.int .u64 1))), S 11 (.load true 6 (.t 5)), S 13 (.load false 1 (.t 12)), S 17 (.bin .and (.t 13) (.t 16)), SP 18 (.call (.c (.func (.func fn_leak_inflow_sum) [] [])) [(.t 11), (.t 17)]), S 8 (.mv (.t 18))]
@[simp] noncomputable def r2 (_ : Unit) : List Stp := [S 19 (.mv (.t 8)), S 9 (.mv (.t 19))]
@[simp] noncomputable def r3 (_ : Unit) : List Stp := [S 20 (.mv (.t 2)), S 10 (.mv (.t 20))]
@[simp] noncomputable def r4 (_ : Unit) : List Stp := [S 21 (.mv (.t 10)), S 22 (.mv (.t 3)), S 23 (.len (.t 22)), S 24 (.bin .lss (.t 21) (.t 23))]
@[simp] noncomputable def r6 (_ : Unit) : List Stp := [S 27 (.fAddr 0 (.t 4)), S 28 (.load false 1 (.t 27)), S 29 (.mv (.t 10)), SP 30 (.call (.c (.func (.func fn_leak_set_has) [] [])) [(.t 28), (.t 29)])]
@[simp] noncomputable def r7 (_ : Unit) : List Stp := [S 31 (.mv (.t 9)), S 32 (.mv (.t 3)), S 33 (.mv (.t 10)), S 34 (.ixS 1 (.t 32) (.t 33)), S 35 (.load false 1 (.t 34)), S 36 (.bsl 2 [(.int .i64 0), (.int .i64 0)] [(0, 1, (.t 31)), (1, 1, (.t 35))]), S 37 (.call (.c (.func (.func fn_leak_flows) [] [])) [(.t 36)]), S 9 (.mv (.t 37))]
@[simp] noncomputable def r5 (_ : Unit) : List Stp := [S 25 (.mv (.t 10)), S 26 (.bin .add (.t 25) (.c (.int .i64 1))), S 10 (.mv (.t 26))]
@[simp] noncomputable def r8 (_ : Unit) : List Stp := [S 38 (.mv (.t 8)), S 39 (.mv (.t 9)), S 8 (.mv (.t 38)), S 9 (.mv (.t 39))]
@[simp] noncomputable def ir : IR := (.seq (.ops r0) (.seq (.ops r1) (.seq (.ops r2) (.seq (.seq (.ops r3) (.block 0 (.loop (.seq (.seq (.ops r4) (.cond (.t 24) .skip (.exit 0))) (.seq (.block 1 (.seq (.ops r6) (.cond (.t 30) (.ops r7) .skip))) (.ops r5)))))) (.seq (.ops r8) .ret)))))
@[simp] noncomputable def rs : List RV := [.tmp 8, .tmp 9]
theorem comp : compF Pg cfg Tryz.f178 = some (ir, rs, 40) := by kernel_rfl
theorem enter {args : List AVal} {h : Heap} {K : AEnd → Heap → Prop} (F : Nat) (hl : args.length ≤ 40) (a : AW ⟨Pg, F, 40, false, []⟩ ir (RetK rs K) (initT args) [] h) : ACalls Pg fn_leak_wet_ends args h K :=
  ACalls.of_comp follows Tryz.func178 comp hl a
theorem pure {args : List AVal} {v : AVal} (hl : args.length ≤ 40) (a : AW ⟨Pg, 0, 40, false, []⟩ ir (RetK rs fun e _ => e = .ret v) (initT args) [] nilH) : APure Pg fn_leak_wet_ends args v :=
  APure.of_nil (enter 0 hl a)
end leak_wet_ends

namespace leak_sounding_can
noncomputable def cfg : Cfg := { pure := pures, pcs := [], raw := [], cuts := [], draws := [], keep := [] }
@[simp] noncomputable def r0 (_ : Unit) : List Stp := [S 4 (.box (.t 0)), S 5 (.box (.t 1)), S 8 (.mv (.c (.bool false)))]
@[simp] noncomputable def r1 (_ : Unit) : List Stp := [S 12 (.fAddr 0 (.t 4)), S 13 (.load true 1 (.t 12)), S 14 (.load true 6 (.t 5)), S 15 (.mv (.t 2)), S 16 (.mv (.t 3)), S 17 (.call (.c (.func (.func fn_leak_wet_ends) [] [])) [(.t 13), (.t 14), (.t 15), (.t 16)]), S 11 (.mv (.t 17)), S 18 (.ext (.t 11) 0), S 19 (.ext (.t 11) 1), S 9 (.mv (.t 18)), S 10 (.mv (.t 19))]
@[simp] noncomputable def r2 (_ : Unit) : List Stp := [S 20 (.mv (.t 9)), S 21 (.fAddr 1 (.t 4)), S 22 (.fAddr 1 (.t 21)), S 23 (.load false 1 (.t 22)), S 24 (.bin .leq (.t 20) (.t 23)), S 25 (.mv (.t 24)), SG 26 25 true (.mv (.t 10)), SG 27 25 true (.fAddr 1 (.t 4)), SG 28 25 true (.fAddr 0 (.t 27)), SG 29 25 true (.load false 1 (.t 28)), SG 30 25 true (.bin .geq (.t 26) (.t 29)), S 31 (.pick (.t 25) (.t 30) (.c (.bool false))), S 8 (.mv (.t 31))]
@[simp] noncomputable def ir : IR := (.seq (.ops r0) (.seq (.ops r1) (.seq (.ops r2) .ret)))
@[simp] noncomputable def rs : List RV := [.tmp 8]
theorem comp : compF Pg cfg Tryz.f179 = some (ir, rs, 32) := by kernel_rfl
theorem enter {args : List AVal} {h : Heap} {K : AEnd → Heap → Prop} (F : Nat) (hl : args.length ≤ 32) (a : AW ⟨Pg, F, 32, false, []⟩ ir (RetK rs K) (initT args) [] h) : ACalls Pg fn_leak_sounding_can args h K :=
  ACalls.of_comp follows Tryz.func179 comp hl a
theorem pure {args : List AVal} {v : AVal} (hl : args.length ≤ 32) (a : AW ⟨Pg, 0, 32, false, []⟩ ir (RetK rs fun e _ => e = .ret v) (initT args) [] nilH) : APure Pg fn_leak_sounding_can args v :=
  APure.of_nil (enter 0 hl a)
end leak_sounding_can

end Go.Cw
end

/-  -/
section

end
