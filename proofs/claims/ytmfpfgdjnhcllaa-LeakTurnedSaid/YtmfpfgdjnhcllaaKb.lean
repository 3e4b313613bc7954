/-
  The program's functions in the small form.
-/
import Derived.Test.YtmfpfgdjnhcllaaKa
set_option linter.unusedVariables false
set_option linter.unusedSimpArgs false
set_option linter.unusedSectionVars false

/- Functions in the small form. Printed by a program of this seat's proofs. -/
section
namespace Go.Cw
open Go Go.Proofs

namespace leak_want
noncomputable def cfg : Cfg := { pure := pures, pcs := [], raw := [], cuts := [], draws := [], keep := [] }
@[simp] noncomputable def r0 (_ : Unit) : List Stp := [S 4 (.mv (.t 0)), S 5 (.un .not (.t 4))]
@[simp] noncomputable def r1 (_ : Unit) : List Stp := [S 6 (.mv (.t 1)), S 7 (.build [(.int .i64 0)] [(0, 1, (.t 6))]), S 8 (.mkI 118 (.t 7)), SN (.panic (.t 8))]
@[simp] noncomputable def ir : IR := (.seq (.ops r0) (.cond (.t 5) (.ops r1) .skip))
@[simp] noncomputable def rs : List RV := []
theorem comp : compF Pg cfg Try.f46 = some (ir, rs, 9) := by kernel_rfl
theorem enter {args : List AVal} {h : Heap} {K : AEnd → Heap → Prop} (F : Nat) (hl : args.length ≤ 9) (a : AW ⟨Pg, F, 9, false, []⟩ ir (RetK rs K) (initT args) [] h) : ACalls Pg fn_leak_want args h K :=
  ACalls.of_comp follows Try.func46 comp hl a
theorem pure {args : List AVal} {v : AVal} (hl : args.length ≤ 9) (a : AW ⟨Pg, 0, 9, false, []⟩ ir (RetK rs fun e _ => e = .ret v) (initT args) [] nilH) : APure Pg fn_leak_want args v :=
  APure.of_nil (enter 0 hl a)
end leak_want

namespace leak_hull_can
noncomputable def cfg : Cfg := { pure := pures, pcs := [], raw := [], cuts := [], draws := [], keep := [] }
@[simp] noncomputable def r0 (_ : Unit) : List Stp := [S 4 (.alloc [(.bool false)])]
@[simp] noncomputable def r1 (_ : Unit) : List Stp := [S 5 (.mv (.t 0)), S 6 (.mv (.t 1)), S 7 (.call (.c (.func (.func fn_leak_hull_inflows) [] [])) [(.t 5), (.t 6)])]
@[simp] noncomputable def r2 (_ : Unit) : List Stp := [SN (.store 1 (.t 4) (.c (.bool true)))]
@[simp] noncomputable def r3 (_ : Unit) : List Stp := [SN (.store 1 (.t 4) (.c (.bool false)))]
@[simp] noncomputable def ir : IR := (.seq (.ops r0) (.seq (.seq (.ops r1) (.block 0 (.rangeF (.t 7) [8] .skip (.block 1 (.seq (.ops r2) .ret))))) (.seq (.ops r3) .ret)))
@[simp] noncomputable def rs : List RV := [.cell 4 false 1]
theorem comp : compF Pg cfg Try.f47 = some (ir, rs, 9) := by kernel_rfl
theorem enter {args : List AVal} {h : Heap} {K : AEnd → Heap → Prop} (F : Nat) (hl : args.length ≤ 9) (a : AW ⟨Pg, F, 9, false, []⟩ ir (RetK rs K) (initT args) [] h) : ACalls Pg fn_leak_hull_can args h K :=
  ACalls.of_comp follows Try.func47 comp hl a
theorem pure {args : List AVal} {v : AVal} (hl : args.length ≤ 9) (a : AW ⟨Pg, 0, 9, false, []⟩ ir (RetK rs fun e _ => e = .ret v) (initT args) [] nilH) : APure Pg fn_leak_hull_can args v :=
  APure.of_nil (enter 0 hl a)
end leak_hull_can

namespace leak_hull_every
noncomputable def cfg : Cfg := { pure := pures, pcs := [], raw := [], cuts := [], draws := [], keep := [] }
@[simp] noncomputable def r0 (_ : Unit) : List Stp := [S 2 (.mv (.c (.int .u64 0)))]
@[simp] noncomputable def r1 (_ : Unit) : List Stp := [S 3 (.mv (.t 0)), S 4 (.nilck Pg (.t 3)), S 5 (.fAddr 0 (.t 4)), S 6 (.fAddr 1 (.t 5)), S 7 (.load false 1 (.t 6)), S 8 (.len (.t 7)), S 9 (.bin .shl (.c (.int .u64 1)) (.t 8)), S 10 (.bin .sub (.t 9) (.c (.int .u64 1))), S 2 (.mv (.t 10))]
@[simp] noncomputable def ir : IR := (.seq (.ops r0) (.seq (.ops r1) .ret))
@[simp] noncomputable def rs : List RV := [.tmp 2]
theorem comp : compF Pg cfg Try.f48 = some (ir, rs, 11) := by kernel_rfl
theorem enter {args : List AVal} {h : Heap} {K : AEnd → Heap → Prop} (F : Nat) (hl : args.length ≤ 11) (a : AW ⟨Pg, F, 11, false, []⟩ ir (RetK rs K) (initT args) [] h) : ACalls Pg fn_leak_hull_every args h K :=
  ACalls.of_comp follows Try.func48 comp hl a
theorem pure {args : List AVal} {v : AVal} (hl : args.length ≤ 11) (a : AW ⟨Pg, 0, 11, false, []⟩ ir (RetK rs fun e _ => e = .ret v) (initT args) [] nilH) : APure Pg fn_leak_hull_every args v :=
  APure.of_nil (enter 0 hl a)
end leak_hull_every

namespace math_bits_OnesCount
noncomputable def cfg : Cfg := { pure := pures, pcs := [], raw := [], cuts := [], draws := [], keep := [] }
@[simp] noncomputable def r0 (_ : Unit) : List Stp := [S 2 (.mv (.c (.int .i64 0)))]
@[simp] noncomputable def r1 (_ : Unit) : List Stp := [S 3 (.mv (.t 0)), S 4 (.conv .u32 (.t 3)), SP 5 (.call (.c (.func (.func fn_math_bits_OnesCount32) [] [])) [(.t 4)]), S 2 (.mv (.t 5))]
@[simp] noncomputable def r2 (_ : Unit) : List Stp := [S 6 (.mv (.t 0)), SP 7 (.call (.c (.func (.func fn_math_bits_OnesCount64) [] [])) [(.t 6)]), S 2 (.mv (.t 7))]
@[simp] noncomputable def ir : IR := (.seq (.ops r0) (.seq (.cond (.c (.bool false)) (.seq (.ops r1) .ret) .skip) (.seq (.ops r2) .ret)))
@[simp] noncomputable def rs : List RV := [.tmp 2]
theorem comp : compF Pg cfg Try.f49 = some (ir, rs, 8) := by kernel_rfl
theorem enter {args : List AVal} {h : Heap} {K : AEnd → Heap → Prop} (F : Nat) (hl : args.length ≤ 8) (a : AW ⟨Pg, F, 8, false, []⟩ ir (RetK rs K) (initT args) [] h) : ACalls Pg fn_math_bits_OnesCount args h K :=
  ACalls.of_comp follows Try.func49 comp hl a
theorem pure {args : List AVal} {v : AVal} (hl : args.length ≤ 8) (a : AW ⟨Pg, 0, 8, false, []⟩ ir (RetK rs fun e _ => e = .ret v) (initT args) [] nilH) : APure Pg fn_math_bits_OnesCount args v :=
  APure.of_nil (enter 0 hl a)
end math_bits_OnesCount

namespace ref01_every
noncomputable def cfg : Cfg := { pure := pures, pcs := [], raw := [], cuts := [], draws := [], keep := [] }
@[simp] noncomputable def r0 (_ : Unit) : List Stp := [S 1 (.box (.t 0)), S 2 (.mv (.c (.int .i64 0)))]
@[simp] noncomputable def r1 (_ : Unit) : List Stp := [S 3 (.fAddr 1 (.t 1)), S 4 (.load false 1 (.t 3)), S 5 (.len (.t 4)), SP 6 (.call (.c (.func (.func fn_ref01_power) [] [])) [(.t 5)]), S 7 (.bin .sub (.t 6) (.c (.int .i64 1))), S 2 (.mv (.t 7))]
@[simp] noncomputable def ir : IR := (.seq (.ops r0) (.seq (.ops r1) .ret))
@[simp] noncomputable def rs : List RV := [.tmp 2]
theorem comp : compF Pg cfg Try.f50 = some (ir, rs, 8) := by kernel_rfl
theorem enter {args : List AVal} {h : Heap} {K : AEnd → Heap → Prop} (F : Nat) (hl : args.length ≤ 8) (a : AW ⟨Pg, F, 8, false, []⟩ ir (RetK rs K) (initT args) [] h) : ACalls Pg fn_ref01_every args h K :=
  ACalls.of_comp follows Try.func50 comp hl a
theorem pure {args : List AVal} {v : AVal} (hl : args.length ≤ 8) (a : AW ⟨Pg, 0, 8, false, []⟩ ir (RetK rs fun e _ => e = .ret v) (initT args) [] nilH) : APure Pg fn_ref01_every args v :=
  APure.of_nil (enter 0 hl a)
end ref01_every

namespace ref01_truths
noncomputable def cfg : Cfg := { pure := pures, pcs := [], raw := [], cuts := [], draws := [(8, [⟨1, false, [], []⟩, ⟨3, false, [], []⟩, ⟨5, false, [], []⟩, ⟨8, false, [], []⟩, ⟨0, false, [], []⟩, ⟨2, true, [], []⟩, ⟨6, true, [], []⟩, ⟨4, false, [], [0]⟩, ⟨7, false, [], [0]⟩, ⟨9, false, [], []⟩, ⟨10, false, [], []⟩])], keep := [] }
@[simp] noncomputable def r0 (_ : Unit) : List Stp := [S 4 (.box (.t 0)), S 8 (.mv (.c .nils))]
@[simp] noncomputable def r1 (_ : Unit) : List Stp := [S 10 (.mv (.t 2)), S 11 (.len (.t 10)), S 12 (.fAddr 0 (.t 4)), S 13 (.load false 1 (.t 12)), S 14 (.len (.t 13)), S 15 (.bin .eql (.t 11) (.t 14))]
@[simp] noncomputable def r2 (_ : Unit) : List Stp := [S 16 (.load true 2 (.t 4)), S 17 (.mv (.t 2)), S 18 (.mv (.t 1)), SP 19 (.call (.c (.func (.func fn_ref01_right) [] [])) [(.t 16), (.t 17), (.t 18)])]
@[simp] noncomputable def r3 (_ : Unit) : List Stp := [S 20 (.mv (.t 3)), S 21 (.mv (.t 2)), S 22 (.bsl 1 [.nils] [(0, 1, (.t 21))]), S 23 (.app 1 24 (.t 20) (.t 22)), S 3 (.mv (.t 23))]
@[simp] noncomputable def r4 (_ : Unit) : List Stp := [S 24 (.mv (.t 3)), S 8 (.mv (.t 24))]
@[simp] noncomputable def r5 (_ : Unit) : List Stp := [S 9 (.mv (.c (.int .i64 0)))]
@[simp] noncomputable def r6 (_ : Unit) : List Stp := [S 25 (.mv (.t 9)), S 26 (.fAddr 0 (.t 4)), S 27 (.load false 1 (.t 26)), S 28 (.mv (.t 2)), S 29 (.len (.t 28)), S 30 (.ixS 3 (.t 27) (.t 29)), S 31 (.fAddr 2 (.t 30)), S 32 (.load false 1 (.t 31)), S 33 (.bin .leq (.t 25) (.t 32))]
@[simp] noncomputable def r8 (_ : Unit) : List Stp := [S 37 (.mv (.t 1)), S 39 (.mv (.t 2)), S 41 (.mv (.t 9)), S 44 (.mv (.t 3)), S 36 (.load true 2 (.t 4)), SD (some 38) (.bsl 0 [] []) true [] [], SD (some 42) (.bsl 1 [(.int .i64 0)] [(0, 1, (.t 41))]) true [] [], SD (some 40) (.app 1 8 (.t 38) (.t 39)) false [] [I 36 (.load true 2 (.t 4))], SD (some 43) (.app 1 8 (.t 40) (.t 42)) false [] [I 36 (.load true 2 (.t 4))], S 45 (.call (.c (.func (.func fn_ref01_truths) [] [])) [(.t 36), (.t 37), (.t 43), (.t 44)]), S 3 (.mv (.t 45))]
@[simp] noncomputable def r7 (_ : Unit) : List Stp := [S 34 (.mv (.t 9)), S 35 (.bin .add (.t 34) (.c (.int .i64 1))), S 9 (.mv (.t 35))]
@[simp] noncomputable def r9 (_ : Unit) : List Stp := [S 46 (.mv (.t 3)), S 8 (.mv (.t 46))]
@[simp] noncomputable def ir : IR := (.seq (.ops r0) (.seq (.seq (.ops r1) (.cond (.t 15) (.seq (.seq (.ops r2) (.cond (.t 19) (.ops r3) .skip)) (.seq (.ops r4) .ret)) .skip)) (.seq (.seq (.ops r5) (.block 0 (.loop (.seq (.seq (.ops r6) (.cond (.t 33) .skip (.exit 0))) (.seq (.block 1 (.ops r8)) (.ops r7)))))) (.seq (.ops r9) .ret))))
@[simp] noncomputable def rs : List RV := [.tmp 8]
theorem comp : compF Pg cfg Try.f51 = some (ir, rs, 47) := by kernel_rfl
theorem enter {args : List AVal} {h : Heap} {K : AEnd → Heap → Prop} (F : Nat) (hl : args.length ≤ 47) (a : AW ⟨Pg, F, 47, false, []⟩ ir (RetK rs K) (initT args) [] h) : ACalls Pg fn_ref01_truths args h K :=
  ACalls.of_comp follows Try.func51 comp hl a
theorem pure {args : List AVal} {v : AVal} (hl : args.length ≤ 47) (a : AW ⟨Pg, 0, 47, false, []⟩ ir (RetK rs fun e _ => e = .ret v) (initT args) [] nilH) : APure Pg fn_ref01_truths args v :=
  APure.of_nil (enter 0 hl a)
end ref01_truths

namespace leak_Wet_1
noncomputable def cfg : Cfg := { pure := pures, pcs := [], raw := [], cuts := [], draws := [], keep := [] }
@[simp] noncomputable def r0 (_ : Unit) : List Stp := [S 1 (.recov), S 2 (.call (.c (.func (.func fn_leak_said) [] [])) [(.t 1), (.t 0)])]
@[simp] noncomputable def ir : IR := (.ops r0)
@[simp] noncomputable def rs : List RV := []
theorem comp : compF Pg cfg Try.f52 = some (ir, rs, 3) := by kernel_rfl
theorem enter {args : List AVal} {h : Heap} {K : AEnd → Heap → Prop} (F : Nat) (hl : args.length ≤ 3) (a : AW ⟨Pg, F, 3, false, []⟩ ir (RetK rs K) (initT args) [] h) : ACalls Pg fn_leak_Wet_1 args h K :=
  ACalls.of_comp follows Try.func52 comp hl a
theorem pure {args : List AVal} {v : AVal} (hl : args.length ≤ 3) (a : AW ⟨Pg, 0, 3, false, []⟩ ir (RetK rs fun e _ => e = .ret v) (initT args) [] nilH) : APure Pg fn_leak_Wet_1 args v :=
  APure.of_nil (enter 0 hl a)
theorem recClo : RecClo Pg fn_leak_Wet_1 fn_leak_said := ⟨_, Try.func52, by kernel_rfl⟩
end leak_Wet_1

namespace leak_place_isPlace
noncomputable def cfg : Cfg := { pure := pures, pcs := [], raw := [], cuts := [], draws := [], keep := [] }
@[simp] noncomputable def r0 (_ : Unit) : List Stp := [S 1 (.box (.t 0)), S 2 (.mv (.c (.bool false)))]
@[simp] noncomputable def r1 (_ : Unit) : List Stp := [S 3 (.fAddr 0 (.t 1)), S 4 (.load false 1 (.t 3)), SP 5 (.call (.c (.func (.func fn_leak_within) [] [])) [(.t 4), (.c (.int .i64 0)), (.c (.int .i64 12))]), S 6 (.mv (.t 5)), SG 7 6 true (.fAddr 1 (.t 1)), SG 8 6 true (.load false 1 (.t 7)), SGP 9 6 true (.call (.c (.func (.func fn_leak_within) [] [])) [(.t 8), (.c (.int .i64 (-3))), (.c (.int .i64 3))]), S 10 (.pick (.t 6) (.t 9) (.c (.bool false))), S 2 (.mv (.t 10))]
@[simp] noncomputable def ir : IR := (.seq (.ops r0) (.seq (.ops r1) .ret))
@[simp] noncomputable def rs : List RV := [.tmp 2]
theorem comp : compF Pg cfg Try.f53 = some (ir, rs, 11) := by kernel_rfl
theorem enter {args : List AVal} {h : Heap} {K : AEnd → Heap → Prop} (F : Nat) (hl : args.length ≤ 11) (a : AW ⟨Pg, F, 11, false, []⟩ ir (RetK rs K) (initT args) [] h) : ACalls Pg fn_leak_place_isPlace args h K :=
  ACalls.of_comp follows Try.func53 comp hl a
theorem pure {args : List AVal} {v : AVal} (hl : args.length ≤ 11) (a : AW ⟨Pg, 0, 11, false, []⟩ ir (RetK rs fun e _ => e = .ret v) (initT args) [] nilH) : APure Pg fn_leak_place_isPlace args v :=
  APure.of_nil (enter 0 hl a)
end leak_place_isPlace

namespace leak_hull_wet
noncomputable def cfg : Cfg := { pure := pures, pcs := [], raw := [], cuts := [], draws := [(1, [⟨0, false, [], []⟩, ⟨1, false, [], []⟩, ⟨2, false, [], []⟩, ⟨3, false, [], []⟩, ⟨4, false, [], []⟩, ⟨5, false, [], []⟩, ⟨6, false, [], []⟩, ⟨7, false, [], []⟩, ⟨8, false, [], []⟩, ⟨9, false, [], []⟩, ⟨10, false, [], []⟩]), (11, [⟨0, false, [], []⟩, ⟨1, false, [], []⟩, ⟨2, false, [], []⟩, ⟨5, false, [], []⟩, ⟨3, false, [], []⟩, ⟨4, false, [], []⟩, ⟨6, false, [], []⟩])], keep := [] }
@[simp] noncomputable def r0 (_ : Unit) : List Stp := [S 3 (.box (.t 1)), S 4 (.mv (.c (.int .u64 0)))]
@[simp] noncomputable def r1 (_ : Unit) : List Stp := [S 11 (.mv (.t 0)), S 12 (.nilck Pg (.t 11)), S 13 (.fAddr 3 (.t 12)), S 14 (.load false 1 (.t 13)), S 15 (.load true 2 (.t 3)), S 16 (.lookup (true, [.i, .i]) true (.int .u64 0) (.t 14) (.t 15)), S 10 (.mv (.t 16)), S 17 (.ext (.t 10) 0), S 18 (.ext (.t 10) 1), S 5 (.mv (.t 17)), S 6 (.mv (.t 18))]
@[simp] noncomputable def r2 (_ : Unit) : List Stp := [S 19 (.mv (.t 6))]
@[simp] noncomputable def r3 (_ : Unit) : List Stp := [S 20 (.mv (.t 5)), S 4 (.mv (.t 20))]
@[simp] noncomputable def r4 (_ : Unit) : List Stp := [S 7 (.mv (.c (.int .u64 0)))]
@[simp] noncomputable def r5 (_ : Unit) : List Stp := [S 21 (.mv (.t 0)), S 22 (.nilck Pg (.t 21)), S 23 (.fAddr 0 (.t 22)), S 24 (.fAddr 0 (.t 23)), S 25 (.load false 1 (.t 24)), S 26 (.len (.t 25)), S 27 (.mv (.c (.int .i64 0)))]
@[simp] noncomputable def r6 (_ : Unit) : List Stp := [S 28 (.bin .lss (.t 27) (.t 26))]
@[simp] noncomputable def r7 (_ : Unit) : List Stp := [S 29 (.mv (.t 27)), S 30 (.ixS 3 (.t 25) (.t 27)), S 31 (.load true 3 (.t 30)), S 9 (.alloc [(.int .i64 0), (.int .i64 0), (.int .i64 0)]), S 8 (.mv (.t 29)), SN (.store 3 (.t 9) (.t 31))]
@[simp] noncomputable def r8 (_ : Unit) : List Stp := [S 32 (.fAddr 0 (.t 9)), S 33 (.load false 1 (.t 32)), S 34 (.fAddr 0 (.t 3)), S 35 (.load false 1 (.t 34)), S 36 (.fAddr 1 (.t 9)), S 37 (.load false 1 (.t 36)), S 38 (.fAddr 1 (.t 3)), S 39 (.load false 1 (.t 38)), S 40 (.bin .mul (.t 37) (.t 39)), S 41 (.bin .add (.t 35) (.t 40)), S 42 (.bin .leq (.t 33) (.t 41))]
@[simp] noncomputable def r9 (_ : Unit) : List Stp := [S 43 (.mv (.t 7)), S 44 (.mv (.t 8)), S 45 (.bin .shl (.c (.int .u64 1)) (.t 44)), S 46 (.bin .or (.t 43) (.t 45)), S 7 (.mv (.t 46))]
@[simp] noncomputable def r10 (_ : Unit) : List Stp := [S 47 (.bin .add (.t 27) (.c (.int .i64 1))), S 27 (.mv (.t 47))]
@[simp] noncomputable def r11 (_ : Unit) : List Stp := [S 48 (.mv (.t 0)), S 49 (.nilck Pg (.t 48)), S 50 (.fAddr 3 (.t 49)), S 53 (.mv (.t 7)), S 51 (.load false 1 (.t 50)), S 52 (.load true 2 (.t 3)), SN (.mapU (true, [.i, .i]) (.t 51) (.t 52) (.t 53))]
@[simp] noncomputable def r12 (_ : Unit) : List Stp := [S 54 (.mv (.t 7)), S 4 (.mv (.t 54))]
@[simp] noncomputable def ir : IR := (.seq (.ops r0) (.seq (.seq (.ops r1) (.seq (.ops r2) (.cond (.t 19) (.seq (.ops r3) .ret) .skip))) (.seq (.ops r4) (.seq (.seq (.ops r5) (.block 0 (.loop (.seq (.ops r6) (.seq (.cond (.t 28) .skip (.exit 0)) (.seq (.block 1 (.seq (.ops r7) (.seq (.ops r8) (.cond (.t 42) (.ops r9) .skip)))) (.ops r10))))))) (.seq (.ops r11) (.seq (.ops r12) .ret))))))
@[simp] noncomputable def rs : List RV := [.tmp 4]
theorem comp : compF Pg cfg Try.f54 = some (ir, rs, 55) := by kernel_rfl
theorem enter {args : List AVal} {h : Heap} {K : AEnd → Heap → Prop} (F : Nat) (hl : args.length ≤ 55) (a : AW ⟨Pg, F, 55, false, []⟩ ir (RetK rs K) (initT args) [] h) : ACalls Pg fn_leak_hull_wet args h K :=
  ACalls.of_comp follows Try.func54 comp hl a
theorem pure {args : List AVal} {v : AVal} (hl : args.length ≤ 55) (a : AW ⟨Pg, 0, 55, false, []⟩ ir (RetK rs fun e _ => e = .ret v) (initT args) [] nilH) : APure Pg fn_leak_hull_wet args v :=
  APure.of_nil (enter 0 hl a)
end leak_hull_wet

namespace leak_Rate_1
noncomputable def cfg : Cfg := { pure := pures, pcs := [], raw := [], cuts := [], draws := [], keep := [] }
@[simp] noncomputable def r0 (_ : Unit) : List Stp := [S 1 (.recov), S 2 (.call (.c (.func (.func fn_leak_said) [] [])) [(.t 1), (.t 0)])]
@[simp] noncomputable def ir : IR := (.ops r0)
@[simp] noncomputable def rs : List RV := []
theorem comp : compF Pg cfg Try.f55 = some (ir, rs, 3) := by kernel_rfl
theorem enter {args : List AVal} {h : Heap} {K : AEnd → Heap → Prop} (F : Nat) (hl : args.length ≤ 3) (a : AW ⟨Pg, F, 3, false, []⟩ ir (RetK rs K) (initT args) [] h) : ACalls Pg fn_leak_Rate_1 args h K :=
  ACalls.of_comp follows Try.func55 comp hl a
theorem pure {args : List AVal} {v : AVal} (hl : args.length ≤ 3) (a : AW ⟨Pg, 0, 3, false, []⟩ ir (RetK rs fun e _ => e = .ret v) (initT args) [] nilH) : APure Pg fn_leak_Rate_1 args v :=
  APure.of_nil (enter 0 hl a)
theorem recClo : RecClo Pg fn_leak_Rate_1 fn_leak_said := ⟨_, Try.func55, by kernel_rfl⟩
end leak_Rate_1

namespace leak_within
noncomputable def cfg : Cfg := { pure := pures, pcs := [], raw := [], cuts := [], draws := [], keep := [] }
@[simp] noncomputable def r0 (_ : Unit) : List Stp := [S 6 (.mv (.c (.bool false)))]
@[simp] noncomputable def r1 (_ : Unit) : List Stp := [S 7 (.mv (.t 1)), S 8 (.mv (.t 0)), S 9 (.bin .leq (.t 7) (.t 8)), S 10 (.mv (.t 9)), SG 11 10 true (.mv (.t 0)), SG 12 10 true (.mv (.t 2)), SG 13 10 true (.bin .leq (.t 11) (.t 12)), S 14 (.pick (.t 10) (.t 13) (.c (.bool false))), S 6 (.mv (.t 14))]
@[simp] noncomputable def ir : IR := (.seq (.ops r0) (.seq (.ops r1) .ret))
@[simp] noncomputable def rs : List RV := [.tmp 6]
theorem comp : compF Pg cfg Try.f56 = some (ir, rs, 15) := by kernel_rfl
theorem enter {args : List AVal} {h : Heap} {K : AEnd → Heap → Prop} (F : Nat) (hl : args.length ≤ 15) (a : AW ⟨Pg, F, 15, false, []⟩ ir (RetK rs K) (initT args) [] h) : ACalls Pg fn_leak_within args h K :=
  ACalls.of_comp follows Try.func56 comp hl a
theorem pure {args : List AVal} {v : AVal} (hl : args.length ≤ 15) (a : AW ⟨Pg, 0, 15, false, []⟩ ir (RetK rs fun e _ => e = .ret v) (initT args) [] nilH) : APure Pg fn_leak_within args v :=
  APure.of_nil (enter 0 hl a)
end leak_within

namespace leak_hull_total
noncomputable def cfg : Cfg := { pure := pures, pcs := [], raw := [], cuts := [], draws := [], keep := [] }
@[simp] noncomputable def r0 (_ : Unit) : List Stp := [S 3 (.box (.t 1)), S 4 (.alloc [(.int .i64 0), (.int .i64 0)])]
@[simp] noncomputable def r1 (_ : Unit) : List Stp := [S 5 (.alloc [.nilf]), SN (.store 1 (.t 5) (.c (.func (.func fn_leak_inflow_sum) [] [])))]
@[simp] noncomputable def r2 (_ : Unit) : List Stp := [S 6 (.mv (.t 0)), S 7 (.call (.c (.func (.func fn_leak_hull_truths) [] [])) [(.t 6)]), S 8 (.mkF (.func fn_leak_hull_total_1) [] [(.t 5), (.t 3)]), S 9 (.call (.c (.func (.func fn_leak_sums) [] [])) [(.t 7), (.t 8)]), SN (.store 2 (.t 4) (.t 9))]
@[simp] noncomputable def ir : IR := (.seq (.ops r0) (.seq (.ops r1) (.seq (.ops r2) .ret)))
@[simp] noncomputable def rs : List RV := [.cell 4 true 2]
theorem comp : compF Pg cfg Try.f57 = some (ir, rs, 10) := by kernel_rfl
theorem enter {args : List AVal} {h : Heap} {K : AEnd → Heap → Prop} (F : Nat) (hl : args.length ≤ 10) (a : AW ⟨Pg, F, 10, false, []⟩ ir (RetK rs K) (initT args) [] h) : ACalls Pg fn_leak_hull_total args h K :=
  ACalls.of_comp follows Try.func57 comp hl a
theorem pure {args : List AVal} {v : AVal} (hl : args.length ≤ 10) (a : AW ⟨Pg, 0, 10, false, []⟩ ir (RetK rs fun e _ => e = .ret v) (initT args) [] nilH) : APure Pg fn_leak_hull_total args v :=
  APure.of_nil (enter 0 hl a)
end leak_hull_total

namespace leak_Flow_1
noncomputable def cfg : Cfg := { pure := pures, pcs := [], raw := [], cuts := [], draws := [], keep := [] }
@[simp] noncomputable def r0 (_ : Unit) : List Stp := [S 1 (.recov), S 2 (.call (.c (.func (.func fn_leak_said) [] [])) [(.t 1), (.t 0)])]
@[simp] noncomputable def ir : IR := (.ops r0)
@[simp] noncomputable def rs : List RV := []
theorem comp : compF Pg cfg Try.f58 = some (ir, rs, 3) := by kernel_rfl
theorem enter {args : List AVal} {h : Heap} {K : AEnd → Heap → Prop} (F : Nat) (hl : args.length ≤ 3) (a : AW ⟨Pg, F, 3, false, []⟩ ir (RetK rs K) (initT args) [] h) : ACalls Pg fn_leak_Flow_1 args h K :=
  ACalls.of_comp follows Try.func58 comp hl a
theorem pure {args : List AVal} {v : AVal} (hl : args.length ≤ 3) (a : AW ⟨Pg, 0, 3, false, []⟩ ir (RetK rs fun e _ => e = .ret v) (initT args) [] nilH) : APure Pg fn_leak_Flow_1 args v :=
  APure.of_nil (enter 0 hl a)
theorem recClo : RecClo Pg fn_leak_Flow_1 fn_leak_said := ⟨_, Try.func58, by kernel_rfl⟩
end leak_Flow_1

namespace law01_draws_1
noncomputable def cfg : Cfg := { pure := pures, pcs := [], raw := [], cuts := [], draws := [(4, [⟨11, false, [], []⟩, ⟨0, false, [], []⟩, ⟨1, false, [], []⟩, ⟨2, false, [], []⟩, ⟨3, false, [], []⟩, ⟨4, false, [], []⟩, ⟨5, false, [], []⟩, ⟨6, false, [], []⟩, ⟨7, false, [], []⟩, ⟨8, false, [], []⟩, ⟨9, false, [], []⟩, ⟨10, false, [], []⟩, ⟨12, false, [], []⟩, ⟨13, false, [], []⟩])], keep := [] }
@[simp] noncomputable def r0 (_ : Unit) : List Stp := [S 4 (.mv (.c (.int .i64 0)))]
@[simp] noncomputable def r1 (_ : Unit) : List Stp := [S 5 (.load false 1 (.t 1)), S 6 (.bin .add (.t 5) (.c (.int .i64 1))), SN (.store 1 (.t 1) (.t 6))]
@[simp] noncomputable def r2 (_ : Unit) : List Stp := [S 7 (.load false 1 (.t 2)), S 8 (.len (.t 7)), S 9 (.bin .eql (.t 8) (.c (.int .i64 0)))]
@[simp] noncomputable def r3 (_ : Unit) : List Stp := [S 10 (.load false 1 (.t 1)), S 11 (.mv (.t 0)), S 12 (.bin .rem (.t 10) (.t 11)), S 4 (.mv (.t 12))]
@[simp] noncomputable def r4 (_ : Unit) : List Stp := [S 24 (.mv (.t 0)), S 13 (.load false 1 (.t 2)), S 14 (.load false 1 (.t 1)), S 15 (.load false 1 (.t 2)), S 16 (.len (.t 15)), S 17 (.bin .rem (.t 14) (.t 16)), S 18 (.ixS 1 (.t 13) (.t 17)), S 19 (.load false 1 (.t 18)), S 20 (.conv .i64 (.t 19)), S 21 (.load false 1 (.t 1)), S 22 (.bin .mul (.c (.int .i64 71)) (.t 21)), S 23 (.bin .add (.t 20) (.t 22)), S 25 (.bin .rem (.t 23) (.t 24)), S 4 (.mv (.t 25))]
@[simp] noncomputable def ir : IR := (.seq (.ops r0) (.seq (.ops r1) (.seq (.seq (.ops r2) (.cond (.t 9) (.seq (.ops r3) .ret) .skip)) (.seq (.ops r4) .ret))))
@[simp] noncomputable def rs : List RV := [.tmp 4]
theorem comp : compF Pg cfg Try.f59 = some (ir, rs, 26) := by kernel_rfl
theorem enter {args : List AVal} {h : Heap} {K : AEnd → Heap → Prop} (F : Nat) (hl : args.length ≤ 26) (a : AW ⟨Pg, F, 26, false, []⟩ ir (RetK rs K) (initT args) [] h) : ACalls Pg fn_law01_draws_1 args h K :=
  ACalls.of_comp follows Try.func59 comp hl a
theorem pure {args : List AVal} {v : AVal} (hl : args.length ≤ 26) (a : AW ⟨Pg, 0, 26, false, []⟩ ir (RetK rs fun e _ => e = .ret v) (initT args) [] nilH) : APure Pg fn_law01_draws_1 args v :=
  APure.of_nil (enter 0 hl a)
end law01_draws_1

namespace leak_Leaks_1
noncomputable def cfg : Cfg := { pure := pures, pcs := [], raw := [], cuts := [], draws := [], keep := [] }
@[simp] noncomputable def r0 (_ : Unit) : List Stp := [S 1 (.recov), S 2 (.call (.c (.func (.func fn_leak_said) [] [])) [(.t 1), (.t 0)])]
@[simp] noncomputable def ir : IR := (.ops r0)
@[simp] noncomputable def rs : List RV := []
theorem comp : compF Pg cfg Try.f60 = some (ir, rs, 3) := by kernel_rfl
theorem enter {args : List AVal} {h : Heap} {K : AEnd → Heap → Prop} (F : Nat) (hl : args.length ≤ 3) (a : AW ⟨Pg, F, 3, false, []⟩ ir (RetK rs K) (initT args) [] h) : ACalls Pg fn_leak_Leaks_1 args h K :=
  ACalls.of_comp follows Try.func60 comp hl a
theorem pure {args : List AVal} {v : AVal} (hl : args.length ≤ 3) (a : AW ⟨Pg, 0, 3, false, []⟩ ir (RetK rs fun e _ => e = .ret v) (initT args) [] nilH) : APure Pg fn_leak_Leaks_1 args v :=
  APure.of_nil (enter 0 hl a)
theorem recClo : RecClo Pg fn_leak_Leaks_1 fn_leak_said := ⟨_, Try.func60, by kernel_rfl⟩
end leak_Leaks_1

namespace leak_hull_truths
noncomputable def cfg : Cfg := { pure := pures, pcs := [], raw := [], cuts := [], draws := [], keep := [] }
@[simp] noncomputable def r0 (_ : Unit) : List Stp := [S 2 (.mv (.c .nils))]
@[simp] noncomputable def r1 (_ : Unit) : List Stp := [S 4 (.mv (.t 0)), S 5 (.mv (.t 0)), S 6 (.call (.c (.func (.func fn_leak_hull_every) [] [])) [(.t 5)]), S 7 (.call (.c (.func (.func fn_leak_hull_inflows) [] [])) [(.t 4), (.t 6)]), S 8 (.call (.c (.func (.func fn_slices_Collect_leak_inflow) [] [])) [(.t 7)]), S 3 (.mv (.t 8))]
@[simp] noncomputable def r2 (_ : Unit) : List Stp := [S 9 (.mv (.t 3)), S 10 (.len (.t 9)), S 11 (.bin .gtr (.t 10) (.c (.int .i64 0))), S 12 (.call (.c (.func (.func fn_leak_want) [] [])) [(.t 11), (.c (.int .i64 10))])]
@[simp] noncomputable def r3 (_ : Unit) : List Stp := [S 13 (.mv (.t 3)), S 2 (.mv (.t 13))]
@[simp] noncomputable def ir : IR := (.seq (.ops r0) (.seq (.ops r1) (.seq (.ops r2) (.seq (.ops r3) .ret))))
@[simp] noncomputable def rs : List RV := [.tmp 2]
theorem comp : compF Pg cfg Try.f61 = some (ir, rs, 14) := by kernel_rfl
theorem enter {args : List AVal} {h : Heap} {K : AEnd → Heap → Prop} (F : Nat) (hl : args.length ≤ 14) (a : AW ⟨Pg, F, 14, false, []⟩ ir (RetK rs K) (initT args) [] h) : ACalls Pg fn_leak_hull_truths args h K :=
  ACalls.of_comp follows Try.func61 comp hl a
theorem pure {args : List AVal} {v : AVal} (hl : args.length ≤ 14) (a : AW ⟨Pg, 0, 14, false, []⟩ ir (RetK rs fun e _ => e = .ret v) (initT args) [] nilH) : APure Pg fn_leak_hull_truths args v :=
  APure.of_nil (enter 0 hl a)
end leak_hull_truths

namespace leak_inflow_leaks
noncomputable def cfg : Cfg := { pure := pures, pcs := [], raw := [], cuts := [], draws := [], keep := [] }
@[simp] noncomputable def r0 (_ : Unit) : List Stp := [S 1 (.box (.t 0)), S 2 (.mv (.c (.int .u64 0)))]
@[simp] noncomputable def r1 (_ : Unit) : List Stp := [S 5 (.load true 6 (.t 1)), S 6 (.mv (.c (.int .i64 0)))]
@[simp] noncomputable def r2 (_ : Unit) : List Stp := [S 7 (.bin .lss (.t 6) (.c (.int .i64 6)))]
@[simp] noncomputable def r3 (_ : Unit) : List Stp := [S 8 (.mv (.t 6)), S 9 (.ixV 6 1 false (.t 5) (.t 6)), S 3 (.mv (.t 8)), S 4 (.mv (.t 9))]
@[simp] noncomputable def r4 (_ : Unit) : List Stp := [S 10 (.mv (.t 4)), S 11 (.bin .gtr (.t 10) (.c (.int .i64 0)))]
@[simp] noncomputable def r5 (_ : Unit) : List Stp := [S 12 (.mv (.t 2)), S 13 (.mv (.t 3)), S 14 (.bin .shl (.c (.int .u64 1)) (.t 13)), S 15 (.bin .or (.t 12) (.t 14)), S 2 (.mv (.t 15))]
@[simp] noncomputable def r6 (_ : Unit) : List Stp := [S 16 (.bin .add (.t 6) (.c (.int .i64 1))), S 6 (.mv (.t 16))]
@[simp] noncomputable def r7 (_ : Unit) : List Stp := [S 17 (.mv (.t 2)), S 2 (.mv (.t 17))]
@[simp] noncomputable def ir : IR := (.seq (.ops r0) (.seq (.seq (.ops r1) (.block 0 (.loop (.seq (.ops r2) (.seq (.cond (.t 7) .skip (.exit 0)) (.seq (.block 1 (.seq (.ops r3) (.seq (.ops r4) (.cond (.t 11) (.ops r5) .skip)))) (.ops r6))))))) (.seq (.ops r7) .ret)))
@[simp] noncomputable def rs : List RV := [.tmp 2]
theorem comp : compF Pg cfg Try.f62 = some (ir, rs, 18) := by kernel_rfl
theorem enter {args : List AVal} {h : Heap} {K : AEnd → Heap → Prop} (F : Nat) (hl : args.length ≤ 18) (a : AW ⟨Pg, F, 18, false, []⟩ ir (RetK rs K) (initT args) [] h) : ACalls Pg fn_leak_inflow_leaks args h K :=
  ACalls.of_comp follows Try.func62 comp hl a
theorem pure {args : List AVal} {v : AVal} (hl : args.length ≤ 18) (a : AW ⟨Pg, 0, 18, false, []⟩ ir (RetK rs fun e _ => e = .ret v) (initT args) [] nilH) : APure Pg fn_leak_inflow_leaks args v :=
  APure.of_nil (enter 0 hl a)
end leak_inflow_leaks

namespace leak_Fewest_1
noncomputable def cfg : Cfg := { pure := pures, pcs := [], raw := [], cuts := [], draws := [], keep := [] }
@[simp] noncomputable def r0 (_ : Unit) : List Stp := [S 1 (.recov), S 2 (.call (.c (.func (.func fn_leak_said) [] [])) [(.t 1), (.t 0)])]
@[simp] noncomputable def ir : IR := (.ops r0)
@[simp] noncomputable def rs : List RV := []
theorem comp : compF Pg cfg Try.f63 = some (ir, rs, 3) := by kernel_rfl
theorem enter {args : List AVal} {h : Heap} {K : AEnd → Heap → Prop} (F : Nat) (hl : args.length ≤ 3) (a : AW ⟨Pg, F, 3, false, []⟩ ir (RetK rs K) (initT args) [] h) : ACalls Pg fn_leak_Fewest_1 args h K :=
  ACalls.of_comp follows Try.func63 comp hl a
theorem pure {args : List AVal} {v : AVal} (hl : args.length ≤ 3) (a : AW ⟨Pg, 0, 3, false, []⟩ ir (RetK rs fun e _ => e = .ret v) (initT args) [] nilH) : APure Pg fn_leak_Fewest_1 args v :=
  APure.of_nil (enter 0 hl a)
theorem recClo : RecClo Pg fn_leak_Fewest_1 fn_leak_said := ⟨_, Try.func63, by kernel_rfl⟩
end leak_Fewest_1

namespace leak_best_int
noncomputable def cfg : Cfg := { pure := pures, pcs := [], raw := [], cuts := [], draws := [], keep := [] }
@[simp] noncomputable def r0 (_ : Unit) : List Stp := [S 3 (.box (.t 1)), S 4 (.mv (.c (.int .i64 0))), S 5 (.mv (.c (.int .i64 0)))]
@[simp] noncomputable def r1 (_ : Unit) : List Stp := [S 9 (.mv (.t 0)), S 10 (.len (.t 9)), S 11 (.mv (.c (.int .i64 0)))]
@[simp] noncomputable def r2 (_ : Unit) : List Stp := [S 12 (.bin .lss (.t 11) (.t 10))]
@[simp] noncomputable def r3 (_ : Unit) : List Stp := [S 13 (.mv (.t 11)), S 14 (.ixS 1 (.t 9) (.t 11)), S 15 (.load false 1 (.t 14)), S 6 (.mv (.t 13)), S 7 (.mv (.t 15))]
@[simp] noncomputable def r4 (_ : Unit) : List Stp := [S 16 (.fAddr 0 (.t 3)), S 17 (.load false 1 (.t 16)), S 18 (.mv (.t 7)), S 19 (.call (.t 17) [(.t 18)]), S 8 (.mv (.t 19))]
@[simp] noncomputable def r5 (_ : Unit) : List Stp := [S 20 (.mv (.t 6)), S 21 (.bin .eql (.t 20) (.c (.int .i64 0))), S 22 (.mv (.t 21)), SG 23 22 false (.mv (.t 8)), SG 24 22 false (.mv (.t 5)), SG 25 22 false (.bin .lss (.t 23) (.t 24)), S 26 (.pick (.t 22) (.c (.bool true)) (.t 25))]
@[simp] noncomputable def r6 (_ : Unit) : List Stp := [S 27 (.mv (.t 7)), S 28 (.mv (.t 8)), S 4 (.mv (.t 27)), S 5 (.mv (.t 28))]
@[simp] noncomputable def r7 (_ : Unit) : List Stp := [S 29 (.bin .add (.t 11) (.c (.int .i64 1))), S 11 (.mv (.t 29))]
@[simp] noncomputable def r8 (_ : Unit) : List Stp := [S 30 (.mv (.t 4)), S 31 (.mv (.t 5)), S 4 (.mv (.t 30)), S 5 (.mv (.t 31))]
@[simp] noncomputable def ir : IR := (.seq (.ops r0) (.seq (.seq (.ops r1) (.block 0 (.loop (.seq (.ops r2) (.seq (.cond (.t 12) .skip (.exit 0)) (.seq (.block 1 (.seq (.ops r3) (.seq (.ops r4) (.seq (.ops r5) (.cond (.t 26) (.ops r6) .skip))))) (.ops r7))))))) (.seq (.ops r8) .ret)))
@[simp] noncomputable def rs : List RV := [.tmp 4, .tmp 5]
theorem comp : compF Pg cfg Try.f64 = some (ir, rs, 32) := by kernel_rfl
theorem enter {args : List AVal} {h : Heap} {K : AEnd → Heap → Prop} (F : Nat) (hl : args.length ≤ 32) (a : AW ⟨Pg, F, 32, false, []⟩ ir (RetK rs K) (initT args) [] h) : ACalls Pg fn_leak_best_int args h K :=
  ACalls.of_comp follows Try.func64 comp hl a
theorem pure {args : List AVal} {v : AVal} (hl : args.length ≤ 32) (a : AW ⟨Pg, 0, 32, false, []⟩ ir (RetK rs fun e _ => e = .ret v) (initT args) [] nilH) : APure Pg fn_leak_best_int args v :=
  APure.of_nil (enter 0 hl a)
end leak_best_int

namespace leak_hull_sets
noncomputable def cfg : Cfg := { pure := pures, pcs := [], raw := [], cuts := [], draws := [], keep := [] }
@[simp] noncomputable def r0 (_ : Unit) : List Stp := [S 2 (.mv (.c .nils))]
@[simp] noncomputable def r1 (_ : Unit) : List Stp := [S 9 (.mkmap), S 3 (.mv (.t 9))]
@[simp] noncomputable def r2 (_ : Unit) : List Stp := [S 10 (.mv (.t 0)), S 11 (.call (.c (.func (.func fn_leak_hull_truths) [] [])) [(.t 10)]), S 12 (.len (.t 11)), S 13 (.mv (.c (.int .i64 0)))]
@[simp] noncomputable def r3 (_ : Unit) : List Stp := [S 14 (.bin .lss (.t 13) (.t 12))]
@[simp] noncomputable def r4 (_ : Unit) : List Stp := [S 15 (.ixS 6 (.t 11) (.t 13)), S 16 (.load true 6 (.t 15)), S 5 (.alloc [(.int .i64 0), (.int .i64 0), (.int .i64 0), (.int .i64 0), (.int .i64 0), (.int .i64 0)]), SN (.store 6 (.t 5) (.t 16))]
@[simp] noncomputable def r5 (_ : Unit) : List Stp := [S 17 (.mv (.t 3)), S 18 (.load true 6 (.t 5)), SP 19 (.call (.c (.func (.func fn_leak_inflow_leaks) [] [])) [(.t 18)]), SN (.mapU (false, [.i]) (.t 17) (.t 19) (.c (.bool true)))]
@[simp] noncomputable def r6 (_ : Unit) : List Stp := [S 20 (.bin .add (.t 13) (.c (.int .i64 1))), S 13 (.mv (.t 20))]
@[simp] noncomputable def r7 (_ : Unit) : List Stp := [S 21 (.mv (.t 3)), S 22 (.lenM (.t 21)), S 23 (.mksl 8 [(.int .i64 0)] (.c (.int .i64 0)) (.t 22)), S 6 (.mv (.t 23))]
@[simp] noncomputable def r8 (_ : Unit) : List Stp := [S 24 (.mv (.t 3)), S 25 (.range (.t 24))]
@[simp] noncomputable def r9 (_ : Unit) : List Stp := [S 26 (.next (.t 25)), S 27 (.ext (.t 26) 0)]
@[simp] noncomputable def r10 (_ : Unit) : List Stp := [S 28 (.entry (.t 25)), S 29 (.ext (.t 28) 0), S 7 (.mv (.t 29))]
@[simp] noncomputable def r11 (_ : Unit) : List Stp := [S 30 (.mv (.t 6)), S 31 (.mv (.t 7)), S 32 (.conv .i64 (.t 31)), S 33 (.bsl 1 [(.int .i64 0)] [(0, 1, (.t 32))]), S 34 (.app 1 8 (.t 30) (.t 33)), S 6 (.mv (.t 34))]
@[simp] noncomputable def r12 (_ : Unit) : List Stp := [S 35 (.mv (.t 6)), S 36 (.len (.t 35)), S 37 (.mksl 8 [(.int .i64 0)] (.t 36) (.t 36)), S 8 (.mv (.t 37))]
@[simp] noncomputable def r13 (_ : Unit) : List Stp := [S 38 (.mv (.t 8)), S 39 (.mv (.t 6)), S 40 (.copy 1 (.t 38) (.t 39))]
@[simp] noncomputable def r14 (_ : Unit) : List Stp := [S 41 (.mv (.t 8)), S 42 (.call (.c (.func (.func fn_slices_Sort_int_int) [] [])) [(.t 41)])]
@[simp] noncomputable def r15 (_ : Unit) : List Stp := [S 43 (.mv (.t 8)), S 2 (.mv (.t 43))]
@[simp] noncomputable def ir : IR := (.seq (.ops r0) (.seq (.ops r1) (.seq (.seq (.ops r2) (.block 0 (.loop (.seq (.ops r3) (.seq (.cond (.t 14) .skip (.exit 0)) (.seq (.block 1 (.seq (.ops r4) (.ops r5))) (.ops r6))))))) (.seq (.ops r7) (.seq (.seq (.ops r8) (.block 2 (.loop (.seq (.ops r9) (.seq (.cond (.t 27) .skip (.exit 2)) (.block 3 (.seq (.ops r10) (.ops r11)))))))) (.seq (.ops r12) (.seq (.ops r13) (.seq (.ops r14) (.seq (.ops r15) .ret)))))))))
@[simp] noncomputable def rs : List RV := [.tmp 2]
theorem comp : compF Pg cfg Try.f65 = some (ir, rs, 44) := by kernel_rfl
theorem enter {args : List AVal} {h : Heap} {K : AEnd → Heap → Prop} (F : Nat) (hl : args.length ≤ 44) (a : AW ⟨Pg, F, 44, false, []⟩ ir (RetK rs K) (initT args) [] h) : ACalls Pg fn_leak_hull_sets args h K :=
  ACalls.of_comp follows Try.func65 comp hl a
theorem pure {args : List AVal} {v : AVal} (hl : args.length ≤ 44) (a : AW ⟨Pg, 0, 44, false, []⟩ ir (RetK rs fun e _ => e = .ret v) (initT args) [] nilH) : APure Pg fn_leak_hull_sets args v :=
  APure.of_nil (enter 0 hl a)
end leak_hull_sets

namespace leak_Fewest_2
noncomputable def cfg : Cfg := { pure := pures, pcs := [], raw := [], cuts := [], draws := [], keep := [] }
@[simp] noncomputable def r0 (_ : Unit) : List Stp := [S 2 (.mv (.c (.int .i64 0)))]
@[simp] noncomputable def r1 (_ : Unit) : List Stp := [S 3 (.mv (.t 0)), S 4 (.conv .u64 (.t 3)), SP 5 (.call (.c (.func (.func fn_math_bits_OnesCount) [] [])) [(.t 4)]), S 2 (.mv (.t 5))]
@[simp] noncomputable def ir : IR := (.seq (.ops r0) (.seq (.ops r1) .ret))
@[simp] noncomputable def rs : List RV := [.tmp 2]
theorem comp : compF Pg cfg Try.f66 = some (ir, rs, 6) := by kernel_rfl
theorem enter {args : List AVal} {h : Heap} {K : AEnd → Heap → Prop} (F : Nat) (hl : args.length ≤ 6) (a : AW ⟨Pg, F, 6, false, []⟩ ir (RetK rs K) (initT args) [] h) : ACalls Pg fn_leak_Fewest_2 args h K :=
  ACalls.of_comp follows Try.func66 comp hl a
theorem pure {args : List AVal} {v : AVal} (hl : args.length ≤ 6) (a : AW ⟨Pg, 0, 6, false, []⟩ ir (RetK rs fun e _ => e = .ret v) (initT args) [] nilH) : APure Pg fn_leak_Fewest_2 args v :=
  APure.of_nil (enter 0 hl a)
end leak_Fewest_2

namespace leak_Sets_1
noncomputable def cfg : Cfg := { pure := pures, pcs := [], raw := [], cuts := [], draws := [], keep := [] }
@[simp] noncomputable def r0 (_ : Unit) : List Stp := [S 1 (.recov), S 2 (.call (.c (.func (.func fn_leak_said) [] [])) [(.t 1), (.t 0)])]
@[simp] noncomputable def ir : IR := (.ops r0)
@[simp] noncomputable def rs : List RV := []
theorem comp : compF Pg cfg Try.f67 = some (ir, rs, 3) := by kernel_rfl
theorem enter {args : List AVal} {h : Heap} {K : AEnd → Heap → Prop} (F : Nat) (hl : args.length ≤ 3) (a : AW ⟨Pg, F, 3, false, []⟩ ir (RetK rs K) (initT args) [] h) : ACalls Pg fn_leak_Sets_1 args h K :=
  ACalls.of_comp follows Try.func67 comp hl a
theorem pure {args : List AVal} {v : AVal} (hl : args.length ≤ 3) (a : AW ⟨Pg, 0, 3, false, []⟩ ir (RetK rs fun e _ => e = .ret v) (initT args) [] nilH) : APure Pg fn_leak_Sets_1 args v :=
  APure.of_nil (enter 0 hl a)
theorem recClo : RecClo Pg fn_leak_Sets_1 fn_leak_said := ⟨_, Try.func67, by kernel_rfl⟩
end leak_Sets_1

namespace ref01_power
noncomputable def cfg : Cfg := { pure := pures, pcs := [], raw := [], cuts := [], draws := [], keep := [] }
@[simp] noncomputable def r0 (_ : Unit) : List Stp := [S 2 (.mv (.c (.int .i64 0)))]
@[simp] noncomputable def r1 (_ : Unit) : List Stp := [S 3 (.mv (.c (.int .i64 1)))]
@[simp] noncomputable def r2 (_ : Unit) : List Stp := [S 4 (.mv (.c (.int .i64 0)))]
@[simp] noncomputable def r3 (_ : Unit) : List Stp := [S 5 (.mv (.t 4)), S 6 (.mv (.t 0)), S 7 (.bin .lss (.t 5) (.t 6))]
@[simp] noncomputable def r5 (_ : Unit) : List Stp := [S 10 (.mv (.t 3)), S 11 (.bin .mul (.c (.int .i64 2)) (.t 10)), S 3 (.mv (.t 11))]
@[simp] noncomputable def r4 (_ : Unit) : List Stp := [S 8 (.mv (.t 4)), S 9 (.bin .add (.t 8) (.c (.int .i64 1))), S 4 (.mv (.t 9))]
@[simp] noncomputable def r6 (_ : Unit) : List Stp := [S 12 (.mv (.t 3)), S 2 (.mv (.t 12))]
@[simp] noncomputable def ir : IR := (.seq (.ops r0) (.seq (.ops r1) (.seq (.seq (.ops r2) (.block 0 (.loop (.seq (.seq (.ops r3) (.cond (.t 7) .skip (.exit 0))) (.seq (.block 1 (.ops r5)) (.ops r4)))))) (.seq (.ops r6) .ret))))
@[simp] noncomputable def rs : List RV := [.tmp 2]
theorem comp : compF Pg cfg Try.f68 = some (ir, rs, 13) := by kernel_rfl
theorem enter {args : List AVal} {h : Heap} {K : AEnd → Heap → Prop} (F : Nat) (hl : args.length ≤ 13) (a : AW ⟨Pg, F, 13, false, []⟩ ir (RetK rs K) (initT args) [] h) : ACalls Pg fn_ref01_power args h K :=
  ACalls.of_comp follows Try.func68 comp hl a
theorem pure {args : List AVal} {v : AVal} (hl : args.length ≤ 13) (a : AW ⟨Pg, 0, 13, false, []⟩ ir (RetK rs fun e _ => e = .ret v) (initT args) [] nilH) : APure Pg fn_ref01_power args v :=
  APure.of_nil (enter 0 hl a)
end ref01_power

namespace leak_Total_1
noncomputable def cfg : Cfg := { pure := pures, pcs := [], raw := [], cuts := [], draws := [], keep := [] }
@[simp] noncomputable def r0 (_ : Unit) : List Stp := [S 1 (.recov), S 2 (.call (.c (.func (.func fn_leak_said) [] [])) [(.t 1), (.t 0)])]
@[simp] noncomputable def ir : IR := (.ops r0)
@[simp] noncomputable def rs : List RV := []
theorem comp : compF Pg cfg Try.f69 = some (ir, rs, 3) := by kernel_rfl
theorem enter {args : List AVal} {h : Heap} {K : AEnd → Heap → Prop} (F : Nat) (hl : args.length ≤ 3) (a : AW ⟨Pg, F, 3, false, []⟩ ir (RetK rs K) (initT args) [] h) : ACalls Pg fn_leak_Total_1 args h K :=
  ACalls.of_comp follows Try.func69 comp hl a
theorem pure {args : List AVal} {v : AVal} (hl : args.length ≤ 3) (a : AW ⟨Pg, 0, 3, false, []⟩ ir (RetK rs fun e _ => e = .ret v) (initT args) [] nilH) : APure Pg fn_leak_Total_1 args v :=
  APure.of_nil (enter 0 hl a)
theorem recClo : RecClo Pg fn_leak_Total_1 fn_leak_said := ⟨_, Try.func69, by kernel_rfl⟩
end leak_Total_1

namespace leak_isSet
noncomputable def cfg : Cfg := { pure := pures, pcs := [], raw := [], cuts := [], draws := [], keep := [] }
@[simp] noncomputable def r0 (_ : Unit) : List Stp := [S 2 (.box (.t 0)), S 4 (.mv (.c (.bool false)))]
@[simp] noncomputable def r1 (_ : Unit) : List Stp := [S 5 (.mv (.t 1)), S 6 (.bin .geq (.t 5) (.c (.int .i64 0))), S 7 (.mv (.t 6)), SG 8 7 true (.mv (.t 1)), SG 9 7 true (.fAddr 0 (.t 2)), SG 10 7 true (.load false 1 (.t 9)), SG 11 7 true (.len (.t 10)), SG 12 7 true (.mm false [(.t 11), (.c (.int .i64 62))]), SG 13 7 true (.bin .shr (.t 8) (.t 12)), SG 14 7 true (.bin .eql (.t 13) (.c (.int .i64 0))), S 15 (.pick (.t 7) (.t 14) (.c (.bool false))), S 4 (.mv (.t 15))]
@[simp] noncomputable def ir : IR := (.seq (.ops r0) (.seq (.ops r1) .ret))
@[simp] noncomputable def rs : List RV := [.tmp 4]
theorem comp : compF Pg cfg Try.f70 = some (ir, rs, 16) := by kernel_rfl
theorem enter {args : List AVal} {h : Heap} {K : AEnd → Heap → Prop} (F : Nat) (hl : args.length ≤ 16) (a : AW ⟨Pg, F, 16, false, []⟩ ir (RetK rs K) (initT args) [] h) : ACalls Pg fn_leak_isSet args h K :=
  ACalls.of_comp follows Try.func70 comp hl a
theorem pure {args : List AVal} {v : AVal} (hl : args.length ≤ 16) (a : AW ⟨Pg, 0, 16, false, []⟩ ir (RetK rs fun e _ => e = .ret v) (initT args) [] nilH) : APure Pg fn_leak_isSet args v :=
  APure.of_nil (enter 0 hl a)
end leak_isSet

namespace ref01_Has
noncomputable def cfg : Cfg := { pure := pures, pcs := [], raw := [], cuts := [], draws := [], keep := [] }
@[simp] noncomputable def r0 (_ : Unit) : List Stp := [S 4 (.mv (.c (.bool false)))]
@[simp] noncomputable def r1 (_ : Unit) : List Stp := [S 5 (.mv (.t 0)), S 6 (.mv (.t 1)), SP 7 (.call (.c (.func (.func fn_ref01_power) [] [])) [(.t 6)]), S 8 (.bin .quo (.t 5) (.t 7)), S 9 (.bin .rem (.t 8) (.c (.int .i64 2))), S 10 (.bin .eql (.t 9) (.c (.int .i64 1))), S 4 (.mv (.t 10))]
@[simp] noncomputable def ir : IR := (.seq (.ops r0) (.seq (.ops r1) .ret))
@[simp] noncomputable def rs : List RV := [.tmp 4]
theorem comp : compF Pg cfg Try.f71 = some (ir, rs, 11) := by kernel_rfl
theorem enter {args : List AVal} {h : Heap} {K : AEnd → Heap → Prop} (F : Nat) (hl : args.length ≤ 11) (a : AW ⟨Pg, F, 11, false, []⟩ ir (RetK rs K) (initT args) [] h) : ACalls Pg fn_ref01_Has args h K :=
  ACalls.of_comp follows Try.func71 comp hl a
theorem pure {args : List AVal} {v : AVal} (hl : args.length ≤ 11) (a : AW ⟨Pg, 0, 11, false, []⟩ ir (RetK rs fun e _ => e = .ret v) (initT args) [] nilH) : APure Pg fn_ref01_Has args v :=
  APure.of_nil (enter 0 hl a)
end ref01_Has

namespace ref01_in
noncomputable def cfg : Cfg := { pure := pures, pcs := [], raw := [], cuts := [], draws := [], keep := [] }
@[simp] noncomputable def r0 (_ : Unit) : List Stp := [S 6 (.mv (.c (.bool false)))]
@[simp] noncomputable def r1 (_ : Unit) : List Stp := [S 7 (.mv (.t 1)), S 8 (.mv (.t 0)), S 9 (.bin .leq (.t 7) (.t 8)), S 10 (.mv (.t 9)), SG 11 10 true (.mv (.t 0)), SG 12 10 true (.mv (.t 2)), SG 13 10 true (.bin .leq (.t 11) (.t 12)), S 14 (.pick (.t 10) (.t 13) (.c (.bool false))), S 6 (.mv (.t 14))]
@[simp] noncomputable def ir : IR := (.seq (.ops r0) (.seq (.ops r1) .ret))
@[simp] noncomputable def rs : List RV := [.tmp 6]
theorem comp : compF Pg cfg Try.f72 = some (ir, rs, 15) := by kernel_rfl
theorem enter {args : List AVal} {h : Heap} {K : AEnd → Heap → Prop} (F : Nat) (hl : args.length ≤ 15) (a : AW ⟨Pg, F, 15, false, []⟩ ir (RetK rs K) (initT args) [] h) : ACalls Pg fn_ref01_in args h K :=
  ACalls.of_comp follows Try.func72 comp hl a
theorem pure {args : List AVal} {v : AVal} (hl : args.length ≤ 15) (a : AW ⟨Pg, 0, 15, false, []⟩ ir (RetK rs fun e _ => e = .ret v) (initT args) [] nilH) : APure Pg fn_ref01_in args v :=
  APure.of_nil (enter 0 hl a)
end ref01_in

namespace ref01_At
noncomputable def cfg : Cfg := { pure := pures, pcs := [], raw := [], cuts := [], draws := [], keep := [] }
@[simp] noncomputable def r0 (_ : Unit) : List Stp := [S 4 (.mv (.c (.bool false)))]
@[simp] noncomputable def r1 (_ : Unit) : List Stp := [S 5 (.mv (.t 0)), SP 6 (.call (.c (.func (.func fn_ref01_in) [] [])) [(.t 5), (.c (.int .i64 0)), (.c (.int .i64 12))]), S 7 (.mv (.t 6)), SG 8 7 true (.mv (.t 1)), SGP 9 7 true (.call (.c (.func (.func fn_ref01_in) [] [])) [(.t 8), (.c (.int .i64 (-3))), (.c (.int .i64 3))]), S 10 (.pick (.t 7) (.t 9) (.c (.bool false))), S 4 (.mv (.t 10))]
@[simp] noncomputable def ir : IR := (.seq (.ops r0) (.seq (.ops r1) .ret))
@[simp] noncomputable def rs : List RV := [.tmp 4]
theorem comp : compF Pg cfg Try.f73 = some (ir, rs, 11) := by kernel_rfl
theorem enter {args : List AVal} {h : Heap} {K : AEnd → Heap → Prop} (F : Nat) (hl : args.length ≤ 11) (a : AW ⟨Pg, F, 11, false, []⟩ ir (RetK rs K) (initT args) [] h) : ACalls Pg fn_ref01_At args h K :=
  ACalls.of_comp follows Try.func73 comp hl a
theorem pure {args : List AVal} {v : AVal} (hl : args.length ≤ 11) (a : AW ⟨Pg, 0, 11, false, []⟩ ir (RetK rs fun e _ => e = .ret v) (initT args) [] nilH) : APure Pg fn_ref01_At args v :=
  APure.of_nil (enter 0 hl a)
end ref01_At

namespace leak_Next_1
noncomputable def cfg : Cfg := { pure := pures, pcs := [], raw := [], cuts := [], draws := [], keep := [] }
@[simp] noncomputable def r0 (_ : Unit) : List Stp := [S 1 (.recov), S 2 (.call (.c (.func (.func fn_leak_said) [] [])) [(.t 1), (.t 0)])]
@[simp] noncomputable def ir : IR := (.ops r0)
@[simp] noncomputable def rs : List RV := []
theorem comp : compF Pg cfg Try.f74 = some (ir, rs, 3) := by kernel_rfl
theorem enter {args : List AVal} {h : Heap} {K : AEnd → Heap → Prop} (F : Nat) (hl : args.length ≤ 3) (a : AW ⟨Pg, F, 3, false, []⟩ ir (RetK rs K) (initT args) [] h) : ACalls Pg fn_leak_Next_1 args h K :=
  ACalls.of_comp follows Try.func74 comp hl a
theorem pure {args : List AVal} {v : AVal} (hl : args.length ≤ 3) (a : AW ⟨Pg, 0, 3, false, []⟩ ir (RetK rs fun e _ => e = .ret v) (initT args) [] nilH) : APure Pg fn_leak_Next_1 args v :=
  APure.of_nil (enter 0 hl a)
theorem recClo : RecClo Pg fn_leak_Next_1 fn_leak_said := ⟨_, Try.func74, by kernel_rfl⟩
end leak_Next_1

namespace leak_best_leak_place
noncomputable def cfg : Cfg := { pure := pures, pcs := [], raw := [], cuts := [], draws := [], keep := [] }
@[simp] noncomputable def r0 (_ : Unit) : List Stp := [S 3 (.box (.t 1)), S 4 (.alloc [(.int .i64 0), (.int .i64 0)]), S 5 (.mv (.c (.int .i64 0)))]
@[simp] noncomputable def r1 (_ : Unit) : List Stp := [S 9 (.mv (.t 0)), S 10 (.len (.t 9)), S 11 (.mv (.c (.int .i64 0)))]
@[simp] noncomputable def r2 (_ : Unit) : List Stp := [S 12 (.bin .lss (.t 11) (.t 10))]
@[simp] noncomputable def r3 (_ : Unit) : List Stp := [S 13 (.mv (.t 11)), S 14 (.ixS 2 (.t 9) (.t 11)), S 15 (.load true 2 (.t 14)), S 7 (.alloc [(.int .i64 0), (.int .i64 0)]), S 6 (.mv (.t 13)), SN (.store 2 (.t 7) (.t 15))]
@[simp] noncomputable def r4 (_ : Unit) : List Stp := [S 16 (.fAddr 0 (.t 3)), S 17 (.load false 1 (.t 16)), S 18 (.load true 2 (.t 7)), S 19 (.call (.t 17) [(.t 18)]), S 8 (.mv (.t 19))]
@[simp] noncomputable def r5 (_ : Unit) : List Stp := [S 20 (.mv (.t 6)), S 21 (.bin .eql (.t 20) (.c (.int .i64 0))), S 22 (.mv (.t 21)), SG 23 22 false (.mv (.t 8)), SG 24 22 false (.mv (.t 5)), SG 25 22 false (.bin .lss (.t 23) (.t 24)), S 26 (.pick (.t 22) (.c (.bool true)) (.t 25))]
@[simp] noncomputable def r6 (_ : Unit) : List Stp := [S 27 (.load true 2 (.t 7)), S 28 (.mv (.t 8)), SN (.store 2 (.t 4) (.t 27)), S 5 (.mv (.t 28))]
@[simp] noncomputable def r7 (_ : Unit) : List Stp := [S 29 (.bin .add (.t 11) (.c (.int .i64 1))), S 11 (.mv (.t 29))]
@[simp] noncomputable def r8 (_ : Unit) : List Stp := [S 30 (.load true 2 (.t 4)), S 31 (.mv (.t 5)), SN (.store 2 (.t 4) (.t 30)), S 5 (.mv (.t 31))]
@[simp] noncomputable def ir : IR := (.seq (.ops r0) (.seq (.seq (.ops r1) (.block 0 (.loop (.seq (.ops r2) (.seq (.cond (.t 12) .skip (.exit 0)) (.seq (.block 1 (.seq (.ops r3) (.seq (.ops r4) (.seq (.ops r5) (.cond (.t 26) (.ops r6) .skip))))) (.ops r7))))))) (.seq (.ops r8) .ret)))
@[simp] noncomputable def rs : List RV := [.cell 4 true 2, .tmp 5]
theorem comp : compF Pg cfg Try.f75 = some (ir, rs, 32) := by kernel_rfl
theorem enter {args : List AVal} {h : Heap} {K : AEnd → Heap → Prop} (F : Nat) (hl : args.length ≤ 32) (a : AW ⟨Pg, F, 32, false, []⟩ ir (RetK rs K) (initT args) [] h) : ACalls Pg fn_leak_best_leak_place args h K :=
  ACalls.of_comp follows Try.func75 comp hl a
theorem pure {args : List AVal} {v : AVal} (hl : args.length ≤ 32) (a : AW ⟨Pg, 0, 32, false, []⟩ ir (RetK rs fun e _ => e = .ret v) (initT args) [] nilH) : APure Pg fn_leak_best_leak_place args v :=
  APure.of_nil (enter 0 hl a)
end leak_best_leak_place

namespace leak_Next_2
noncomputable def cfg : Cfg := { pure := pures, pcs := [], raw := [], cuts := [], draws := [], keep := [] }
@[simp] noncomputable def r0 (_ : Unit) : List Stp := [S 4 (.box (.t 0)), S 5 (.mv (.c (.int .i64 0)))]
@[simp] noncomputable def r1 (_ : Unit) : List Stp := [S 14 (.load false 1 (.t 1)), S 15 (.load true 2 (.t 4)), S 16 (.call (.c (.func (.func fn_leak_hull_wet) [] [])) [(.t 14), (.t 15)]), S 6 (.mv (.t 16))]
@[simp] noncomputable def r2 (_ : Unit) : List Stp := [S 18 (.load false 1 (.t 2)), S 19 (.mv (.t 6)), S 20 (.lookup (false, [.i]) true (.int .i64 0) (.t 18) (.t 19)), S 17 (.mv (.t 20)), S 21 (.ext (.t 17) 0), S 22 (.ext (.t 17) 1), S 7 (.mv (.t 21)), S 8 (.mv (.t 22))]
@[simp] noncomputable def r3 (_ : Unit) : List Stp := [S 23 (.mv (.t 8))]
@[simp] noncomputable def r4 (_ : Unit) : List Stp := [S 24 (.mv (.t 7)), S 5 (.mv (.t 24))]
@[simp] noncomputable def r5 (_ : Unit) : List Stp := [S 25 (.mkmap), S 9 (.mv (.t 25))]
@[simp] noncomputable def r6 (_ : Unit) : List Stp := [S 26 (.load false 1 (.t 3)), S 27 (.len (.t 26)), S 28 (.mv (.c (.int .i64 0)))]
@[simp] noncomputable def r7 (_ : Unit) : List Stp := [S 29 (.bin .lss (.t 28) (.t 27))]
@[simp] noncomputable def r8 (_ : Unit) : List Stp := [S 30 (.ixS 6 (.t 26) (.t 28)), S 31 (.load true 6 (.t 30)), S 11 (.alloc [(.int .i64 0), (.int .i64 0), (.int .i64 0), (.int .i64 0), (.int .i64 0), (.int .i64 0)]), SN (.store 6 (.t 11) (.t 31))]
@[simp] noncomputable def r9 (_ : Unit) : List Stp := [S 32 (.mv (.t 9)), S 33 (.load true 6 (.t 11)), S 34 (.mv (.t 6)), SP 35 (.call (.c (.func (.func fn_leak_inflow_sum) [] [])) [(.t 33), (.t 34)]), S 36 (.lookup (false, [.i]) false (.int .i64 0) (.t 32) (.t 35)), S 37 (.bin .add (.t 36) (.c (.int .i64 1))), SN (.mapU (false, [.i]) (.t 32) (.t 35) (.t 37))]
@[simp] noncomputable def r10 (_ : Unit) : List Stp := [S 38 (.bin .add (.t 28) (.c (.int .i64 1))), S 28 (.mv (.t 38))]
@[simp] noncomputable def r11 (_ : Unit) : List Stp := [S 39 (.mv (.t 9)), S 40 (.range (.t 39))]
@[simp] noncomputable def r12 (_ : Unit) : List Stp := [S 41 (.next (.t 40)), S 42 (.ext (.t 41) 0)]
@[simp] noncomputable def r13 (_ : Unit) : List Stp := [S 43 (.entry (.t 40)), S 44 (.ext (.t 43) 1), S 13 (.mv (.t 44))]
@[simp] noncomputable def r14 (_ : Unit) : List Stp := [S 45 (.load false 1 (.t 2)), S 46 (.mv (.t 6)), S 47 (.load false 1 (.t 2)), S 48 (.mv (.t 6)), S 49 (.lookup (false, [.i]) false (.int .i64 0) (.t 47) (.t 48)), S 50 (.mv (.t 13)), S 51 (.mm true [(.t 49), (.t 50)]), SN (.mapU (false, [.i]) (.t 45) (.t 46) (.t 51))]
@[simp] noncomputable def r15 (_ : Unit) : List Stp := [S 52 (.load false 1 (.t 2)), S 53 (.mv (.t 6)), S 54 (.lookup (false, [.i]) false (.int .i64 0) (.t 52) (.t 53)), S 5 (.mv (.t 54))]
@[simp] noncomputable def ir : IR := (.seq (.ops r0) (.seq (.ops r1) (.seq (.seq (.ops r2) (.seq (.ops r3) (.cond (.t 23) (.seq (.ops r4) .ret) .skip))) (.seq (.ops r5) (.seq (.seq (.ops r6) (.block 0 (.loop (.seq (.ops r7) (.seq (.cond (.t 29) .skip (.exit 0)) (.seq (.block 1 (.seq (.ops r8) (.ops r9))) (.ops r10))))))) (.seq (.seq (.ops r11) (.block 2 (.loop (.seq (.ops r12) (.seq (.cond (.t 42) .skip (.exit 2)) (.block 3 (.seq (.ops r13) (.ops r14)))))))) (.seq (.ops r15) .ret)))))))
@[simp] noncomputable def rs : List RV := [.tmp 5]
theorem comp : compF Pg cfg Try.f76 = some (ir, rs, 55) := by kernel_rfl
theorem enter {args : List AVal} {h : Heap} {K : AEnd → Heap → Prop} (F : Nat) (hl : args.length ≤ 55) (a : AW ⟨Pg, F, 55, false, []⟩ ir (RetK rs K) (initT args) [] h) : ACalls Pg fn_leak_Next_2 args h K :=
  ACalls.of_comp follows Try.func76 comp hl a
theorem pure {args : List AVal} {v : AVal} (hl : args.length ≤ 55) (a : AW ⟨Pg, 0, 55, false, []⟩ ir (RetK rs fun e _ => e = .ret v) (initT args) [] nilH) : APure Pg fn_leak_Next_2 args v :=
  APure.of_nil (enter 0 hl a)
end leak_Next_2

namespace leak_inflow_sum
noncomputable def cfg : Cfg := { pure := pures, pcs := [], raw := [], cuts := [], draws := [], keep := [] }
@[simp] noncomputable def r0 (_ : Unit) : List Stp := [S 2 (.box (.t 0)), S 4 (.mv (.c (.int .i64 0)))]
@[simp] noncomputable def r1 (_ : Unit) : List Stp := [S 7 (.load true 6 (.t 2)), S 8 (.mv (.c (.int .i64 0)))]
@[simp] noncomputable def r2 (_ : Unit) : List Stp := [S 9 (.bin .lss (.t 8) (.c (.int .i64 6)))]
@[simp] noncomputable def r3 (_ : Unit) : List Stp := [S 10 (.mv (.t 8)), S 11 (.ixV 6 1 false (.t 7) (.t 8)), S 5 (.mv (.t 10)), S 6 (.mv (.t 11))]
@[simp] noncomputable def r4 (_ : Unit) : List Stp := [S 12 (.mv (.t 1)), S 13 (.mv (.t 5)), SP 14 (.call (.c (.func (.func fn_leak_set_has) [] [])) [(.t 12), (.t 13)])]
@[simp] noncomputable def r5 (_ : Unit) : List Stp := [S 15 (.mv (.t 4)), S 16 (.mv (.t 6)), S 17 (.bsl 2 [(.int .i64 0), (.int .i64 0)] [(0, 1, (.t 15)), (1, 1, (.t 16))]), S 18 (.call (.c (.func (.func fn_leak_flows) [] [])) [(.t 17)]), S 4 (.mv (.t 18))]
@[simp] noncomputable def r6 (_ : Unit) : List Stp := [S 19 (.bin .add (.t 8) (.c (.int .i64 1))), S 8 (.mv (.t 19))]
@[simp] noncomputable def r7 (_ : Unit) : List Stp := [S 20 (.mv (.t 4)), S 4 (.mv (.t 20))]
@[simp] noncomputable def ir : IR := (.seq (.ops r0) (.seq (.seq (.ops r1) (.block 0 (.loop (.seq (.ops r2) (.seq (.cond (.t 9) .skip (.exit 0)) (.seq (.block 1 (.seq (.ops r3) (.seq (.ops r4) (.cond (.t 14) (.ops r5) .skip)))) (.ops r6))))))) (.seq (.ops r7) .ret)))
@[simp] noncomputable def rs : List RV := [.tmp 4]
theorem comp : compF Pg cfg Try.f77 = some (ir, rs, 21) := by kernel_rfl
theorem enter {args : List AVal} {h : Heap} {K : AEnd → Heap → Prop} (F : Nat) (hl : args.length ≤ 21) (a : AW ⟨Pg, F, 21, false, []⟩ ir (RetK rs K) (initT args) [] h) : ACalls Pg fn_leak_inflow_sum args h K :=
  ACalls.of_comp follows Try.func77 comp hl a
theorem pure {args : List AVal} {v : AVal} (hl : args.length ≤ 21) (a : AW ⟨Pg, 0, 21, false, []⟩ ir (RetK rs fun e _ => e = .ret v) (initT args) [] nilH) : APure Pg fn_leak_inflow_sum args v :=
  APure.of_nil (enter 0 hl a)
end leak_inflow_sum

namespace leak_hull_inflows
noncomputable def cfg : Cfg := { pure := pures, pcs := [], raw := [], cuts := [], draws := [], keep := [] }
@[simp] noncomputable def r0 (_ : Unit) : List Stp := [S 2 (.box (.t 0)), S 4 (.mv (.c .nilf))]
@[simp] noncomputable def r1 (_ : Unit) : List Stp := [S 6 (.load false 1 (.t 2)), S 7 (.mv (.t 1)), S 8 (.call (.c (.func (.func fn_leak_hull_conditions) [] [])) [(.t 6), (.t 7)]), S 5 (.alloc [.nils]), SN (.store 1 (.t 5) (.t 8))]
@[simp] noncomputable def r2 (_ : Unit) : List Stp := [S 9 (.mkF (.func fn_leak_hull_inflows_1) [] [(.t 2), (.t 5)]), S 4 (.mv (.t 9))]
@[simp] noncomputable def ir : IR := (.seq (.ops r0) (.seq (.ops r1) (.seq (.ops r2) .ret)))
@[simp] noncomputable def rs : List RV := [.tmp 4]
theorem comp : compF Pg cfg Try.f78 = some (ir, rs, 10) := by kernel_rfl
theorem enter {args : List AVal} {h : Heap} {K : AEnd → Heap → Prop} (F : Nat) (hl : args.length ≤ 10) (a : AW ⟨Pg, F, 10, false, []⟩ ir (RetK rs K) (initT args) [] h) : ACalls Pg fn_leak_hull_inflows args h K :=
  ACalls.of_comp follows Try.func78 comp hl a
theorem pure {args : List AVal} {v : AVal} (hl : args.length ≤ 10) (a : AW ⟨Pg, 0, 10, false, []⟩ ir (RetK rs fun e _ => e = .ret v) (initT args) [] nilH) : APure Pg fn_leak_hull_inflows args v :=
  APure.of_nil (enter 0 hl a)
end leak_hull_inflows

namespace math_bits_OnesCount32
noncomputable def cfg : Cfg := { pure := pures, pcs := [], raw := [], cuts := [], draws := [(1, [⟨0, false, [], []⟩, ⟨1, false, [], []⟩, ⟨2, false, [], []⟩, ⟨3, false, [], []⟩, ⟨4, false, [], []⟩, ⟨5, false, [], []⟩, ⟨6, false, [], []⟩, ⟨7, false, [], []⟩, ⟨8, false, [], []⟩, ⟨9, false, [], []⟩, ⟨10, false, [], []⟩, ⟨11, false, [], []⟩, ⟨12, false, [], []⟩, ⟨13, false, [], []⟩, ⟨14, false, [], []⟩, ⟨15, false, [], []⟩, ⟨16, false, [], []⟩, ⟨17, false, [], []⟩, ⟨18, false, [], []⟩])], keep := [] }
@[simp] noncomputable def r0 (_ : Unit) : List Stp := [S 2 (.mv (.c (.int .i64 0)))]
@[simp] noncomputable def r1 (_ : Unit) : List Stp := [S 3 (.mv (.t 0)), S 4 (.bin .shr (.t 3) (.c (.int .u64 24))), S 5 (.ixT (.c (.str [0, 1, 1, 2, 1, 2, 2, 3, 1, 2, 2, 3, 2, 3, 3, 4, 1, 2, 2, 3, 2, 3, 3, 4, 2, 3, 3, 4, 3, 4, 4, 5, 1, 2, 2, 3, 2, 3, 3, 4, 2, 3, 3, 4, 3, 4, 4, 5, 2, 3, 3, 4, 3, 4, 4, 5, 3, 4, 4, 5, 4, 5, 5, 6, 1, 2, 2, 3, 2, 3, 3, 4, 2, 3, 3, 4, 3, 4, 4, 5, 2, 3, 3, 4, 3, 4, 4, 5, 3, 4, 4, 5, 4, 5, 5, 6, 2, 3, 3, 4, 3, 4, 4, 5, 3, 4, 4, 5, 4, 5, 5, 6, 3, 4, 4, 5, 4, 5, 5, 6, 4, 5, 5, 6, 5, 6, 6, 7, 1, 2, 2, 3, 2, 3, 3, 4, 2, 3, 3, 4, 3, 4, 4, 5, 2, 3, 3, 4, 3, 4, 4, 5, 3, 4, 4, 5, 4, 5, 5, 6, 2, 3, 3, 4, 3, 4, 4, 5, 3, 4, 4, 5, 4, 5, 5, 6, 3, 4, 4, 5, 4, 5, 5, 6, 4, 5, 5, 6, 5, 6, 6, 7, 2, 3, 3, 4, 3, 4, 4, 5, 3, 4, 4, 5, 4, 5, 5, 6, 3, 4, 4, 5, 4, 5, 5, 6, 4, 5, 5, 6, 5, 6, 6, 7, 3, 4, 4, 5, 4, 5, 5, 6, 4, 5, 5, 6, 5, 6, 6, 7, 4, 5, 5, 6, 5, 6, 6, 7, 5, 6, 6, 7, 6, 7, 7, 8])) (.t 4)), S 6 (.mv (.t 0)), S 7 (.bin .shr (.t 6) (.c (.int .u64 16))), S 8 (.bin .and (.t 7) (.c (.int .u32 255))), S 9 (.ixT (.c (.str [0, 1, 1, 2, 1, 2, 2, 3, 1, 2, 2, 3, 2, 3, 3, 4, 1, 2, 2, 3, 2, 3, 3, 4, 2, 3, 3, 4, 3, 4, 4, 5, 1, 2, 2, 3, 2, 3, 3, 4, 2, 3, 3, 4, 3, 4, 4, 5, 2, 3, 3, 4, 3, 4, 4, 5, 3, 4, 4, 5, 4, 5, 5, 6, 1, 2, 2, 3, 2, 3, 3, 4, 2, 3, 3, 4, 3, 4, 4, 5, 2, 3, 3, 4, 3, 4, 4, 5, 3, 4, 4, 5, 4, 5, 5, 6, 2, 3, 3, 4, 3, 4, 4, 5, 3, 4, 4, 5, 4, 5, 5, 6, 3, 4, 4, 5, 4, 5, 5, 6, 4, 5, 5, 6, 5, 6, 6, 7, 1, 2, 2, 3, 2, 3, 3, 4, 2, 3, 3, 4, 3, 4, 4, 5, 2, 3, 3, 4, 3, 4, 4, 5, 3, 4, 4, 5, 4, 5, 5, 6, 2, 3, 3, 4, 3, 4, 4, 5, 3, 4, 4, 5, 4, 5, 5, 6, 3, 4, 4, 5, 4, 5, 5, 6, 4, 5, 5, 6, 5, 6, 6, 7, 2, 3, 3, 4, 3, 4, 4, 5, 3, 4, 4, 5, 4, 5, 5, 6, 3, 4, 4, 5, 4, 5, 5, 6, 4, 5, 5, 6, 5, 6, 6, 7, 3, 4, 4, 5, 4, 5, 5, 6, 4, 5, 5, 6, 5, 6, 6, 7, 4, 5, 5, 6, 5, 6, 6, 7, 5, 6, 6, 7, 6, 7, 7, 8])) (.t 8)), S 10 (.bin .add (.t 5) (.t 9)), S 11 (.mv (.t 0)), S 12 (.bin .shr (.t 11) (.c (.int .u64 8))), S 13 (.bin .and (.t 12) (.c (.int .u32 255))), S 14 (.ixT (.c (.str [0, 1, 1, 2, 1, 2, 2, 3, 1, 2, 2, 3, 2, 3, 3, 4, 1, 2, 2, 3, 2, 3, 3, 4, 2, 3, 3, 4, 3, 4, 4, 5, 1, 2, 2, 3, 2, 3, 3, 4, 2, 3, 3, 4, 3, 4, 4, 5, 2, 3, 3, 4, 3, 4, 4, 5, 3, 4, 4, 5, 4, 5, 5, 6, 1, 2, 2, 3, 2, 3, 3, 4, 2, 3, 3, 4, 3, 4, 4, 5, 2, 3, 3, 4, 3, 4, 4, 5, 3, 4, 4, 5, 4, 5, 5, 6, 2, 3, 3, 4, 3, 4, 4, 5, 3, 4, 4, 5, 4, 5, 5, 6, 3, 4, 4, 5, 4, 5, 5, 6, 4, 5, 5, 6, 5, 6, 6, 7, 1, 2, 2, 3, 2, 3, 3, 4, 2, 3, 3, 4, 3, 4, 4, 5, 2, 3, 3, 4, 3, 4, 4, 5, 3, 4, 4, 5, 4, 5, 5, 6, 2, 3, 3, 4, 3, 4, 4, 5, 3, 4, 4, 5, 4, 5, 5, 6, 3, 4, 4, 5, 4, 5, 5, 6, 4, 5, 5, 6, 5, 6, 6, 7, 2, 3, 3, 4, 3, 4, 4, 5, 3, 4, 4, 5, 4, 5, 5, 6, 3, 4, 4, 5, 4, 5, 5, 6, 4, 5, 5, 6, 5, 6, 6, 7, 3, 4, 4, 5, 4, 5, 5, 6, 4, 5, 5, 6, 5, 6, 6, 7, 4, 5, 5, 6, 5, 6, 6, 7, 5, 6, 6, 7, 6, 7, 7, 8])) (.t 13)), S 15 (.bin .add (.t 10) (.t 14)), S 16 (.mv (.t 0)), S 17 (.bin .and (.t 16) (.c (.int .u32 255))), S 18 (.ixT (.c (.str [0, 1, 1, 2, 1, 2, 2, 3, 1, 2, 2, 3, 2, 3, 3, 4, 1, 2, 2, 3, 2, 3, 3, 4, 2, 3, 3, 4, 3, 4, 4, 5, 1, 2, 2, 3, 2, 3, 3, 4, 2, 3, 3, 4, 3, 4, 4, 5, 2, 3, 3, 4, 3, 4, 4, 5, 3, 4, 4, 5, 4, 5, 5, 6, 1, 2, 2, 3, 2, 3, 3, 4, 2, 3, 3, 4, 3, 4, 4, 5, 2, 3, 3, 4, 3, 4, 4, 5, 3, 4, 4, 5, 4, 5, 5, 6, 2, 3, 3, 4, 3, 4, 4, 5, 3, 4, 4, 5, 4, 5, 5, 6, 3, 4, 4, 5, 4, 5, 5, 6, 4, 5, 5, 6, 5, 6, 6, 7, 1, 2, 2, 3, 2, 3, 3, 4, 2, 3, 3, 4, 3, 4, 4, 5, 2, 3, 3, 4, 3, 4, 4, 5, 3, 4, 4, 5, 4, 5, 5, 6, 2, 3, 3, 4, 3, 4, 4, 5, 3, 4, 4, 5, 4, 5, 5, 6, 3, 4, 4, 5, 4, 5, 5, 6, 4, 5, 5, 6, 5, 6, 6, 7, 2, 3, 3, 4, 3, 4, 4, 5, 3, 4, 4, 5, 4, 5, 5, 6, 3, 4, 4, 5, 4, 5, 5, 6, 4, 5, 5, 6, 5, 6, 6, 7, 3, 4, 4, 5, 4, 5, 5, 6, 4, 5, 5, 6, 5, 6, 6, 7, 4, 5, 5, 6, 5, 6, 6, 7, 5, 6, 6, 7, 6, 7, 7, 8])) (.t 17)), S 19 (.bin .add (.t 15) (.t 18)), S 20 (.conv .i64 (.t 19)), S 2 (.mv (.t 20))]
@[simp] noncomputable def ir : IR := (.seq (.ops r0) (.seq (.ops r1) .ret))
@[simp] noncomputable def rs : List RV := [.tmp 2]
theorem comp : compF Pg cfg Try.f79 = some (ir, rs, 21) := by kernel_rfl
theorem enter {args : List AVal} {h : Heap} {K : AEnd → Heap → Prop} (F : Nat) (hl : args.length ≤ 21) (a : AW ⟨Pg, F, 21, false, []⟩ ir (RetK rs K) (initT args) [] h) : ACalls Pg fn_math_bits_OnesCount32 args h K :=
  ACalls.of_comp follows Try.func79 comp hl a
theorem pure {args : List AVal} {v : AVal} (hl : args.length ≤ 21) (a : AW ⟨Pg, 0, 21, false, []⟩ ir (RetK rs fun e _ => e = .ret v) (initT args) [] nilH) : APure Pg fn_math_bits_OnesCount32 args v :=
  APure.of_nil (enter 0 hl a)
end math_bits_OnesCount32

namespace math_bits_OnesCount64
noncomputable def cfg : Cfg := { pure := pures, pcs := [], raw := [], cuts := [], draws := [], keep := [] }
@[simp] noncomputable def r0 (_ : Unit) : List Stp := [S 2 (.mv (.c (.int .i64 0)))]
@[simp] noncomputable def r1 (_ : Unit) : List Stp := [S 3 (.mv (.t 0)), S 4 (.bin .shr (.t 3) (.c (.int .u64 1))), S 5 (.bin .and (.t 4) (.c (.int .u64 6148914691236517205))), S 6 (.mv (.t 0)), S 7 (.bin .and (.t 6) (.c (.int .u64 6148914691236517205))), S 8 (.bin .add (.t 5) (.t 7)), S 0 (.mv (.t 8))]
@[simp] noncomputable def r2 (_ : Unit) : List Stp := [S 9 (.mv (.t 0)), S 10 (.bin .shr (.t 9) (.c (.int .u64 2))), S 11 (.bin .and (.t 10) (.c (.int .u64 3689348814741910323))), S 12 (.mv (.t 0)), S 13 (.bin .and (.t 12) (.c (.int .u64 3689348814741910323))), S 14 (.bin .add (.t 11) (.t 13)), S 0 (.mv (.t 14))]
@[simp] noncomputable def r3 (_ : Unit) : List Stp := [S 15 (.mv (.t 0)), S 16 (.bin .shr (.t 15) (.c (.int .u64 4))), S 17 (.mv (.t 0)), S 18 (.bin .add (.t 16) (.t 17)), S 19 (.bin .and (.t 18) (.c (.int .u64 1085102592571150095))), S 0 (.mv (.t 19))]
@[simp] noncomputable def r4 (_ : Unit) : List Stp := [S 20 (.mv (.t 0)), S 21 (.mv (.t 0)), S 22 (.bin .shr (.t 21) (.c (.int .u64 8))), S 23 (.bin .add (.t 20) (.t 22)), S 0 (.mv (.t 23))]
@[simp] noncomputable def r5 (_ : Unit) : List Stp := [S 24 (.mv (.t 0)), S 25 (.mv (.t 0)), S 26 (.bin .shr (.t 25) (.c (.int .u64 16))), S 27 (.bin .add (.t 24) (.t 26)), S 0 (.mv (.t 27))]
@[simp] noncomputable def r6 (_ : Unit) : List Stp := [S 28 (.mv (.t 0)), S 29 (.mv (.t 0)), S 30 (.bin .shr (.t 29) (.c (.int .u64 32))), S 31 (.bin .add (.t 28) (.t 30)), S 0 (.mv (.t 31))]
@[simp] noncomputable def r7 (_ : Unit) : List Stp := [S 32 (.mv (.t 0)), S 33 (.conv .i64 (.t 32)), S 34 (.bin .and (.t 33) (.c (.int .i64 127))), S 2 (.mv (.t 34))]
@[simp] noncomputable def ir : IR := (.seq (.ops r0) (.seq (.ops r1) (.seq (.ops r2) (.seq (.ops r3) (.seq (.ops r4) (.seq (.ops r5) (.seq (.ops r6) (.seq (.ops r7) .ret))))))))
@[simp] noncomputable def rs : List RV := [.tmp 2]
theorem comp : compF Pg cfg Try.f80 = some (ir, rs, 35) := by kernel_rfl
theorem enter {args : List AVal} {h : Heap} {K : AEnd → Heap → Prop} (F : Nat) (hl : args.length ≤ 35) (a : AW ⟨Pg, F, 35, false, []⟩ ir (RetK rs K) (initT args) [] h) : ACalls Pg fn_math_bits_OnesCount64 args h K :=
  ACalls.of_comp follows Try.func80 comp hl a
theorem pure {args : List AVal} {v : AVal} (hl : args.length ≤ 35) (a : AW ⟨Pg, 0, 35, false, []⟩ ir (RetK rs fun e _ => e = .ret v) (initT args) [] nilH) : APure Pg fn_math_bits_OnesCount64 args v :=
  APure.of_nil (enter 0 hl a)
end math_bits_OnesCount64

namespace ref01_right
noncomputable def cfg : Cfg := { pure := pures, pcs := [], raw := [], cuts := [], draws := [(5, [⟨0, false, [], []⟩, ⟨1, false, [], []⟩, ⟨2, false, [], []⟩, ⟨3, false, [], []⟩, ⟨4, false, [], []⟩, ⟨6, false, [], []⟩, ⟨8, false, [], []⟩, ⟨12, false, [], []⟩, ⟨13, false, [], []⟩, ⟨15, false, [], []⟩, ⟨16, false, [], []⟩, ⟨5, false, [], []⟩, ⟨7, false, [], []⟩, ⟨9, false, [], []⟩, ⟨10, false, [], []⟩, ⟨11, false, [], []⟩, ⟨14, false, [], []⟩, ⟨17, false, [], []⟩, ⟨18, false, [], []⟩, ⟨19, false, [], []⟩, ⟨20, false, [], []⟩])], keep := [] }
@[simp] noncomputable def r0 (_ : Unit) : List Stp := [S 3 (.box (.t 0)), S 6 (.mv (.c (.bool false)))]
@[simp] noncomputable def r1 (_ : Unit) : List Stp := [S 7 (.mv (.c (.int .i64 0)))]
@[simp] noncomputable def r2 (_ : Unit) : List Stp := [S 9 (.mv (.t 7)), S 10 (.fAddr 1 (.t 3)), S 11 (.load false 1 (.t 10)), S 12 (.len (.t 11)), S 13 (.bin .lss (.t 9) (.t 12))]
@[simp] noncomputable def r4 (_ : Unit) : List Stp := [S 16 (.fAddr 1 (.t 3)), S 17 (.load false 1 (.t 16)), S 18 (.mv (.t 7)), S 19 (.ixS 4 (.t 17) (.t 18)), S 20 (.load true 4 (.t 19)), S 8 (.alloc [(.int .i64 0), (.int .i64 0), (.int .i64 0), (.int .i64 0)]), SN (.store 4 (.t 8) (.t 20))]
@[simp] noncomputable def r5 (_ : Unit) : List Stp := [S 21 (.mv (.t 2)), S 22 (.mv (.t 7)), SP 23 (.call (.c (.func (.func fn_ref01_Has) [] [])) [(.t 21), (.t 22)]), S 24 (.mv (.t 23)), SG 25 24 true (.mv (.t 1)), SG 27 24 true (.fAddr 0 (.t 8)), SG 29 24 true (.fAddr 1 (.t 8)), SG 33 24 true (.fAddr 2 (.t 8)), SG 34 24 true (.fAddr 0 (.t 33)), SG 36 24 true (.fAddr 2 (.t 8)), SG 37 24 true (.fAddr 1 (.t 36)), SG 26 24 true (.load true 2 (.t 3)), SG 28 24 true (.load false 1 (.t 27)), SG 30 24 true (.load false 1 (.t 29)), SGP 31 24 true (.call (.c (.func (.func fn_ref01_wet) [] [])) [(.t 26), (.t 28), (.t 30)]), SGP 32 24 true (.call (.c (.func (.func fn_ref01_Sum) [] [])) [(.t 25), (.t 31)]), SG 35 24 true (.load false 1 (.t 34)), SG 38 24 true (.load false 1 (.t 37)), SGP 39 24 true (.call (.c (.func (.func fn_ref01_in) [] [])) [(.t 32), (.t 35), (.t 38)]), SG 40 24 true (.un .not (.t 39)), S 41 (.pick (.t 24) (.t 40) (.c (.bool false)))]
@[simp] noncomputable def r6 (_ : Unit) : List Stp := [S 6 (.mv (.c (.bool false)))]
@[simp] noncomputable def r3 (_ : Unit) : List Stp := [S 14 (.mv (.t 7)), S 15 (.bin .add (.t 14) (.c (.int .i64 1))), S 7 (.mv (.t 15))]
@[simp] noncomputable def r7 (_ : Unit) : List Stp := [S 6 (.mv (.c (.bool true)))]
@[simp] noncomputable def ir : IR := (.seq (.ops r0) (.seq (.seq (.ops r1) (.block 0 (.loop (.seq (.seq (.ops r2) (.cond (.t 13) .skip (.exit 0))) (.seq (.block 1 (.seq (.ops r4) (.seq (.ops r5) (.cond (.t 41) (.seq (.ops r6) .ret) .skip)))) (.ops r3)))))) (.seq (.ops r7) .ret)))
@[simp] noncomputable def rs : List RV := [.tmp 6]
theorem comp : compF Pg cfg Try.f81 = some (ir, rs, 42) := by kernel_rfl
theorem enter {args : List AVal} {h : Heap} {K : AEnd → Heap → Prop} (F : Nat) (hl : args.length ≤ 42) (a : AW ⟨Pg, F, 42, false, []⟩ ir (RetK rs K) (initT args) [] h) : ACalls Pg fn_ref01_right args h K :=
  ACalls.of_comp follows Try.func81 comp hl a
theorem pure {args : List AVal} {v : AVal} (hl : args.length ≤ 42) (a : AW ⟨Pg, 0, 42, false, []⟩ ir (RetK rs fun e _ => e = .ret v) (initT args) [] nilH) : APure Pg fn_ref01_right args v :=
  APure.of_nil (enter 0 hl a)
end ref01_right

namespace leak_sums
noncomputable def cfg : Cfg := { pure := pures, pcs := [], raw := [], cuts := [], draws := [(1, [⟨0, false, [], []⟩, ⟨1, false, [], []⟩, ⟨2, false, [], []⟩, ⟨5, false, [], []⟩, ⟨6, false, [], []⟩, ⟨7, false, [], []⟩, ⟨3, false, [], []⟩, ⟨8, false, [], []⟩, ⟨4, false, [11], [8]⟩, ⟨9, false, [11], []⟩, ⟨10, false, [], []⟩, ⟨11, true, [], []⟩, ⟨12, false, [], []⟩]), (5, [⟨0, false, [], []⟩, ⟨2, false, [], []⟩, ⟨6, false, [], []⟩, ⟨8, false, [], []⟩, ⟨1, false, [], []⟩, ⟨3, false, [], []⟩, ⟨7, false, [], []⟩, ⟨9, false, [], []⟩, ⟨4, false, [], [1, 7, 9]⟩, ⟨5, false, [], []⟩, ⟨10, false, [], [1, 7]⟩, ⟨11, false, [], []⟩, ⟨12, false, [], []⟩, ⟨13, false, [], []⟩])], keep := [] }
@[simp] noncomputable def r0 (_ : Unit) : List Stp := [S 4 (.alloc [(.int .i64 0), (.int .i64 0)])]
@[simp] noncomputable def r1 (_ : Unit) : List Stp := [S 8 (.mv (.t 1)), S 9 (.mv (.t 0)), S 10 (.ixS 6 (.t 9) (.c (.int .i64 0))), S 13 (.mv (.t 1)), S 14 (.mv (.t 0)), S 15 (.ixS 6 (.t 14) (.c (.int .i64 0))), S 11 (.load true 6 (.t 10)), S 16 (.load true 6 (.t 15)), SD (some 12) (.call (.t 8) [(.t 11)]) false [I 5 (.alloc [(.int .i64 0), (.int .i64 0)])] [I 16 (.load true 6 (.t 15))], SD (some 17) (.call (.t 13) [(.t 16)]) false [I 5 (.alloc [(.int .i64 0), (.int .i64 0)])] [], S 18 (.build [(.int .i64 0), (.int .i64 0)] [(0, 1, (.t 12)), (1, 1, (.t 17))]), SD (some 5) (.alloc [(.int .i64 0), (.int .i64 0)]) true [] [], SN (.store 2 (.t 5) (.t 18))]
@[simp] noncomputable def r2 (_ : Unit) : List Stp := [S 19 (.mv (.t 0)), S 20 (.len (.t 19)), S 21 (.mv (.c (.int .i64 0)))]
@[simp] noncomputable def r3 (_ : Unit) : List Stp := [S 22 (.bin .lss (.t 21) (.t 20))]
@[simp] noncomputable def r4 (_ : Unit) : List Stp := [S 23 (.ixS 6 (.t 19) (.t 21)), S 24 (.load true 6 (.t 23)), S 7 (.alloc [(.int .i64 0), (.int .i64 0), (.int .i64 0), (.int .i64 0), (.int .i64 0), (.int .i64 0)]), SN (.store 6 (.t 7) (.t 24))]
@[simp] noncomputable def r5 (_ : Unit) : List Stp := [S 25 (.fAddr 0 (.t 5)), S 27 (.mv (.t 1)), S 31 (.fAddr 1 (.t 5)), S 33 (.mv (.t 1)), S 26 (.load false 1 (.t 25)), S 28 (.load true 6 (.t 7)), S 32 (.load false 1 (.t 31)), S 34 (.load true 6 (.t 7)), SD (some 29) (.call (.t 27) [(.t 28)]) false [] [I 26 (.load false 1 (.t 25)), I 32 (.load false 1 (.t 31)), I 34 (.load true 6 (.t 7))], S 30 (.mm false [(.t 26), (.t 29)]), SD (some 35) (.call (.t 33) [(.t 34)]) false [] [I 26 (.load false 1 (.t 25)), I 32 (.load false 1 (.t 31))], S 36 (.mm true [(.t 32), (.t 35)]), S 37 (.build [(.int .i64 0), (.int .i64 0)] [(0, 1, (.t 30)), (1, 1, (.t 36))]), SN (.store 2 (.t 5) (.t 37))]
@[simp] noncomputable def r6 (_ : Unit) : List Stp := [S 38 (.bin .add (.t 21) (.c (.int .i64 1))), S 21 (.mv (.t 38))]
@[simp] noncomputable def r7 (_ : Unit) : List Stp := [S 39 (.load true 2 (.t 5)), SN (.store 2 (.t 4) (.t 39))]
@[simp] noncomputable def ir : IR := (.seq (.ops r0) (.seq (.ops r1) (.seq (.seq (.ops r2) (.block 0 (.loop (.seq (.ops r3) (.seq (.cond (.t 22) .skip (.exit 0)) (.seq (.block 1 (.seq (.ops r4) (.ops r5))) (.ops r6))))))) (.seq (.ops r7) .ret))))
@[simp] noncomputable def rs : List RV := [.cell 4 true 2]
theorem comp : compF Pg cfg Try.f82 = some (ir, rs, 40) := by kernel_rfl
theorem enter {args : List AVal} {h : Heap} {K : AEnd → Heap → Prop} (F : Nat) (hl : args.length ≤ 40) (a : AW ⟨Pg, F, 40, false, []⟩ ir (RetK rs K) (initT args) [] h) : ACalls Pg fn_leak_sums args h K :=
  ACalls.of_comp follows Try.func82 comp hl a
theorem pure {args : List AVal} {v : AVal} (hl : args.length ≤ 40) (a : AW ⟨Pg, 0, 40, false, []⟩ ir (RetK rs fun e _ => e = .ret v) (initT args) [] nilH) : APure Pg fn_leak_sums args v :=
  APure.of_nil (enter 0 hl a)
end leak_sums

namespace leak_hull_total_1
noncomputable def cfg : Cfg := { pure := pures, pcs := [], raw := [], cuts := [], draws := [], keep := [] }
@[simp] noncomputable def r0 (_ : Unit) : List Stp := [S 3 (.box (.t 0)), S 4 (.mv (.c (.int .i64 0)))]
@[simp] noncomputable def r1 (_ : Unit) : List Stp := [S 5 (.load false 1 (.t 1)), S 6 (.load true 6 (.t 3)), S 7 (.load false 1 (.t 2)), S 8 (.call (.t 5) [(.t 6), (.t 7)]), S 4 (.mv (.t 8))]
@[simp] noncomputable def ir : IR := (.seq (.ops r0) (.seq (.ops r1) .ret))
@[simp] noncomputable def rs : List RV := [.tmp 4]
theorem comp : compF Pg cfg Try.f83 = some (ir, rs, 9) := by kernel_rfl
theorem enter {args : List AVal} {h : Heap} {K : AEnd → Heap → Prop} (F : Nat) (hl : args.length ≤ 9) (a : AW ⟨Pg, F, 9, false, []⟩ ir (RetK rs K) (initT args) [] h) : ACalls Pg fn_leak_hull_total_1 args h K :=
  ACalls.of_comp follows Try.func83 comp hl a
theorem pure {args : List AVal} {v : AVal} (hl : args.length ≤ 9) (a : AW ⟨Pg, 0, 9, false, []⟩ ir (RetK rs fun e _ => e = .ret v) (initT args) [] nilH) : APure Pg fn_leak_hull_total_1 args v :=
  APure.of_nil (enter 0 hl a)
end leak_hull_total_1

namespace slices_Collect_leak_inflow
noncomputable def cfg : Cfg := { pure := pures, pcs := [], raw := [], cuts := [], draws := [], keep := [] }
@[simp] noncomputable def r0 (_ : Unit) : List Stp := [S 2 (.mv (.c .nils))]
@[simp] noncomputable def r1 (_ : Unit) : List Stp := [S 3 (.mv (.t 0)), S 4 (.call (.c (.func (.func fn_slices_AppendSeq_leak_inflow_leak_inflow) [] [])) [(.c .nils), (.t 3)]), S 2 (.mv (.t 4))]
@[simp] noncomputable def ir : IR := (.seq (.ops r0) (.seq (.ops r1) .ret))
@[simp] noncomputable def rs : List RV := [.tmp 2]
theorem comp : compF Pg cfg Try.f84 = some (ir, rs, 5) := by kernel_rfl
theorem enter {args : List AVal} {h : Heap} {K : AEnd → Heap → Prop} (F : Nat) (hl : args.length ≤ 5) (a : AW ⟨Pg, F, 5, false, []⟩ ir (RetK rs K) (initT args) [] h) : ACalls Pg fn_slices_Collect_leak_inflow args h K :=
  ACalls.of_comp follows Try.func84 comp hl a
theorem pure {args : List AVal} {v : AVal} (hl : args.length ≤ 5) (a : AW ⟨Pg, 0, 5, false, []⟩ ir (RetK rs fun e _ => e = .ret v) (initT args) [] nilH) : APure Pg fn_slices_Collect_leak_inflow args v :=
  APure.of_nil (enter 0 hl a)
end slices_Collect_leak_inflow

namespace slices_Sort_int_int
noncomputable def cfg : Cfg := { pure := pures, pcs := [], raw := [], cuts := [], draws := [], keep := [] }
@[simp] noncomputable def r0 (_ : Unit) : List Stp := [S 3 (.mv (.t 0)), S 4 (.len (.t 3)), S 2 (.mv (.t 4))]
@[simp] noncomputable def r1 (_ : Unit) : List Stp := [S 5 (.mv (.t 0)), S 6 (.mv (.t 2)), S 7 (.mv (.t 2)), S 8 (.conv .u64 (.t 7)), S 9 (.call (.c (.func (.func fn_math_bits_Len) [] [])) [(.t 8)]), S 10 (.call (.c (.func (.func fn_slices_pdqsortOrdered_int) [] [])) [(.t 5), (.c (.int .i64 0)), (.t 6), (.t 9)])]
@[simp] noncomputable def ir : IR := (.seq (.ops r0) (.ops r1))
@[simp] noncomputable def rs : List RV := []
theorem comp : compF Pg cfg Try.f85 = some (ir, rs, 11) := by kernel_rfl
theorem enter {args : List AVal} {h : Heap} {K : AEnd → Heap → Prop} (F : Nat) (hl : args.length ≤ 11) (a : AW ⟨Pg, F, 11, false, []⟩ ir (RetK rs K) (initT args) [] h) : ACalls Pg fn_slices_Sort_int_int args h K :=
  ACalls.of_comp follows Try.func85 comp hl a
theorem pure {args : List AVal} {v : AVal} (hl : args.length ≤ 11) (a : AW ⟨Pg, 0, 11, false, []⟩ ir (RetK rs fun e _ => e = .ret v) (initT args) [] nilH) : APure Pg fn_slices_Sort_int_int args v :=
  APure.of_nil (enter 0 hl a)
end slices_Sort_int_int

namespace leak_set_has
noncomputable def cfg : Cfg := { pure := pures, pcs := [], raw := [], cuts := [], draws := [], keep := [] }
@[simp] noncomputable def r0 (_ : Unit) : List Stp := [S 4 (.mv (.c (.bool false)))]
@[simp] noncomputable def r1 (_ : Unit) : List Stp := [S 5 (.mv (.t 0)), S 6 (.mv (.t 1)), S 7 (.bin .shr (.t 5) (.t 6)), S 8 (.bin .and (.t 7) (.c (.int .u64 1))), S 9 (.bin .eql (.t 8) (.c (.int .u64 1))), S 4 (.mv (.t 9))]
@[simp] noncomputable def ir : IR := (.seq (.ops r0) (.seq (.ops r1) .ret))
@[simp] noncomputable def rs : List RV := [.tmp 4]
theorem comp : compF Pg cfg Try.f86 = some (ir, rs, 10) := by kernel_rfl
theorem enter {args : List AVal} {h : Heap} {K : AEnd → Heap → Prop} (F : Nat) (hl : args.length ≤ 10) (a : AW ⟨Pg, F, 10, false, []⟩ ir (RetK rs K) (initT args) [] h) : ACalls Pg fn_leak_set_has args h K :=
  ACalls.of_comp follows Try.func86 comp hl a
theorem pure {args : List AVal} {v : AVal} (hl : args.length ≤ 10) (a : AW ⟨Pg, 0, 10, false, []⟩ ir (RetK rs fun e _ => e = .ret v) (initT args) [] nilH) : APure Pg fn_leak_set_has args v :=
  APure.of_nil (enter 0 hl a)
end leak_set_has

namespace leak_flows
noncomputable def cfg : Cfg := { pure := pures, pcs := [], raw := [], cuts := [], draws := [], keep := [] }
@[simp] noncomputable def r0 (_ : Unit) : List Stp := [S 2 (.mv (.c (.int .i64 0)))]
@[simp] noncomputable def r1 (_ : Unit) : List Stp := [S 5 (.mv (.t 0)), S 6 (.len (.t 5)), S 7 (.mv (.c (.int .i64 0)))]
@[simp] noncomputable def r2 (_ : Unit) : List Stp := [S 8 (.bin .lss (.t 7) (.t 6))]
@[simp] noncomputable def r3 (_ : Unit) : List Stp := [S 9 (.ixS 1 (.t 5) (.t 7)), S 10 (.load false 1 (.t 9)), S 4 (.mv (.t 10))]
@[simp] noncomputable def r4 (_ : Unit) : List Stp := [S 11 (.mv (.t 2)), S 12 (.mv (.t 4)), S 13 (.bin .add (.t 11) (.t 12)), S 2 (.mv (.t 13))]
@[simp] noncomputable def r5 (_ : Unit) : List Stp := [S 14 (.bin .add (.t 7) (.c (.int .i64 1))), S 7 (.mv (.t 14))]
@[simp] noncomputable def r6 (_ : Unit) : List Stp := [S 15 (.mv (.t 2)), S 2 (.mv (.t 15))]
@[simp] noncomputable def ir : IR := (.seq (.ops r0) (.seq (.seq (.ops r1) (.block 0 (.loop (.seq (.ops r2) (.seq (.cond (.t 8) .skip (.exit 0)) (.seq (.block 1 (.seq (.ops r3) (.ops r4))) (.ops r5))))))) (.seq (.ops r6) .ret)))
@[simp] noncomputable def rs : List RV := [.tmp 2]
theorem comp : compF Pg cfg Try.f87 = some (ir, rs, 16) := by kernel_rfl
theorem enter {args : List AVal} {h : Heap} {K : AEnd → Heap → Prop} (F : Nat) (hl : args.length ≤ 16) (a : AW ⟨Pg, F, 16, false, []⟩ ir (RetK rs K) (initT args) [] h) : ACalls Pg fn_leak_flows args h K :=
  ACalls.of_comp follows Try.func87 comp hl a
theorem pure {args : List AVal} {v : AVal} (hl : args.length ≤ 16) (a : AW ⟨Pg, 0, 16, false, []⟩ ir (RetK rs fun e _ => e = .ret v) (initT args) [] nilH) : APure Pg fn_leak_flows args v :=
  APure.of_nil (enter 0 hl a)
end leak_flows

namespace leak_hull_conditions
noncomputable def cfg : Cfg := { pure := pures, pcs := [], raw := [], cuts := [], draws := [(6, [⟨0, false, [], []⟩, ⟨1, false, [], []⟩, ⟨2, false, [], []⟩, ⟨4, false, [], []⟩, ⟨9, false, [], []⟩, ⟨3, false, [], []⟩, ⟨5, false, [], []⟩, ⟨6, false, [], []⟩, ⟨10, false, [], []⟩, ⟨7, false, [], [10]⟩, ⟨8, false, [], []⟩, ⟨11, false, [], []⟩, ⟨12, false, [], []⟩, ⟨13, false, [], []⟩, ⟨14, false, [], []⟩, ⟨15, false, [], []⟩])], keep := [] }
@[simp] noncomputable def r0 (_ : Unit) : List Stp := [S 4 (.mv (.c .nils))]
@[simp] noncomputable def r1 (_ : Unit) : List Stp := [S 8 (.build [] []), S 9 (.mkI 150 (.t 8)), S 10 (.bsl 1 [.nili] [(0, 1, (.t 9))]), S 5 (.mv (.t 10))]
@[simp] noncomputable def r2 (_ : Unit) : List Stp := [S 11 (.mv (.t 0)), S 12 (.nilck Pg (.t 11)), S 13 (.fAddr 0 (.t 12)), S 14 (.fAddr 1 (.t 13)), S 15 (.load false 1 (.t 14)), S 16 (.len (.t 15)), S 17 (.mv (.c (.int .i64 0)))]
@[simp] noncomputable def r3 (_ : Unit) : List Stp := [S 18 (.bin .lss (.t 17) (.t 16))]
@[simp] noncomputable def r4 (_ : Unit) : List Stp := [S 19 (.mv (.t 17)), S 20 (.ixS 4 (.t 15) (.t 17)), S 21 (.load true 4 (.t 20)), S 7 (.alloc [(.int .i64 0), (.int .i64 0), (.int .i64 0), (.int .i64 0)]), S 6 (.mv (.t 19)), SN (.store 4 (.t 7) (.t 21))]
@[simp] noncomputable def r5 (_ : Unit) : List Stp := [S 22 (.mv (.t 1)), S 23 (.mv (.t 6)), S 24 (.bin .shr (.t 22) (.t 23)), S 25 (.bin .and (.t 24) (.c (.int .u64 1))), S 26 (.bin .eql (.t 25) (.c (.int .u64 1)))]
@[simp] noncomputable def r6 (_ : Unit) : List Stp := [S 27 (.mv (.t 5)), S 28 (.mv (.t 0)), S 29 (.fAddr 0 (.t 7)), S 31 (.fAddr 1 (.t 7)), S 36 (.fAddr 2 (.t 7)), S 30 (.load false 1 (.t 29)), S 32 (.load false 1 (.t 31)), S 33 (.build [(.int .i64 0), (.int .i64 0)] [(0, 1, (.t 30)), (1, 1, (.t 32))]), S 37 (.load true 2 (.t 36)), SD (some 34) (.call (.c (.func (.func fn_leak_hull_wet) [] [])) [(.t 28), (.t 33)]) false [] [I 37 (.load true 2 (.t 36))], S 35 (.build [(.int .u64 0)] [(0, 1, (.t 34))]), S 38 (.build [(.int .u64 0), (.int .i64 0), (.int .i64 0)] [(0, 1, (.t 35)), (1, 2, (.t 37))]), S 39 (.mkI 154 (.t 38)), S 40 (.bsl 1 [.nili] [(0, 1, (.t 39))]), S 41 (.app 1 16 (.t 27) (.t 40)), S 5 (.mv (.t 41))]
@[simp] noncomputable def r7 (_ : Unit) : List Stp := [S 42 (.bin .add (.t 17) (.c (.int .i64 1))), S 17 (.mv (.t 42))]
@[simp] noncomputable def r8 (_ : Unit) : List Stp := [S 43 (.mv (.t 5)), S 4 (.mv (.t 43))]
@[simp] noncomputable def ir : IR := (.seq (.ops r0) (.seq (.ops r1) (.seq (.seq (.ops r2) (.block 0 (.loop (.seq (.ops r3) (.seq (.cond (.t 18) .skip (.exit 0)) (.seq (.block 1 (.seq (.ops r4) (.seq (.ops r5) (.cond (.t 26) (.ops r6) .skip)))) (.ops r7))))))) (.seq (.ops r8) .ret))))
@[simp] noncomputable def rs : List RV := [.tmp 4]
theorem comp : compF Pg cfg Try.f88 = some (ir, rs, 44) := by kernel_rfl
theorem enter {args : List AVal} {h : Heap} {K : AEnd → Heap → Prop} (F : Nat) (hl : args.length ≤ 44) (a : AW ⟨Pg, F, 44, false, []⟩ ir (RetK rs K) (initT args) [] h) : ACalls Pg fn_leak_hull_conditions args h K :=
  ACalls.of_comp follows Try.func88 comp hl a
theorem pure {args : List AVal} {v : AVal} (hl : args.length ≤ 44) (a : AW ⟨Pg, 0, 44, false, []⟩ ir (RetK rs fun e _ => e = .ret v) (initT args) [] nilH) : APure Pg fn_leak_hull_conditions args v :=
  APure.of_nil (enter 0 hl a)
end leak_hull_conditions

namespace leak_hull_inflows_1
noncomputable def cfg : Cfg := { pure := pures, pcs := [], raw := [], cuts := [], draws := [], keep := [] }
@[simp] noncomputable def r0 (_ : Unit) : List Stp := [S 3 (.box (.t 0))]
@[simp] noncomputable def r1 (_ : Unit) : List Stp := [S 4 (.alloc [.nilf])]
@[simp] noncomputable def r2 (_ : Unit) : List Stp := [S 5 (.mkF (.func fn_leak_hull_inflows_1_1) [] [(.t 1), (.t 3), (.t 2), (.t 4)]), SN (.store 1 (.t 4) (.t 5))]
@[simp] noncomputable def r3 (_ : Unit) : List Stp := [S 6 (.load false 1 (.t 4)), S 7 (.build [(.int .i64 0), (.int .i64 0), (.int .i64 0), (.int .i64 0), (.int .i64 0), (.int .i64 0)] []), S 8 (.call (.t 6) [(.t 7), (.c (.int .i64 0))])]
@[simp] noncomputable def ir : IR := (.seq (.ops r0) (.seq (.ops r1) (.seq (.ops r2) (.ops r3))))
@[simp] noncomputable def rs : List RV := []
theorem comp : compF Pg cfg Try.f89 = some (ir, rs, 9) := by kernel_rfl
theorem enter {args : List AVal} {h : Heap} {K : AEnd → Heap → Prop} (F : Nat) (hl : args.length ≤ 9) (a : AW ⟨Pg, F, 9, false, []⟩ ir (RetK rs K) (initT args) [] h) : ACalls Pg fn_leak_hull_inflows_1 args h K :=
  ACalls.of_comp follows Try.func89 comp hl a
theorem pure {args : List AVal} {v : AVal} (hl : args.length ≤ 9) (a : AW ⟨Pg, 0, 9, false, []⟩ ir (RetK rs fun e _ => e = .ret v) (initT args) [] nilH) : APure Pg fn_leak_hull_inflows_1 args v :=
  APure.of_nil (enter 0 hl a)
end leak_hull_inflows_1

namespace leak_hull_inflows_1_1
noncomputable def cfg : Cfg := { pure := pures, pcs := [], raw := [], cuts := [], draws := [(10, [⟨0, false, [], []⟩, ⟨2, false, [], []⟩, ⟨3, false, [], []⟩, ⟨8, false, [], []⟩, ⟨9, false, [], []⟩, ⟨10, false, [], []⟩, ⟨1, false, [], []⟩, ⟨4, false, [], []⟩, ⟨5, false, [], []⟩, ⟨6, false, [], []⟩, ⟨7, false, [], []⟩, ⟨11, false, [], []⟩, ⟨12, false, [], []⟩])], keep := [] }
@[simp] noncomputable def r0 (_ : Unit) : List Stp := [S 6 (.box (.t 0)), S 8 (.mv (.c (.bool false)))]
@[simp] noncomputable def r1 (_ : Unit) : List Stp := [S 12 (.mv (.t 1)), S 13 (.load false 1 (.t 2)), S 14 (.nilck Pg (.t 13)), S 15 (.fAddr 2 (.t 14)), S 16 (.load false 1 (.t 15)), S 17 (.len (.t 16)), S 18 (.bin .eql (.t 12) (.t 17))]
@[simp] noncomputable def r2 (_ : Unit) : List Stp := [S 19 (.load false 1 (.t 3)), S 20 (.load true 6 (.t 6)), S 21 (.call (.t 19) [(.t 20)]), S 8 (.mv (.t 21))]
@[simp] noncomputable def r3 (_ : Unit) : List Stp := [S 9 (.mv (.c (.int .i64 0)))]
@[simp] noncomputable def r4 (_ : Unit) : List Stp := [S 22 (.mv (.t 9)), S 23 (.load false 1 (.t 2)), S 24 (.nilck Pg (.t 23)), S 25 (.fAddr 2 (.t 24)), S 26 (.load false 1 (.t 25)), S 27 (.mv (.t 1)), S 28 (.ixS 1 (.t 26) (.t 27)), S 29 (.load false 1 (.t 28)), S 30 (.bin .leq (.t 22) (.t 29))]
@[simp] noncomputable def r6 (_ : Unit) : List Stp := [S 33 (.mv (.t 1)), S 34 (.mv (.t 9)), S 35 (.ixA 6 1 (.t 6) (.t 33)), SN (.store 1 (.t 35) (.t 34))]
@[simp] noncomputable def r7 (_ : Unit) : List Stp := [S 36 (.load false 1 (.t 4)), S 37 (.len (.t 36)), S 38 (.mv (.c (.int .i64 0)))]
@[simp] noncomputable def r8 (_ : Unit) : List Stp := [S 39 (.bin .lss (.t 38) (.t 37))]
@[simp] noncomputable def r9 (_ : Unit) : List Stp := [S 40 (.ixS 1 (.t 36) (.t 38)), S 41 (.load false 1 (.t 40)), S 11 (.mv (.t 41))]
@[simp] noncomputable def r10 (_ : Unit) : List Stp := [S 42 (.mv (.t 11)), S 44 (.mv (.t 1)), S 45 (.bin .add (.t 44) (.c (.int .i64 1))), S 50 (.mkF (.method "caulkworks/leak.can") [(.t 42)] []), S 51 (.nilck Pg (.t 50)), S 52 (.mv (.t 42)), S 43 (.load true 6 (.t 6)), S 46 (.load false 1 (.t 2)), S 47 (.nilck Pg (.t 46)), S 48 (.fAddr 2 (.t 47)), S 49 (.load false 1 (.t 48)), S 53 (.inv (.t 52) "caulkworks/leak.can" [(.t 43), (.t 45), (.t 49)]), S 54 (.un .not (.t 53))]
@[simp] noncomputable def r11 (_ : Unit) : List Stp := [S 55 (.bin .add (.t 38) (.c (.int .i64 1))), S 38 (.mv (.t 55))]
@[simp] noncomputable def r12 (_ : Unit) : List Stp := [S 56 (.load false 1 (.t 5)), S 57 (.load true 6 (.t 6)), S 58 (.mv (.t 1)), S 59 (.bin .add (.t 58) (.c (.int .i64 1))), S 60 (.call (.t 56) [(.t 57), (.t 59)]), S 61 (.un .not (.t 60))]
@[simp] noncomputable def r13 (_ : Unit) : List Stp := [S 8 (.mv (.c (.bool false)))]
@[simp] noncomputable def r5 (_ : Unit) : List Stp := [S 31 (.mv (.t 9)), S 32 (.bin .add (.t 31) (.c (.int .i64 1))), S 9 (.mv (.t 32))]
@[simp] noncomputable def r14 (_ : Unit) : List Stp := [S 8 (.mv (.c (.bool true)))]
@[simp] noncomputable def ir : IR := (.seq (.ops r0) (.seq (.seq (.ops r1) (.cond (.t 18) (.seq (.ops r2) .ret) .skip)) (.seq .skip (.seq (.seq (.ops r3) (.block 0 (.loop (.seq (.seq (.ops r4) (.cond (.t 30) .skip (.exit 0))) (.seq (.block 1 (.seq (.ops r6) (.seq (.seq (.ops r7) (.block 2 (.loop (.seq (.ops r8) (.seq (.cond (.t 39) .skip (.exit 2)) (.seq (.block 3 (.seq (.ops r9) (.seq (.ops r10) (.cond (.t 54) (.exit 1) .skip)))) (.ops r11))))))) (.seq (.ops r12) (.cond (.t 61) (.seq (.ops r13) .ret) .skip))))) (.ops r5)))))) (.seq (.ops r14) .ret)))))
@[simp] noncomputable def rs : List RV := [.tmp 8]
theorem comp : compF Pg cfg Try.f90 = some (ir, rs, 62) := by kernel_rfl
theorem enter {args : List AVal} {h : Heap} {K : AEnd → Heap → Prop} (F : Nat) (hl : args.length ≤ 62) (a : AW ⟨Pg, F, 62, false, []⟩ ir (RetK rs K) (initT args) [] h) : ACalls Pg fn_leak_hull_inflows_1_1 args h K :=
  ACalls.of_comp follows Try.func90 comp hl a
theorem pure {args : List AVal} {v : AVal} (hl : args.length ≤ 62) (a : AW ⟨Pg, 0, 62, false, []⟩ ir (RetK rs fun e _ => e = .ret v) (initT args) [] nilH) : APure Pg fn_leak_hull_inflows_1_1 args v :=
  APure.of_nil (enter 0 hl a)
end leak_hull_inflows_1_1

namespace ref01_wet
noncomputable def cfg : Cfg := { pure := pures, pcs := [], raw := [], cuts := [], draws := [(5, [⟨0, false, [], []⟩, ⟨2, false, [], []⟩, ⟨6, false, [], []⟩, ⟨7, false, [], []⟩, ⟨9, false, [], []⟩, ⟨13, false, [], []⟩, ⟨1, false, [], []⟩, ⟨3, false, [], []⟩, ⟨4, false, [], []⟩, ⟨5, false, [], []⟩, ⟨8, false, [], []⟩, ⟨10, false, [], []⟩, ⟨11, false, [], []⟩, ⟨12, false, [], []⟩, ⟨14, false, [], []⟩, ⟨15, false, [], []⟩, ⟨16, false, [], []⟩])], keep := [] }
@[simp] noncomputable def r0 (_ : Unit) : List Stp := [S 3 (.box (.t 0)), S 6 (.mv (.c (.int .i64 0)))]
@[simp] noncomputable def r1 (_ : Unit) : List Stp := [S 7 (.mv (.c (.int .i64 0)))]
@[simp] noncomputable def r2 (_ : Unit) : List Stp := [S 8 (.mv (.c (.int .i64 0)))]
@[simp] noncomputable def r3 (_ : Unit) : List Stp := [S 9 (.mv (.t 8)), S 10 (.fAddr 0 (.t 3)), S 11 (.load false 1 (.t 10)), S 12 (.len (.t 11)), S 13 (.bin .lss (.t 9) (.t 12))]
@[simp] noncomputable def r5 (_ : Unit) : List Stp := [S 16 (.fAddr 0 (.t 3)), S 18 (.mv (.t 8)), S 22 (.mv (.t 1)), S 23 (.fAddr 0 (.t 3)), S 25 (.mv (.t 8)), S 29 (.mv (.t 2)), S 17 (.load false 1 (.t 16)), S 19 (.ixS 3 (.t 17) (.t 18)), S 20 (.fAddr 0 (.t 19)), S 21 (.load false 1 (.t 20)), S 24 (.load false 1 (.t 23)), S 26 (.ixS 3 (.t 24) (.t 25)), S 27 (.fAddr 1 (.t 26)), S 28 (.load false 1 (.t 27)), S 30 (.bin .mul (.t 28) (.t 29)), S 31 (.bin .add (.t 22) (.t 30)), S 32 (.bin .leq (.t 21) (.t 31))]
@[simp] noncomputable def r6 (_ : Unit) : List Stp := [S 33 (.mv (.t 7)), S 34 (.mv (.t 8)), SP 35 (.call (.c (.func (.func fn_ref01_power) [] [])) [(.t 34)]), S 36 (.bin .add (.t 33) (.t 35)), S 7 (.mv (.t 36))]
@[simp] noncomputable def r4 (_ : Unit) : List Stp := [S 14 (.mv (.t 8)), S 15 (.bin .add (.t 14) (.c (.int .i64 1))), S 8 (.mv (.t 15))]
@[simp] noncomputable def r7 (_ : Unit) : List Stp := [S 37 (.mv (.t 7)), S 6 (.mv (.t 37))]
@[simp] noncomputable def ir : IR := (.seq (.ops r0) (.seq (.ops r1) (.seq (.seq (.ops r2) (.block 0 (.loop (.seq (.seq (.ops r3) (.cond (.t 13) .skip (.exit 0))) (.seq (.block 1 (.seq (.ops r5) (.cond (.t 32) (.ops r6) .skip))) (.ops r4)))))) (.seq (.ops r7) .ret))))
@[simp] noncomputable def rs : List RV := [.tmp 6]
theorem comp : compF Pg cfg Try.f91 = some (ir, rs, 38) := by kernel_rfl
theorem enter {args : List AVal} {h : Heap} {K : AEnd → Heap → Prop} (F : Nat) (hl : args.length ≤ 38) (a : AW ⟨Pg, F, 38, false, []⟩ ir (RetK rs K) (initT args) [] h) : ACalls Pg fn_ref01_wet args h K :=
  ACalls.of_comp follows Try.func91 comp hl a
theorem pure {args : List AVal} {v : AVal} (hl : args.length ≤ 38) (a : AW ⟨Pg, 0, 38, false, []⟩ ir (RetK rs fun e _ => e = .ret v) (initT args) [] nilH) : APure Pg fn_ref01_wet args v :=
  APure.of_nil (enter 0 hl a)
end ref01_wet

namespace slices_AppendSeq_leak_inflow_leak_inflow
noncomputable def cfg : Cfg := { pure := pures, pcs := [], raw := [], cuts := [], draws := [], keep := [] }
@[simp] noncomputable def r0 (_ : Unit) : List Stp := [S 2 (.box (.t 0)), S 4 (.mv (.c .nils))]
@[simp] noncomputable def r1 (_ : Unit) : List Stp := [S 6 (.mv (.t 1))]
@[simp] noncomputable def r2 (_ : Unit) : List Stp := [S 5 (.alloc [(.int .i64 0), (.int .i64 0), (.int .i64 0), (.int .i64 0), (.int .i64 0), (.int .i64 0)]), SN (.store 6 (.t 5) (.t 7))]
@[simp] noncomputable def r3 (_ : Unit) : List Stp := [S 8 (.load false 1 (.t 2)), S 9 (.load true 6 (.t 5)), S 10 (.bsl 1 [(.int .i64 0), (.int .i64 0), (.int .i64 0), (.int .i64 0), (.int .i64 0), (.int .i64 0)] [(0, 6, (.t 9))]), S 11 (.app 6 48 (.t 8) (.t 10)), SN (.store 1 (.t 2) (.t 11))]
@[simp] noncomputable def r4 (_ : Unit) : List Stp := [S 12 (.load false 1 (.t 2)), S 4 (.mv (.t 12))]
@[simp] noncomputable def ir : IR := (.seq (.ops r0) (.seq (.seq (.ops r1) (.block 0 (.rangeF (.t 6) [7] (.ops r2) (.block 1 (.ops r3))))) (.seq (.ops r4) .ret)))
@[simp] noncomputable def rs : List RV := [.tmp 4]
theorem comp : compF Pg cfg Try.f92 = some (ir, rs, 13) := by kernel_rfl
theorem enter {args : List AVal} {h : Heap} {K : AEnd → Heap → Prop} (F : Nat) (hl : args.length ≤ 13) (a : AW ⟨Pg, F, 13, false, []⟩ ir (RetK rs K) (initT args) [] h) : ACalls Pg fn_slices_AppendSeq_leak_inflow_leak_inflow args h K :=
  ACalls.of_comp follows Try.func92 comp hl a
theorem pure {args : List AVal} {v : AVal} (hl : args.length ≤ 13) (a : AW ⟨Pg, 0, 13, false, []⟩ ir (RetK rs fun e _ => e = .ret v) (initT args) [] nilH) : APure Pg fn_slices_AppendSeq_leak_inflow_leak_inflow args v :=
  APure.of_nil (enter 0 hl a)
end slices_AppendSeq_leak_inflow_leak_inflow

namespace slices_pdqsortOrdered_int
noncomputable def cfg : Cfg := { pure := pures, pcs := [], raw := [], cuts := [], draws := [(17, [⟨0, false, [], []⟩, ⟨1, false, [], []⟩, ⟨2, false, [], []⟩, ⟨3, false, [], []⟩, ⟨4, false, [], []⟩, ⟨5, false, [], []⟩, ⟨6, false, [], []⟩, ⟨8, false, [], []⟩, ⟨9, false, [], []⟩, ⟨10, false, [], []⟩, ⟨7, false, [], []⟩, ⟨11, false, [], []⟩, ⟨12, false, [], []⟩, ⟨13, false, [], []⟩, ⟨14, false, [], []⟩])], keep := [] }
@[simp] noncomputable def r0 (_ : Unit) : List Stp := [S 8 (.mv (.c (.bool true)))]
@[simp] noncomputable def r1 (_ : Unit) : List Stp := [S 9 (.mv (.c (.bool true)))]
@[simp] noncomputable def r2 (_ : Unit) : List Stp := [S 19 (.mv (.t 2)), S 20 (.mv (.t 1)), S 21 (.bin .sub (.t 19) (.t 20)), S 10 (.mv (.t 21))]
@[simp] noncomputable def r3 (_ : Unit) : List Stp := [S 22 (.mv (.t 10)), S 23 (.bin .leq (.t 22) (.c (.int .i64 12)))]
@[simp] noncomputable def r4 (_ : Unit) : List Stp := [S 24 (.mv (.t 0)), S 25 (.mv (.t 1)), S 26 (.mv (.t 2)), S 27 (.call (.c (.func (.func fn_slices_insertionSortOrdered_int) [] [])) [(.t 24), (.t 25), (.t 26)])]
@[simp] noncomputable def r5 (_ : Unit) : List Stp := [S 28 (.mv (.t 3)), S 29 (.bin .eql (.t 28) (.c (.int .i64 0)))]
@[simp] noncomputable def r6 (_ : Unit) : List Stp := [S 30 (.mv (.t 0)), S 31 (.mv (.t 1)), S 32 (.mv (.t 2)), S 33 (.call (.c (.func (.func fn_slices_heapSortOrdered_int) [] [])) [(.t 30), (.t 31), (.t 32)])]
@[simp] noncomputable def r7 (_ : Unit) : List Stp := [S 34 (.mv (.t 8)), S 35 (.un .not (.t 34))]
@[simp] noncomputable def r8 (_ : Unit) : List Stp := [S 36 (.mv (.t 0)), S 37 (.mv (.t 1)), S 38 (.mv (.t 2)), S 39 (.call (.c (.func (.func fn_slices_breakPatternsOrdered_int) [] [])) [(.t 36), (.t 37), (.t 38)])]
@[simp] noncomputable def r9 (_ : Unit) : List Stp := [S 40 (.mv (.t 3)), S 41 (.bin .sub (.t 40) (.c (.int .i64 1))), S 3 (.mv (.t 41))]
@[simp] noncomputable def r10 (_ : Unit) : List Stp := [S 43 (.mv (.t 0)), S 44 (.mv (.t 1)), S 45 (.mv (.t 2)), S 46 (.call (.c (.func (.func fn_slices_choosePivotOrdered_int) [] [])) [(.t 43), (.t 44), (.t 45)]), S 42 (.mv (.t 46)), S 47 (.ext (.t 42) 0), S 48 (.ext (.t 42) 1), S 11 (.mv (.t 47)), S 12 (.mv (.t 48))]
@[simp] noncomputable def r11 (_ : Unit) : List Stp := [S 49 (.mv (.t 12)), S 50 (.bin .eql (.t 49) (.c (.int .i64 2)))]
@[simp] noncomputable def r12 (_ : Unit) : List Stp := [S 51 (.mv (.t 0)), S 52 (.mv (.t 1)), S 53 (.mv (.t 2)), S 54 (.call (.c (.func (.func fn_slices_reverseRangeOrdered_int) [] [])) [(.t 51), (.t 52), (.t 53)])]
@[simp] noncomputable def r13 (_ : Unit) : List Stp := [S 55 (.mv (.t 2)), S 56 (.bin .sub (.t 55) (.c (.int .i64 1))), S 57 (.mv (.t 11)), S 58 (.mv (.t 1)), S 59 (.bin .sub (.t 57) (.t 58)), S 60 (.bin .sub (.t 56) (.t 59)), S 11 (.mv (.t 60))]
@[simp] noncomputable def r14 (_ : Unit) : List Stp := [S 12 (.mv (.c (.int .i64 1)))]
@[simp] noncomputable def r15 (_ : Unit) : List Stp := [S 61 (.mv (.t 8)), S 62 (.mv (.t 61)), SG 63 62 true (.mv (.t 9)), S 64 (.pick (.t 62) (.t 63) (.c (.bool false))), S 65 (.mv (.t 64)), SG 66 65 true (.mv (.t 12)), SG 67 65 true (.bin .eql (.t 66) (.c (.int .i64 1))), S 68 (.pick (.t 65) (.t 67) (.c (.bool false)))]
@[simp] noncomputable def r16 (_ : Unit) : List Stp := [S 69 (.mv (.t 0)), S 70 (.mv (.t 1)), S 71 (.mv (.t 2)), S 72 (.call (.c (.func (.func fn_slices_partialInsertionSortOrdered_int) [] [])) [(.t 69), (.t 70), (.t 71)])]
@[simp] noncomputable def r17 (_ : Unit) : List Stp := [S 73 (.mv (.t 1)), S 74 (.bin .gtr (.t 73) (.c (.int .i64 0))), S 75 (.mv (.t 74)), SG 76 75 true (.mv (.t 0)), SG 77 75 true (.mv (.t 1)), SG 78 75 true (.bin .sub (.t 77) (.c (.int .i64 1))), SG 79 75 true (.ixS 1 (.t 76) (.t 78)), SG 81 75 true (.mv (.t 0)), SG 82 75 true (.mv (.t 11)), SG 83 75 true (.ixS 1 (.t 81) (.t 82)), SG 80 75 true (.load false 1 (.t 79)), SG 84 75 true (.load false 1 (.t 83)), SG 85 75 true (.call (.c (.func (.func fn_cmp_Less_int) [] [])) [(.t 80), (.t 84)]), SG 86 75 true (.un .not (.t 85)), S 87 (.pick (.t 75) (.t 86) (.c (.bool false)))]
@[simp] noncomputable def r18 (_ : Unit) : List Stp := [S 88 (.mv (.t 0)), S 89 (.mv (.t 1)), S 90 (.mv (.t 2)), S 91 (.mv (.t 11)), S 92 (.call (.c (.func (.func fn_slices_partitionEqualOrdered_int) [] [])) [(.t 88), (.t 89), (.t 90), (.t 91)]), S 13 (.mv (.t 92))]
@[simp] noncomputable def r19 (_ : Unit) : List Stp := [S 93 (.mv (.t 13)), S 1 (.mv (.t 93))]
@[simp] noncomputable def r20 (_ : Unit) : List Stp := [S 95 (.mv (.t 0)), S 96 (.mv (.t 1)), S 97 (.mv (.t 2)), S 98 (.mv (.t 11)), S 99 (.call (.c (.func (.func fn_slices_partitionOrdered_int) [] [])) [(.t 95), (.t 96), (.t 97), (.t 98)]), S 94 (.mv (.t 99)), S 100 (.ext (.t 94) 0), S 101 (.ext (.t 94) 1), S 14 (.mv (.t 100)), S 15 (.mv (.t 101))]
@[simp] noncomputable def r21 (_ : Unit) : List Stp := [S 102 (.mv (.t 15)), S 9 (.mv (.t 102))]
@[simp] noncomputable def r22 (_ : Unit) : List Stp := [S 103 (.mv (.t 14)), S 104 (.mv (.t 1)), S 105 (.bin .sub (.t 103) (.t 104)), S 106 (.mv (.t 2)), S 107 (.mv (.t 14)), S 108 (.bin .sub (.t 106) (.t 107)), S 16 (.mv (.t 105)), S 17 (.mv (.t 108))]
@[simp] noncomputable def r23 (_ : Unit) : List Stp := [S 109 (.mv (.t 10)), S 110 (.bin .quo (.t 109) (.c (.int .i64 8))), S 18 (.mv (.t 110))]
@[simp] noncomputable def r24 (_ : Unit) : List Stp := [S 111 (.mv (.t 16)), S 112 (.mv (.t 17)), S 113 (.bin .lss (.t 111) (.t 112))]
@[simp] noncomputable def r25 (_ : Unit) : List Stp := [S 114 (.mv (.t 16)), S 115 (.mv (.t 18)), S 116 (.bin .geq (.t 114) (.t 115)), S 8 (.mv (.t 116))]
@[simp] noncomputable def r26 (_ : Unit) : List Stp := [S 117 (.mv (.t 0)), S 118 (.mv (.t 1)), S 119 (.mv (.t 14)), S 120 (.mv (.t 3)), S 121 (.call (.c (.func (.func fn_slices_pdqsortOrdered_int) [] [])) [(.t 117), (.t 118), (.t 119), (.t 120)])]
@[simp] noncomputable def r27 (_ : Unit) : List Stp := [S 122 (.mv (.t 14)), S 123 (.bin .add (.t 122) (.c (.int .i64 1))), S 1 (.mv (.t 123))]
@[simp] noncomputable def r28 (_ : Unit) : List Stp := [S 124 (.mv (.t 17)), S 125 (.mv (.t 18)), S 126 (.bin .geq (.t 124) (.t 125)), S 8 (.mv (.t 126))]
@[simp] noncomputable def r29 (_ : Unit) : List Stp := [S 127 (.mv (.t 0)), S 128 (.mv (.t 14)), S 129 (.bin .add (.t 128) (.c (.int .i64 1))), S 130 (.mv (.t 2)), S 131 (.mv (.t 3)), S 132 (.call (.c (.func (.func fn_slices_pdqsortOrdered_int) [] [])) [(.t 127), (.t 129), (.t 130), (.t 131)])]
@[simp] noncomputable def r30 (_ : Unit) : List Stp := [S 133 (.mv (.t 14)), S 2 (.mv (.t 133))]
@[simp] noncomputable def ir : IR := (.seq (.ops r0) (.seq (.ops r1) (.block 0 (.loop (.block 1 (.seq (.ops r2) (.seq (.seq (.ops r3) (.cond (.t 23) (.seq (.ops r4) .ret) .skip)) (.seq (.seq (.ops r5) (.cond (.t 29) (.seq (.ops r6) .ret) .skip)) (.seq (.seq (.ops r7) (.cond (.t 35) (.seq (.ops r8) (.ops r9)) .skip)) (.seq (.ops r10) (.seq (.seq (.ops r11) (.cond (.t 50) (.seq (.ops r12) (.seq (.ops r13) (.ops r14))) .skip)) (.seq (.seq (.ops r15) (.cond (.t 68) (.seq (.ops r16) (.cond (.t 72) .ret .skip)) .skip)) (.seq (.seq (.ops r17) (.cond (.t 87) (.seq (.ops r18) (.seq (.ops r19) (.exit 1))) .skip)) (.seq (.ops r20) (.seq (.ops r21) (.seq (.ops r22) (.seq (.ops r23) (.seq (.ops r24) (.cond (.t 113) (.seq (.ops r25) (.seq (.ops r26) (.ops r27))) (.seq (.ops r28) (.seq (.ops r29) (.ops r30))))))))))))))))))))))
@[simp] noncomputable def rs : List RV := []
theorem comp : compF Pg cfg Try.f93 = some (ir, rs, 134) := by kernel_rfl
theorem enter {args : List AVal} {h : Heap} {K : AEnd → Heap → Prop} (F : Nat) (hl : args.length ≤ 134) (a : AW ⟨Pg, F, 134, false, []⟩ ir (RetK rs K) (initT args) [] h) : ACalls Pg fn_slices_pdqsortOrdered_int args h K :=
  ACalls.of_comp follows Try.func93 comp hl a
theorem pure {args : List AVal} {v : AVal} (hl : args.length ≤ 134) (a : AW ⟨Pg, 0, 134, false, []⟩ ir (RetK rs fun e _ => e = .ret v) (initT args) [] nilH) : APure Pg fn_slices_pdqsortOrdered_int args v :=
  APure.of_nil (enter 0 hl a)
end slices_pdqsortOrdered_int

namespace math_bits_Len
noncomputable def cfg : Cfg := { pure := pures, pcs := [], raw := [], cuts := [], draws := [], keep := [] }
@[simp] noncomputable def r0 (_ : Unit) : List Stp := [S 2 (.mv (.c (.int .i64 0)))]
@[simp] noncomputable def r1 (_ : Unit) : List Stp := [S 3 (.mv (.t 0)), S 4 (.conv .u32 (.t 3)), S 5 (.call (.c (.func (.func fn_math_bits_Len32) [] [])) [(.t 4)]), S 2 (.mv (.t 5))]
@[simp] noncomputable def r2 (_ : Unit) : List Stp := [S 6 (.mv (.t 0)), S 7 (.call (.c (.func (.func fn_math_bits_Len64) [] [])) [(.t 6)]), S 2 (.mv (.t 7))]
@[simp] noncomputable def ir : IR := (.seq (.ops r0) (.seq (.cond (.c (.bool false)) (.seq (.ops r1) .ret) .skip) (.seq (.ops r2) .ret)))
@[simp] noncomputable def rs : List RV := [.tmp 2]
theorem comp : compF Pg cfg Try.f94 = some (ir, rs, 8) := by kernel_rfl
theorem enter {args : List AVal} {h : Heap} {K : AEnd → Heap → Prop} (F : Nat) (hl : args.length ≤ 8) (a : AW ⟨Pg, F, 8, false, []⟩ ir (RetK rs K) (initT args) [] h) : ACalls Pg fn_math_bits_Len args h K :=
  ACalls.of_comp follows Try.func94 comp hl a
theorem pure {args : List AVal} {v : AVal} (hl : args.length ≤ 8) (a : AW ⟨Pg, 0, 8, false, []⟩ ir (RetK rs fun e _ => e = .ret v) (initT args) [] nilH) : APure Pg fn_math_bits_Len args v :=
  APure.of_nil (enter 0 hl a)
end math_bits_Len

namespace slices_insertionSortOrdered_int
noncomputable def cfg : Cfg := { pure := pures, pcs := [], raw := [], cuts := [], draws := [(4, [⟨0, false, [], []⟩, ⟨1, false, [], []⟩, ⟨2, false, [], []⟩, ⟨3, false, [], []⟩, ⟨4, false, [], []⟩, ⟨5, false, [], []⟩, ⟨6, false, [], []⟩, ⟨8, false, [], []⟩, ⟨9, false, [], []⟩, ⟨10, false, [], []⟩, ⟨11, false, [], []⟩, ⟨7, false, [], []⟩, ⟨12, false, [], []⟩, ⟨13, false, [], []⟩, ⟨14, false, [], []⟩]), (6, [⟨0, false, [], []⟩, ⟨1, false, [], []⟩, ⟨2, false, [], []⟩, ⟨3, false, [], []⟩, ⟨4, false, [], []⟩, ⟨5, false, [], []⟩, ⟨6, false, [], []⟩, ⟨7, false, [], []⟩, ⟨8, false, [], []⟩, ⟨10, false, [], []⟩, ⟨11, false, [], []⟩, ⟨12, false, [], []⟩, ⟨9, false, [], []⟩, ⟨13, false, [], []⟩, ⟨14, false, [], []⟩, ⟨15, false, [], []⟩, ⟨16, false, [], []⟩, ⟨17, false, [], []⟩])], keep := [] }
@[simp] noncomputable def r0 (_ : Unit) : List Stp := [S 8 (.mv (.t 1)), S 9 (.bin .add (.t 8) (.c (.int .i64 1))), S 6 (.mv (.t 9))]
@[simp] noncomputable def r1 (_ : Unit) : List Stp := [S 10 (.mv (.t 6)), S 11 (.mv (.t 2)), S 12 (.bin .lss (.t 10) (.t 11))]
@[simp] noncomputable def r3 (_ : Unit) : List Stp := [S 15 (.mv (.t 6)), S 7 (.mv (.t 15))]
@[simp] noncomputable def r4 (_ : Unit) : List Stp := [S 16 (.mv (.t 7)), S 17 (.mv (.t 1)), S 18 (.bin .gtr (.t 16) (.t 17)), S 19 (.mv (.t 18)), SG 20 19 true (.mv (.t 0)), SG 21 19 true (.mv (.t 7)), SG 22 19 true (.ixS 1 (.t 20) (.t 21)), SG 24 19 true (.mv (.t 0)), SG 25 19 true (.mv (.t 7)), SG 26 19 true (.bin .sub (.t 25) (.c (.int .i64 1))), SG 27 19 true (.ixS 1 (.t 24) (.t 26)), SG 23 19 true (.load false 1 (.t 22)), SG 28 19 true (.load false 1 (.t 27)), SG 29 19 true (.call (.c (.func (.func fn_cmp_Less_int) [] [])) [(.t 23), (.t 28)]), S 30 (.pick (.t 19) (.t 29) (.c (.bool false)))]
@[simp] noncomputable def r6 (_ : Unit) : List Stp := [S 33 (.mv (.t 0)), S 34 (.mv (.t 7)), S 35 (.mv (.t 0)), S 36 (.mv (.t 7)), S 37 (.bin .sub (.t 36) (.c (.int .i64 1))), S 38 (.mv (.t 0)), S 39 (.mv (.t 7)), S 40 (.bin .sub (.t 39) (.c (.int .i64 1))), S 41 (.ixS 1 (.t 38) (.t 40)), S 43 (.mv (.t 0)), S 44 (.mv (.t 7)), S 45 (.ixS 1 (.t 43) (.t 44)), S 42 (.load false 1 (.t 41)), S 46 (.load false 1 (.t 45)), S 47 (.ixS 1 (.t 33) (.t 34)), SN (.store 1 (.t 47) (.t 42)), S 48 (.ixS 1 (.t 35) (.t 37)), SN (.store 1 (.t 48) (.t 46))]
@[simp] noncomputable def r5 (_ : Unit) : List Stp := [S 31 (.mv (.t 7)), S 32 (.bin .sub (.t 31) (.c (.int .i64 1))), S 7 (.mv (.t 32))]
@[simp] noncomputable def r2 (_ : Unit) : List Stp := [S 13 (.mv (.t 6)), S 14 (.bin .add (.t 13) (.c (.int .i64 1))), S 6 (.mv (.t 14))]
@[simp] noncomputable def ir : IR := (.seq (.ops r0) (.block 0 (.loop (.seq (.seq (.ops r1) (.cond (.t 12) .skip (.exit 0))) (.seq (.block 1 (.seq (.ops r3) (.block 2 (.loop (.seq (.seq (.ops r4) (.cond (.t 30) .skip (.exit 2))) (.seq (.block 3 (.ops r6)) (.ops r5))))))) (.ops r2))))))
@[simp] noncomputable def rs : List RV := []
theorem comp : compF Pg cfg Try.f95 = some (ir, rs, 49) := by kernel_rfl
theorem enter {args : List AVal} {h : Heap} {K : AEnd → Heap → Prop} (F : Nat) (hl : args.length ≤ 49) (a : AW ⟨Pg, F, 49, false, []⟩ ir (RetK rs K) (initT args) [] h) : ACalls Pg fn_slices_insertionSortOrdered_int args h K :=
  ACalls.of_comp follows Try.func95 comp hl a
theorem pure {args : List AVal} {v : AVal} (hl : args.length ≤ 49) (a : AW ⟨Pg, 0, 49, false, []⟩ ir (RetK rs fun e _ => e = .ret v) (initT args) [] nilH) : APure Pg fn_slices_insertionSortOrdered_int args v :=
  APure.of_nil (enter 0 hl a)
end slices_insertionSortOrdered_int

namespace slices_heapSortOrdered_int
noncomputable def cfg : Cfg := { pure := pures, pcs := [], raw := [], cuts := [], draws := [(10, [⟨0, false, [], []⟩, ⟨1, false, [], []⟩, ⟨2, false, [], []⟩, ⟨3, false, [], []⟩, ⟨4, false, [], []⟩, ⟨5, false, [], []⟩, ⟨6, false, [], []⟩, ⟨7, false, [], []⟩, ⟨8, false, [], []⟩, ⟨9, false, [], []⟩, ⟨10, false, [], []⟩, ⟨12, false, [], []⟩, ⟨13, false, [], []⟩, ⟨14, false, [], []⟩, ⟨11, false, [], []⟩, ⟨15, false, [], []⟩, ⟨16, false, [], []⟩, ⟨17, false, [], []⟩, ⟨18, false, [], []⟩, ⟨19, false, [], []⟩])], keep := [] }
@[simp] noncomputable def r0 (_ : Unit) : List Stp := [S 11 (.mv (.t 1)), S 6 (.mv (.t 11))]
@[simp] noncomputable def r1 (_ : Unit) : List Stp := [S 7 (.mv (.c (.int .i64 0)))]
@[simp] noncomputable def r2 (_ : Unit) : List Stp := [S 12 (.mv (.t 2)), S 13 (.mv (.t 1)), S 14 (.bin .sub (.t 12) (.t 13)), S 8 (.mv (.t 14))]
@[simp] noncomputable def r3 (_ : Unit) : List Stp := [S 15 (.mv (.t 8)), S 16 (.bin .sub (.t 15) (.c (.int .i64 1))), S 17 (.bin .quo (.t 16) (.c (.int .i64 2))), S 9 (.mv (.t 17))]
@[simp] noncomputable def r4 (_ : Unit) : List Stp := [S 18 (.mv (.t 9)), S 19 (.bin .geq (.t 18) (.c (.int .i64 0)))]
@[simp] noncomputable def r6 (_ : Unit) : List Stp := [S 22 (.mv (.t 0)), S 23 (.mv (.t 9)), S 24 (.mv (.t 8)), S 25 (.mv (.t 6)), S 26 (.call (.c (.func (.func fn_slices_siftDownOrdered_int) [] [])) [(.t 22), (.t 23), (.t 24), (.t 25)])]
@[simp] noncomputable def r5 (_ : Unit) : List Stp := [S 20 (.mv (.t 9)), S 21 (.bin .sub (.t 20) (.c (.int .i64 1))), S 9 (.mv (.t 21))]
@[simp] noncomputable def r7 (_ : Unit) : List Stp := [S 27 (.mv (.t 8)), S 28 (.bin .sub (.t 27) (.c (.int .i64 1))), S 10 (.mv (.t 28))]
@[simp] noncomputable def r8 (_ : Unit) : List Stp := [S 29 (.mv (.t 10)), S 30 (.bin .geq (.t 29) (.c (.int .i64 0)))]
@[simp] noncomputable def r10 (_ : Unit) : List Stp := [S 33 (.mv (.t 0)), S 34 (.mv (.t 6)), S 35 (.mv (.t 0)), S 36 (.mv (.t 6)), S 37 (.mv (.t 10)), S 38 (.bin .add (.t 36) (.t 37)), S 39 (.mv (.t 0)), S 40 (.mv (.t 6)), S 41 (.mv (.t 10)), S 42 (.bin .add (.t 40) (.t 41)), S 43 (.ixS 1 (.t 39) (.t 42)), S 45 (.mv (.t 0)), S 46 (.mv (.t 6)), S 47 (.ixS 1 (.t 45) (.t 46)), S 44 (.load false 1 (.t 43)), S 48 (.load false 1 (.t 47)), S 49 (.ixS 1 (.t 33) (.t 34)), SN (.store 1 (.t 49) (.t 44)), S 50 (.ixS 1 (.t 35) (.t 38)), SN (.store 1 (.t 50) (.t 48))]
@[simp] noncomputable def r11 (_ : Unit) : List Stp := [S 51 (.mv (.t 0)), S 52 (.mv (.t 7)), S 53 (.mv (.t 10)), S 54 (.mv (.t 6)), S 55 (.call (.c (.func (.func fn_slices_siftDownOrdered_int) [] [])) [(.t 51), (.t 52), (.t 53), (.t 54)])]
@[simp] noncomputable def r9 (_ : Unit) : List Stp := [S 31 (.mv (.t 10)), S 32 (.bin .sub (.t 31) (.c (.int .i64 1))), S 10 (.mv (.t 32))]
@[simp] noncomputable def ir : IR := (.seq (.ops r0) (.seq (.ops r1) (.seq (.ops r2) (.seq (.seq (.ops r3) (.block 0 (.loop (.seq (.seq (.ops r4) (.cond (.t 19) .skip (.exit 0))) (.seq (.block 1 (.ops r6)) (.ops r5)))))) (.seq (.ops r7) (.block 2 (.loop (.seq (.seq (.ops r8) (.cond (.t 30) .skip (.exit 2))) (.seq (.block 3 (.seq (.ops r10) (.ops r11))) (.ops r9))))))))))
@[simp] noncomputable def rs : List RV := []
theorem comp : compF Pg cfg Try.f96 = some (ir, rs, 56) := by kernel_rfl
theorem enter {args : List AVal} {h : Heap} {K : AEnd → Heap → Prop} (F : Nat) (hl : args.length ≤ 56) (a : AW ⟨Pg, F, 56, false, []⟩ ir (RetK rs K) (initT args) [] h) : ACalls Pg fn_slices_heapSortOrdered_int args h K :=
  ACalls.of_comp follows Try.func96 comp hl a
theorem pure {args : List AVal} {v : AVal} (hl : args.length ≤ 56) (a : AW ⟨Pg, 0, 56, false, []⟩ ir (RetK rs fun e _ => e = .ret v) (initT args) [] nilH) : APure Pg fn_slices_heapSortOrdered_int args v :=
  APure.of_nil (enter 0 hl a)
end slices_heapSortOrdered_int

namespace slices_breakPatternsOrdered_int
noncomputable def cfg : Cfg := { pure := pures, pcs := [], raw := [], cuts := [], draws := [(10, [⟨0, false, [], []⟩, ⟨1, false, [], []⟩, ⟨2, false, [], []⟩, ⟨3, false, [], []⟩, ⟨4, false, [], []⟩, ⟨5, false, [], []⟩, ⟨6, false, [], []⟩, ⟨7, false, [], []⟩, ⟨8, false, [], []⟩, ⟨9, false, [], []⟩, ⟨10, false, [], []⟩, ⟨12, false, [], []⟩, ⟨13, false, [], []⟩, ⟨14, false, [], []⟩, ⟨11, false, [], []⟩, ⟨15, false, [], []⟩, ⟨16, false, [], []⟩, ⟨17, false, [], []⟩, ⟨18, false, [], []⟩, ⟨19, false, [], []⟩])], keep := [] }
@[simp] noncomputable def r0 (_ : Unit) : List Stp := [S 11 (.mv (.t 2)), S 12 (.mv (.t 1)), S 13 (.bin .sub (.t 11) (.t 12)), S 6 (.mv (.t 13))]
@[simp] noncomputable def r1 (_ : Unit) : List Stp := [S 14 (.mv (.t 6)), S 15 (.bin .geq (.t 14) (.c (.int .i64 8)))]
@[simp] noncomputable def r2 (_ : Unit) : List Stp := [S 16 (.mv (.t 6)), S 17 (.conv .u64 (.t 16)), S 7 (.alloc [(.int .u64 0)]), SN (.store 1 (.t 7) (.t 17))]
@[simp] noncomputable def r3 (_ : Unit) : List Stp := [S 18 (.mv (.t 6)), S 19 (.call (.c (.func (.func fn_slices_nextPowerOfTwo) [] [])) [(.t 18)]), S 8 (.mv (.t 19))]
@[simp] noncomputable def r4 (_ : Unit) : List Stp := [S 20 (.mv (.t 1)), S 21 (.mv (.t 6)), S 22 (.bin .quo (.t 21) (.c (.int .i64 4))), S 23 (.bin .mul (.t 22) (.c (.int .i64 2))), S 24 (.bin .add (.t 20) (.t 23)), S 25 (.bin .sub (.t 24) (.c (.int .i64 1))), S 9 (.mv (.t 25))]
@[simp] noncomputable def r5 (_ : Unit) : List Stp := [S 26 (.mv (.t 9)), S 27 (.mv (.t 1)), S 28 (.mv (.t 6)), S 29 (.bin .quo (.t 28) (.c (.int .i64 4))), S 30 (.bin .mul (.t 29) (.c (.int .i64 2))), S 31 (.bin .add (.t 27) (.t 30)), S 32 (.bin .add (.t 31) (.c (.int .i64 1))), S 33 (.bin .leq (.t 26) (.t 32))]
@[simp] noncomputable def r7 (_ : Unit) : List Stp := [S 36 (.call (.c (.func (.func fn_slices_xorshift_Next) [] [])) [(.t 7)]), S 37 (.mv (.t 8)), S 38 (.bin .sub (.t 37) (.c (.int .u64 1))), S 39 (.bin .and (.t 36) (.t 38)), S 40 (.conv .i64 (.t 39)), S 10 (.mv (.t 40))]
@[simp] noncomputable def r8 (_ : Unit) : List Stp := [S 41 (.mv (.t 10)), S 42 (.mv (.t 6)), S 43 (.bin .geq (.t 41) (.t 42))]
@[simp] noncomputable def r9 (_ : Unit) : List Stp := [S 44 (.mv (.t 10)), S 45 (.mv (.t 6)), S 46 (.bin .sub (.t 44) (.t 45)), S 10 (.mv (.t 46))]
@[simp] noncomputable def r10 (_ : Unit) : List Stp := [S 47 (.mv (.t 0)), S 48 (.mv (.t 9)), S 49 (.mv (.t 0)), S 50 (.mv (.t 1)), S 51 (.mv (.t 10)), S 52 (.bin .add (.t 50) (.t 51)), S 53 (.mv (.t 0)), S 54 (.mv (.t 1)), S 55 (.mv (.t 10)), S 56 (.bin .add (.t 54) (.t 55)), S 57 (.ixS 1 (.t 53) (.t 56)), S 59 (.mv (.t 0)), S 60 (.mv (.t 9)), S 61 (.ixS 1 (.t 59) (.t 60)), S 58 (.load false 1 (.t 57)), S 62 (.load false 1 (.t 61)), S 63 (.ixS 1 (.t 47) (.t 48)), SN (.store 1 (.t 63) (.t 58)), S 64 (.ixS 1 (.t 49) (.t 52)), SN (.store 1 (.t 64) (.t 62))]
@[simp] noncomputable def r6 (_ : Unit) : List Stp := [S 34 (.mv (.t 9)), S 35 (.bin .add (.t 34) (.c (.int .i64 1))), S 9 (.mv (.t 35))]
@[simp] noncomputable def ir : IR := (.seq (.ops r0) (.seq (.ops r1) (.cond (.t 15) (.seq (.ops r2) (.seq (.ops r3) (.seq (.ops r4) (.block 0 (.loop (.seq (.seq (.ops r5) (.cond (.t 33) .skip (.exit 0))) (.seq (.block 1 (.seq (.ops r7) (.seq (.seq (.ops r8) (.cond (.t 43) (.ops r9) .skip)) (.ops r10)))) (.ops r6)))))))) .skip)))
@[simp] noncomputable def rs : List RV := []
theorem comp : compF Pg cfg Try.f97 = some (ir, rs, 65) := by kernel_rfl
theorem enter {args : List AVal} {h : Heap} {K : AEnd → Heap → Prop} (F : Nat) (hl : args.length ≤ 65) (a : AW ⟨Pg, F, 65, false, []⟩ ir (RetK rs K) (initT args) [] h) : ACalls Pg fn_slices_breakPatternsOrdered_int args h K :=
  ACalls.of_comp follows Try.func97 comp hl a
theorem pure {args : List AVal} {v : AVal} (hl : args.length ≤ 65) (a : AW ⟨Pg, 0, 65, false, []⟩ ir (RetK rs fun e _ => e = .ret v) (initT args) [] nilH) : APure Pg fn_slices_breakPatternsOrdered_int args v :=
  APure.of_nil (enter 0 hl a)
end slices_breakPatternsOrdered_int

namespace slices_choosePivotOrdered_int
noncomputable def cfg : Cfg := { pure := pures, pcs := [], raw := [], cuts := [], draws := [], keep := [] }
@[simp] noncomputable def r0 (_ : Unit) : List Stp := [S 6 (.mv (.c (.int .i64 0))), S 7 (.mv (.c (.int .i64 0)))]
@[simp] noncomputable def r1 (_ : Unit) : List Stp := [S 13 (.mv (.t 2)), S 14 (.mv (.t 1)), S 15 (.bin .sub (.t 13) (.t 14)), S 8 (.mv (.t 15))]
@[simp] noncomputable def r2 (_ : Unit) : List Stp := [S 9 (.alloc [(.int .i64 0)])]
@[simp] noncomputable def r3 (_ : Unit) : List Stp := [S 16 (.mv (.t 1)), S 17 (.mv (.t 8)), S 18 (.bin .quo (.t 17) (.c (.int .i64 4))), S 19 (.bin .mul (.t 18) (.c (.int .i64 1))), S 20 (.bin .add (.t 16) (.t 19)), S 10 (.mv (.t 20))]
@[simp] noncomputable def r4 (_ : Unit) : List Stp := [S 21 (.mv (.t 1)), S 22 (.mv (.t 8)), S 23 (.bin .quo (.t 22) (.c (.int .i64 4))), S 24 (.bin .mul (.t 23) (.c (.int .i64 2))), S 25 (.bin .add (.t 21) (.t 24)), S 11 (.mv (.t 25))]
@[simp] noncomputable def r5 (_ : Unit) : List Stp := [S 26 (.mv (.t 1)), S 27 (.mv (.t 8)), S 28 (.bin .quo (.t 27) (.c (.int .i64 4))), S 29 (.bin .mul (.t 28) (.c (.int .i64 3))), S 30 (.bin .add (.t 26) (.t 29)), S 12 (.mv (.t 30))]
@[simp] noncomputable def r6 (_ : Unit) : List Stp := [S 31 (.mv (.t 8)), S 32 (.bin .geq (.t 31) (.c (.int .i64 8)))]
@[simp] noncomputable def r7 (_ : Unit) : List Stp := [S 33 (.mv (.t 8)), S 34 (.bin .geq (.t 33) (.c (.int .i64 50)))]
@[simp] noncomputable def r8 (_ : Unit) : List Stp := [S 35 (.mv (.t 0)), S 36 (.mv (.t 10)), S 37 (.call (.c (.func (.func fn_slices_medianAdjacentOrdered_int) [] [])) [(.t 35), (.t 36), (.t 9)]), S 10 (.mv (.t 37))]
@[simp] noncomputable def r9 (_ : Unit) : List Stp := [S 38 (.mv (.t 0)), S 39 (.mv (.t 11)), S 40 (.call (.c (.func (.func fn_slices_medianAdjacentOrdered_int) [] [])) [(.t 38), (.t 39), (.t 9)]), S 11 (.mv (.t 40))]
@[simp] noncomputable def r10 (_ : Unit) : List Stp := [S 41 (.mv (.t 0)), S 42 (.mv (.t 12)), S 43 (.call (.c (.func (.func fn_slices_medianAdjacentOrdered_int) [] [])) [(.t 41), (.t 42), (.t 9)]), S 12 (.mv (.t 43))]
@[simp] noncomputable def r11 (_ : Unit) : List Stp := [S 44 (.mv (.t 0)), S 45 (.mv (.t 10)), S 46 (.mv (.t 11)), S 47 (.mv (.t 12)), S 48 (.call (.c (.func (.func fn_slices_medianOrdered_int) [] [])) [(.t 44), (.t 45), (.t 46), (.t 47), (.t 9)]), S 11 (.mv (.t 48))]
@[simp] noncomputable def r12 (_ : Unit) : List Stp := [S 49 (.load false 1 (.t 9))]
@[simp] noncomputable def r14 (_ : Unit) : List Stp := [S 52 (.bin .eql (.t 49) (.c (.int .i64 0))), S 51 (.mv (.t 52))]
@[simp] noncomputable def r15 (_ : Unit) : List Stp := [S 53 (.mv (.t 11)), S 6 (.mv (.t 53)), S 7 (.mv (.c (.int .i64 1)))]
@[simp] noncomputable def r16 (_ : Unit) : List Stp := [S 55 (.bin .eql (.t 49) (.c (.int .i64 12))), S 54 (.mv (.t 55))]
@[simp] noncomputable def r17 (_ : Unit) : List Stp := [S 56 (.mv (.t 11)), S 6 (.mv (.t 56)), S 7 (.mv (.c (.int .i64 2)))]
@[simp] noncomputable def r13 (_ : Unit) : List Stp := [S 50 (.mv (.t 11)), S 6 (.mv (.t 50)), S 7 (.mv (.c (.int .i64 0)))]
@[simp] noncomputable def ir : IR := (.seq (.ops r0) (.seq (.ops r1) (.seq (.ops r2) (.seq (.ops r3) (.seq (.ops r4) (.seq (.ops r5) (.seq (.seq (.ops r6) (.cond (.t 32) (.seq (.seq (.ops r7) (.cond (.t 34) (.seq (.ops r8) (.seq (.ops r9) (.ops r10))) .skip)) (.ops r11)) .skip)) (.seq (.ops r12) (.block 0 (.seq (.ops r14) (.cond (.t 51) (.seq (.ops r15) .ret) (.seq (.ops r16) (.cond (.t 54) (.seq (.ops r17) .ret) (.seq (.ops r13) .ret))))))))))))))
@[simp] noncomputable def rs : List RV := [.tmp 6, .tmp 7]
theorem comp : compF Pg cfg Try.f98 = some (ir, rs, 57) := by kernel_rfl
theorem enter {args : List AVal} {h : Heap} {K : AEnd → Heap → Prop} (F : Nat) (hl : args.length ≤ 57) (a : AW ⟨Pg, F, 57, false, []⟩ ir (RetK rs K) (initT args) [] h) : ACalls Pg fn_slices_choosePivotOrdered_int args h K :=
  ACalls.of_comp follows Try.func98 comp hl a
theorem pure {args : List AVal} {v : AVal} (hl : args.length ≤ 57) (a : AW ⟨Pg, 0, 57, false, []⟩ ir (RetK rs fun e _ => e = .ret v) (initT args) [] nilH) : APure Pg fn_slices_choosePivotOrdered_int args v :=
  APure.of_nil (enter 0 hl a)
end slices_choosePivotOrdered_int

namespace slices_reverseRangeOrdered_int
noncomputable def cfg : Cfg := { pure := pures, pcs := [], raw := [], cuts := [], draws := [(3, [⟨0, false, [], []⟩, ⟨1, false, [], []⟩, ⟨2, false, [], []⟩, ⟨3, false, [], []⟩, ⟨4, false, [], []⟩, ⟨5, false, [], []⟩, ⟨6, false, [], []⟩, ⟨8, false, [], []⟩, ⟨9, false, [], []⟩, ⟨10, false, [], []⟩, ⟨7, false, [], []⟩, ⟨11, false, [], []⟩, ⟨12, false, [], []⟩, ⟨13, false, [], []⟩, ⟨14, false, [], []⟩, ⟨15, false, [], []⟩])], keep := [] }
@[simp] noncomputable def r0 (_ : Unit) : List Stp := [S 8 (.mv (.t 1)), S 6 (.mv (.t 8))]
@[simp] noncomputable def r1 (_ : Unit) : List Stp := [S 9 (.mv (.t 2)), S 10 (.bin .sub (.t 9) (.c (.int .i64 1))), S 7 (.mv (.t 10))]
@[simp] noncomputable def r2 (_ : Unit) : List Stp := [S 11 (.mv (.t 6)), S 12 (.mv (.t 7)), S 13 (.bin .lss (.t 11) (.t 12))]
@[simp] noncomputable def r3 (_ : Unit) : List Stp := [S 14 (.mv (.t 0)), S 15 (.mv (.t 6)), S 16 (.mv (.t 0)), S 17 (.mv (.t 7)), S 18 (.mv (.t 0)), S 19 (.mv (.t 7)), S 20 (.ixS 1 (.t 18) (.t 19)), S 22 (.mv (.t 0)), S 23 (.mv (.t 6)), S 24 (.ixS 1 (.t 22) (.t 23)), S 21 (.load false 1 (.t 20)), S 25 (.load false 1 (.t 24)), S 26 (.ixS 1 (.t 14) (.t 15)), SN (.store 1 (.t 26) (.t 21)), S 27 (.ixS 1 (.t 16) (.t 17)), SN (.store 1 (.t 27) (.t 25))]
@[simp] noncomputable def r4 (_ : Unit) : List Stp := [S 28 (.mv (.t 6)), S 29 (.bin .add (.t 28) (.c (.int .i64 1))), S 6 (.mv (.t 29))]
@[simp] noncomputable def r5 (_ : Unit) : List Stp := [S 30 (.mv (.t 7)), S 31 (.bin .sub (.t 30) (.c (.int .i64 1))), S 7 (.mv (.t 31))]
@[simp] noncomputable def ir : IR := (.seq (.ops r0) (.seq (.ops r1) (.block 0 (.loop (.seq (.seq (.ops r2) (.cond (.t 13) .skip (.exit 0))) (.block 1 (.seq (.ops r3) (.seq (.ops r4) (.ops r5)))))))))
@[simp] noncomputable def rs : List RV := []
theorem comp : compF Pg cfg Try.f99 = some (ir, rs, 32) := by kernel_rfl
theorem enter {args : List AVal} {h : Heap} {K : AEnd → Heap → Prop} (F : Nat) (hl : args.length ≤ 32) (a : AW ⟨Pg, F, 32, false, []⟩ ir (RetK rs K) (initT args) [] h) : ACalls Pg fn_slices_reverseRangeOrdered_int args h K :=
  ACalls.of_comp follows Try.func99 comp hl a
theorem pure {args : List AVal} {v : AVal} (hl : args.length ≤ 32) (a : AW ⟨Pg, 0, 32, false, []⟩ ir (RetK rs fun e _ => e = .ret v) (initT args) [] nilH) : APure Pg fn_slices_reverseRangeOrdered_int args v :=
  APure.of_nil (enter 0 hl a)
end slices_reverseRangeOrdered_int

namespace slices_partialInsertionSortOrdered_int
noncomputable def cfg : Cfg := { pure := pures, pcs := [], raw := [], cuts := [], draws := [(5, [⟨0, false, [], []⟩, ⟨1, false, [], []⟩, ⟨2, false, [], []⟩, ⟨3, false, [], []⟩, ⟨4, false, [], []⟩, ⟨5, false, [], []⟩, ⟨6, false, [], []⟩, ⟨8, false, [], []⟩, ⟨9, false, [], []⟩, ⟨10, false, [], []⟩, ⟨11, false, [], []⟩, ⟨7, false, [], []⟩, ⟨12, false, [], []⟩, ⟨13, false, [], []⟩, ⟨14, false, [], []⟩, ⟨15, false, [], []⟩]), (11, [⟨0, false, [], []⟩, ⟨1, false, [], []⟩, ⟨2, false, [], []⟩, ⟨3, false, [], []⟩, ⟨4, false, [], []⟩, ⟨5, false, [], []⟩, ⟨6, false, [], []⟩, ⟨7, false, [], []⟩, ⟨8, false, [], []⟩, ⟨10, false, [], []⟩, ⟨11, false, [], []⟩, ⟨12, false, [], []⟩, ⟨9, false, [], []⟩, ⟨13, false, [], []⟩, ⟨14, false, [], []⟩, ⟨15, false, [], []⟩, ⟨16, false, [], []⟩, ⟨17, false, [], []⟩]), (16, [⟨0, false, [], []⟩, ⟨1, false, [], []⟩, ⟨2, false, [], []⟩, ⟨4, false, [], []⟩, ⟨5, false, [], []⟩, ⟨6, false, [], []⟩, ⟨7, false, [], []⟩, ⟨3, false, [], []⟩, ⟨8, false, [], []⟩, ⟨9, false, [], []⟩, ⟨10, false, [], []⟩]), (17, [⟨0, false, [], []⟩, ⟨1, false, [], []⟩, ⟨2, false, [], []⟩, ⟨3, false, [], []⟩, ⟨4, false, [], []⟩, ⟨5, false, [], []⟩, ⟨6, false, [], []⟩, ⟨7, false, [], []⟩, ⟨8, false, [], []⟩, ⟨10, false, [], []⟩, ⟨11, false, [], []⟩, ⟨12, false, [], []⟩, ⟨9, false, [], []⟩, ⟨13, false, [], []⟩, ⟨14, false, [], []⟩, ⟨15, false, [], []⟩, ⟨16, false, [], []⟩, ⟨17, false, [], []⟩]), (22, [⟨0, false, [], []⟩, ⟨1, false, [], []⟩, ⟨2, false, [], []⟩, ⟨4, false, [], []⟩, ⟨5, false, [], []⟩, ⟨6, false, [], []⟩, ⟨7, false, [], []⟩, ⟨3, false, [], []⟩, ⟨8, false, [], []⟩, ⟨9, false, [], []⟩, ⟨10, false, [], []⟩]), (23, [⟨0, false, [], []⟩, ⟨1, false, [], []⟩, ⟨2, false, [], []⟩, ⟨3, false, [], []⟩, ⟨4, false, [], []⟩, ⟨5, false, [], []⟩, ⟨6, false, [], []⟩, ⟨7, false, [], []⟩, ⟨8, false, [], []⟩, ⟨10, false, [], []⟩, ⟨11, false, [], []⟩, ⟨12, false, [], []⟩, ⟨9, false, [], []⟩, ⟨13, false, [], []⟩, ⟨14, false, [], []⟩, ⟨15, false, [], []⟩, ⟨16, false, [], []⟩, ⟨17, false, [], []⟩])], keep := [] }
@[simp] noncomputable def r0 (_ : Unit) : List Stp := [S 6 (.mv (.c (.bool false)))]
@[simp] noncomputable def r1 (_ : Unit) : List Stp := [S 11 (.mv (.t 1)), S 12 (.bin .add (.t 11) (.c (.int .i64 1))), S 7 (.mv (.t 12))]
@[simp] noncomputable def r2 (_ : Unit) : List Stp := [S 8 (.mv (.c (.int .i64 0)))]
@[simp] noncomputable def r3 (_ : Unit) : List Stp := [S 13 (.mv (.t 8)), S 14 (.bin .lss (.t 13) (.c (.int .i64 5)))]
@[simp] noncomputable def r5 (_ : Unit) : List Stp := [S 17 (.mv (.t 7)), S 18 (.mv (.t 2)), S 19 (.bin .lss (.t 17) (.t 18)), S 20 (.mv (.t 19)), SG 21 20 true (.mv (.t 0)), SG 22 20 true (.mv (.t 7)), SG 23 20 true (.ixS 1 (.t 21) (.t 22)), SG 25 20 true (.mv (.t 0)), SG 26 20 true (.mv (.t 7)), SG 27 20 true (.bin .sub (.t 26) (.c (.int .i64 1))), SG 28 20 true (.ixS 1 (.t 25) (.t 27)), SG 24 20 true (.load false 1 (.t 23)), SG 29 20 true (.load false 1 (.t 28)), SG 30 20 true (.call (.c (.func (.func fn_cmp_Less_int) [] [])) [(.t 24), (.t 29)]), SG 31 20 true (.un .not (.t 30)), S 32 (.pick (.t 20) (.t 31) (.c (.bool false)))]
@[simp] noncomputable def r6 (_ : Unit) : List Stp := [S 33 (.mv (.t 7)), S 34 (.bin .add (.t 33) (.c (.int .i64 1))), S 7 (.mv (.t 34))]
@[simp] noncomputable def r7 (_ : Unit) : List Stp := [S 35 (.mv (.t 7)), S 36 (.mv (.t 2)), S 37 (.bin .eql (.t 35) (.t 36))]
@[simp] noncomputable def r8 (_ : Unit) : List Stp := [S 6 (.mv (.c (.bool true)))]
@[simp] noncomputable def r9 (_ : Unit) : List Stp := [S 38 (.mv (.t 2)), S 39 (.mv (.t 1)), S 40 (.bin .sub (.t 38) (.t 39)), S 41 (.bin .lss (.t 40) (.c (.int .i64 50)))]
@[simp] noncomputable def r10 (_ : Unit) : List Stp := [S 6 (.mv (.c (.bool false)))]
@[simp] noncomputable def r11 (_ : Unit) : List Stp := [S 42 (.mv (.t 0)), S 43 (.mv (.t 7)), S 44 (.mv (.t 0)), S 45 (.mv (.t 7)), S 46 (.bin .sub (.t 45) (.c (.int .i64 1))), S 47 (.mv (.t 0)), S 48 (.mv (.t 7)), S 49 (.bin .sub (.t 48) (.c (.int .i64 1))), S 50 (.ixS 1 (.t 47) (.t 49)), S 52 (.mv (.t 0)), S 53 (.mv (.t 7)), S 54 (.ixS 1 (.t 52) (.t 53)), S 51 (.load false 1 (.t 50)), S 55 (.load false 1 (.t 54)), S 56 (.ixS 1 (.t 42) (.t 43)), SN (.store 1 (.t 56) (.t 51)), S 57 (.ixS 1 (.t 44) (.t 46)), SN (.store 1 (.t 57) (.t 55))]
@[simp] noncomputable def r12 (_ : Unit) : List Stp := [S 58 (.mv (.t 7)), S 59 (.mv (.t 1)), S 60 (.bin .sub (.t 58) (.t 59)), S 61 (.bin .geq (.t 60) (.c (.int .i64 2)))]
@[simp] noncomputable def r13 (_ : Unit) : List Stp := [S 62 (.mv (.t 7)), S 63 (.bin .sub (.t 62) (.c (.int .i64 1))), S 9 (.mv (.t 63))]
@[simp] noncomputable def r14 (_ : Unit) : List Stp := [S 64 (.mv (.t 9)), S 65 (.bin .geq (.t 64) (.c (.int .i64 1)))]
@[simp] noncomputable def r16 (_ : Unit) : List Stp := [S 68 (.mv (.t 0)), S 69 (.mv (.t 9)), S 70 (.ixS 1 (.t 68) (.t 69)), S 72 (.mv (.t 0)), S 73 (.mv (.t 9)), S 74 (.bin .sub (.t 73) (.c (.int .i64 1))), S 75 (.ixS 1 (.t 72) (.t 74)), S 71 (.load false 1 (.t 70)), S 76 (.load false 1 (.t 75)), S 77 (.call (.c (.func (.func fn_cmp_Less_int) [] [])) [(.t 71), (.t 76)]), S 78 (.un .not (.t 77))]
@[simp] noncomputable def r17 (_ : Unit) : List Stp := [S 79 (.mv (.t 0)), S 80 (.mv (.t 9)), S 81 (.mv (.t 0)), S 82 (.mv (.t 9)), S 83 (.bin .sub (.t 82) (.c (.int .i64 1))), S 84 (.mv (.t 0)), S 85 (.mv (.t 9)), S 86 (.bin .sub (.t 85) (.c (.int .i64 1))), S 87 (.ixS 1 (.t 84) (.t 86)), S 89 (.mv (.t 0)), S 90 (.mv (.t 9)), S 91 (.ixS 1 (.t 89) (.t 90)), S 88 (.load false 1 (.t 87)), S 92 (.load false 1 (.t 91)), S 93 (.ixS 1 (.t 79) (.t 80)), SN (.store 1 (.t 93) (.t 88)), S 94 (.ixS 1 (.t 81) (.t 83)), SN (.store 1 (.t 94) (.t 92))]
@[simp] noncomputable def r15 (_ : Unit) : List Stp := [S 66 (.mv (.t 9)), S 67 (.bin .sub (.t 66) (.c (.int .i64 1))), S 9 (.mv (.t 67))]
@[simp] noncomputable def r18 (_ : Unit) : List Stp := [S 95 (.mv (.t 2)), S 96 (.mv (.t 7)), S 97 (.bin .sub (.t 95) (.t 96)), S 98 (.bin .geq (.t 97) (.c (.int .i64 2)))]
@[simp] noncomputable def r19 (_ : Unit) : List Stp := [S 99 (.mv (.t 7)), S 100 (.bin .add (.t 99) (.c (.int .i64 1))), S 10 (.mv (.t 100))]
@[simp] noncomputable def r20 (_ : Unit) : List Stp := [S 101 (.mv (.t 10)), S 102 (.mv (.t 2)), S 103 (.bin .lss (.t 101) (.t 102))]
@[simp] noncomputable def r22 (_ : Unit) : List Stp := [S 106 (.mv (.t 0)), S 107 (.mv (.t 10)), S 108 (.ixS 1 (.t 106) (.t 107)), S 110 (.mv (.t 0)), S 111 (.mv (.t 10)), S 112 (.bin .sub (.t 111) (.c (.int .i64 1))), S 113 (.ixS 1 (.t 110) (.t 112)), S 109 (.load false 1 (.t 108)), S 114 (.load false 1 (.t 113)), S 115 (.call (.c (.func (.func fn_cmp_Less_int) [] [])) [(.t 109), (.t 114)]), S 116 (.un .not (.t 115))]
@[simp] noncomputable def r23 (_ : Unit) : List Stp := [S 117 (.mv (.t 0)), S 118 (.mv (.t 10)), S 119 (.mv (.t 0)), S 120 (.mv (.t 10)), S 121 (.bin .sub (.t 120) (.c (.int .i64 1))), S 122 (.mv (.t 0)), S 123 (.mv (.t 10)), S 124 (.bin .sub (.t 123) (.c (.int .i64 1))), S 125 (.ixS 1 (.t 122) (.t 124)), S 127 (.mv (.t 0)), S 128 (.mv (.t 10)), S 129 (.ixS 1 (.t 127) (.t 128)), S 126 (.load false 1 (.t 125)), S 130 (.load false 1 (.t 129)), S 131 (.ixS 1 (.t 117) (.t 118)), SN (.store 1 (.t 131) (.t 126)), S 132 (.ixS 1 (.t 119) (.t 121)), SN (.store 1 (.t 132) (.t 130))]
@[simp] noncomputable def r21 (_ : Unit) : List Stp := [S 104 (.mv (.t 10)), S 105 (.bin .add (.t 104) (.c (.int .i64 1))), S 10 (.mv (.t 105))]
@[simp] noncomputable def r4 (_ : Unit) : List Stp := [S 15 (.mv (.t 8)), S 16 (.bin .add (.t 15) (.c (.int .i64 1))), S 8 (.mv (.t 16))]
@[simp] noncomputable def r24 (_ : Unit) : List Stp := [S 6 (.mv (.c (.bool false)))]
@[simp] noncomputable def ir : IR := (.seq (.ops r0) (.seq (.ops r1) (.seq (.seq (.ops r2) (.block 0 (.loop (.seq (.seq (.ops r3) (.cond (.t 14) .skip (.exit 0))) (.seq (.block 1 (.seq (.block 2 (.loop (.seq (.seq (.ops r5) (.cond (.t 32) .skip (.exit 2))) (.block 3 (.ops r6))))) (.seq (.seq (.ops r7) (.cond (.t 37) (.seq (.ops r8) .ret) .skip)) (.seq (.seq (.ops r9) (.cond (.t 41) (.seq (.ops r10) .ret) .skip)) (.seq (.ops r11) (.seq (.seq (.ops r12) (.cond (.t 61) (.seq (.ops r13) (.block 4 (.loop (.seq (.seq (.ops r14) (.cond (.t 65) .skip (.exit 4))) (.seq (.block 5 (.seq (.seq (.ops r16) (.cond (.t 78) (.exit 4) .skip)) (.ops r17))) (.ops r15)))))) .skip)) (.seq (.ops r18) (.cond (.t 98) (.seq (.ops r19) (.block 6 (.loop (.seq (.seq (.ops r20) (.cond (.t 103) .skip (.exit 6))) (.seq (.block 7 (.seq (.seq (.ops r22) (.cond (.t 116) (.exit 6) .skip)) (.ops r23))) (.ops r21)))))) .skip)))))))) (.ops r4)))))) (.seq (.ops r24) .ret))))
@[simp] noncomputable def rs : List RV := [.tmp 6]
theorem comp : compF Pg cfg Try.f100 = some (ir, rs, 133) := by kernel_rfl
theorem enter {args : List AVal} {h : Heap} {K : AEnd → Heap → Prop} (F : Nat) (hl : args.length ≤ 133) (a : AW ⟨Pg, F, 133, false, []⟩ ir (RetK rs K) (initT args) [] h) : ACalls Pg fn_slices_partialInsertionSortOrdered_int args h K :=
  ACalls.of_comp follows Try.func100 comp hl a
theorem pure {args : List AVal} {v : AVal} (hl : args.length ≤ 133) (a : AW ⟨Pg, 0, 133, false, []⟩ ir (RetK rs fun e _ => e = .ret v) (initT args) [] nilH) : APure Pg fn_slices_partialInsertionSortOrdered_int args v :=
  APure.of_nil (enter 0 hl a)
end slices_partialInsertionSortOrdered_int

namespace cmp_Less_int
noncomputable def cfg : Cfg := { pure := pures, pcs := [], raw := [], cuts := [], draws := [], keep := [] }
@[simp] noncomputable def r0 (_ : Unit) : List Stp := [S 4 (.mv (.c (.bool false)))]
@[simp] noncomputable def r1 (_ : Unit) : List Stp := [S 5 (.mv (.t 0)), S 6 (.call (.c (.func (.func fn_cmp_isNaN_int) [] [])) [(.t 5)]), S 7 (.mv (.t 6)), SG 8 7 true (.mv (.t 1)), SG 9 7 true (.call (.c (.func (.func fn_cmp_isNaN_int) [] [])) [(.t 8)]), SG 10 7 true (.un .not (.t 9)), S 11 (.pick (.t 7) (.t 10) (.c (.bool false))), S 12 (.mv (.t 11)), SG 13 12 false (.mv (.t 0)), SG 14 12 false (.mv (.t 1)), SG 15 12 false (.bin .lss (.t 13) (.t 14)), S 16 (.pick (.t 12) (.c (.bool true)) (.t 15)), S 4 (.mv (.t 16))]
@[simp] noncomputable def ir : IR := (.seq (.ops r0) (.seq (.ops r1) .ret))
@[simp] noncomputable def rs : List RV := [.tmp 4]
theorem comp : compF Pg cfg Try.f101 = some (ir, rs, 17) := by kernel_rfl
theorem enter {args : List AVal} {h : Heap} {K : AEnd → Heap → Prop} (F : Nat) (hl : args.length ≤ 17) (a : AW ⟨Pg, F, 17, false, []⟩ ir (RetK rs K) (initT args) [] h) : ACalls Pg fn_cmp_Less_int args h K :=
  ACalls.of_comp follows Try.func101 comp hl a
theorem pure {args : List AVal} {v : AVal} (hl : args.length ≤ 17) (a : AW ⟨Pg, 0, 17, false, []⟩ ir (RetK rs fun e _ => e = .ret v) (initT args) [] nilH) : APure Pg fn_cmp_Less_int args v :=
  APure.of_nil (enter 0 hl a)
end cmp_Less_int

namespace slices_partitionEqualOrdered_int
noncomputable def cfg : Cfg := { pure := pures, pcs := [], raw := [], cuts := [], draws := [(1, [⟨0, false, [], []⟩, ⟨1, false, [], []⟩, ⟨2, false, [], []⟩, ⟨3, false, [], []⟩, ⟨4, false, [], []⟩, ⟨5, false, [], []⟩, ⟨6, false, [], []⟩, ⟨8, false, [], []⟩, ⟨9, false, [], []⟩, ⟨10, false, [], []⟩, ⟨7, false, [], []⟩, ⟨11, false, [], []⟩, ⟨12, false, [], []⟩, ⟨13, false, [], []⟩, ⟨14, false, [], []⟩, ⟨15, false, [], []⟩]), (3, [⟨0, false, [], []⟩, ⟨1, false, [], []⟩, ⟨2, false, [], []⟩, ⟨3, false, [], []⟩, ⟨4, false, [], []⟩, ⟨5, false, [], []⟩, ⟨6, false, [], []⟩, ⟨8, false, [], []⟩, ⟨9, false, [], []⟩, ⟨10, false, [], []⟩, ⟨7, false, [], []⟩, ⟨11, false, [], []⟩, ⟨12, false, [], []⟩, ⟨13, false, [], []⟩, ⟨14, false, [], []⟩]), (5, [⟨0, false, [], []⟩, ⟨1, false, [], []⟩, ⟨2, false, [], []⟩, ⟨3, false, [], []⟩, ⟨4, false, [], []⟩, ⟨5, false, [], []⟩, ⟨6, false, [], []⟩, ⟨8, false, [], []⟩, ⟨9, false, [], []⟩, ⟨10, false, [], []⟩, ⟨7, false, [], []⟩, ⟨11, false, [], []⟩, ⟨12, false, [], []⟩, ⟨13, false, [], []⟩]), (8, [⟨0, false, [], []⟩, ⟨1, false, [], []⟩, ⟨2, false, [], []⟩, ⟨3, false, [], []⟩, ⟨4, false, [], []⟩, ⟨5, false, [], []⟩, ⟨6, false, [], []⟩, ⟨8, false, [], []⟩, ⟨9, false, [], []⟩, ⟨10, false, [], []⟩, ⟨7, false, [], []⟩, ⟨11, false, [], []⟩, ⟨12, false, [], []⟩, ⟨13, false, [], []⟩, ⟨14, false, [], []⟩, ⟨15, false, [], []⟩])], keep := [] }
@[simp] noncomputable def r0 (_ : Unit) : List Stp := [S 8 (.mv (.c (.int .i64 0)))]
@[simp] noncomputable def r1 (_ : Unit) : List Stp := [S 11 (.mv (.t 0)), S 12 (.mv (.t 1)), S 13 (.mv (.t 0)), S 14 (.mv (.t 3)), S 15 (.mv (.t 0)), S 16 (.mv (.t 3)), S 17 (.ixS 1 (.t 15) (.t 16)), S 19 (.mv (.t 0)), S 20 (.mv (.t 1)), S 21 (.ixS 1 (.t 19) (.t 20)), S 18 (.load false 1 (.t 17)), S 22 (.load false 1 (.t 21)), S 23 (.ixS 1 (.t 11) (.t 12)), SN (.store 1 (.t 23) (.t 18)), S 24 (.ixS 1 (.t 13) (.t 14)), SN (.store 1 (.t 24) (.t 22))]
@[simp] noncomputable def r2 (_ : Unit) : List Stp := [S 25 (.mv (.t 1)), S 26 (.bin .add (.t 25) (.c (.int .i64 1))), S 27 (.mv (.t 2)), S 28 (.bin .sub (.t 27) (.c (.int .i64 1))), S 9 (.mv (.t 26)), S 10 (.mv (.t 28))]
@[simp] noncomputable def r3 (_ : Unit) : List Stp := [S 29 (.mv (.t 9)), S 30 (.mv (.t 10)), S 31 (.bin .leq (.t 29) (.t 30)), S 32 (.mv (.t 31)), SG 33 32 true (.mv (.t 0)), SG 34 32 true (.mv (.t 1)), SG 35 32 true (.ixS 1 (.t 33) (.t 34)), SG 37 32 true (.mv (.t 0)), SG 38 32 true (.mv (.t 9)), SG 39 32 true (.ixS 1 (.t 37) (.t 38)), SG 36 32 true (.load false 1 (.t 35)), SG 40 32 true (.load false 1 (.t 39)), SG 41 32 true (.call (.c (.func (.func fn_cmp_Less_int) [] [])) [(.t 36), (.t 40)]), SG 42 32 true (.un .not (.t 41)), S 43 (.pick (.t 32) (.t 42) (.c (.bool false)))]
@[simp] noncomputable def r4 (_ : Unit) : List Stp := [S 44 (.mv (.t 9)), S 45 (.bin .add (.t 44) (.c (.int .i64 1))), S 9 (.mv (.t 45))]
@[simp] noncomputable def r5 (_ : Unit) : List Stp := [S 46 (.mv (.t 9)), S 47 (.mv (.t 10)), S 48 (.bin .leq (.t 46) (.t 47)), S 49 (.mv (.t 48)), SG 50 49 true (.mv (.t 0)), SG 51 49 true (.mv (.t 1)), SG 52 49 true (.ixS 1 (.t 50) (.t 51)), SG 54 49 true (.mv (.t 0)), SG 55 49 true (.mv (.t 10)), SG 56 49 true (.ixS 1 (.t 54) (.t 55)), SG 53 49 true (.load false 1 (.t 52)), SG 57 49 true (.load false 1 (.t 56)), SG 58 49 true (.call (.c (.func (.func fn_cmp_Less_int) [] [])) [(.t 53), (.t 57)]), S 59 (.pick (.t 49) (.t 58) (.c (.bool false)))]
@[simp] noncomputable def r6 (_ : Unit) : List Stp := [S 60 (.mv (.t 10)), S 61 (.bin .sub (.t 60) (.c (.int .i64 1))), S 10 (.mv (.t 61))]
@[simp] noncomputable def r7 (_ : Unit) : List Stp := [S 62 (.mv (.t 9)), S 63 (.mv (.t 10)), S 64 (.bin .gtr (.t 62) (.t 63))]
@[simp] noncomputable def r8 (_ : Unit) : List Stp := [S 65 (.mv (.t 0)), S 66 (.mv (.t 9)), S 67 (.mv (.t 0)), S 68 (.mv (.t 10)), S 69 (.mv (.t 0)), S 70 (.mv (.t 10)), S 71 (.ixS 1 (.t 69) (.t 70)), S 73 (.mv (.t 0)), S 74 (.mv (.t 9)), S 75 (.ixS 1 (.t 73) (.t 74)), S 72 (.load false 1 (.t 71)), S 76 (.load false 1 (.t 75)), S 77 (.ixS 1 (.t 65) (.t 66)), SN (.store 1 (.t 77) (.t 72)), S 78 (.ixS 1 (.t 67) (.t 68)), SN (.store 1 (.t 78) (.t 76))]
@[simp] noncomputable def r9 (_ : Unit) : List Stp := [S 79 (.mv (.t 9)), S 80 (.bin .add (.t 79) (.c (.int .i64 1))), S 9 (.mv (.t 80))]
@[simp] noncomputable def r10 (_ : Unit) : List Stp := [S 81 (.mv (.t 10)), S 82 (.bin .sub (.t 81) (.c (.int .i64 1))), S 10 (.mv (.t 82))]
@[simp] noncomputable def r11 (_ : Unit) : List Stp := [S 83 (.mv (.t 9)), S 8 (.mv (.t 83))]
@[simp] noncomputable def ir : IR := (.seq (.ops r0) (.seq (.ops r1) (.seq (.ops r2) (.seq (.block 0 (.loop (.block 1 (.seq (.block 2 (.loop (.seq (.seq (.ops r3) (.cond (.t 43) .skip (.exit 2))) (.block 3 (.ops r4))))) (.seq (.block 4 (.loop (.seq (.seq (.ops r5) (.cond (.t 59) .skip (.exit 4))) (.block 5 (.ops r6))))) (.seq (.seq (.ops r7) (.cond (.t 64) (.exit 0) .skip)) (.seq (.ops r8) (.seq (.ops r9) (.ops r10))))))))) (.seq (.ops r11) .ret)))))
@[simp] noncomputable def rs : List RV := [.tmp 8]
theorem comp : compF Pg cfg Try.f102 = some (ir, rs, 84) := by kernel_rfl
theorem enter {args : List AVal} {h : Heap} {K : AEnd → Heap → Prop} (F : Nat) (hl : args.length ≤ 84) (a : AW ⟨Pg, F, 84, false, []⟩ ir (RetK rs K) (initT args) [] h) : ACalls Pg fn_slices_partitionEqualOrdered_int args h K :=
  ACalls.of_comp follows Try.func102 comp hl a
theorem pure {args : List AVal} {v : AVal} (hl : args.length ≤ 84) (a : AW ⟨Pg, 0, 84, false, []⟩ ir (RetK rs fun e _ => e = .ret v) (initT args) [] nilH) : APure Pg fn_slices_partitionEqualOrdered_int args v :=
  APure.of_nil (enter 0 hl a)
end slices_partitionEqualOrdered_int

namespace slices_partitionOrdered_int
noncomputable def cfg : Cfg := { pure := pures, pcs := [], raw := [], cuts := [], draws := [(1, [⟨0, false, [], []⟩, ⟨1, false, [], []⟩, ⟨2, false, [], []⟩, ⟨3, false, [], []⟩, ⟨4, false, [], []⟩, ⟨5, false, [], []⟩, ⟨6, false, [], []⟩, ⟨8, false, [], []⟩, ⟨9, false, [], []⟩, ⟨10, false, [], []⟩, ⟨7, false, [], []⟩, ⟨11, false, [], []⟩, ⟨12, false, [], []⟩, ⟨13, false, [], []⟩, ⟨14, false, [], []⟩, ⟨15, false, [], []⟩]), (3, [⟨0, false, [], []⟩, ⟨1, false, [], []⟩, ⟨2, false, [], []⟩, ⟨3, false, [], []⟩, ⟨4, false, [], []⟩, ⟨5, false, [], []⟩, ⟨6, false, [], []⟩, ⟨8, false, [], []⟩, ⟨9, false, [], []⟩, ⟨10, false, [], []⟩, ⟨7, false, [], []⟩, ⟨11, false, [], []⟩, ⟨12, false, [], []⟩, ⟨13, false, [], []⟩]), (5, [⟨0, false, [], []⟩, ⟨1, false, [], []⟩, ⟨2, false, [], []⟩, ⟨3, false, [], []⟩, ⟨4, false, [], []⟩, ⟨5, false, [], []⟩, ⟨6, false, [], []⟩, ⟨8, false, [], []⟩, ⟨9, false, [], []⟩, ⟨10, false, [], []⟩, ⟨7, false, [], []⟩, ⟨11, false, [], []⟩, ⟨12, false, [], []⟩, ⟨13, false, [], []⟩, ⟨14, false, [], []⟩]), (8, [⟨0, false, [], []⟩, ⟨1, false, [], []⟩, ⟨2, false, [], []⟩, ⟨3, false, [], []⟩, ⟨4, false, [], []⟩, ⟨5, false, [], []⟩, ⟨6, false, [], []⟩, ⟨8, false, [], []⟩, ⟨9, false, [], []⟩, ⟨10, false, [], []⟩, ⟨7, false, [], []⟩, ⟨11, false, [], []⟩, ⟨12, false, [], []⟩, ⟨13, false, [], []⟩, ⟨14, false, [], []⟩, ⟨15, false, [], []⟩]), (10, [⟨0, false, [], []⟩, ⟨1, false, [], []⟩, ⟨2, false, [], []⟩, ⟨3, false, [], []⟩, ⟨4, false, [], []⟩, ⟨5, false, [], []⟩, ⟨6, false, [], []⟩, ⟨8, false, [], []⟩, ⟨9, false, [], []⟩, ⟨10, false, [], []⟩, ⟨7, false, [], []⟩, ⟨11, false, [], []⟩, ⟨12, false, [], []⟩, ⟨13, false, [], []⟩, ⟨14, false, [], []⟩, ⟨15, false, [], []⟩]), (13, [⟨0, false, [], []⟩, ⟨1, false, [], []⟩, ⟨2, false, [], []⟩, ⟨3, false, [], []⟩, ⟨4, false, [], []⟩, ⟨5, false, [], []⟩, ⟨6, false, [], []⟩, ⟨8, false, [], []⟩, ⟨9, false, [], []⟩, ⟨10, false, [], []⟩, ⟨7, false, [], []⟩, ⟨11, false, [], []⟩, ⟨12, false, [], []⟩, ⟨13, false, [], []⟩]), (15, [⟨0, false, [], []⟩, ⟨1, false, [], []⟩, ⟨2, false, [], []⟩, ⟨3, false, [], []⟩, ⟨4, false, [], []⟩, ⟨5, false, [], []⟩, ⟨6, false, [], []⟩, ⟨8, false, [], []⟩, ⟨9, false, [], []⟩, ⟨10, false, [], []⟩, ⟨7, false, [], []⟩, ⟨11, false, [], []⟩, ⟨12, false, [], []⟩, ⟨13, false, [], []⟩, ⟨14, false, [], []⟩]), (18, [⟨0, false, [], []⟩, ⟨1, false, [], []⟩, ⟨2, false, [], []⟩, ⟨3, false, [], []⟩, ⟨4, false, [], []⟩, ⟨5, false, [], []⟩, ⟨6, false, [], []⟩, ⟨8, false, [], []⟩, ⟨9, false, [], []⟩, ⟨10, false, [], []⟩, ⟨7, false, [], []⟩, ⟨11, false, [], []⟩, ⟨12, false, [], []⟩, ⟨13, false, [], []⟩, ⟨14, false, [], []⟩, ⟨15, false, [], []⟩]), (21, [⟨0, false, [], []⟩, ⟨1, false, [], []⟩, ⟨2, false, [], []⟩, ⟨3, false, [], []⟩, ⟨4, false, [], []⟩, ⟨5, false, [], []⟩, ⟨6, false, [], []⟩, ⟨8, false, [], []⟩, ⟨9, false, [], []⟩, ⟨10, false, [], []⟩, ⟨7, false, [], []⟩, ⟨11, false, [], []⟩, ⟨12, false, [], []⟩, ⟨13, false, [], []⟩, ⟨14, false, [], []⟩, ⟨15, false, [], []⟩])], keep := [] }
@[simp] noncomputable def r0 (_ : Unit) : List Stp := [S 8 (.mv (.c (.int .i64 0))), S 9 (.mv (.c (.bool false)))]
@[simp] noncomputable def r1 (_ : Unit) : List Stp := [S 12 (.mv (.t 0)), S 13 (.mv (.t 1)), S 14 (.mv (.t 0)), S 15 (.mv (.t 3)), S 16 (.mv (.t 0)), S 17 (.mv (.t 3)), S 18 (.ixS 1 (.t 16) (.t 17)), S 20 (.mv (.t 0)), S 21 (.mv (.t 1)), S 22 (.ixS 1 (.t 20) (.t 21)), S 19 (.load false 1 (.t 18)), S 23 (.load false 1 (.t 22)), S 24 (.ixS 1 (.t 12) (.t 13)), SN (.store 1 (.t 24) (.t 19)), S 25 (.ixS 1 (.t 14) (.t 15)), SN (.store 1 (.t 25) (.t 23))]
@[simp] noncomputable def r2 (_ : Unit) : List Stp := [S 26 (.mv (.t 1)), S 27 (.bin .add (.t 26) (.c (.int .i64 1))), S 28 (.mv (.t 2)), S 29 (.bin .sub (.t 28) (.c (.int .i64 1))), S 10 (.mv (.t 27)), S 11 (.mv (.t 29))]
@[simp] noncomputable def r3 (_ : Unit) : List Stp := [S 30 (.mv (.t 10)), S 31 (.mv (.t 11)), S 32 (.bin .leq (.t 30) (.t 31)), S 33 (.mv (.t 32)), SG 34 33 true (.mv (.t 0)), SG 35 33 true (.mv (.t 10)), SG 36 33 true (.ixS 1 (.t 34) (.t 35)), SG 38 33 true (.mv (.t 0)), SG 39 33 true (.mv (.t 1)), SG 40 33 true (.ixS 1 (.t 38) (.t 39)), SG 37 33 true (.load false 1 (.t 36)), SG 41 33 true (.load false 1 (.t 40)), SG 42 33 true (.call (.c (.func (.func fn_cmp_Less_int) [] [])) [(.t 37), (.t 41)]), S 43 (.pick (.t 33) (.t 42) (.c (.bool false)))]
@[simp] noncomputable def r4 (_ : Unit) : List Stp := [S 44 (.mv (.t 10)), S 45 (.bin .add (.t 44) (.c (.int .i64 1))), S 10 (.mv (.t 45))]
@[simp] noncomputable def r5 (_ : Unit) : List Stp := [S 46 (.mv (.t 10)), S 47 (.mv (.t 11)), S 48 (.bin .leq (.t 46) (.t 47)), S 49 (.mv (.t 48)), SG 50 49 true (.mv (.t 0)), SG 51 49 true (.mv (.t 11)), SG 52 49 true (.ixS 1 (.t 50) (.t 51)), SG 54 49 true (.mv (.t 0)), SG 55 49 true (.mv (.t 1)), SG 56 49 true (.ixS 1 (.t 54) (.t 55)), SG 53 49 true (.load false 1 (.t 52)), SG 57 49 true (.load false 1 (.t 56)), SG 58 49 true (.call (.c (.func (.func fn_cmp_Less_int) [] [])) [(.t 53), (.t 57)]), SG 59 49 true (.un .not (.t 58)), S 60 (.pick (.t 49) (.t 59) (.c (.bool false)))]
@[simp] noncomputable def r6 (_ : Unit) : List Stp := [S 61 (.mv (.t 11)), S 62 (.bin .sub (.t 61) (.c (.int .i64 1))), S 11 (.mv (.t 62))]
@[simp] noncomputable def r7 (_ : Unit) : List Stp := [S 63 (.mv (.t 10)), S 64 (.mv (.t 11)), S 65 (.bin .gtr (.t 63) (.t 64))]
@[simp] noncomputable def r8 (_ : Unit) : List Stp := [S 66 (.mv (.t 0)), S 67 (.mv (.t 11)), S 68 (.mv (.t 0)), S 69 (.mv (.t 1)), S 70 (.mv (.t 0)), S 71 (.mv (.t 1)), S 72 (.ixS 1 (.t 70) (.t 71)), S 74 (.mv (.t 0)), S 75 (.mv (.t 11)), S 76 (.ixS 1 (.t 74) (.t 75)), S 73 (.load false 1 (.t 72)), S 77 (.load false 1 (.t 76)), S 78 (.ixS 1 (.t 66) (.t 67)), SN (.store 1 (.t 78) (.t 73)), S 79 (.ixS 1 (.t 68) (.t 69)), SN (.store 1 (.t 79) (.t 77))]
@[simp] noncomputable def r9 (_ : Unit) : List Stp := [S 80 (.mv (.t 11)), S 8 (.mv (.t 80)), S 9 (.mv (.c (.bool true)))]
@[simp] noncomputable def r10 (_ : Unit) : List Stp := [S 81 (.mv (.t 0)), S 82 (.mv (.t 10)), S 83 (.mv (.t 0)), S 84 (.mv (.t 11)), S 85 (.mv (.t 0)), S 86 (.mv (.t 11)), S 87 (.ixS 1 (.t 85) (.t 86)), S 89 (.mv (.t 0)), S 90 (.mv (.t 10)), S 91 (.ixS 1 (.t 89) (.t 90)), S 88 (.load false 1 (.t 87)), S 92 (.load false 1 (.t 91)), S 93 (.ixS 1 (.t 81) (.t 82)), SN (.store 1 (.t 93) (.t 88)), S 94 (.ixS 1 (.t 83) (.t 84)), SN (.store 1 (.t 94) (.t 92))]
@[simp] noncomputable def r11 (_ : Unit) : List Stp := [S 95 (.mv (.t 10)), S 96 (.bin .add (.t 95) (.c (.int .i64 1))), S 10 (.mv (.t 96))]
@[simp] noncomputable def r12 (_ : Unit) : List Stp := [S 97 (.mv (.t 11)), S 98 (.bin .sub (.t 97) (.c (.int .i64 1))), S 11 (.mv (.t 98))]
@[simp] noncomputable def r13 (_ : Unit) : List Stp := [S 99 (.mv (.t 10)), S 100 (.mv (.t 11)), S 101 (.bin .leq (.t 99) (.t 100)), S 102 (.mv (.t 101)), SG 103 102 true (.mv (.t 0)), SG 104 102 true (.mv (.t 10)), SG 105 102 true (.ixS 1 (.t 103) (.t 104)), SG 107 102 true (.mv (.t 0)), SG 108 102 true (.mv (.t 1)), SG 109 102 true (.ixS 1 (.t 107) (.t 108)), SG 106 102 true (.load false 1 (.t 105)), SG 110 102 true (.load false 1 (.t 109)), SG 111 102 true (.call (.c (.func (.func fn_cmp_Less_int) [] [])) [(.t 106), (.t 110)]), S 112 (.pick (.t 102) (.t 111) (.c (.bool false)))]
@[simp] noncomputable def r14 (_ : Unit) : List Stp := [S 113 (.mv (.t 10)), S 114 (.bin .add (.t 113) (.c (.int .i64 1))), S 10 (.mv (.t 114))]
@[simp] noncomputable def r15 (_ : Unit) : List Stp := [S 115 (.mv (.t 10)), S 116 (.mv (.t 11)), S 117 (.bin .leq (.t 115) (.t 116)), S 118 (.mv (.t 117)), SG 119 118 true (.mv (.t 0)), SG 120 118 true (.mv (.t 11)), SG 121 118 true (.ixS 1 (.t 119) (.t 120)), SG 123 118 true (.mv (.t 0)), SG 124 118 true (.mv (.t 1)), SG 125 118 true (.ixS 1 (.t 123) (.t 124)), SG 122 118 true (.load false 1 (.t 121)), SG 126 118 true (.load false 1 (.t 125)), SG 127 118 true (.call (.c (.func (.func fn_cmp_Less_int) [] [])) [(.t 122), (.t 126)]), SG 128 118 true (.un .not (.t 127)), S 129 (.pick (.t 118) (.t 128) (.c (.bool false)))]
@[simp] noncomputable def r16 (_ : Unit) : List Stp := [S 130 (.mv (.t 11)), S 131 (.bin .sub (.t 130) (.c (.int .i64 1))), S 11 (.mv (.t 131))]
@[simp] noncomputable def r17 (_ : Unit) : List Stp := [S 132 (.mv (.t 10)), S 133 (.mv (.t 11)), S 134 (.bin .gtr (.t 132) (.t 133))]
@[simp] noncomputable def r18 (_ : Unit) : List Stp := [S 135 (.mv (.t 0)), S 136 (.mv (.t 10)), S 137 (.mv (.t 0)), S 138 (.mv (.t 11)), S 139 (.mv (.t 0)), S 140 (.mv (.t 11)), S 141 (.ixS 1 (.t 139) (.t 140)), S 143 (.mv (.t 0)), S 144 (.mv (.t 10)), S 145 (.ixS 1 (.t 143) (.t 144)), S 142 (.load false 1 (.t 141)), S 146 (.load false 1 (.t 145)), S 147 (.ixS 1 (.t 135) (.t 136)), SN (.store 1 (.t 147) (.t 142)), S 148 (.ixS 1 (.t 137) (.t 138)), SN (.store 1 (.t 148) (.t 146))]
@[simp] noncomputable def r19 (_ : Unit) : List Stp := [S 149 (.mv (.t 10)), S 150 (.bin .add (.t 149) (.c (.int .i64 1))), S 10 (.mv (.t 150))]
@[simp] noncomputable def r20 (_ : Unit) : List Stp := [S 151 (.mv (.t 11)), S 152 (.bin .sub (.t 151) (.c (.int .i64 1))), S 11 (.mv (.t 152))]
@[simp] noncomputable def r21 (_ : Unit) : List Stp := [S 153 (.mv (.t 0)), S 154 (.mv (.t 11)), S 155 (.mv (.t 0)), S 156 (.mv (.t 1)), S 157 (.mv (.t 0)), S 158 (.mv (.t 1)), S 159 (.ixS 1 (.t 157) (.t 158)), S 161 (.mv (.t 0)), S 162 (.mv (.t 11)), S 163 (.ixS 1 (.t 161) (.t 162)), S 160 (.load false 1 (.t 159)), S 164 (.load false 1 (.t 163)), S 165 (.ixS 1 (.t 153) (.t 154)), SN (.store 1 (.t 165) (.t 160)), S 166 (.ixS 1 (.t 155) (.t 156)), SN (.store 1 (.t 166) (.t 164))]
@[simp] noncomputable def r22 (_ : Unit) : List Stp := [S 167 (.mv (.t 11)), S 8 (.mv (.t 167)), S 9 (.mv (.c (.bool false)))]
@[simp] noncomputable def ir : IR := (.seq (.ops r0) (.seq (.ops r1) (.seq (.ops r2) (.seq (.block 0 (.loop (.seq (.seq (.ops r3) (.cond (.t 43) .skip (.exit 0))) (.block 1 (.ops r4))))) (.seq (.block 2 (.loop (.seq (.seq (.ops r5) (.cond (.t 60) .skip (.exit 2))) (.block 3 (.ops r6))))) (.seq (.seq (.ops r7) (.cond (.t 65) (.seq (.ops r8) (.seq (.ops r9) .ret)) .skip)) (.seq (.ops r10) (.seq (.ops r11) (.seq (.ops r12) (.seq (.block 4 (.loop (.block 5 (.seq (.block 6 (.loop (.seq (.seq (.ops r13) (.cond (.t 112) .skip (.exit 6))) (.block 7 (.ops r14))))) (.seq (.block 8 (.loop (.seq (.seq (.ops r15) (.cond (.t 129) .skip (.exit 8))) (.block 9 (.ops r16))))) (.seq (.seq (.ops r17) (.cond (.t 134) (.exit 4) .skip)) (.seq (.ops r18) (.seq (.ops r19) (.ops r20))))))))) (.seq (.ops r21) (.seq (.ops r22) .ret))))))))))))
@[simp] noncomputable def rs : List RV := [.tmp 8, .tmp 9]
theorem comp : compF Pg cfg Try.f103 = some (ir, rs, 168) := by kernel_rfl
theorem enter {args : List AVal} {h : Heap} {K : AEnd → Heap → Prop} (F : Nat) (hl : args.length ≤ 168) (a : AW ⟨Pg, F, 168, false, []⟩ ir (RetK rs K) (initT args) [] h) : ACalls Pg fn_slices_partitionOrdered_int args h K :=
  ACalls.of_comp follows Try.func103 comp hl a
theorem pure {args : List AVal} {v : AVal} (hl : args.length ≤ 168) (a : AW ⟨Pg, 0, 168, false, []⟩ ir (RetK rs fun e _ => e = .ret v) (initT args) [] nilH) : APure Pg fn_slices_partitionOrdered_int args v :=
  APure.of_nil (enter 0 hl a)
end slices_partitionOrdered_int

namespace math_bits_Len32
noncomputable def cfg : Cfg := { pure := pures, pcs := [], raw := [], cuts := [], draws := [], keep := [] }
@[simp] noncomputable def r0 (_ : Unit) : List Stp := [S 2 (.mv (.c (.int .i64 0)))]
@[simp] noncomputable def r1 (_ : Unit) : List Stp := [S 3 (.mv (.t 0)), S 4 (.bin .geq (.t 3) (.c (.int .u32 65536)))]
@[simp] noncomputable def r2 (_ : Unit) : List Stp := [S 5 (.mv (.t 0)), S 6 (.bin .shr (.t 5) (.c (.int .u64 16))), S 0 (.mv (.t 6))]
@[simp] noncomputable def r3 (_ : Unit) : List Stp := [S 2 (.mv (.c (.int .i64 16)))]
@[simp] noncomputable def r4 (_ : Unit) : List Stp := [S 7 (.mv (.t 0)), S 8 (.bin .geq (.t 7) (.c (.int .u32 256)))]
@[simp] noncomputable def r5 (_ : Unit) : List Stp := [S 9 (.mv (.t 0)), S 10 (.bin .shr (.t 9) (.c (.int .u64 8))), S 0 (.mv (.t 10))]
@[simp] noncomputable def r6 (_ : Unit) : List Stp := [S 11 (.mv (.t 2)), S 12 (.bin .add (.t 11) (.c (.int .i64 8))), S 2 (.mv (.t 12))]
@[simp] noncomputable def r7 (_ : Unit) : List Stp := [S 13 (.mv (.t 2)), S 14 (.mv (.t 0)), S 15 (.conv .u8 (.t 14)), S 16 (.ixT (.c (.str [0, 1, 2, 2, 3, 3, 3, 3, 4, 4, 4, 4, 4, 4, 4, 4, 5, 5, 5, 5, 5, 5, 5, 5, 5, 5, 5, 5, 5, 5, 5, 5, 6, 6, 6, 6, 6, 6, 6, 6, 6, 6, 6, 6, 6, 6, 6, 6, 6, 6, 6, 6, 6, 6, 6, 6, 6, 6, 6, 6, 6, 6, 6, 6, 7, 7, 7, 7, 7, 7, 7, 7, 7, 7, 7, 7, 7, 7, 7, 7, 7, 7, 7, 7, 7, 7, 7, 7, 7, 7, 7, 7, 7, 7, 7, 7, 7, 7, 7, 7, 7, 7, 7, 7, 7, 7, 7, 7, 7, 7, 7, 7, 7, 7, 7, 7, 7, 7, 7, 7, 7, 7, 7, 7, 7, 7, 7, 7, 8, 8, 8, 8, 8, 8, 8, 8, 8, 8, 8, 8, 8, 8, 8, 8, 8, 8, 8, 8, 8, 8, 8, 8, 8, 8, 8, 8, 8, 8, 8, 8, 8, 8, 8, 8, 8, 8, 8, 8, 8, 8, 8, 8, 8, 8, 8, 8, 8, 8, 8, 8, 8, 8, 8, 8, 8, 8, 8, 8, 8, 8, 8, 8, 8, 8, 8, 8, 8, 8, 8, 8, 8, 8, 8, 8, 8, 8, 8, 8, 8, 8, 8, 8, 8, 8, 8, 8, 8, 8, 8, 8, 8, 8, 8, 8, 8, 8, 8, 8, 8, 8, 8, 8, 8, 8, 8, 8, 8, 8, 8, 8, 8, 8, 8, 8, 8, 8, 8, 8, 8, 8, 8, 8, 8, 8, 8, 8])) (.t 15)), S 17 (.conv .i64 (.t 16)), S 18 (.bin .add (.t 13) (.t 17)), S 2 (.mv (.t 18))]
@[simp] noncomputable def ir : IR := (.seq (.ops r0) (.seq (.seq (.ops r1) (.cond (.t 4) (.seq (.ops r2) (.ops r3)) .skip)) (.seq (.seq (.ops r4) (.cond (.t 8) (.seq (.ops r5) (.ops r6)) .skip)) (.seq (.ops r7) .ret))))
@[simp] noncomputable def rs : List RV := [.tmp 2]
theorem comp : compF Pg cfg Try.f104 = some (ir, rs, 19) := by kernel_rfl
theorem enter {args : List AVal} {h : Heap} {K : AEnd → Heap → Prop} (F : Nat) (hl : args.length ≤ 19) (a : AW ⟨Pg, F, 19, false, []⟩ ir (RetK rs K) (initT args) [] h) : ACalls Pg fn_math_bits_Len32 args h K :=
  ACalls.of_comp follows Try.func104 comp hl a
theorem pure {args : List AVal} {v : AVal} (hl : args.length ≤ 19) (a : AW ⟨Pg, 0, 19, false, []⟩ ir (RetK rs fun e _ => e = .ret v) (initT args) [] nilH) : APure Pg fn_math_bits_Len32 args v :=
  APure.of_nil (enter 0 hl a)
end math_bits_Len32

namespace math_bits_Len64
noncomputable def cfg : Cfg := { pure := pures, pcs := [], raw := [], cuts := [], draws := [], keep := [] }
@[simp] noncomputable def r0 (_ : Unit) : List Stp := [S 2 (.mv (.c (.int .i64 0)))]
@[simp] noncomputable def r1 (_ : Unit) : List Stp := [S 3 (.mv (.t 0)), S 4 (.bin .geq (.t 3) (.c (.int .u64 4294967296)))]
@[simp] noncomputable def r2 (_ : Unit) : List Stp := [S 5 (.mv (.t 0)), S 6 (.bin .shr (.t 5) (.c (.int .u64 32))), S 0 (.mv (.t 6))]
@[simp] noncomputable def r3 (_ : Unit) : List Stp := [S 2 (.mv (.c (.int .i64 32)))]
@[simp] noncomputable def r4 (_ : Unit) : List Stp := [S 7 (.mv (.t 0)), S 8 (.bin .geq (.t 7) (.c (.int .u64 65536)))]
@[simp] noncomputable def r5 (_ : Unit) : List Stp := [S 9 (.mv (.t 0)), S 10 (.bin .shr (.t 9) (.c (.int .u64 16))), S 0 (.mv (.t 10))]
@[simp] noncomputable def r6 (_ : Unit) : List Stp := [S 11 (.mv (.t 2)), S 12 (.bin .add (.t 11) (.c (.int .i64 16))), S 2 (.mv (.t 12))]
@[simp] noncomputable def r7 (_ : Unit) : List Stp := [S 13 (.mv (.t 0)), S 14 (.bin .geq (.t 13) (.c (.int .u64 256)))]
@[simp] noncomputable def r8 (_ : Unit) : List Stp := [S 15 (.mv (.t 0)), S 16 (.bin .shr (.t 15) (.c (.int .u64 8))), S 0 (.mv (.t 16))]
@[simp] noncomputable def r9 (_ : Unit) : List Stp := [S 17 (.mv (.t 2)), S 18 (.bin .add (.t 17) (.c (.int .i64 8))), S 2 (.mv (.t 18))]
@[simp] noncomputable def r10 (_ : Unit) : List Stp := [S 19 (.mv (.t 2)), S 20 (.mv (.t 0)), S 21 (.conv .u8 (.t 20)), S 22 (.ixT (.c (.str [0, 1, 2, 2, 3, 3, 3, 3, 4, 4, 4, 4, 4, 4, 4, 4, 5, 5, 5, 5, 5, 5, 5, 5, 5, 5, 5, 5, 5, 5, 5, 5, 6, 6, 6, 6, 6, 6, 6, 6, 6, 6, 6, 6, 6, 6, 6, 6, 6, 6, 6, 6, 6, 6, 6, 6, 6, 6, 6, 6, 6, 6, 6, 6, 7, 7, 7, 7, 7, 7, 7, 7, 7, 7, 7, 7, 7, 7, 7, 7, 7, 7, 7, 7, 7, 7, 7, 7, 7, 7, 7, 7, 7, 7, 7, 7, 7, 7, 7, 7, 7, 7, 7, 7, 7, 7, 7, 7, 7, 7, 7, 7, 7, 7, 7, 7, 7, 7, 7, 7, 7, 7, 7, 7, 7, 7, 7, 7, 8, 8, 8, 8, 8, 8, 8, 8, 8, 8, 8, 8, 8, 8, 8, 8, 8, 8, 8, 8, 8, 8, 8, 8, 8, 8, 8, 8, 8, 8, 8, 8, 8, 8, 8, 8, 8, 8, 8, 8, 8, 8, 8, 8, 8, 8, 8, 8, 8, 8, 8, 8, 8, 8, 8, 8, 8, 8, 8, 8, 8, 8, 8, 8, 8, 8, 8, 8, 8, 8, 8, 8, 8, 8, 8, 8, 8, 8, 8, 8, 8, 8, 8, 8, 8, 8, 8, 8, 8, 8, 8, 8, 8, 8, 8, 8, 8, 8, 8, 8, 8, 8, 8, 8, 8, 8, 8, 8, 8, 8, 8, 8, 8, 8, 8, 8, 8, 8, 8, 8, 8, 8, 8, 8, 8, 8, 8, 8])) (.t 21)), S 23 (.conv .i64 (.t 22)), S 24 (.bin .add (.t 19) (.t 23)), S 2 (.mv (.t 24))]
@[simp] noncomputable def ir : IR := (.seq (.ops r0) (.seq (.seq (.ops r1) (.cond (.t 4) (.seq (.ops r2) (.ops r3)) .skip)) (.seq (.seq (.ops r4) (.cond (.t 8) (.seq (.ops r5) (.ops r6)) .skip)) (.seq (.seq (.ops r7) (.cond (.t 14) (.seq (.ops r8) (.ops r9)) .skip)) (.seq (.ops r10) .ret)))))
@[simp] noncomputable def rs : List RV := [.tmp 2]
theorem comp : compF Pg cfg Try.f105 = some (ir, rs, 25) := by kernel_rfl
theorem enter {args : List AVal} {h : Heap} {K : AEnd → Heap → Prop} (F : Nat) (hl : args.length ≤ 25) (a : AW ⟨Pg, F, 25, false, []⟩ ir (RetK rs K) (initT args) [] h) : ACalls Pg fn_math_bits_Len64 args h K :=
  ACalls.of_comp follows Try.func105 comp hl a
theorem pure {args : List AVal} {v : AVal} (hl : args.length ≤ 25) (a : AW ⟨Pg, 0, 25, false, []⟩ ir (RetK rs fun e _ => e = .ret v) (initT args) [] nilH) : APure Pg fn_math_bits_Len64 args v :=
  APure.of_nil (enter 0 hl a)
end math_bits_Len64

namespace slices_siftDownOrdered_int
noncomputable def cfg : Cfg := { pure := pures, pcs := [], raw := [], cuts := [], draws := [(3, [⟨0, false, [], []⟩, ⟨1, false, [], []⟩, ⟨2, false, [], []⟩, ⟨3, false, [], []⟩, ⟨4, false, [], []⟩, ⟨5, false, [], []⟩, ⟨6, false, [], []⟩, ⟨7, false, [], []⟩, ⟨8, false, [], []⟩, ⟨9, false, [], []⟩, ⟨11, false, [], []⟩, ⟨12, false, [], []⟩, ⟨13, false, [], []⟩, ⟨14, false, [], []⟩, ⟨15, false, [], []⟩, ⟨16, false, [], []⟩, ⟨10, false, [], []⟩, ⟨17, false, [], []⟩, ⟨18, false, [], []⟩, ⟨19, false, [], []⟩]), (5, [⟨0, false, [], []⟩, ⟨1, false, [], []⟩, ⟨2, false, [], []⟩, ⟨3, false, [], []⟩, ⟨4, false, [], []⟩, ⟨6, false, [], []⟩, ⟨7, false, [], []⟩, ⟨8, false, [], []⟩, ⟨9, false, [], []⟩, ⟨10, false, [], []⟩, ⟨5, false, [], []⟩, ⟨11, false, [], []⟩, ⟨12, false, [], []⟩, ⟨13, false, [], []⟩]), (6, [⟨0, false, [], []⟩, ⟨1, false, [], []⟩, ⟨2, false, [], []⟩, ⟨3, false, [], []⟩, ⟨4, false, [], []⟩, ⟨5, false, [], []⟩, ⟨6, false, [], []⟩, ⟨7, false, [], []⟩, ⟨8, false, [], []⟩, ⟨9, false, [], []⟩, ⟨10, false, [], []⟩, ⟨11, false, [], []⟩, ⟨12, false, [], []⟩, ⟨14, false, [], []⟩, ⟨15, false, [], []⟩, ⟨16, false, [], []⟩, ⟨17, false, [], []⟩, ⟨18, false, [], []⟩, ⟨13, false, [], []⟩, ⟨19, false, [], []⟩, ⟨20, false, [], []⟩, ⟨21, false, [], []⟩, ⟨22, false, [], []⟩, ⟨23, false, [], []⟩])], keep := [] }
@[simp] noncomputable def r0 (_ : Unit) : List Stp := [S 10 (.mv (.t 1)), S 8 (.mv (.t 10))]
@[simp] noncomputable def r1 (_ : Unit) : List Stp := [S 11 (.mv (.t 8)), S 12 (.bin .mul (.c (.int .i64 2)) (.t 11)), S 13 (.bin .add (.t 12) (.c (.int .i64 1))), S 9 (.mv (.t 13))]
@[simp] noncomputable def r2 (_ : Unit) : List Stp := [S 14 (.mv (.t 9)), S 15 (.mv (.t 2)), S 16 (.bin .geq (.t 14) (.t 15))]
@[simp] noncomputable def r3 (_ : Unit) : List Stp := [S 17 (.mv (.t 9)), S 18 (.bin .add (.t 17) (.c (.int .i64 1))), S 19 (.mv (.t 2)), S 20 (.bin .lss (.t 18) (.t 19)), S 21 (.mv (.t 20)), SG 22 21 true (.mv (.t 0)), SG 23 21 true (.mv (.t 3)), SG 24 21 true (.mv (.t 9)), SG 25 21 true (.bin .add (.t 23) (.t 24)), SG 26 21 true (.ixS 1 (.t 22) (.t 25)), SG 28 21 true (.mv (.t 0)), SG 29 21 true (.mv (.t 3)), SG 30 21 true (.mv (.t 9)), SG 31 21 true (.bin .add (.t 29) (.t 30)), SG 32 21 true (.bin .add (.t 31) (.c (.int .i64 1))), SG 33 21 true (.ixS 1 (.t 28) (.t 32)), SG 27 21 true (.load false 1 (.t 26)), SG 34 21 true (.load false 1 (.t 33)), SG 35 21 true (.call (.c (.func (.func fn_cmp_Less_int) [] [])) [(.t 27), (.t 34)]), S 36 (.pick (.t 21) (.t 35) (.c (.bool false)))]
@[simp] noncomputable def r4 (_ : Unit) : List Stp := [S 37 (.mv (.t 9)), S 38 (.bin .add (.t 37) (.c (.int .i64 1))), S 9 (.mv (.t 38))]
@[simp] noncomputable def r5 (_ : Unit) : List Stp := [S 39 (.mv (.t 0)), S 40 (.mv (.t 3)), S 41 (.mv (.t 8)), S 42 (.bin .add (.t 40) (.t 41)), S 43 (.ixS 1 (.t 39) (.t 42)), S 45 (.mv (.t 0)), S 46 (.mv (.t 3)), S 47 (.mv (.t 9)), S 48 (.bin .add (.t 46) (.t 47)), S 49 (.ixS 1 (.t 45) (.t 48)), S 44 (.load false 1 (.t 43)), S 50 (.load false 1 (.t 49)), S 51 (.call (.c (.func (.func fn_cmp_Less_int) [] [])) [(.t 44), (.t 50)]), S 52 (.un .not (.t 51))]
@[simp] noncomputable def r6 (_ : Unit) : List Stp := [S 53 (.mv (.t 0)), S 54 (.mv (.t 3)), S 55 (.mv (.t 8)), S 56 (.bin .add (.t 54) (.t 55)), S 57 (.mv (.t 0)), S 58 (.mv (.t 3)), S 59 (.mv (.t 9)), S 60 (.bin .add (.t 58) (.t 59)), S 61 (.mv (.t 0)), S 62 (.mv (.t 3)), S 63 (.mv (.t 9)), S 64 (.bin .add (.t 62) (.t 63)), S 65 (.ixS 1 (.t 61) (.t 64)), S 67 (.mv (.t 0)), S 68 (.mv (.t 3)), S 69 (.mv (.t 8)), S 70 (.bin .add (.t 68) (.t 69)), S 71 (.ixS 1 (.t 67) (.t 70)), S 66 (.load false 1 (.t 65)), S 72 (.load false 1 (.t 71)), S 73 (.ixS 1 (.t 53) (.t 56)), SN (.store 1 (.t 73) (.t 66)), S 74 (.ixS 1 (.t 57) (.t 60)), SN (.store 1 (.t 74) (.t 72))]
@[simp] noncomputable def r7 (_ : Unit) : List Stp := [S 75 (.mv (.t 9)), S 8 (.mv (.t 75))]
@[simp] noncomputable def ir : IR := (.seq (.ops r0) (.block 0 (.loop (.block 1 (.seq (.ops r1) (.seq (.seq (.ops r2) (.cond (.t 16) (.exit 0) .skip)) (.seq (.seq (.ops r3) (.cond (.t 36) (.ops r4) .skip)) (.seq (.seq (.ops r5) (.cond (.t 52) .ret .skip)) (.seq (.ops r6) (.ops r7))))))))))
@[simp] noncomputable def rs : List RV := []
theorem comp : compF Pg cfg Try.f106 = some (ir, rs, 76) := by kernel_rfl
theorem enter {args : List AVal} {h : Heap} {K : AEnd → Heap → Prop} (F : Nat) (hl : args.length ≤ 76) (a : AW ⟨Pg, F, 76, false, []⟩ ir (RetK rs K) (initT args) [] h) : ACalls Pg fn_slices_siftDownOrdered_int args h K :=
  ACalls.of_comp follows Try.func106 comp hl a
theorem pure {args : List AVal} {v : AVal} (hl : args.length ≤ 76) (a : AW ⟨Pg, 0, 76, false, []⟩ ir (RetK rs fun e _ => e = .ret v) (initT args) [] nilH) : APure Pg fn_slices_siftDownOrdered_int args v :=
  APure.of_nil (enter 0 hl a)
end slices_siftDownOrdered_int

namespace slices_nextPowerOfTwo
noncomputable def cfg : Cfg := { pure := pures, pcs := [], raw := [], cuts := [], draws := [], keep := [] }
@[simp] noncomputable def r0 (_ : Unit) : List Stp := [S 2 (.mv (.c (.int .u64 0)))]
@[simp] noncomputable def r1 (_ : Unit) : List Stp := [S 3 (.mv (.t 0)), S 4 (.conv .u64 (.t 3)), S 5 (.call (.c (.func (.func fn_math_bits_Len) [] [])) [(.t 4)]), S 6 (.bin .shl (.c (.int .u64 1)) (.t 5)), S 2 (.mv (.t 6))]
@[simp] noncomputable def ir : IR := (.seq (.ops r0) (.seq (.ops r1) .ret))
@[simp] noncomputable def rs : List RV := [.tmp 2]
theorem comp : compF Pg cfg Try.f107 = some (ir, rs, 7) := by kernel_rfl
theorem enter {args : List AVal} {h : Heap} {K : AEnd → Heap → Prop} (F : Nat) (hl : args.length ≤ 7) (a : AW ⟨Pg, F, 7, false, []⟩ ir (RetK rs K) (initT args) [] h) : ACalls Pg fn_slices_nextPowerOfTwo args h K :=
  ACalls.of_comp follows Try.func107 comp hl a
theorem pure {args : List AVal} {v : AVal} (hl : args.length ≤ 7) (a : AW ⟨Pg, 0, 7, false, []⟩ ir (RetK rs fun e _ => e = .ret v) (initT args) [] nilH) : APure Pg fn_slices_nextPowerOfTwo args v :=
  APure.of_nil (enter 0 hl a)
end slices_nextPowerOfTwo

namespace slices_xorshift_Next
noncomputable def cfg : Cfg := { pure := pures, pcs := [], raw := [], cuts := [], draws := [(1, [⟨0, false, [], []⟩, ⟨1, false, [], []⟩, ⟨3, false, [], []⟩, ⟨4, false, [], []⟩, ⟨2, false, [], []⟩, ⟨5, false, [], []⟩, ⟨6, false, [], []⟩, ⟨7, false, [], []⟩, ⟨8, false, [], []⟩, ⟨9, false, [], []⟩]), (2, [⟨0, false, [], []⟩, ⟨1, false, [], []⟩, ⟨3, false, [], []⟩, ⟨4, false, [], []⟩, ⟨2, false, [], []⟩, ⟨5, false, [], []⟩, ⟨6, false, [], []⟩, ⟨7, false, [], []⟩, ⟨8, false, [], []⟩, ⟨9, false, [], []⟩]), (3, [⟨0, false, [], []⟩, ⟨1, false, [], []⟩, ⟨3, false, [], []⟩, ⟨4, false, [], []⟩, ⟨2, false, [], []⟩, ⟨5, false, [], []⟩, ⟨6, false, [], []⟩, ⟨7, false, [], []⟩, ⟨8, false, [], []⟩, ⟨9, false, [], []⟩])], keep := [] }
@[simp] noncomputable def r0 (_ : Unit) : List Stp := [S 2 (.mv (.c (.int .u64 0)))]
@[simp] noncomputable def r1 (_ : Unit) : List Stp := [S 3 (.mv (.t 0)), S 4 (.nilck Pg (.t 3)), S 6 (.mv (.t 0)), S 7 (.nilck Pg (.t 6)), S 5 (.load false 1 (.t 4)), S 8 (.load false 1 (.t 7)), S 9 (.bin .shl (.t 8) (.c (.int .u64 13))), S 10 (.bin .xor (.t 5) (.t 9)), S 11 (.nilck Pg (.t 3)), SN (.store 1 (.t 11) (.t 10))]
@[simp] noncomputable def r2 (_ : Unit) : List Stp := [S 12 (.mv (.t 0)), S 13 (.nilck Pg (.t 12)), S 15 (.mv (.t 0)), S 16 (.nilck Pg (.t 15)), S 14 (.load false 1 (.t 13)), S 17 (.load false 1 (.t 16)), S 18 (.bin .shr (.t 17) (.c (.int .u64 7))), S 19 (.bin .xor (.t 14) (.t 18)), S 20 (.nilck Pg (.t 12)), SN (.store 1 (.t 20) (.t 19))]
@[simp] noncomputable def r3 (_ : Unit) : List Stp := [S 21 (.mv (.t 0)), S 22 (.nilck Pg (.t 21)), S 24 (.mv (.t 0)), S 25 (.nilck Pg (.t 24)), S 23 (.load false 1 (.t 22)), S 26 (.load false 1 (.t 25)), S 27 (.bin .shl (.t 26) (.c (.int .u64 17))), S 28 (.bin .xor (.t 23) (.t 27)), S 29 (.nilck Pg (.t 21)), SN (.store 1 (.t 29) (.t 28))]
@[simp] noncomputable def r4 (_ : Unit) : List Stp := [S 30 (.mv (.t 0)), S 31 (.nilck Pg (.t 30)), S 32 (.load false 1 (.t 31)), S 2 (.mv (.t 32))]
@[simp] noncomputable def ir : IR := (.seq (.ops r0) (.seq (.ops r1) (.seq (.ops r2) (.seq (.ops r3) (.seq (.ops r4) .ret)))))
@[simp] noncomputable def rs : List RV := [.tmp 2]
theorem comp : compF Pg cfg Try.f108 = some (ir, rs, 33) := by kernel_rfl
theorem enter {args : List AVal} {h : Heap} {K : AEnd → Heap → Prop} (F : Nat) (hl : args.length ≤ 33) (a : AW ⟨Pg, F, 33, false, []⟩ ir (RetK rs K) (initT args) [] h) : ACalls Pg fn_slices_xorshift_Next args h K :=
  ACalls.of_comp follows Try.func108 comp hl a
theorem pure {args : List AVal} {v : AVal} (hl : args.length ≤ 33) (a : AW ⟨Pg, 0, 33, false, []⟩ ir (RetK rs fun e _ => e = .ret v) (initT args) [] nilH) : APure Pg fn_slices_xorshift_Next args v :=
  APure.of_nil (enter 0 hl a)
end slices_xorshift_Next

namespace slices_medianAdjacentOrdered_int
noncomputable def cfg : Cfg := { pure := pures, pcs := [], raw := [], cuts := [], draws := [], keep := [] }
@[simp] noncomputable def r0 (_ : Unit) : List Stp := [S 6 (.mv (.c (.int .i64 0)))]
@[simp] noncomputable def r1 (_ : Unit) : List Stp := [S 7 (.mv (.t 0)), S 8 (.mv (.t 1)), S 9 (.bin .sub (.t 8) (.c (.int .i64 1))), S 10 (.mv (.t 1)), S 11 (.mv (.t 1)), S 12 (.bin .add (.t 11) (.c (.int .i64 1))), S 13 (.mv (.t 2)), S 14 (.call (.c (.func (.func fn_slices_medianOrdered_int) [] [])) [(.t 7), (.t 9), (.t 10), (.t 12), (.t 13)]), S 6 (.mv (.t 14))]
@[simp] noncomputable def ir : IR := (.seq (.ops r0) (.seq (.ops r1) .ret))
@[simp] noncomputable def rs : List RV := [.tmp 6]
theorem comp : compF Pg cfg Try.f109 = some (ir, rs, 15) := by kernel_rfl
theorem enter {args : List AVal} {h : Heap} {K : AEnd → Heap → Prop} (F : Nat) (hl : args.length ≤ 15) (a : AW ⟨Pg, F, 15, false, []⟩ ir (RetK rs K) (initT args) [] h) : ACalls Pg fn_slices_medianAdjacentOrdered_int args h K :=
  ACalls.of_comp follows Try.func109 comp hl a
theorem pure {args : List AVal} {v : AVal} (hl : args.length ≤ 15) (a : AW ⟨Pg, 0, 15, false, []⟩ ir (RetK rs fun e _ => e = .ret v) (initT args) [] nilH) : APure Pg fn_slices_medianAdjacentOrdered_int args v :=
  APure.of_nil (enter 0 hl a)
end slices_medianAdjacentOrdered_int

namespace slices_medianOrdered_int
noncomputable def cfg : Cfg := { pure := pures, pcs := [], raw := [], cuts := [], draws := [], keep := [] }
@[simp] noncomputable def r0 (_ : Unit) : List Stp := [S 10 (.mv (.c (.int .i64 0)))]
@[simp] noncomputable def r1 (_ : Unit) : List Stp := [S 12 (.mv (.t 0)), S 13 (.mv (.t 1)), S 14 (.mv (.t 2)), S 15 (.mv (.t 4)), S 16 (.call (.c (.func (.func fn_slices_order2Ordered_int) [] [])) [(.t 12), (.t 13), (.t 14), (.t 15)]), S 11 (.mv (.t 16)), S 17 (.ext (.t 11) 0), S 18 (.ext (.t 11) 1), S 1 (.mv (.t 17)), S 2 (.mv (.t 18))]
@[simp] noncomputable def r2 (_ : Unit) : List Stp := [S 20 (.mv (.t 0)), S 21 (.mv (.t 2)), S 22 (.mv (.t 3)), S 23 (.mv (.t 4)), S 24 (.call (.c (.func (.func fn_slices_order2Ordered_int) [] [])) [(.t 20), (.t 21), (.t 22), (.t 23)]), S 19 (.mv (.t 24)), S 25 (.ext (.t 19) 0), S 26 (.ext (.t 19) 1), S 2 (.mv (.t 25)), S 3 (.mv (.t 26))]
@[simp] noncomputable def r3 (_ : Unit) : List Stp := [S 28 (.mv (.t 0)), S 29 (.mv (.t 1)), S 30 (.mv (.t 2)), S 31 (.mv (.t 4)), S 32 (.call (.c (.func (.func fn_slices_order2Ordered_int) [] [])) [(.t 28), (.t 29), (.t 30), (.t 31)]), S 27 (.mv (.t 32)), S 33 (.ext (.t 27) 0), S 34 (.ext (.t 27) 1), S 1 (.mv (.t 33)), S 2 (.mv (.t 34))]
@[simp] noncomputable def r4 (_ : Unit) : List Stp := [S 35 (.mv (.t 2)), S 10 (.mv (.t 35))]
@[simp] noncomputable def ir : IR := (.seq (.ops r0) (.seq (.ops r1) (.seq (.ops r2) (.seq (.ops r3) (.seq (.ops r4) .ret)))))
@[simp] noncomputable def rs : List RV := [.tmp 10]
theorem comp : compF Pg cfg Try.f110 = some (ir, rs, 36) := by kernel_rfl
theorem enter {args : List AVal} {h : Heap} {K : AEnd → Heap → Prop} (F : Nat) (hl : args.length ≤ 36) (a : AW ⟨Pg, F, 36, false, []⟩ ir (RetK rs K) (initT args) [] h) : ACalls Pg fn_slices_medianOrdered_int args h K :=
  ACalls.of_comp follows Try.func110 comp hl a
theorem pure {args : List AVal} {v : AVal} (hl : args.length ≤ 36) (a : AW ⟨Pg, 0, 36, false, []⟩ ir (RetK rs fun e _ => e = .ret v) (initT args) [] nilH) : APure Pg fn_slices_medianOrdered_int args v :=
  APure.of_nil (enter 0 hl a)
end slices_medianOrdered_int

namespace cmp_isNaN_int
noncomputable def cfg : Cfg := { pure := pures, pcs := [], raw := [], cuts := [], draws := [], keep := [] }
@[simp] noncomputable def r0 (_ : Unit) : List Stp := [S 2 (.mv (.c (.bool false)))]
@[simp] noncomputable def r1 (_ : Unit) : List Stp := [S 3 (.mv (.t 0)), S 4 (.mv (.t 0)), S 5 (.bin .neq (.t 3) (.t 4)), S 2 (.mv (.t 5))]
@[simp] noncomputable def ir : IR := (.seq (.ops r0) (.seq (.ops r1) .ret))
@[simp] noncomputable def rs : List RV := [.tmp 2]
theorem comp : compF Pg cfg Try.f111 = some (ir, rs, 6) := by kernel_rfl
theorem enter {args : List AVal} {h : Heap} {K : AEnd → Heap → Prop} (F : Nat) (hl : args.length ≤ 6) (a : AW ⟨Pg, F, 6, false, []⟩ ir (RetK rs K) (initT args) [] h) : ACalls Pg fn_cmp_isNaN_int args h K :=
  ACalls.of_comp follows Try.func111 comp hl a
theorem pure {args : List AVal} {v : AVal} (hl : args.length ≤ 6) (a : AW ⟨Pg, 0, 6, false, []⟩ ir (RetK rs fun e _ => e = .ret v) (initT args) [] nilH) : APure Pg fn_cmp_isNaN_int args v :=
  APure.of_nil (enter 0 hl a)
end cmp_isNaN_int

namespace slices_order2Ordered_int
noncomputable def cfg : Cfg := { pure := pures, pcs := [], raw := [], cuts := [], draws := [(1, [⟨0, false, [], []⟩, ⟨1, false, [], []⟩, ⟨2, false, [], []⟩, ⟨4, false, [], []⟩, ⟨5, false, [], []⟩, ⟨6, false, [], []⟩, ⟨3, false, [], []⟩, ⟨7, false, [], []⟩, ⟨8, false, [], []⟩])], keep := [] }
@[simp] noncomputable def r0 (_ : Unit) : List Stp := [S 8 (.mv (.c (.int .i64 0))), S 9 (.mv (.c (.int .i64 0)))]
@[simp] noncomputable def r1 (_ : Unit) : List Stp := [S 10 (.mv (.t 0)), S 11 (.mv (.t 2)), S 12 (.ixS 1 (.t 10) (.t 11)), S 14 (.mv (.t 0)), S 15 (.mv (.t 1)), S 16 (.ixS 1 (.t 14) (.t 15)), S 13 (.load false 1 (.t 12)), S 17 (.load false 1 (.t 16)), S 18 (.call (.c (.func (.func fn_cmp_Less_int) [] [])) [(.t 13), (.t 17)])]
@[simp] noncomputable def r2 (_ : Unit) : List Stp := [S 19 (.mv (.t 3)), S 20 (.nilck Pg (.t 19)), S 21 (.load false 1 (.t 20)), S 22 (.bin .add (.t 21) (.c (.int .i64 1))), S 23 (.nilck Pg (.t 19)), SN (.store 1 (.t 23) (.t 22))]
@[simp] noncomputable def r3 (_ : Unit) : List Stp := [S 24 (.mv (.t 2)), S 25 (.mv (.t 1)), S 8 (.mv (.t 24)), S 9 (.mv (.t 25))]
@[simp] noncomputable def r4 (_ : Unit) : List Stp := [S 26 (.mv (.t 1)), S 27 (.mv (.t 2)), S 8 (.mv (.t 26)), S 9 (.mv (.t 27))]
@[simp] noncomputable def ir : IR := (.seq (.ops r0) (.seq (.seq (.ops r1) (.cond (.t 18) (.seq (.ops r2) (.seq (.ops r3) .ret)) .skip)) (.seq (.ops r4) .ret)))
@[simp] noncomputable def rs : List RV := [.tmp 8, .tmp 9]
theorem comp : compF Pg cfg Try.f112 = some (ir, rs, 28) := by kernel_rfl
theorem enter {args : List AVal} {h : Heap} {K : AEnd → Heap → Prop} (F : Nat) (hl : args.length ≤ 28) (a : AW ⟨Pg, F, 28, false, []⟩ ir (RetK rs K) (initT args) [] h) : ACalls Pg fn_slices_order2Ordered_int args h K :=
  ACalls.of_comp follows Try.func112 comp hl a
theorem pure {args : List AVal} {v : AVal} (hl : args.length ≤ 28) (a : AW ⟨Pg, 0, 28, false, []⟩ ir (RetK rs fun e _ => e = .ret v) (initT args) [] nilH) : APure Pg fn_slices_order2Ordered_int args v :=
  APure.of_nil (enter 0 hl a)
end slices_order2Ordered_int

namespace leak_none_can
noncomputable def cfg : Cfg := { pure := pures, pcs := [], raw := [], cuts := [], draws := [], keep := [] }
@[simp] noncomputable def r0 (_ : Unit) : List Stp := [S 4 (.box (.t 0)), S 5 (.box (.t 1)), S 8 (.mv (.c (.bool false)))]
@[simp] noncomputable def r1 (_ : Unit) : List Stp := [S 8 (.mv (.c (.bool true)))]
@[simp] noncomputable def ir : IR := (.seq (.ops r0) (.seq (.ops r1) .ret))
@[simp] noncomputable def rs : List RV := [.tmp 8]
theorem comp : compF Pg cfg Try.f128 = some (ir, rs, 9) := by kernel_rfl
theorem enter {args : List AVal} {h : Heap} {K : AEnd → Heap → Prop} (F : Nat) (hl : args.length ≤ 9) (a : AW ⟨Pg, F, 9, false, []⟩ ir (RetK rs K) (initT args) [] h) : ACalls Pg fn_leak_none_can args h K :=
  ACalls.of_comp follows Try.func128 comp hl a
theorem pure {args : List AVal} {v : AVal} (hl : args.length ≤ 9) (a : AW ⟨Pg, 0, 9, false, []⟩ ir (RetK rs fun e _ => e = .ret v) (initT args) [] nilH) : APure Pg fn_leak_none_can args v :=
  APure.of_nil (enter 0 hl a)
end leak_none_can

namespace leak_wet_ends
noncomputable def cfg : Cfg := { pure := pures, pcs := [], raw := [], cuts := [], draws := [(1, [⟨1, false, [], []⟩, ⟨3, false, [], []⟩, ⟨4, false, [], []⟩, ⟨5, false, [], []⟩, ⟨0, false, [], []⟩, ⟨2, false, [], []⟩, ⟨6, false, [], []⟩, ⟨7, false, [], []⟩, ⟨8, false, [], []⟩])], keep := [] }
@[simp] noncomputable def r0 (_ : Unit) : List Stp := [S 4 (.box (.t 0)), S 5 (.box (.t 1)), S 8 (.mv (.c (.int .i64 0))), S 9 (.mv (.c (.int .i64 0)))]
@[simp] noncomputable def r1 (_ : Unit) : List Stp := [S 12 (.fAddr 0 (.t 4)), S 14 (.mv (.t 2)), S 15 (.bin .shl (.c (.int .u64 1)) (.t 14)), S 16 (.bin .sub (.t 15) (.c (.int .u64 1))), S 11 (.load true 6 (.t 5)), S 13 (.load false 1 (.t 12)), S 17 (.bin .and (.t 13) (.t 16)), SP 18 (.call (.c (.func (.func fn_leak_inflow_sum) [] [])) [(.t 11), (.t 17)]), S 8 (.mv (.t 18))]
@[simp] noncomputable def r2 (_ : Unit) : List Stp := [S 19 (.mv (.t 8)), S 9 (.mv (.t 19))]
@[simp] noncomputable def r3 (_ : Unit) : List Stp := [S 20 (.mv (.t 2)), S 10 (.mv (.t 20))]
@[simp] noncomputable def r4 (_ : Unit) : List Stp := [S 21 (.mv (.t 10)), S 22 (.mv (.t 3)), S 23 (.len (.t 22)), S 24 (.bin .lss (.t 21) (.t 23))]
@[simp] noncomputable def r6 (_ : Unit) : List Stp := [S 27 (.fAddr 0 (.t 4)), S 28 (.load false 1 (.t 27)), S 29 (.mv (.t 10)), SP 30 (.call (.c (.func (.func fn_leak_set_has) [] [])) [(.t 28), (.t 29)])]
@[simp] noncomputable def r7 (_ : Unit) : List Stp := [S 31 (.mv (.t 9)), S 32 (.mv (.t 3)), S 33 (.mv (.t 10)), S 34 (.ixS 1 (.t 32) (.t 33)), S 35 (.load false 1 (.t 34)), S 36 (.bsl 2 [(.int .i64 0), (.int .i64 0)] [(0, 1, (.t 31)), (1, 1, (.t 35))]), S 37 (.call (.c (.func (.func fn_leak_flows) [] [])) [(.t 36)]), S 9 (.mv (.t 37))]
@[simp] noncomputable def r5 (_ : Unit) : List Stp := [S 25 (.mv (.t 10)), S 26 (.bin .add (.t 25) (.c (.int .i64 1))), S 10 (.mv (.t 26))]
@[simp] noncomputable def r8 (_ : Unit) : List Stp := [S 38 (.mv (.t 8)), S 39 (.mv (.t 9)), S 8 (.mv (.t 38)), S 9 (.mv (.t 39))]
@[simp] noncomputable def ir : IR := (.seq (.ops r0) (.seq (.ops r1) (.seq (.ops r2) (.seq (.seq (.ops r3) (.block 0 (.loop (.seq (.seq (.ops r4) (.cond (.t 24) .skip (.exit 0))) (.seq (.block 1 (.seq (.ops r6) (.cond (.t 30) (.ops r7) .skip))) (.ops r5)))))) (.seq (.ops r8) .ret)))))
@[simp] noncomputable def rs : List RV := [.tmp 8, .tmp 9]
theorem comp : compF Pg cfg Try.f129 = some (ir, rs, 40) := by kernel_rfl
theorem enter {args : List AVal} {h : Heap} {K : AEnd → Heap → Prop} (F : Nat) (hl : args.length ≤ 40) (a : AW ⟨Pg, F, 40, false, []⟩ ir (RetK rs K) (initT args) [] h) : ACalls Pg fn_leak_wet_ends args h K :=
  ACalls.of_comp follows Try.func129 comp hl a
theorem pure {args : List AVal} {v : AVal} (hl : args.length ≤ 40) (a : AW ⟨Pg, 0, 40, false, []⟩ ir (RetK rs fun e _ => e = .ret v) (initT args) [] nilH) : APure Pg fn_leak_wet_ends args v :=
  APure.of_nil (enter 0 hl a)
end leak_wet_ends

namespace leak_sounding_can
noncomputable def cfg : Cfg := { pure := pures, pcs := [], raw := [], cuts := [], draws := [], keep := [] }
@[simp] noncomputable def r0 (_ : Unit) : List Stp := [S 4 (.box (.t 0)), S 5 (.box (.t 1)), S 8 (.mv (.c (.bool false)))]
@[simp] noncomputable def r1 (_ : Unit) : List Stp := [S 12 (.fAddr 0 (.t 4)), S 13 (.load true 1 (.t 12)), S 14 (.load true 6 (.t 5)), S 15 (.mv (.t 2)), S 16 (.mv (.t 3)), S 17 (.call (.c (.func (.func fn_leak_wet_ends) [] [])) [(.t 13), (.t 14), (.t 15), (.t 16)]), S 11 (.mv (.t 17)), S 18 (.ext (.t 11) 0), S 19 (.ext (.t 11) 1), S 9 (.mv (.t 18)), S 10 (.mv (.t 19))]
@[simp] noncomputable def r2 (_ : Unit) : List Stp := [S 20 (.mv (.t 9)), S 21 (.fAddr 1 (.t 4)), S 22 (.fAddr 1 (.t 21)), S 23 (.load false 1 (.t 22)), S 24 (.bin .leq (.t 20) (.t 23)), S 25 (.mv (.t 24)), SG 26 25 true (.mv (.t 10)), SG 27 25 true (.fAddr 1 (.t 4)), SG 28 25 true (.fAddr 0 (.t 27)), SG 29 25 true (.load false 1 (.t 28)), SG 30 25 true (.bin .geq (.t 26) (.t 29)), S 31 (.pick (.t 25) (.t 30) (.c (.bool false))), S 8 (.mv (.t 31))]
@[simp] noncomputable def ir : IR := (.seq (.ops r0) (.seq (.ops r1) (.seq (.ops r2) .ret)))
@[simp] noncomputable def rs : List RV := [.tmp 8]
theorem comp : compF Pg cfg Try.f130 = some (ir, rs, 32) := by kernel_rfl
theorem enter {args : List AVal} {h : Heap} {K : AEnd → Heap → Prop} (F : Nat) (hl : args.length ≤ 32) (a : AW ⟨Pg, F, 32, false, []⟩ ir (RetK rs K) (initT args) [] h) : ACalls Pg fn_leak_sounding_can args h K :=
  ACalls.of_comp follows Try.func130 comp hl a
theorem pure {args : List AVal} {v : AVal} (hl : args.length ≤ 32) (a : AW ⟨Pg, 0, 32, false, []⟩ ir (RetK rs fun e _ => e = .ret v) (initT args) [] nilH) : APure Pg fn_leak_sounding_can args v :=
  APure.of_nil (enter 0 hl a)
end leak_sounding_can

end Go.Cw
end
