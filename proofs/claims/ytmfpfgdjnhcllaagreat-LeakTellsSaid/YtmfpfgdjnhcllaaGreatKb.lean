/-
  The program's functions in the small form.
-/
import Derived.Test.YtmfpfgdjnhcllaaGreatKa
set_option linter.unusedVariables false
set_option linter.unusedSimpArgs false
set_option linter.unusedSectionVars false

/- Functions in the small form. Printed by a program of this seat's proofs. -/
section
namespace Go.Cw
open Go Go.Proofs

namespace math_bits_Len
noncomputable def cfg : Cfg := { pure := pures, pcs := [], raw := [], cuts := [], draws := [], keep := [] }
@[simp] noncomputable def r0 (_ : Unit) : List Stp := [S 2 (.mv (.c (.int .i64 0)))]
@[simp] noncomputable def r1 (_ : Unit) : List Stp := [S 3 (.mv (.t 0)), S 4 (.conv .u32 (.t 3)), S 5 (.call (.c (.func (.func fn_math_bits_Len32) [] [])) [(.t 4)]), S 2 (.mv (.t 5))]
@[simp] noncomputable def r2 (_ : Unit) : List Stp := [S 6 (.mv (.t 0)), S 7 (.call (.c (.func (.func fn_math_bits_Len64) [] [])) [(.t 6)]), S 2 (.mv (.t 7))]
@[simp] noncomputable def ir : IR := (.seq (.ops r0) (.seq (.cond (.c (.bool false)) (.seq (.ops r1) .ret) .skip) (.seq (.ops r2) .ret)))
@[simp] noncomputable def rs : List RV := [.tmp 2]
theorem comp : compF Pg cfg Tryz.f86 = some (ir, rs, 8) := by kernel_rfl
theorem enter {args : List AVal} {h : Heap} {K : AEnd → Heap → Prop} (F : Nat) (hl : args.length ≤ 8) (a : AW ⟨Pg, F, 8, false, []⟩ ir (RetK rs K) (initT args) [] h) : ACalls Pg fn_math_bits_Len args h K :=
  ACalls.of_comp follows Tryz.func86 comp hl a
theorem pure {args : List AVal} {v : AVal} (hl : args.length ≤ 8) (a : AW ⟨Pg, 0, 8, false, []⟩ ir (RetK rs fun e _ => e = .ret v) (initT args) [] nilH) : APure Pg fn_math_bits_Len args v :=
  APure.of_nil (enter 0 hl a)
end math_bits_Len

namespace ref01_right
noncomputable def cfg : Cfg := { pure := pures, pcs := [], raw := [], cuts := [], draws := [(5, [⟨0, false, [], []⟩, ⟨1, false, [], []⟩, ⟨2, false, [], []⟩, ⟨3, false, [], []⟩, ⟨4, false, [], []⟩, ⟨6, false, [], []⟩, ⟨8, false, [], []⟩, ⟨12, false, [], []⟩, ⟨13, false, [], []⟩, ⟨15, false, [], []⟩, ⟨16, false, [], []⟩, ⟨5, false, [], []⟩, ⟨7, false, [], []⟩, ⟨9, false, [], []⟩, ⟨10, false, [], []⟩, ⟨11, false, [], []⟩, ⟨14, false, [], []⟩, ⟨17, false, [], []⟩, ⟨18, false, [], []⟩, ⟨19, false, [], []⟩, ⟨20, false, [], []⟩])], keep := [] }
@[simp] noncomputable def r0 (_ : Unit) : List Stp := [S 3 (.box (.t 0)), S 6 (.mv (.c (.bool false)))]
@[simp] noncomputable def r1 (_ : Unit) : List Stp := [S 7 (.mv (.c (.int .i64 0)))]
@[simp] noncomputable def r2 (_ : Unit) : List Stp := [S 9 (.mv (.t 7)), S 10 (.fAddr 1 (.t 3)), S 11 (.load false 1 (.t 10)), S 12 (.len (.t 11)), S 13 (.bin .lss (.t 9) (.t 12))]
@[simp] noncomputable def r4 (_ : Unit) : List Stp := [S 16 (.fAddr 1 (.t 3)), S 17 (.load false 1 (.t 16)), S 18 (.mv (.t 7)), S 19 (.ixS 4 (.t 17) (.t 18)), S 20 (.load true 4 (.t 19)), S 8 (.alloc [(.int .i64 0), (.int .i64 0), (.int .i64 0), (.int .i64 0)]), SN (.store 4 (.t 8) (.t 20))]
@[simp] noncomputable def r5 (_ : Unit) : List Stp := [S 21 (.mv (.t 2)), S 22 (.mv (.t 7)), SP 23 (.call (.c (.func (.func fn_ref01_Has) [] [])) [(.t 21), (.t 22)]), S 24 (.mv (.t 23)), SG 25 24 true (.mv (.t 1)), SG 27 24 true (.fAddr 0 (.t 8)), SG 29 24 true (.fAddr 1 (.t 8)), SG 33 24 true (.fAddr 2 (.t 8)), SG 34 24 true (.fAddr 0 (.t 33)), SG 36 24 true (.fAddr 2 (.t 8)), SG 37 24 true (.fAddr 1 (.t 36)), SG 26 24 true (.load true 2 (.t 3)), SG 28 24 true (.load false 1 (.t 27)), SG 30 24 true (.load false 1 (.t 29)), SGP 31 24 true (.call (.c (.func (.func fn_ref01_wet) [] [])) [(.t 26), (.t 28), (.t 30)]), SGP 32 24 true (.call (.c (.func (.func fn_ref01_Sum) [] [])) [(.t 25), (.t 31)]), SG 35 24 true (.load false 1 (.t 34)), SG 38 24 true (.load false 1 (.t 37)), SGP 39 24 true (.call (.c (.func (.func fn_ref01_in) [] [])) [(.t 32), (.t 35), (.t 38)]), SG 40 24 true (.un .not (.t 39)), S 41 (.pick (.t 24) (.t 40) (.c (.bool false)))]
@[simp] noncomputable def r6 (_ : Unit) : List Stp := [S 6 (.mv (.c (.bool false)))]
@[simp] noncomputable def r3 (_ : Unit) : List Stp := [S 14 (.mv (.t 7)), S 15 (.bin .add (.t 14) (.c (.int .i64 1))), S 7 (.mv (.t 15))]
@[simp] noncomputable def r7 (_ : Unit) : List Stp := [S 6 (.mv (.c (.bool true)))]
@[simp] noncomputable def ir : IR := (.seq (.ops r0) (.seq (.seq (.ops r1) (.block 0 (.loop (.seq (.seq (.ops r2) (.cond (.t 13) .skip (.exit 0))) (.seq (.block 1 (.seq (.ops r4) (.seq (.ops r5) (.cond (.t 41) (.seq (.ops r6) .ret) .skip)))) (.ops r3)))))) (.seq (.ops r7) .ret)))
@[simp] noncomputable def rs : List RV := [.tmp 6]
theorem comp : compF Pg cfg Tryz.f87 = some (ir, rs, 42) := by kernel_rfl
theorem enter {args : List AVal} {h : Heap} {K : AEnd → Heap → Prop} (F : Nat) (hl : args.length ≤ 42) (a : AW ⟨Pg, F, 42, false, []⟩ ir (RetK rs K) (initT args) [] h) : ACalls Pg fn_ref01_right args h K :=
  ACalls.of_comp follows Tryz.func87 comp hl a
theorem pure {args : List AVal} {v : AVal} (hl : args.length ≤ 42) (a : AW ⟨Pg, 0, 42, false, []⟩ ir (RetK rs fun e _ => e = .ret v) (initT args) [] nilH) : APure Pg fn_ref01_right args v :=
  APure.of_nil (enter 0 hl a)
end ref01_right

namespace slices_insertionSortOrdered_int
noncomputable def cfg : Cfg := { pure := pures, pcs := [], raw := [], cuts := [], draws := [(4, [⟨0, false, [], []⟩, ⟨1, false, [], []⟩, ⟨2, false, [], []⟩, ⟨3, false, [], []⟩, ⟨4, false, [], []⟩, ⟨5, false, [], []⟩, ⟨6, false, [], []⟩, ⟨8, false, [], []⟩, ⟨9, false, [], []⟩, ⟨10, false, [], []⟩, ⟨11, false, [], []⟩, ⟨7, false, [], []⟩, ⟨12, false, [], []⟩, ⟨13, false, [], []⟩, ⟨14, false, [], []⟩]), (6, [⟨0, false, [], []⟩, ⟨1, false, [], []⟩, ⟨2, false, [], []⟩, ⟨3, false, [], []⟩, ⟨4, false, [], []⟩, ⟨5, false, [], []⟩, ⟨6, false, [], []⟩, ⟨7, false, [], []⟩, ⟨8, false, [], []⟩, ⟨10, false, [], []⟩, ⟨11, false, [], []⟩, ⟨12, false, [], []⟩, ⟨9, false, [], []⟩, ⟨13, false, [], []⟩, ⟨14, false, [], []⟩, ⟨15, false, [], []⟩, ⟨16, false, [], []⟩, ⟨17, false, [], []⟩])], keep := [] }
@[simp] noncomputable def r0 (_ : Unit) : List Stp := [S 8 (.mv (.t 1)), S 9 (.bin .add (.t 8) (.c (.int .i64 1))), S 6 (.mv (.t 9))]
@[simp] noncomputable def r1 (_ : Unit) : List Stp := [S 10 (.mv (.t 6)), S 11 (.mv (.t 2)), S 12 (.bin .lss (.t 10) (.t 11))]
@[simp] noncomputable def r3 (_ : Unit) : List Stp := [S 15 (.mv (.t 6)), S 7 (.mv (.t 15))]
@[simp] noncomputable def r4 (_ : Unit) : List Stp := [S 16 (.mv (.t 7)), S 17 (.mv (.t 1)), S 18 (.bin .gtr (.t 16) (.t 17)), S 19 (.mv (.t 18)), SG 20 19 true (.mv (.t 0)), SG 21 19 true (.mv (.t 7)), SG 22 19 true (.ixS 1 (.t 20) (.t 21)), SG 24 19 true (.mv (.t 0)), SG 25 19 true (.mv (.t 7)), SG 26 19 true (.bin .sub (.t 25) (.c (.int .i64 1))), SG 27 19 true (.ixS 1 (.t 24) (.t 26)), SG 23 19 true (.load false 1 (.t 22)), SG 28 19 true (.load false 1 (.t 27)), SG 29 19 true (.call (.c (.func (.func fn_cmp_Less_int) [] [])) [(.t 23), (.t 28)]), S 30 (.pick (.t 19) (.t 29) (.c (.bool false)))]
@[simp] noncomputable def r6 (_ : Unit) : List Stp := [S 33 (.mv (.t 0)), S 34 (.mv (.t 7)), S 35 (.mv (.t 0)), S 36 (.mv (.t 7)), S 37 (.bin .sub (.t 36) (.c (.int .i64 1))), S 38 (.mv (.t 0)), S 39 (.mv (.t 7)), S 40 (.bin .sub (.t 39) (.c (.int .i64 1))), S 41 (.ixS 1 (.t 38) (.t 40)), S 43 (.mv (.t 0)), S 44 (.mv (.t 7)), S 45 (.ixS 1 (.t 43) (.t 44)), S 42 (.load false 1 (.t 41)), S 46 (.load false 1 (.t 45)), S 47 (.ixS 1 (.t 33) (.t 34)), SN (.store 1 (.t 47) (.t 42)), S 48 (.ixS 1 (.t 35) (.t 37)), SN (.store 1 (.t 48) (.t 46))]
@[simp] noncomputable def r5 (_ : Unit) : List Stp := [S 31 (.mv (.t 7)), S 32 (.bin .sub (.t 31) (.c (.int .i64 1))), S 7 (.mv (.t 32))]
@[simp] noncomputable def r2 (_ : Unit) : List Stp := [S 13 (.mv (.t 6)), S 14 (.bin .add (.t 13) (.c (.int .i64 1))), S 6 (.mv (.t 14))]
@[simp] noncomputable def ir : IR := (.seq (.ops r0) (.block 0 (.loop (.seq (.seq (.ops r1) (.cond (.t 12) .skip (.exit 0))) (.seq (.block 1 (.seq (.ops r3) (.block 2 (.loop (.seq (.seq (.ops r4) (.cond (.t 30) .skip (.exit 2))) (.seq (.block 3 (.ops r6)) (.ops r5))))))) (.ops r2))))))
@[simp] noncomputable def rs : List RV := []
theorem comp : compF Pg cfg Tryz.f88 = some (ir, rs, 49) := by kernel_rfl
theorem enter {args : List AVal} {h : Heap} {K : AEnd → Heap → Prop} (F : Nat) (hl : args.length ≤ 49) (a : AW ⟨Pg, F, 49, false, []⟩ ir (RetK rs K) (initT args) [] h) : ACalls Pg fn_slices_insertionSortOrdered_int args h K :=
  ACalls.of_comp follows Tryz.func88 comp hl a
theorem pure {args : List AVal} {v : AVal} (hl : args.length ≤ 49) (a : AW ⟨Pg, 0, 49, false, []⟩ ir (RetK rs fun e _ => e = .ret v) (initT args) [] nilH) : APure Pg fn_slices_insertionSortOrdered_int args v :=
  APure.of_nil (enter 0 hl a)
end slices_insertionSortOrdered_int

namespace slices_heapSortOrdered_int
noncomputable def cfg : Cfg := { pure := pures, pcs := [], raw := [], cuts := [], draws := [(10, [⟨0, false, [], []⟩, ⟨1, false, [], []⟩, ⟨2, false, [], []⟩, ⟨3, false, [], []⟩, ⟨4, false, [], []⟩, ⟨5, false, [], []⟩, ⟨6, false, [], []⟩, ⟨7, false, [], []⟩, ⟨8, false, [], []⟩, ⟨9, false, [], []⟩, ⟨10, false, [], []⟩, ⟨12, false, [], []⟩, ⟨13, false, [], []⟩, ⟨14, false, [], []⟩, ⟨11, false, [], []⟩, ⟨15, false, [], []⟩, ⟨16, false, [], []⟩, ⟨17, false, [], []⟩, ⟨18, false, [], []⟩, ⟨19, false, [], []⟩])], keep := [] }
@[simp] noncomputable def r0 (_ : Unit) : List Stp := [S 11 (.mv (.t 1)), S 6 (.mv (.t 11))]
@[simp] noncomputable def r1 (_ : Unit) : List Stp := [S 7 (.mv (.c (.int .i64 0)))]
@[simp] noncomputable def r2 (_ : Unit) : List Stp := [S 12 (.mv (.t 2)), S 13 (.mv (.t 1)), S 14 (.bin .sub (.t 12) (.t 13)), S 8 (.mv (.t 14))]
@[simp] noncomputable def r3 (_ : Unit) : List Stp := [S 15 (.mv (.t 8)), S 16 (.bin .sub (.t 15) (.c (.int .i64 1))), S 17 (.bin .quo (.t 16) (.c (.int .i64 2))), S 9 (.mv (.t 17))]
@[simp] noncomputable def r4 (_ : Unit) : List Stp := [S 18 (.mv (.t 9)), S 19 (.bin .geq (.t 18) (.c (.int .i64 0)))]
@[simp] noncomputable def r6 (_ : Unit) : List Stp := [S 22 (.mv (.t 0)), S 23 (.mv (.t 9)), S 24 (.mv (.t 8)), S 25 (.mv (.t 6)), S 26 (.call (.c (.func (.func fn_slices_siftDownOrdered_int) [] [])) [(.t 22), (.t 23), (.t 24), (.t 25)])]
@[simp] noncomputable def r5 (_ : Unit) : List Stp := [S 20 (.mv (.t 9)), S 21 (.bin .sub (.t 20) (.c (.int .i64 1))), S 9 (.mv (.t 21))]
@[simp] noncomputable def r7 (_ : Unit) : List Stp := [S 27 (.mv (.t 8)), S 28 (.bin .sub (.t 27) (.c (.int .i64 1))), S 10 (.mv (.t 28))]
@[simp] noncomputable def r8 (_ : Unit) : List Stp := [S 29 (.mv (.t 10)), S 30 (.bin .geq (.t 29) (.c (.int .i64 0)))]
@[simp] noncomputable def r10 (_ : Unit) : List Stp := [S 33 (.mv (.t 0)), S 34 (.mv (.t 6)), S 35 (.mv (.t 0)), S 36 (.mv (.t 6)), S 37 (.mv (.t 10)), S 38 (.bin .add (.t 36) (.t 37)), S 39 (.mv (.t 0)), S 40 (.mv (.t 6)), S 41 (.mv (.t 10)), S 42 (.bin .add (.t 40) (.t 41)), S 43 (.ixS 1 (.t 39) (.t 42)), S 45 (.mv (.t 0)), S 46 (.mv (.t 6)), S 47 (.ixS 1 (.t 45) (.t 46)), S 44 (.load false 1 (.t 43)), S 48 (.load false 1 (.t 47)), S 49 (.ixS 1 (.t 33) (.t 34)), SN (.store 1 (.t 49) (.t 44)), S 50 (.ixS 1 (.t 35) (.t 38)), SN (.store 1 (.t 50) (.t 48))]
@[simp] noncomputable def r11 (_ : Unit) : List Stp := [S 51 (.mv (.t 0)), S 52 (.mv (.t 7)), S 53 (.mv (.t 10)), S 54 (.mv (.t 6)), S 55 (.call (.c (.func (.func fn_slices_siftDownOrdered_int) [] [])) [(.t 51), (.t 52), (.t 53), (.t 54)])]
@[simp] noncomputable def r9 (_ : Unit) : List Stp := [S 31 (.mv (.t 10)), S 32 (.bin .sub (.t 31) (.c (.int .i64 1))), S 10 (.mv (.t 32))]
@[simp] noncomputable def ir : IR := (.seq (.ops r0) (.seq (.ops r1) (.seq (.ops r2) (.seq (.seq (.ops r3) (.block 0 (.loop (.seq (.seq (.ops r4) (.cond (.t 19) .skip (.exit 0))) (.seq (.block 1 (.ops r6)) (.ops r5)))))) (.seq (.ops r7) (.block 2 (.loop (.seq (.seq (.ops r8) (.cond (.t 30) .skip (.exit 2))) (.seq (.block 3 (.seq (.ops r10) (.ops r11))) (.ops r9))))))))))
@[simp] noncomputable def rs : List RV := []
theorem comp : compF Pg cfg Tryz.f89 = some (ir, rs, 56) := by kernel_rfl
theorem enter {args : List AVal} {h : Heap} {K : AEnd → Heap → Prop} (F : Nat) (hl : args.length ≤ 56) (a : AW ⟨Pg, F, 56, false, []⟩ ir (RetK rs K) (initT args) [] h) : ACalls Pg fn_slices_heapSortOrdered_int args h K :=
  ACalls.of_comp follows Tryz.func89 comp hl a
theorem pure {args : List AVal} {v : AVal} (hl : args.length ≤ 56) (a : AW ⟨Pg, 0, 56, false, []⟩ ir (RetK rs fun e _ => e = .ret v) (initT args) [] nilH) : APure Pg fn_slices_heapSortOrdered_int args v :=
  APure.of_nil (enter 0 hl a)
end slices_heapSortOrdered_int

namespace slices_breakPatternsOrdered_int
noncomputable def cfg : Cfg := { pure := pures, pcs := [], raw := [], cuts := [], draws := [(10, [⟨0, false, [], []⟩, ⟨1, false, [], []⟩, ⟨2, false, [], []⟩, ⟨3, false, [], []⟩, ⟨4, false, [], []⟩, ⟨5, false, [], []⟩, ⟨6, false, [], []⟩, ⟨7, false, [], []⟩, ⟨8, false, [], []⟩, ⟨9, false, [], []⟩, ⟨10, false, [], []⟩, ⟨12, false, [], []⟩, ⟨13, false, [], []⟩, ⟨14, false, [], []⟩, ⟨11, false, [], []⟩, ⟨15, false, [], []⟩, ⟨16, false, [], []⟩, ⟨17, false, [], []⟩, ⟨18, false, [], []⟩, ⟨19, false, [], []⟩])], keep := [] }
@[simp] noncomputable def r0 (_ : Unit) : List Stp := [S 11 (.mv (.t 2)), S 12 (.mv (.t 1)), S 13 (.bin .sub (.t 11) (.t 12)), S 6 (.mv (.t 13))]
@[simp] noncomputable def r1 (_ : Unit) : List Stp := [S 14 (.mv (.t 6)), S 15 (.bin .geq (.t 14) (.c (.int .i64 8)))]
@[simp] noncomputable def r2 (_ : Unit) : List Stp := [S 16 (.mv (.t 6)), S 17 (.conv .u64 (.t 16)), S 7 (.alloc [(.int .u64 0)]), SN (.store 1 (.t 7) (.t 17))]
@[simp] noncomputable def r3 (_ : Unit) : List Stp := [S 18 (.mv (.t 6)), S 19 (.call (.c (.func (.func fn_slices_nextPowerOfTwo) [] [])) [(.t 18)]), S 8 (.mv (.t 19))]
@[simp] noncomputable def r4 (_ : Unit) : List Stp := [S 20 (.mv (.t 1)), S 21 (.mv (.t 6)), S 22 (.bin .quo (.t 21) (.c (.int .i64 4))), S 23 (.bin .mul (.t 22) (.c (.int .i64 2))), S 24 (.bin .add (.t 20) (.t 23)), S 25 (.bin .sub (.t 24) (.c (.int .i64 1))), S 9 (.mv (.t 25))]
@[simp] noncomputable def r5 (_ : Unit) : List Stp := [S 26 (.mv (.t 9)), S 27 (.mv (.t 1)), S 28 (.mv (.t 6)), S 29 (.bin .quo (.t 28) (.c (.int .i64 4))), S 30 (.bin .mul (.t 29) (.c (.int .i64 2))), S 31 (.bin .add (.t 27) (.t 30)), S 32 (.bin .add (.t 31) (.c (.int .i64 1))), S 33 (.bin .leq (.t 26) (.t 32))]
@[simp] noncomputable def r7 (_ : Unit) : List Stp := [S 36 (.call (.c (.func (.func fn_slices_xorshift_Next) [] [])) [(.t 7)]), S 37 (.mv (.t 8)), S 38 (.bin .sub (.t 37) (.c (.int .u64 1))), S 39 (.bin .and (.t 36) (.t 38)), S 40 (.conv .i64 (.t 39)), S 10 (.mv (.t 40))]
@[simp] noncomputable def r8 (_ : Unit) : List Stp := [S 41 (.mv (.t 10)), S 42 (.mv (.t 6)), S 43 (.bin .geq (.t 41) (.t 42))]
@[simp] noncomputable def r9 (_ : Unit) : List Stp := [S 44 (.mv (.t 10)), S 45 (.mv (.t 6)), S 46 (.bin .sub (.t 44) (.t 45)), S 10 (.mv (.t 46))]
@[simp] noncomputable def r10 (_ : Unit) : List Stp := [S 47 (.mv (.t 0)), S 48 (.mv (.t 9)), S 49 (.mv (.t 0)), S 50 (.mv (.t 1)), S 51 (.mv (.t 10)), S 52 (.bin .add (.t 50) (.t 51)), S 53 (.mv (.t 0)), S 54 (.mv (.t 1)), S 55 (.mv (.t 10)), S 56 (.bin .add (.t 54) (.t 55)), S 57 (.ixS 1 (.t 53) (.t 56)), S 59 (.mv (.t 0)), S 60 (.mv (.t 9)), S 61 (.ixS 1 (.t 59) (.t 60)), S 58 (.load false 1 (.t 57)), S 62 (.load false 1 (.t 61)), S 63 (.ixS 1 (.t 47) (.t 48)), SN (.store 1 (.t 63) (.t 58)), S 64 (.ixS 1 (.t 49) (.t 52)), SN (.store 1 (.t 64) (.t 62))]
@[simp] noncomputable def r6 (_ : Unit) : List Stp := [S 34 (.mv (.t 9)), S 35 (.bin .add (.t 34) (.c (.int .i64 1))), S 9 (.mv (.t 35))]
@[simp] noncomputable def ir : IR := (.seq (.ops r0) (.seq (.ops r1) (.cond (.t 15) (.seq (.ops r2) (.seq (.ops r3) (.seq (.ops r4) (.block 0 (.loop (.seq (.seq (.ops r5) (.cond (.t 33) .skip (.exit 0))) (.seq (.block 1 (.seq (.ops r7) (.seq (.seq (.ops r8) (.cond (.t 43) (.ops r9) .skip)) (.ops r10)))) (.ops r6)))))))) .skip)))
@[simp] noncomputable def rs : List RV := []
theorem comp : compF Pg cfg Tryz.f90 = some (ir, rs, 65) := by kernel_rfl
theorem enter {args : List AVal} {h : Heap} {K : AEnd → Heap → Prop} (F : Nat) (hl : args.length ≤ 65) (a : AW ⟨Pg, F, 65, false, []⟩ ir (RetK rs K) (initT args) [] h) : ACalls Pg fn_slices_breakPatternsOrdered_int args h K :=
  ACalls.of_comp follows Tryz.func90 comp hl a
theorem pure {args : List AVal} {v : AVal} (hl : args.length ≤ 65) (a : AW ⟨Pg, 0, 65, false, []⟩ ir (RetK rs fun e _ => e = .ret v) (initT args) [] nilH) : APure Pg fn_slices_breakPatternsOrdered_int args v :=
  APure.of_nil (enter 0 hl a)
end slices_breakPatternsOrdered_int

namespace slices_choosePivotOrdered_int
noncomputable def cfg : Cfg := { pure := pures, pcs := [], raw := [], cuts := [], draws := [], keep := [] }
@[simp] noncomputable def r0 (_ : Unit) : List Stp := [S 6 (.mv (.c (.int .i64 0))), S 7 (.mv (.c (.int .i64 0)))]
@[simp] noncomputable def r1 (_ : Unit) : List Stp := [S 13 (.mv (.t 2)), S 14 (.mv (.t 1)), S 15 (.bin .sub (.t 13) (.t 14)), S 8 (.mv (.t 15))]
@[simp] noncomputable def r2 (_ : Unit) : List Stp := [S 9 (.alloc [(.int .i64 0)])]
@[simp] noncomputable def r3 (_ : Unit) : List Stp := [S 16 (.mv (.t 1)), S 17 (.mv (.t 8)), S 18 (.bin .quo (.t 17) (.c (.int .i64 4))), S 19 (.bin .mul (.t 18) (.c (.int .i64 1))), S 20 (.bin .add (.t 16) (.t 19)), S 10 (.mv (.t 20))]
@[simp] noncomputable def r4 (_ : Unit) : List Stp := [S 21 (.mv (.t 1)), S 22 (.mv (.t 8)), S 23 (.bin .quo (.t 22) (.c (.int .i64 4))), S 24 (.bin .mul (.t 23) (.c (.int .i64 2))), S 25 (.bin .add (.t 21) (.t 24)), S 11 (.mv (.t 25))]
@[simp] noncomputable def r5 (_ : Unit) : List Stp := [S 26 (.mv (.t 1)), S 27 (.mv (.t 8)), S 28 (.bin .quo (.t 27) (.c (.int .i64 4))), S 29 (.bin .mul (.t 28) (.c (.int .i64 3))), S 30 (.bin .add (.t 26) (.t 29)), S 12 (.mv (.t 30))]
@[simp] noncomputable def r6 (_ : Unit) : List Stp := [S 31 (.mv (.t 8)), S 32 (.bin .geq (.t 31) (.c (.int .i64 8)))]
@[simp] noncomputable def r7 (_ : Unit) : List Stp := [S 33 (.mv (.t 8)), S 34 (.bin .geq (.t 33) (.c (.int .i64 50)))]
@[simp] noncomputable def r8 (_ : Unit) : List Stp := [S 35 (.mv (.t 0)), S 36 (.mv (.t 10)), S 37 (.call (.c (.func (.func fn_slices_medianAdjacentOrdered_int) [] [])) [(.t 35), (.t 36), (.t 9)]), S 10 (.mv (.t 37))]
@[simp] noncomputable def r9 (_ : Unit) : List Stp := [S 38 (.mv (.t 0)), S 39 (.mv (.t 11)), S 40 (.call (.c (.func (.func fn_slices_medianAdjacentOrdered_int) [] [])) [(.t 38), (.t 39), (.t 9)]), S 11 (.mv (.t 40))]
@[simp] noncomputable def r10 (_ : Unit) : List Stp := [S 41 (.mv (.t 0)), S 42 (.mv (.t 12)), S 43 (.call (.c (.func (.func fn_slices_medianAdjacentOrdered_int) [] [])) [(.t 41), (.t 42), (.t 9)]), S 12 (.mv (.t 43))]
@[simp] noncomputable def r11 (_ : Unit) : List Stp := [S 44 (.mv (.t 0)), S 45 (.mv (.t 10)), S 46 (.mv (.t 11)), S 47 (.mv (.t 12)), S 48 (.call (.c (.func (.func fn_slices_medianOrdered_int) [] [])) [(.t 44), (.t 45), (.t 46), (.t 47), (.t 9)]), S 11 (.mv (.t 48))]
@[simp] noncomputable def r12 (_ : Unit) : List Stp := [S 49 (.load false 1 (.t 9))]
@[simp] noncomputable def r14 (_ : Unit) : List Stp := [S 52 (.bin .eql (.t 49) (.c (.int .i64 0))), S 51 (.mv (.t 52))]
@[simp] noncomputable def r15 (_ : Unit) : List Stp := [S 53 (.mv (.t 11)), S 6 (.mv (.t 53)), S 7 (.mv (.c (.int .i64 1)))]
@[simp] noncomputable def r16 (_ : Unit) : List Stp := [S 55 (.bin .eql (.t 49) (.c (.int .i64 12))), S 54 (.mv (.t 55))]
@[simp] noncomputable def r17 (_ : Unit) : List Stp := [S 56 (.mv (.t 11)), S 6 (.mv (.t 56)), S 7 (.mv (.c (.int .i64 2)))]
@[simp] noncomputable def r13 (_ : Unit) : List Stp := [S 50 (.mv (.t 11)), S 6 (.mv (.t 50)), S 7 (.mv (.c (.int .i64 0)))]
@[simp] noncomputable def ir : IR := (.seq (.ops r0) (.seq (.ops r1) (.seq (.ops r2) (.seq (.ops r3) (.seq (.ops r4) (.seq (.ops r5) (.seq (.seq (.ops r6) (.cond (.t 32) (.seq (.seq (.ops r7) (.cond (.t 34) (.seq (.ops r8) (.seq (.ops r9) (.ops r10))) .skip)) (.ops r11)) .skip)) (.seq (.ops r12) (.block 0 (.seq (.ops r14) (.cond (.t 51) (.seq (.ops r15) .ret) (.seq (.ops r16) (.cond (.t 54) (.seq (.ops r17) .ret) (.seq (.ops r13) .ret))))))))))))))
@[simp] noncomputable def rs : List RV := [.tmp 6, .tmp 7]
theorem comp : compF Pg cfg Tryz.f91 = some (ir, rs, 57) := by kernel_rfl
theorem enter {args : List AVal} {h : Heap} {K : AEnd → Heap → Prop} (F : Nat) (hl : args.length ≤ 57) (a : AW ⟨Pg, F, 57, false, []⟩ ir (RetK rs K) (initT args) [] h) : ACalls Pg fn_slices_choosePivotOrdered_int args h K :=
  ACalls.of_comp follows Tryz.func91 comp hl a
theorem pure {args : List AVal} {v : AVal} (hl : args.length ≤ 57) (a : AW ⟨Pg, 0, 57, false, []⟩ ir (RetK rs fun e _ => e = .ret v) (initT args) [] nilH) : APure Pg fn_slices_choosePivotOrdered_int args v :=
  APure.of_nil (enter 0 hl a)
end slices_choosePivotOrdered_int

namespace slices_reverseRangeOrdered_int
noncomputable def cfg : Cfg := { pure := pures, pcs := [], raw := [], cuts := [], draws := [(3, [⟨0, false, [], []⟩, ⟨1, false, [], []⟩, ⟨2, false, [], []⟩, ⟨3, false, [], []⟩, ⟨4, false, [], []⟩, ⟨5, false, [], []⟩, ⟨6, false, [], []⟩, ⟨8, false, [], []⟩, ⟨9, false, [], []⟩, ⟨10, false, [], []⟩, ⟨7, false, [], []⟩, ⟨11, false, [], []⟩, ⟨12, false, [], []⟩, ⟨13, false, [], []⟩, ⟨14, false, [], []⟩, ⟨15, false, [], []⟩])], keep := [] }
@[simp] noncomputable def r0 (_ : Unit) : List Stp := [S 8 (.mv (.t 1)), S 6 (.mv (.t 8))]
@[simp] noncomputable def r1 (_ : Unit) : List Stp := [S 9 (.mv (.t 2)), S 10 (.bin .sub (.t 9) (.c (.int .i64 1))), S 7 (.mv (.t 10))]
@[simp] noncomputable def r2 (_ : Unit) : List Stp := [S 11 (.mv (.t 6)), S 12 (.mv (.t 7)), S 13 (.bin .lss (.t 11) (.t 12))]
@[simp] noncomputable def r3 (_ : Unit) : List Stp := [S 14 (.mv (.t 0)), S 15 (.mv (.t 6)), S 16 (.mv (.t 0)), S 17 (.mv (.t 7)), S 18 (.mv (.t 0)), S 19 (.mv (.t 7)), S 20 (.ixS 1 (.t 18) (.t 19)), S 22 (.mv (.t 0)), S 23 (.mv (.t 6)), S 24 (.ixS 1 (.t 22) (.t 23)), S 21 (.load false 1 (.t 20)), S 25 (.load false 1 (.t 24)), S 26 (.ixS 1 (.t 14) (.t 15)), SN (.store 1 (.t 26) (.t 21)), S 27 (.ixS 1 (.t 16) (.t 17)), SN (.store 1 (.t 27) (.t 25))]
@[simp] noncomputable def r4 (_ : Unit) : List Stp := [S 28 (.mv (.t 6)), S 29 (.bin .add (.t 28) (.c (.int .i64 1))), S 6 (.mv (.t 29))]
@[simp] noncomputable def r5 (_ : Unit) : List Stp := [S 30 (.mv (.t 7)), S 31 (.bin .sub (.t 30) (.c (.int .i64 1))), S 7 (.mv (.t 31))]
@[simp] noncomputable def ir : IR := (.seq (.ops r0) (.seq (.ops r1) (.block 0 (.loop (.seq (.seq (.ops r2) (.cond (.t 13) .skip (.exit 0))) (.block 1 (.seq (.ops r3) (.seq (.ops r4) (.ops r5)))))))))
@[simp] noncomputable def rs : List RV := []
theorem comp : compF Pg cfg Tryz.f92 = some (ir, rs, 32) := by kernel_rfl
theorem enter {args : List AVal} {h : Heap} {K : AEnd → Heap → Prop} (F : Nat) (hl : args.length ≤ 32) (a : AW ⟨Pg, F, 32, false, []⟩ ir (RetK rs K) (initT args) [] h) : ACalls Pg fn_slices_reverseRangeOrdered_int args h K :=
  ACalls.of_comp follows Tryz.func92 comp hl a
theorem pure {args : List AVal} {v : AVal} (hl : args.length ≤ 32) (a : AW ⟨Pg, 0, 32, false, []⟩ ir (RetK rs fun e _ => e = .ret v) (initT args) [] nilH) : APure Pg fn_slices_reverseRangeOrdered_int args v :=
  APure.of_nil (enter 0 hl a)
end slices_reverseRangeOrdered_int

namespace slices_partialInsertionSortOrdered_int
noncomputable def cfg : Cfg := { pure := pures, pcs := [], raw := [], cuts := [], draws := [(5, [⟨0, false, [], []⟩, ⟨1, false, [], []⟩, ⟨2, false, [], []⟩, ⟨3, false, [], []⟩, ⟨4, false, [], []⟩, ⟨5, false, [], []⟩, ⟨6, false, [], []⟩, ⟨8, false, [], []⟩, ⟨9, false, [], []⟩, ⟨10, false, [], []⟩, ⟨11, false, [], []⟩, ⟨7, false, [], []⟩, ⟨12, false, [], []⟩, ⟨13, false, [], []⟩, ⟨14, false, [], []⟩, ⟨15, false, [], []⟩]), (11, [⟨0, false, [], []⟩, ⟨1, false, [], []⟩, ⟨2, false, [], []⟩, ⟨3, false, [], []⟩, ⟨4, false, [], []⟩, ⟨5, false, [], []⟩, ⟨6, false, [], []⟩, ⟨7, false, [], []⟩, ⟨8, false, [], []⟩, ⟨10, false, [], []⟩, ⟨11, false, [], []⟩, ⟨12, false, [], []⟩, ⟨9, false, [], []⟩, ⟨13, false, [], []⟩, ⟨14, false, [], []⟩, ⟨15, false, [], []⟩, ⟨16, false, [], []⟩, ⟨17, false, [], []⟩]), (16, [⟨0, false, [], []⟩, ⟨1, false, [], []⟩, ⟨2, false, [], []⟩, ⟨4, false, [], []⟩, ⟨5, false, [], []⟩, ⟨6, false, [], []⟩, ⟨7, false, [], []⟩, ⟨3, false, [], []⟩, ⟨8, false, [], []⟩, ⟨9, false, [], []⟩, ⟨10, false, [], []⟩]), (17, [⟨0, false, [], []⟩, ⟨1, false, [], []⟩, ⟨2, false, [], []⟩, ⟨3, false, [], []⟩, ⟨4, false, [], []⟩, ⟨5, false, [], []⟩, ⟨6, false, [], []⟩, ⟨7, false, [], []⟩, ⟨8, false, [], []⟩, ⟨10, false, [], []⟩, ⟨11, false, [], []⟩, ⟨12, false, [], []⟩, ⟨9, false, [], []⟩, ⟨13, false, [], []⟩, ⟨14, false, [], []⟩, ⟨15, false, [], []⟩, ⟨16, false, [], []⟩, ⟨17, false, [], []⟩]), (22, [⟨0, false, [], []⟩, ⟨1, false, [], []⟩, ⟨2, false, [], []⟩, ⟨4, false, [], []⟩, ⟨5, false, [], []⟩, ⟨6, false, [], []⟩, ⟨7, false, [], []⟩, ⟨3, false, [], []⟩, ⟨8, false, [], []⟩, ⟨9, false, [], []⟩, ⟨10, false, [], []⟩]), (23, [⟨0, false, [], []⟩, ⟨1, false, [], []⟩, ⟨2, false, [], []⟩, ⟨3, false, [], []⟩, ⟨4, false, [], []⟩, ⟨5, false, [], []⟩, ⟨6, false, [], []⟩, ⟨7, false, [], []⟩, ⟨8, false, [], []⟩, ⟨10, false, [], []⟩, ⟨11, false, [], []⟩, ⟨12, false, [], []⟩, ⟨9, false, [], []⟩, ⟨13, false, [], []⟩, ⟨14, false, [], []⟩, ⟨15, false, [], []⟩, ⟨16, false, [], []⟩, ⟨17, false, [], []⟩])], keep := [] }
@[simp] noncomputable def r0 (_ : Unit) : List Stp := [S 6 (.mv (.c (.bool false)))]
@[simp] noncomputable def r1 (_ : Unit) : List Stp := [S 11 (.mv (.t 1)), S 12 (.bin .add (.t 11) (.c (.int .i64 1))), S 7 (.mv (.t 12))]
@[simp] noncomputable def r2 (_ : Unit) : List Stp := [S 8 (.mv (.c (.int .i64 0)))]
@[simp] noncomputable def r3 (_ : Unit) : List Stp := [S 13 (.mv (.t 8)), S 14 (.bin .lss (.t 13) (.c (.int .i64 5)))]
@[simp] noncomputable def r5 (_ : Unit) : List Stp := [S 17 (.mv (.t 7)), S 18 (.mv (.t 2)), S 19 (.bin .lss (.t 17) (.t 18)), S 20 (.mv (.t 19)), SG 21 20 true (.mv (.t 0)), SG 22 20 true (.mv (.t 7)), SG 23 20 true (.ixS 1 (.t 21) (.t 22)), SG 25 20 true (.mv (.t 0)), SG 26 20 true (.mv (.t 7)), SG 27 20 true (.bin .sub (.t 26) (.c (.int .i64 1))), SG 28 20 true (.ixS 1 (.t 25) (.t 27)), SG 24 20 true (.load false 1 (.t 23)), SG 29 20 true (.load false 1 (.t 28)), SG 30 20 true (.call (.c (.func (.func fn_cmp_Less_int) [] [])) [(.t 24), (.t 29)]), SG 31 20 true (.un .not (.t 30)), S 32 (.pick (.t 20) (.t 31) (.c (.bool false)))]
@[simp] noncomputable def r6 (_ : Unit) : List Stp := [S 33 (.mv (.t 7)), S 34 (.bin .add (.t 33) (.c (.int .i64 1))), S 7 (.mv (.t 34))]
@[simp] noncomputable def r7 (_ : Unit) : List Stp := [S 35 (.mv (.t 7)), S 36 (.mv (.t 2)), S 37 (.bin .eql (.t 35) (.t 36))]
@[simp] noncomputable def r8 (_ : Unit) : List Stp := [S 6 (.mv (.c (.bool true)))]
@[simp] noncomputable def r9 (_ : Unit) : List Stp := [S 38 (.mv (.t 2)), S 39 (.mv (.t 1)), S 40 (.bin .sub (.t 38) (.t 39)), S 41 (.bin .lss (.t 40) (.c (.int .i64 50)))]
@[simp] noncomputable def r10 (_ : Unit) : List Stp := [S 6 (.mv (.c (.bool false)))]
@[simp] noncomputable def r11 (_ : Unit) : List Stp := [S 42 (.mv (.t 0)), S 43 (.mv (.t 7)), S 44 (.mv (.t 0)), S 45 (.mv (.t 7)), S 46 (.bin .sub (.t 45) (.c (.int .i64 1))), S 47 (.mv (.t 0)), S 48 (.mv (.t 7)), S 49 (.bin .sub (.t 48) (.c (.int .i64 1))), S 50 (.ixS 1 (.t 47) (.t 49)), S 52 (.mv (.t 0)), S 53 (.mv (.t 7)), S 54 (.ixS 1 (.t 52) (.t 53)), S 51 (.load false 1 (.t 50)), S 55 (.load false 1 (.t 54)), S 56 (.ixS 1 (.t 42) (.t 43)), SN (.store 1 (.t 56) (.t 51)), S 57 (.ixS 1 (.t 44) (.t 46)), SN (.store 1 (.t 57) (.t 55))]
@[simp] noncomputable def r12 (_ : Unit) : List Stp := [S 58 (.mv (.t 7)), S 59 (.mv (.t 1)), S 60 (.bin .sub (.t 58) (.t 59)), S 61 (.bin .geq (.t 60) (.c (.int .i64 2)))]
@[simp] noncomputable def r13 (_ : Unit) : List Stp := [S 62 (.mv (.t 7)), S 63 (.bin .sub (.t 62) (.c (.int .i64 1))), S 9 (.mv (.t 63))]
@[simp] noncomputable def r14 (_ : Unit) : List Stp := [S 64 (.mv (.t 9)), S 65 (.bin .geq (.t 64) (.c (.int .i64 1)))]
@[simp] noncomputable def r16 (_ : Unit) : List Stp := [S 68 (.mv (.t 0)), S 69 (.mv (.t 9)), S 70 (.ixS 1 (.t 68) (.t 69)), S 72 (.mv (.t 0)), S 73 (.mv (.t 9)), S 74 (.bin .sub (.t 73) (.c (.int .i64 1))), S 75 (.ixS 1 (.t 72) (.t 74)), S 71 (.load false 1 (.t 70)), S 76 (.load false 1 (.t 75)), S 77 (.call (.c (.func (.func fn_cmp_Less_int) [] [])) [(.t 71), (.t 76)]), S 78 (.un .not (.t 77))]
@[simp] noncomputable def r17 (_ : Unit) : List Stp := [S 79 (.mv (.t 0)), S 80 (.mv (.t 9)), S 81 (.mv (.t 0)), S 82 (.mv (.t 9)), S 83 (.bin .sub (.t 82) (.c (.int .i64 1))), S 84 (.mv (.t 0)), S 85 (.mv (.t 9)), S 86 (.bin .sub (.t 85) (.c (.int .i64 1))), S 87 (.ixS 1 (.t 84) (.t 86)), S 89 (.mv (.t 0)), S 90 (.mv (.t 9)), S 91 (.ixS 1 (.t 89) (.t 90)), S 88 (.load false 1 (.t 87)), S 92 (.load false 1 (.t 91)), S 93 (.ixS 1 (.t 79) (.t 80)), SN (.store 1 (.t 93) (.t 88)), S 94 (.ixS 1 (.t 81) (.t 83)), SN (.store 1 (.t 94) (.t 92))]
@[simp] noncomputable def r15 (_ : Unit) : List Stp := [S 66 (.mv (.t 9)), S 67 (.bin .sub (.t 66) (.c (.int .i64 1))), S 9 (.mv (.t 67))]
@[simp] noncomputable def r18 (_ : Unit) : List Stp := [S 95 (.mv (.t 2)), S 96 (.mv (.t 7)), S 97 (.bin .sub (.t 95) (.t 96)), S 98 (.bin .geq (.t 97) (.c (.int .i64 2)))]
@[simp] noncomputable def r19 (_ : Unit) : List Stp := [S 99 (.mv (.t 7)), S 100 (.bin .add (.t 99) (.c (.int .i64 1))), S 10 (.mv (.t 100))]
@[simp] noncomputable def r20 (_ : Unit) : List Stp := [S 101 (.mv (.t 10)), S 102 (.mv (.t 2)), S 103 (.bin .lss (.t 101) (.t 102))]
@[simp] noncomputable def r22 (_ : Unit) : List Stp := [S 106 (.mv (.t 0)), S 107 (.mv (.t 10)), S 108 (.ixS 1 (.t 106) (.t 107)), S 110 (.mv (.t 0)), S 111 (.mv (.t 10)), S 112 (.bin .sub (.t 111) (.c (.int .i64 1))), S 113 (.ixS 1 (.t 110) (.t 112)), S 109 (.load false 1 (.t 108)), S 114 (.load false 1 (.t 113)), S 115 (.call (.c (.func (.func fn_cmp_Less_int) [] [])) [(.t 109), (.t 114)]), S 116 (.un .not (.t 115))]
@[simp] noncomputable def r23 (_ : Unit) : List Stp := [S 117 (.mv (.t 0)), S 118 (.mv (.t 10)), S 119 (.mv (.t 0)), S 120 (.mv (.t 10)), S 121 (.bin .sub (.t 120) (.c (.int .i64 1))), S 122 (.mv (.t 0)), S 123 (.mv (.t 10)), S 124 (.bin .sub (.t 123) (.c (.int .i64 1))), S 125 (.ixS 1 (.t 122) (.t 124)), S 127 (.mv (.t 0)), S 128 (.mv (.t 10)), S 129 (.ixS 1 (.t 127) (.t 128)), S 126 (.load false 1 (.t 125)), S 130 (.load false 1 (.t 129)), S 131 (.ixS 1 (.t 117) (.t 118)), SN (.store 1 (.t 131) (.t 126)), S 132 (.ixS 1 (.t 119) (.t 121)), SN (.store 1 (.t 132) (.t 130))]
@[simp] noncomputable def r21 (_ : Unit) : List Stp := [S 104 (.mv (.t 10)), S 105 (.bin .add (.t 104) (.c (.int .i64 1))), S 10 (.mv (.t 105))]
@[simp] noncomputable def r4 (_ : Unit) : List Stp := [S 15 (.mv (.t 8)), S 16 (.bin .add (.t 15) (.c (.int .i64 1))), S 8 (.mv (.t 16))]
@[simp] noncomputable def r24 (_ : Unit) : List Stp := [S 6 (.mv (.c (.bool false)))]
@[simp] noncomputable def ir : IR := (.seq (.ops r0) (.seq (.ops r1) (.seq (.seq (.ops r2) (.block 0 (.loop (.seq (.seq (.ops r3) (.cond (.t 14) .skip (.exit 0))) (.seq (.block 1 (.seq (.block 2 (.loop (.seq (.seq (.ops r5) (.cond (.t 32) .skip (.exit 2))) (.block 3 (.ops r6))))) (.seq (.seq (.ops r7) (.cond (.t 37) (.seq (.ops r8) .ret) .skip)) (.seq (.seq (.ops r9) (.cond (.t 41) (.seq (.ops r10) .ret) .skip)) (.seq (.ops r11) (.seq (.seq (.ops r12) (.cond (.t 61) (.seq (.ops r13) (.block 4 (.loop (.seq (.seq (.ops r14) (.cond (.t 65) .skip (.exit 4))) (.seq (.block 5 (.seq (.seq (.ops r16) (.cond (.t 78) (.exit 4) .skip)) (.ops r17))) (.ops r15)))))) .skip)) (.seq (.ops r18) (.cond (.t 98) (.seq (.ops r19) (.block 6 (.loop (.seq (.seq (.ops r20) (.cond (.t 103) .skip (.exit 6))) (.seq (.block 7 (.seq (.seq (.ops r22) (.cond (.t 116) (.exit 6) .skip)) (.ops r23))) (.ops r21)))))) .skip)))))))) (.ops r4)))))) (.seq (.ops r24) .ret))))
@[simp] noncomputable def rs : List RV := [.tmp 6]
theorem comp : compF Pg cfg Tryz.f93 = some (ir, rs, 133) := by kernel_rfl
theorem enter {args : List AVal} {h : Heap} {K : AEnd → Heap → Prop} (F : Nat) (hl : args.length ≤ 133) (a : AW ⟨Pg, F, 133, false, []⟩ ir (RetK rs K) (initT args) [] h) : ACalls Pg fn_slices_partialInsertionSortOrdered_int args h K :=
  ACalls.of_comp follows Tryz.func93 comp hl a
theorem pure {args : List AVal} {v : AVal} (hl : args.length ≤ 133) (a : AW ⟨Pg, 0, 133, false, []⟩ ir (RetK rs fun e _ => e = .ret v) (initT args) [] nilH) : APure Pg fn_slices_partialInsertionSortOrdered_int args v :=
  APure.of_nil (enter 0 hl a)
end slices_partialInsertionSortOrdered_int

namespace cmp_Less_int
noncomputable def cfg : Cfg := { pure := pures, pcs := [], raw := [], cuts := [], draws := [], keep := [] }
@[simp] noncomputable def r0 (_ : Unit) : List Stp := [S 4 (.mv (.c (.bool false)))]
@[simp] noncomputable def r1 (_ : Unit) : List Stp := [S 5 (.mv (.t 0)), S 6 (.call (.c (.func (.func fn_cmp_isNaN_int) [] [])) [(.t 5)]), S 7 (.mv (.t 6)), SG 8 7 true (.mv (.t 1)), SG 9 7 true (.call (.c (.func (.func fn_cmp_isNaN_int) [] [])) [(.t 8)]), SG 10 7 true (.un .not (.t 9)), S 11 (.pick (.t 7) (.t 10) (.c (.bool false))), S 12 (.mv (.t 11)), SG 13 12 false (.mv (.t 0)), SG 14 12 false (.mv (.t 1)), SG 15 12 false (.bin .lss (.t 13) (.t 14)), S 16 (.pick (.t 12) (.c (.bool true)) (.t 15)), S 4 (.mv (.t 16))]
@[simp] noncomputable def ir : IR := (.seq (.ops r0) (.seq (.ops r1) .ret))
@[simp] noncomputable def rs : List RV := [.tmp 4]
theorem comp : compF Pg cfg Tryz.f94 = some (ir, rs, 17) := by kernel_rfl
theorem enter {args : List AVal} {h : Heap} {K : AEnd → Heap → Prop} (F : Nat) (hl : args.length ≤ 17) (a : AW ⟨Pg, F, 17, false, []⟩ ir (RetK rs K) (initT args) [] h) : ACalls Pg fn_cmp_Less_int args h K :=
  ACalls.of_comp follows Tryz.func94 comp hl a
theorem pure {args : List AVal} {v : AVal} (hl : args.length ≤ 17) (a : AW ⟨Pg, 0, 17, false, []⟩ ir (RetK rs fun e _ => e = .ret v) (initT args) [] nilH) : APure Pg fn_cmp_Less_int args v :=
  APure.of_nil (enter 0 hl a)
end cmp_Less_int

namespace slices_partitionEqualOrdered_int
noncomputable def cfg : Cfg := { pure := pures, pcs := [], raw := [], cuts := [], draws := [(1, [⟨0, false, [], []⟩, ⟨1, false, [], []⟩, ⟨2, false, [], []⟩, ⟨3, false, [], []⟩, ⟨4, false, [], []⟩, ⟨5, false, [], []⟩, ⟨6, false, [], []⟩, ⟨8, false, [], []⟩, ⟨9, false, [], []⟩, ⟨10, false, [], []⟩, ⟨7, false, [], []⟩, ⟨11, false, [], []⟩, ⟨12, false, [], []⟩, ⟨13, false, [], []⟩, ⟨14, false, [], []⟩, ⟨15, false, [], []⟩]), (3, [⟨0, false, [], []⟩, ⟨1, false, [], []⟩, ⟨2, false, [], []⟩, ⟨3, false, [], []⟩, ⟨4, false, [], []⟩, ⟨5, false, [], []⟩, ⟨6, false, [], []⟩, ⟨8, false, [], []⟩, ⟨9, false, [], []⟩, ⟨10, false, [], []⟩, ⟨7, false, [], []⟩, ⟨11, false, [], []⟩, ⟨12, false, [], []⟩, ⟨13, false, [], []⟩, ⟨14, false, [], []⟩]), (5, [⟨0, false, [], []⟩, ⟨1, false, [], []⟩, ⟨2, false, [], []⟩, ⟨3, false, [], []⟩, ⟨4, false, [], []⟩, ⟨5, false, [], []⟩, ⟨6, false, [], []⟩, ⟨8, false, [], []⟩, ⟨9, false, [], []⟩, ⟨10, false, [], []⟩, ⟨7, false, [], []⟩, ⟨11, false, [], []⟩, ⟨12, false, [], []⟩, ⟨13, false, [], []⟩]), (8, [⟨0, false, [], []⟩, ⟨1, false, [], []⟩, ⟨2, false, [], []⟩, ⟨3, false, [], []⟩, ⟨4, false, [], []⟩, ⟨5, false, [], []⟩, ⟨6, false, [], []⟩, ⟨8, false, [], []⟩, ⟨9, false, [], []⟩, ⟨10, false, [], []⟩, ⟨7, false, [], []⟩, ⟨11, false, [], []⟩, ⟨12, false, [], []⟩, ⟨13, false, [], []⟩, ⟨14, false, [], []⟩, ⟨15, false, [], []⟩])], keep := [] }
@[simp] noncomputable def r0 (_ : Unit) : List Stp := [S 8 (.mv (.c (.int .i64 0)))]
@[simp] noncomputable def r1 (_ : Unit) : List Stp := [S 11 (.mv (.t 0)), S 12 (.mv (.t 1)), S 13 (.mv (.t 0)), S 14 (.mv (.t 3)), S 15 (.mv (.t 0)), S 16 (.mv (.t 3)), S 17 (.ixS 1 (.t 15) (.t 16)), S 19 (.mv (.t 0)), S 20 (.mv (.t 1)), S 21 (.ixS 1 (.t 19) (.t 20)), S 18 (.load false 1 (.t 17)), S 22 (.load false 1 (.t 21)), S 23 (.ixS 1 (.t 11) (.t 12)), SN (.store 1 (.t 23) (.t 18)), S 24 (.ixS 1 (.t 13) (.t 14)), SN (.store 1 (.t 24) (.t 22))]
@[simp] noncomputable def r2 (_ : Unit) : List Stp := [S 25 (.mv (.t 1)), S 26 (.bin .add (.t 25) (.c (.int .i64 1))), S 27 (.mv (.t 2)), S 28 (.bin .sub (.t 27) (.c (.int .i64 1))), S 9 (.mv (.t 26)), S 10 (.mv (.t 28))]
@[simp] noncomputable def r3 (_ : Unit) : List Stp := [S 29 (.mv (.t 9)), S 30 (.mv (.t 10)), S 31 (.bin .leq (.t 29) (.t 30)), S 32 (.mv (.t 31)), SG 33 32 true (.mv (.t 0)), SG 34 32 true (.mv (.t 1)), SG 35 32 true (.ixS 1 (.t 33) (.t 34)), SG 37 32 true (.mv (.t 0)), SG 38 32 true (.mv (.t 9)), SG 39 32 true (.ixS 1 (.t 37) (.t 38)), SG 36 32 true (.load false 1 (.t 35)), SG 40 32 true (.load false 1 (.t 39)), SG 41 32 true (.call (.c (.func (.func fn_cmp_Less_int) [] [])) [(.t 36), (.t 40)]), SG 42 32 true (.un .not (.t 41)), S 43 (.pick (.t 32) (.t 42) (.c (.bool false)))]
@[simp] noncomputable def r4 (_ : Unit) : List Stp := [S 44 (.mv (.t 9)), S 45 (.bin .add (.t 44) (.c (.int .i64 1))), S 9 (.mv (.t 45))]
@[simp] noncomputable def r5 (_ : Unit) : List Stp := [S 46 (.mv (.t 9)), S 47 (.mv (.t 10)), S 48 (.bin .leq (.t 46) (.t 47)), S 49 (.mv (.t 48)), SG 50 49 true (.mv (.t 0)), SG 51 49 true (.mv (.t 1)), SG 52 49 true (.ixS 1 (.t 50) (.t 51)), SG 54 49 true (.mv (.t 0)), SG 55 49 true (.mv (.t 10)), SG 56 49 true (.ixS 1 (.t 54) (.t 55)), SG 53 49 true (.load false 1 (.t 52)), SG 57 49 true (.load false 1 (.t 56)), SG 58 49 true (.call (.c (.func (.func fn_cmp_Less_int) [] [])) [(.t 53), (.t 57)]), S 59 (.pick (.t 49) (.t 58) (.c (.bool false)))]
@[simp] noncomputable def r6 (_ : Unit) : List Stp := [S 60 (.mv (.t 10)), S 61 (.bin .sub (.t 60) (.c (.int .i64 1))), S 10 (.mv (.t 61))]
@[simp] noncomputable def r7 (_ : Unit) : List Stp := [S 62 (.mv (.t 9)), S 63 (.mv (.t 10)), S 64 (.bin .gtr (.t 62) (.t 63))]
@[simp] noncomputable def r8 (_ : Unit) : List Stp := [S 65 (.mv (.t 0)), S 66 (.mv (.t 9)), S 67 (.mv (.t 0)), S 68 (.mv (.t 10)), S 69 (.mv (.t 0)), S 70 (.mv (.t 10)), S 71 (.ixS 1 (.t 69) (.t 70)), S 73 (.mv (.t 0)), S 74 (.mv (.t 9)), S 75 (.ixS 1 (.t 73) (.t 74)), S 72 (.load false 1 (.t 71)), S 76 (.load false 1 (.t 75)), S 77 (.ixS 1 (.t 65) (.t 66)), SN (.store 1 (.t 77) (.t 72)), S 78 (.ixS 1 (.t 67) (.t 68)), SN (.store 1 (.t 78) (.t 76))]
@[simp] noncomputable def r9 (_ : Unit) : List Stp := [S 79 (.mv (.t 9)), S 80 (.bin .add (.t 79) (.c (.int .i64 1))), S 9 (.mv (.t 80))]
@[simp] noncomputable def r10 (_ : Unit) : List Stp := [S 81 (.mv (.t 10)), S 82 (.bin .sub (.t 81) (.c (.int .i64 1))), S 10 (.mv (.t 82))]
@[simp] noncomputable def r11 (_ : Unit) : List Stp := [S 83 (.mv (.t 9)), S 8 (.mv (.t 83))]
@[simp] noncomputable def ir : IR := (.seq (.ops r0) (.seq (.ops r1) (.seq (.ops r2) (.seq (.block 0 (.loop (.block 1 (.seq (.block 2 (.loop (.seq (.seq (.ops r3) (.cond (.t 43) .skip (.exit 2))) (.block 3 (.ops r4))))) (.seq (.block 4 (.loop (.seq (.seq (.ops r5) (.cond (.t 59) .skip (.exit 4))) (.block 5 (.ops r6))))) (.seq (.seq (.ops r7) (.cond (.t 64) (.exit 0) .skip)) (.seq (.ops r8) (.seq (.ops r9) (.ops r10))))))))) (.seq (.ops r11) .ret)))))
@[simp] noncomputable def rs : List RV := [.tmp 8]
theorem comp : compF Pg cfg Tryz.f95 = some (ir, rs, 84) := by kernel_rfl
theorem enter {args : List AVal} {h : Heap} {K : AEnd → Heap → Prop} (F : Nat) (hl : args.length ≤ 84) (a : AW ⟨Pg, F, 84, false, []⟩ ir (RetK rs K) (initT args) [] h) : ACalls Pg fn_slices_partitionEqualOrdered_int args h K :=
  ACalls.of_comp follows Tryz.func95 comp hl a
theorem pure {args : List AVal} {v : AVal} (hl : args.length ≤ 84) (a : AW ⟨Pg, 0, 84, false, []⟩ ir (RetK rs fun e _ => e = .ret v) (initT args) [] nilH) : APure Pg fn_slices_partitionEqualOrdered_int args v :=
  APure.of_nil (enter 0 hl a)
end slices_partitionEqualOrdered_int

namespace slices_partitionOrdered_int
noncomputable def cfg : Cfg := { pure := pures, pcs := [], raw := [], cuts := [], draws := [(1, [⟨0, false, [], []⟩, ⟨1, false, [], []⟩, ⟨2, false, [], []⟩, ⟨3, false, [], []⟩, ⟨4, false, [], []⟩, ⟨5, false, [], []⟩, ⟨6, false, [], []⟩, ⟨8, false, [], []⟩, ⟨9, false, [], []⟩, ⟨10, false, [], []⟩, ⟨7, false, [], []⟩, ⟨11, false, [], []⟩, ⟨12, false, [], []⟩, ⟨13, false, [], []⟩, ⟨14, false, [], []⟩, ⟨15, false, [], []⟩]), (3, [⟨0, false, [], []⟩, ⟨1, false, [], []⟩, ⟨2, false, [], []⟩, ⟨3, false, [], []⟩, ⟨4, false, [], []⟩, ⟨5, false, [], []⟩, ⟨6, false, [], []⟩, ⟨8, false, [], []⟩, ⟨9, false, [], []⟩, ⟨10, false, [], []⟩, ⟨7, false, [], []⟩, ⟨11, false, [], []⟩, ⟨12, false, [], []⟩, ⟨13, false, [], []⟩]), (5, [⟨0, false, [], []⟩, ⟨1, false, [], []⟩, ⟨2, false, [], []⟩, ⟨3, false, [], []⟩, ⟨4, false, [], []⟩, ⟨5, false, [], []⟩, ⟨6, false, [], []⟩, ⟨8, false, [], []⟩, ⟨9, false, [], []⟩, ⟨10, false, [], []⟩, ⟨7, false, [], []⟩, ⟨11, false, [], []⟩, ⟨12, false, [], []⟩, ⟨13, false, [], []⟩, ⟨14, false, [], []⟩]), (8, [⟨0, false, [], []⟩, ⟨1, false, [], []⟩, ⟨2, false, [], []⟩, ⟨3, false, [], []⟩, ⟨4, false, [], []⟩, ⟨5, false, [], []⟩, ⟨6, false, [], []⟩, ⟨8, false, [], []⟩, ⟨9, false, [], []⟩, ⟨10, false, [], []⟩, ⟨7, false, [], []⟩, ⟨11, false, [], []⟩, ⟨12, false, [], []⟩, ⟨13, false, [], []⟩, ⟨14, false, [], []⟩, ⟨15, false, [], []⟩]), (10, [⟨0, false, [], []⟩, ⟨1, false, [], []⟩, ⟨2, false, [], []⟩, ⟨3, false, [], []⟩, ⟨4, false, [], []⟩, ⟨5, false, [], []⟩, ⟨6, false, [], []⟩, ⟨8, false, [], []⟩, ⟨9, false, [], []⟩, ⟨10, false, [], []⟩, ⟨7, false, [], []⟩, ⟨11, false, [], []⟩, ⟨12, false, [], []⟩, ⟨13, false, [], []⟩, ⟨14, false, [], []⟩, ⟨15, false, [], []⟩]), (13, [⟨0, false, [], []⟩, ⟨1, false, [], []⟩, ⟨2, false, [], []⟩, ⟨3, false, [], []⟩, ⟨4, false, [], []⟩, ⟨5, false, [], []⟩, ⟨6, false, [], []⟩, ⟨8, false, [], []⟩, ⟨9, false, [], []⟩, ⟨10, false, [], []⟩, ⟨7, false, [], []⟩, ⟨11, false, [], []⟩, ⟨12, false, [], []⟩, ⟨13, false, [], []⟩]), (15, [⟨0, false, [], []⟩, ⟨1, false, [], []⟩, ⟨2, false, [], []⟩, ⟨3, false, [], []⟩, ⟨4, false, [], []⟩, ⟨5, false, [], []⟩, ⟨6, false, [], []⟩, ⟨8, false, [], []⟩, ⟨9, false, [], []⟩, ⟨10, false, [], []⟩, ⟨7, false, [], []⟩, ⟨11, false, [], []⟩, ⟨12, false, [], []⟩, ⟨13, false, [], []⟩, ⟨14, false, [], []⟩]), (18, [⟨0, false, [], []⟩, ⟨1, false, [], []⟩, ⟨2, false, [], []⟩, ⟨3, false, [], []⟩, ⟨4, false, [], []⟩, ⟨5, false, [], []⟩, ⟨6, false, [], []⟩, ⟨8, false, [], []⟩, ⟨9, false, [], []⟩, ⟨10, false, [], []⟩, ⟨7, false, [], []⟩, ⟨11, false, [], []⟩, ⟨12, false, [], []⟩, ⟨13, false, [], []⟩, ⟨14, false, [], []⟩, ⟨15, false, [], []⟩]), (21, [⟨0, false, [], []⟩, ⟨1, false, [], []⟩, ⟨2, false, [], []⟩, ⟨3, false, [], []⟩, ⟨4, false, [], []⟩, ⟨5, false, [], []⟩, ⟨6, false, [], []⟩, ⟨8, false, [], []⟩, ⟨9, false, [], []⟩, ⟨10, false, [], []⟩, ⟨7, false, [], []⟩, ⟨11, false, [], []⟩, ⟨12, false, [], []⟩, ⟨13, false, [], []⟩, ⟨14, false, [], []⟩, ⟨15, false, [], []⟩])], keep := [] }
@[simp] noncomputable def r0 (_ : Unit) : List Stp := [S 8 (.mv (.c (.int .i64 0))), S 9 (.mv (.c (.bool false)))]
@[simp] noncomputable def r1 (_ : Unit) : List Stp := [S 12 (.mv (.t 0)), S 13 (.mv (.t 1)), S 14 (.mv (.t 0)), S 15 (.mv (.t 3)), S 16 (.mv (.t 0)), S 17 (.mv (.t 3)), S 18 (.ixS 1 (.t 16) (.t 17)), S 20 (.mv (.t 0)), S 21 (.mv (.t 1)), S 22 (.ixS 1 (.t 20) (.t 21)), S 19 (.load false 1 (.t 18)), S 23 (.load false 1 (.t 22)), S 24 (.ixS 1 (.t 12) (.t 13)), SN (.store 1 (.t 24) (.t 19)), S 25 (.ixS 1 (.t 14) (.t 15)), SN (.store 1 (.t 25) (.t 23))]
@[simp] noncomputable def r2 (_ : Unit) : List Stp := [S 26 (.mv (.t 1)), S 27 (.bin .add (.t 26) (.c (.int .i64 1))), S 28 (.mv (.t 2)), S 29 (.bin .sub (.t 28) (.c (.int .i64 1))), S 10 (.mv (.t 27)), S 11 (.mv (.t 29))]
@[simp] noncomputable def r3 (_ : Unit) : List Stp := [S 30 (.mv (.t 10)), S 31 (.mv (.t 11)), S 32 (.bin .leq (.t 30) (.t 31)), S 33 (.mv (.t 32)), SG 34 33 true (.mv (.t 0)), SG 35 33 true (.mv (.t 10)), SG 36 33 true (.ixS 1 (.t 34) (.t 35)), SG 38 33 true (.mv (.t 0)), SG 39 33 true (.mv (.t 1)), SG 40 33 true (.ixS 1 (.t 38) (.t 39)), SG 37 33 true (.load false 1 (.t 36)), SG 41 33 true (.load false 1 (.t 40)), SG 42 33 true (.call (.c (.func (.func fn_cmp_Less_int) [] [])) [(.t 37), (.t 41)]), S 43 (.pick (.t 33) (.t 42) (.c (.bool false)))]
@[simp] noncomputable def r4 (_ : Unit) : List Stp := [S 44 (.mv (.t 10)), S 45 (.bin .add (.t 44) (.c (.int .i64 1))), S 10 (.mv (.t 45))]
@[simp] noncomputable def r5 (_ : Unit) : List Stp := [S 46 (.mv (.t 10)), S 47 (.mv (.t 11)), S 48 (.bin .leq (.t 46) (.t 47)), S 49 (.mv (.t 48)), SG 50 49 true (.mv (.t 0)), SG 51 49 true (.mv (.t 11)), SG 52 49 true (.ixS 1 (.t 50) (.t 51)), SG 54 49 true (.mv (.t 0)), SG 55 49 true (.mv (.t 1)), SG 56 49 true (.ixS 1 (.t 54) (.t 55)), SG 53 49 true (.load false 1 (.t 52)), SG 57 49 true (.load false 1 (.t 56)), SG 58 49 true (.call (.c (.func (.func fn_cmp_Less_int) [] [])) [(.t 53), (.t 57)]), SG 59 49 true (.un .not (.t 58)), S 60 (.pick (.t 49) (.t 59) (.c (.bool false)))]
@[simp] noncomputable def r6 (_ : Unit) : List Stp := [S 61 (.mv (.t 11)), S 62 (.bin .sub (.t 61) (.c (.int .i64 1))), S 11 (.mv (.t 62))]
@[simp] noncomputable def r7 (_ : Unit) : List Stp := [S 63 (.mv (.t 10)), S 64 (.mv (.t 11)), S 65 (.bin .gtr (.t 63) (.t 64))]
@[simp] noncomputable def r8 (_ : Unit) : List Stp := [S 66 (.mv (.t 0)), S 67 (.mv (.t 11)), S 68 (.mv (.t 0)), S 69 (.mv (.t 1)), S 70 (.mv (.t 0)), S 71 (.mv (.t 1)), S 72 (.ixS 1 (.t 70) (.t 71)), S 74 (.mv (.t 0)), S 75 (.mv (.t 11)), S 76 (.ixS 1 (.t 74) (.t 75)), S 73 (.load false 1 (.t 72)), S 77 (.load false 1 (.t 76)), S 78 (.ixS 1 (.t 66) (.t 67)), SN (.store 1 (.t 78) (.t 73)), S 79 (.ixS 1 (.t 68) (.t 69)), SN (.store 1 (.t 79) (.t 77))]
@[simp] noncomputable def r9 (_ : Unit) : List Stp := [S 80 (.mv (.t 11)), S 8 (.mv (.t 80)), S 9 (.mv (.c (.bool true)))]
@[simp] noncomputable def r10 (_ : Unit) : List Stp := [S 81 (.mv (.t 0)), S 82 (.mv (.t 10)), S 83 (.mv (.t 0)), S 84 (.mv (.t 11)), S 85 (.mv (.t 0)), S 86 (.mv (.t 11)), S 87 (.ixS 1 (.t 85) (.t 86)), S 89 (.mv (.t 0)), S 90 (.mv (.t 10)), S 91 (.ixS 1 (.t 89) (.t 90)), S 88 (.load false 1 (.t 87)), S 92 (.load false 1 (.t 91)), S 93 (.ixS 1 (.t 81) (.t 82)), SN (.store 1 (.t 93) (.t 88)), S 94 (.ixS 1 (.t 83) (.t 84)), SN (.store 1 (.t 94) (.t 92))]
@[simp] noncomputable def r11 (_ : Unit) : List Stp := [S 95 (.mv (.t 10)), S 96 (.bin .add (.t 95) (.c (.int .i64 1))), S 10 (.mv (.t 96))]
@[simp] noncomputable def r12 (_ : Unit) : List Stp := [S 97 (.mv (.t 11)), S 98 (.bin .sub (.t 97) (.c (.int .i64 1))), S 11 (.mv (.t 98))]
@[simp] noncomputable def r13 (_ : Unit) : List Stp := [S 99 (.mv (.t 10)), S 100 (.mv (.t 11)), S 101 (.bin .leq (.t 99) (.t 100)), S 102 (.mv (.t 101)), SG 103 102 true (.mv (.t 0)), SG 104 102 true (.mv (.t 10)), SG 105 102 true (.ixS 1 (.t 103) (.t 104)), SG 107 102 true (.mv (.t 0)), SG 108 102 true (.mv (.t 1)), SG 109 102 true (.ixS 1 (.t 107) (.t 108)), SG 106 102 true (.load false 1 (.t 105)), SG 110 102 true (.load false 1 (.t 109)), SG 111 102 true (.call (.c (.func (.func fn_cmp_Less_int) [] [])) [(.t 106), (.t 110)]), S 112 (.pick (.t 102) (.t 111) (.c (.bool false)))]
@[simp] noncomputable def r14 (_ : Unit) : List Stp := [S 113 (.mv (.t 10)), S 114 (.bin .add (.t 113) (.c (.int .i64 1))), S 10 (.mv (.t 114))]
@[simp] noncomputable def r15 (_ : Unit) : List Stp := [S 115 (.mv (.t 10)), S 116 (.mv (.t 11)), S 117 (.bin .leq (.t 115) (.t 116)), S 118 (.mv (.t 117)), SG 119 118 true (.mv (.t 0)), SG 120 118 true (.mv (.t 11)), SG 121 118 true (.ixS 1 (.t 119) (.t 120)), SG 123 118 true (.mv (.t 0)), SG 124 118 true (.mv (.t 1)), SG 125 118 true (.ixS 1 (.t 123) (.t 124)), SG 122 118 true (.load false 1 (.t 121)), SG 126 118 true (.load false 1 (.t 125)), SG 127 118 true (.call (.c (.func (.func fn_cmp_Less_int) [] [])) [(.t 122), (.t 126)]), SG 128 118 true (.un .not (.t 127)), S 129 (.pick (.t 118) (.t 128) (.c (.bool false)))]
@[simp] noncomputable def r16 (_ : Unit) : List Stp := [S 130 (.mv (.t 11)), S 131 (.bin .sub (.t 130) (.c (.int .i64 1))), S 11 (.mv (.t 131))]
@[simp] noncomputable def r17 (_ : Unit) : List Stp := [S 132 (.mv (.t 10)), S 133 (.mv (.t 11)), S 134 (.bin .gtr (.t 132) (.t 133))]
@[simp] noncomputable def r18 (_ : Unit) : List Stp := [S 135 (.mv (.t 0)), S 136 (.mv (.t 10)), S 137 (.mv (.t 0)), S 138 (.mv (.t 11)), S 139 (.mv (.t 0)), S 140 (.mv (.t 11)), S 141 (.ixS 1 (.t 139) (.t 140)), S 143 (.mv (.t 0)), S 144 (.mv (.t 10)), S 145 (.ixS 1 (.t 143) (.t 144)), S 142 (.load false 1 (.t 141)), S 146 (.load false 1 (.t 145)), S 147 (.ixS 1 (.t 135) (.t 136)), SN (.store 1 (.t 147) (.t 142)), S 148 (.ixS 1 (.t 137) (.t 138)), SN (.store 1 (.t 148) (.t 146))]
@[simp] noncomputable def r19 (_ : Unit) : List Stp := [S 149 (.mv (.t 10)), S 150 (.bin .add (.t 149) (.c (.int .i64 1))), S 10 (.mv (.t 150))]
@[simp] noncomputable def r20 (_ : Unit) : List Stp := [S 151 (.mv (.t 11)), S 152 (.bin .sub (.t 151) (.c (.int .i64 1))), S 11 (.mv (.t 152))]
@[simp] noncomputable def r21 (_ : Unit) : List Stp := [S 153 (.mv (.t 0)), S 154 (.mv (.t 11)), S 155 (.mv (.t 0)), S 156 (.mv (.t 1)), S 157 (.mv (.t 0)), S 158 (.mv (.t 1)), S 159 (.ixS 1 (.t 157) (.t 158)), S 161 (.mv (.t 0)), S 162 (.mv (.t 11)), S 163 (.ixS 1 (.t 161) (.t 162)), S 160 (.load false 1 (.t 159)), S 164 (.load false 1 (.t 163)), S 165 (.ixS 1 (.t 153) (.t 154)), SN (.store 1 (.t 165) (.t 160)), S 166 (.ixS 1 (.t 155) (.t 156)), SN (.store 1 (.t 166) (.t 164))]
@[simp] noncomputable def r22 (_ : Unit) : List Stp := [S 167 (.mv (.t 11)), S 8 (.mv (.t 167)), S 9 (.mv (.c (.bool false)))]
@[simp] noncomputable def ir : IR := (.seq (.ops r0) (.seq (.ops r1) (.seq (.ops r2) (.seq (.block 0 (.loop (.seq (.seq (.ops r3) (.cond (.t 43) .skip (.exit 0))) (.block 1 (.ops r4))))) (.seq (.block 2 (.loop (.seq (.seq (.ops r5) (.cond (.t 60) .skip (.exit 2))) (.block 3 (.ops r6))))) (.seq (.seq (.ops r7) (.cond (.t 65) (.seq (.ops r8) (.seq (.ops r9) .ret)) .skip)) (.seq (.ops r10) (.seq (.ops r11) (.seq (.ops r12) (.seq (.block 4 (.loop (.block 5 (.seq (.block 6 (.loop (.seq (.seq (.ops r13) (.cond (.t 112) .skip (.exit 6))) (.block 7 (.ops r14))))) (.seq (.block 8 (.loop (.seq (.seq (.ops r15) (.cond (.t 129) .skip (.exit 8))) (.block 9 (.ops r16))))) (.seq (.seq (.ops r17) (.cond (.t 134) (.exit 4) .skip)) (.seq (.ops r18) (.seq (.ops r19) (.ops r20))))))))) (.seq (.ops r21) (.seq (.ops r22) .ret))))))))))))
@[simp] noncomputable def rs : List RV := [.tmp 8, .tmp 9]
theorem comp : compF Pg cfg Tryz.f96 = some (ir, rs, 168) := by kernel_rfl
theorem enter {args : List AVal} {h : Heap} {K : AEnd → Heap → Prop} (F : Nat) (hl : args.length ≤ 168) (a : AW ⟨Pg, F, 168, false, []⟩ ir (RetK rs K) (initT args) [] h) : ACalls Pg fn_slices_partitionOrdered_int args h K :=
  ACalls.of_comp follows Tryz.func96 comp hl a
theorem pure {args : List AVal} {v : AVal} (hl : args.length ≤ 168) (a : AW ⟨Pg, 0, 168, false, []⟩ ir (RetK rs fun e _ => e = .ret v) (initT args) [] nilH) : APure Pg fn_slices_partitionOrdered_int args v :=
  APure.of_nil (enter 0 hl a)
end slices_partitionOrdered_int

namespace math_bits_Len32
noncomputable def cfg : Cfg := { pure := pures, pcs := [], raw := [], cuts := [], draws := [], keep := [] }
@[simp] noncomputable def r0 (_ : Unit) : List Stp := [S 2 (.mv (.c (.int .i64 0)))]
@[simp] noncomputable def r1 (_ : Unit) : List Stp := [S 3 (.mv (.t 0)), S 4 (.bin .geq (.t 3) (.c (.int .u32 65536)))]
@[simp] noncomputable def r2 (_ : Unit) : List Stp := [S 5 (.mv (.t 0)), S 6 (.bin .shr (.t 5) (.c (.int .u64 16))), S 0 (.mv (.t 6))]
@[simp] noncomputable def r3 (_ : Unit) : List Stp := [S 2 (.mv (.c (.int .i64 16)))]
@[simp] noncomputable def r4 (_ : Unit) : List Stp := [S 7 (.mv (.t 0)), S 8 (.bin .geq (.t 7) (.c (.int .u32 256)))]
@[simp] noncomputable def r5 (_ : Unit) : List Stp := [S 9 (.mv (.t 0)), S 10 (.bin .shr (.t 9) (.c (.int .u64 8))), S 0 (.mv (.t 10))]
@[simp] noncomputable def r6 (_ : Unit) : List Stp := [S 11 (.mv (.t 2)), S 12 (.bin .add (.t 11) (.c (.int .i64 8))), S 2 (.mv (.t 12))]
@[simp] noncomputable def r7 (_ : Unit) : List Stp := [S 13 (.mv (.t 2)), S 14 (.mv (.t 0)), S 15 (.conv .u8 (.t 14)), S 16 (.ixT (.c (.str [0, 1, 2, 2, 3, 3, 3, 3, 4, 4, 4, 4, 4, 4, 4, 4, 5, 5, 5, 5, 5, 5, 5, 5, 5, 5, 5, 5, 5, 5, 5, 5, 6, 6, 6, 6, 6, 6, 6, 6, 6, 6, 6, 6, 6, 6, 6, 6, 6, 6, 6, 6, 6, 6, 6, 6, 6, 6, 6, 6, 6, 6, 6, 6, 7, 7, 7, 7, 7, 7, 7, 7, 7, 7, 7, 7, 7, 7, 7, 7, 7, 7, 7, 7, 7, 7, 7, 7, 7, 7, 7, 7, 7, 7, 7, 7, 7, 7, 7, 7, 7, 7, 7, 7, 7, 7, 7, 7, 7, 7, 7, 7, 7, 7, 7, 7, 7, 7, 7, 7, 7, 7, 7, 7, 7, 7, 7, 7, 8, 8, 8, 8, 8, 8, 8, 8, 8, 8, 8, 8, 8, 8, 8, 8, 8, 8, 8, 8, 8, 8, 8, 8, 8, 8, 8, 8, 8, 8, 8, 8, 8, 8, 8, 8, 8, 8, 8, 8, 8, 8, 8, 8, 8, 8, 8, 8, 8, 8, 8, 8, 8, 8, 8, 8, 8, 8, 8, 8, 8, 8, 8, 8, 8, 8, 8, 8, 8, 8, 8, 8, 8, 8, 8, 8, 8, 8, 8, 8, 8, 8, 8, 8, 8, 8, 8, 8, 8, 8, 8, 8, 8, 8, 8, 8, 8, 8, 8, 8, 8, 8, 8, 8, 8, 8, 8, 8, 8, 8, 8, 8, 8, 8, 8, 8, 8, 8, 8, 8, 8, 8, 8, 8, 8, 8, 8, 8])) (.t 15)), S 17 (.conv .i64 (.t 16)), S 18 (.bin .add (.t 13) (.t 17)), S 2 (.mv (.t 18))]
@[simp] noncomputable def ir : IR := (.seq (.ops r0) (.seq (.seq (.ops r1) (.cond (.t 4) (.seq (.ops r2) (.ops r3)) .skip)) (.seq (.seq (.ops r4) (.cond (.t 8) (.seq (.ops r5) (.ops r6)) .skip)) (.seq (.ops r7) .ret))))
@[simp] noncomputable def rs : List RV := [.tmp 2]
theorem comp : compF Pg cfg Tryz.f97 = some (ir, rs, 19) := by kernel_rfl
theorem enter {args : List AVal} {h : Heap} {K : AEnd → Heap → Prop} (F : Nat) (hl : args.length ≤ 19) (a : AW ⟨Pg, F, 19, false, []⟩ ir (RetK rs K) (initT args) [] h) : ACalls Pg fn_math_bits_Len32 args h K :=
  ACalls.of_comp follows Tryz.func97 comp hl a
theorem pure {args : List AVal} {v : AVal} (hl : args.length ≤ 19) (a : AW ⟨Pg, 0, 19, false, []⟩ ir (RetK rs fun e _ => e = .ret v) (initT args) [] nilH) : APure Pg fn_math_bits_Len32 args v :=
  APure.of_nil (enter 0 hl a)
end math_bits_Len32

namespace math_bits_Len64
noncomputable def cfg : Cfg := { pure := pures, pcs := [], raw := [], cuts := [], draws := [], keep := [] }
@[simp] noncomputable def r0 (_ : Unit) : List Stp := [S 2 (.mv (.c (.int .i64 0)))]
@[simp] noncomputable def r1 (_ : Unit) : List Stp := [S 3 (.mv (.t 0)), S 4 (.bin .geq (.t 3) (.c (.int .u64 4294967296)))]
@[simp] noncomputable def r2 (_ : Unit) : List Stp := [S 5 (.mv (.t 0)), S 6 (.bin .shr (.t 5) (.c (.int .u64 32))), S 0 (.mv (.t 6))]
@[simp] noncomputable def r3 (_ : Unit) : List Stp := [S 2 (.mv (.c (.int .i64 32)))]
@[simp] noncomputable def r4 (_ : Unit) : List Stp := [S 7 (.mv (.t 0)), S 8 (.bin .geq (.t 7) (.c (.int .u64 65536)))]
@[simp] noncomputable def r5 (_ : Unit) : List Stp := [S 9 (.mv (.t 0)), S 10 (.bin .shr (.t 9) (.c (.int .u64 16))), S 0 (.mv (.t 10))]
@[simp] noncomputable def r6 (_ : Unit) : List Stp := [S 11 (.mv (.t 2)), S 12 (.bin .add (.t 11) (.c (.int .i64 16))), S 2 (.mv (.t 12))]
@[simp] noncomputable def r7 (_ : Unit) : List Stp := [S 13 (.mv (.t 0)), S 14 (.bin .geq (.t 13) (.c (.int .u64 256)))]
@[simp] noncomputable def r8 (_ : Unit) : List Stp := [S 15 (.mv (.t 0)), S 16 (.bin .shr (.t 15) (.c (.int .u64 8))), S 0 (.mv (.t 16))]
@[simp] noncomputable def r9 (_ : Unit) : List Stp := [S 17 (.mv (.t 2)), S 18 (.bin .add (.t 17) (.c (.int .i64 8))), S 2 (.mv (.t 18))]
@[simp] noncomputable def r10 (_ : Unit) : List Stp := [S 19 (.mv (.t 2)), S 20 (.mv (.t 0)), S 21 (.conv .u8 (.t 20)), S 22 (.ixT (.c (.str [0, 1, 2, 2, 3, 3, 3, 3, 4, 4, 4, 4, 4, 4, 4, 4, 5, 5, 5, 5, 5, 5, 5, 5, 5, 5, 5, 5, 5, 5, 5, 5, 6, 6, 6, 6, 6, 6, 6, 6, 6, 6, 6, 6, 6, 6, 6, 6, 6, 6, 6, 6, 6, 6, 6, 6, 6, 6, 6, 6, 6, 6, 6, 6, 7, 7, 7, 7, 7, 7, 7, 7, 7, 7, 7, 7, 7, 7, 7, 7, 7, 7, 7, 7, 7, 7, 7, 7, 7, 7, 7, 7, 7, 7, 7, 7, 7, 7, 7, 7, 7, 7, 7, 7, 7, 7, 7, 7, 7, 7, 7, 7, 7, 7, 7, 7, 7, 7, 7, 7, 7, 7, 7, 7, 7, 7, 7, 7, 8, 8, 8, 8, 8, 8, 8, 8, 8, 8, 8, 8, 8, 8, 8, 8, 8, 8, 8, 8, 8, 8, 8, 8, 8, 8, 8, 8, 8, 8, 8, 8, 8, 8, 8, 8, 8, 8, 8, 8, 8, 8, 8, 8, 8, 8, 8, 8, 8, 8, 8, 8, 8, 8, 8, 8, 8, 8, 8, 8, 8, 8, 8, 8, 8, 8, 8, 8, 8, 8, 8, 8, 8, 8, 8, 8, 8, 8, 8, 8, 8, 8, 8, 8, 8, 8, 8, 8, 8, 8, 8, 8, 8, 8, 8, 8, 8, 8, 8, 8, 8, 8, 8, 8, 8, 8, 8, 8, 8, 8, 8, 8, 8, 8, 8, 8, 8, 8, 8, 8, 8, 8, 8, 8, 8, 8, 8, 8])) (.t 21)), S 23 (.conv .i64 (.t 22)), S 24 (.bin .add (.t 19) (.t 23)), S 2 (.mv (.t 24))]
@[simp] noncomputable def ir : IR := (.seq (.ops r0) (.seq (.seq (.ops r1) (.cond (.t 4) (.seq (.ops r2) (.ops r3)) .skip)) (.seq (.seq (.ops r4) (.cond (.t 8) (.seq (.ops r5) (.ops r6)) .skip)) (.seq (.seq (.ops r7) (.cond (.t 14) (.seq (.ops r8) (.ops r9)) .skip)) (.seq (.ops r10) .ret)))))
@[simp] noncomputable def rs : List RV := [.tmp 2]
theorem comp : compF Pg cfg Tryz.f98 = some (ir, rs, 25) := by kernel_rfl
theorem enter {args : List AVal} {h : Heap} {K : AEnd → Heap → Prop} (F : Nat) (hl : args.length ≤ 25) (a : AW ⟨Pg, F, 25, false, []⟩ ir (RetK rs K) (initT args) [] h) : ACalls Pg fn_math_bits_Len64 args h K :=
  ACalls.of_comp follows Tryz.func98 comp hl a
theorem pure {args : List AVal} {v : AVal} (hl : args.length ≤ 25) (a : AW ⟨Pg, 0, 25, false, []⟩ ir (RetK rs fun e _ => e = .ret v) (initT args) [] nilH) : APure Pg fn_math_bits_Len64 args v :=
  APure.of_nil (enter 0 hl a)
end math_bits_Len64

namespace slices_siftDownOrdered_int
noncomputable def cfg : Cfg := { pure := pures, pcs := [], raw := [], cuts := [], draws := [(3, [⟨0, false, [], []⟩, ⟨1, false, [], []⟩, ⟨2, false, [], []⟩, ⟨3, false, [], []⟩, ⟨4, false, [], []⟩, ⟨5, false, [], []⟩, ⟨6, false, [], []⟩, ⟨7, false, [], []⟩, ⟨8, false, [], []⟩, ⟨9, false, [], []⟩, ⟨11, false, [], []⟩, ⟨12, false, [], []⟩, ⟨13, false, [], []⟩, ⟨14, false, [], []⟩, ⟨15, false, [], []⟩, ⟨16, false, [], []⟩, ⟨10, false, [], []⟩, ⟨17, false, [], []⟩, ⟨18, false, [], []⟩, ⟨19, false, [], []⟩]), (5, [⟨0, false, [], []⟩, ⟨1, false, [], []⟩, ⟨2, false, [], []⟩, ⟨3, false, [], []⟩, ⟨4, false, [], []⟩, ⟨6, false, [], []⟩, ⟨7, false, [], []⟩, ⟨8, false, [], []⟩, ⟨9, false, [], []⟩, ⟨10, false, [], []⟩, ⟨5, false, [], []⟩, ⟨11, false, [], []⟩, ⟨12, false, [], []⟩, ⟨13, false, [], []⟩]), (6, [⟨0, false, [], []⟩, ⟨1, false, [], []⟩, ⟨2, false, [], []⟩, ⟨3, false, [], []⟩, ⟨4, false, [], []⟩, ⟨5, false, [], []⟩, ⟨6, false, [], []⟩, ⟨7, false, [], []⟩, ⟨8, false, [], []⟩, ⟨9, false, [], []⟩, ⟨10, false, [], []⟩, ⟨11, false, [], []⟩, ⟨12, false, [], []⟩, ⟨14, false, [], []⟩, ⟨15, false, [], []⟩, ⟨16, false, [], []⟩, ⟨17, false, [], []⟩, ⟨18, false, [], []⟩, ⟨13, false, [], []⟩, ⟨19, false, [], []⟩, ⟨20, false, [], []⟩, ⟨21, false, [], []⟩, ⟨22, false, [], []⟩, ⟨23, false, [], []⟩])], keep := [] }
@[simp] noncomputable def r0 (_ : Unit) : List Stp := [S 10 (.mv (.t 1)), S 8 (.mv (.t 10))]
@[simp] noncomputable def r1 (_ : Unit) : List Stp := [S 11 (.mv (.t 8)), S 12 (.bin .mul (.c (.int .i64 2)) (.t 11)), S 13 (.bin .add (.t 12) (.c (.int .i64 1))), S 9 (.mv (.t 13))]
@[simp] noncomputable def r2 (_ : Unit) : List Stp := [S 14 (.mv (.t 9)), S 15 (.mv (.t 2)), S 16 (.bin .geq (.t 14) (.t 15))]
@[simp] noncomputable def r3 (_ : Unit) : List Stp := [S 17 (.mv (.t 9)), S 18 (.bin .add (.t 17) (.c (.int .i64 1))), S 19 (.mv (.t 2)), S 20 (.bin .lss (.t 18) (.t 19)), S 21 (.mv (.t 20)), SG 22 21 true (.mv (.t 0)), SG 23 21 true (.mv (.t 3)), SG 24 21 true (.mv (.t 9)), SG 25 21 true (.bin .add (.t 23) (.t 24)), SG 26 21 true (.ixS 1 (.t 22) (.t 25)), SG 28 21 true (.mv (.t 0)), SG 29 21 true (.mv (.t 3)), SG 30 21 true (.mv (.t 9)), SG 31 21 true (.bin .add (.t 29) (.t 30)), SG 32 21 true (.bin .add (.t 31) (.c (.int .i64 1))), SG 33 21 true (.ixS 1 (.t 28) (.t 32)), SG 27 21 true (.load false 1 (.t 26)), SG 34 21 true (.load false 1 (.t 33)), SG 35 21 true (.call (.c (.func (.func fn_cmp_Less_int) [] [])) [(.t 27), (.t 34)]), S 36 (.pick (.t 21) (.t 35) (.c (.bool false)))]
@[simp] noncomputable def r4 (_ : Unit) : List Stp := [S 37 (.mv (.t 9)), S 38 (.bin .add (.t 37) (.c (.int .i64 1))), S 9 (.mv (.t 38))]
@[simp] noncomputable def r5 (_ : Unit) : List Stp := [S 39 (.mv (.t 0)), S 40 (.mv (.t 3)), S 41 (.mv (.t 8)), S 42 (.bin .add (.t 40) (.t 41)), S 43 (.ixS 1 (.t 39) (.t 42)), S 45 (.mv (.t 0)), S 46 (.mv (.t 3)), S 47 (.mv (.t 9)), S 48 (.bin .add (.t 46) (.t 47)), S 49 (.ixS 1 (.t 45) (.t 48)), S 44 (.load false 1 (.t 43)), S 50 (.load false 1 (.t 49)), S 51 (.call (.c (.func (.func fn_cmp_Less_int) [] [])) [(.t 44), (.t 50)]), S 52 (.un .not (.t 51))]
@[simp] noncomputable def r6 (_ : Unit) : List Stp := [S 53 (.mv (.t 0)), S 54 (.mv (.t 3)), S 55 (.mv (.t 8)), S 56 (.bin .add (.t 54) (.t 55)), S 57 (.mv (.t 0)), S 58 (.mv (.t 3)), S 59 (.mv (.t 9)), S 60 (.bin .add (.t 58) (.t 59)), S 61 (.mv (.t 0)), S 62 (.mv (.t 3)), S 63 (.mv (.t 9)), S 64 (.bin .add (.t 62) (.t 63)), S 65 (.ixS 1 (.t 61) (.t 64)), S 67 (.mv (.t 0)), S 68 (.mv (.t 3)), S 69 (.mv (.t 8)), S 70 (.bin .add (.t 68) (.t 69)), S 71 (.ixS 1 (.t 67) (.t 70)), S 66 (.load false 1 (.t 65)), S 72 (.load false 1 (.t 71)), S 73 (.ixS 1 (.t 53) (.t 56)), SN (.store 1 (.t 73) (.t 66)), S 74 (.ixS 1 (.t 57) (.t 60)), SN (.store 1 (.t 74) (.t 72))]
@[simp] noncomputable def r7 (_ : Unit) : List Stp := [S 75 (.mv (.t 9)), S 8 (.mv (.t 75))]
@[simp] noncomputable def ir : IR := (.seq (.ops r0) (.block 0 (.loop (.block 1 (.seq (.ops r1) (.seq (.seq (.ops r2) (.cond (.t 16) (.exit 0) .skip)) (.seq (.seq (.ops r3) (.cond (.t 36) (.ops r4) .skip)) (.seq (.seq (.ops r5) (.cond (.t 52) .ret .skip)) (.seq (.ops r6) (.ops r7))))))))))
@[simp] noncomputable def rs : List RV := []
theorem comp : compF Pg cfg Tryz.f99 = some (ir, rs, 76) := by kernel_rfl
theorem enter {args : List AVal} {h : Heap} {K : AEnd → Heap → Prop} (F : Nat) (hl : args.length ≤ 76) (a : AW ⟨Pg, F, 76, false, []⟩ ir (RetK rs K) (initT args) [] h) : ACalls Pg fn_slices_siftDownOrdered_int args h K :=
  ACalls.of_comp follows Tryz.func99 comp hl a
theorem pure {args : List AVal} {v : AVal} (hl : args.length ≤ 76) (a : AW ⟨Pg, 0, 76, false, []⟩ ir (RetK rs fun e _ => e = .ret v) (initT args) [] nilH) : APure Pg fn_slices_siftDownOrdered_int args v :=
  APure.of_nil (enter 0 hl a)
end slices_siftDownOrdered_int

namespace slices_nextPowerOfTwo
noncomputable def cfg : Cfg := { pure := pures, pcs := [], raw := [], cuts := [], draws := [], keep := [] }
@[simp] noncomputable def r0 (_ : Unit) : List Stp := [S 2 (.mv (.c (.int .u64 0)))]
@[simp] noncomputable def r1 (_ : Unit) : List Stp := [S 3 (.mv (.t 0)), S 4 (.conv .u64 (.t 3)), S 5 (.call (.c (.func (.func fn_math_bits_Len) [] [])) [(.t 4)]), S 6 (.bin .shl (.c (.int .u64 1)) (.t 5)), S 2 (.mv (.t 6))]
@[simp] noncomputable def ir : IR := (.seq (.ops r0) (.seq (.ops r1) .ret))
@[simp] noncomputable def rs : List RV := [.tmp 2]
theorem comp : compF Pg cfg Tryz.f100 = some (ir, rs, 7) := by kernel_rfl
theorem enter {args : List AVal} {h : Heap} {K : AEnd → Heap → Prop} (F : Nat) (hl : args.length ≤ 7) (a : AW ⟨Pg, F, 7, false, []⟩ ir (RetK rs K) (initT args) [] h) : ACalls Pg fn_slices_nextPowerOfTwo args h K :=
  ACalls.of_comp follows Tryz.func100 comp hl a
theorem pure {args : List AVal} {v : AVal} (hl : args.length ≤ 7) (a : AW ⟨Pg, 0, 7, false, []⟩ ir (RetK rs fun e _ => e = .ret v) (initT args) [] nilH) : APure Pg fn_slices_nextPowerOfTwo args v :=
  APure.of_nil (enter 0 hl a)
end slices_nextPowerOfTwo

namespace slices_xorshift_Next
noncomputable def cfg : Cfg := { pure := pures, pcs := [], raw := [], cuts := [], draws := [(1, [⟨0, false, [], []⟩, ⟨1, false, [], []⟩, ⟨3, false, [], []⟩, ⟨4, false, [], []⟩, ⟨2, false, [], []⟩, ⟨5, false, [], []⟩, ⟨6, false, [], []⟩, ⟨7, false, [], []⟩, ⟨8, false, [], []⟩, ⟨9, false, [], []⟩]), (2, [⟨0, false, [], []⟩, ⟨1, false, [], []⟩, ⟨3, false, [], []⟩, ⟨4, false, [], []⟩, ⟨2, false, [], []⟩, ⟨5, false, [], []⟩, ⟨6, false, [], []⟩, ⟨7, false, [], []⟩, ⟨8, false, [], []⟩, ⟨9, false, [], []⟩]), (3, [⟨0, false, [], []⟩, ⟨1, false, [], []⟩, ⟨3, false, [], []⟩, ⟨4, false, [], []⟩, ⟨2, false, [], []⟩, ⟨5, false, [], []⟩, ⟨6, false, [], []⟩, ⟨7, false, [], []⟩, ⟨8, false, [], []⟩, ⟨9, false, [], []⟩])], keep := [] }
@[simp] noncomputable def r0 (_ : Unit) : List Stp := [S 2 (.mv (.c (.int .u64 0)))]
@[simp] noncomputable def r1 (_ : Unit) : List Stp := [S 3 (.mv (.t 0)), S 4 (.nilck Pg (.t 3)), S 6 (.mv (.t 0)), S 7 (.nilck Pg (.t 6)), S 5 (.load false 1 (.t 4)), S 8 (.load false 1 (.t 7)), S 9 (.bin .shl (.t 8) (.c (.int .u64 13))), S 10 (.bin .xor (.t 5) (.t 9)), S 11 (.nilck Pg (.t 3)), SN (.store 1 (.t 11) (.t 10))]
@[simp] noncomputable def r2 (_ : Unit) : List Stp := [S 12 (.mv (.t 0)), S 13 (.nilck Pg (.t 12)), S 15 (.mv (.t 0)), S 16 (.nilck Pg (.t 15)), S 14 (.load false 1 (.t 13)), S 17 (.load false 1 (.t 16)), S 18 (.bin .shr (.t 17) (.c (.int .u64 7))), S 19 (.bin .xor (.t 14) (.t 18)), S 20 (.nilck Pg (.t 12)), SN (.store 1 (.t 20) (.t 19))]
@[simp] noncomputable def r3 (_ : Unit) : List Stp := [S 21 (.mv (.t 0)), S 22 (.nilck Pg (.t 21)), S 24 (.mv (.t 0)), S 25 (.nilck Pg (.t 24)), S 23 (.load false 1 (.t 22)), S 26 (.load false 1 (.t 25)), S 27 (.bin .shl (.t 26) (.c (.int .u64 17))), S 28 (.bin .xor (.t 23) (.t 27)), S 29 (.nilck Pg (.t 21)), SN (.store 1 (.t 29) (.t 28))]
@[simp] noncomputable def r4 (_ : Unit) : List Stp := [S 30 (.mv (.t 0)), S 31 (.nilck Pg (.t 30)), S 32 (.load false 1 (.t 31)), S 2 (.mv (.t 32))]
@[simp] noncomputable def ir : IR := (.seq (.ops r0) (.seq (.ops r1) (.seq (.ops r2) (.seq (.ops r3) (.seq (.ops r4) .ret)))))
@[simp] noncomputable def rs : List RV := [.tmp 2]
theorem comp : compF Pg cfg Tryz.f101 = some (ir, rs, 33) := by kernel_rfl
theorem enter {args : List AVal} {h : Heap} {K : AEnd → Heap → Prop} (F : Nat) (hl : args.length ≤ 33) (a : AW ⟨Pg, F, 33, false, []⟩ ir (RetK rs K) (initT args) [] h) : ACalls Pg fn_slices_xorshift_Next args h K :=
  ACalls.of_comp follows Tryz.func101 comp hl a
theorem pure {args : List AVal} {v : AVal} (hl : args.length ≤ 33) (a : AW ⟨Pg, 0, 33, false, []⟩ ir (RetK rs fun e _ => e = .ret v) (initT args) [] nilH) : APure Pg fn_slices_xorshift_Next args v :=
  APure.of_nil (enter 0 hl a)
end slices_xorshift_Next

namespace slices_medianAdjacentOrdered_int
noncomputable def cfg : Cfg := { pure := pures, pcs := [], raw := [], cuts := [], draws := [], keep := [] }
@[simp] noncomputable def r0 (_ : Unit) : List Stp := [S 6 (.mv (.c (.int .i64 0)))]
@[simp] noncomputable def r1 (_ : Unit) : List Stp := [S 7 (.mv (.t 0)), S 8 (.mv (.t 1)), S 9 (.bin .sub (.t 8) (.c (.int .i64 1))), S 10 (.mv (.t 1)), S 11 (.mv (.t 1)), S 12 (.bin .add (.t 11) (.c (.int .i64 1))), S 13 (.mv (.t 2)), S 14 (.call (.c (.func (.func fn_slices_medianOrdered_int) [] [])) [(.t 7), (.t 9), (.t 10), (.t 12), (.t 13)]), S 6 (.mv (.t 14))]
@[simp] noncomputable def ir : IR := (.seq (.ops r0) (.seq (.ops r1) .ret))
@[simp] noncomputable def rs : List RV := [.tmp 6]
theorem comp : compF Pg cfg Tryz.f102 = some (ir, rs, 15) := by kernel_rfl
theorem enter {args : List AVal} {h : Heap} {K : AEnd → Heap → Prop} (F : Nat) (hl : args.length ≤ 15) (a : AW ⟨Pg, F, 15, false, []⟩ ir (RetK rs K) (initT args) [] h) : ACalls Pg fn_slices_medianAdjacentOrdered_int args h K :=
  ACalls.of_comp follows Tryz.func102 comp hl a
theorem pure {args : List AVal} {v : AVal} (hl : args.length ≤ 15) (a : AW ⟨Pg, 0, 15, false, []⟩ ir (RetK rs fun e _ => e = .ret v) (initT args) [] nilH) : APure Pg fn_slices_medianAdjacentOrdered_int args v :=
  APure.of_nil (enter 0 hl a)
end slices_medianAdjacentOrdered_int

namespace slices_medianOrdered_int
noncomputable def cfg : Cfg := { pure := pures, pcs := [], raw := [], cuts := [], draws := [], keep := [] }
@[simp] noncomputable def r0 (_ : Unit) : List Stp := [S 10 (.mv (.c (.int .i64 0)))]
@[simp] noncomputable def r1 (_ : Unit) : List Stp := [S 12 (.mv (.t 0)), S 13 (.mv (.t 1)), S 14 (.mv (.t 2)), S 15 (.mv (.t 4)), S 16 (.call (.c (.func (.func fn_slices_order2Ordered_int) [] [])) [(.t 12), (.t 13), (.t 14), (.t 15)]), S 11 (.mv (.t 16)), S 17 (.ext (.t 11) 0), S 18 (.ext (.t 11) 1), S 1 (.mv (.t 17)), S 2 (.mv (.t 18))]
@[simp] noncomputable def r2 (_ : Unit) : List Stp := [S 20 (.mv (.t 0)), S 21 (.mv (.t 2)), S 22 (.mv (.t 3)), S 23 (.mv (.t 4)), S 24 (.call (.c (.func (.func fn_slices_order2Ordered_int) [] [])) [(.t 20), (.t 21), (.t 22), (.t 23)]), S 19 (.mv (.t 24)), S 25 (.ext (.t 19) 0), S 26 (.ext (.t 19) 1), S 2 (.mv (.t 25)), S 3 (.mv (.t 26))]
@[simp] noncomputable def r3 (_ : Unit) : List Stp := [S 28 (.mv (.t 0)), S 29 (.mv (.t 1)), S 30 (.mv (.t 2)), S 31 (.mv (.t 4)), S 32 (.call (.c (.func (.func fn_slices_order2Ordered_int) [] [])) [(.t 28), (.t 29), (.t 30), (.t 31)]), S 27 (.mv (.t 32)), S 33 (.ext (.t 27) 0), S 34 (.ext (.t 27) 1), S 1 (.mv (.t 33)), S 2 (.mv (.t 34))]
@[simp] noncomputable def r4 (_ : Unit) : List Stp := [S 35 (.mv (.t 2)), S 10 (.mv (.t 35))]
@[simp] noncomputable def ir : IR := (.seq (.ops r0) (.seq (.ops r1) (.seq (.ops r2) (.seq (.ops r3) (.seq (.ops r4) .ret)))))
@[simp] noncomputable def rs : List RV := [.tmp 10]
theorem comp : compF Pg cfg Tryz.f103 = some (ir, rs, 36) := by kernel_rfl
theorem enter {args : List AVal} {h : Heap} {K : AEnd → Heap → Prop} (F : Nat) (hl : args.length ≤ 36) (a : AW ⟨Pg, F, 36, false, []⟩ ir (RetK rs K) (initT args) [] h) : ACalls Pg fn_slices_medianOrdered_int args h K :=
  ACalls.of_comp follows Tryz.func103 comp hl a
theorem pure {args : List AVal} {v : AVal} (hl : args.length ≤ 36) (a : AW ⟨Pg, 0, 36, false, []⟩ ir (RetK rs fun e _ => e = .ret v) (initT args) [] nilH) : APure Pg fn_slices_medianOrdered_int args v :=
  APure.of_nil (enter 0 hl a)
end slices_medianOrdered_int

namespace cmp_isNaN_int
noncomputable def cfg : Cfg := { pure := pures, pcs := [], raw := [], cuts := [], draws := [], keep := [] }
@[simp] noncomputable def r0 (_ : Unit) : List Stp := [S 2 (.mv (.c (.bool false)))]
@[simp] noncomputable def r1 (_ : Unit) : List Stp := [S 3 (.mv (.t 0)), S 4 (.mv (.t 0)), S 5 (.bin .neq (.t 3) (.t 4)), S 2 (.mv (.t 5))]
@[simp] noncomputable def ir : IR := (.seq (.ops r0) (.seq (.ops r1) .ret))
@[simp] noncomputable def rs : List RV := [.tmp 2]
theorem comp : compF Pg cfg Tryz.f104 = some (ir, rs, 6) := by kernel_rfl
theorem enter {args : List AVal} {h : Heap} {K : AEnd → Heap → Prop} (F : Nat) (hl : args.length ≤ 6) (a : AW ⟨Pg, F, 6, false, []⟩ ir (RetK rs K) (initT args) [] h) : ACalls Pg fn_cmp_isNaN_int args h K :=
  ACalls.of_comp follows Tryz.func104 comp hl a
theorem pure {args : List AVal} {v : AVal} (hl : args.length ≤ 6) (a : AW ⟨Pg, 0, 6, false, []⟩ ir (RetK rs fun e _ => e = .ret v) (initT args) [] nilH) : APure Pg fn_cmp_isNaN_int args v :=
  APure.of_nil (enter 0 hl a)
end cmp_isNaN_int

namespace slices_order2Ordered_int
noncomputable def cfg : Cfg := { pure := pures, pcs := [], raw := [], cuts := [], draws := [(1, [⟨0, false, [], []⟩, ⟨1, false, [], []⟩, ⟨2, false, [], []⟩, ⟨4, false, [], []⟩, ⟨5, false, [], []⟩, ⟨6, false, [], []⟩, ⟨3, false, [], []⟩, ⟨7, false, [], []⟩, ⟨8, false, [], []⟩])], keep := [] }
@[simp] noncomputable def r0 (_ : Unit) : List Stp := [S 8 (.mv (.c (.int .i64 0))), S 9 (.mv (.c (.int .i64 0)))]
@[simp] noncomputable def r1 (_ : Unit) : List Stp := [S 10 (.mv (.t 0)), S 11 (.mv (.t 2)), S 12 (.ixS 1 (.t 10) (.t 11)), S 14 (.mv (.t 0)), S 15 (.mv (.t 1)), S 16 (.ixS 1 (.t 14) (.t 15)), S 13 (.load false 1 (.t 12)), S 17 (.load false 1 (.t 16)), S 18 (.call (.c (.func (.func fn_cmp_Less_int) [] [])) [(.t 13), (.t 17)])]
@[simp] noncomputable def r2 (_ : Unit) : List Stp := [S 19 (.mv (.t 3)), S 20 (.nilck Pg (.t 19)), S 21 (.load false 1 (.t 20)), S 22 (.bin .add (.t 21) (.c (.int .i64 1))), S 23 (.nilck Pg (.t 19)), SN (.store 1 (.t 23) (.t 22))]
@[simp] noncomputable def r3 (_ : Unit) : List Stp := [S 24 (.mv (.t 2)), S 25 (.mv (.t 1)), S 8 (.mv (.t 24)), S 9 (.mv (.t 25))]
@[simp] noncomputable def r4 (_ : Unit) : List Stp := [S 26 (.mv (.t 1)), S 27 (.mv (.t 2)), S 8 (.mv (.t 26)), S 9 (.mv (.t 27))]
@[simp] noncomputable def ir : IR := (.seq (.ops r0) (.seq (.seq (.ops r1) (.cond (.t 18) (.seq (.ops r2) (.seq (.ops r3) .ret)) .skip)) (.seq (.ops r4) .ret)))
@[simp] noncomputable def rs : List RV := [.tmp 8, .tmp 9]
theorem comp : compF Pg cfg Tryz.f105 = some (ir, rs, 28) := by kernel_rfl
theorem enter {args : List AVal} {h : Heap} {K : AEnd → Heap → Prop} (F : Nat) (hl : args.length ≤ 28) (a : AW ⟨Pg, F, 28, false, []⟩ ir (RetK rs K) (initT args) [] h) : ACalls Pg fn_slices_order2Ordered_int args h K :=
  ACalls.of_comp follows Tryz.func105 comp hl a
theorem pure {args : List AVal} {v : AVal} (hl : args.length ≤ 28) (a : AW ⟨Pg, 0, 28, false, []⟩ ir (RetK rs fun e _ => e = .ret v) (initT args) [] nilH) : APure Pg fn_slices_order2Ordered_int args v :=
  APure.of_nil (enter 0 hl a)
end slices_order2Ordered_int

namespace leak_none_can
noncomputable def cfg : Cfg := { pure := pures, pcs := [], raw := [], cuts := [], draws := [], keep := [] }
@[simp] noncomputable def r0 (_ : Unit) : List Stp := [S 4 (.box (.t 0)), S 5 (.box (.t 1)), S 8 (.mv (.c (.bool false)))]
@[simp] noncomputable def r1 (_ : Unit) : List Stp := [S 8 (.mv (.c (.bool true)))]
@[simp] noncomputable def ir : IR := (.seq (.ops r0) (.seq (.ops r1) .ret))
@[simp] noncomputable def rs : List RV := [.tmp 8]
theorem comp : compF Pg cfg Tryz.f121 = some (ir, rs, 9) := by kernel_rfl
theorem enter {args : List AVal} {h : Heap} {K : AEnd → Heap → Prop} (F : Nat) (hl : args.length ≤ 9) (a : AW ⟨Pg, F, 9, false, []⟩ ir (RetK rs K) (initT args) [] h) : ACalls Pg fn_leak_none_can args h K :=
  ACalls.of_comp follows Tryz.func121 comp hl a
theorem pure {args : List AVal} {v : AVal} (hl : args.length ≤ 9) (a : AW ⟨Pg, 0, 9, false, []⟩ ir (RetK rs fun e _ => e = .ret v) (initT args) [] nilH) : APure Pg fn_leak_none_can args v :=
  APure.of_nil (enter 0 hl a)
end leak_none_can

namespace leak_wet_ends
noncomputable def cfg : Cfg := { pure := pures, pcs := [], raw := [], cuts := [], draws := [(1, [⟨1, false, [], []⟩, ⟨3, false, [], []⟩, ⟨4, false, [], []⟩, ⟨5, false, [], []⟩, ⟨0, false, [], []⟩, ⟨2, false, [], []⟩, ⟨6, false, [], []⟩, ⟨7, false, [], []⟩, ⟨8, false, [], []⟩])], keep := [] }
@[simp] noncomputable def r0 (_ : Unit) : List Stp := [S 4 (.box (.t 0)), S 5 (.box (.t 1)), S 8 (.mv (.c (.int .i64 0))), S 9 (.mv (.c (.int .i64 0)))]
@[simp] noncomputable def r1 (_ : Unit) : List Stp := [S 12 (.fAddr 0 (.t 4)), S 14 (.mv (.t 2)), S 15 (.bin .shl (.c (.int .u64 1)) (.t 14)), S 16 (.bin .sub (.t 15) (.c (.int .u64 1))), S 11 (.load true 6 (.t 5)), S 13 (.load false 1 (.t 12)), S 17 (.bin .and (.t 13) (.t 16)), SP 18 (.call (.c (.func (.func fn_leak_inflow_sum) [] [])) [(.t 11), (.t 17)]), S 8 (.mv (.t 18))]
@[simp] noncomputable def r2 (_ : Unit) : List Stp := [S 19 (.mv (.t 8)), S 9 (.mv (.t 19))]
@[simp] noncomputable def r3 (_ : Unit) : List Stp := [S 20 (.mv (.t 2)), S 10 (.mv (.t 20))]
@[simp] noncomputable def r4 (_ : Unit) : List Stp := [S 21 (.mv (.t 10)), S 22 (.mv (.t 3)), S 23 (.len (.t 22)), S 24 (.bin .lss (.t 21) (.t 23))]
@[simp] noncomputable def r6 (_ : Unit) : List Stp := [S 27 (.fAddr 0 (.t 4)), S 28 (.load false 1 (.t 27)), S 29 (.mv (.t 10)), SP 30 (.call (.c (.func (.func fn_leak_set_has) [] [])) [(.t 28), (.t 29)])]
@[simp] noncomputable def r7 (_ : Unit) : List Stp := [S 31 (.mv (.t 9)), S 32 (.mv (.t 3)), S 33 (.mv (.t 10)), S 34 (.ixS 1 (.t 32) (.t 33)), S 35 (.load false 1 (.t 34)), S 36 (.bsl 2 [(.int .i64 0), (.int .i64 0)] [(0, 1, (.t 31)), (1, 1, (.t 35))]), S 37 (.call (.c (.func (.func fn_leak_flows) [] [])) [(.t 36)]), S 9 (.mv (.t 37))]
@[simp] noncomputable def r5 (_ : Unit) : List Stp := [S 25 (.mv (.t 10)), S 26 (.bin .add (.t 25) (.c (.int .i64 1))), S 10 (.mv (.t 26))]
@[simp] noncomputable def r8 (_ : Unit) : List Stp := [S 38 (.mv (.t 8)), S 39 (.mv (.t 9)), S 8 (.mv (.t 38)), S 9 (.mv (.t 39))]
@[simp] noncomputable def ir : IR := (.seq (.ops r0) (.seq (.ops r1) (.seq (.ops r2) (.seq (.seq (.ops r3) (.block 0 (.loop (.seq (.seq (.ops r4) (.cond (.t 24) .skip (.exit 0))) (.seq (.block 1 (.seq (.ops r6) (.cond (.t 30) (.ops r7) .skip))) (.ops r5)))))) (.seq (.ops r8) .ret)))))
@[simp] noncomputable def rs : List RV := [.tmp 8, .tmp 9]
theorem comp : compF Pg cfg Tryz.f122 = some (ir, rs, 40) := by kernel_rfl
theorem enter {args : List AVal} {h : Heap} {K : AEnd → Heap → Prop} (F : Nat) (hl : args.length ≤ 40) (a : AW ⟨Pg, F, 40, false, []⟩ ir (RetK rs K) (initT args) [] h) : ACalls Pg fn_leak_wet_ends args h K :=
  ACalls.of_comp follows Tryz.func122 comp hl a
theorem pure {args : List AVal} {v : AVal} (hl : args.length ≤ 40) (a : AW ⟨Pg, 0, 40, false, []⟩ ir (RetK rs fun e _ => e = .ret v) (initT args) [] nilH) : APure Pg fn_leak_wet_ends args v :=
  APure.of_nil (enter 0 hl a)
end leak_wet_ends

namespace leak_sounding_can
noncomputable def cfg : Cfg := { pure := pures, pcs := [], raw := [], cuts := [], draws := [], keep := [] }
@[simp] noncomputable def r0 (_ : Unit) : List Stp := [S 4 (.box (.t 0)), S 5 (.box (.t 1)), S 8 (.mv (.c (.bool false)))]
@[simp] noncomputable def r1 (_ : Unit) : List Stp := [S 12 (.fAddr 0 (.t 4)), S 13 (.load true 1 (.t 12)), S 14 (.load true 6 (.t 5)), S 15 (.mv (.t 2)), S 16 (.mv (.t 3)), S 17 (.call (.c (.func (.func fn_leak_wet_ends) [] [])) [(.t 13), (.t 14), (.t 15), (.t 16)]), S 11 (.mv (.t 17)), S 18 (.ext (.t 11) 0), S 19 (.ext (.t 11) 1), S 9 (.mv (.t 18)), S 10 (.mv (.t 19))]
@[simp] noncomputable def r2 (_ : Unit) : List Stp := [S 20 (.mv (.t 9)), S 21 (.fAddr 1 (.t 4)), S 22 (.fAddr 1 (.t 21)), S 23 (.load false 1 (.t 22)), S 24 (.bin .leq (.t 20) (.t 23)), S 25 (.mv (.t 24)), SG 26 25 true (.mv (.t 10)), SG 27 25 true (.fAddr 1 (.t 4)), SG 28 25 true (.fAddr 0 (.t 27)), SG 29 25 true (.load false 1 (.t 28)), SG 30 25 true (.bin .geq (.t 26) (.t 29)), S 31 (.pick (.t 25) (.t 30) (.c (.bool false))), S 8 (.mv (.t 31))]
@[simp] noncomputable def ir : IR := (.seq (.ops r0) (.seq (.ops r1) (.seq (.ops r2) .ret)))
@[simp] noncomputable def rs : List RV := [.tmp 8]
theorem comp : compF Pg cfg Tryz.f123 = some (ir, rs, 32) := by kernel_rfl
theorem enter {args : List AVal} {h : Heap} {K : AEnd → Heap → Prop} (F : Nat) (hl : args.length ≤ 32) (a : AW ⟨Pg, F, 32, false, []⟩ ir (RetK rs K) (initT args) [] h) : ACalls Pg fn_leak_sounding_can args h K :=
  ACalls.of_comp follows Tryz.func123 comp hl a
theorem pure {args : List AVal} {v : AVal} (hl : args.length ≤ 32) (a : AW ⟨Pg, 0, 32, false, []⟩ ir (RetK rs fun e _ => e = .ret v) (initT args) [] nilH) : APure Pg fn_leak_sounding_can args v :=
  APure.of_nil (enter 0 hl a)
end leak_sounding_can

end Go.Cw
end
