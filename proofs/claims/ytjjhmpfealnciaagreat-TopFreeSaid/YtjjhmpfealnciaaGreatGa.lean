/-
  The program's functions in the small form.
-/
import Derived.Test.YtjjhmpfealnciaaGreatAd
import Derived.Test.YtjjhmpfealnciaaGreatAf
import Derived.Test.YtjjhmpfealnciaaGreatProg
set_option linter.unusedVariables false
set_option linter.unusedSimpArgs false
set_option linter.unusedSectionVars false

/- The functions' numbers. Printed by a program of this seat's proofs. -/
section
namespace Go.Cw
open Go Go.Proofs

@[reducible] noncomputable def Pg : Program := Tryz.prog
theorem follows : Pg.follows .mixedOrders = true := by kernel_rfl
def fn_main_main : FuncId := 0
def fn_gosem_cut : FuncId := 1
def fn_gosem_cut_init : FuncId := 2
def fn_top_TopFree : FuncId := 3
def fn_top_draws03 : FuncId := 4
def fn_top_made03 : FuncId := 5
def fn_ref01_LeaksOf : FuncId := 6
def fn_again_Promised : FuncId := 7
def fn_again_Yard : FuncId := 8
def fn_again_Pays : FuncId := 9
def fn_again_Nothing : FuncId := 10
def fn_top_followed03 : FuncId := 11
def fn_rake_Known : FuncId := 12
def fn_again_Ask : FuncId := 13
def fn_top_alive11 : FuncId := 14
def fn_leak_Wet : FuncId := 15
def fn_ref01_Sum : FuncId := 16
def fn_top_span03 : FuncId := 17
def fn_top_draws03_1 : FuncId := 18
def fn_ref01_power : FuncId := 19
def fn_again_Promised_1 : FuncId := 20
def fn_again_said : FuncId := 21
def fn_again_open : FuncId := 22
def fn_again_ship_promised : FuncId := 23
def fn_again_Yard_1 : FuncId := 24
def fn_again_look : FuncId := 25
def fn_again_ship_verdict : FuncId := 26
def fn_again_verdict_told : FuncId := 27
def fn_again_Pays_1 : FuncId := 28
def fn_again_ship_span : FuncId := 29
def fn_again_Nothing_1 : FuncId := 30
def fn_rake_Next : FuncId := 31
def fn_rake_Known_1 : FuncId := 32
def fn_rake_said : FuncId := 33
def fn_rake_open : FuncId := 34
def fn_rake_hull_agreeing : FuncId := 35
def fn_again_Ask_1 : FuncId := 36
def fn_again_want : FuncId := 37
def fn_again_places : FuncId := 38
def fn_again_ship_settles : FuncId := 39
def fn_top_hull03 : FuncId := 40
def fn_top_alive03 : FuncId := 41
def fn_leak_Wet_1 : FuncId := 42
def fn_leak_said : FuncId := 43
def fn_leak_open : FuncId := 44
def fn_leak_place_isPlace : FuncId := 45
def fn_leak_hull_wet : FuncId := 46
def fn_ref01_Has : FuncId := 47
def fn_again_check : FuncId := 48
def fn_again_open_1 : FuncId := 49
def fn_cmp_Compare_int : FuncId := 50
def fn_slices_SortStableFunc_api_AgainWork_api_AgainWork : FuncId := 51
def fn_again_setOf : FuncId := 52
def fn_leak_Sets : FuncId := 53
def fn_again_joined_again_verdict : FuncId := 54
def fn_again_ship_verdict_1 : FuncId := 55
def fn_again_ship_verdict_2 : FuncId := 56
def fn_again_lengths_sum : FuncId := 57
def fn_again_joined_api_Span : FuncId := 58
def fn_again_ship_span_1 : FuncId := 59
def fn_again_hull : FuncId := 60
def fn_rake_Next_1 : FuncId := 61
def fn_rake_want : FuncId := 62
def fn_rake_hull_plan : FuncId := 63
def fn_rake_check : FuncId := 64
def fn_rake_known_with : FuncId := 65
def fn_rake_known_agrees : FuncId := 66
def fn_again_places_1 : FuncId := 67
def fn_leak_Flow : FuncId := 68
def fn_slices_Clone_api_LeakSounding_api_LeakSounding : FuncId := 69
def fn_rake_Worst : FuncId := 70
def fn_ref01_Ints : FuncId := 71
def fn_leak_want : FuncId := 72
def fn_leak_within : FuncId := 73
def fn_leak_Rate : FuncId := 74
def fn_again_check_1 : FuncId := 75
def fn_again_within : FuncId := 76
def fn_slices_ContainsFunc_int_int : FuncId := 77
def fn_again_isWork : FuncId := 78
def fn_cmp_isNaN_int : FuncId := 79
def fn_slices_stableCmpFunc_api_AgainWork : FuncId := 80
def fn_leak_Sets_1 : FuncId := 81
def fn_leak_hull_sets : FuncId := 82
def fn_rake_hull_plan_1 : FuncId := 83
def fn_rake_lengths_of : FuncId := 84
def fn_rake_hull_plan_1_1 : FuncId := 85
def fn_rake_greatest : FuncId := 86
def fn_rake_best_int_see : FuncId := 87
def fn_rake_check_1 : FuncId := 88
def fn_rake_within : FuncId := 89
def fn_leak_Flow_1 : FuncId := 90
def fn_leak_hull_total : FuncId := 91
def fn_rake_Worst_1 : FuncId := 92
def fn_leak_Rate_1 : FuncId := 93
def fn_slices_IndexFunc_int_int : FuncId := 94
def fn_slices_insertionSortCmpFunc_api_AgainWork : FuncId := 95
def fn_slices_symMergeCmpFunc_api_AgainWork : FuncId := 96
def fn_leak_hull_truths : FuncId := 97
def fn_leak_inflow_leaks : FuncId := 98
def fn_slices_Sort_int_int : FuncId := 99
def fn_slices_Max_int_int : FuncId := 100
def fn_leak_inflow_sum : FuncId := 101
def fn_leak_sums : FuncId := 102
def fn_leak_hull_total_1 : FuncId := 103
def fn_slices_rotateCmpFunc_api_AgainWork : FuncId := 104
def fn_slices_Collect_leak_inflow : FuncId := 105
def fn_leak_hull_inflows : FuncId := 106
def fn_leak_hull_every : FuncId := 107
def fn_slices_pdqsortOrdered_int : FuncId := 108
def fn_math_bits_Len : FuncId := 109
def fn_leak_set_has : FuncId := 110
def fn_leak_flows : FuncId := 111
def fn_slices_swapRangeCmpFunc_api_AgainWork : FuncId := 112
def fn_slices_AppendSeq_leak_inflow_leak_inflow : FuncId := 113
def fn_leak_hull_conditions : FuncId := 114
def fn_leak_hull_inflows_1 : FuncId := 115
def fn_leak_hull_inflows_1_1 : FuncId := 116
def fn_slices_insertionSortOrdered_int : FuncId := 117
def fn_slices_heapSortOrdered_int : FuncId := 118
def fn_slices_breakPatternsOrdered_int : FuncId := 119
def fn_slices_choosePivotOrdered_int : FuncId := 120
def fn_slices_reverseRangeOrdered_int : FuncId := 121
def fn_slices_partialInsertionSortOrdered_int : FuncId := 122
def fn_cmp_Less_int : FuncId := 123
def fn_slices_partitionEqualOrdered_int : FuncId := 124
def fn_slices_partitionOrdered_int : FuncId := 125
def fn_math_bits_Len32 : FuncId := 126
def fn_math_bits_Len64 : FuncId := 127
def fn_slices_siftDownOrdered_int : FuncId := 128
def fn_slices_nextPowerOfTwo : FuncId := 129
def fn_slices_xorshift_Next : FuncId := 130
def fn_slices_medianAdjacentOrdered_int : FuncId := 131
def fn_slices_medianOrdered_int : FuncId := 132
def fn_slices_order2Ordered_int : FuncId := 133
def fn_runtime_boundsError_Error : FuncId := 134
def fn_runtime_boundsError_RuntimeError : FuncId := 135
def fn_runtime_errorString_Error : FuncId := 136
def fn_runtime_errorString_RuntimeError : FuncId := 137
def fn_runtime_plainError_Error : FuncId := 138
def fn_runtime_plainError_RuntimeError : FuncId := 139
def fn_runtime_errorAddressString_Error : FuncId := 140
def fn_runtime_errorAddressString_RuntimeError : FuncId := 141
def fn_runtime_TypeAssertionError_Error : FuncId := 142
def fn_runtime_TypeAssertionError_RuntimeError : FuncId := 143
def fn_runtime_PanicNilError_Error : FuncId := 144
def fn_runtime_PanicNilError_RuntimeError : FuncId := 145
def fn_abi_Type_Align : FuncId := 146
def fn_runtime_maps_unhashableTypeError_Error : FuncId := 147
def fn_runtime_maps_unhashableTypeError_RuntimeError : FuncId := 148
def fn_again_yard_seams : FuncId := 149
def fn_again_owner_seams : FuncId := 150
def fn_leak_hull_can : FuncId := 151
def fn_rake_all_done : FuncId := 152
def fn_leak_none_can : FuncId := 153
def fn_leak_wet_ends : FuncId := 154
def fn_leak_sounding_can : FuncId := 155
def fn_abi_Kind_String : FuncId := 156
def pures : List Nat := [6, 7, 8, 9, 10, 11, 12, 13, 14, 15, 16, 17, 19, 27, 31, 40, 41, 45, 47, 53, 57, 60, 65, 66, 68, 70, 71, 73, 74, 76, 78, 84, 89, 98, 101, 110, 152]
def cf0 : Cfg := { pure := pures, pcs := [], raw := [], cuts := [], draws := [], keep := [] }

end Go.Cw
end

/- Functions in the small form. Printed by a program of this seat's proofs. -/
section
namespace Go.Cw
open Go Go.Proofs Sh

namespace ref01_LeaksOf
@[simp] noncomputable def r0 (_ : Unit) : List Stp := [MI 2 0]
@[simp] noncomputable def r1 (_ : Unit) : List Stp := [MI 3 0]
@[simp] noncomputable def r2 (_ : Unit) : List Stp := [MI 4 0]
@[simp] noncomputable def r3 (_ : Unit) : List Stp := [M 5 4, M 6 0, S 7 (.len (.t 6)), Bn 8 .lss 5 7]
@[simp] noncomputable def r5 (_ : Unit) : List Stp := [M 11 0, M 12 4, S 13 (.ixS 1 (.t 11) (.t 12)), Ld 14 false 1 13, Bi 15 .gtr 14 0]
@[simp] noncomputable def r6 (_ : Unit) : List Stp := [M 16 3, M 17 4, SP 18 (.call (fc fn_ref01_power) [.t 17]), Bn 19 .add 16 18, M 3 19]
@[simp] noncomputable def r4 (_ : Unit) : List Stp := [M 9 4, Bi 10 .add 9 1, M 4 10]
@[simp] noncomputable def r7 (_ : Unit) : List Stp := [M 20 3, M 2 20]
@[simp] noncomputable def ir : IR := (.seq (.ops r0) (.seq (.ops r1) (.seq (.seq (.ops r2) (.block 0 (.loop (.seq (.seq (.ops r3) (.cond (.t 8) .skip (.exit 0))) (.seq (.block 1 (.seq (.ops r5) (.cond (.t 15) (.ops r6) .skip))) (.ops r4)))))) (.seq (.ops r7) .ret))))
@[simp] noncomputable def rs : List RV := [.tmp 2]
theorem comp : compF Pg cf0 Tryz.f6 = some (ir, rs, 21) := by kernel_rfl
theorem enter : Entr Pg fn_ref01_LeaksOf 21 [] ir (RetK rs) := Entr.of follows Tryz.func6 comp
theorem pure : Pur Pg fn_ref01_LeaksOf 21 [] ir (RetK rs) := Pur.of enter
end ref01_LeaksOf

namespace again_Promised
noncomputable def cfg : Cfg := { pure := pures, pcs := [], raw := [], cuts := [], draws := [(2, [⟨2, false, [], []⟩, ⟨0, false, [], []⟩, ⟨3, false, [], []⟩, ⟨1, false, [], [3]⟩, ⟨4, false, [], []⟩, ⟨5, false, [], []⟩, ⟨6, false, [], []⟩])], keep := [2, 3] }
@[simp] noncomputable def r0 (_ : Unit) : List Stp := [S 1 (.box (.t 0)), MI 2 0, S 3 (.alloc [.int .i64 0])]
@[simp] noncomputable def r1 (_ : Unit) : List Stp := [S 4 (.mkF (.func fn_again_Promised_1) [] [.t 3]), SN (.defer (.t 4) [])]
@[simp] noncomputable def r2 (_ : Unit) : List Stp := [Fa 7 5 1, Ld 5 true 6 1, Ld 8 false 1 7, SD (some 6) (.call (fc fn_again_open) [.t 5, (.c (.bool true))]) false [] [I 8 (.load false 1 (.t 7))], S 9 (.call (fc fn_again_ship_promised) [.t 6, .t 8]), M 2 9, SN (.store 1 (.t 3) (ci 0))]
@[simp] noncomputable def ir : IR := (.seq (.ops r0) (.seq (.ops r1) (.seq (.ops r2) .ret)))
@[simp] noncomputable def rs : List RV := [.tmp 2, .cell 3 false 1]
theorem comp : compF Pg cfg Tryz.f7 = some (ir, rs, 10) := by kernel_rfl
theorem enter : Entr Pg fn_again_Promised 10 [2, 3] ir (RetD Pg rs) := Entr.ofD follows Tryz.func7 comp
theorem pure : Pur Pg fn_again_Promised 10 [2, 3] ir (RetD Pg rs) := Pur.of enter
end again_Promised

namespace again_Yard
noncomputable def cfg : Cfg := { pure := pures, pcs := [], raw := [], cuts := [], draws := [(3, [⟨0, false, [], []⟩, ⟨1, false, [], []⟩, ⟨2, false, [], []⟩, ⟨3, false, [], []⟩, ⟨5, false, [], []⟩, ⟨4, false, [], []⟩, ⟨6, false, [], []⟩, ⟨7, false, [], []⟩, ⟨8, false, [], []⟩, ⟨9, false, [], []⟩, ⟨10, false, [], []⟩])], keep := [2, 3] }
@[simp] noncomputable def r0 (_ : Unit) : List Stp := [S 1 (.box (.t 0)), MI 2 0, S 3 (.alloc [.int .i64 0])]
@[simp] noncomputable def r1 (_ : Unit) : List Stp := [S 5 (.mkF (.func fn_again_Yard_1) [] [.t 3]), SN (.defer (.t 5) [])]
@[simp] noncomputable def r2 (_ : Unit) : List Stp := [Ld 6 true 6 1, S 7 (.call (fc fn_again_look) [.t 6, (.c (.bool true))]), M 4 7]
@[simp] noncomputable def r3 (_ : Unit) : List Stp := [M 8 4, M 9 4, S 10 (.nilck Pg (.t 9)), Fa 11 13 10, Fa 13 5 1, Ld 12 false 1 11, Ld 14 false 1 13, S 15 (.call (fc fn_again_ship_verdict) [.t 8, .t 12, .t 14]), SP 16 (.call (fc fn_again_verdict_told) [.t 15]), M 2 16, SN (.store 1 (.t 3) (ci 0))]
@[simp] noncomputable def ir : IR := (.seq (.ops r0) (.seq (.ops r1) (.seq (.ops r2) (.seq (.ops r3) .ret))))
@[simp] noncomputable def rs : List RV := [.tmp 2, .cell 3 false 1]
theorem comp : compF Pg cfg Tryz.f8 = some (ir, rs, 17) := by kernel_rfl
theorem enter : Entr Pg fn_again_Yard 17 [2, 3] ir (RetD Pg rs) := Entr.ofD follows Tryz.func8 comp
theorem pure : Pur Pg fn_again_Yard 17 [2, 3] ir (RetD Pg rs) := Pur.of enter
end again_Yard

namespace again_Pays
noncomputable def cfg : Cfg := { pure := pures, pcs := [], raw := [], cuts := [], draws := [], keep := [2, 3] }
@[simp] noncomputable def r0 (_ : Unit) : List Stp := [S 1 (.box (.t 0)), S 2 (.alloc [.int .i64 0, .int .i64 0]), S 3 (.alloc [.int .i64 0])]
@[simp] noncomputable def r1 (_ : Unit) : List Stp := [S 5 (.mkF (.func fn_again_Pays_1) [] [.t 3]), SN (.defer (.t 5) [])]
@[simp] noncomputable def r2 (_ : Unit) : List Stp := [Ld 6 true 6 1, S 7 (.call (fc fn_again_look) [.t 6, (.c (.bool true))]), S 8 (.build [] []), S 9 (.mkI 81 (.t 8)), S 10 (.call (fc fn_again_ship_span) [.t 7, .t 9]), S 4 (.alloc [.int .i64 0, .int .i64 0]), SN (.store 2 (.t 4) (.t 10))]
@[simp] noncomputable def r3 (_ : Unit) : List Stp := [Fa 11 0 4, Ld 12 false 1 11, Fa 13 3 1, Ld 14 false 1 13, Bn 15 .mul 12 14, Fa 16 1 4, Ld 17 false 1 16, Fa 18 3 1, Ld 19 false 1 18, Bn 20 .mul 17 19, S 21 (.build [.int .i64 0, .int .i64 0] [(0, 1, (.t 15)), (1, 1, (.t 20))]), SN (.store 2 (.t 2) (.t 21)), SN (.store 1 (.t 3) (ci 0))]
@[simp] noncomputable def ir : IR := (.seq (.ops r0) (.seq (.ops r1) (.seq (.ops r2) (.seq (.ops r3) .ret))))
@[simp] noncomputable def rs : List RV := [.cell 2 true 2, .cell 3 false 1]
theorem comp : compF Pg cfg Tryz.f9 = some (ir, rs, 22) := by kernel_rfl
theorem enter : Entr Pg fn_again_Pays 22 [2, 3] ir (RetD Pg rs) := Entr.ofD follows Tryz.func9 comp
theorem pure : Pur Pg fn_again_Pays 22 [2, 3] ir (RetD Pg rs) := Pur.of enter
end again_Pays

namespace again_Nothing
noncomputable def cfg : Cfg := { pure := pures, pcs := [], raw := [], cuts := [], draws := [], keep := [2, 3] }
@[simp] noncomputable def r0 (_ : Unit) : List Stp := [S 1 (.box (.t 0)), S 2 (.alloc [.int .i64 0, .int .i64 0]), S 3 (.alloc [.int .i64 0])]
@[simp] noncomputable def r1 (_ : Unit) : List Stp := [S 4 (.mkF (.func fn_again_Nothing_1) [] [.t 3]), SN (.defer (.t 4) [])]
@[simp] noncomputable def r2 (_ : Unit) : List Stp := [Ld 5 true 6 1, S 6 (.call (fc fn_again_look) [.t 5, (.c (.bool true))]), S 7 (.build [] []), S 8 (.mkI 79 (.t 7)), S 9 (.call (fc fn_again_ship_span) [.t 6, .t 8]), SN (.store 2 (.t 2) (.t 9)), SN (.store 1 (.t 3) (ci 0))]
@[simp] noncomputable def ir : IR := (.seq (.ops r0) (.seq (.ops r1) (.seq (.ops r2) .ret)))
@[simp] noncomputable def rs : List RV := [.cell 2 true 2, .cell 3 false 1]
theorem comp : compF Pg cfg Tryz.f10 = some (ir, rs, 10) := by kernel_rfl
theorem enter : Entr Pg fn_again_Nothing 10 [2, 3] ir (RetD Pg rs) := Entr.ofD follows Tryz.func10 comp
theorem pure : Pur Pg fn_again_Nothing 10 [2, 3] ir (RetD Pg rs) := Pur.of enter
end again_Nothing

namespace rake_Known
noncomputable def cfg : Cfg := { pure := pures, pcs := [], raw := [], cuts := [], draws := [], keep := [4, 5] }
@[simp] noncomputable def r0 (_ : Unit) : List Stp := [S 2 (.box (.t 0)), S 4 (.mv (.c .nils)), S 5 (.alloc [.int .i64 0])]
@[simp] noncomputable def r1 (_ : Unit) : List Stp := [S 8 (.mkF (.func fn_rake_Known_1) [] [.t 5]), SN (.defer (.t 8) [])]
@[simp] noncomputable def r2 (_ : Unit) : List Stp := [Ld 10 true 3 2, M 11 1, S 12 (.call (fc fn_rake_open) [.t 10, .t 11, (.c (.bool true))]), M 9 12, X 13 9 0, X 14 9 1, S 7 (.alloc [.int .i64 0, .int .i64 0]), M 6 13, SN (.store 2 (.t 7) (.t 14))]
@[simp] noncomputable def r3 (_ : Unit) : List Stp := [M 15 6, Ld 16 true 2 7, S 17 (.call (fc fn_rake_hull_agreeing) [.t 15, .t 16]), M 4 17, SN (.store 1 (.t 5) (ci 0))]
@[simp] noncomputable def ir : IR := (.seq (.ops r0) (.seq (.ops r1) (.seq (.ops r2) (.seq (.ops r3) .ret))))
@[simp] noncomputable def rs : List RV := [.tmp 4, .cell 5 false 1]
theorem comp : compF Pg cfg Tryz.f12 = some (ir, rs, 18) := by kernel_rfl
theorem enter : Entr Pg fn_rake_Known 18 [4, 5] ir (RetD Pg rs) := Entr.ofD follows Tryz.func12 comp
theorem pure : Pur Pg fn_rake_Known 18 [4, 5] ir (RetD Pg rs) := Pur.of enter
end rake_Known

namespace again_Ask
noncomputable def cfg : Cfg := { pure := pures, pcs := [], raw := [], cuts := [], draws := [(3, [⟨5, false, [], []⟩, ⟨0, false, [], []⟩, ⟨1, false, [], []⟩, ⟨2, false, [], []⟩, ⟨3, false, [], []⟩, ⟨4, false, [], []⟩, ⟨6, false, [], []⟩, ⟨7, false, [], []⟩, ⟨8, false, [], []⟩, ⟨9, false, [], []⟩, ⟨10, false, [], []⟩]), (7, [⟨5, false, [], []⟩, ⟨7, false, [], []⟩, ⟨0, false, [], []⟩, ⟨1, false, [], []⟩, ⟨2, false, [], []⟩, ⟨3, false, [], []⟩, ⟨4, false, [], []⟩, ⟨6, false, [], []⟩, ⟨8, false, [], []⟩, ⟨9, false, [], []⟩, ⟨10, false, [], []⟩, ⟨11, false, [], []⟩, ⟨12, false, [], []⟩, ⟨13, false, [], []⟩, ⟨14, false, [], []⟩]), (12, [⟨0, false, [], []⟩, ⟨2, false, [], []⟩, ⟨1, false, [], []⟩, ⟨3, false, [], []⟩, ⟨4, false, [], [3]⟩, ⟨5, false, [], []⟩, ⟨6, false, [], []⟩])], keep := [2, 3, 4] }
@[simp] noncomputable def r0 (_ : Unit) : List Stp := [S 1 (.box (.t 0)), S 2 (.alloc [.int .i64 0]), S 3 (.alloc [.int .i64 0]), S 4 (.alloc [.int .i64 0])]
@[simp] noncomputable def r1 (_ : Unit) : List Stp := [S 10 (.mkF (.func fn_again_Ask_1) [] [.t 4]), SN (.defer (.t 10) [])]
@[simp] noncomputable def r2 (_ : Unit) : List Stp := [Ld 11 true 6 1, S 12 (.call (fc fn_again_look) [.t 11, (.c (.bool true))]), S 5 (.alloc [.nilp]), SN (.store 1 (.t 5) (.t 12))]
@[simp] noncomputable def r3 (_ : Unit) : List Stp := [Fa 18 5 1, Ld 13 false 1 5, Ld 14 false 1 5, S 15 (.nilck Pg (.t 14)), Fa 16 13 15, Ld 17 false 1 16, Ld 19 false 1 18, S 20 (.call (fc fn_again_ship_verdict) [.t 13, .t 17, .t 19]), SP 21 (.call (fc fn_again_verdict_told) [.t 20]), Bi 22 .eql 21 1, S 23 (.call (fc fn_again_want) [.t 22, (ci 11)])]
@[simp] noncomputable def r4 (_ : Unit) : List Stp := [S 24 (.mkmap), S 6 (.alloc [.nilm]), SN (.store 1 (.t 6) (.t 24))]
@[simp] noncomputable def r5 (_ : Unit) : List Stp := [S 25 (.call (fc fn_again_places) [])]
@[simp] noncomputable def r6 (_ : Unit) : List Stp := [S 7 (.alloc [.int .i64 0, .int .i64 0]), SN (.store 2 (.t 7) (.t 26))]
@[simp] noncomputable def r7 (_ : Unit) : List Stp := [Fa 33 0 7, Fa 35 1 7, Ld 28 false 1 5, S 29 (.nilck Pg (.t 28)), Fa 30 0 29, Fa 31 0 30, Ld 32 true 2 31, Ld 34 false 1 33, Ld 36 false 1 35, SP 37 (.call (fc fn_leak_Wet) [.t 32, .t 34, .t 36]), M 27 37, X 38 27 0, X 39 27 1, M 8 38, M 9 39]
@[simp] noncomputable def r8 (_ : Unit) : List Stp := [M 40 9, Bi 41 .eql 40 0, M 42 9, S 43 (.call (fc fn_again_want) [.t 41, .t 42])]
@[simp] noncomputable def r9 (_ : Unit) : List Stp := [Ld 44 false 1 6, M 45 8, S 46 (.lookup (false, [.i]) false (.bool false) (.t 44) (.t 45))]
@[simp] noncomputable def r10 (_ : Unit) : List Stp := [Ld 47 false 1 6, M 48 8, SN (.mapU (false, [.i]) (.t 47) (.t 48) (.c (.bool true)))]
@[simp] noncomputable def r11 (_ : Unit) : List Stp := [Ld 49 false 1 5, Ld 50 true 2 7, S 51 (.call (fc fn_again_ship_settles) [.t 49, .t 50])]
@[simp] noncomputable def r12 (_ : Unit) : List Stp := [Fa 52 0 7, Fa 54 1 7, Ld 53 false 1 52, Ld 55 false 1 54, SD none (.store 1 (.t 2) (.t 53)) false [] [I 55 (.load false 1 (.t 54))], SN (.store 1 (.t 3) (.t 55)), SN (.store 1 (.t 4) (ci 0))]
@[simp] noncomputable def r13 (_ : Unit) : List Stp := [SN (.store 1 (.t 2) (ci 0)), SN (.store 1 (.t 3) (ci 0)), SN (.store 1 (.t 4) (ci 4))]
@[simp] noncomputable def ir : IR := (.seq (.ops r0) (.seq (.ops r1) (.seq (.ops r2) (.seq (.ops r3) (.seq (.ops r4) (.seq .skip (.seq (.seq (.ops r5) (.block 0 (.rangeF (.t 25) [26] (.ops r6) (.block 1 (.seq (.ops r7) (.seq (.ops r8) (.seq (.seq (.ops r9) (.cond (.t 46) (.exit 1) .skip)) (.seq (.ops r10) (.seq (.ops r11) (.cond (.t 51) (.seq (.ops r12) .ret) .skip)))))))))) (.seq (.ops r13) .ret))))))))
@[simp] noncomputable def rs : List RV := [.cell 2 false 1, .cell 3 false 1, .cell 4 false 1]
theorem comp : compF Pg cfg Tryz.f13 = some (ir, rs, 56) := by kernel_rfl
theorem enter : Entr Pg fn_again_Ask 56 [2, 3, 4] ir (RetD Pg rs) := Entr.ofD follows Tryz.func13 comp
theorem pure : Pur Pg fn_again_Ask 56 [2, 3, 4] ir (RetD Pg rs) := Pur.of enter
end again_Ask

namespace leak_Wet
noncomputable def cfg : Cfg := { pure := pures, pcs := [], raw := [], cuts := [], draws := [(3, [⟨0, false, [], []⟩, ⟨1, false, [], []⟩, ⟨2, false, [], []⟩, ⟨3, false, [], []⟩, ⟨4, false, [], []⟩])], keep := [6, 7] }
@[simp] noncomputable def r0 (_ : Unit) : List Stp := [S 3 (.box (.t 0)), MI 6 0, S 7 (.alloc [.int .i64 0])]
@[simp] noncomputable def r1 (_ : Unit) : List Stp := [S 10 (.mkF (.func fn_leak_Wet_1) [] [.t 7]), SN (.defer (.t 10) [])]
@[simp] noncomputable def r2 (_ : Unit) : List Stp := [M 11 1, M 12 2, S 13 (.build [.int .i64 0, .int .i64 0] [(0, 1, (.t 11)), (1, 1, (.t 12))]), S 8 (.alloc [.int .i64 0, .int .i64 0]), SN (.store 2 (.t 8) (.t 13))]
@[simp] noncomputable def r3 (_ : Unit) : List Stp := [Ld 14 true 2 3, Ld 15 true 2 8, SP 16 (.call (fc fn_leak_place_isPlace) [.t 15]), S 17 (.call (fc fn_leak_open) [.t 14, .t 16]), M 9 17]
@[simp] noncomputable def r4 (_ : Unit) : List Stp := [M 18 9, Ld 19 true 2 8, S 20 (.call (fc fn_leak_hull_wet) [.t 18, .t 19]), S 21 (.conv .i64 (.t 20)), M 6 21, SN (.store 1 (.t 7) (ci 0))]
@[simp] noncomputable def ir : IR := (.seq (.ops r0) (.seq (.ops r1) (.seq (.ops r2) (.seq (.ops r3) (.seq (.ops r4) .ret)))))
@[simp] noncomputable def rs : List RV := [.tmp 6, .cell 7 false 1]
theorem comp : compF Pg cfg Tryz.f15 = some (ir, rs, 22) := by kernel_rfl
theorem enter : Entr Pg fn_leak_Wet 22 [6, 7] ir (RetD Pg rs) := Entr.ofD follows Tryz.func15 comp
theorem pure : Pur Pg fn_leak_Wet 22 [6, 7] ir (RetD Pg rs) := Pur.of enter
end leak_Wet

namespace ref01_Sum
@[simp] noncomputable def r0 (_ : Unit) : List Stp := [MI 4 0]
@[simp] noncomputable def r1 (_ : Unit) : List Stp := [MI 5 0]
@[simp] noncomputable def r2 (_ : Unit) : List Stp := [MI 6 0]
@[simp] noncomputable def r3 (_ : Unit) : List Stp := [M 7 6, M 8 0, S 9 (.len (.t 8)), Bn 10 .lss 7 9]
@[simp] noncomputable def r5 (_ : Unit) : List Stp := [M 13 1, M 14 6, SP 15 (.call (fc fn_ref01_Has) [.t 13, .t 14])]
@[simp] noncomputable def r6 (_ : Unit) : List Stp := [M 16 5, M 17 0, M 18 6, S 19 (.ixS 1 (.t 17) (.t 18)), Ld 20 false 1 19, Bn 21 .add 16 20, M 5 21]
@[simp] noncomputable def r4 (_ : Unit) : List Stp := [M 11 6, Bi 12 .add 11 1, M 6 12]
@[simp] noncomputable def r7 (_ : Unit) : List Stp := [M 22 5, M 4 22]
@[simp] noncomputable def ir : IR := (.seq (.ops r0) (.seq (.ops r1) (.seq (.seq (.ops r2) (.block 0 (.loop (.seq (.seq (.ops r3) (.cond (.t 10) .skip (.exit 0))) (.seq (.block 1 (.seq (.ops r5) (.cond (.t 15) (.ops r6) .skip))) (.ops r4)))))) (.seq (.ops r7) .ret))))
@[simp] noncomputable def rs : List RV := [.tmp 4]
theorem comp : compF Pg cf0 Tryz.f16 = some (ir, rs, 23) := by kernel_rfl
theorem enter : Entr Pg fn_ref01_Sum 23 [] ir (RetK rs) := Entr.of follows Tryz.func16 comp
theorem pure : Pur Pg fn_ref01_Sum 23 [] ir (RetK rs) := Pur.of enter
end ref01_Sum

namespace ref01_power
@[simp] noncomputable def r0 (_ : Unit) : List Stp := [MI 2 0]
@[simp] noncomputable def r1 (_ : Unit) : List Stp := [MI 3 1]
@[simp] noncomputable def r2 (_ : Unit) : List Stp := [MI 4 0]
@[simp] noncomputable def r3 (_ : Unit) : List Stp := [M 5 4, M 6 0, Bn 7 .lss 5 6]
@[simp] noncomputable def r5 (_ : Unit) : List Stp := [M 10 3, S 11 (.bin .mul (ci 2) (.t 10)), M 3 11]
@[simp] noncomputable def r4 (_ : Unit) : List Stp := [M 8 4, Bi 9 .add 8 1, M 4 9]
@[simp] noncomputable def r6 (_ : Unit) : List Stp := [M 12 3, M 2 12]
@[simp] noncomputable def ir : IR := (.seq (.ops r0) (.seq (.ops r1) (.seq (.seq (.ops r2) (.block 0 (.loop (.seq (.seq (.ops r3) (.cond (.t 7) .skip (.exit 0))) (.seq (.block 1 (.ops r5)) (.ops r4)))))) (.seq (.ops r6) .ret))))
@[simp] noncomputable def rs : List RV := [.tmp 2]
theorem comp : compF Pg cf0 Tryz.f19 = some (ir, rs, 13) := by kernel_rfl
theorem enter : Entr Pg fn_ref01_power 13 [] ir (RetK rs) := Entr.of follows Tryz.func19 comp
theorem pure : Pur Pg fn_ref01_power 13 [] ir (RetK rs) := Pur.of enter
end ref01_power

namespace again_Promised_1
@[simp] noncomputable def r0 (_ : Unit) : List Stp := [S 1 (.recov), S 2 (.call (fc fn_again_said) [.t 1, .t 0])]
@[simp] noncomputable def ir : IR := (.ops r0)
@[simp] noncomputable def rs : List RV := []
theorem comp : compF Pg cf0 Tryz.f20 = some (ir, rs, 3) := by kernel_rfl
theorem enter : Entr Pg fn_again_Promised_1 3 [] ir (RetK rs) := Entr.of follows Tryz.func20 comp
theorem pure : Pur Pg fn_again_Promised_1 3 [] ir (RetK rs) := Pur.of enter
theorem recClo : RecClo Pg fn_again_Promised_1 fn_again_said := ⟨_, Tryz.func20, by kernel_rfl⟩
end again_Promised_1

namespace again_said
@[simp] noncomputable def r0 (_ : Unit) : List Stp := [M 6 0, S 7 (.eqN .i false (.t 6))]
@[simp] noncomputable def r1 (_ : Unit) : List Stp := [M 9 0, S 10 (.tyAs 109 true (.agg [.int .i64 0]) (.t 9)), M 8 10, X 11 8 0, X 12 8 1, S 4 (.alloc [.int .i64 0]), SN (.store 1 (.t 4) (.t 11)), M 5 12]
@[simp] noncomputable def r2 (_ : Unit) : List Stp := [M 13 5, S 14 (.un .not (.t 13))]
@[simp] noncomputable def r3 (_ : Unit) : List Stp := [M 15 0, SN (.panic (.t 15))]
@[simp] noncomputable def r4 (_ : Unit) : List Stp := [M 16 1, Fa 17 0 4, Ld 18 false 1 17, S 19 (.nilck Pg (.t 16)), SN (.store 1 (.t 19) (.t 18))]
@[simp] noncomputable def ir : IR := (.seq (.seq (.ops r0) (.cond (.t 7) .ret .skip)) (.seq (.ops r1) (.seq (.seq (.ops r2) (.cond (.t 14) (.ops r3) .skip)) (.ops r4))))
@[simp] noncomputable def rs : List RV := []
theorem comp : compF Pg cf0 Tryz.f21 = some (ir, rs, 20) := by kernel_rfl
theorem enter : Entr Pg fn_again_said 20 [] ir (RetK rs) := Entr.of follows Tryz.func21 comp
theorem pure : Pur Pg fn_again_said 20 [] ir (RetK rs) := Pur.of enter
end again_said

namespace again_open
noncomputable def cfg : Cfg := { pure := pures, pcs := [], raw := [], cuts := [], draws := [(3, [⟨0, false, [], []⟩, ⟨1, false, [], []⟩, ⟨2, false, [], []⟩, ⟨3, false, [], []⟩, ⟨4, false, [], []⟩, ⟨5, false, [], []⟩, ⟨6, false, [], []⟩]), (11, [⟨0, false, [], []⟩, ⟨1, false, [], []⟩, ⟨2, false, [], []⟩, ⟨4, false, [], []⟩, ⟨3, false, [], []⟩, ⟨5, false, [], []⟩, ⟨6, false, [], []⟩, ⟨7, false, [], []⟩, ⟨8, false, [], []⟩, ⟨9, false, [], []⟩, ⟨10, true, [], []⟩, ⟨11, false, [], []⟩, ⟨12, false, [], []⟩]), (13, [⟨0, false, [], []⟩, ⟨1, false, [], []⟩, ⟨2, false, [], []⟩, ⟨4, false, [], []⟩, ⟨3, false, [], []⟩, ⟨5, false, [], []⟩, ⟨6, false, [], []⟩, ⟨7, false, [], []⟩])], keep := [] }
@[simp] noncomputable def r0 (_ : Unit) : List Stp := [S 2 (.box (.t 0)), S 4 (.mv (.c .nilp))]
@[simp] noncomputable def r1 (_ : Unit) : List Stp := [Ld 12 true 6 2, M 13 1, S 14 (.call (fc fn_again_check) [.t 12, .t 13])]
@[simp] noncomputable def r2 (_ : Unit) : List Stp := [Ld 15 true 6 2, S 16 (.mkmap), S 17 (.build [.nils, .nils, .nils, .int .i64 0, .nils, .int .i64 0, .int .i64 0, .int .i64 0, .int .i64 0, .int .i64 0, .int .i64 0, .int .i64 0, .nilm, .nils] [(0, 6, (.t 15)), (12, 1, (.t 16))]), S 18 (.box (.t 17)), M 5 18]
@[simp] noncomputable def r3 (_ : Unit) : List Stp := [M 19 5, S 20 (.nilck Pg (.t 19)), Fa 21 6 20, S 22 (.slA 6 1 (.t 21) none none none), Fa 23 2 2, Ld 24 false 1 23, S 25 (.copy 1 (.t 22) (.t 24))]
@[simp] noncomputable def r4 (_ : Unit) : List Stp := [Fa 26 4 2, Ld 27 false 1 26, S 28 (.len (.t 27)), S 29 (.mksl 24 [.int .i64 0, .int .i64 0, .int .i64 0] (.t 28) (.t 28)), M 6 29]
@[simp] noncomputable def r5 (_ : Unit) : List Stp := [M 30 6, Fa 31 4 2, Ld 32 false 1 31, S 33 (.copy 3 (.t 30) (.t 32))]
@[simp] noncomputable def r6 (_ : Unit) : List Stp := [S 34 (.build [.nilf] [(0, 1, (fc fn_again_open_1))]), S 7 (.alloc [.nilf]), SN (.store 1 (.t 7) (.t 34))]
@[simp] noncomputable def r7 (_ : Unit) : List Stp := [M 35 6, Fa 36 0 7, Ld 37 false 1 36, S 38 (.call (fc fn_slices_SortStableFunc_api_AgainWork_api_AgainWork) [.t 35, .t 37])]
@[simp] noncomputable def r8 (_ : Unit) : List Stp := [M 39 6, S 40 (.len (.t 39)), MI 41 0]
@[simp] noncomputable def r9 (_ : Unit) : List Stp := [Bn 42 .lss 41 40]
@[simp] noncomputable def r10 (_ : Unit) : List Stp := [S 43 (.ixS 3 (.t 39) (.t 41)), Ld 44 true 3 43, S 9 (.alloc [.int .i64 0, .int .i64 0, .int .i64 0]), SN (.store 3 (.t 9) (.t 44))]
@[simp] noncomputable def r11 (_ : Unit) : List Stp := [M 46 5, S 47 (.nilck Pg (.t 46)), Fa 48 12 47, Fa 50 0 9, Ld 49 false 1 48, Ld 51 false 1 50, S 52 (.lookup (false, [.i]) true (.agg [.int .i64 0, .int .i64 0, .int .i64 0]) (.t 49) (.t 51)), M 45 52, X 53 45 0, X 54 45 1, SD (some 10) (.alloc [.int .i64 0, .int .i64 0, .int .i64 0]) true [] [], SN (.store 3 (.t 10) (.t 53)), M 11 54]
@[simp] noncomputable def r12 (_ : Unit) : List Stp := [M 55 11, S 56 (.un .not (.t 55)), M 57 56, SG 58 57 false (.load true 3 (.t 10)), SG 59 57 false (.load true 3 (.t 9)), SG 60 57 false (.eqA true [.i, .i, .i] (.t 58) (.t 59)), Po 61 57 60]
@[simp] noncomputable def r13 (_ : Unit) : List Stp := [M 62 5, S 63 (.nilck Pg (.t 62)), Fa 64 12 63, Fa 66 0 9, Ld 65 false 1 64, Ld 67 false 1 66, Ld 68 true 3 9, SN (.mapU (false, [.i]) (.t 65) (.t 67) (.t 68))]
@[simp] noncomputable def r14 (_ : Unit) : List Stp := [Bi 69 .add 41 1, M 41 69]
@[simp] noncomputable def r15 (_ : Unit) : List Stp := [M 70 5, M 4 70]
@[simp] noncomputable def ir : IR := (.seq (.ops r0) (.seq (.ops r1) (.seq (.ops r2) (.seq (.ops r3) (.seq (.ops r4) (.seq (.ops r5) (.seq (.ops r6) (.seq (.ops r7) (.seq (.seq (.ops r8) (.block 0 (.loop (.seq (.ops r9) (.seq (.cond (.t 42) .skip (.exit 0)) (.seq (.block 1 (.seq (.ops r10) (.seq (.ops r11) (.seq (.ops r12) (.cond (.t 61) (.ops r13) .skip))))) (.ops r14))))))) (.seq (.ops r15) .ret))))))))))
@[simp] noncomputable def rs : List RV := [.tmp 4]
theorem comp : compF Pg cfg Tryz.f22 = some (ir, rs, 71) := by kernel_rfl
theorem enter : Entr Pg fn_again_open 71 [] ir (RetK rs) := Entr.of follows Tryz.func22 comp
theorem pure : Pur Pg fn_again_open 71 [] ir (RetK rs) := Pur.of enter
end again_open

namespace again_ship_promised
@[simp] noncomputable def r0 (_ : Unit) : List Stp := [MI 4 0]
@[simp] noncomputable def r1 (_ : Unit) : List Stp := [M 7 0, S 8 (.nilck Pg (.t 7)), Fa 9 12 8, Ld 10 false 1 9, S 11 (.range (.t 10))]
@[simp] noncomputable def r2 (_ : Unit) : List Stp := [S 12 (.next (.t 11)), X 13 12 0]
@[simp] noncomputable def r3 (_ : Unit) : List Stp := [S 14 (.entry (.t 11)), X 15 14 0, X 16 14 1, S 6 (.alloc [.int .i64 0, .int .i64 0, .int .i64 0]), M 5 15, SN (.store 3 (.t 6) (.t 16))]
@[simp] noncomputable def r4 (_ : Unit) : List Stp := [M 17 1, Fa 18 1 6, Ld 19 false 1 18, Bn 20 .sub 17 19, Bi 21 .leq 20 365]
@[simp] noncomputable def r5 (_ : Unit) : List Stp := [M 22 4, M 23 5, S 24 (.bsl 1 [.int .i64 0] [(0, 1, (.t 23))]), S 25 (.call (fc fn_again_setOf) [.t 24]), Bn 26 .or 22 25, M 4 26]
@[simp] noncomputable def r6 (_ : Unit) : List Stp := [M 27 4, M 4 27]
@[simp] noncomputable def ir : IR := (.seq (.ops r0) (.seq (.seq (.ops r1) (.block 0 (.loop (.seq (.ops r2) (.seq (.cond (.t 13) .skip (.exit 0)) (.block 1 (.seq (.ops r3) (.seq (.ops r4) (.cond (.t 21) (.ops r5) .skip))))))))) (.seq (.ops r6) .ret)))
@[simp] noncomputable def rs : List RV := [.tmp 4]
theorem comp : compF Pg cf0 Tryz.f23 = some (ir, rs, 28) := by kernel_rfl
theorem enter : Entr Pg fn_again_ship_promised 28 [] ir (RetK rs) := Entr.of follows Tryz.func23 comp
theorem pure : Pur Pg fn_again_ship_promised 28 [] ir (RetK rs) := Pur.of enter
end again_ship_promised

namespace again_Yard_1
@[simp] noncomputable def r0 (_ : Unit) : List Stp := [S 1 (.recov), S 2 (.call (fc fn_again_said) [.t 1, .t 0])]
@[simp] noncomputable def ir : IR := (.ops r0)
@[simp] noncomputable def rs : List RV := []
theorem comp : compF Pg cf0 Tryz.f24 = some (ir, rs, 3) := by kernel_rfl
theorem enter : Entr Pg fn_again_Yard_1 3 [] ir (RetK rs) := Entr.of follows Tryz.func24 comp
theorem pure : Pur Pg fn_again_Yard_1 3 [] ir (RetK rs) := Pur.of enter
theorem recClo : RecClo Pg fn_again_Yard_1 fn_again_said := ⟨_, Tryz.func24, by kernel_rfl⟩
end again_Yard_1

namespace again_look
@[simp] noncomputable def r0 (_ : Unit) : List Stp := [S 2 (.box (.t 0)), S 4 (.mv (.c .nilp))]
@[simp] noncomputable def r1 (_ : Unit) : List Stp := [Ld 8 true 6 2, M 9 1, S 10 (.call (fc fn_again_open) [.t 8, .t 9]), M 5 10]
@[simp] noncomputable def r2 (_ : Unit) : List Stp := [Fa 12 0 2, Ld 13 true 2 12, SP 14 (.call (fc fn_leak_Sets) [.t 13]), M 11 14, X 15 11 0, X 16 11 1, M 6 15, M 7 16]
@[simp] noncomputable def r3 (_ : Unit) : List Stp := [M 17 7, Bi 18 .eql 17 0, M 19 7, S 20 (.call (fc fn_again_want) [.t 18, .t 19])]
@[simp] noncomputable def r4 (_ : Unit) : List Stp := [M 21 5, M 22 6, S 23 (.nilck Pg (.t 21)), Fa 24 13 23, SN (.store 1 (.t 24) (.t 22))]
@[simp] noncomputable def r5 (_ : Unit) : List Stp := [M 25 5, M 4 25]
@[simp] noncomputable def ir : IR := (.seq (.ops r0) (.seq (.ops r1) (.seq (.ops r2) (.seq (.ops r3) (.seq (.ops r4) (.seq (.ops r5) .ret))))))
@[simp] noncomputable def rs : List RV := [.tmp 4]
theorem comp : compF Pg cf0 Tryz.f25 = some (ir, rs, 26) := by kernel_rfl
theorem enter : Entr Pg fn_again_look 26 [] ir (RetK rs) := Entr.of follows Tryz.func25 comp
theorem pure : Pur Pg fn_again_look 26 [] ir (RetK rs) := Pur.of enter
end again_look

namespace again_ship_verdict
@[simp] noncomputable def r0 (_ : Unit) : List Stp := [S 6 (.alloc [(.bool false), (.bool false)])]
@[simp] noncomputable def r1 (_ : Unit) : List Stp := [M 8 0, M 9 2, S 10 (.call (fc fn_again_ship_promised) [.t 8, .t 9]), S 7 (.alloc [.int .i64 0]), SN (.store 1 (.t 7) (.t 10))]
@[simp] noncomputable def r2 (_ : Unit) : List Stp := [M 11 1, S 12 (.mkF (.func fn_again_ship_verdict_1) [] [.t 7]), S 13 (.call (fc fn_again_joined_again_verdict) [.t 11, .t 12, (fc fn_again_ship_verdict_2)]), SN (.store 2 (.t 6) (.t 13))]
@[simp] noncomputable def ir : IR := (.seq (.ops r0) (.seq (.ops r1) (.seq (.ops r2) .ret)))
@[simp] noncomputable def rs : List RV := [.cell 6 true 2]
theorem comp : compF Pg cf0 Tryz.f26 = some (ir, rs, 14) := by kernel_rfl
theorem enter : Entr Pg fn_again_ship_verdict 14 [] ir (RetK rs) := Entr.of follows Tryz.func26 comp
theorem pure : Pur Pg fn_again_ship_verdict 14 [] ir (RetK rs) := Pur.of enter
end again_ship_verdict

namespace again_verdict_told
@[simp] noncomputable def r0 (_ : Unit) : List Stp := [S 1 (.box (.t 0)), MI 2 0]
@[simp] noncomputable def r1 (_ : Unit) : List Stp := [Ld 3 true 2 1]
@[simp] noncomputable def r2 (_ : Unit) : List Stp := [S 5 (.build [(.bool false), (.bool false)] [(0, 1, (.c (.bool true)))]), S 6 (.eqA false [.b, .b] (.t 3) (.t 5)), M 4 6]
@[simp] noncomputable def r3 (_ : Unit) : List Stp := [MI 2 2]
@[simp] noncomputable def r4 (_ : Unit) : List Stp := [S 8 (.build [(.bool false), (.bool false)] [(1, 1, (.c (.bool true)))]), S 9 (.eqA false [.b, .b] (.t 3) (.t 8)), M 7 9]
@[simp] noncomputable def r5 (_ : Unit) : List Stp := [MI 2 0]
@[simp] noncomputable def r6 (_ : Unit) : List Stp := [MI 2 1]
@[simp] noncomputable def ir : IR := (.seq (.ops r0) (.seq (.seq (.ops r1) (.block 0 (.seq (.ops r2) (.cond (.t 4) (.seq (.ops r3) .ret) (.seq (.ops r4) (.cond (.t 7) (.seq (.ops r5) .ret) .skip)))))) (.seq (.ops r6) .ret)))
@[simp] noncomputable def rs : List RV := [.tmp 2]
theorem comp : compF Pg cf0 Tryz.f27 = some (ir, rs, 10) := by kernel_rfl
theorem enter : Entr Pg fn_again_verdict_told 10 [] ir (RetK rs) := Entr.of follows Tryz.func27 comp
theorem pure : Pur Pg fn_again_verdict_told 10 [] ir (RetK rs) := Pur.of enter
end again_verdict_told

namespace again_Pays_1
@[simp] noncomputable def r0 (_ : Unit) : List Stp := [S 1 (.recov), S 2 (.call (fc fn_again_said) [.t 1, .t 0])]
@[simp] noncomputable def ir : IR := (.ops r0)
@[simp] noncomputable def rs : List RV := []
theorem comp : compF Pg cf0 Tryz.f28 = some (ir, rs, 3) := by kernel_rfl
theorem enter : Entr Pg fn_again_Pays_1 3 [] ir (RetK rs) := Entr.of follows Tryz.func28 comp
theorem pure : Pur Pg fn_again_Pays_1 3 [] ir (RetK rs) := Pur.of enter
theorem recClo : RecClo Pg fn_again_Pays_1 fn_again_said := ⟨_, Tryz.func28, by kernel_rfl⟩
end again_Pays_1

namespace again_ship_span
@[simp] noncomputable def r0 (_ : Unit) : List Stp := [S 2 (.box (.t 0)), S 3 (.box (.t 1)), S 4 (.alloc [.int .i64 0, .int .i64 0])]
@[simp] noncomputable def r1 (_ : Unit) : List Stp := [S 5 (.alloc [.nilf]), SN (.store 1 (.t 5) (fc fn_again_lengths_sum))]
@[simp] noncomputable def r2 (_ : Unit) : List Stp := [Ld 6 false 1 2, S 7 (.nilck Pg (.t 6)), Fa 8 13 7, Ld 9 false 1 8, S 10 (.mkF (.func fn_again_ship_span_1) [] [.t 5, .t 2, .t 3]), S 11 (.call (fc fn_again_joined_api_Span) [.t 9, .t 10, (fc fn_again_hull)]), SN (.store 2 (.t 4) (.t 11))]
@[simp] noncomputable def ir : IR := (.seq (.ops r0) (.seq (.ops r1) (.seq (.ops r2) .ret)))
@[simp] noncomputable def rs : List RV := [.cell 4 true 2]
theorem comp : compF Pg cf0 Tryz.f29 = some (ir, rs, 12) := by kernel_rfl
theorem enter : Entr Pg fn_again_ship_span 12 [] ir (RetK rs) := Entr.of follows Tryz.func29 comp
theorem pure : Pur Pg fn_again_ship_span 12 [] ir (RetK rs) := Pur.of enter
end again_ship_span

namespace again_Nothing_1
@[simp] noncomputable def r0 (_ : Unit) : List Stp := [S 1 (.recov), S 2 (.call (fc fn_again_said) [.t 1, .t 0])]
@[simp] noncomputable def ir : IR := (.ops r0)
@[simp] noncomputable def rs : List RV := []
theorem comp : compF Pg cf0 Tryz.f30 = some (ir, rs, 3) := by kernel_rfl
theorem enter : Entr Pg fn_again_Nothing_1 3 [] ir (RetK rs) := Entr.of follows Tryz.func30 comp
theorem pure : Pur Pg fn_again_Nothing_1 3 [] ir (RetK rs) := Pur.of enter
theorem recClo : RecClo Pg fn_again_Nothing_1 fn_again_said := ⟨_, Tryz.func30, by kernel_rfl⟩
end again_Nothing_1

namespace rake_Next
noncomputable def cfg : Cfg := { pure := pures, pcs := [], raw := [], cuts := [], draws := [(4, [⟨0, false, [], []⟩, ⟨1, false, [], []⟩, ⟨2, false, [], []⟩, ⟨4, false, [], []⟩, ⟨3, false, [], [4]⟩, ⟨5, false, [], []⟩, ⟨6, false, [], []⟩, ⟨7, false, [], []⟩, ⟨8, false, [], []⟩, ⟨9, false, [], []⟩, ⟨10, false, [], []⟩])], keep := [4, 5, 6] }
@[simp] noncomputable def r0 (_ : Unit) : List Stp := [S 2 (.box (.t 0)), MI 4 0, MI 5 0, S 6 (.alloc [.int .i64 0])]
@[simp] noncomputable def r1 (_ : Unit) : List Stp := [S 11 (.mkF (.func fn_rake_Next_1) [] [.t 6]), SN (.defer (.t 11) [])]
@[simp] noncomputable def r2 (_ : Unit) : List Stp := [Ld 13 true 3 2, M 14 1, S 15 (.call (fc fn_rake_open) [.t 13, .t 14, (.c (.bool true))]), M 12 15, X 16 12 0, X 17 12 1, S 8 (.alloc [.int .i64 0, .int .i64 0]), M 7 16, SN (.store 2 (.t 8) (.t 17))]
@[simp] noncomputable def r3 (_ : Unit) : List Stp := [M 18 7, Ld 19 true 2 8, S 20 (.call (fc fn_rake_hull_agreeing) [.t 18, .t 19]), S 21 (.len (.t 20)), Bi 22 .gtr 21 1, S 23 (.call (fc fn_rake_want) [.t 22, (ci 4)])]
@[simp] noncomputable def r4 (_ : Unit) : List Stp := [M 25 7, S 26 (.build [] []), S 27 (.mkI 133 (.t 26)), Ld 29 true 2 8, SD (some 28) (.call (fc fn_rake_hull_plan) [.t 25, .t 27]) false [] [I 29 (.load true 2 (.t 8))], S 30 (.call (.t 28) [.t 29]), M 24 30, X 31 24 0, X 32 24 1, M 9 31, M 10 32]
@[simp] noncomputable def r5 (_ : Unit) : List Stp := [M 33 9, M 34 10, M 4 33, M 5 34, SN (.store 1 (.t 6) (ci 0))]
@[simp] noncomputable def ir : IR := (.seq (.ops r0) (.seq (.ops r1) (.seq (.ops r2) (.seq (.ops r3) (.seq (.ops r4) (.seq (.ops r5) .ret))))))
@[simp] noncomputable def rs : List RV := [.tmp 4, .tmp 5, .cell 6 false 1]
theorem comp : compF Pg cfg Tryz.f31 = some (ir, rs, 35) := by kernel_rfl
theorem enter : Entr Pg fn_rake_Next 35 [4, 5, 6] ir (RetD Pg rs) := Entr.ofD follows Tryz.func31 comp
theorem pure : Pur Pg fn_rake_Next 35 [4, 5, 6] ir (RetD Pg rs) := Pur.of enter
end rake_Next

namespace rake_Known_1
@[simp] noncomputable def r0 (_ : Unit) : List Stp := [S 1 (.recov), S 2 (.call (fc fn_rake_said) [.t 1, .t 0])]
@[simp] noncomputable def ir : IR := (.ops r0)
@[simp] noncomputable def rs : List RV := []
theorem comp : compF Pg cf0 Tryz.f32 = some (ir, rs, 3) := by kernel_rfl
theorem enter : Entr Pg fn_rake_Known_1 3 [] ir (RetK rs) := Entr.of follows Tryz.func32 comp
theorem pure : Pur Pg fn_rake_Known_1 3 [] ir (RetK rs) := Pur.of enter
theorem recClo : RecClo Pg fn_rake_Known_1 fn_rake_said := ⟨_, Tryz.func32, by kernel_rfl⟩
end rake_Known_1

namespace rake_said
@[simp] noncomputable def r0 (_ : Unit) : List Stp := [M 6 0, S 7 (.eqN .i false (.t 6))]
@[simp] noncomputable def r1 (_ : Unit) : List Stp := [M 9 0, S 10 (.tyAs 135 true (.agg [.int .i64 0]) (.t 9)), M 8 10, X 11 8 0, X 12 8 1, S 4 (.alloc [.int .i64 0]), SN (.store 1 (.t 4) (.t 11)), M 5 12]
@[simp] noncomputable def r2 (_ : Unit) : List Stp := [M 13 5, S 14 (.un .not (.t 13))]
@[simp] noncomputable def r3 (_ : Unit) : List Stp := [M 15 0, SN (.panic (.t 15))]
@[simp] noncomputable def r4 (_ : Unit) : List Stp := [M 16 1, Fa 17 0 4, Ld 18 false 1 17, S 19 (.nilck Pg (.t 16)), SN (.store 1 (.t 19) (.t 18))]
@[simp] noncomputable def ir : IR := (.seq (.seq (.ops r0) (.cond (.t 7) .ret .skip)) (.seq (.ops r1) (.seq (.seq (.ops r2) (.cond (.t 14) (.ops r3) .skip)) (.ops r4))))
@[simp] noncomputable def rs : List RV := []
theorem comp : compF Pg cf0 Tryz.f33 = some (ir, rs, 20) := by kernel_rfl
theorem enter : Entr Pg fn_rake_said 20 [] ir (RetK rs) := Entr.of follows Tryz.func33 comp
theorem pure : Pur Pg fn_rake_said 20 [] ir (RetK rs) := Pur.of enter
end rake_said

namespace rake_open
noncomputable def cfg : Cfg := { pure := pures, pcs := [], raw := [], cuts := [], draws := [(3, [⟨0, false, [], []⟩, ⟨1, false, [], []⟩, ⟨2, false, [], []⟩, ⟨3, false, [], []⟩, ⟨4, false, [], []⟩, ⟨5, false, [], []⟩, ⟨6, false, [], []⟩]), (14, [⟨0, false, [], []⟩, ⟨2, false, [], []⟩, ⟨1, false, [], []⟩, ⟨3, false, [], []⟩])], keep := [] }
@[simp] noncomputable def r0 (_ : Unit) : List Stp := [S 3 (.box (.t 0)), S 6 (.mv (.c .nilp)), S 7 (.alloc [.int .i64 0, .int .i64 0])]
@[simp] noncomputable def r1 (_ : Unit) : List Stp := [Ld 14 true 3 3, M 15 1, M 16 2, S 17 (.call (fc fn_rake_check) [.t 14, .t 15, .t 16])]
@[simp] noncomputable def r2 (_ : Unit) : List Stp := [Fa 18 2 3, Ld 19 false 1 18, S 20 (.len (.t 19)), S 21 (.build [.int .i64 0, .int .i64 0, .int .i64 0, .int .i64 0, .int .i64 0, .int .i64 0, .int .i64 0, .nils] [(6, 1, (.t 20))]), S 22 (.box (.t 21)), M 8 22]
@[simp] noncomputable def r3 (_ : Unit) : List Stp := [M 23 8, S 24 (.nilck Pg (.t 23)), Fa 25 0 24, S 26 (.slA 6 1 (.t 25) none none none), Fa 27 2 3, Ld 28 false 1 27, S 29 (.copy 1 (.t 26) (.t 28))]
@[simp] noncomputable def r4 (_ : Unit) : List Stp := [Fa 31 0 3, Ld 32 true 2 31, SP 33 (.call (fc fn_leak_Sets) [.t 32]), M 30 33, X 34 30 0, X 35 30 1, M 9 34, M 10 35]
@[simp] noncomputable def r5 (_ : Unit) : List Stp := [M 36 10, Bi 37 .eql 36 0, M 38 10, S 39 (.call (fc fn_rake_want) [.t 37, .t 38])]
@[simp] noncomputable def r6 (_ : Unit) : List Stp := [M 40 8, M 41 9, S 42 (.nilck Pg (.t 40)), Fa 43 7 42, SN (.store 1 (.t 43) (.t 41))]
@[simp] noncomputable def r7 (_ : Unit) : List Stp := [S 11 (.alloc [.int .i64 0, .int .i64 0])]
@[simp] noncomputable def r8 (_ : Unit) : List Stp := [M 44 1, S 45 (.len (.t 44)), MI 46 0]
@[simp] noncomputable def r9 (_ : Unit) : List Stp := [Bn 47 .lss 46 45]
@[simp] noncomputable def r10 (_ : Unit) : List Stp := [S 48 (.ixS 2 (.t 44) (.t 46)), Ld 49 true 2 48, S 13 (.alloc [.int .i64 0, (.bool false)]), SN (.store 2 (.t 13) (.t 49))]
@[simp] noncomputable def r11 (_ : Unit) : List Stp := [Ld 50 true 2 11, Fa 51 0 13, Ld 52 false 1 51, Fa 53 1 13, Ld 54 false 1 53, SP 55 (.call (fc fn_rake_known_with) [.t 50, .t 52, .t 54]), SN (.store 2 (.t 11) (.t 55))]
@[simp] noncomputable def r12 (_ : Unit) : List Stp := [Bi 56 .add 46 1, M 46 56]
@[simp] noncomputable def r13 (_ : Unit) : List Stp := [M 57 8, Ld 58 true 2 11, S 59 (.call (fc fn_rake_hull_agreeing) [.t 57, .t 58]), S 60 (.len (.t 59)), Bi 61 .gtr 60 0, S 62 (.call (fc fn_rake_want) [.t 61, (ci 10)])]
@[simp] noncomputable def r14 (_ : Unit) : List Stp := [M 63 8, M 6 63, Ld 64 true 2 11, SN (.store 2 (.t 7) (.t 64))]
@[simp] noncomputable def ir : IR := (.seq (.ops r0) (.seq (.ops r1) (.seq (.ops r2) (.seq (.ops r3) (.seq (.ops r4) (.seq (.ops r5) (.seq (.ops r6) (.seq (.ops r7) (.seq (.seq (.ops r8) (.block 0 (.loop (.seq (.ops r9) (.seq (.cond (.t 47) .skip (.exit 0)) (.seq (.block 1 (.seq (.ops r10) (.ops r11))) (.ops r12))))))) (.seq (.ops r13) (.seq (.ops r14) .ret)))))))))))
@[simp] noncomputable def rs : List RV := [.tmp 6, .cell 7 true 2]
theorem comp : compF Pg cfg Tryz.f34 = some (ir, rs, 65) := by kernel_rfl
theorem enter : Entr Pg fn_rake_open 65 [] ir (RetK rs) := Entr.of follows Tryz.func34 comp
theorem pure : Pur Pg fn_rake_open 65 [] ir (RetK rs) := Pur.of enter
end rake_open

namespace rake_hull_agreeing
@[simp] noncomputable def r0 (_ : Unit) : List Stp := [S 3 (.box (.t 1)), S 4 (.mv (.c .nils))]
@[simp] noncomputable def r1 (_ : Unit) : List Stp := [M 7 0, S 8 (.nilck Pg (.t 7)), Fa 9 7 8, Ld 10 false 1 9, S 11 (.len (.t 10)), MI 12 0]
@[simp] noncomputable def r2 (_ : Unit) : List Stp := [Bn 13 .lss 12 11]
@[simp] noncomputable def r3 (_ : Unit) : List Stp := [S 14 (.ixS 1 (.t 10) (.t 12)), Ld 15 false 1 14, M 6 15]
@[simp] noncomputable def r4 (_ : Unit) : List Stp := [Ld 16 true 2 3, M 17 6, SP 18 (.call (fc fn_rake_known_agrees) [.t 16, .t 17])]
@[simp] noncomputable def r5 (_ : Unit) : List Stp := [M 19 4, M 20 6, S 21 (.bsl 1 [.int .i64 0] [(0, 1, (.t 20))]), S 22 (.app 1 8 (.t 19) (.t 21)), M 4 22]
@[simp] noncomputable def r6 (_ : Unit) : List Stp := [Bi 23 .add 12 1, M 12 23]
@[simp] noncomputable def r7 (_ : Unit) : List Stp := [M 24 4, M 4 24]
@[simp] noncomputable def ir : IR := (.seq (.ops r0) (.seq (.seq (.ops r1) (.block 0 (.loop (.seq (.ops r2) (.seq (.cond (.t 13) .skip (.exit 0)) (.seq (.block 1 (.seq (.ops r3) (.seq (.ops r4) (.cond (.t 18) (.ops r5) .skip)))) (.ops r6))))))) (.seq (.ops r7) .ret)))
@[simp] noncomputable def rs : List RV := [.tmp 4]
theorem comp : compF Pg cf0 Tryz.f35 = some (ir, rs, 25) := by kernel_rfl
theorem enter : Entr Pg fn_rake_hull_agreeing 25 [] ir (RetK rs) := Entr.of follows Tryz.func35 comp
theorem pure : Pur Pg fn_rake_hull_agreeing 25 [] ir (RetK rs) := Pur.of enter
end rake_hull_agreeing

namespace again_Ask_1
@[simp] noncomputable def r0 (_ : Unit) : List Stp := [S 1 (.recov), S 2 (.call (fc fn_again_said) [.t 1, .t 0])]
@[simp] noncomputable def ir : IR := (.ops r0)
@[simp] noncomputable def rs : List RV := []
theorem comp : compF Pg cf0 Tryz.f36 = some (ir, rs, 3) := by kernel_rfl
theorem enter : Entr Pg fn_again_Ask_1 3 [] ir (RetK rs) := Entr.of follows Tryz.func36 comp
theorem pure : Pur Pg fn_again_Ask_1 3 [] ir (RetK rs) := Pur.of enter
theorem recClo : RecClo Pg fn_again_Ask_1 fn_again_said := ⟨_, Tryz.func36, by kernel_rfl⟩
end again_Ask_1

namespace again_want
@[simp] noncomputable def r0 (_ : Unit) : List Stp := [M 4 0, S 5 (.un .not (.t 4))]
@[simp] noncomputable def r1 (_ : Unit) : List Stp := [M 6 1, S 7 (.build [.int .i64 0] [(0, 1, (.t 6))]), S 8 (.mkI 109 (.t 7)), SN (.panic (.t 8))]
@[simp] noncomputable def ir : IR := (.seq (.ops r0) (.cond (.t 5) (.ops r1) .skip))
@[simp] noncomputable def rs : List RV := []
theorem comp : compF Pg cf0 Tryz.f37 = some (ir, rs, 9) := by kernel_rfl
theorem enter : Entr Pg fn_again_want 9 [] ir (RetK rs) := Entr.of follows Tryz.func37 comp
theorem pure : Pur Pg fn_again_want 9 [] ir (RetK rs) := Pur.of enter
end again_want

namespace again_places
@[simp] noncomputable def r0 (_ : Unit) : List Stp := [S 0 (.mv (.c .nilf))]
@[simp] noncomputable def r1 (_ : Unit) : List Stp := [S 0 (.mv (fc fn_again_places_1))]
@[simp] noncomputable def ir : IR := (.seq (.ops r0) (.seq (.ops r1) .ret))
@[simp] noncomputable def rs : List RV := [.tmp 0]
theorem comp : compF Pg cf0 Tryz.f38 = some (ir, rs, 1) := by kernel_rfl
theorem enter : Entr Pg fn_again_places 1 [] ir (RetK rs) := Entr.of follows Tryz.func38 comp
theorem pure : Pur Pg fn_again_places 1 [] ir (RetK rs) := Pur.of enter
end again_places

namespace again_ship_settles
noncomputable def cfg : Cfg := { pure := [6, 7, 8, 9, 10, 11, 12, 13, 14, 15, 16, 17, 19, 27, 31, 40, 41, 45, 47, 57, 60, 65, 66, 68, 70, 71, 73, 74, 76, 78, 84, 89, 98, 101, 110, 152], pcs := [], raw := [], cuts := [], draws := [(1, [⟨0, false, [], []⟩, ⟨1, false, [], []⟩, ⟨2, false, [], []⟩, ⟨3, false, [], []⟩, ⟨5, false, [], []⟩, ⟨7, false, [], []⟩, ⟨4, false, [], []⟩, ⟨6, false, [], []⟩, ⟨8, false, [], []⟩, ⟨9, false, [], []⟩, ⟨10, false, [], []⟩, ⟨11, false, [], []⟩, ⟨12, false, [], []⟩, ⟨13, true, [], []⟩, ⟨14, false, [], []⟩, ⟨15, false, [], []⟩]), (7, [⟨0, false, [], []⟩, ⟨1, false, [], []⟩, ⟨2, false, [], []⟩, ⟨3, false, [], []⟩, ⟨4, false, [], []⟩, ⟨7, false, [], []⟩, ⟨9, false, [], []⟩, ⟨11, false, [], []⟩, ⟨12, false, [], []⟩, ⟨13, false, [], []⟩, ⟨5, false, [], []⟩, ⟨8, false, [], []⟩, ⟨10, false, [], []⟩, ⟨14, false, [], []⟩, ⟨6, false, [15], [8, 10]⟩, ⟨15, true, [], []⟩, ⟨16, false, [], []⟩, ⟨17, false, [], []⟩, ⟨18, false, [], []⟩])], keep := [] }
@[simp] noncomputable def r0 (_ : Unit) : List Stp := [S 3 (.box (.t 1)), S 4 (.mv (.c (.bool false)))]
@[simp] noncomputable def r1 (_ : Unit) : List Stp := [M 12 0, S 13 (.nilck Pg (.t 12)), Fa 14 0 13, Fa 15 0 14, Fa 17 0 3, Fa 19 1 3, Ld 16 true 2 15, Ld 18 false 1 17, Ld 20 false 1 19, SP 21 (.call (fc fn_leak_Flow) [.t 16, .t 18, .t 20]), M 11 21, X 22 11 0, X 23 11 1, SD (some 5) (.alloc [.int .i64 0, .int .i64 0]) true [] [], SN (.store 2 (.t 5) (.t 22)), M 6 23]
@[simp] noncomputable def r2 (_ : Unit) : List Stp := [M 24 6, Bi 25 .eql 24 0, M 26 6, S 27 (.call (fc fn_again_want) [.t 25, .t 26])]
@[simp] noncomputable def r3 (_ : Unit) : List Stp := [Fa 28 0 5, Ld 29 false 1 28, M 7 29]
@[simp] noncomputable def r4 (_ : Unit) : List Stp := [M 30 7, Fa 31 1 5, Ld 32 false 1 31, Bn 33 .leq 30 32]
@[simp] noncomputable def r6 (_ : Unit) : List Stp := [M 36 0, S 37 (.nilck Pg (.t 36)), Fa 38 0 37, Fa 39 0 38, Ld 40 true 2 39, S 8 (.alloc [.nils, .nils]), SN (.store 2 (.t 8) (.t 40))]
@[simp] noncomputable def r7 (_ : Unit) : List Stp := [M 41 0, S 42 (.nilck Pg (.t 41)), Fa 43 0 42, Fa 44 0 43, Fa 45 1 44, Fa 48 0 3, Fa 50 1 3, M 52 7, M 53 7, S 54 (.build [.int .i64 0, .int .i64 0] [(0, 1, (.t 52)), (1, 1, (.t 53))]), Ld 46 false 1 45, Ld 49 false 1 48, Ld 51 false 1 50, S 55 (.build [.int .i64 0, .int .i64 0, .int .i64 0, .int .i64 0] [(0, 1, (.t 49)), (1, 1, (.t 51)), (2, 2, (.t 54))]), SD (some 47) (.call (fc fn_slices_Clone_api_LeakSounding_api_LeakSounding) [.t 46]) false [I 56 (.bsl 1 [.int .i64 0, .int .i64 0, .int .i64 0, .int .i64 0] [(0, 4, (.t 55))])] [I 49 (.load false 1 (.t 48)), I 51 (.load false 1 (.t 50))], SD (some 56) (.bsl 1 [.int .i64 0, .int .i64 0, .int .i64 0, .int .i64 0] [(0, 4, (.t 55))]) true [] [], S 57 (.app 4 32 (.t 47) (.t 56)), Fa 58 1 8, SN (.store 1 (.t 58) (.t 57))]
@[simp] noncomputable def r8 (_ : Unit) : List Stp := [Ld 60 true 2 8, S 61 (.call (fc fn_leak_Sets) [.t 60]), M 59 61, X 62 59 0, X 63 59 1, M 9 62, M 10 63]
@[simp] noncomputable def r9 (_ : Unit) : List Stp := [M 64 10, Bi 65 .eql 64 0, M 66 65, Mg 67 66 true 0, Mg 68 66 true 9, Mg 69 66 true 0, SG 70 66 true (.nilck Pg (.t 69)), SG 71 66 true (.fAddr 0 (.t 70)), SG 72 66 true (.fAddr 5 (.t 71)), SG 73 66 true (.load false 1 (.t 72)), SG 74 66 true (.call (fc fn_again_ship_verdict) [.t 67, .t 68, .t 73]), SGP 75 66 true (.call (fc fn_again_verdict_told) [.t 74]), SG 76 66 true (.bin .eql (.t 75) (ci 1)), Pa 77 66 76]
@[simp] noncomputable def r10 (_ : Unit) : List Stp := [S 4 (.mv (.c (.bool false)))]
@[simp] noncomputable def r5 (_ : Unit) : List Stp := [M 34 7, Bi 35 .add 34 1, M 7 35]
@[simp] noncomputable def r11 (_ : Unit) : List Stp := [S 4 (.mv (.c (.bool true)))]
@[simp] noncomputable def ir : IR := (.seq (.ops r0) (.seq (.ops r1) (.seq (.ops r2) (.seq (.seq (.ops r3) (.block 0 (.loop (.seq (.seq (.ops r4) (.cond (.t 33) .skip (.exit 0))) (.seq (.block 1 (.seq (.ops r6) (.seq (.ops r7) (.seq (.ops r8) (.seq (.ops r9) (.cond (.t 77) (.seq (.ops r10) .ret) .skip)))))) (.ops r5)))))) (.seq (.ops r11) .ret)))))
@[simp] noncomputable def rs : List RV := [.tmp 4]
theorem comp : compF Pg cfg Tryz.f39 = some (ir, rs, 78) := by kernel_rfl
theorem enter : Entr Pg fn_again_ship_settles 78 [] ir (RetK rs) := Entr.of follows Tryz.func39 comp
theorem pure : Pur Pg fn_again_ship_settles 78 [] ir (RetK rs) := Pur.of enter
end again_ship_settles

namespace leak_Wet_1
@[simp] noncomputable def r0 (_ : Unit) : List Stp := [S 1 (.recov), S 2 (.call (fc fn_leak_said) [.t 1, .t 0])]
@[simp] noncomputable def ir : IR := (.ops r0)
@[simp] noncomputable def rs : List RV := []
theorem comp : compF Pg cf0 Tryz.f42 = some (ir, rs, 3) := by kernel_rfl
theorem enter : Entr Pg fn_leak_Wet_1 3 [] ir (RetK rs) := Entr.of follows Tryz.func42 comp
theorem pure : Pur Pg fn_leak_Wet_1 3 [] ir (RetK rs) := Pur.of enter
theorem recClo : RecClo Pg fn_leak_Wet_1 fn_leak_said := ⟨_, Tryz.func42, by kernel_rfl⟩
end leak_Wet_1

namespace leak_said
@[simp] noncomputable def r0 (_ : Unit) : List Stp := [M 6 0, S 7 (.eqN .i false (.t 6))]
@[simp] noncomputable def r1 (_ : Unit) : List Stp := [M 9 0, S 10 (.tyAs 148 true (.agg [.int .i64 0]) (.t 9)), M 8 10, X 11 8 0, X 12 8 1, S 4 (.alloc [.int .i64 0]), SN (.store 1 (.t 4) (.t 11)), M 5 12]
@[simp] noncomputable def r2 (_ : Unit) : List Stp := [M 13 5, S 14 (.un .not (.t 13))]
@[simp] noncomputable def r3 (_ : Unit) : List Stp := [M 15 0, SN (.panic (.t 15))]
@[simp] noncomputable def r4 (_ : Unit) : List Stp := [M 16 1, Fa 17 0 4, Ld 18 false 1 17, S 19 (.nilck Pg (.t 16)), SN (.store 1 (.t 19) (.t 18))]
@[simp] noncomputable def ir : IR := (.seq (.seq (.ops r0) (.cond (.t 7) .ret .skip)) (.seq (.ops r1) (.seq (.seq (.ops r2) (.cond (.t 14) (.ops r3) .skip)) (.ops r4))))
@[simp] noncomputable def rs : List RV := []
theorem comp : compF Pg cf0 Tryz.f43 = some (ir, rs, 20) := by kernel_rfl
theorem enter : Entr Pg fn_leak_said 20 [] ir (RetK rs) := Entr.of follows Tryz.func43 comp
theorem pure : Pur Pg fn_leak_said 20 [] ir (RetK rs) := Pur.of enter
end leak_said

namespace leak_open
noncomputable def cfg : Cfg := { pure := pures, pcs := [], raw := [], cuts := [], draws := [(7, [⟨0, false, [], []⟩, ⟨1, false, [], []⟩, ⟨2, false, [], []⟩, ⟨3, false, [], []⟩, ⟨5, false, [], []⟩, ⟨4, false, [], []⟩, ⟨6, false, [], []⟩, ⟨7, true, [], []⟩, ⟨8, false, [], []⟩, ⟨9, false, [], []⟩, ⟨10, false, [], []⟩, ⟨11, false, [], []⟩])], keep := [] }
@[simp] noncomputable def r0 (_ : Unit) : List Stp := [S 2 (.box (.t 0)), S 4 (.mv (.c .nilp))]
@[simp] noncomputable def r1 (_ : Unit) : List Stp := [Fa 10 0 2, Ld 11 false 1 10, S 12 (.len (.t 11)), SP 13 (.call (fc fn_leak_within) [.t 12, (ci 1), (ci 6)]), M 14 13, SG 15 14 true (.fAddr 1 (.t 2)), SG 16 14 true (.load false 1 (.t 15)), SG 17 14 true (.len (.t 16)), SG 18 14 true (.bin .leq (.t 17) (ci 8)), Pa 19 14 18, S 20 (.call (fc fn_leak_want) [.t 19, (ci 1)])]
@[simp] noncomputable def r2 (_ : Unit) : List Stp := [Ld 21 true 2 2, S 22 (.mkmap), S 23 (.build [.nils, .nils, .nils, .nilm] [(0, 2, (.t 21)), (3, 1, (.t 22))]), S 24 (.box (.t 23)), M 5 24]
@[simp] noncomputable def r3 (_ : Unit) : List Stp := [Fa 25 0 2, Ld 26 false 1 25, S 27 (.len (.t 26)), MI 28 0]
@[simp] noncomputable def r4 (_ : Unit) : List Stp := [Bn 29 .lss 28 27]
@[simp] noncomputable def r5 (_ : Unit) : List Stp := [S 30 (.ixS 3 (.t 26) (.t 28)), Ld 31 true 3 30, S 7 (.alloc [.int .i64 0, .int .i64 0, .int .i64 0]), SN (.store 3 (.t 7) (.t 31))]
@[simp] noncomputable def r6 (_ : Unit) : List Stp := [Fa 32 0 7, Ld 33 false 1 32, SP 34 (.call (fc fn_leak_within) [.t 33, (ci 0), (ci 12)]), M 35 34, SG 36 35 true (.fAddr 1 (.t 7)), SG 37 35 true (.load false 1 (.t 36)), SGP 38 35 true (.call (fc fn_leak_within) [.t 37, (ci (-1)), (ci 1)]), Pa 39 35 38, M 40 39, SG 41 40 true (.fAddr 2 (.t 7)), SG 42 40 true (.load false 1 (.t 41)), SGP 43 40 true (.call (fc fn_leak_within) [.t 42, (ci 0), (ci 4)]), Pa 44 40 43, S 45 (.call (fc fn_leak_want) [.t 44, (ci 1)])]
@[simp] noncomputable def r7 (_ : Unit) : List Stp := [M 46 5, M 47 5, S 48 (.nilck Pg (.t 47)), Fa 49 2 48, Fa 51 2 7, Ld 50 false 1 49, Ld 52 false 1 51, SD (some 53) (.bsl 1 [.int .i64 0] [(0, 1, (.t 52))]) true [] [], S 54 (.app 1 8 (.t 50) (.t 53)), S 55 (.nilck Pg (.t 46)), Fa 56 2 55, SN (.store 1 (.t 56) (.t 54))]
@[simp] noncomputable def r8 (_ : Unit) : List Stp := [Bi 57 .add 28 1, M 28 57]
@[simp] noncomputable def r9 (_ : Unit) : List Stp := [Fa 58 1 2, Ld 59 false 1 58, S 60 (.len (.t 59)), MI 61 0]
@[simp] noncomputable def r10 (_ : Unit) : List Stp := [Bn 62 .lss 61 60]
@[simp] noncomputable def r11 (_ : Unit) : List Stp := [S 63 (.ixS 4 (.t 59) (.t 61)), Ld 64 true 4 63, S 9 (.alloc [.int .i64 0, .int .i64 0, .int .i64 0, .int .i64 0]), SN (.store 4 (.t 9) (.t 64))]
@[simp] noncomputable def r12 (_ : Unit) : List Stp := [Fa 65 0 9, Ld 66 false 1 65, Fa 67 1 9, Ld 68 false 1 67, S 69 (.build [.int .i64 0, .int .i64 0] [(0, 1, (.t 66)), (1, 1, (.t 68))]), SP 70 (.call (fc fn_leak_place_isPlace) [.t 69]), M 71 70, SG 72 71 true (.fAddr 2 (.t 9)), SG 73 71 true (.fAddr 0 (.t 72)), SG 74 71 true (.load false 1 (.t 73)), SG 75 71 true (.fAddr 2 (.t 9)), SG 76 71 true (.fAddr 1 (.t 75)), SG 77 71 true (.load false 1 (.t 76)), SGP 78 71 true (.call (fc fn_leak_within) [.t 74, (ci 0), .t 77]), Pa 79 71 78, M 80 79, SG 81 80 true (.fAddr 2 (.t 9)), SG 82 80 true (.fAddr 1 (.t 81)), SG 83 80 true (.load false 1 (.t 82)), SG 84 80 true (.bin .leq (.t 83) (ci 24)), Pa 85 80 84, S 86 (.call (fc fn_leak_want) [.t 85, (ci 1)])]
@[simp] noncomputable def r13 (_ : Unit) : List Stp := [Bi 87 .add 61 1, M 61 87]
@[simp] noncomputable def r14 (_ : Unit) : List Stp := [M 88 1, S 89 (.call (fc fn_leak_want) [.t 88, (ci 2)])]
@[simp] noncomputable def r15 (_ : Unit) : List Stp := [M 90 5, M 4 90]
@[simp] noncomputable def ir : IR := (.seq (.ops r0) (.seq (.ops r1) (.seq (.ops r2) (.seq (.seq (.ops r3) (.block 0 (.loop (.seq (.ops r4) (.seq (.cond (.t 29) .skip (.exit 0)) (.seq (.block 1 (.seq (.ops r5) (.seq (.ops r6) (.ops r7)))) (.ops r8))))))) (.seq (.seq (.ops r9) (.block 2 (.loop (.seq (.ops r10) (.seq (.cond (.t 62) .skip (.exit 2)) (.seq (.block 3 (.seq (.ops r11) (.ops r12))) (.ops r13))))))) (.seq (.ops r14) (.seq (.ops r15) .ret)))))))
@[simp] noncomputable def rs : List RV := [.tmp 4]
theorem comp : compF Pg cfg Tryz.f44 = some (ir, rs, 91) := by kernel_rfl
theorem enter : Entr Pg fn_leak_open 91 [] ir (RetK rs) := Entr.of follows Tryz.func44 comp
theorem pure : Pur Pg fn_leak_open 91 [] ir (RetK rs) := Pur.of enter
end leak_open

namespace leak_place_isPlace
@[simp] noncomputable def r0 (_ : Unit) : List Stp := [S 1 (.box (.t 0)), S 2 (.mv (.c (.bool false)))]
@[simp] noncomputable def r1 (_ : Unit) : List Stp := [Fa 3 0 1, Ld 4 false 1 3, SP 5 (.call (fc fn_leak_within) [.t 4, (ci 0), (ci 12)]), M 6 5, SG 7 6 true (.fAddr 1 (.t 1)), SG 8 6 true (.load false 1 (.t 7)), SGP 9 6 true (.call (fc fn_leak_within) [.t 8, (ci (-3)), (ci 3)]), Pa 10 6 9, M 2 10]
@[simp] noncomputable def ir : IR := (.seq (.ops r0) (.seq (.ops r1) .ret))
@[simp] noncomputable def rs : List RV := [.tmp 2]
theorem comp : compF Pg cf0 Tryz.f45 = some (ir, rs, 11) := by kernel_rfl
theorem enter : Entr Pg fn_leak_place_isPlace 11 [] ir (RetK rs) := Entr.of follows Tryz.func45 comp
theorem pure : Pur Pg fn_leak_place_isPlace 11 [] ir (RetK rs) := Pur.of enter
end leak_place_isPlace

namespace leak_hull_wet
noncomputable def cfg : Cfg := { pure := pures, pcs := [], raw := [], cuts := [], draws := [(1, [⟨0, false, [], []⟩, ⟨1, false, [], []⟩, ⟨2, false, [], []⟩, ⟨3, false, [], []⟩, ⟨4, false, [], []⟩, ⟨5, false, [], []⟩, ⟨6, false, [], []⟩, ⟨7, false, [], []⟩, ⟨8, false, [], []⟩, ⟨9, false, [], []⟩, ⟨10, false, [], []⟩]), (11, [⟨0, false, [], []⟩, ⟨1, false, [], []⟩, ⟨2, false, [], []⟩, ⟨5, false, [], []⟩, ⟨3, false, [], []⟩, ⟨4, false, [], []⟩, ⟨6, false, [], []⟩])], keep := [] }
@[simp] noncomputable def r0 (_ : Unit) : List Stp := [S 3 (.box (.t 1)), S 4 (.mv (.c (.int .u64 0)))]
@[simp] noncomputable def r1 (_ : Unit) : List Stp := [M 11 0, S 12 (.nilck Pg (.t 11)), Fa 13 3 12, Ld 14 false 1 13, Ld 15 true 2 3, S 16 (.lookup (true, [.i, .i]) true (.int .u64 0) (.t 14) (.t 15)), M 10 16, X 17 10 0, X 18 10 1, M 5 17, M 6 18]
@[simp] noncomputable def r2 (_ : Unit) : List Stp := [M 19 6]
@[simp] noncomputable def r3 (_ : Unit) : List Stp := [M 20 5, M 4 20]
@[simp] noncomputable def r4 (_ : Unit) : List Stp := [S 7 (.mv (.c (.int .u64 0)))]
@[simp] noncomputable def r5 (_ : Unit) : List Stp := [M 21 0, S 22 (.nilck Pg (.t 21)), Fa 23 0 22, Fa 24 0 23, Ld 25 false 1 24, S 26 (.len (.t 25)), MI 27 0]
@[simp] noncomputable def r6 (_ : Unit) : List Stp := [Bn 28 .lss 27 26]
@[simp] noncomputable def r7 (_ : Unit) : List Stp := [M 29 27, S 30 (.ixS 3 (.t 25) (.t 27)), Ld 31 true 3 30, S 9 (.alloc [.int .i64 0, .int .i64 0, .int .i64 0]), M 8 29, SN (.store 3 (.t 9) (.t 31))]
@[simp] noncomputable def r8 (_ : Unit) : List Stp := [Fa 32 0 9, Ld 33 false 1 32, Fa 34 0 3, Ld 35 false 1 34, Fa 36 1 9, Ld 37 false 1 36, Fa 38 1 3, Ld 39 false 1 38, Bn 40 .mul 37 39, Bn 41 .add 35 40, Bn 42 .leq 33 41]
@[simp] noncomputable def r9 (_ : Unit) : List Stp := [M 43 7, M 44 8, S 45 (.bin .shl (.c (.int .u64 1)) (.t 44)), Bn 46 .or 43 45, M 7 46]
@[simp] noncomputable def r10 (_ : Unit) : List Stp := [Bi 47 .add 27 1, M 27 47]
@[simp] noncomputable def r11 (_ : Unit) : List Stp := [M 48 0, S 49 (.nilck Pg (.t 48)), Fa 50 3 49, M 53 7, Ld 51 false 1 50, Ld 52 true 2 3, SN (.mapU (true, [.i, .i]) (.t 51) (.t 52) (.t 53))]
@[simp] noncomputable def r12 (_ : Unit) : List Stp := [M 54 7, M 4 54]
@[simp] noncomputable def ir : IR := (.seq (.ops r0) (.seq (.seq (.ops r1) (.seq (.ops r2) (.cond (.t 19) (.seq (.ops r3) .ret) .skip))) (.seq (.ops r4) (.seq (.seq (.ops r5) (.block 0 (.loop (.seq (.ops r6) (.seq (.cond (.t 28) .skip (.exit 0)) (.seq (.block 1 (.seq (.ops r7) (.seq (.ops r8) (.cond (.t 42) (.ops r9) .skip)))) (.ops r10))))))) (.seq (.ops r11) (.seq (.ops r12) .ret))))))
@[simp] noncomputable def rs : List RV := [.tmp 4]
theorem comp : compF Pg cfg Tryz.f46 = some (ir, rs, 55) := by kernel_rfl
theorem enter : Entr Pg fn_leak_hull_wet 55 [] ir (RetK rs) := Entr.of follows Tryz.func46 comp
theorem pure : Pur Pg fn_leak_hull_wet 55 [] ir (RetK rs) := Pur.of enter
end leak_hull_wet

namespace ref01_Has
@[simp] noncomputable def r0 (_ : Unit) : List Stp := [S 4 (.mv (.c (.bool false)))]
@[simp] noncomputable def r1 (_ : Unit) : List Stp := [M 5 0, M 6 1, SP 7 (.call (fc fn_ref01_power) [.t 6]), Bn 8 .quo 5 7, Bi 9 .rem 8 2, Bi 10 .eql 9 1, M 4 10]
@[simp] noncomputable def ir : IR := (.seq (.ops r0) (.seq (.ops r1) .ret))
@[simp] noncomputable def rs : List RV := [.tmp 4]
theorem comp : compF Pg cf0 Tryz.f47 = some (ir, rs, 11) := by kernel_rfl
theorem enter : Entr Pg fn_ref01_Has 11 [] ir (RetK rs) := Entr.of follows Tryz.func47 comp
theorem pure : Pur Pg fn_ref01_Has 11 [] ir (RetK rs) := Pur.of enter
end ref01_Has

namespace again_check
@[simp] noncomputable def r0 (_ : Unit) : List Stp := [S 2 (.box (.t 0))]
@[simp] noncomputable def r1 (_ : Unit) : List Stp := [Fa 10 0 2, Ld 11 true 2 10, SP 12 (.call (fc fn_leak_Rate) [.t 11, (ci (-1))]), M 9 12, X 13 9 0, X 14 9 1, S 4 (.alloc [.int .i64 0, .int .i64 0]), SN (.store 2 (.t 4) (.t 13)), M 5 14]
@[simp] noncomputable def r2 (_ : Unit) : List Stp := [S 6 (.mv (fc fn_again_check_1))]
@[simp] noncomputable def r3 (_ : Unit) : List Stp := [M 15 5, Bi 16 .eql 15 2, M 17 16, SG 18 17 true (.fAddr 0 (.t 2)), SG 19 17 true (.fAddr 1 (.t 18)), SG 20 17 true (.load false 1 (.t 19)), SG 21 17 true (.len (.t 20)), SG 22 17 true (.bin .lss (.t 21) (ci 8)), Pa 23 17 22, M 24 23, SG 25 24 true (.fAddr 2 (.t 2)), SG 26 24 true (.load false 1 (.t 25)), SG 27 24 true (.len (.t 26)), SG 28 24 true (.fAddr 0 (.t 2)), SG 29 24 true (.fAddr 0 (.t 28)), SG 30 24 true (.load false 1 (.t 29)), SG 31 24 true (.len (.t 30)), SG 32 24 true (.bin .eql (.t 27) (.t 31)), Pa 33 24 32, M 34 33, SG 35 34 true (.fAddr 2 (.t 2)), SG 36 34 true (.load false 1 (.t 35)), Mg 37 34 true 6, SG 38 34 true (.call (fc fn_slices_ContainsFunc_int_int) [.t 36, .t 37]), SG 39 34 true (.un .not (.t 38)), Pa 40 34 39, S 41 (.call (fc fn_again_want) [.t 40, (ci 1)])]
@[simp] noncomputable def r4 (_ : Unit) : List Stp := [Fa 42 3 2, Ld 43 false 1 42, SP 44 (.call (fc fn_again_within) [.t 43, (ci 0), (ci 100)]), M 45 44, SG 46 45 true (.fAddr 5 (.t 2)), SG 47 45 true (.load false 1 (.t 46)), SGP 48 45 true (.call (fc fn_again_within) [.t 47, (ci 0), (ci 5000)]), Pa 49 45 48, M 50 49, SG 51 50 true (.fAddr 4 (.t 2)), SG 52 50 true (.load false 1 (.t 51)), SG 53 50 true (.len (.t 52)), SG 54 50 true (.bin .leq (.t 53) (ci 12)), Pa 55 50 54, S 56 (.call (fc fn_again_want) [.t 55, (ci 1)])]
@[simp] noncomputable def r5 (_ : Unit) : List Stp := [Fa 57 4 2, Ld 58 false 1 57, S 59 (.len (.t 58)), MI 60 0]
@[simp] noncomputable def r6 (_ : Unit) : List Stp := [Bn 61 .lss 60 59]
@[simp] noncomputable def r7 (_ : Unit) : List Stp := [S 62 (.ixS 3 (.t 58) (.t 60)), Ld 63 true 3 62, S 8 (.alloc [.int .i64 0, .int .i64 0, .int .i64 0]), SN (.store 3 (.t 8) (.t 63))]
@[simp] noncomputable def r8 (_ : Unit) : List Stp := [Ld 64 true 6 2, Ld 65 true 3 8, SP 66 (.call (fc fn_again_isWork) [.t 64, .t 65]), S 67 (.call (fc fn_again_want) [.t 66, (ci 1)])]
@[simp] noncomputable def r9 (_ : Unit) : List Stp := [Bi 68 .add 60 1, M 60 68]
@[simp] noncomputable def r10 (_ : Unit) : List Stp := [M 69 1, S 70 (.call (fc fn_again_want) [.t 69, (ci 2)])]
@[simp] noncomputable def ir : IR := (.seq (.ops r0) (.seq (.ops r1) (.seq (.ops r2) (.seq (.ops r3) (.seq (.ops r4) (.seq (.seq (.ops r5) (.block 0 (.loop (.seq (.ops r6) (.seq (.cond (.t 61) .skip (.exit 0)) (.seq (.block 1 (.seq (.ops r7) (.ops r8))) (.ops r9))))))) (.ops r10)))))))
@[simp] noncomputable def rs : List RV := []
theorem comp : compF Pg cf0 Tryz.f48 = some (ir, rs, 71) := by kernel_rfl
theorem enter : Entr Pg fn_again_check 71 [] ir (RetK rs) := Entr.of follows Tryz.func48 comp
theorem pure : Pur Pg fn_again_check 71 [] ir (RetK rs) := Pur.of enter
end again_check

namespace again_open_1
@[simp] noncomputable def r0 (_ : Unit) : List Stp := [S 2 (.box (.t 0)), S 3 (.box (.t 1)), MI 4 0]
@[simp] noncomputable def r1 (_ : Unit) : List Stp := [Fa 5 1 2, Ld 6 false 1 5, Fa 7 1 3, Ld 8 false 1 7, S 9 (.call (fc fn_cmp_Compare_int) [.t 6, .t 8]), M 4 9]
@[simp] noncomputable def ir : IR := (.seq (.ops r0) (.seq (.ops r1) .ret))
@[simp] noncomputable def rs : List RV := [.tmp 4]
theorem comp : compF Pg cf0 Tryz.f49 = some (ir, rs, 10) := by kernel_rfl
theorem enter : Entr Pg fn_again_open_1 10 [] ir (RetK rs) := Entr.of follows Tryz.func49 comp
theorem pure : Pur Pg fn_again_open_1 10 [] ir (RetK rs) := Pur.of enter
end again_open_1

namespace cmp_Compare_int
@[simp] noncomputable def r0 (_ : Unit) : List Stp := [MI 4 0]
@[simp] noncomputable def r1 (_ : Unit) : List Stp := [M 7 0, S 8 (.call (fc fn_cmp_isNaN_int) [.t 7]), M 5 8]
@[simp] noncomputable def r2 (_ : Unit) : List Stp := [M 9 1, S 10 (.call (fc fn_cmp_isNaN_int) [.t 9]), M 6 10]
@[simp] noncomputable def r3 (_ : Unit) : List Stp := [M 11 5]
@[simp] noncomputable def r4 (_ : Unit) : List Stp := [M 12 6]
@[simp] noncomputable def r5 (_ : Unit) : List Stp := [MI 4 0]
@[simp] noncomputable def r6 (_ : Unit) : List Stp := [MI 4 (-1)]
@[simp] noncomputable def r7 (_ : Unit) : List Stp := [M 13 6]
@[simp] noncomputable def r8 (_ : Unit) : List Stp := [MI 4 1]
@[simp] noncomputable def r9 (_ : Unit) : List Stp := [M 14 0, M 15 1, Bn 16 .lss 14 15]
@[simp] noncomputable def r10 (_ : Unit) : List Stp := [MI 4 (-1)]
@[simp] noncomputable def r11 (_ : Unit) : List Stp := [M 17 0, M 18 1, Bn 19 .gtr 17 18]
@[simp] noncomputable def r12 (_ : Unit) : List Stp := [MI 4 1]
@[simp] noncomputable def r13 (_ : Unit) : List Stp := [MI 4 0]
@[simp] noncomputable def ir : IR := (.seq (.ops r0) (.seq (.ops r1) (.seq (.ops r2) (.seq (.seq (.ops r3) (.cond (.t 11) (.seq (.seq (.ops r4) (.cond (.t 12) (.seq (.ops r5) .ret) .skip)) (.seq (.ops r6) .ret)) .skip)) (.seq (.seq (.ops r7) (.cond (.t 13) (.seq (.ops r8) .ret) .skip)) (.seq (.seq (.ops r9) (.cond (.t 16) (.seq (.ops r10) .ret) .skip)) (.seq (.seq (.ops r11) (.cond (.t 19) (.seq (.ops r12) .ret) .skip)) (.seq (.ops r13) .ret))))))))
@[simp] noncomputable def rs : List RV := [.tmp 4]
theorem comp : compF Pg cf0 Tryz.f50 = some (ir, rs, 20) := by kernel_rfl
theorem enter : Entr Pg fn_cmp_Compare_int 20 [] ir (RetK rs) := Entr.of follows Tryz.func50 comp
theorem pure : Pur Pg fn_cmp_Compare_int 20 [] ir (RetK rs) := Pur.of enter
end cmp_Compare_int

namespace slices_SortStableFunc_api_AgainWork_api_AgainWork
@[simp] noncomputable def r0 (_ : Unit) : List Stp := [M 4 0, M 5 0, S 6 (.len (.t 5)), M 7 1, S 8 (.call (fc fn_slices_stableCmpFunc_api_AgainWork) [.t 4, .t 6, .t 7])]
@[simp] noncomputable def ir : IR := (.ops r0)
@[simp] noncomputable def rs : List RV := []
theorem comp : compF Pg cf0 Tryz.f51 = some (ir, rs, 9) := by kernel_rfl
theorem enter : Entr Pg fn_slices_SortStableFunc_api_AgainWork_api_AgainWork 9 [] ir (RetK rs) := Entr.of follows Tryz.func51 comp
theorem pure : Pur Pg fn_slices_SortStableFunc_api_AgainWork_api_AgainWork 9 [] ir (RetK rs) := Pur.of enter
end slices_SortStableFunc_api_AgainWork_api_AgainWork

namespace again_setOf
@[simp] noncomputable def r0 (_ : Unit) : List Stp := [MI 2 0]
@[simp] noncomputable def r1 (_ : Unit) : List Stp := [M 5 0, S 6 (.len (.t 5)), MI 7 0]
@[simp] noncomputable def r2 (_ : Unit) : List Stp := [Bn 8 .lss 7 6]
@[simp] noncomputable def r3 (_ : Unit) : List Stp := [S 9 (.ixS 1 (.t 5) (.t 7)), Ld 10 false 1 9, M 4 10]
@[simp] noncomputable def r4 (_ : Unit) : List Stp := [M 11 2, M 12 4, S 13 (.bin .shl (ci 1) (.t 12)), Bn 14 .or 11 13, M 2 14]
@[simp] noncomputable def r5 (_ : Unit) : List Stp := [Bi 15 .add 7 1, M 7 15]
@[simp] noncomputable def r6 (_ : Unit) : List Stp := [M 16 2, M 2 16]
@[simp] noncomputable def ir : IR := (.seq (.ops r0) (.seq (.seq (.ops r1) (.block 0 (.loop (.seq (.ops r2) (.seq (.cond (.t 8) .skip (.exit 0)) (.seq (.block 1 (.seq (.ops r3) (.ops r4))) (.ops r5))))))) (.seq (.ops r6) .ret)))
@[simp] noncomputable def rs : List RV := [.tmp 2]
theorem comp : compF Pg cf0 Tryz.f52 = some (ir, rs, 17) := by kernel_rfl
theorem enter : Entr Pg fn_again_setOf 17 [] ir (RetK rs) := Entr.of follows Tryz.func52 comp
theorem pure : Pur Pg fn_again_setOf 17 [] ir (RetK rs) := Pur.of enter
end again_setOf

namespace leak_Sets
noncomputable def cfg : Cfg := { pure := pures, pcs := [], raw := [], cuts := [], draws := [], keep := [2, 3] }
@[simp] noncomputable def r0 (_ : Unit) : List Stp := [S 1 (.box (.t 0)), S 2 (.mv (.c .nils)), S 3 (.alloc [.int .i64 0])]
@[simp] noncomputable def r1 (_ : Unit) : List Stp := [S 4 (.mkF (.func fn_leak_Sets_1) [] [.t 3]), SN (.defer (.t 4) [])]
@[simp] noncomputable def r2 (_ : Unit) : List Stp := [Ld 5 true 2 1, S 6 (.call (fc fn_leak_open) [.t 5, (.c (.bool true))]), S 7 (.call (fc fn_leak_hull_sets) [.t 6]), M 2 7, SN (.store 1 (.t 3) (ci 0))]
@[simp] noncomputable def ir : IR := (.seq (.ops r0) (.seq (.ops r1) (.seq (.ops r2) .ret)))
@[simp] noncomputable def rs : List RV := [.tmp 2, .cell 3 false 1]
theorem comp : compF Pg cfg Tryz.f53 = some (ir, rs, 8) := by kernel_rfl
theorem enter : Entr Pg fn_leak_Sets 8 [2, 3] ir (RetD Pg rs) := Entr.ofD follows Tryz.func53 comp
theorem pure : Pur Pg fn_leak_Sets 8 [2, 3] ir (RetD Pg rs) := Pur.of enter
end leak_Sets

namespace again_joined_again_verdict
noncomputable def cfg : Cfg := { pure := pures, pcs := [], raw := [], cuts := [], draws := [(5, [⟨0, false, [], []⟩, ⟨2, false, [], []⟩, ⟨3, false, [], []⟩, ⟨1, false, [], []⟩, ⟨4, false, [], [1]⟩, ⟨5, false, [], []⟩, ⟨6, false, [], []⟩])], keep := [] }
@[simp] noncomputable def r0 (_ : Unit) : List Stp := [S 6 (.alloc [(.bool false), (.bool false)])]
@[simp] noncomputable def r1 (_ : Unit) : List Stp := [M 10 1, M 11 0, S 12 (.ixS 1 (.t 11) (ci 0)), Ld 13 false 1 12, S 14 (.call (.t 10) [.t 13]), S 7 (.alloc [(.bool false), (.bool false)]), SN (.store 2 (.t 7) (.t 14))]
@[simp] noncomputable def r2 (_ : Unit) : List Stp := [M 15 0, S 16 (.slS 1 (.t 15) (some (ci 1)) none none), S 17 (.len (.t 16)), MI 18 0]
@[simp] noncomputable def r3 (_ : Unit) : List Stp := [Bn 19 .lss 18 17]
@[simp] noncomputable def r4 (_ : Unit) : List Stp := [S 20 (.ixS 1 (.t 16) (.t 18)), Ld 21 false 1 20, M 9 21]
@[simp] noncomputable def r5 (_ : Unit) : List Stp := [M 22 2, M 24 1, M 25 9, Ld 23 true 2 7, SD (some 26) (.call (.t 24) [.t 25]) false [] [I 23 (.load true 2 (.t 7))], S 27 (.call (.t 22) [.t 23, .t 26]), SN (.store 2 (.t 7) (.t 27))]
@[simp] noncomputable def r6 (_ : Unit) : List Stp := [Bi 28 .add 18 1, M 18 28]
@[simp] noncomputable def r7 (_ : Unit) : List Stp := [Ld 29 true 2 7, SN (.store 2 (.t 6) (.t 29))]
@[simp] noncomputable def ir : IR := (.seq (.ops r0) (.seq (.ops r1) (.seq (.seq (.ops r2) (.block 0 (.loop (.seq (.ops r3) (.seq (.cond (.t 19) .skip (.exit 0)) (.seq (.block 1 (.seq (.ops r4) (.ops r5))) (.ops r6))))))) (.seq (.ops r7) .ret))))
@[simp] noncomputable def rs : List RV := [.cell 6 true 2]
theorem comp : compF Pg cfg Tryz.f54 = some (ir, rs, 30) := by kernel_rfl
theorem enter : Entr Pg fn_again_joined_again_verdict 30 [] ir (RetK rs) := Entr.of follows Tryz.func54 comp
theorem pure : Pur Pg fn_again_joined_again_verdict 30 [] ir (RetK rs) := Pur.of enter
end again_joined_again_verdict

namespace again_ship_verdict_1
@[simp] noncomputable def r0 (_ : Unit) : List Stp := [S 3 (.alloc [(.bool false), (.bool false)])]
@[simp] noncomputable def r1 (_ : Unit) : List Stp := [M 5 0, Bi 6 .neq 5 0, M 7 6, Mg 8 7 true 0, SG 9 7 true (.load false 1 (.t 1)), SG 10 7 true (.bin .andNot (.t 8) (.t 9)), SG 11 7 true (.bin .eql (.t 10) (ci 0)), Pa 12 7 11, M 4 12]
@[simp] noncomputable def r2 (_ : Unit) : List Stp := [M 13 4, M 14 4, S 15 (.un .not (.t 14)), S 16 (.build [(.bool false), (.bool false)] [(0, 1, (.t 13)), (1, 1, (.t 15))]), SN (.store 2 (.t 3) (.t 16))]
@[simp] noncomputable def ir : IR := (.seq (.ops r0) (.seq (.ops r1) (.seq (.ops r2) .ret)))
@[simp] noncomputable def rs : List RV := [.cell 3 true 2]
theorem comp : compF Pg cf0 Tryz.f55 = some (ir, rs, 17) := by kernel_rfl
theorem enter : Entr Pg fn_again_ship_verdict_1 17 [] ir (RetK rs) := Entr.of follows Tryz.func55 comp
theorem pure : Pur Pg fn_again_ship_verdict_1 17 [] ir (RetK rs) := Pur.of enter
end again_ship_verdict_1

namespace again_ship_verdict_2
@[simp] noncomputable def r0 (_ : Unit) : List Stp := [S 2 (.box (.t 0)), S 3 (.box (.t 1)), S 4 (.alloc [(.bool false), (.bool false)])]
@[simp] noncomputable def r1 (_ : Unit) : List Stp := [Fa 5 0 2, Ld 6 false 1 5, M 7 6, SG 8 7 false (.fAddr 0 (.t 3)), SG 9 7 false (.load false 1 (.t 8)), Po 10 7 9, Fa 11 1 2, Ld 12 false 1 11, M 13 12, SG 14 13 false (.fAddr 1 (.t 3)), SG 15 13 false (.load false 1 (.t 14)), Po 16 13 15, S 17 (.build [(.bool false), (.bool false)] [(0, 1, (.t 10)), (1, 1, (.t 16))]), SN (.store 2 (.t 4) (.t 17))]
@[simp] noncomputable def ir : IR := (.seq (.ops r0) (.seq (.ops r1) .ret))
@[simp] noncomputable def rs : List RV := [.cell 4 true 2]
theorem comp : compF Pg cf0 Tryz.f56 = some (ir, rs, 18) := by kernel_rfl
theorem enter : Entr Pg fn_again_ship_verdict_2 18 [] ir (RetK rs) := Entr.of follows Tryz.func56 comp
theorem pure : Pur Pg fn_again_ship_verdict_2 18 [] ir (RetK rs) := Pur.of enter
end again_ship_verdict_2

namespace again_lengths_sum
@[simp] noncomputable def r0 (_ : Unit) : List Stp := [S 2 (.box (.t 0)), MI 4 0]
@[simp] noncomputable def r1 (_ : Unit) : List Stp := [Ld 7 true 6 2, MI 8 0]
@[simp] noncomputable def r2 (_ : Unit) : List Stp := [Bi 9 .lss 8 6]
@[simp] noncomputable def r3 (_ : Unit) : List Stp := [M 10 8, S 11 (.ixV 6 1 false (.t 7) (.t 8)), M 5 10, M 6 11]
@[simp] noncomputable def r4 (_ : Unit) : List Stp := [M 12 1, M 13 5, Bn 14 .shr 12 13, Bi 15 .and 14 1, Bi 16 .eql 15 1]
@[simp] noncomputable def r5 (_ : Unit) : List Stp := [M 17 4, M 18 6, Bn 19 .add 17 18, M 4 19]
@[simp] noncomputable def r6 (_ : Unit) : List Stp := [Bi 20 .add 8 1, M 8 20]
@[simp] noncomputable def r7 (_ : Unit) : List Stp := [M 21 4, M 4 21]
@[simp] noncomputable def ir : IR := (.seq (.ops r0) (.seq (.seq (.ops r1) (.block 0 (.loop (.seq (.ops r2) (.seq (.cond (.t 9) .skip (.exit 0)) (.seq (.block 1 (.seq (.ops r3) (.seq (.ops r4) (.cond (.t 16) (.ops r5) .skip)))) (.ops r6))))))) (.seq (.ops r7) .ret)))
@[simp] noncomputable def rs : List RV := [.tmp 4]
theorem comp : compF Pg cf0 Tryz.f57 = some (ir, rs, 22) := by kernel_rfl
theorem enter : Entr Pg fn_again_lengths_sum 22 [] ir (RetK rs) := Entr.of follows Tryz.func57 comp
theorem pure : Pur Pg fn_again_lengths_sum 22 [] ir (RetK rs) := Pur.of enter
end again_lengths_sum

namespace again_joined_api_Span
noncomputable def cfg : Cfg := { pure := pures, pcs := [], raw := [], cuts := [], draws := [(5, [⟨0, false, [], []⟩, ⟨2, false, [], []⟩, ⟨3, false, [], []⟩, ⟨1, false, [], []⟩, ⟨4, false, [], [1]⟩, ⟨5, false, [], []⟩, ⟨6, false, [], []⟩])], keep := [] }
@[simp] noncomputable def r0 (_ : Unit) : List Stp := [S 6 (.alloc [.int .i64 0, .int .i64 0])]
@[simp] noncomputable def r1 (_ : Unit) : List Stp := [M 10 1, M 11 0, S 12 (.ixS 1 (.t 11) (ci 0)), Ld 13 false 1 12, S 14 (.call (.t 10) [.t 13]), S 7 (.alloc [.int .i64 0, .int .i64 0]), SN (.store 2 (.t 7) (.t 14))]
@[simp] noncomputable def r2 (_ : Unit) : List Stp := [M 15 0, S 16 (.slS 1 (.t 15) (some (ci 1)) none none), S 17 (.len (.t 16)), MI 18 0]
@[simp] noncomputable def r3 (_ : Unit) : List Stp := [Bn 19 .lss 18 17]
@[simp] noncomputable def r4 (_ : Unit) : List Stp := [S 20 (.ixS 1 (.t 16) (.t 18)), Ld 21 false 1 20, M 9 21]
@[simp] noncomputable def r5 (_ : Unit) : List Stp := [M 22 2, M 24 1, M 25 9, Ld 23 true 2 7, SD (some 26) (.call (.t 24) [.t 25]) false [] [I 23 (.load true 2 (.t 7))], S 27 (.call (.t 22) [.t 23, .t 26]), SN (.store 2 (.t 7) (.t 27))]
@[simp] noncomputable def r6 (_ : Unit) : List Stp := [Bi 28 .add 18 1, M 18 28]
@[simp] noncomputable def r7 (_ : Unit) : List Stp := [Ld 29 true 2 7, SN (.store 2 (.t 6) (.t 29))]
@[simp] noncomputable def ir : IR := (.seq (.ops r0) (.seq (.ops r1) (.seq (.seq (.ops r2) (.block 0 (.loop (.seq (.ops r3) (.seq (.cond (.t 19) .skip (.exit 0)) (.seq (.block 1 (.seq (.ops r4) (.ops r5))) (.ops r6))))))) (.seq (.ops r7) .ret))))
@[simp] noncomputable def rs : List RV := [.cell 6 true 2]
theorem comp : compF Pg cfg Tryz.f58 = some (ir, rs, 30) := by kernel_rfl
theorem enter : Entr Pg fn_again_joined_api_Span 30 [] ir (RetK rs) := Entr.of follows Tryz.func58 comp
theorem pure : Pur Pg fn_again_joined_api_Span 30 [] ir (RetK rs) := Pur.of enter
end again_joined_api_Span

namespace again_ship_span_1
noncomputable def cfg : Cfg := { pure := pures, pcs := [], raw := [], cuts := [], draws := [(1, [⟨7, false, [], []⟩, ⟨0, false, [], []⟩, ⟨1, false, [], []⟩, ⟨2, false, [], []⟩, ⟨3, false, [], []⟩, ⟨4, false, [], []⟩, ⟨5, false, [], []⟩, ⟨6, false, [], []⟩, ⟨8, false, [], [0, 1, 4]⟩, ⟨9, false, [], []⟩, ⟨10, false, [], []⟩])], keep := [] }
@[simp] noncomputable def r0 (_ : Unit) : List Stp := [S 5 (.alloc [.int .i64 0, .int .i64 0])]
@[simp] noncomputable def r1 (_ : Unit) : List Stp := [M 14 0, Ld 7 false 1 1, Ld 8 false 1 2, S 9 (.nilck Pg (.t 8)), Fa 10 6 9, Ld 11 true 6 10, Ld 12 false 1 3, Ld 13 false 1 2, SD (some 15) (.inv (.t 12) "caulkworks/again.seams" [.t 13, .t 14]) false [] [I 7 (.load false 1 (.t 1)), I 8 (.load false 1 (.t 2)), I 11 (.load true 6 (.t 10))], S 16 (.call (.t 7) [.t 11, .t 15]), M 6 16]
@[simp] noncomputable def r2 (_ : Unit) : List Stp := [M 17 6, M 18 6, S 19 (.build [.int .i64 0, .int .i64 0] [(0, 1, (.t 17)), (1, 1, (.t 18))]), SN (.store 2 (.t 5) (.t 19))]
@[simp] noncomputable def ir : IR := (.seq (.ops r0) (.seq (.ops r1) (.seq (.ops r2) .ret)))
@[simp] noncomputable def rs : List RV := [.cell 5 true 2]
theorem comp : compF Pg cfg Tryz.f59 = some (ir, rs, 20) := by kernel_rfl
theorem enter : Entr Pg fn_again_ship_span_1 20 [] ir (RetK rs) := Entr.of follows Tryz.func59 comp
theorem pure : Pur Pg fn_again_ship_span_1 20 [] ir (RetK rs) := Pur.of enter
end again_ship_span_1

namespace again_hull
@[simp] noncomputable def r0 (_ : Unit) : List Stp := [S 2 (.box (.t 0)), S 3 (.box (.t 1)), S 4 (.alloc [.int .i64 0, .int .i64 0])]
@[simp] noncomputable def r1 (_ : Unit) : List Stp := [Fa 5 0 2, Ld 6 false 1 5, Fa 7 0 3, Ld 8 false 1 7, S 9 (.mm false [.t 6, .t 8]), Fa 10 1 2, Ld 11 false 1 10, Fa 12 1 3, Ld 13 false 1 12, S 14 (.mm true [.t 11, .t 13]), S 15 (.build [.int .i64 0, .int .i64 0] [(0, 1, (.t 9)), (1, 1, (.t 14))]), SN (.store 2 (.t 4) (.t 15))]
@[simp] noncomputable def ir : IR := (.seq (.ops r0) (.seq (.ops r1) .ret))
@[simp] noncomputable def rs : List RV := [.cell 4 true 2]
theorem comp : compF Pg cf0 Tryz.f60 = some (ir, rs, 16) := by kernel_rfl
theorem enter : Entr Pg fn_again_hull 16 [] ir (RetK rs) := Entr.of follows Tryz.func60 comp
theorem pure : Pur Pg fn_again_hull 16 [] ir (RetK rs) := Pur.of enter
end again_hull

namespace rake_Next_1
@[simp] noncomputable def r0 (_ : Unit) : List Stp := [S 1 (.recov), S 2 (.call (fc fn_rake_said) [.t 1, .t 0])]
@[simp] noncomputable def ir : IR := (.ops r0)
@[simp] noncomputable def rs : List RV := []
theorem comp : compF Pg cf0 Tryz.f61 = some (ir, rs, 3) := by kernel_rfl
theorem enter : Entr Pg fn_rake_Next_1 3 [] ir (RetK rs) := Entr.of follows Tryz.func61 comp
theorem pure : Pur Pg fn_rake_Next_1 3 [] ir (RetK rs) := Pur.of enter
theorem recClo : RecClo Pg fn_rake_Next_1 fn_rake_said := ⟨_, Tryz.func61, by kernel_rfl⟩
end rake_Next_1

namespace rake_want
@[simp] noncomputable def r0 (_ : Unit) : List Stp := [M 4 0, S 5 (.un .not (.t 4))]
@[simp] noncomputable def r1 (_ : Unit) : List Stp := [M 6 1, S 7 (.build [.int .i64 0] [(0, 1, (.t 6))]), S 8 (.mkI 135 (.t 7)), SN (.panic (.t 8))]
@[simp] noncomputable def ir : IR := (.seq (.ops r0) (.cond (.t 5) (.ops r1) .skip))
@[simp] noncomputable def rs : List RV := []
theorem comp : compF Pg cf0 Tryz.f62 = some (ir, rs, 9) := by kernel_rfl
theorem enter : Entr Pg fn_rake_want 9 [] ir (RetK rs) := Entr.of follows Tryz.func62 comp
theorem pure : Pur Pg fn_rake_want 9 [] ir (RetK rs) := Pur.of enter
end rake_want

namespace rake_hull_plan
@[simp] noncomputable def r0 (_ : Unit) : List Stp := [S 2 (.box (.t 0)), S 3 (.box (.t 1)), S 4 (.mv (.c .nilf))]
@[simp] noncomputable def r1 (_ : Unit) : List Stp := [S 7 (.mkmap), S 5 (.alloc [.nilm]), SN (.store 1 (.t 5) (.t 7))]
@[simp] noncomputable def r2 (_ : Unit) : List Stp := [S 6 (.alloc [.nilf])]
@[simp] noncomputable def r3 (_ : Unit) : List Stp := [S 8 (.mkF (.func fn_rake_hull_plan_1) [] [.t 2, .t 3, .t 5, .t 6]), SN (.store 1 (.t 6) (.t 8))]
@[simp] noncomputable def r4 (_ : Unit) : List Stp := [Ld 9 false 1 6, M 4 9]
@[simp] noncomputable def ir : IR := (.seq (.ops r0) (.seq (.ops r1) (.seq (.ops r2) (.seq (.ops r3) (.seq (.ops r4) .ret)))))
@[simp] noncomputable def rs : List RV := [.tmp 4]
theorem comp : compF Pg cf0 Tryz.f63 = some (ir, rs, 10) := by kernel_rfl
theorem enter : Entr Pg fn_rake_hull_plan 10 [] ir (RetK rs) := Entr.of follows Tryz.func63 comp
theorem pure : Pur Pg fn_rake_hull_plan 10 [] ir (RetK rs) := Pur.of enter
end rake_hull_plan

namespace rake_check
@[simp] noncomputable def r0 (_ : Unit) : List Stp := [S 3 (.box (.t 0))]
@[simp] noncomputable def r1 (_ : Unit) : List Stp := [Fa 15 0 3, Ld 16 true 2 15, SP 17 (.call (fc fn_leak_Rate) [.t 16, (ci (-1))]), M 14 17, X 18 14 0, X 19 14 1, S 6 (.alloc [.int .i64 0, .int .i64 0]), SN (.store 2 (.t 6) (.t 18)), M 7 19]
@[simp] noncomputable def r2 (_ : Unit) : List Stp := [S 8 (.mv (fc fn_rake_check_1))]
@[simp] noncomputable def r3 (_ : Unit) : List Stp := [M 20 7, Bi 21 .eql 20 2, M 22 21, SG 23 22 true (.fAddr 2 (.t 3)), SG 24 22 true (.load false 1 (.t 23)), SG 25 22 true (.len (.t 24)), SG 26 22 true (.fAddr 0 (.t 3)), SG 27 22 true (.fAddr 0 (.t 26)), SG 28 22 true (.load false 1 (.t 27)), SG 29 22 true (.len (.t 28)), SG 30 22 true (.bin .eql (.t 25) (.t 29)), Pa 31 22 30, M 32 31, SG 33 32 true (.fAddr 2 (.t 3)), SG 34 32 true (.load false 1 (.t 33)), Mg 35 32 true 8, SG 36 32 true (.call (fc fn_slices_ContainsFunc_int_int) [.t 34, .t 35]), SG 37 32 true (.un .not (.t 36)), Pa 38 32 37, S 39 (.call (fc fn_rake_want) [.t 38, (ci 1)])]
@[simp] noncomputable def r4 (_ : Unit) : List Stp := [M 40 1, S 41 (.len (.t 40)), MI 42 0]
@[simp] noncomputable def r5 (_ : Unit) : List Stp := [Bn 43 .lss 42 41]
@[simp] noncomputable def r6 (_ : Unit) : List Stp := [S 44 (.ixS 2 (.t 40) (.t 42)), Ld 45 true 2 44, S 10 (.alloc [.int .i64 0, (.bool false)]), SN (.store 2 (.t 10) (.t 45))]
@[simp] noncomputable def r7 (_ : Unit) : List Stp := [Fa 46 0 10, Ld 47 false 1 46, Fa 48 2 3, Ld 49 false 1 48, S 50 (.len (.t 49)), Bi 51 .sub 50 1, SP 52 (.call (fc fn_rake_within) [.t 47, (ci 0), .t 51]), S 53 (.call (fc fn_rake_want) [.t 52, (ci 2)])]
@[simp] noncomputable def r8 (_ : Unit) : List Stp := [Bi 54 .add 42 1, M 42 54]
@[simp] noncomputable def r9 (_ : Unit) : List Stp := [M 55 2, S 56 (.call (fc fn_rake_want) [.t 55, (ci 2)])]
@[simp] noncomputable def r10 (_ : Unit) : List Stp := [S 11 (.alloc [.int .i64 0, .int .i64 0])]
@[simp] noncomputable def r11 (_ : Unit) : List Stp := [M 57 1, S 58 (.len (.t 57)), MI 59 0]
@[simp] noncomputable def r12 (_ : Unit) : List Stp := [Bn 60 .lss 59 58]
@[simp] noncomputable def r13 (_ : Unit) : List Stp := [S 61 (.ixS 2 (.t 57) (.t 59)), Ld 62 true 2 61, S 13 (.alloc [.int .i64 0, (.bool false)]), SN (.store 2 (.t 13) (.t 62))]
@[simp] noncomputable def r14 (_ : Unit) : List Stp := [Fa 63 0 11, Ld 64 false 1 63, Fa 65 0 13, Ld 66 false 1 65, Bn 67 .shr 64 66, Bi 68 .and 67 1, Bi 69 .eql 68 0, S 70 (.call (fc fn_rake_want) [.t 69, (ci 5)])]
@[simp] noncomputable def r15 (_ : Unit) : List Stp := [Ld 71 true 2 11, Fa 72 0 13, Ld 73 false 1 72, Fa 74 1 13, Ld 75 false 1 74, SP 76 (.call (fc fn_rake_known_with) [.t 71, .t 73, .t 75]), SN (.store 2 (.t 11) (.t 76))]
@[simp] noncomputable def r16 (_ : Unit) : List Stp := [Bi 77 .add 59 1, M 59 77]
@[simp] noncomputable def ir : IR := (.seq (.ops r0) (.seq (.ops r1) (.seq (.ops r2) (.seq (.ops r3) (.seq (.seq (.ops r4) (.block 0 (.loop (.seq (.ops r5) (.seq (.cond (.t 43) .skip (.exit 0)) (.seq (.block 1 (.seq (.ops r6) (.ops r7))) (.ops r8))))))) (.seq (.ops r9) (.seq (.ops r10) (.seq (.ops r11) (.block 2 (.loop (.seq (.ops r12) (.seq (.cond (.t 60) .skip (.exit 2)) (.seq (.block 3 (.seq (.ops r13) (.seq (.ops r14) (.ops r15)))) (.ops r16))))))))))))))
@[simp] noncomputable def rs : List RV := []
theorem comp : compF Pg cf0 Tryz.f64 = some (ir, rs, 78) := by kernel_rfl
theorem enter : Entr Pg fn_rake_check 78 [] ir (RetK rs) := Entr.of follows Tryz.func64 comp
theorem pure : Pur Pg fn_rake_check 78 [] ir (RetK rs) := Pur.of enter
end rake_check

namespace rake_known_with
noncomputable def cfg : Cfg := { pure := pures, pcs := [], raw := [], cuts := [], draws := [(1, [⟨0, false, [], []⟩, ⟨2, false, [], []⟩, ⟨3, false, [], []⟩, ⟨1, false, [], []⟩, ⟨4, false, [], []⟩, ⟨5, false, [], []⟩, ⟨6, false, [], []⟩]), (3, [⟨0, false, [], []⟩, ⟨2, false, [], []⟩, ⟨3, false, [], []⟩, ⟨1, false, [], []⟩, ⟨4, false, [], []⟩, ⟨5, false, [], []⟩, ⟨6, false, [], []⟩])], keep := [] }
@[simp] noncomputable def r0 (_ : Unit) : List Stp := [S 3 (.box (.t 0)), S 6 (.alloc [.int .i64 0, .int .i64 0])]
@[simp] noncomputable def r1 (_ : Unit) : List Stp := [Fa 7 0 3, M 9 1, S 10 (.bin .shl (ci 1) (.t 9)), Ld 8 false 1 7, Bn 11 .or 8 10, Fa 12 0 3, SN (.store 1 (.t 12) (.t 11))]
@[simp] noncomputable def r2 (_ : Unit) : List Stp := [M 13 2]
@[simp] noncomputable def r3 (_ : Unit) : List Stp := [Fa 14 1 3, M 16 1, S 17 (.bin .shl (ci 1) (.t 16)), Ld 15 false 1 14, Bn 18 .or 15 17, Fa 19 1 3, SN (.store 1 (.t 19) (.t 18))]
@[simp] noncomputable def r4 (_ : Unit) : List Stp := [Ld 20 true 2 3, SN (.store 2 (.t 6) (.t 20))]
@[simp] noncomputable def ir : IR := (.seq (.ops r0) (.seq (.ops r1) (.seq (.seq (.ops r2) (.cond (.t 13) (.ops r3) .skip)) (.seq (.ops r4) .ret))))
@[simp] noncomputable def rs : List RV := [.cell 6 true 2]
theorem comp : compF Pg cfg Tryz.f65 = some (ir, rs, 21) := by kernel_rfl
theorem enter : Entr Pg fn_rake_known_with 21 [] ir (RetK rs) := Entr.of follows Tryz.func65 comp
theorem pure : Pur Pg fn_rake_known_with 21 [] ir (RetK rs) := Pur.of enter
end rake_known_with

namespace rake_known_agrees
@[simp] noncomputable def r0 (_ : Unit) : List Stp := [S 2 (.box (.t 0)), S 4 (.mv (.c (.bool false)))]
@[simp] noncomputable def r1 (_ : Unit) : List Stp := [M 5 1, Fa 6 0 2, Ld 7 false 1 6, Bn 8 .and 5 7, Fa 9 1 2, Ld 10 false 1 9, Bn 11 .eql 8 10, M 4 11]
@[simp] noncomputable def ir : IR := (.seq (.ops r0) (.seq (.ops r1) .ret))
@[simp] noncomputable def rs : List RV := [.tmp 4]
theorem comp : compF Pg cf0 Tryz.f66 = some (ir, rs, 12) := by kernel_rfl
theorem enter : Entr Pg fn_rake_known_agrees 12 [] ir (RetK rs) := Entr.of follows Tryz.func66 comp
theorem pure : Pur Pg fn_rake_known_agrees 12 [] ir (RetK rs) := Pur.of enter
end rake_known_agrees

namespace again_places_1
@[simp] noncomputable def r0 (_ : Unit) : List Stp := [MI 4 0]
@[simp] noncomputable def r1 (_ : Unit) : List Stp := [Bi 5 .lss 4 13]
@[simp] noncomputable def r2 (_ : Unit) : List Stp := [M 6 4, M 2 6]
@[simp] noncomputable def r3 (_ : Unit) : List Stp := [MI 3 (-3)]
@[simp] noncomputable def r4 (_ : Unit) : List Stp := [M 7 3, Bi 8 .leq 7 3]
@[simp] noncomputable def r6 (_ : Unit) : List Stp := [M 11 0, M 12 2, M 13 3, S 14 (.build [.int .i64 0, .int .i64 0] [(0, 1, (.t 12)), (1, 1, (.t 13))]), S 15 (.call (.t 11) [.t 14]), S 16 (.un .not (.t 15))]
@[simp] noncomputable def r5 (_ : Unit) : List Stp := [M 9 3, Bi 10 .add 9 1, M 3 10]
@[simp] noncomputable def r7 (_ : Unit) : List Stp := [Bi 17 .add 4 1, M 4 17]
@[simp] noncomputable def ir : IR := (.seq (.ops r0) (.block 0 (.loop (.seq (.ops r1) (.seq (.cond (.t 5) .skip (.exit 0)) (.seq (.block 1 (.seq (.ops r2) (.seq (.ops r3) (.block 2 (.loop (.seq (.seq (.ops r4) (.cond (.t 8) .skip (.exit 2))) (.seq (.block 3 (.seq (.ops r6) (.cond (.t 16) .ret .skip))) (.ops r5)))))))) (.ops r7)))))))
@[simp] noncomputable def rs : List RV := []
theorem comp : compF Pg cf0 Tryz.f67 = some (ir, rs, 18) := by kernel_rfl
theorem enter : Entr Pg fn_again_places_1 18 [] ir (RetK rs) := Entr.of follows Tryz.func67 comp
theorem pure : Pur Pg fn_again_places_1 18 [] ir (RetK rs) := Pur.of enter
end again_places_1

namespace leak_Flow
noncomputable def cfg : Cfg := { pure := pures, pcs := [], raw := [], cuts := [], draws := [(3, [⟨0, false, [], []⟩, ⟨1, false, [], []⟩, ⟨2, false, [], []⟩, ⟨3, false, [], []⟩, ⟨4, false, [], []⟩])], keep := [6, 7] }
@[simp] noncomputable def r0 (_ : Unit) : List Stp := [S 3 (.box (.t 0)), S 6 (.alloc [.int .i64 0, .int .i64 0]), S 7 (.alloc [.int .i64 0])]
@[simp] noncomputable def r1 (_ : Unit) : List Stp := [S 10 (.mkF (.func fn_leak_Flow_1) [] [.t 7]), SN (.defer (.t 10) [])]
@[simp] noncomputable def r2 (_ : Unit) : List Stp := [M 11 1, M 12 2, S 13 (.build [.int .i64 0, .int .i64 0] [(0, 1, (.t 11)), (1, 1, (.t 12))]), S 8 (.alloc [.int .i64 0, .int .i64 0]), SN (.store 2 (.t 8) (.t 13))]
@[simp] noncomputable def r3 (_ : Unit) : List Stp := [Ld 14 true 2 3, Ld 15 true 2 8, SP 16 (.call (fc fn_leak_place_isPlace) [.t 15]), S 17 (.call (fc fn_leak_open) [.t 14, .t 16]), M 9 17]
@[simp] noncomputable def r4 (_ : Unit) : List Stp := [M 18 9, M 19 9, Ld 20 true 2 8, S 21 (.call (fc fn_leak_hull_wet) [.t 19, .t 20]), S 22 (.call (fc fn_leak_hull_total) [.t 18, .t 21]), SN (.store 2 (.t 6) (.t 22)), SN (.store 1 (.t 7) (ci 0))]
@[simp] noncomputable def ir : IR := (.seq (.ops r0) (.seq (.ops r1) (.seq (.ops r2) (.seq (.ops r3) (.seq (.ops r4) .ret)))))
@[simp] noncomputable def rs : List RV := [.cell 6 true 2, .cell 7 false 1]
theorem comp : compF Pg cfg Tryz.f68 = some (ir, rs, 23) := by kernel_rfl
theorem enter : Entr Pg fn_leak_Flow 23 [6, 7] ir (RetD Pg rs) := Entr.ofD follows Tryz.func68 comp
theorem pure : Pur Pg fn_leak_Flow 23 [6, 7] ir (RetD Pg rs) := Pur.of enter
end leak_Flow

namespace slices_Clone_api_LeakSounding_api_LeakSounding
@[simp] noncomputable def r0 (_ : Unit) : List Stp := [S 2 (.mv (.c .nils))]
@[simp] noncomputable def r1 (_ : Unit) : List Stp := [M 3 0, S 4 (.eqN .s false (.t 3))]
@[simp] noncomputable def r2 (_ : Unit) : List Stp := [S 2 (.mv (.c .nils))]
@[simp] noncomputable def r3 (_ : Unit) : List Stp := [S 5 (.bsl 0 [] []), M 6 0, S 7 (.app 4 32 (.t 5) (.t 6)), M 2 7]
@[simp] noncomputable def ir : IR := (.seq (.ops r0) (.seq (.seq (.ops r1) (.cond (.t 4) (.seq (.ops r2) .ret) .skip)) (.seq (.ops r3) .ret)))
@[simp] noncomputable def rs : List RV := [.tmp 2]
theorem comp : compF Pg cf0 Tryz.f69 = some (ir, rs, 8) := by kernel_rfl
theorem enter : Entr Pg fn_slices_Clone_api_LeakSounding_api_LeakSounding 8 [] ir (RetK rs) := Entr.of follows Tryz.func69 comp
theorem pure : Pur Pg fn_slices_Clone_api_LeakSounding_api_LeakSounding 8 [] ir (RetK rs) := Pur.of enter
end slices_Clone_api_LeakSounding_api_LeakSounding

namespace rake_Worst
noncomputable def cfg : Cfg := { pure := pures, pcs := [], raw := [], cuts := [], draws := [(3, [⟨0, false, [], []⟩, ⟨1, false, [], []⟩, ⟨2, false, [], []⟩, ⟨4, false, [], []⟩, ⟨3, false, [], [4]⟩, ⟨5, false, [], []⟩, ⟨6, false, [], []⟩, ⟨7, false, [], []⟩, ⟨8, false, [], []⟩, ⟨9, false, [], []⟩, ⟨10, false, [], []⟩])], keep := [2, 3] }
@[simp] noncomputable def r0 (_ : Unit) : List Stp := [S 1 (.box (.t 0)), MI 2 0, S 3 (.alloc [.int .i64 0])]
@[simp] noncomputable def r1 (_ : Unit) : List Stp := [S 8 (.mkF (.func fn_rake_Worst_1) [] [.t 3]), SN (.defer (.t 8) [])]
@[simp] noncomputable def r2 (_ : Unit) : List Stp := [Ld 10 true 3 1, S 11 (.call (fc fn_rake_open) [.t 10, (.c .nils), (.c (.bool true))]), M 9 11, X 12 9 0, X 13 9 1, S 5 (.alloc [.int .i64 0, .int .i64 0]), M 4 12, SN (.store 2 (.t 5) (.t 13))]
@[simp] noncomputable def r3 (_ : Unit) : List Stp := [M 15 4, S 16 (.build [] []), S 17 (.mkI 133 (.t 16)), Ld 19 true 2 5, SD (some 18) (.call (fc fn_rake_hull_plan) [.t 15, .t 17]) false [] [I 19 (.load true 2 (.t 5))], S 20 (.call (.t 18) [.t 19]), M 14 20, X 21 14 0, X 22 14 1, M 6 21, M 7 22]
@[simp] noncomputable def r4 (_ : Unit) : List Stp := [M 23 7, M 2 23, SN (.store 1 (.t 3) (ci 0))]
@[simp] noncomputable def ir : IR := (.seq (.ops r0) (.seq (.ops r1) (.seq (.ops r2) (.seq (.ops r3) (.seq (.ops r4) .ret)))))
@[simp] noncomputable def rs : List RV := [.tmp 2, .cell 3 false 1]
theorem comp : compF Pg cfg Tryz.f70 = some (ir, rs, 24) := by kernel_rfl
theorem enter : Entr Pg fn_rake_Worst 24 [2, 3] ir (RetD Pg rs) := Entr.ofD follows Tryz.func70 comp
theorem pure : Pur Pg fn_rake_Worst 24 [2, 3] ir (RetD Pg rs) := Pur.of enter
end rake_Worst

namespace ref01_Ints
noncomputable def cfg : Cfg := { pure := pures, pcs := [], raw := [], cuts := [], draws := [(6, [⟨0, false, [], []⟩, ⟨1, false, [], []⟩, ⟨2, false, [], []⟩, ⟨4, false, [], []⟩, ⟨5, false, [], []⟩, ⟨6, false, [], []⟩, ⟨3, false, [], []⟩, ⟨7, false, [], []⟩, ⟨8, false, [], []⟩])], keep := [] }
@[simp] noncomputable def r0 (_ : Unit) : List Stp := [S 4 (.mv (.c (.bool false)))]
@[simp] noncomputable def r1 (_ : Unit) : List Stp := [M 6 0, S 7 (.len (.t 6)), M 8 1, S 9 (.len (.t 8)), Bn 10 .neq 7 9]
@[simp] noncomputable def r2 (_ : Unit) : List Stp := [S 4 (.mv (.c (.bool false)))]
@[simp] noncomputable def r3 (_ : Unit) : List Stp := [MI 5 0]
@[simp] noncomputable def r4 (_ : Unit) : List Stp := [M 11 5, M 12 0, S 13 (.len (.t 12)), Bn 14 .lss 11 13]
@[simp] noncomputable def r6 (_ : Unit) : List Stp := [M 17 0, M 18 5, S 19 (.ixS 1 (.t 17) (.t 18)), M 21 1, M 22 5, S 23 (.ixS 1 (.t 21) (.t 22)), Ld 20 false 1 19, Ld 24 false 1 23, Bn 25 .neq 20 24]
@[simp] noncomputable def r7 (_ : Unit) : List Stp := [S 4 (.mv (.c (.bool false)))]
@[simp] noncomputable def r5 (_ : Unit) : List Stp := [M 15 5, Bi 16 .add 15 1, M 5 16]
@[simp] noncomputable def r8 (_ : Unit) : List Stp := [S 4 (.mv (.c (.bool true)))]
@[simp] noncomputable def ir : IR := (.seq (.ops r0) (.seq (.seq (.ops r1) (.cond (.t 10) (.seq (.ops r2) .ret) .skip)) (.seq (.seq (.ops r3) (.block 0 (.loop (.seq (.seq (.ops r4) (.cond (.t 14) .skip (.exit 0))) (.seq (.block 1 (.seq (.ops r6) (.cond (.t 25) (.seq (.ops r7) .ret) .skip))) (.ops r5)))))) (.seq (.ops r8) .ret))))
@[simp] noncomputable def rs : List RV := [.tmp 4]
theorem comp : compF Pg cfg Tryz.f71 = some (ir, rs, 26) := by kernel_rfl
theorem enter : Entr Pg fn_ref01_Ints 26 [] ir (RetK rs) := Entr.of follows Tryz.func71 comp
theorem pure : Pur Pg fn_ref01_Ints 26 [] ir (RetK rs) := Pur.of enter
end ref01_Ints

namespace leak_want
@[simp] noncomputable def r0 (_ : Unit) : List Stp := [M 4 0, S 5 (.un .not (.t 4))]
@[simp] noncomputable def r1 (_ : Unit) : List Stp := [M 6 1, S 7 (.build [.int .i64 0] [(0, 1, (.t 6))]), S 8 (.mkI 148 (.t 7)), SN (.panic (.t 8))]
@[simp] noncomputable def ir : IR := (.seq (.ops r0) (.cond (.t 5) (.ops r1) .skip))
@[simp] noncomputable def rs : List RV := []
theorem comp : compF Pg cf0 Tryz.f72 = some (ir, rs, 9) := by kernel_rfl
theorem enter : Entr Pg fn_leak_want 9 [] ir (RetK rs) := Entr.of follows Tryz.func72 comp
theorem pure : Pur Pg fn_leak_want 9 [] ir (RetK rs) := Pur.of enter
end leak_want

namespace leak_within
@[simp] noncomputable def r0 (_ : Unit) : List Stp := [S 6 (.mv (.c (.bool false)))]
@[simp] noncomputable def r1 (_ : Unit) : List Stp := [M 7 1, M 8 0, Bn 9 .leq 7 8, M 10 9, Mg 11 10 true 0, Mg 12 10 true 2, SG 13 10 true (.bin .leq (.t 11) (.t 12)), Pa 14 10 13, M 6 14]
@[simp] noncomputable def ir : IR := (.seq (.ops r0) (.seq (.ops r1) .ret))
@[simp] noncomputable def rs : List RV := [.tmp 6]
theorem comp : compF Pg cf0 Tryz.f73 = some (ir, rs, 15) := by kernel_rfl
theorem enter : Entr Pg fn_leak_within 15 [] ir (RetK rs) := Entr.of follows Tryz.func73 comp
theorem pure : Pur Pg fn_leak_within 15 [] ir (RetK rs) := Pur.of enter
end leak_within

namespace leak_Rate
noncomputable def cfg : Cfg := { pure := pures, pcs := [], raw := [], cuts := [], draws := [(2, [⟨1, false, [], []⟩, ⟨2, false, [], []⟩, ⟨0, false, [], []⟩, ⟨3, false, [], []⟩, ⟨4, false, [], []⟩, ⟨5, false, [], []⟩, ⟨6, false, [], []⟩, ⟨7, false, [], []⟩, ⟨8, false, [], []⟩])], keep := [4, 5] }
@[simp] noncomputable def r0 (_ : Unit) : List Stp := [S 2 (.box (.t 0)), S 4 (.alloc [.int .i64 0, .int .i64 0]), S 5 (.alloc [.int .i64 0])]
@[simp] noncomputable def r1 (_ : Unit) : List Stp := [S 7 (.mkF (.func fn_leak_Rate_1) [] [.t 5]), SN (.defer (.t 7) [])]
@[simp] noncomputable def r2 (_ : Unit) : List Stp := [M 9 1, Fa 10 0 2, Ld 8 true 2 2, Ld 11 false 1 10, S 12 (.len (.t 11)), Bi 13 .sub 12 1, SP 14 (.call (fc fn_leak_within) [.t 9, (ci 0), .t 13]), S 15 (.call (fc fn_leak_open) [.t 8, .t 14]), M 6 15]
@[simp] noncomputable def r3 (_ : Unit) : List Stp := [M 16 6, M 17 1, S 18 (.bin .shl (.c (.int .u64 1)) (.t 17)), S 19 (.call (fc fn_leak_hull_total) [.t 16, .t 18]), SN (.store 2 (.t 4) (.t 19)), SN (.store 1 (.t 5) (ci 0))]
@[simp] noncomputable def ir : IR := (.seq (.ops r0) (.seq (.ops r1) (.seq (.ops r2) (.seq (.ops r3) .ret))))
@[simp] noncomputable def rs : List RV := [.cell 4 true 2, .cell 5 false 1]
theorem comp : compF Pg cfg Tryz.f74 = some (ir, rs, 20) := by kernel_rfl
theorem enter : Entr Pg fn_leak_Rate 20 [4, 5] ir (RetD Pg rs) := Entr.ofD follows Tryz.func74 comp
theorem pure : Pur Pg fn_leak_Rate 20 [4, 5] ir (RetD Pg rs) := Pur.of enter
end leak_Rate

namespace again_check_1
@[simp] noncomputable def r0 (_ : Unit) : List Stp := [S 2 (.mv (.c (.bool false)))]
@[simp] noncomputable def r1 (_ : Unit) : List Stp := [M 3 0, SP 4 (.call (fc fn_again_within) [.t 3, (ci 1), (ci 20)]), S 5 (.un .not (.t 4)), M 2 5]
@[simp] noncomputable def ir : IR := (.seq (.ops r0) (.seq (.ops r1) .ret))
@[simp] noncomputable def rs : List RV := [.tmp 2]
theorem comp : compF Pg cf0 Tryz.f75 = some (ir, rs, 6) := by kernel_rfl
theorem enter : Entr Pg fn_again_check_1 6 [] ir (RetK rs) := Entr.of follows Tryz.func75 comp
theorem pure : Pur Pg fn_again_check_1 6 [] ir (RetK rs) := Pur.of enter
end again_check_1

namespace again_within
@[simp] noncomputable def r0 (_ : Unit) : List Stp := [S 6 (.mv (.c (.bool false)))]
@[simp] noncomputable def r1 (_ : Unit) : List Stp := [M 7 1, M 8 0, Bn 9 .leq 7 8, M 10 9, Mg 11 10 true 0, Mg 12 10 true 2, SG 13 10 true (.bin .leq (.t 11) (.t 12)), Pa 14 10 13, M 6 14]
@[simp] noncomputable def ir : IR := (.seq (.ops r0) (.seq (.ops r1) .ret))
@[simp] noncomputable def rs : List RV := [.tmp 6]
theorem comp : compF Pg cf0 Tryz.f76 = some (ir, rs, 15) := by kernel_rfl
theorem enter : Entr Pg fn_again_within 15 [] ir (RetK rs) := Entr.of follows Tryz.func76 comp
theorem pure : Pur Pg fn_again_within 15 [] ir (RetK rs) := Pur.of enter
end again_within

namespace slices_ContainsFunc_int_int
@[simp] noncomputable def r0 (_ : Unit) : List Stp := [S 4 (.mv (.c (.bool false)))]
@[simp] noncomputable def r1 (_ : Unit) : List Stp := [M 5 0, M 6 1, S 7 (.call (fc fn_slices_IndexFunc_int_int) [.t 5, .t 6]), Bi 8 .geq 7 0, M 4 8]
@[simp] noncomputable def ir : IR := (.seq (.ops r0) (.seq (.ops r1) .ret))
@[simp] noncomputable def rs : List RV := [.tmp 4]
theorem comp : compF Pg cf0 Tryz.f77 = some (ir, rs, 9) := by kernel_rfl
theorem enter : Entr Pg fn_slices_ContainsFunc_int_int 9 [] ir (RetK rs) := Entr.of follows Tryz.func77 comp
theorem pure : Pur Pg fn_slices_ContainsFunc_int_int 9 [] ir (RetK rs) := Pur.of enter
end slices_ContainsFunc_int_int

namespace again_isWork
@[simp] noncomputable def r0 (_ : Unit) : List Stp := [S 2 (.box (.t 0)), S 3 (.box (.t 1)), S 4 (.mv (.c (.bool false)))]
@[simp] noncomputable def r1 (_ : Unit) : List Stp := [Fa 5 0 3, Ld 6 false 1 5, Fa 7 2 2, Ld 8 false 1 7, S 9 (.len (.t 8)), Bi 10 .sub 9 1, SP 11 (.call (fc fn_again_within) [.t 6, (ci 0), .t 10]), M 12 11, SG 13 12 true (.fAddr 2 (.t 3)), SG 14 12 true (.load false 1 (.t 13)), SGP 15 12 true (.call (fc fn_again_within) [.t 14, (ci 0), (ci 3)]), Pa 16 12 15, M 17 16, SG 18 17 true (.fAddr 1 (.t 3)), SG 19 17 true (.load false 1 (.t 18)), SG 20 17 true (.fAddr 5 (.t 2)), SG 21 17 true (.load false 1 (.t 20)), SGP 22 17 true (.call (fc fn_again_within) [.t 19, (ci 0), .t 21]), Pa 23 17 22, M 4 23]
@[simp] noncomputable def ir : IR := (.seq (.ops r0) (.seq (.ops r1) .ret))
@[simp] noncomputable def rs : List RV := [.tmp 4]
theorem comp : compF Pg cf0 Tryz.f78 = some (ir, rs, 24) := by kernel_rfl
theorem enter : Entr Pg fn_again_isWork 24 [] ir (RetK rs) := Entr.of follows Tryz.func78 comp
theorem pure : Pur Pg fn_again_isWork 24 [] ir (RetK rs) := Pur.of enter
end again_isWork

namespace cmp_isNaN_int
@[simp] noncomputable def r0 (_ : Unit) : List Stp := [S 2 (.mv (.c (.bool false)))]
@[simp] noncomputable def r1 (_ : Unit) : List Stp := [M 3 0, M 4 0, Bn 5 .neq 3 4, M 2 5]
@[simp] noncomputable def ir : IR := (.seq (.ops r0) (.seq (.ops r1) .ret))
@[simp] noncomputable def rs : List RV := [.tmp 2]
theorem comp : compF Pg cf0 Tryz.f79 = some (ir, rs, 6) := by kernel_rfl
theorem enter : Entr Pg fn_cmp_isNaN_int 6 [] ir (RetK rs) := Entr.of follows Tryz.func79 comp
theorem pure : Pur Pg fn_cmp_isNaN_int 6 [] ir (RetK rs) := Pur.of enter
end cmp_isNaN_int

namespace slices_stableCmpFunc_api_AgainWork
@[simp] noncomputable def r0 (_ : Unit) : List Stp := [MI 6 20]
@[simp] noncomputable def r1 (_ : Unit) : List Stp := [M 10 6, MI 7 0, M 8 10]
@[simp] noncomputable def r2 (_ : Unit) : List Stp := [M 11 8, M 12 1, Bn 13 .leq 11 12]
@[simp] noncomputable def r3 (_ : Unit) : List Stp := [M 14 0, M 15 7, M 16 8, M 17 2, S 18 (.call (fc fn_slices_insertionSortCmpFunc_api_AgainWork) [.t 14, .t 15, .t 16, .t 17])]
@[simp] noncomputable def r4 (_ : Unit) : List Stp := [M 19 8, M 7 19]
@[simp] noncomputable def r5 (_ : Unit) : List Stp := [M 20 8, M 21 6, Bn 22 .add 20 21, M 8 22]
@[simp] noncomputable def r6 (_ : Unit) : List Stp := [M 23 0, M 24 7, M 25 1, M 26 2, S 27 (.call (fc fn_slices_insertionSortCmpFunc_api_AgainWork) [.t 23, .t 24, .t 25, .t 26])]
@[simp] noncomputable def r7 (_ : Unit) : List Stp := [M 28 6, M 29 1, Bn 30 .lss 28 29]
@[simp] noncomputable def r8 (_ : Unit) : List Stp := [M 31 6, S 32 (.bin .mul (ci 2) (.t 31)), MI 7 0, M 8 32]
@[simp] noncomputable def r9 (_ : Unit) : List Stp := [M 33 8, M 34 1, Bn 35 .leq 33 34]
@[simp] noncomputable def r10 (_ : Unit) : List Stp := [M 36 0, M 37 7, M 38 7, M 39 6, Bn 40 .add 38 39, M 41 8, M 42 2, S 43 (.call (fc fn_slices_symMergeCmpFunc_api_AgainWork) [.t 36, .t 37, .t 40, .t 41, .t 42])]
@[simp] noncomputable def r11 (_ : Unit) : List Stp := [M 44 8, M 7 44]
@[simp] noncomputable def r12 (_ : Unit) : List Stp := [M 45 8, M 46 6, S 47 (.bin .mul (ci 2) (.t 46)), Bn 48 .add 45 47, M 8 48]
@[simp] noncomputable def r13 (_ : Unit) : List Stp := [M 49 7, M 50 6, Bn 51 .add 49 50, M 9 51]
@[simp] noncomputable def r14 (_ : Unit) : List Stp := [M 52 9, M 53 1, Bn 54 .lss 52 53]
@[simp] noncomputable def r15 (_ : Unit) : List Stp := [M 55 0, M 56 7, M 57 9, M 58 1, M 59 2, S 60 (.call (fc fn_slices_symMergeCmpFunc_api_AgainWork) [.t 55, .t 56, .t 57, .t 58, .t 59])]
@[simp] noncomputable def r16 (_ : Unit) : List Stp := [M 61 6, Bi 62 .mul 61 2, M 6 62]
@[simp] noncomputable def ir : IR := (.seq (.ops r0) (.seq (.ops r1) (.seq (.block 0 (.loop (.seq (.seq (.ops r2) (.cond (.t 13) .skip (.exit 0))) (.block 1 (.seq (.ops r3) (.seq (.ops r4) (.ops r5))))))) (.seq (.ops r6) (.block 2 (.loop (.seq (.seq (.ops r7) (.cond (.t 30) .skip (.exit 2))) (.block 3 (.seq (.ops r8) (.seq (.block 4 (.loop (.seq (.seq (.ops r9) (.cond (.t 35) .skip (.exit 4))) (.block 5 (.seq (.ops r10) (.seq (.ops r11) (.ops r12))))))) (.seq (.seq (.ops r13) (.seq (.ops r14) (.cond (.t 54) (.ops r15) .skip))) (.ops r16))))))))))))
@[simp] noncomputable def rs : List RV := []
theorem comp : compF Pg cf0 Tryz.f80 = some (ir, rs, 63) := by kernel_rfl
theorem enter : Entr Pg fn_slices_stableCmpFunc_api_AgainWork 63 [] ir (RetK rs) := Entr.of follows Tryz.func80 comp
theorem pure : Pur Pg fn_slices_stableCmpFunc_api_AgainWork 63 [] ir (RetK rs) := Pur.of enter
end slices_stableCmpFunc_api_AgainWork

namespace leak_Sets_1
@[simp] noncomputable def r0 (_ : Unit) : List Stp := [S 1 (.recov), S 2 (.call (fc fn_leak_said) [.t 1, .t 0])]
@[simp] noncomputable def ir : IR := (.ops r0)
@[simp] noncomputable def rs : List RV := []
theorem comp : compF Pg cf0 Tryz.f81 = some (ir, rs, 3) := by kernel_rfl
theorem enter : Entr Pg fn_leak_Sets_1 3 [] ir (RetK rs) := Entr.of follows Tryz.func81 comp
theorem pure : Pur Pg fn_leak_Sets_1 3 [] ir (RetK rs) := Pur.of enter
theorem recClo : RecClo Pg fn_leak_Sets_1 fn_leak_said := ⟨_, Tryz.func81, by kernel_rfl⟩
end leak_Sets_1

namespace leak_hull_sets
@[simp] noncomputable def r0 (_ : Unit) : List Stp := [S 2 (.mv (.c .nils))]
@[simp] noncomputable def r1 (_ : Unit) : List Stp := [S 9 (.mkmap), M 3 9]
@[simp] noncomputable def r2 (_ : Unit) : List Stp := [M 10 0, S 11 (.call (fc fn_leak_hull_truths) [.t 10]), S 12 (.len (.t 11)), MI 13 0]
@[simp] noncomputable def r3 (_ : Unit) : List Stp := [Bn 14 .lss 13 12]
@[simp] noncomputable def r4 (_ : Unit) : List Stp := [S 15 (.ixS 6 (.t 11) (.t 13)), Ld 16 true 6 15, S 5 (.alloc [.int .i64 0, .int .i64 0, .int .i64 0, .int .i64 0, .int .i64 0, .int .i64 0]), SN (.store 6 (.t 5) (.t 16))]
@[simp] noncomputable def r5 (_ : Unit) : List Stp := [M 17 3, Ld 18 true 6 5, SP 19 (.call (fc fn_leak_inflow_leaks) [.t 18]), SN (.mapU (false, [.i]) (.t 17) (.t 19) (.c (.bool true)))]
@[simp] noncomputable def r6 (_ : Unit) : List Stp := [Bi 20 .add 13 1, M 13 20]
@[simp] noncomputable def r7 (_ : Unit) : List Stp := [M 21 3, S 22 (.lenM (.t 21)), S 23 (.mksl 8 [.int .i64 0] (ci 0) (.t 22)), M 6 23]
@[simp] noncomputable def r8 (_ : Unit) : List Stp := [M 24 3, S 25 (.range (.t 24))]
@[simp] noncomputable def r9 (_ : Unit) : List Stp := [S 26 (.next (.t 25)), X 27 26 0]
@[simp] noncomputable def r10 (_ : Unit) : List Stp := [S 28 (.entry (.t 25)), X 29 28 0, M 7 29]
@[simp] noncomputable def r11 (_ : Unit) : List Stp := [M 30 6, M 31 7, S 32 (.conv .i64 (.t 31)), S 33 (.bsl 1 [.int .i64 0] [(0, 1, (.t 32))]), S 34 (.app 1 8 (.t 30) (.t 33)), M 6 34]
@[simp] noncomputable def r12 (_ : Unit) : List Stp := [M 35 6, S 36 (.len (.t 35)), S 37 (.mksl 8 [.int .i64 0] (.t 36) (.t 36)), M 8 37]
@[simp] noncomputable def r13 (_ : Unit) : List Stp := [M 38 8, M 39 6, S 40 (.copy 1 (.t 38) (.t 39))]
@[simp] noncomputable def r14 (_ : Unit) : List Stp := [M 41 8, S 42 (.call (fc fn_slices_Sort_int_int) [.t 41])]
@[simp] noncomputable def r15 (_ : Unit) : List Stp := [M 43 8, M 2 43]
@[simp] noncomputable def ir : IR := (.seq (.ops r0) (.seq (.ops r1) (.seq (.seq (.ops r2) (.block 0 (.loop (.seq (.ops r3) (.seq (.cond (.t 14) .skip (.exit 0)) (.seq (.block 1 (.seq (.ops r4) (.ops r5))) (.ops r6))))))) (.seq (.ops r7) (.seq (.seq (.ops r8) (.block 2 (.loop (.seq (.ops r9) (.seq (.cond (.t 27) .skip (.exit 2)) (.block 3 (.seq (.ops r10) (.ops r11)))))))) (.seq (.ops r12) (.seq (.ops r13) (.seq (.ops r14) (.seq (.ops r15) .ret)))))))))
@[simp] noncomputable def rs : List RV := [.tmp 2]
theorem comp : compF Pg cf0 Tryz.f82 = some (ir, rs, 44) := by kernel_rfl
theorem enter : Entr Pg fn_leak_hull_sets 44 [] ir (RetK rs) := Entr.of follows Tryz.func82 comp
theorem pure : Pur Pg fn_leak_hull_sets 44 [] ir (RetK rs) := Pur.of enter
end leak_hull_sets

namespace rake_hull_plan_1
noncomputable def cfg : Cfg := { pure := pures, pcs := [], raw := [], cuts := [], draws := [(6, [⟨0, false, [], []⟩, ⟨2, false, [], []⟩, ⟨1, false, [], []⟩, ⟨4, false, [], []⟩, ⟨3, false, [], []⟩, ⟨5, false, [], []⟩]), (16, [⟨0, false, [], []⟩, ⟨2, false, [], []⟩, ⟨1, false, [], []⟩, ⟨4, false, [], []⟩, ⟨3, false, [], []⟩, ⟨5, false, [], []⟩])], keep := [] }
@[simp] noncomputable def r0 (_ : Unit) : List Stp := [S 5 (.box (.t 0)), MI 6 0, MI 7 0]
@[simp] noncomputable def r1 (_ : Unit) : List Stp := [Ld 14 false 1 1, Ld 15 true 2 5, S 16 (.call (fc fn_rake_hull_agreeing) [.t 14, .t 15]), M 8 16]
@[simp] noncomputable def r2 (_ : Unit) : List Stp := [Ld 17 false 1 2, Ld 18 true 2 5, M 19 8, S 20 (.inv (.t 17) "caulkworks/rake.done" [.t 18, .t 19]), M 21 20, Mg 22 21 false 8, SG 23 21 false (.len (.t 22)), SG 24 21 false (.bin .eql (.t 23) (ci 0)), Po 25 21 24]
@[simp] noncomputable def r3 (_ : Unit) : List Stp := [MI 6 0, MI 7 0]
@[simp] noncomputable def r4 (_ : Unit) : List Stp := [Ld 27 false 1 3, Ld 28 true 2 5, S 29 (.lookup (true, [.i, .i]) true (.agg [.int .i64 0, .int .i64 0]) (.t 27) (.t 28)), M 26 29, X 30 26 0, X 31 26 1, S 9 (.alloc [.int .i64 0, .int .i64 0]), SN (.store 2 (.t 9) (.t 30)), M 10 31]
@[simp] noncomputable def r5 (_ : Unit) : List Stp := [M 32 10]
@[simp] noncomputable def r6 (_ : Unit) : List Stp := [Fa 33 0 9, Fa 35 1 9, Ld 34 false 1 33, M 6 34, Ld 36 false 1 35, M 7 36]
@[simp] noncomputable def r7 (_ : Unit) : List Stp := [Ld 37 false 1 1, S 38 (.nilck Pg (.t 37)), Fa 39 0 38, Ld 40 true 6 39, S 41 (.mkF (.func fn_rake_lengths_of) [.t 40] []), S 11 (.alloc [.nilf]), SN (.store 1 (.t 11) (.t 41))]
@[simp] noncomputable def r8 (_ : Unit) : List Stp := [S 42 (.mkF (.func fn_rake_hull_plan_1_1) [] [.t 4, .t 5, .t 11]), S 43 (.build [(.bool false), .int .i64 0, .int .i64 0, .nilf] [(3, 1, (.t 42))]), S 12 (.alloc [(.bool false), .int .i64 0, .int .i64 0, .nilf]), SN (.store 4 (.t 12) (.t 43))]
@[simp] noncomputable def r9 (_ : Unit) : List Stp := [Ld 44 false 1 1, S 45 (.nilck Pg (.t 44)), Fa 46 6 45, Ld 47 false 1 46, MI 48 0]
@[simp] noncomputable def r10 (_ : Unit) : List Stp := [Bn 49 .lss 48 47]
@[simp] noncomputable def r11 (_ : Unit) : List Stp := [M 50 48, M 13 50]
@[simp] noncomputable def r12 (_ : Unit) : List Stp := [Fa 51 0 5, Ld 52 false 1 51, M 53 13, Bn 54 .shr 52 53, Bi 55 .and 54 1, Bi 56 .eql 55 1]
@[simp] noncomputable def r13 (_ : Unit) : List Stp := [M 57 13, S 58 (.call (fc fn_rake_best_int_see) [.t 12, .t 57])]
@[simp] noncomputable def r14 (_ : Unit) : List Stp := [Bi 59 .add 48 1, M 48 59]
@[simp] noncomputable def r15 (_ : Unit) : List Stp := [Ld 60 false 1 3, Ld 61 true 2 5, Fa 62 1 12, Ld 63 false 1 62, Fa 64 2 12, Ld 65 false 1 64, S 66 (.build [.int .i64 0, .int .i64 0] [(0, 1, (.t 63)), (1, 1, (.t 65))]), SN (.mapU (true, [.i, .i]) (.t 60) (.t 61) (.t 66))]
@[simp] noncomputable def r16 (_ : Unit) : List Stp := [Fa 67 1 12, Fa 69 2 12, Ld 68 false 1 67, M 6 68, Ld 70 false 1 69, M 7 70]
@[simp] noncomputable def ir : IR := (.seq (.ops r0) (.seq (.ops r1) (.seq (.seq (.ops r2) (.cond (.t 25) (.seq (.ops r3) .ret) .skip)) (.seq (.seq (.ops r4) (.seq (.ops r5) (.cond (.t 32) (.seq (.ops r6) .ret) .skip))) (.seq (.ops r7) (.seq (.ops r8) (.seq .skip (.seq (.seq (.ops r9) (.block 0 (.loop (.seq (.ops r10) (.seq (.cond (.t 49) .skip (.exit 0)) (.seq (.block 1 (.seq (.ops r11) (.seq (.seq (.ops r12) (.cond (.t 56) (.exit 1) .skip)) (.ops r13)))) (.ops r14))))))) (.seq (.ops r15) (.seq (.ops r16) .ret))))))))))
@[simp] noncomputable def rs : List RV := [.tmp 6, .tmp 7]
theorem comp : compF Pg cfg Tryz.f83 = some (ir, rs, 71) := by kernel_rfl
theorem enter : Entr Pg fn_rake_hull_plan_1 71 [] ir (RetK rs) := Entr.of follows Tryz.func83 comp
theorem pure : Pur Pg fn_rake_hull_plan_1 71 [] ir (RetK rs) := Pur.of enter
end rake_hull_plan_1

namespace rake_lengths_of
@[simp] noncomputable def r0 (_ : Unit) : List Stp := [S 2 (.box (.t 0)), MI 4 0]
@[simp] noncomputable def r1 (_ : Unit) : List Stp := [M 5 1, S 6 (.ixA 6 1 (.t 2) (.t 5)), Ld 7 false 1 6, M 4 7]
@[simp] noncomputable def ir : IR := (.seq (.ops r0) (.seq (.ops r1) .ret))
@[simp] noncomputable def rs : List RV := [.tmp 4]
theorem comp : compF Pg cf0 Tryz.f84 = some (ir, rs, 8) := by kernel_rfl
theorem enter : Entr Pg fn_rake_lengths_of 8 [] ir (RetK rs) := Entr.of follows Tryz.func84 comp
theorem pure : Pur Pg fn_rake_lengths_of 8 [] ir (RetK rs) := Pur.of enter
end rake_lengths_of

namespace rake_hull_plan_1_1
noncomputable def cfg : Cfg := { pure := pures, pcs := [], raw := [], cuts := [], draws := [(1, [⟨2, false, [], []⟩, ⟨0, false, [], []⟩, ⟨1, false, [], []⟩, ⟨3, false, [], []⟩, ⟨4, false, [], []⟩, ⟨5, false, [], []⟩, ⟨6, false, [], []⟩, ⟨7, false, [], []⟩, ⟨8, false, [], []⟩, ⟨9, false, [], []⟩]), (2, [⟨2, false, [], []⟩, ⟨0, false, [], []⟩, ⟨1, false, [], []⟩, ⟨3, false, [], []⟩, ⟨4, false, [], []⟩, ⟨5, false, [], []⟩, ⟨6, false, [], []⟩, ⟨7, false, [], []⟩, ⟨8, false, [], []⟩, ⟨9, false, [], []⟩])], keep := [] }
@[simp] noncomputable def r0 (_ : Unit) : List Stp := [MI 5 0]
@[simp] noncomputable def r1 (_ : Unit) : List Stp := [M 13 0, Ld 11 false 1 1, Ld 12 true 2 2, SP 14 (.call (fc fn_rake_known_with) [.t 12, .t 13, (.c (.bool true))]), S 15 (.call (.t 11) [.t 14]), M 10 15, X 16 10 0, X 17 10 1, M 6 16, M 7 17]
@[simp] noncomputable def r2 (_ : Unit) : List Stp := [M 21 0, Ld 19 false 1 1, Ld 20 true 2 2, SP 22 (.call (fc fn_rake_known_with) [.t 20, .t 21, (.c (.bool false))]), S 23 (.call (.t 19) [.t 22]), M 18 23, X 24 18 0, X 25 18 1, M 8 24, M 9 25]
@[simp] noncomputable def r3 (_ : Unit) : List Stp := [Ld 26 false 1 3, M 27 0, S 28 (.call (.t 26) [.t 27]), M 29 7, M 30 9, S 31 (.bsl 2 [.int .i64 0, .int .i64 0] [(0, 1, (.t 29)), (1, 1, (.t 30))]), S 32 (.call (fc fn_rake_greatest) [.t 31]), Bn 33 .add 28 32, M 5 33]
@[simp] noncomputable def ir : IR := (.seq (.ops r0) (.seq (.ops r1) (.seq (.ops r2) (.seq (.ops r3) .ret))))
@[simp] noncomputable def rs : List RV := [.tmp 5]
theorem comp : compF Pg cfg Tryz.f85 = some (ir, rs, 34) := by kernel_rfl
theorem enter : Entr Pg fn_rake_hull_plan_1_1 34 [] ir (RetK rs) := Entr.of follows Tryz.func85 comp
theorem pure : Pur Pg fn_rake_hull_plan_1_1 34 [] ir (RetK rs) := Pur.of enter
end rake_hull_plan_1_1

namespace rake_greatest
@[simp] noncomputable def r0 (_ : Unit) : List Stp := [MI 2 0]
@[simp] noncomputable def r1 (_ : Unit) : List Stp := [M 3 0, S 4 (.bsl 1 [.int .i64 0] [(0, 1, (ci 0))]), S 5 (.app 1 8 (.t 3) (.t 4)), S 6 (.call (fc fn_slices_Max_int_int) [.t 5]), M 2 6]
@[simp] noncomputable def ir : IR := (.seq (.ops r0) (.seq (.ops r1) .ret))
@[simp] noncomputable def rs : List RV := [.tmp 2]
theorem comp : compF Pg cf0 Tryz.f86 = some (ir, rs, 7) := by kernel_rfl
theorem enter : Entr Pg fn_rake_greatest 7 [] ir (RetK rs) := Entr.of follows Tryz.func86 comp
theorem pure : Pur Pg fn_rake_greatest 7 [] ir (RetK rs) := Pur.of enter
end rake_greatest

namespace rake_best_int_see
@[simp] noncomputable def r0 (_ : Unit) : List Stp := [M 5 0, S 6 (.nilck Pg (.t 5)), Fa 7 3 6, Ld 8 false 1 7, M 9 1, S 10 (.call (.t 8) [.t 9]), M 4 10]
@[simp] noncomputable def r1 (_ : Unit) : List Stp := [M 11 0, S 12 (.nilck Pg (.t 11)), Fa 13 0 12, Ld 14 false 1 13, S 15 (.un .not (.t 14)), M 16 15, Mg 17 16 false 4, Mg 18 16 false 0, SG 19 16 false (.nilck Pg (.t 18)), SG 20 16 false (.fAddr 2 (.t 19)), SG 21 16 false (.load false 1 (.t 20)), SG 22 16 false (.bin .lss (.t 17) (.t 21)), Po 23 16 22]
@[simp] noncomputable def r2 (_ : Unit) : List Stp := [M 24 0, M 25 0, M 26 0, M 27 1, M 28 4, S 29 (.nilck Pg (.t 24)), Fa 30 0 29, SN (.store 1 (.t 30) (.c (.bool true))), S 31 (.nilck Pg (.t 25)), Fa 32 1 31, SN (.store 1 (.t 32) (.t 27)), S 33 (.nilck Pg (.t 26)), Fa 34 2 33, SN (.store 1 (.t 34) (.t 28))]
@[simp] noncomputable def ir : IR := (.seq (.ops r0) (.seq (.ops r1) (.cond (.t 23) (.ops r2) .skip)))
@[simp] noncomputable def rs : List RV := []
theorem comp : compF Pg cf0 Tryz.f87 = some (ir, rs, 35) := by kernel_rfl
theorem enter : Entr Pg fn_rake_best_int_see 35 [] ir (RetK rs) := Entr.of follows Tryz.func87 comp
theorem pure : Pur Pg fn_rake_best_int_see 35 [] ir (RetK rs) := Pur.of enter
end rake_best_int_see

namespace rake_check_1
@[simp] noncomputable def r0 (_ : Unit) : List Stp := [S 2 (.mv (.c (.bool false)))]
@[simp] noncomputable def r1 (_ : Unit) : List Stp := [M 3 0, SP 4 (.call (fc fn_rake_within) [.t 3, (ci 1), (ci 20)]), S 5 (.un .not (.t 4)), M 2 5]
@[simp] noncomputable def ir : IR := (.seq (.ops r0) (.seq (.ops r1) .ret))
@[simp] noncomputable def rs : List RV := [.tmp 2]
theorem comp : compF Pg cf0 Tryz.f88 = some (ir, rs, 6) := by kernel_rfl
theorem enter : Entr Pg fn_rake_check_1 6 [] ir (RetK rs) := Entr.of follows Tryz.func88 comp
theorem pure : Pur Pg fn_rake_check_1 6 [] ir (RetK rs) := Pur.of enter
end rake_check_1

namespace rake_within
@[simp] noncomputable def r0 (_ : Unit) : List Stp := [S 6 (.mv (.c (.bool false)))]
@[simp] noncomputable def r1 (_ : Unit) : List Stp := [M 7 1, M 8 0, Bn 9 .leq 7 8, M 10 9, Mg 11 10 true 0, Mg 12 10 true 2, SG 13 10 true (.bin .leq (.t 11) (.t 12)), Pa 14 10 13, M 6 14]
@[simp] noncomputable def ir : IR := (.seq (.ops r0) (.seq (.ops r1) .ret))
@[simp] noncomputable def rs : List RV := [.tmp 6]
theorem comp : compF Pg cf0 Tryz.f89 = some (ir, rs, 15) := by kernel_rfl
theorem enter : Entr Pg fn_rake_within 15 [] ir (RetK rs) := Entr.of follows Tryz.func89 comp
theorem pure : Pur Pg fn_rake_within 15 [] ir (RetK rs) := Pur.of enter
end rake_within

namespace leak_Flow_1
@[simp] noncomputable def r0 (_ : Unit) : List Stp := [S 1 (.recov), S 2 (.call (fc fn_leak_said) [.t 1, .t 0])]
@[simp] noncomputable def ir : IR := (.ops r0)
@[simp] noncomputable def rs : List RV := []
theorem comp : compF Pg cf0 Tryz.f90 = some (ir, rs, 3) := by kernel_rfl
theorem enter : Entr Pg fn_leak_Flow_1 3 [] ir (RetK rs) := Entr.of follows Tryz.func90 comp
theorem pure : Pur Pg fn_leak_Flow_1 3 [] ir (RetK rs) := Pur.of enter
theorem recClo : RecClo Pg fn_leak_Flow_1 fn_leak_said := ⟨_, Tryz.func90, by kernel_rfl⟩
end leak_Flow_1

namespace leak_hull_total
@[simp] noncomputable def r0 (_ : Unit) : List Stp := [S 3 (.box (.t 1)), S 4 (.alloc [.int .i64 0, .int .i64 0])]
@[simp] noncomputable def r1 (_ : Unit) : List Stp := [S 5 (.alloc [.nilf]), SN (.store 1 (.t 5) (fc fn_leak_inflow_sum))]
@[simp] noncomputable def r2 (_ : Unit) : List Stp := [M 6 0, S 7 (.call (fc fn_leak_hull_truths) [.t 6]), S 8 (.mkF (.func fn_leak_hull_total_1) [] [.t 5, .t 3]), S 9 (.call (fc fn_leak_sums) [.t 7, .t 8]), SN (.store 2 (.t 4) (.t 9))]
@[simp] noncomputable def ir : IR := (.seq (.ops r0) (.seq (.ops r1) (.seq (.ops r2) .ret)))
@[simp] noncomputable def rs : List RV := [.cell 4 true 2]
theorem comp : compF Pg cf0 Tryz.f91 = some (ir, rs, 10) := by kernel_rfl
theorem enter : Entr Pg fn_leak_hull_total 10 [] ir (RetK rs) := Entr.of follows Tryz.func91 comp
theorem pure : Pur Pg fn_leak_hull_total 10 [] ir (RetK rs) := Pur.of enter
end leak_hull_total

namespace rake_Worst_1
@[simp] noncomputable def r0 (_ : Unit) : List Stp := [S 1 (.recov), S 2 (.call (fc fn_rake_said) [.t 1, .t 0])]
@[simp] noncomputable def ir : IR := (.ops r0)
@[simp] noncomputable def rs : List RV := []
theorem comp : compF Pg cf0 Tryz.f92 = some (ir, rs, 3) := by kernel_rfl
theorem enter : Entr Pg fn_rake_Worst_1 3 [] ir (RetK rs) := Entr.of follows Tryz.func92 comp
theorem pure : Pur Pg fn_rake_Worst_1 3 [] ir (RetK rs) := Pur.of enter
theorem recClo : RecClo Pg fn_rake_Worst_1 fn_rake_said := ⟨_, Tryz.func92, by kernel_rfl⟩
end rake_Worst_1

namespace leak_Rate_1
@[simp] noncomputable def r0 (_ : Unit) : List Stp := [S 1 (.recov), S 2 (.call (fc fn_leak_said) [.t 1, .t 0])]
@[simp] noncomputable def ir : IR := (.ops r0)
@[simp] noncomputable def rs : List RV := []
theorem comp : compF Pg cf0 Tryz.f93 = some (ir, rs, 3) := by kernel_rfl
theorem enter : Entr Pg fn_leak_Rate_1 3 [] ir (RetK rs) := Entr.of follows Tryz.func93 comp
theorem pure : Pur Pg fn_leak_Rate_1 3 [] ir (RetK rs) := Pur.of enter
theorem recClo : RecClo Pg fn_leak_Rate_1 fn_leak_said := ⟨_, Tryz.func93, by kernel_rfl⟩
end leak_Rate_1

namespace slices_IndexFunc_int_int
@[simp] noncomputable def r0 (_ : Unit) : List Stp := [MI 4 0]
@[simp] noncomputable def r1 (_ : Unit) : List Stp := [M 6 0, S 7 (.len (.t 6)), MI 8 0]
@[simp] noncomputable def r2 (_ : Unit) : List Stp := [Bn 9 .lss 8 7]
@[simp] noncomputable def r3 (_ : Unit) : List Stp := [M 10 8, M 5 10]
@[simp] noncomputable def r4 (_ : Unit) : List Stp := [M 11 1, M 12 0, M 13 5, S 14 (.ixS 1 (.t 12) (.t 13)), Ld 15 false 1 14, S 16 (.call (.t 11) [.t 15])]
@[simp] noncomputable def r5 (_ : Unit) : List Stp := [M 17 5, M 4 17]
@[simp] noncomputable def r6 (_ : Unit) : List Stp := [Bi 18 .add 8 1, M 8 18]
@[simp] noncomputable def r7 (_ : Unit) : List Stp := [MI 4 (-1)]
@[simp] noncomputable def ir : IR := (.seq (.ops r0) (.seq (.seq (.ops r1) (.block 0 (.loop (.seq (.ops r2) (.seq (.cond (.t 9) .skip (.exit 0)) (.seq (.block 1 (.seq (.ops r3) (.seq (.ops r4) (.cond (.t 16) (.seq (.ops r5) .ret) .skip)))) (.ops r6))))))) (.seq (.ops r7) .ret)))
@[simp] noncomputable def rs : List RV := [.tmp 4]
theorem comp : compF Pg cf0 Tryz.f94 = some (ir, rs, 19) := by kernel_rfl
theorem enter : Entr Pg fn_slices_IndexFunc_int_int 19 [] ir (RetK rs) := Entr.of follows Tryz.func94 comp
theorem pure : Pur Pg fn_slices_IndexFunc_int_int 19 [] ir (RetK rs) := Pur.of enter
end slices_IndexFunc_int_int

namespace slices_insertionSortCmpFunc_api_AgainWork
noncomputable def cfg : Cfg := { pure := pures, pcs := [], raw := [], cuts := [], draws := [(4, [⟨0, false, [], []⟩, ⟨1, false, [], []⟩, ⟨2, false, [], []⟩, ⟨3, false, [], []⟩, ⟨4, false, [], []⟩, ⟨5, false, [], []⟩, ⟨6, false, [], []⟩, ⟨7, false, [], []⟩, ⟨9, false, [], []⟩, ⟨10, false, [], []⟩, ⟨11, false, [], []⟩, ⟨12, false, [], []⟩, ⟨8, false, [], []⟩, ⟨13, false, [], []⟩, ⟨14, false, [], []⟩, ⟨15, false, [], []⟩, ⟨16, false, [], []⟩]), (6, [⟨0, false, [], []⟩, ⟨1, false, [], []⟩, ⟨2, false, [], []⟩, ⟨3, false, [], []⟩, ⟨4, false, [], []⟩, ⟨5, false, [], []⟩, ⟨6, false, [], []⟩, ⟨7, false, [], []⟩, ⟨8, false, [], []⟩, ⟨10, false, [], []⟩, ⟨11, false, [], []⟩, ⟨12, false, [], []⟩, ⟨9, false, [], []⟩, ⟨13, false, [], []⟩, ⟨14, false, [], []⟩, ⟨15, false, [], []⟩, ⟨16, false, [], []⟩, ⟨17, false, [], []⟩])], keep := [] }
@[simp] noncomputable def r0 (_ : Unit) : List Stp := [M 10 1, Bi 11 .add 10 1, M 8 11]
@[simp] noncomputable def r1 (_ : Unit) : List Stp := [M 12 8, M 13 2, Bn 14 .lss 12 13]
@[simp] noncomputable def r3 (_ : Unit) : List Stp := [M 17 8, M 9 17]
@[simp] noncomputable def r4 (_ : Unit) : List Stp := [M 18 9, M 19 1, Bn 20 .gtr 18 19, M 21 20, Mg 22 21 true 3, Mg 23 21 true 0, Mg 24 21 true 9, SG 25 21 true (.ixS 3 (.t 23) (.t 24)), Mg 27 21 true 0, Mg 28 21 true 9, SG 29 21 true (.bin .sub (.t 28) (ci 1)), SG 30 21 true (.ixS 3 (.t 27) (.t 29)), SG 26 21 true (.load true 3 (.t 25)), SG 31 21 true (.load true 3 (.t 30)), SG 32 21 true (.call (.t 22) [.t 26, .t 31]), SG 33 21 true (.bin .lss (.t 32) (ci 0)), Pa 34 21 33]
@[simp] noncomputable def r6 (_ : Unit) : List Stp := [M 37 0, M 38 9, M 39 0, M 40 9, Bi 41 .sub 40 1, M 42 0, M 43 9, Bi 44 .sub 43 1, S 45 (.ixS 3 (.t 42) (.t 44)), M 47 0, M 48 9, S 49 (.ixS 3 (.t 47) (.t 48)), Ld 46 true 3 45, Ld 50 true 3 49, S 51 (.ixS 3 (.t 37) (.t 38)), SN (.store 3 (.t 51) (.t 46)), S 52 (.ixS 3 (.t 39) (.t 41)), SN (.store 3 (.t 52) (.t 50))]
@[simp] noncomputable def r5 (_ : Unit) : List Stp := [M 35 9, Bi 36 .sub 35 1, M 9 36]
@[simp] noncomputable def r2 (_ : Unit) : List Stp := [M 15 8, Bi 16 .add 15 1, M 8 16]
@[simp] noncomputable def ir : IR := (.seq (.ops r0) (.block 0 (.loop (.seq (.seq (.ops r1) (.cond (.t 14) .skip (.exit 0))) (.seq (.block 1 (.seq (.ops r3) (.block 2 (.loop (.seq (.seq (.ops r4) (.cond (.t 34) .skip (.exit 2))) (.seq (.block 3 (.ops r6)) (.ops r5))))))) (.ops r2))))))
@[simp] noncomputable def rs : List RV := []
theorem comp : compF Pg cfg Tryz.f95 = some (ir, rs, 53) := by kernel_rfl
theorem enter : Entr Pg fn_slices_insertionSortCmpFunc_api_AgainWork 53 [] ir (RetK rs) := Entr.of follows Tryz.func95 comp
theorem pure : Pur Pg fn_slices_insertionSortCmpFunc_api_AgainWork 53 [] ir (RetK rs) := Pur.of enter
end slices_insertionSortCmpFunc_api_AgainWork

namespace leak_hull_truths
@[simp] noncomputable def r0 (_ : Unit) : List Stp := [S 2 (.mv (.c .nils))]
@[simp] noncomputable def r1 (_ : Unit) : List Stp := [M 4 0, M 5 0, S 6 (.call (fc fn_leak_hull_every) [.t 5]), S 7 (.call (fc fn_leak_hull_inflows) [.t 4, .t 6]), S 8 (.call (fc fn_slices_Collect_leak_inflow) [.t 7]), M 3 8]
@[simp] noncomputable def r2 (_ : Unit) : List Stp := [M 9 3, S 10 (.len (.t 9)), Bi 11 .gtr 10 0, S 12 (.call (fc fn_leak_want) [.t 11, (ci 10)])]
@[simp] noncomputable def r3 (_ : Unit) : List Stp := [M 13 3, M 2 13]
@[simp] noncomputable def ir : IR := (.seq (.ops r0) (.seq (.ops r1) (.seq (.ops r2) (.seq (.ops r3) .ret))))
@[simp] noncomputable def rs : List RV := [.tmp 2]
theorem comp : compF Pg cf0 Tryz.f97 = some (ir, rs, 14) := by kernel_rfl
theorem enter : Entr Pg fn_leak_hull_truths 14 [] ir (RetK rs) := Entr.of follows Tryz.func97 comp
theorem pure : Pur Pg fn_leak_hull_truths 14 [] ir (RetK rs) := Pur.of enter
end leak_hull_truths

namespace leak_inflow_leaks
@[simp] noncomputable def r0 (_ : Unit) : List Stp := [S 1 (.box (.t 0)), S 2 (.mv (.c (.int .u64 0)))]
@[simp] noncomputable def r1 (_ : Unit) : List Stp := [Ld 5 true 6 1, MI 6 0]
@[simp] noncomputable def r2 (_ : Unit) : List Stp := [Bi 7 .lss 6 6]
@[simp] noncomputable def r3 (_ : Unit) : List Stp := [M 8 6, S 9 (.ixV 6 1 false (.t 5) (.t 6)), M 3 8, M 4 9]
@[simp] noncomputable def r4 (_ : Unit) : List Stp := [M 10 4, Bi 11 .gtr 10 0]
@[simp] noncomputable def r5 (_ : Unit) : List Stp := [M 12 2, M 13 3, S 14 (.bin .shl (.c (.int .u64 1)) (.t 13)), Bn 15 .or 12 14, M 2 15]
@[simp] noncomputable def r6 (_ : Unit) : List Stp := [Bi 16 .add 6 1, M 6 16]
@[simp] noncomputable def r7 (_ : Unit) : List Stp := [M 17 2, M 2 17]
@[simp] noncomputable def ir : IR := (.seq (.ops r0) (.seq (.seq (.ops r1) (.block 0 (.loop (.seq (.ops r2) (.seq (.cond (.t 7) .skip (.exit 0)) (.seq (.block 1 (.seq (.ops r3) (.seq (.ops r4) (.cond (.t 11) (.ops r5) .skip)))) (.ops r6))))))) (.seq (.ops r7) .ret)))
@[simp] noncomputable def rs : List RV := [.tmp 2]
theorem comp : compF Pg cf0 Tryz.f98 = some (ir, rs, 18) := by kernel_rfl
theorem enter : Entr Pg fn_leak_inflow_leaks 18 [] ir (RetK rs) := Entr.of follows Tryz.func98 comp
theorem pure : Pur Pg fn_leak_inflow_leaks 18 [] ir (RetK rs) := Pur.of enter
end leak_inflow_leaks

namespace slices_Sort_int_int
@[simp] noncomputable def r0 (_ : Unit) : List Stp := [M 3 0, S 4 (.len (.t 3)), M 2 4]
@[simp] noncomputable def r1 (_ : Unit) : List Stp := [M 5 0, M 6 2, M 7 2, S 8 (.conv .u64 (.t 7)), S 9 (.call (fc fn_math_bits_Len) [.t 8]), S 10 (.call (fc fn_slices_pdqsortOrdered_int) [.t 5, (ci 0), .t 6, .t 9])]
@[simp] noncomputable def ir : IR := (.seq (.ops r0) (.ops r1))
@[simp] noncomputable def rs : List RV := []
theorem comp : compF Pg cf0 Tryz.f99 = some (ir, rs, 11) := by kernel_rfl
theorem enter : Entr Pg fn_slices_Sort_int_int 11 [] ir (RetK rs) := Entr.of follows Tryz.func99 comp
theorem pure : Pur Pg fn_slices_Sort_int_int 11 [] ir (RetK rs) := Pur.of enter
end slices_Sort_int_int

namespace slices_Max_int_int
@[simp] noncomputable def r0 (_ : Unit) : List Stp := [MI 2 0]
@[simp] noncomputable def r1 (_ : Unit) : List Stp := [M 5 0, S 6 (.len (.t 5)), Bi 7 .lss 6 1]
@[simp] noncomputable def r2 (_ : Unit) : List Stp := [S 8 (.mkI 9 (.c (.str [115, 108, 105, 99, 101, 115, 46, 77, 97, 120, 58, 32, 101, 109, 112, 116, 121, 32, 108, 105, 115, 116]))), SN (.panic (.t 8))]
@[simp] noncomputable def r3 (_ : Unit) : List Stp := [M 9 0, S 10 (.ixS 1 (.t 9) (ci 0)), Ld 11 false 1 10, M 3 11]
@[simp] noncomputable def r4 (_ : Unit) : List Stp := [MI 4 1]
@[simp] noncomputable def r5 (_ : Unit) : List Stp := [M 12 4, M 13 0, S 14 (.len (.t 13)), Bn 15 .lss 12 14]
@[simp] noncomputable def r7 (_ : Unit) : List Stp := [M 18 3, M 19 0, M 20 4, S 21 (.ixS 1 (.t 19) (.t 20)), Ld 22 false 1 21, S 23 (.mm true [.t 18, .t 22]), M 3 23]
@[simp] noncomputable def r6 (_ : Unit) : List Stp := [M 16 4, Bi 17 .add 16 1, M 4 17]
@[simp] noncomputable def r8 (_ : Unit) : List Stp := [M 24 3, M 2 24]
@[simp] noncomputable def ir : IR := (.seq (.ops r0) (.seq (.seq (.ops r1) (.cond (.t 7) (.ops r2) .skip)) (.seq (.ops r3) (.seq (.seq (.ops r4) (.block 0 (.loop (.seq (.seq (.ops r5) (.cond (.t 15) .skip (.exit 0))) (.seq (.block 1 (.ops r7)) (.ops r6)))))) (.seq (.ops r8) .ret)))))
@[simp] noncomputable def rs : List RV := [.tmp 2]
theorem comp : compF Pg cf0 Tryz.f100 = some (ir, rs, 25) := by kernel_rfl
theorem enter : Entr Pg fn_slices_Max_int_int 25 [] ir (RetK rs) := Entr.of follows Tryz.func100 comp
theorem pure : Pur Pg fn_slices_Max_int_int 25 [] ir (RetK rs) := Pur.of enter
end slices_Max_int_int

namespace leak_inflow_sum
@[simp] noncomputable def r0 (_ : Unit) : List Stp := [S 2 (.box (.t 0)), MI 4 0]
@[simp] noncomputable def r1 (_ : Unit) : List Stp := [Ld 7 true 6 2, MI 8 0]
@[simp] noncomputable def r2 (_ : Unit) : List Stp := [Bi 9 .lss 8 6]
@[simp] noncomputable def r3 (_ : Unit) : List Stp := [M 10 8, S 11 (.ixV 6 1 false (.t 7) (.t 8)), M 5 10, M 6 11]
@[simp] noncomputable def r4 (_ : Unit) : List Stp := [M 12 1, M 13 5, SP 14 (.call (fc fn_leak_set_has) [.t 12, .t 13])]
@[simp] noncomputable def r5 (_ : Unit) : List Stp := [M 15 4, M 16 6, S 17 (.bsl 2 [.int .i64 0, .int .i64 0] [(0, 1, (.t 15)), (1, 1, (.t 16))]), S 18 (.call (fc fn_leak_flows) [.t 17]), M 4 18]
@[simp] noncomputable def r6 (_ : Unit) : List Stp := [Bi 19 .add 8 1, M 8 19]
@[simp] noncomputable def r7 (_ : Unit) : List Stp := [M 20 4, M 4 20]
@[simp] noncomputable def ir : IR := (.seq (.ops r0) (.seq (.seq (.ops r1) (.block 0 (.loop (.seq (.ops r2) (.seq (.cond (.t 9) .skip (.exit 0)) (.seq (.block 1 (.seq (.ops r3) (.seq (.ops r4) (.cond (.t 14) (.ops r5) .skip)))) (.ops r6))))))) (.seq (.ops r7) .ret)))
@[simp] noncomputable def rs : List RV := [.tmp 4]
theorem comp : compF Pg cf0 Tryz.f101 = some (ir, rs, 21) := by kernel_rfl
theorem enter : Entr Pg fn_leak_inflow_sum 21 [] ir (RetK rs) := Entr.of follows Tryz.func101 comp
theorem pure : Pur Pg fn_leak_inflow_sum 21 [] ir (RetK rs) := Pur.of enter
end leak_inflow_sum

namespace leak_sums
noncomputable def cfg : Cfg := { pure := pures, pcs := [], raw := [], cuts := [], draws := [(1, [⟨0, false, [], []⟩, ⟨1, false, [], []⟩, ⟨2, false, [], []⟩, ⟨5, false, [], []⟩, ⟨6, false, [], []⟩, ⟨7, false, [], []⟩, ⟨3, false, [], []⟩, ⟨8, false, [], []⟩, ⟨4, false, [11], [8]⟩, ⟨9, false, [11], []⟩, ⟨10, false, [], []⟩, ⟨11, true, [], []⟩, ⟨12, false, [], []⟩]), (5, [⟨0, false, [], []⟩, ⟨2, false, [], []⟩, ⟨6, false, [], []⟩, ⟨8, false, [], []⟩, ⟨1, false, [], []⟩, ⟨3, false, [], []⟩, ⟨7, false, [], []⟩, ⟨9, false, [], []⟩, ⟨4, false, [], [1, 7, 9]⟩, ⟨5, false, [], []⟩, ⟨10, false, [], [1, 7]⟩, ⟨11, false, [], []⟩, ⟨12, false, [], []⟩, ⟨13, false, [], []⟩])], keep := [] }
@[simp] noncomputable def r0 (_ : Unit) : List Stp := [S 4 (.alloc [.int .i64 0, .int .i64 0])]
@[simp] noncomputable def r1 (_ : Unit) : List Stp := [M 8 1, M 9 0, S 10 (.ixS 6 (.t 9) (ci 0)), M 13 1, M 14 0, S 15 (.ixS 6 (.t 14) (ci 0)), Ld 11 true 6 10, Ld 16 true 6 15, SD (some 12) (.call (.t 8) [.t 11]) false [I 5 (.alloc [.int .i64 0, .int .i64 0])] [I 16 (.load true 6 (.t 15))], SD (some 17) (.call (.t 13) [.t 16]) false [I 5 (.alloc [.int .i64 0, .int .i64 0])] [], S 18 (.build [.int .i64 0, .int .i64 0] [(0, 1, (.t 12)), (1, 1, (.t 17))]), SD (some 5) (.alloc [.int .i64 0, .int .i64 0]) true [] [], SN (.store 2 (.t 5) (.t 18))]
@[simp] noncomputable def r2 (_ : Unit) : List Stp := [M 19 0, S 20 (.len (.t 19)), MI 21 0]
@[simp] noncomputable def r3 (_ : Unit) : List Stp := [Bn 22 .lss 21 20]
@[simp] noncomputable def r4 (_ : Unit) : List Stp := [S 23 (.ixS 6 (.t 19) (.t 21)), Ld 24 true 6 23, S 7 (.alloc [.int .i64 0, .int .i64 0, .int .i64 0, .int .i64 0, .int .i64 0, .int .i64 0]), SN (.store 6 (.t 7) (.t 24))]
@[simp] noncomputable def r5 (_ : Unit) : List Stp := [Fa 25 0 5, M 27 1, Fa 31 1 5, M 33 1, Ld 26 false 1 25, Ld 28 true 6 7, Ld 32 false 1 31, Ld 34 true 6 7, SD (some 29) (.call (.t 27) [.t 28]) false [] [I 26 (.load false 1 (.t 25)), I 32 (.load false 1 (.t 31)), I 34 (.load true 6 (.t 7))], S 30 (.mm false [.t 26, .t 29]), SD (some 35) (.call (.t 33) [.t 34]) false [] [I 26 (.load false 1 (.t 25)), I 32 (.load false 1 (.t 31))], S 36 (.mm true [.t 32, .t 35]), S 37 (.build [.int .i64 0, .int .i64 0] [(0, 1, (.t 30)), (1, 1, (.t 36))]), SN (.store 2 (.t 5) (.t 37))]
@[simp] noncomputable def r6 (_ : Unit) : List Stp := [Bi 38 .add 21 1, M 21 38]
@[simp] noncomputable def r7 (_ : Unit) : List Stp := [Ld 39 true 2 5, SN (.store 2 (.t 4) (.t 39))]
@[simp] noncomputable def ir : IR := (.seq (.ops r0) (.seq (.ops r1) (.seq (.seq (.ops r2) (.block 0 (.loop (.seq (.ops r3) (.seq (.cond (.t 22) .skip (.exit 0)) (.seq (.block 1 (.seq (.ops r4) (.ops r5))) (.ops r6))))))) (.seq (.ops r7) .ret))))
@[simp] noncomputable def rs : List RV := [.cell 4 true 2]
theorem comp : compF Pg cfg Tryz.f102 = some (ir, rs, 40) := by kernel_rfl
theorem enter : Entr Pg fn_leak_sums 40 [] ir (RetK rs) := Entr.of follows Tryz.func102 comp
theorem pure : Pur Pg fn_leak_sums 40 [] ir (RetK rs) := Pur.of enter
end leak_sums

namespace leak_hull_total_1
@[simp] noncomputable def r0 (_ : Unit) : List Stp := [S 3 (.box (.t 0)), MI 4 0]
@[simp] noncomputable def r1 (_ : Unit) : List Stp := [Ld 5 false 1 1, Ld 6 true 6 3, Ld 7 false 1 2, S 8 (.call (.t 5) [.t 6, .t 7]), M 4 8]
@[simp] noncomputable def ir : IR := (.seq (.ops r0) (.seq (.ops r1) .ret))
@[simp] noncomputable def rs : List RV := [.tmp 4]
theorem comp : compF Pg cf0 Tryz.f103 = some (ir, rs, 9) := by kernel_rfl
theorem enter : Entr Pg fn_leak_hull_total_1 9 [] ir (RetK rs) := Entr.of follows Tryz.func103 comp
theorem pure : Pur Pg fn_leak_hull_total_1 9 [] ir (RetK rs) := Pur.of enter
end leak_hull_total_1

namespace slices_Collect_leak_inflow
@[simp] noncomputable def r0 (_ : Unit) : List Stp := [S 2 (.mv (.c .nils))]
@[simp] noncomputable def r1 (_ : Unit) : List Stp := [M 3 0, S 4 (.call (fc fn_slices_AppendSeq_leak_inflow_leak_inflow) [(.c .nils), .t 3]), M 2 4]
@[simp] noncomputable def ir : IR := (.seq (.ops r0) (.seq (.ops r1) .ret))
@[simp] noncomputable def rs : List RV := [.tmp 2]
theorem comp : compF Pg cf0 Tryz.f105 = some (ir, rs, 5) := by kernel_rfl
theorem enter : Entr Pg fn_slices_Collect_leak_inflow 5 [] ir (RetK rs) := Entr.of follows Tryz.func105 comp
theorem pure : Pur Pg fn_slices_Collect_leak_inflow 5 [] ir (RetK rs) := Pur.of enter
end slices_Collect_leak_inflow

end Go.Cw
end

/- Functions in the small form. Printed by a program of this seat's proofs. -/
section
namespace Go.Cw
open Go Go.Proofs Sh

namespace leak_hull_inflows
@[simp] noncomputable def r0 (_ : Unit) : List Stp := [S 2 (.box (.t 0)), S 4 (.mv (.c .nilf))]
@[simp] noncomputable def r1 (_ : Unit) : List Stp := [Ld 6 false 1 2, M 7 1, S 8 (.call (fc fn_leak_hull_conditions) [.t 6, .t 7]), S 5 (.alloc [.nils]), SN (.store 1 (.t 5) (.t 8))]
@[simp] noncomputable def r2 (_ : Unit) : List Stp := [S 9 (.mkF (.func fn_leak_hull_inflows_1) [] [.t 2, .t 5]), M 4 9]
@[simp] noncomputable def ir : IR := (.seq (.ops r0) (.seq (.ops r1) (.seq (.ops r2) .ret)))
@[simp] noncomputable def rs : List RV := [.tmp 4]
theorem comp : compF Pg cf0 Tryz.f106 = some (ir, rs, 10) := by kernel_rfl
theorem enter : Entr Pg fn_leak_hull_inflows 10 [] ir (RetK rs) := Entr.of follows Tryz.func106 comp
theorem pure : Pur Pg fn_leak_hull_inflows 10 [] ir (RetK rs) := Pur.of enter
end leak_hull_inflows

namespace leak_hull_every
@[simp] noncomputable def r0 (_ : Unit) : List Stp := [S 2 (.mv (.c (.int .u64 0)))]
@[simp] noncomputable def r1 (_ : Unit) : List Stp := [M 3 0, S 4 (.nilck Pg (.t 3)), Fa 5 0 4, Fa 6 1 5, Ld 7 false 1 6, S 8 (.len (.t 7)), S 9 (.bin .shl (.c (.int .u64 1)) (.t 8)), S 10 (.bin .sub (.t 9) (.c (.int .u64 1))), M 2 10]
@[simp] noncomputable def ir : IR := (.seq (.ops r0) (.seq (.ops r1) .ret))
@[simp] noncomputable def rs : List RV := [.tmp 2]
theorem comp : compF Pg cf0 Tryz.f107 = some (ir, rs, 11) := by kernel_rfl
theorem enter : Entr Pg fn_leak_hull_every 11 [] ir (RetK rs) := Entr.of follows Tryz.func107 comp
theorem pure : Pur Pg fn_leak_hull_every 11 [] ir (RetK rs) := Pur.of enter
end leak_hull_every

namespace leak_set_has
@[simp] noncomputable def r0 (_ : Unit) : List Stp := [S 4 (.mv (.c (.bool false)))]
@[simp] noncomputable def r1 (_ : Unit) : List Stp := [M 5 0, M 6 1, Bn 7 .shr 5 6, S 8 (.bin .and (.t 7) (.c (.int .u64 1))), S 9 (.bin .eql (.t 8) (.c (.int .u64 1))), M 4 9]
@[simp] noncomputable def ir : IR := (.seq (.ops r0) (.seq (.ops r1) .ret))
@[simp] noncomputable def rs : List RV := [.tmp 4]
theorem comp : compF Pg cf0 Tryz.f110 = some (ir, rs, 10) := by kernel_rfl
theorem enter : Entr Pg fn_leak_set_has 10 [] ir (RetK rs) := Entr.of follows Tryz.func110 comp
theorem pure : Pur Pg fn_leak_set_has 10 [] ir (RetK rs) := Pur.of enter
end leak_set_has

namespace leak_flows
@[simp] noncomputable def r0 (_ : Unit) : List Stp := [MI 2 0]
@[simp] noncomputable def r1 (_ : Unit) : List Stp := [M 5 0, S 6 (.len (.t 5)), MI 7 0]
@[simp] noncomputable def r2 (_ : Unit) : List Stp := [Bn 8 .lss 7 6]
@[simp] noncomputable def r3 (_ : Unit) : List Stp := [S 9 (.ixS 1 (.t 5) (.t 7)), Ld 10 false 1 9, M 4 10]
@[simp] noncomputable def r4 (_ : Unit) : List Stp := [M 11 2, M 12 4, Bn 13 .add 11 12, M 2 13]
@[simp] noncomputable def r5 (_ : Unit) : List Stp := [Bi 14 .add 7 1, M 7 14]
@[simp] noncomputable def r6 (_ : Unit) : List Stp := [M 15 2, M 2 15]
@[simp] noncomputable def ir : IR := (.seq (.ops r0) (.seq (.seq (.ops r1) (.block 0 (.loop (.seq (.ops r2) (.seq (.cond (.t 8) .skip (.exit 0)) (.seq (.block 1 (.seq (.ops r3) (.ops r4))) (.ops r5))))))) (.seq (.ops r6) .ret)))
@[simp] noncomputable def rs : List RV := [.tmp 2]
theorem comp : compF Pg cf0 Tryz.f111 = some (ir, rs, 16) := by kernel_rfl
theorem enter : Entr Pg fn_leak_flows 16 [] ir (RetK rs) := Entr.of follows Tryz.func111 comp
theorem pure : Pur Pg fn_leak_flows 16 [] ir (RetK rs) := Pur.of enter
end leak_flows

namespace slices_AppendSeq_leak_inflow_leak_inflow
@[simp] noncomputable def r0 (_ : Unit) : List Stp := [S 2 (.box (.t 0)), S 4 (.mv (.c .nils))]
@[simp] noncomputable def r1 (_ : Unit) : List Stp := [M 6 1]
@[simp] noncomputable def r2 (_ : Unit) : List Stp := [S 5 (.alloc [.int .i64 0, .int .i64 0, .int .i64 0, .int .i64 0, .int .i64 0, .int .i64 0]), SN (.store 6 (.t 5) (.t 7))]
@[simp] noncomputable def r3 (_ : Unit) : List Stp := [Ld 8 false 1 2, Ld 9 true 6 5, S 10 (.bsl 1 [.int .i64 0, .int .i64 0, .int .i64 0, .int .i64 0, .int .i64 0, .int .i64 0] [(0, 6, (.t 9))]), S 11 (.app 6 48 (.t 8) (.t 10)), SN (.store 1 (.t 2) (.t 11))]
@[simp] noncomputable def r4 (_ : Unit) : List Stp := [Ld 12 false 1 2, M 4 12]
@[simp] noncomputable def ir : IR := (.seq (.ops r0) (.seq (.seq (.ops r1) (.block 0 (.rangeF (.t 6) [7] (.ops r2) (.block 1 (.ops r3))))) (.seq (.ops r4) .ret)))
@[simp] noncomputable def rs : List RV := [.tmp 4]
theorem comp : compF Pg cf0 Tryz.f113 = some (ir, rs, 13) := by kernel_rfl
theorem enter : Entr Pg fn_slices_AppendSeq_leak_inflow_leak_inflow 13 [] ir (RetK rs) := Entr.of follows Tryz.func113 comp
theorem pure : Pur Pg fn_slices_AppendSeq_leak_inflow_leak_inflow 13 [] ir (RetK rs) := Pur.of enter
end slices_AppendSeq_leak_inflow_leak_inflow

namespace leak_hull_conditions
noncomputable def cfg : Cfg := { pure := pures, pcs := [], raw := [], cuts := [], draws := [(6, [⟨0, false, [], []⟩, ⟨1, false, [], []⟩, ⟨2, false, [], []⟩, ⟨4, false, [], []⟩, ⟨9, false, [], []⟩, ⟨3, false, [], []⟩, ⟨5, false, [], []⟩, ⟨6, false, [], []⟩, ⟨10, false, [], []⟩, ⟨7, false, [], [10]⟩, ⟨8, false, [], []⟩, ⟨11, false, [], []⟩, ⟨12, false, [], []⟩, ⟨13, false, [], []⟩, ⟨14, false, [], []⟩, ⟨15, false, [], []⟩])], keep := [] }
@[simp] noncomputable def r0 (_ : Unit) : List Stp := [S 4 (.mv (.c .nils))]
@[simp] noncomputable def r1 (_ : Unit) : List Stp := [S 8 (.build [] []), S 9 (.mkI 212 (.t 8)), S 10 (.bsl 1 [.nili] [(0, 1, (.t 9))]), M 5 10]
@[simp] noncomputable def r2 (_ : Unit) : List Stp := [M 11 0, S 12 (.nilck Pg (.t 11)), Fa 13 0 12, Fa 14 1 13, Ld 15 false 1 14, S 16 (.len (.t 15)), MI 17 0]
@[simp] noncomputable def r3 (_ : Unit) : List Stp := [Bn 18 .lss 17 16]
@[simp] noncomputable def r4 (_ : Unit) : List Stp := [M 19 17, S 20 (.ixS 4 (.t 15) (.t 17)), Ld 21 true 4 20, S 7 (.alloc [.int .i64 0, .int .i64 0, .int .i64 0, .int .i64 0]), M 6 19, SN (.store 4 (.t 7) (.t 21))]
@[simp] noncomputable def r5 (_ : Unit) : List Stp := [M 22 1, M 23 6, Bn 24 .shr 22 23, S 25 (.bin .and (.t 24) (.c (.int .u64 1))), S 26 (.bin .eql (.t 25) (.c (.int .u64 1)))]
@[simp] noncomputable def r6 (_ : Unit) : List Stp := [M 27 5, M 28 0, Fa 29 0 7, Fa 31 1 7, Fa 36 2 7, Ld 30 false 1 29, Ld 32 false 1 31, S 33 (.build [.int .i64 0, .int .i64 0] [(0, 1, (.t 30)), (1, 1, (.t 32))]), Ld 37 true 2 36, SD (some 34) (.call (fc fn_leak_hull_wet) [.t 28, .t 33]) false [] [I 37 (.load true 2 (.t 36))], S 35 (.build [(.int .u64 0)] [(0, 1, (.t 34))]), S 38 (.build [(.int .u64 0), .int .i64 0, .int .i64 0] [(0, 1, (.t 35)), (1, 2, (.t 37))]), S 39 (.mkI 216 (.t 38)), S 40 (.bsl 1 [.nili] [(0, 1, (.t 39))]), S 41 (.app 1 16 (.t 27) (.t 40)), M 5 41]
@[simp] noncomputable def r7 (_ : Unit) : List Stp := [Bi 42 .add 17 1, M 17 42]
@[simp] noncomputable def r8 (_ : Unit) : List Stp := [M 43 5, M 4 43]
@[simp] noncomputable def ir : IR := (.seq (.ops r0) (.seq (.ops r1) (.seq (.seq (.ops r2) (.block 0 (.loop (.seq (.ops r3) (.seq (.cond (.t 18) .skip (.exit 0)) (.seq (.block 1 (.seq (.ops r4) (.seq (.ops r5) (.cond (.t 26) (.ops r6) .skip)))) (.ops r7))))))) (.seq (.ops r8) .ret))))
@[simp] noncomputable def rs : List RV := [.tmp 4]
theorem comp : compF Pg cfg Tryz.f114 = some (ir, rs, 44) := by kernel_rfl
theorem enter : Entr Pg fn_leak_hull_conditions 44 [] ir (RetK rs) := Entr.of follows Tryz.func114 comp
theorem pure : Pur Pg fn_leak_hull_conditions 44 [] ir (RetK rs) := Pur.of enter
end leak_hull_conditions

namespace leak_hull_inflows_1
@[simp] noncomputable def r0 (_ : Unit) : List Stp := [S 3 (.box (.t 0))]
@[simp] noncomputable def r1 (_ : Unit) : List Stp := [S 4 (.alloc [.nilf])]
@[simp] noncomputable def r2 (_ : Unit) : List Stp := [S 5 (.mkF (.func fn_leak_hull_inflows_1_1) [] [.t 1, .t 3, .t 2, .t 4]), SN (.store 1 (.t 4) (.t 5))]
@[simp] noncomputable def r3 (_ : Unit) : List Stp := [Ld 6 false 1 4, S 7 (.build [.int .i64 0, .int .i64 0, .int .i64 0, .int .i64 0, .int .i64 0, .int .i64 0] []), S 8 (.call (.t 6) [.t 7, (ci 0)])]
@[simp] noncomputable def ir : IR := (.seq (.ops r0) (.seq (.ops r1) (.seq (.ops r2) (.ops r3))))
@[simp] noncomputable def rs : List RV := []
theorem comp : compF Pg cf0 Tryz.f115 = some (ir, rs, 9) := by kernel_rfl
theorem enter : Entr Pg fn_leak_hull_inflows_1 9 [] ir (RetK rs) := Entr.of follows Tryz.func115 comp
theorem pure : Pur Pg fn_leak_hull_inflows_1 9 [] ir (RetK rs) := Pur.of enter
end leak_hull_inflows_1

namespace leak_hull_inflows_1_1
noncomputable def cfg : Cfg := { pure := pures, pcs := [], raw := [], cuts := [], draws := [(10, [⟨0, false, [], []⟩, ⟨2, false, [], []⟩, ⟨3, false, [], []⟩, ⟨8, false, [], []⟩, ⟨9, false, [], []⟩, ⟨10, false, [], []⟩, ⟨1, false, [], []⟩, ⟨4, false, [], []⟩, ⟨5, false, [], []⟩, ⟨6, false, [], []⟩, ⟨7, false, [], []⟩, ⟨11, false, [], []⟩, ⟨12, false, [], []⟩])], keep := [] }
@[simp] noncomputable def r0 (_ : Unit) : List Stp := [S 6 (.box (.t 0)), S 8 (.mv (.c (.bool false)))]
@[simp] noncomputable def r1 (_ : Unit) : List Stp := [M 12 1, Ld 13 false 1 2, S 14 (.nilck Pg (.t 13)), Fa 15 2 14, Ld 16 false 1 15, S 17 (.len (.t 16)), Bn 18 .eql 12 17]
@[simp] noncomputable def r2 (_ : Unit) : List Stp := [Ld 19 false 1 3, Ld 20 true 6 6, S 21 (.call (.t 19) [.t 20]), M 8 21]
@[simp] noncomputable def r3 (_ : Unit) : List Stp := [MI 9 0]
@[simp] noncomputable def r4 (_ : Unit) : List Stp := [M 22 9, Ld 23 false 1 2, S 24 (.nilck Pg (.t 23)), Fa 25 2 24, Ld 26 false 1 25, M 27 1, S 28 (.ixS 1 (.t 26) (.t 27)), Ld 29 false 1 28, Bn 30 .leq 22 29]
@[simp] noncomputable def r6 (_ : Unit) : List Stp := [M 33 1, M 34 9, S 35 (.ixA 6 1 (.t 6) (.t 33)), SN (.store 1 (.t 35) (.t 34))]
@[simp] noncomputable def r7 (_ : Unit) : List Stp := [Ld 36 false 1 4, S 37 (.len (.t 36)), MI 38 0]
@[simp] noncomputable def r8 (_ : Unit) : List Stp := [Bn 39 .lss 38 37]
@[simp] noncomputable def r9 (_ : Unit) : List Stp := [S 40 (.ixS 1 (.t 36) (.t 38)), Ld 41 false 1 40, M 11 41]
@[simp] noncomputable def r10 (_ : Unit) : List Stp := [M 42 11, M 44 1, Bi 45 .add 44 1, S 50 (.mkF (.method "caulkworks/leak.can") [.t 42] []), S 51 (.nilck Pg (.t 50)), M 52 42, Ld 43 true 6 6, Ld 46 false 1 2, S 47 (.nilck Pg (.t 46)), Fa 48 2 47, Ld 49 false 1 48, S 53 (.inv (.t 52) "caulkworks/leak.can" [.t 43, .t 45, .t 49]), S 54 (.un .not (.t 53))]
@[simp] noncomputable def r11 (_ : Unit) : List Stp := [Bi 55 .add 38 1, M 38 55]
@[simp] noncomputable def r12 (_ : Unit) : List Stp := [Ld 56 false 1 5, Ld 57 true 6 6, M 58 1, Bi 59 .add 58 1, S 60 (.call (.t 56) [.t 57, .t 59]), S 61 (.un .not (.t 60))]
@[simp] noncomputable def r13 (_ : Unit) : List Stp := [S 8 (.mv (.c (.bool false)))]
@[simp] noncomputable def r5 (_ : Unit) : List Stp := [M 31 9, Bi 32 .add 31 1, M 9 32]
@[simp] noncomputable def r14 (_ : Unit) : List Stp := [S 8 (.mv (.c (.bool true)))]
@[simp] noncomputable def ir : IR := (.seq (.ops r0) (.seq (.seq (.ops r1) (.cond (.t 18) (.seq (.ops r2) .ret) .skip)) (.seq .skip (.seq (.seq (.ops r3) (.block 0 (.loop (.seq (.seq (.ops r4) (.cond (.t 30) .skip (.exit 0))) (.seq (.block 1 (.seq (.ops r6) (.seq (.seq (.ops r7) (.block 2 (.loop (.seq (.ops r8) (.seq (.cond (.t 39) .skip (.exit 2)) (.seq (.block 3 (.seq (.ops r9) (.seq (.ops r10) (.cond (.t 54) (.exit 1) .skip)))) (.ops r11))))))) (.seq (.ops r12) (.cond (.t 61) (.seq (.ops r13) .ret) .skip))))) (.ops r5)))))) (.seq (.ops r14) .ret)))))
@[simp] noncomputable def rs : List RV := [.tmp 8]
theorem comp : compF Pg cfg Tryz.f116 = some (ir, rs, 62) := by kernel_rfl
theorem enter : Entr Pg fn_leak_hull_inflows_1_1 62 [] ir (RetK rs) := Entr.of follows Tryz.func116 comp
theorem pure : Pur Pg fn_leak_hull_inflows_1_1 62 [] ir (RetK rs) := Pur.of enter
end leak_hull_inflows_1_1

namespace again_yard_seams
@[simp] noncomputable def r0 (_ : Unit) : List Stp := [S 3 (.box (.t 0)), MI 6 0]
@[simp] noncomputable def r1 (_ : Unit) : List Stp := [M 7 2, M 8 1, M 9 1, S 10 (.nilck Pg (.t 9)), Fa 11 0 10, Fa 12 5 11, Ld 13 false 1 12, S 14 (.call (fc fn_again_ship_promised) [.t 8, .t 13]), Bn 15 .and 7 14, M 6 15]
@[simp] noncomputable def ir : IR := (.seq (.ops r0) (.seq (.ops r1) .ret))
@[simp] noncomputable def rs : List RV := [.tmp 6]
theorem comp : compF Pg cf0 Tryz.f149 = some (ir, rs, 16) := by kernel_rfl
theorem enter : Entr Pg fn_again_yard_seams 16 [] ir (RetK rs) := Entr.of follows Tryz.func149 comp
theorem pure : Pur Pg fn_again_yard_seams 16 [] ir (RetK rs) := Pur.of enter
end again_yard_seams

namespace again_owner_seams
@[simp] noncomputable def r0 (_ : Unit) : List Stp := [S 3 (.box (.t 0)), MI 6 0]
@[simp] noncomputable def r1 (_ : Unit) : List Stp := [M 7 2, S 8 (.zAddr (.t 3)), Ld 9 true 0 8, M 10 1, M 11 2, S 12 (.call (fc fn_again_yard_seams) [.t 9, .t 10, .t 11]), Bn 13 .andNot 7 12, M 6 13]
@[simp] noncomputable def ir : IR := (.seq (.ops r0) (.seq (.ops r1) .ret))
@[simp] noncomputable def rs : List RV := [.tmp 6]
theorem comp : compF Pg cf0 Tryz.f150 = some (ir, rs, 14) := by kernel_rfl
theorem enter : Entr Pg fn_again_owner_seams 14 [] ir (RetK rs) := Entr.of follows Tryz.func150 comp
theorem pure : Pur Pg fn_again_owner_seams 14 [] ir (RetK rs) := Pur.of enter
end again_owner_seams

namespace leak_hull_can
@[simp] noncomputable def r0 (_ : Unit) : List Stp := [S 4 (.alloc [(.bool false)])]
@[simp] noncomputable def r1 (_ : Unit) : List Stp := [M 5 0, M 6 1, S 7 (.call (fc fn_leak_hull_inflows) [.t 5, .t 6])]
@[simp] noncomputable def r2 (_ : Unit) : List Stp := [SN (.store 1 (.t 4) (.c (.bool true)))]
@[simp] noncomputable def r3 (_ : Unit) : List Stp := [SN (.store 1 (.t 4) (.c (.bool false)))]
@[simp] noncomputable def ir : IR := (.seq (.ops r0) (.seq (.seq (.ops r1) (.block 0 (.rangeF (.t 7) [8] .skip (.block 1 (.seq (.ops r2) .ret))))) (.seq (.ops r3) .ret)))
@[simp] noncomputable def rs : List RV := [.cell 4 false 1]
theorem comp : compF Pg cf0 Tryz.f151 = some (ir, rs, 9) := by kernel_rfl
theorem enter : Entr Pg fn_leak_hull_can 9 [] ir (RetK rs) := Entr.of follows Tryz.func151 comp
theorem pure : Pur Pg fn_leak_hull_can 9 [] ir (RetK rs) := Pur.of enter
end leak_hull_can

namespace rake_all_done
@[simp] noncomputable def r0 (_ : Unit) : List Stp := [S 3 (.box (.t 0)), S 4 (.box (.t 1)), S 6 (.mv (.c (.bool false)))]
@[simp] noncomputable def r1 (_ : Unit) : List Stp := [M 7 2, S 8 (.len (.t 7)), Bi 9 .leq 8 1, M 6 9]
@[simp] noncomputable def ir : IR := (.seq (.ops r0) (.seq (.ops r1) .ret))
@[simp] noncomputable def rs : List RV := [.tmp 6]
theorem comp : compF Pg cf0 Tryz.f152 = some (ir, rs, 10) := by kernel_rfl
theorem enter : Entr Pg fn_rake_all_done 10 [] ir (RetK rs) := Entr.of follows Tryz.func152 comp
theorem pure : Pur Pg fn_rake_all_done 10 [] ir (RetK rs) := Pur.of enter
end rake_all_done

namespace leak_none_can
@[simp] noncomputable def r0 (_ : Unit) : List Stp := [S 4 (.box (.t 0)), S 5 (.box (.t 1)), S 8 (.mv (.c (.bool false)))]
@[simp] noncomputable def r1 (_ : Unit) : List Stp := [S 8 (.mv (.c (.bool true)))]
@[simp] noncomputable def ir : IR := (.seq (.ops r0) (.seq (.ops r1) .ret))
@[simp] noncomputable def rs : List RV := [.tmp 8]
theorem comp : compF Pg cf0 Tryz.f153 = some (ir, rs, 9) := by kernel_rfl
theorem enter : Entr Pg fn_leak_none_can 9 [] ir (RetK rs) := Entr.of follows Tryz.func153 comp
theorem pure : Pur Pg fn_leak_none_can 9 [] ir (RetK rs) := Pur.of enter
end leak_none_can

namespace leak_wet_ends
noncomputable def cfg : Cfg := { pure := pures, pcs := [], raw := [], cuts := [], draws := [(1, [⟨1, false, [], []⟩, ⟨3, false, [], []⟩, ⟨4, false, [], []⟩, ⟨5, false, [], []⟩, ⟨0, false, [], []⟩, ⟨2, false, [], []⟩, ⟨6, false, [], []⟩, ⟨7, false, [], []⟩, ⟨8, false, [], []⟩])], keep := [] }
@[simp] noncomputable def r0 (_ : Unit) : List Stp := [S 4 (.box (.t 0)), S 5 (.box (.t 1)), MI 8 0, MI 9 0]
@[simp] noncomputable def r1 (_ : Unit) : List Stp := [Fa 12 0 4, M 14 2, S 15 (.bin .shl (.c (.int .u64 1)) (.t 14)), S 16 (.bin .sub (.t 15) (.c (.int .u64 1))), Ld 11 true 6 5, Ld 13 false 1 12, Bn 17 .and 13 16, SP 18 (.call (fc fn_leak_inflow_sum) [.t 11, .t 17]), M 8 18]
@[simp] noncomputable def r2 (_ : Unit) : List Stp := [M 19 8, M 9 19]
@[simp] noncomputable def r3 (_ : Unit) : List Stp := [M 20 2, M 10 20]
@[simp] noncomputable def r4 (_ : Unit) : List Stp := [M 21 10, M 22 3, S 23 (.len (.t 22)), Bn 24 .lss 21 23]
@[simp] noncomputable def r6 (_ : Unit) : List Stp := [Fa 27 0 4, Ld 28 false 1 27, M 29 10, SP 30 (.call (fc fn_leak_set_has) [.t 28, .t 29])]
@[simp] noncomputable def r7 (_ : Unit) : List Stp := [M 31 9, M 32 3, M 33 10, S 34 (.ixS 1 (.t 32) (.t 33)), Ld 35 false 1 34, S 36 (.bsl 2 [.int .i64 0, .int .i64 0] [(0, 1, (.t 31)), (1, 1, (.t 35))]), S 37 (.call (fc fn_leak_flows) [.t 36]), M 9 37]
@[simp] noncomputable def r5 (_ : Unit) : List Stp := [M 25 10, Bi 26 .add 25 1, M 10 26]
@[simp] noncomputable def r8 (_ : Unit) : List Stp := [M 38 8, M 39 9, M 8 38, M 9 39]
@[simp] noncomputable def ir : IR := (.seq (.ops r0) (.seq (.ops r1) (.seq (.ops r2) (.seq (.seq (.ops r3) (.block 0 (.loop (.seq (.seq (.ops r4) (.cond (.t 24) .skip (.exit 0))) (.seq (.block 1 (.seq (.ops r6) (.cond (.t 30) (.ops r7) .skip))) (.ops r5)))))) (.seq (.ops r8) .ret)))))
@[simp] noncomputable def rs : List RV := [.tmp 8, .tmp 9]
theorem comp : compF Pg cfg Tryz.f154 = some (ir, rs, 40) := by kernel_rfl
theorem enter : Entr Pg fn_leak_wet_ends 40 [] ir (RetK rs) := Entr.of follows Tryz.func154 comp
theorem pure : Pur Pg fn_leak_wet_ends 40 [] ir (RetK rs) := Pur.of enter
end leak_wet_ends

namespace leak_sounding_can
@[simp] noncomputable def r0 (_ : Unit) : List Stp := [S 4 (.box (.t 0)), S 5 (.box (.t 1)), S 8 (.mv (.c (.bool false)))]
@[simp] noncomputable def r1 (_ : Unit) : List Stp := [Fa 12 0 4, Ld 13 true 1 12, Ld 14 true 6 5, M 15 2, M 16 3, S 17 (.call (fc fn_leak_wet_ends) [.t 13, .t 14, .t 15, .t 16]), M 11 17, X 18 11 0, X 19 11 1, M 9 18, M 10 19]
@[simp] noncomputable def r2 (_ : Unit) : List Stp := [M 20 9, Fa 21 1 4, Fa 22 1 21, Ld 23 false 1 22, Bn 24 .leq 20 23, M 25 24, Mg 26 25 true 10, SG 27 25 true (.fAddr 1 (.t 4)), SG 28 25 true (.fAddr 0 (.t 27)), SG 29 25 true (.load false 1 (.t 28)), SG 30 25 true (.bin .geq (.t 26) (.t 29)), Pa 31 25 30, M 8 31]
@[simp] noncomputable def ir : IR := (.seq (.ops r0) (.seq (.ops r1) (.seq (.ops r2) .ret)))
@[simp] noncomputable def rs : List RV := [.tmp 8]
theorem comp : compF Pg cf0 Tryz.f155 = some (ir, rs, 32) := by kernel_rfl
theorem enter : Entr Pg fn_leak_sounding_can 32 [] ir (RetK rs) := Entr.of follows Tryz.func155 comp
theorem pure : Pur Pg fn_leak_sounding_can 32 [] ir (RetK rs) := Pur.of enter
end leak_sounding_can

end Go.Cw
end

/-  -/
section

end

/- Functions in the small form. Printed by a program of this seat's proofs. -/
section
namespace Go.Cw
open Go Go.Proofs Sh

namespace top_TopFree
noncomputable def cfg : Cfg := { pure := [6, 7, 9, 10, 12, 13, 14, 15, 16, 17, 19, 27, 31, 40, 41, 45, 47, 53, 57, 60, 65, 66, 68, 70, 71, 73, 74, 76, 78, 84, 89, 98, 101, 110, 152], pcs := [], raw := [], cuts := [], draws := [(3, [⟨1, false, [], []⟩, ⟨3, false, [], []⟩, ⟨0, false, [], []⟩, ⟨2, false, [7], [0]⟩, ⟨4, false, [7], [0]⟩, ⟨5, false, [], []⟩, ⟨6, false, [], []⟩, ⟨7, true, [], []⟩, ⟨8, false, [], []⟩]), (6, [⟨0, false, [], []⟩, ⟨2, false, [], []⟩, ⟨1, false, [], []⟩, ⟨3, false, [], [1]⟩, ⟨4, false, [], []⟩, ⟨5, true, [], []⟩, ⟨6, false, [], []⟩, ⟨7, false, [], []⟩, ⟨8, false, [], []⟩]), (10, [⟨0, false, [], []⟩, ⟨2, false, [], []⟩, ⟨3, false, [], []⟩, ⟨7, false, [], []⟩, ⟨9, false, [], []⟩, ⟨13, false, [], []⟩, ⟨1, false, [], []⟩, ⟨4, false, [], []⟩, ⟨5, false, [], []⟩, ⟨8, false, [], []⟩, ⟨6, false, [], [1, 8]⟩, ⟨10, false, [], [1, 8]⟩, ⟨11, false, [], []⟩, ⟨12, false, [], []⟩, ⟨14, false, [], [1, 8]⟩, ⟨15, false, [], []⟩, ⟨16, true, [], []⟩, ⟨17, false, [], []⟩, ⟨18, false, [], []⟩, ⟨19, false, [], []⟩])], keep := [] }
@[simp] noncomputable def r0 (_ : Unit) : List Stp := [S 2 (.mv (.c (.bool false)))]
@[simp] noncomputable def r1 (_ : Unit) : List Stp := [M 36 0, S 37 (.call (fc fn_top_draws03) [.t 36]), M 3 37]
@[simp] noncomputable def r2 (_ : Unit) : List Stp := [M 39 3, S 40 (.call (fc fn_top_made03) [.t 39, (ci 4)]), M 38 40, X 41 38 0, X 42 38 1, S 4 (.alloc [.nils, .nils]), SN (.store 2 (.t 4) (.t 41)), M 5 42]
@[simp] noncomputable def r3 (_ : Unit) : List Stp := [M 44 3, M 46 3, Ld 43 true 2 4, SD (some 45) (.call (.t 44) [(ci 101)]) false [I 6 (.alloc [.nils, .nils, .nils, .int .i64 0, .nils, .int .i64 0])] [I 43 (.load true 2 (.t 4))], SD (some 47) (.call (.t 46) [(ci 600)]) false [I 6 (.alloc [.nils, .nils, .nils, .int .i64 0, .nils, .int .i64 0])] [I 43 (.load true 2 (.t 4))], S 48 (.bin .add (ci 300) (.t 47)), S 49 (.build [.nils, .nils, .nils, .int .i64 0, .nils, .int .i64 0] [(0, 2, (.t 43)), (3, 1, (.t 45)), (5, 1, (.t 48))]), SD (some 6) (.alloc [.nils, .nils, .nils, .int .i64 0, .nils, .int .i64 0]) true [] [], SN (.store 6 (.t 6) (.t 49))]
@[simp] noncomputable def r4 (_ : Unit) : List Stp := [Fa 50 0 4, Ld 51 false 1 50, S 52 (.len (.t 51)), MI 53 0]
@[simp] noncomputable def r5 (_ : Unit) : List Stp := [Bn 54 .lss 53 52]
@[simp] noncomputable def r6 (_ : Unit) : List Stp := [Fa 55 2 6, M 57 3, Ld 56 false 1 55, SD (some 58) (.call (.t 57) [(ci 20)]) false [] [I 56 (.load false 1 (.t 55))], S 59 (.bin .add (ci 1) (.t 58)), SD (some 60) (.bsl 1 [.int .i64 0] [(0, 1, (.t 59))]) true [] [], S 61 (.app 1 8 (.t 56) (.t 60)), Fa 62 2 6, SN (.store 1 (.t 62) (.t 61))]
@[simp] noncomputable def r7 (_ : Unit) : List Stp := [Bi 63 .add 53 1, M 53 63]
@[simp] noncomputable def r8 (_ : Unit) : List Stp := [M 64 3, S 65 (.call (.t 64) [(ci 13)]), MI 66 0]
@[simp] noncomputable def r9 (_ : Unit) : List Stp := [Bn 67 .lss 66 65]
@[simp] noncomputable def r10 (_ : Unit) : List Stp := [Fa 68 4 6, M 70 3, Fa 71 0 4, Fa 75 5 6, M 77 3, M 81 3, Ld 69 false 1 68, Ld 72 false 1 71, S 73 (.len (.t 72)), Ld 76 false 1 75, SD (some 74) (.call (.t 70) [.t 73]) false [] [I 69 (.load false 1 (.t 68)), I 76 (.load false 1 (.t 75))], SD (some 78) (.call (.t 77) [(ci 500)]) false [] [I 69 (.load false 1 (.t 68)), I 76 (.load false 1 (.t 75))], Bn 79 .sub 76 78, S 80 (.mm true [(ci 0), .t 79]), SD (some 82) (.call (.t 81) [(ci 4)]) false [] [I 69 (.load false 1 (.t 68)), I 76 (.load false 1 (.t 75))], S 83 (.build [.int .i64 0, .int .i64 0, .int .i64 0] [(0, 1, (.t 74)), (1, 1, (.t 80)), (2, 1, (.t 82))]), SD (some 84) (.bsl 1 [.int .i64 0, .int .i64 0, .int .i64 0] [(0, 3, (.t 83))]) true [] [], S 85 (.app 3 24 (.t 69) (.t 84)), Fa 86 4 6, SN (.store 1 (.t 86) (.t 85))]
@[simp] noncomputable def r11 (_ : Unit) : List Stp := [Bi 87 .add 66 1, M 66 87]
@[simp] noncomputable def r12 (_ : Unit) : List Stp := [M 88 5, SP 89 (.call (fc fn_ref01_LeaksOf) [.t 88]), M 7 89]
@[simp] noncomputable def r13 (_ : Unit) : List Stp := [Ld 91 true 6 6, SP 92 (.call (fc fn_again_Promised) [.t 91]), M 90 92, X 93 90 0, X 94 90 1, M 8 93, M 9 94]
@[simp] noncomputable def r14 (_ : Unit) : List Stp := [Ld 96 true 6 6, S 97 (.call (fc fn_again_Yard) [.t 96]), M 95 97, X 98 95 0, X 99 95 1, M 10 98, M 11 99]
@[simp] noncomputable def r15 (_ : Unit) : List Stp := [Ld 101 true 6 6, SP 102 (.call (fc fn_again_Pays) [.t 101]), M 100 102, X 103 100 0, X 104 100 1, S 12 (.alloc [.int .i64 0, .int .i64 0]), SN (.store 2 (.t 12) (.t 103)), M 13 104]
@[simp] noncomputable def r16 (_ : Unit) : List Stp := [Ld 106 true 6 6, SP 107 (.call (fc fn_again_Nothing) [.t 106]), M 105 107, X 108 105 0, X 109 105 1, S 14 (.alloc [.int .i64 0, .int .i64 0]), SN (.store 2 (.t 14) (.t 108)), M 15 109]
@[simp] noncomputable def r17 (_ : Unit) : List Stp := [M 110 9, Bi 111 .neq 110 0, M 112 111, Mg 113 112 false 11, SG 114 112 false (.bin .neq (.t 113) (ci 0)), Po 115 112 114, M 116 115, Mg 117 116 false 13, SG 118 116 false (.bin .neq (.t 117) (ci 0)), Po 119 116 118, M 120 119, Mg 121 120 false 15, SG 122 120 false (.bin .neq (.t 121) (ci 0)), Po 123 120 122]
@[simp] noncomputable def r18 (_ : Unit) : List Stp := [S 2 (.mv (.c (.bool false)))]
@[simp] noncomputable def r19 (_ : Unit) : List Stp := [M 124 7, Bi 125 .neq 124 0, M 126 125, Mg 127 126 true 7, Mg 128 126 true 8, SG 129 126 true (.bin .andNot (.t 127) (.t 128)), SG 130 126 true (.bin .eql (.t 129) (ci 0)), Pa 131 126 130, M 16 131]
@[simp] noncomputable def r20 (_ : Unit) : List Stp := [MI 17 0, MI 18 0]
@[simp] noncomputable def r21 (_ : Unit) : List Stp := [Fa 132 2 6, Ld 133 false 1 132, S 134 (.len (.t 133)), MI 135 0]
@[simp] noncomputable def r22 (_ : Unit) : List Stp := [Bn 136 .lss 135 134]
@[simp] noncomputable def r23 (_ : Unit) : List Stp := [M 137 135, S 138 (.ixS 1 (.t 133) (.t 135)), Ld 139 false 1 138, M 19 137, M 20 139]
@[simp] noncomputable def r25 (_ : Unit) : List Stp := [M 147 7, M 148 19, Bn 149 .shr 147 148, Bi 150 .and 149 1, Bi 151 .eql 150 0, M 146 151]
@[simp] noncomputable def r26 (_ : Unit) : List Stp := [M 153 8, M 154 19, Bn 155 .shr 153 154, Bi 156 .and 155 1, Bi 157 .eql 156 1, M 152 157]
@[simp] noncomputable def r27 (_ : Unit) : List Stp := [M 158 18, M 159 20, Bn 160 .add 158 159, M 18 160]
@[simp] noncomputable def r24 (_ : Unit) : List Stp := [M 140 17, M 141 20, Fa 142 3 6, Ld 143 false 1 142, Bn 144 .mul 141 143, Bn 145 .add 140 144, M 17 145]
@[simp] noncomputable def r28 (_ : Unit) : List Stp := [Bi 161 .add 135 1, M 135 161]
@[simp] noncomputable def r29 (_ : Unit) : List Stp := [M 162 10, Bi 163 .eql 162 2, M 164 163, Mg 165 164 true 16, SG 166 164 true (.un .not (.t 165)), Pa 167 164 166, M 168 167, Mg 169 168 false 10, SG 170 168 false (.bin .eql (.t 169) (ci 0)), Mg 171 168 false 170, Mg 172 171 true 16, SG 173 168 false (.pick (.t 171) (.t 172) (.c (.bool false))), Po 174 168 173, M 175 174, Mg 176 175 false 17, SG 177 175 false (.fAddr 0 (.t 12)), SG 178 175 false (.load false 1 (.t 177)), SG 179 175 false (.bin .lss (.t 176) (.t 178)), Po 180 175 179, M 181 180, Mg 182 181 false 17, SG 183 181 false (.fAddr 1 (.t 12)), SG 184 181 false (.load false 1 (.t 183)), SG 185 181 false (.bin .gtr (.t 182) (.t 184)), Po 186 181 185, M 187 186, Mg 188 187 false 18, SG 189 187 false (.fAddr 0 (.t 14)), SG 190 187 false (.load false 1 (.t 189)), SG 191 187 false (.bin .lss (.t 188) (.t 190)), Po 192 187 191, M 193 192, Mg 194 193 false 18, SG 195 193 false (.fAddr 1 (.t 14)), SG 196 193 false (.load false 1 (.t 195)), SG 197 193 false (.bin .gtr (.t 194) (.t 196)), Po 198 193 197]
@[simp] noncomputable def r30 (_ : Unit) : List Stp := [S 2 (.mv (.c (.bool false)))]
@[simp] noncomputable def r31 (_ : Unit) : List Stp := [Ld 200 true 2 4, Fa 201 2 6, Ld 202 false 1 201, S 203 (.build [.nils, .nils, .nils] [(0, 2, (.t 200)), (2, 1, (.t 202))]), M 204 7, S 205 (.call (fc fn_top_followed03) [.t 203, .t 204]), M 199 205, X 206 199 0, X 207 199 1, X 208 199 2, M 21 206, M 22 207, M 23 208]
@[simp] noncomputable def r32 (_ : Unit) : List Stp := [Ld 210 true 2 4, Fa 211 2 6, Ld 212 false 1 211, S 213 (.build [.nils, .nils, .nils] [(0, 2, (.t 210)), (2, 1, (.t 212))]), M 214 21, SP 215 (.call (fc fn_rake_Known) [.t 213, .t 214]), M 209 215, X 216 209 0, X 217 209 1, M 24 216, M 25 217]
@[simp] noncomputable def r33 (_ : Unit) : List Stp := [M 218 23, S 219 (.un .not (.t 218)), M 220 219, Mg 221 220 false 25, SG 222 220 false (.bin .neq (.t 221) (ci 0)), Po 223 220 222, M 224 223, Mg 225 224 false 24, SG 226 224 false (.len (.t 225)), SG 227 224 false (.bin .neq (.t 226) (ci 1)), Po 228 224 227, M 229 228, Mg 230 229 false 24, SG 231 229 false (.ixS 1 (.t 230) (ci 0)), SG 232 229 false (.load false 1 (.t 231)), Mg 233 229 false 7, SG 234 229 false (.bin .neq (.t 232) (.t 233)), Po 235 229 234]
@[simp] noncomputable def r34 (_ : Unit) : List Stp := [S 2 (.mv (.c (.bool false)))]
@[simp] noncomputable def r35 (_ : Unit) : List Stp := [Ld 237 true 6 6, SP 238 (.call (fc fn_again_Ask) [.t 237]), M 236 238, X 239 236 0, X 240 236 1, X 241 236 2, M 26 239, M 27 240, M 28 241]
@[simp] noncomputable def r36 (_ : Unit) : List Stp := [M 242 28, Bi 243 .neq 242 0]
@[simp] noncomputable def r37 (_ : Unit) : List Stp := [M 244 28, Bi 245 .eql 244 11, M 246 10, Bi 247 .neq 246 1, S 248 (.eqB false (.t 245) (.t 247)), M 249 248, Mg 250 249 true 28, SG 251 249 true (.bin .eql (.t 250) (ci 11)), Mg 252 249 true 251, Mg 253 252 false 28, SG 254 252 false (.bin .eql (.t 253) (ci 4)), SG 255 249 true (.pick (.t 252) (.c (.bool true)) (.t 254)), Pa 256 249 255, M 257 256, SGP 258 257 true (.call (fc fn_top_alive11) []), Pa 259 257 258, M 2 259]
@[simp] noncomputable def r38 (_ : Unit) : List Stp := [Ld 261 true 2 4, M 262 26, M 263 27, SP 264 (.call (fc fn_leak_Wet) [.t 261, .t 262, .t 263]), M 260 264, X 265 260 0, X 266 260 1, M 29 265, M 30 266]
@[simp] noncomputable def r39 (_ : Unit) : List Stp := [M 267 30, Bi 268 .neq 267 0]
@[simp] noncomputable def r40 (_ : Unit) : List Stp := [S 2 (.mv (.c (.bool false)))]
@[simp] noncomputable def r41 (_ : Unit) : List Stp := [M 269 5, M 270 29, SP 271 (.call (fc fn_ref01_Sum) [.t 269, .t 270]), M 31 271]
@[simp] noncomputable def r42 (_ : Unit) : List Stp := [Ld 272 true 6 6, S 32 (.alloc [.nils, .nils, .nils, .int .i64 0, .nils, .int .i64 0]), SN (.store 6 (.t 32) (.t 272))]
@[simp] noncomputable def r43 (_ : Unit) : List Stp := [S 273 (.bsl 0 [] []), Fa 274 1 4, Ld 275 false 1 274, S 276 (.app 4 32 (.t 273) (.t 275)), M 277 26, M 278 27, M 279 31, M 280 31, SP 281 (.call (fc fn_top_span03) [.t 279, .t 280]), S 282 (.build [.int .i64 0, .int .i64 0, .int .i64 0, .int .i64 0] [(0, 1, (.t 277)), (1, 1, (.t 278)), (2, 2, (.t 281))]), S 283 (.bsl 1 [.int .i64 0, .int .i64 0, .int .i64 0, .int .i64 0] [(0, 4, (.t 282))]), S 284 (.app 4 32 (.t 276) (.t 283)), Fa 285 0 32, Fa 286 1 285, SN (.store 1 (.t 286) (.t 284))]
@[simp] noncomputable def r44 (_ : Unit) : List Stp := [MI 33 0]
@[simp] noncomputable def r45 (_ : Unit) : List Stp := [M 287 16]
@[simp] noncomputable def r46 (_ : Unit) : List Stp := [MI 33 2]
@[simp] noncomputable def r47 (_ : Unit) : List Stp := [Ld 289 true 6 32, S 290 (.call (fc fn_again_Yard) [.t 289]), M 288 290, X 291 288 0, X 292 288 1, M 34 291, M 35 292]
@[simp] noncomputable def r48 (_ : Unit) : List Stp := [M 293 10, Bi 294 .eql 293 1, M 295 294, Mg 296 295 true 34, Mg 297 295 true 33, SG 298 295 true (.bin .eql (.t 296) (.t 297)), Pa 299 295 298, M 300 299, Mg 301 300 true 35, SG 302 300 true (.bin .eql (.t 301) (ci 0)), Pa 303 300 302, M 304 303, SGP 305 304 true (.call (fc fn_top_alive11) []), Pa 306 304 305, M 2 306]
@[simp] noncomputable def ir : IR := (.seq (.ops r0) (.seq (.ops r1) (.seq (.ops r2) (.seq (.ops r3) (.seq (.seq (.ops r4) (.block 0 (.loop (.seq (.ops r5) (.seq (.cond (.t 54) .skip (.exit 0)) (.seq (.block 1 (.ops r6)) (.ops r7))))))) (.seq (.seq (.ops r8) (.block 2 (.loop (.seq (.ops r9) (.seq (.cond (.t 67) .skip (.exit 2)) (.seq (.block 3 (.ops r10)) (.ops r11))))))) (.seq (.ops r12) (.seq (.ops r13) (.seq (.ops r14) (.seq (.ops r15) (.seq (.ops r16) (.seq (.seq (.ops r17) (.cond (.t 123) (.seq (.ops r18) .ret) .skip)) (.seq (.ops r19) (.seq (.ops r20) (.seq (.seq (.ops r21) (.block 4 (.loop (.seq (.ops r22) (.seq (.cond (.t 136) .skip (.exit 4)) (.seq (.block 5 (.seq (.ops r23) (.block 6 (.seq (.ops r25) (.cond (.t 146) .skip (.seq (.ops r26) (.cond (.t 152) (.ops r27) (.ops r24)))))))) (.ops r28))))))) (.seq (.seq (.ops r29) (.cond (.t 198) (.seq (.ops r30) .ret) .skip)) (.seq (.ops r31) (.seq (.ops r32) (.seq (.seq (.ops r33) (.cond (.t 235) (.seq (.ops r34) .ret) .skip)) (.seq (.ops r35) (.seq (.seq (.ops r36) (.cond (.t 243) (.seq (.ops r37) .ret) .skip)) (.seq (.ops r38) (.seq (.seq (.ops r39) (.cond (.t 268) (.seq (.ops r40) .ret) .skip)) (.seq (.ops r41) (.seq (.ops r42) (.seq (.ops r43) (.seq (.ops r44) (.seq (.seq (.ops r45) (.cond (.t 287) (.ops r46) .skip)) (.seq (.ops r47) (.seq (.ops r48) .ret))))))))))))))))))))))))))))))
@[simp] noncomputable def rs : List RV := [.tmp 2]
theorem comp : compF Pg cfg Tryz.f3 = some (ir, rs, 307) := by kernel_rfl
theorem enter : Entr Pg fn_top_TopFree 307 [] ir (RetK rs) := Entr.of follows Tryz.func3 comp
theorem pure : Pur Pg fn_top_TopFree 307 [] ir (RetK rs) := Pur.of enter
end top_TopFree

namespace top_draws03
@[simp] noncomputable def r0 (_ : Unit) : List Stp := [S 1 (.box (.t 0)), S 2 (.mv (.c .nilf))]
@[simp] noncomputable def r1 (_ : Unit) : List Stp := [S 3 (.alloc [.int .i64 0]), SN (.store 1 (.t 3) (ci 0))]
@[simp] noncomputable def r2 (_ : Unit) : List Stp := [S 4 (.mkF (.func fn_top_draws03_1) [] [.t 3, .t 1]), M 2 4]
@[simp] noncomputable def ir : IR := (.seq (.ops r0) (.seq (.ops r1) (.seq (.ops r2) .ret)))
@[simp] noncomputable def rs : List RV := [.tmp 2]
theorem comp : compF Pg cf0 Tryz.f4 = some (ir, rs, 5) := by kernel_rfl
theorem enter : Entr Pg fn_top_draws03 5 [] ir (RetK rs) := Entr.of follows Tryz.func4 comp
theorem pure : Pur Pg fn_top_draws03 5 [] ir (RetK rs) := Pur.of enter
end top_draws03

namespace top_made03
@[simp] noncomputable def r0 (_ : Unit) : List Stp := [S 4 (.alloc [.nils, .nils]), S 5 (.mv (.c .nils))]
@[simp] noncomputable def r1 (_ : Unit) : List Stp := [M 12 0, S 13 (.call (.t 12) [(ci 5)]), S 14 (.bin .add (ci 1) (.t 13)), MI 15 0]
@[simp] noncomputable def r2 (_ : Unit) : List Stp := [Bn 16 .lss 15 14]
@[simp] noncomputable def r3 (_ : Unit) : List Stp := [M 17 0, S 18 (.call (.t 17) [(ci 9)]), M 19 0, S 20 (.call (.t 19) [(ci 3)]), Bi 21 .sub 20 1, M 22 0, S 23 (.call (.t 22) [(ci 4)]), S 24 (.build [.int .i64 0, .int .i64 0, .int .i64 0] [(0, 1, (.t 18)), (1, 1, (.t 21)), (2, 1, (.t 23))]), S 6 (.alloc [.int .i64 0, .int .i64 0, .int .i64 0]), SN (.store 3 (.t 6) (.t 24))]
@[simp] noncomputable def r4 (_ : Unit) : List Stp := [MI 7 0]
@[simp] noncomputable def r5 (_ : Unit) : List Stp := [M 25 0, S 26 (.call (.t 25) [(ci 2)]), Bi 27 .eql 26 0]
@[simp] noncomputable def r6 (_ : Unit) : List Stp := [M 28 0, Fa 29 2 6, Ld 30 false 1 29, Bi 31 .add 30 1, S 32 (.call (.t 28) [.t 31]), M 7 32]
@[simp] noncomputable def r7 (_ : Unit) : List Stp := [Fa 33 0 4, Ld 34 false 1 33, Ld 35 true 3 6, S 36 (.bsl 1 [.int .i64 0, .int .i64 0, .int .i64 0] [(0, 3, (.t 35))]), S 37 (.app 3 24 (.t 34) (.t 36)), M 38 5, M 39 7, S 40 (.bsl 1 [.int .i64 0] [(0, 1, (.t 39))]), S 41 (.app 1 8 (.t 38) (.t 40)), Fa 42 0 4, SN (.store 1 (.t 42) (.t 37)), M 5 41]
@[simp] noncomputable def r8 (_ : Unit) : List Stp := [Bi 43 .add 15 1, M 15 43]
@[simp] noncomputable def r9 (_ : Unit) : List Stp := [M 44 0, M 45 1, Bi 46 .add 45 1, S 47 (.call (.t 44) [.t 46]), MI 48 0]
@[simp] noncomputable def r10 (_ : Unit) : List Stp := [Bn 49 .lss 48 47]
@[simp] noncomputable def r11 (_ : Unit) : List Stp := [M 50 0, S 51 (.call (.t 50) [(ci 13)]), M 52 0, S 53 (.call (.t 52) [(ci 7)]), Bi 54 .sub 53 3, S 55 (.build [.int .i64 0, .int .i64 0, .int .i64 0, .int .i64 0] [(0, 1, (.t 51)), (1, 1, (.t 54))]), S 8 (.alloc [.int .i64 0, .int .i64 0, .int .i64 0, .int .i64 0]), SN (.store 4 (.t 8) (.t 55))]
@[simp] noncomputable def r12 (_ : Unit) : List Stp := [MI 9 0]
@[simp] noncomputable def r13 (_ : Unit) : List Stp := [Fa 56 0 4, Ld 57 false 1 56, S 58 (.len (.t 57)), MI 59 0]
@[simp] noncomputable def r14 (_ : Unit) : List Stp := [Bn 60 .lss 59 58]
@[simp] noncomputable def r15 (_ : Unit) : List Stp := [M 61 59, S 62 (.ixS 3 (.t 57) (.t 59)), Ld 63 true 3 62, S 11 (.alloc [.int .i64 0, .int .i64 0, .int .i64 0]), M 10 61, SN (.store 3 (.t 11) (.t 63))]
@[simp] noncomputable def r16 (_ : Unit) : List Stp := [Fa 64 0 11, Ld 65 false 1 64, Fa 66 0 8, Ld 67 false 1 66, Fa 68 1 11, Ld 69 false 1 68, Fa 70 1 8, Ld 71 false 1 70, Bn 72 .mul 69 71, Bn 73 .add 67 72, Bn 74 .leq 65 73]
@[simp] noncomputable def r17 (_ : Unit) : List Stp := [M 75 9, M 76 5, M 77 10, S 78 (.ixS 1 (.t 76) (.t 77)), Ld 79 false 1 78, Bn 80 .add 75 79, M 9 80]
@[simp] noncomputable def r18 (_ : Unit) : List Stp := [Bi 81 .add 59 1, M 59 81]
@[simp] noncomputable def r19 (_ : Unit) : List Stp := [M 82 9, M 83 0, S 84 (.call (.t 83) [(ci 2)]), Bn 85 .sub 82 84, S 86 (.mm true [(ci 0), .t 85]), M 87 9, M 88 0, S 89 (.call (.t 88) [(ci 2)]), Bn 90 .add 87 89, S 91 (.mm false [(ci 24), .t 90]), SP 92 (.call (fc fn_top_span03) [.t 86, .t 91]), Fa 93 2 8, SN (.store 2 (.t 93) (.t 92))]
@[simp] noncomputable def r20 (_ : Unit) : List Stp := [Fa 94 1 4, Ld 95 false 1 94, Ld 96 true 4 8, S 97 (.bsl 1 [.int .i64 0, .int .i64 0, .int .i64 0, .int .i64 0] [(0, 4, (.t 96))]), S 98 (.app 4 32 (.t 95) (.t 97)), Fa 99 1 4, SN (.store 1 (.t 99) (.t 98))]
@[simp] noncomputable def r21 (_ : Unit) : List Stp := [Bi 100 .add 48 1, M 48 100]
@[simp] noncomputable def r22 (_ : Unit) : List Stp := [Ld 101 true 2 4, M 102 5, SN (.store 2 (.t 4) (.t 101)), M 5 102]
@[simp] noncomputable def ir : IR := (.seq (.ops r0) (.seq (.seq (.ops r1) (.block 0 (.loop (.seq (.ops r2) (.seq (.cond (.t 16) .skip (.exit 0)) (.seq (.block 1 (.seq (.ops r3) (.seq (.ops r4) (.seq (.seq (.ops r5) (.cond (.t 27) (.ops r6) .skip)) (.ops r7))))) (.ops r8))))))) (.seq (.seq (.ops r9) (.block 2 (.loop (.seq (.ops r10) (.seq (.cond (.t 49) .skip (.exit 2)) (.seq (.block 3 (.seq (.ops r11) (.seq (.ops r12) (.seq (.seq (.ops r13) (.block 4 (.loop (.seq (.ops r14) (.seq (.cond (.t 60) .skip (.exit 4)) (.seq (.block 5 (.seq (.ops r15) (.seq (.ops r16) (.cond (.t 74) (.ops r17) .skip)))) (.ops r18))))))) (.seq (.ops r19) (.ops r20)))))) (.ops r21))))))) (.seq (.ops r22) .ret))))
@[simp] noncomputable def rs : List RV := [.cell 4 true 2, .tmp 5]
theorem comp : compF Pg cf0 Tryz.f5 = some (ir, rs, 103) := by kernel_rfl
theorem enter : Entr Pg fn_top_made03 103 [] ir (RetK rs) := Entr.of follows Tryz.func5 comp
theorem pure : Pur Pg fn_top_made03 103 [] ir (RetK rs) := Pur.of enter
end top_made03

namespace top_followed03
noncomputable def cfg : Cfg := { pure := [6, 7, 8, 9, 10, 11, 12, 13, 14, 15, 16, 17, 19, 27, 40, 41, 45, 47, 53, 57, 60, 65, 66, 68, 70, 71, 73, 74, 76, 78, 84, 89, 98, 101, 110, 152], pcs := [], raw := [], cuts := [], draws := [], keep := [] }
@[simp] noncomputable def r0 (_ : Unit) : List Stp := [S 2 (.box (.t 0)), S 4 (.mv (.c .nils)), MI 5 0, S 6 (.mv (.c (.bool false)))]
@[simp] noncomputable def r1 (_ : Unit) : List Stp := [Fa 13 2 2, Ld 14 false 1 13, S 15 (.len (.t 14)), MI 16 0]
@[simp] noncomputable def r2 (_ : Unit) : List Stp := [Bn 17 .lss 16 15]
@[simp] noncomputable def r3 (_ : Unit) : List Stp := [Ld 19 true 3 2, M 20 4, S 21 (.call (fc fn_rake_Next) [.t 19, .t 20]), M 18 21, X 22 18 0, X 23 18 1, X 24 18 2, M 7 22, M 8 23, M 9 24]
@[simp] noncomputable def r4 (_ : Unit) : List Stp := [M 25 9, Bi 26 .eql 25 4]
@[simp] noncomputable def r5 (_ : Unit) : List Stp := [M 27 4, M 28 5, M 4 27, M 5 28, S 6 (.mv (.c (.bool true)))]
@[simp] noncomputable def r6 (_ : Unit) : List Stp := [M 29 9, Bi 30 .neq 29 0, M 31 30, Mg 32 31 false 7, SG 33 31 false (.bin .lss (.t 32) (ci 0)), Po 34 31 33, M 35 34, Mg 36 35 false 7, SG 37 35 false (.fAddr 2 (.t 2)), SG 38 35 false (.load false 1 (.t 37)), SG 39 35 false (.len (.t 38)), SG 40 35 false (.bin .geq (.t 36) (.t 39)), Po 41 35 40]
@[simp] noncomputable def r7 (_ : Unit) : List Stp := [S 4 (.mv (.c .nils)), MI 5 0, S 6 (.mv (.c (.bool false)))]
@[simp] noncomputable def r8 (_ : Unit) : List Stp := [M 42 4, M 43 7, M 44 1, M 45 7, Bn 46 .shr 44 45, Bi 47 .and 46 1, Bi 48 .eql 47 1, S 49 (.build [.int .i64 0, (.bool false)] [(0, 1, (.t 43)), (1, 1, (.t 48))]), S 50 (.bsl 1 [.int .i64 0, (.bool false)] [(0, 2, (.t 49))]), S 51 (.app 2 16 (.t 42) (.t 50)), M 4 51]
@[simp] noncomputable def r9 (_ : Unit) : List Stp := [M 52 5, Fa 53 2 2, Ld 54 false 1 53, M 55 7, S 56 (.ixS 1 (.t 54) (.t 55)), Ld 57 false 1 56, Bn 58 .add 52 57, M 5 58]
@[simp] noncomputable def r10 (_ : Unit) : List Stp := [Bi 59 .add 16 1, M 16 59]
@[simp] noncomputable def r11 (_ : Unit) : List Stp := [Ld 61 true 3 2, M 62 4, S 63 (.call (fc fn_rake_Next) [.t 61, .t 62]), M 60 63, X 64 60 0, X 65 60 1, X 66 60 2, M 10 64, M 11 65, M 12 66]
@[simp] noncomputable def r12 (_ : Unit) : List Stp := [M 67 4, M 68 5, M 69 12, Bi 70 .eql 69 4, M 4 67, M 5 68, M 6 70]
@[simp] noncomputable def ir : IR := (.seq (.ops r0) (.seq (.seq (.ops r1) (.block 0 (.loop (.seq (.ops r2) (.seq (.cond (.t 17) .skip (.exit 0)) (.seq (.block 1 (.seq (.ops r3) (.seq (.seq (.ops r4) (.cond (.t 26) (.seq (.ops r5) .ret) .skip)) (.seq (.seq (.ops r6) (.cond (.t 41) (.seq (.ops r7) .ret) .skip)) (.seq (.ops r8) (.ops r9)))))) (.ops r10))))))) (.seq (.ops r11) (.seq (.ops r12) .ret))))
@[simp] noncomputable def rs : List RV := [.tmp 4, .tmp 5, .tmp 6]
theorem comp : compF Pg cfg Tryz.f11 = some (ir, rs, 71) := by kernel_rfl
theorem enter : Entr Pg fn_top_followed03 71 [] ir (RetK rs) := Entr.of follows Tryz.func11 comp
theorem pure : Pur Pg fn_top_followed03 71 [] ir (RetK rs) := Pur.of enter
end top_followed03

namespace top_alive11
noncomputable def cfg : Cfg := { pure := pures, pcs := [], raw := [], cuts := [2], draws := [(4, [⟨0, false, [], []⟩, ⟨1, false, [], []⟩, ⟨2, false, [], []⟩, ⟨3, false, [], []⟩, ⟨4, false, [], []⟩, ⟨5, false, [], []⟩, ⟨6, false, [], []⟩, ⟨8, false, [], []⟩, ⟨7, false, [], []⟩, ⟨9, false, [], []⟩, ⟨10, false, [], []⟩, ⟨11, false, [], []⟩, ⟨12, false, [], []⟩, ⟨13, false, [], []⟩, ⟨14, false, [], []⟩, ⟨15, false, [], []⟩, ⟨16, false, [], []⟩, ⟨17, false, [], []⟩, ⟨18, false, [], []⟩])], keep := [] }
@[simp] noncomputable def r0 (_ : Unit) : List Stp := [S 0 (.mv (.c (.bool false)))]
@[simp] noncomputable def r1 (_ : Unit) : List Stp := [SP 6 (.call (fc fn_top_hull03) []), S 7 (.bsl 3 [.int .i64 0, .int .i64 0, .int .i64 0] [(0, 1, (ci 4)), (1, 1, (ci 3)), (2, 1, (ci 5))]), S 8 (.build [.int .i64 0, .int .i64 0, .int .i64 0] [(0, 1, (ci 0)), (1, 1, (ci 100))]), S 9 (.build [.int .i64 0, .int .i64 0, .int .i64 0] [(0, 1, (ci 1)), (1, 1, (ci 90)), (2, 1, (ci 1))]), S 10 (.build [.int .i64 0, .int .i64 0, .int .i64 0] [(0, 1, (ci 2)), (1, 1, (ci 10))]), S 11 (.bsl 3 [.int .i64 0, .int .i64 0, .int .i64 0, .int .i64 0, .int .i64 0, .int .i64 0, .int .i64 0, .int .i64 0, .int .i64 0] [(0, 3, (.t 8)), (3, 3, (.t 9)), (6, 3, (.t 10))]), S 12 (.build [.nils, .nils, .nils, .int .i64 0, .nils, .int .i64 0] [(0, 2, (.t 6)), (2, 1, (.t 7)), (3, 1, (ci 10)), (4, 1, (.t 11)), (5, 1, (ci 400))]), S 1 (.alloc [.nils, .nils, .nils, .int .i64 0, .nils, .int .i64 0]), SN (.store 6 (.t 1) (.t 12))]
@[simp] noncomputable def r2 (_ : Unit) : List Stp := [Ld 14 true 6 1, SP 15 (.call (fc fn_again_Yard) [.t 14]), M 13 15, X 16 13 0, X 17 13 1, M 2 16, M 3 17]
@[simp] noncomputable def r3 (_ : Unit) : List Stp := [Ld 19 true 6 1, SP 20 (.call (fc fn_again_Pays) [.t 19]), M 18 20, X 21 18 0, X 22 18 1, S 4 (.alloc [.int .i64 0, .int .i64 0]), SN (.store 2 (.t 4) (.t 21)), M 5 22]
@[simp] noncomputable def r4 (_ : Unit) : List Stp := [M 23 2, Bi 24 .eql 23 1, M 25 24, Mg 26 25 true 3, SG 27 25 true (.bin .eql (.t 26) (ci 0)), Pa 28 25 27, M 29 28, SGP 31 29 true (.call (fc fn_top_span03) [(ci 0), (ci 50)]), SG 30 29 true (.load true 2 (.t 4)), SG 32 29 true (.eqA false [.i, .i] (.t 30) (.t 31)), Pa 33 29 32, M 34 33, Mg 35 34 true 5, SG 36 34 true (.bin .eql (.t 35) (ci 0)), Pa 37 34 36, M 38 37, SGP 39 38 true (.call (fc fn_top_alive03) []), Pa 40 38 39, M 0 40]
@[simp] noncomputable def ir : IR := (.seq (.ops r0) (.seq (.ops r1) (.seq (.cut (.ops r2)) (.seq (.ops r3) (.seq (.ops r4) .ret)))))
@[simp] noncomputable def rs : List RV := [.tmp 0]
theorem comp : compF Pg cfg Tryz.f14 = some (ir, rs, 41) := by kernel_rfl
theorem enter : Entr Pg fn_top_alive11 41 [] ir (RetK rs) := Entr.of follows Tryz.func14 comp
theorem pure : Pur Pg fn_top_alive11 41 [] ir (RetK rs) := Pur.of enter
end top_alive11

namespace top_span03
@[simp] noncomputable def r0 (_ : Unit) : List Stp := [S 4 (.alloc [.int .i64 0, .int .i64 0])]
@[simp] noncomputable def r1 (_ : Unit) : List Stp := [M 5 0, M 6 1, S 7 (.build [.int .i64 0, .int .i64 0] [(0, 1, (.t 5)), (1, 1, (.t 6))]), SN (.store 2 (.t 4) (.t 7))]
@[simp] noncomputable def ir : IR := (.seq (.ops r0) (.seq (.ops r1) .ret))
@[simp] noncomputable def rs : List RV := [.cell 4 true 2]
theorem comp : compF Pg cf0 Tryz.f17 = some (ir, rs, 8) := by kernel_rfl
theorem enter : Entr Pg fn_top_span03 8 [] ir (RetK rs) := Entr.of follows Tryz.func17 comp
theorem pure : Pur Pg fn_top_span03 8 [] ir (RetK rs) := Pur.of enter
end top_span03

namespace top_draws03_1
noncomputable def cfg : Cfg := { pure := pures, pcs := [], raw := [], cuts := [], draws := [(4, [⟨11, false, [], []⟩, ⟨0, false, [], []⟩, ⟨1, false, [], []⟩, ⟨2, false, [], []⟩, ⟨3, false, [], []⟩, ⟨4, false, [], []⟩, ⟨5, false, [], []⟩, ⟨6, false, [], []⟩, ⟨7, false, [], []⟩, ⟨8, false, [], []⟩, ⟨9, false, [], []⟩, ⟨10, false, [], []⟩, ⟨12, false, [], []⟩, ⟨13, false, [], []⟩])], keep := [] }
@[simp] noncomputable def r0 (_ : Unit) : List Stp := [MI 4 0]
@[simp] noncomputable def r1 (_ : Unit) : List Stp := [Ld 5 false 1 1, Bi 6 .add 5 1, SN (.store 1 (.t 1) (.t 6))]
@[simp] noncomputable def r2 (_ : Unit) : List Stp := [Ld 7 false 1 2, S 8 (.len (.t 7)), Bi 9 .eql 8 0]
@[simp] noncomputable def r3 (_ : Unit) : List Stp := [Ld 10 false 1 1, M 11 0, Bn 12 .rem 10 11, M 4 12]
@[simp] noncomputable def r4 (_ : Unit) : List Stp := [M 24 0, Ld 13 false 1 2, Ld 14 false 1 1, Ld 15 false 1 2, S 16 (.len (.t 15)), Bn 17 .rem 14 16, S 18 (.ixS 1 (.t 13) (.t 17)), Ld 19 false 1 18, S 20 (.conv .i64 (.t 19)), Ld 21 false 1 1, S 22 (.bin .mul (ci 61) (.t 21)), Bn 23 .add 20 22, Bn 25 .rem 23 24, M 4 25]
@[simp] noncomputable def ir : IR := (.seq (.ops r0) (.seq (.ops r1) (.seq (.seq (.ops r2) (.cond (.t 9) (.seq (.ops r3) .ret) .skip)) (.seq (.ops r4) .ret))))
@[simp] noncomputable def rs : List RV := [.tmp 4]
theorem comp : compF Pg cfg Tryz.f18 = some (ir, rs, 26) := by kernel_rfl
theorem enter : Entr Pg fn_top_draws03_1 26 [] ir (RetK rs) := Entr.of follows Tryz.func18 comp
theorem pure : Pur Pg fn_top_draws03_1 26 [] ir (RetK rs) := Pur.of enter
end top_draws03_1

namespace top_hull03
@[simp] noncomputable def r0 (_ : Unit) : List Stp := [S 0 (.alloc [.nils, .nils])]
@[simp] noncomputable def r1 (_ : Unit) : List Stp := [S 1 (.build [.int .i64 0, .int .i64 0, .int .i64 0] [(0, 1, (ci 2)), (1, 1, (ci 0)), (2, 1, (ci 3))]), S 2 (.build [.int .i64 0, .int .i64 0, .int .i64 0] [(0, 1, (ci 5)), (1, 1, (ci (-1))), (2, 1, (ci 2))]), S 3 (.build [.int .i64 0, .int .i64 0, .int .i64 0] [(0, 1, (ci 5)), (1, 1, (ci 1)), (2, 1, (ci 4))]), S 4 (.bsl 3 [.int .i64 0, .int .i64 0, .int .i64 0, .int .i64 0, .int .i64 0, .int .i64 0, .int .i64 0, .int .i64 0, .int .i64 0] [(0, 3, (.t 1)), (3, 3, (.t 2)), (6, 3, (.t 3))]), SP 5 (.call (fc fn_top_span03) [(ci 1), (ci 2)]), S 6 (.build [.int .i64 0, .int .i64 0, .int .i64 0, .int .i64 0] [(0, 1, (ci 3)), (2, 2, (.t 5))]), SP 7 (.call (fc fn_top_span03) [(ci 4), (ci 4)]), S 8 (.build [.int .i64 0, .int .i64 0, .int .i64 0, .int .i64 0] [(0, 1, (ci 6)), (2, 2, (.t 7))]), S 9 (.bsl 2 [.int .i64 0, .int .i64 0, .int .i64 0, .int .i64 0, .int .i64 0, .int .i64 0, .int .i64 0, .int .i64 0] [(0, 4, (.t 6)), (4, 4, (.t 8))]), S 10 (.build [.nils, .nils] [(0, 1, (.t 4)), (1, 1, (.t 9))]), SN (.store 2 (.t 0) (.t 10))]
@[simp] noncomputable def ir : IR := (.seq (.ops r0) (.seq (.ops r1) .ret))
@[simp] noncomputable def rs : List RV := [.cell 0 true 2]
theorem comp : compF Pg cf0 Tryz.f40 = some (ir, rs, 11) := by kernel_rfl
theorem enter : Entr Pg fn_top_hull03 11 [] ir (RetK rs) := Entr.of follows Tryz.func40 comp
theorem pure : Pur Pg fn_top_hull03 11 [] ir (RetK rs) := Pur.of enter
end top_hull03

namespace top_alive03
noncomputable def cfg : Cfg := { pure := [6, 7, 8, 9, 10, 11, 12, 13, 14, 15, 16, 17, 19, 27, 31, 40, 41, 45, 47, 53, 57, 60, 65, 66, 68, 73, 74, 76, 78, 84, 89, 98, 101, 110, 152], pcs := [], raw := [], cuts := [], draws := [], keep := [] }
@[simp] noncomputable def r0 (_ : Unit) : List Stp := [S 0 (.mv (.c (.bool false)))]
@[simp] noncomputable def r1 (_ : Unit) : List Stp := [SP 6 (.call (fc fn_top_hull03) []), SP 7 (.call (fc fn_leak_Sets) [.t 6]), M 5 7, X 8 5 0, X 9 5 1, M 1 8, M 2 9]
@[simp] noncomputable def r2 (_ : Unit) : List Stp := [SP 11 (.call (fc fn_top_hull03) []), S 12 (.bsl 3 [.int .i64 0, .int .i64 0, .int .i64 0] [(0, 1, (ci 4)), (1, 1, (ci 3)), (2, 1, (ci 5))]), S 13 (.build [.nils, .nils, .nils] [(0, 2, (.t 11)), (2, 1, (.t 12))]), S 14 (.call (fc fn_rake_Worst) [.t 13]), M 10 14, X 15 10 0, X 16 10 1, M 3 15, M 4 16]
@[simp] noncomputable def r3 (_ : Unit) : List Stp := [M 17 1, S 18 (.bsl 3 [.int .i64 0, .int .i64 0, .int .i64 0] [(0, 1, (ci 3)), (1, 1, (ci 5)), (2, 1, (ci 7))]), S 19 (.call (fc fn_ref01_Ints) [.t 17, .t 18]), M 20 19, Mg 21 20 true 2, SG 22 20 true (.bin .eql (.t 21) (ci 0)), Pa 23 20 22, M 24 23, Mg 25 24 true 3, SG 26 24 true (.bin .eql (.t 25) (ci 8)), Pa 27 24 26, M 28 27, Mg 29 28 true 4, SG 30 28 true (.bin .eql (.t 29) (ci 0)), Pa 31 28 30, M 0 31]
@[simp] noncomputable def ir : IR := (.seq (.ops r0) (.seq (.ops r1) (.seq (.ops r2) (.seq (.ops r3) .ret))))
@[simp] noncomputable def rs : List RV := [.tmp 0]
theorem comp : compF Pg cfg Tryz.f41 = some (ir, rs, 32) := by kernel_rfl
theorem enter : Entr Pg fn_top_alive03 32 [] ir (RetK rs) := Entr.of follows Tryz.func41 comp
theorem pure : Pur Pg fn_top_alive03 32 [] ir (RetK rs) := Pur.of enter
end top_alive03

end Go.Cw
end
