/-
  The program's functions in the small form.
-/
import Derived.Test.YtkcppdggfnfpiaaGreatAd
import Derived.Test.YtkcppdggfnfpiaaGreatProg
set_option linter.unusedVariables false
set_option linter.unusedSimpArgs false
set_option linter.unusedSectionVars false

/- The functions' numbers. Printed by a program of this seat's proofs. -/
section
namespace Go.Cw
open Go Go.Proofs

@[reducible] noncomputable def Pg : Program := Tryz.prog
theorem follows : Pg.follows .mixedOrders = true := by kernel_rfl
def fn_main_main : FuncId := 0
def fn_gosem_cut : FuncId := 1
def fn_gosem_cut_init : FuncId := 2
def fn_law11_AgainTells : FuncId := 3
def fn_law11_AgainAsks : FuncId := 4
def fn_law11_AgainNames : FuncId := 5
def fn_law11_AgainTrue : FuncId := 6
def fn_law11_AgainEnds : FuncId := 7
def fn_law11_AgainUntil : FuncId := 8
def fn_law11_AgainAsk : FuncId := 9
def fn_law11_AgainMore : FuncId := 10
def fn_law11_AgainTurned : FuncId := 11
def fn_law11_heavy : FuncId := 12
def fn_law11_alive : FuncId := 13
def fn_again_Promised : FuncId := 14
def fn_ref11_Promised : FuncId := 15
def fn_again_Yard : FuncId := 16
def fn_ref11_Yard : FuncId := 17
def fn_again_Pays : FuncId := 18
def fn_ref11_Pays : FuncId := 19
def fn_again_Nothing : FuncId := 20
def fn_ref11_Nothing : FuncId := 21
def fn_again_Gang : FuncId := 22
def fn_ref11_Gang : FuncId := 23
def fn_again_Blame : FuncId := 24
def fn_ref11_Blame : FuncId := 25
def fn_again_Until : FuncId := 26
def fn_ref11_Until : FuncId := 27
def fn_again_Ask : FuncId := 28
def fn_ref11_Ask : FuncId := 29
def fn_law11_sample : FuncId := 30
def fn_law11_span : FuncId := 31
def fn_law11_long : FuncId := 32
def fn_ref11_Ship : FuncId := 33
def fn_leak_Sets : FuncId := 34
def fn_law11_inside : FuncId := 35
def fn_law11_length : FuncId := 36
def fn_ref11_Of : FuncId := 37
def fn_law11_AgainAsk_1 : FuncId := 38
def fn_leak_Flow : FuncId := 39
def fn_law11_work : FuncId := 40
def fn_law11_AgainMore_1 : FuncId := 41
def fn_ref01_Size : FuncId := 42
def fn_again_Promised_1 : FuncId := 43
def fn_again_said : FuncId := 44
def fn_again_open : FuncId := 45
def fn_again_ship_promised : FuncId := 46
def fn_ref11_check : FuncId := 47
def fn_ref11_Under : FuncId := 48
def fn_ref11_power : FuncId := 49
def fn_again_Yard_1 : FuncId := 50
def fn_again_look : FuncId := 51
def fn_again_ship_verdict : FuncId := 52
def fn_again_verdict_told : FuncId := 53
def fn_ref11_told : FuncId := 54
def fn_ref11_yard : FuncId := 55
def fn_again_Pays_1 : FuncId := 56
def fn_again_ship_span : FuncId := 57
def fn_ref11_lengths : FuncId := 58
def fn_again_Nothing_1 : FuncId := 59
def fn_again_Gang_1 : FuncId := 60
def fn_again_within : FuncId := 61
def fn_ref11_in : FuncId := 62
def fn_again_Blame_1 : FuncId := 63
def fn_again_setOf : FuncId := 64
def fn_again_Until_1 : FuncId := 65
def fn_again_want : FuncId := 66
def fn_again_Ask_1 : FuncId := 67
def fn_again_places : FuncId := 68
def fn_leak_Wet : FuncId := 69
def fn_again_ship_settles : FuncId := 70
def fn_ref11_settles : FuncId := 71
def fn_ref01_Hull : FuncId := 72
def fn_ref01_Seam : FuncId := 73
def fn_leak_Sets_1 : FuncId := 74
def fn_leak_said : FuncId := 75
def fn_leak_open : FuncId := 76
def fn_leak_hull_sets : FuncId := 77
def fn_ref11_last : FuncId := 78
def fn_leak_Flow_1 : FuncId := 79
def fn_leak_place_isPlace : FuncId := 80
def fn_leak_hull_total : FuncId := 81
def fn_leak_hull_wet : FuncId := 82
def fn_again_check : FuncId := 83
def fn_again_open_1 : FuncId := 84
def fn_cmp_Compare_int : FuncId := 85
def fn_slices_SortStableFunc_api_AgainWork_api_AgainWork : FuncId := 86
def fn_again_joined_again_verdict : FuncId := 87
def fn_again_ship_verdict_1 : FuncId := 88
def fn_again_ship_verdict_2 : FuncId := 89
def fn_ref01_Truths : FuncId := 90
def fn_ref11_Is : FuncId := 91
def fn_again_lengths_sum : FuncId := 92
def fn_again_joined_api_Span : FuncId := 93
def fn_again_ship_span_1 : FuncId := 94
def fn_again_hull : FuncId := 95
def fn_ref11_Length : FuncId := 96
def fn_ref11_hull : FuncId := 97
def fn_again_places_1 : FuncId := 98
def fn_leak_Wet_1 : FuncId := 99
def fn_slices_Clone_api_LeakSounding_api_LeakSounding : FuncId := 100
def fn_ref01_in : FuncId := 101
def fn_ref01_At : FuncId := 102
def fn_leak_want : FuncId := 103
def fn_leak_within : FuncId := 104
def fn_leak_hull_truths : FuncId := 105
def fn_leak_inflow_leaks : FuncId := 106
def fn_slices_Sort_int_int : FuncId := 107
def fn_leak_inflow_sum : FuncId := 108
def fn_leak_sums : FuncId := 109
def fn_leak_hull_total_1 : FuncId := 110
def fn_leak_Rate : FuncId := 111
def fn_again_check_1 : FuncId := 112
def fn_slices_ContainsFunc_int_int : FuncId := 113
def fn_again_isWork : FuncId := 114
def fn_cmp_isNaN_int : FuncId := 115
def fn_slices_stableCmpFunc_api_AgainWork : FuncId := 116
def fn_ref01_truths : FuncId := 117
def fn_ref01_every : FuncId := 118
def fn_slices_Collect_leak_inflow : FuncId := 119
def fn_leak_hull_inflows : FuncId := 120
def fn_leak_hull_every : FuncId := 121
def fn_slices_pdqsortOrdered_int : FuncId := 122
def fn_math_bits_Len : FuncId := 123
def fn_leak_set_has : FuncId := 124
def fn_leak_flows : FuncId := 125
def fn_leak_Rate_1 : FuncId := 126
def fn_slices_IndexFunc_int_int : FuncId := 127
def fn_slices_insertionSortCmpFunc_api_AgainWork : FuncId := 128
def fn_slices_symMergeCmpFunc_api_AgainWork : FuncId := 129
def fn_ref01_right : FuncId := 130
def fn_ref01_power : FuncId := 131
def fn_slices_AppendSeq_leak_inflow_leak_inflow : FuncId := 132
def fn_leak_hull_conditions : FuncId := 133
def fn_leak_hull_inflows_1 : FuncId := 134
def fn_leak_hull_inflows_1_1 : FuncId := 135
def fn_slices_insertionSortOrdered_int : FuncId := 136
def fn_slices_heapSortOrdered_int : FuncId := 137
def fn_slices_breakPatternsOrdered_int : FuncId := 138
def fn_slices_choosePivotOrdered_int : FuncId := 139
def fn_slices_reverseRangeOrdered_int : FuncId := 140
def fn_slices_partialInsertionSortOrdered_int : FuncId := 141
def fn_cmp_Less_int : FuncId := 142
def fn_slices_partitionEqualOrdered_int : FuncId := 143
def fn_slices_partitionOrdered_int : FuncId := 144
def fn_math_bits_Len32 : FuncId := 145
def fn_math_bits_Len64 : FuncId := 146
def fn_slices_rotateCmpFunc_api_AgainWork : FuncId := 147
def fn_ref01_Has : FuncId := 148
def fn_ref01_Sum : FuncId := 149
def fn_ref01_wet : FuncId := 150
def fn_slices_siftDownOrdered_int : FuncId := 151
def fn_slices_nextPowerOfTwo : FuncId := 152
def fn_slices_xorshift_Next : FuncId := 153
def fn_slices_medianAdjacentOrdered_int : FuncId := 154
def fn_slices_medianOrdered_int : FuncId := 155
def fn_slices_swapRangeCmpFunc_api_AgainWork : FuncId := 156
def fn_slices_order2Ordered_int : FuncId := 157
def fn_runtime_boundsError_Error : FuncId := 158
def fn_runtime_boundsError_RuntimeError : FuncId := 159
def fn_runtime_errorString_Error : FuncId := 160
def fn_runtime_errorString_RuntimeError : FuncId := 161
def fn_runtime_plainError_Error : FuncId := 162
def fn_runtime_plainError_RuntimeError : FuncId := 163
def fn_runtime_errorAddressString_Error : FuncId := 164
def fn_runtime_errorAddressString_RuntimeError : FuncId := 165
def fn_runtime_TypeAssertionError_Error : FuncId := 166
def fn_runtime_TypeAssertionError_RuntimeError : FuncId := 167
def fn_runtime_PanicNilError_Error : FuncId := 168
def fn_runtime_PanicNilError_RuntimeError : FuncId := 169
def fn_abi_Type_Align : FuncId := 170
def fn_runtime_maps_unhashableTypeError_Error : FuncId := 171
def fn_runtime_maps_unhashableTypeError_RuntimeError : FuncId := 172
def fn_again_yard_seams : FuncId := 173
def fn_again_owner_seams : FuncId := 174
def fn_again_gang_seams : FuncId := 175
def fn_leak_hull_can : FuncId := 176
def fn_leak_none_can : FuncId := 177
def fn_leak_wet_ends : FuncId := 178
def fn_leak_sounding_can : FuncId := 179
def fn_abi_Kind_String : FuncId := 180
def pures : List Nat := [12, 13, 14, 15, 16, 17, 18, 19, 20, 21, 22, 23, 24, 25, 26, 27, 28, 29, 30, 31, 32, 33, 34, 35, 36, 37, 39, 40, 42, 47, 48, 49, 53, 54, 55, 58, 61, 62, 69, 71, 72, 73, 78, 80, 90, 91, 92, 95, 96, 97, 101, 102, 104, 106, 108, 111, 114, 118, 124, 130, 131, 148, 149, 150]

end Go.Cw
end

/- Functions in the small form. Printed by a program of this seat's proofs. -/
section
namespace Go.Cw
open Go Go.Proofs

namespace law11_AgainTurned
noncomputable def cfg : Cfg := { pure := pures, pcs := [], raw := [], cuts := [], draws := [(4, [⟨0, false, [], []⟩, ⟨1, false, [], []⟩, ⟨2, true, [], []⟩, ⟨3, true, [], []⟩, ⟨4, false, [], [1]⟩, ⟨5, false, [], []⟩]), (26, [⟨0, false, [], []⟩, ⟨1, false, [], []⟩, ⟨3, false, [], []⟩, ⟨4, false, [], []⟩, ⟨6, false, [], []⟩, ⟨7, false, [], []⟩, ⟨8, false, [], []⟩, ⟨9, false, [], []⟩, ⟨14, false, [], []⟩, ⟨16, false, [], []⟩, ⟨18, false, [], []⟩, ⟨19, false, [], []⟩, ⟨20, false, [], []⟩, ⟨21, false, [], []⟩, ⟨2, false, [], []⟩, ⟨5, false, [], []⟩, ⟨10, false, [], []⟩, ⟨11, false, [], []⟩, ⟨15, false, [], []⟩, ⟨17, false, [], []⟩, ⟨22, false, [], []⟩, ⟨23, false, [], []⟩, ⟨12, true, [], []⟩, ⟨24, true, [], []⟩, ⟨13, false, [], [15, 17, 23]⟩, ⟨26, false, [], []⟩, ⟨27, false, [], []⟩, ⟨25, false, [], []⟩, ⟨28, false, [], []⟩, ⟨29, false, [], []⟩, ⟨30, false, [], []⟩]), (31, [⟨0, false, [], []⟩, ⟨2, false, [], []⟩, ⟨3, false, [], []⟩, ⟨4, false, [], []⟩, ⟨7, false, [], []⟩, ⟨9, false, [], []⟩, ⟨1, false, [], []⟩, ⟨5, false, [], []⟩, ⟨6, false, [], []⟩, ⟨8, false, [], []⟩, ⟨10, false, [], []⟩, ⟨11, false, [], []⟩, ⟨12, true, [], []⟩, ⟨13, false, [], []⟩, ⟨14, false, [], []⟩, ⟨15, false, [], []⟩]), (33, [⟨1, false, [], []⟩, ⟨5, false, [], []⟩, ⟨2, false, [], []⟩, ⟨6, false, [], []⟩, ⟨0, true, [], []⟩, ⟨4, true, [], []⟩, ⟨3, false, [], [6]⟩, ⟨7, false, [], []⟩, ⟨8, false, [], []⟩, ⟨9, false, [], []⟩]), (41, [⟨0, false, [], []⟩, ⟨1, false, [], []⟩, ⟨2, false, [], []⟩, ⟨3, false, [], []⟩, ⟨4, false, [], []⟩, ⟨5, false, [], []⟩, ⟨6, false, [], []⟩, ⟨7, false, [], []⟩, ⟨8, false, [], []⟩, ⟨9, false, [], []⟩, ⟨10, false, [], []⟩, ⟨11, false, [], []⟩]), (64, [⟨0, false, [], []⟩, ⟨1, false, [], []⟩, ⟨2, false, [], []⟩, ⟨4, false, [], []⟩, ⟨6, false, [], []⟩, ⟨3, false, [], []⟩, ⟨5, false, [], []⟩, ⟨7, false, [], []⟩, ⟨8, false, [], []⟩, ⟨9, false, [], []⟩]), (70, [⟨0, false, [], []⟩, ⟨1, false, [], []⟩, ⟨2, false, [], []⟩, ⟨4, false, [], []⟩, ⟨6, false, [], []⟩, ⟨3, false, [], []⟩, ⟨5, false, [], []⟩, ⟨7, false, [], []⟩, ⟨8, false, [], []⟩, ⟨9, false, [], []⟩])], keep := [] }
@[simp] noncomputable def r0 (_ : Unit) : List Stp := [S 1 (.box (.t 0)), S 2 (.mv (.c (.bool false)))]
@[simp] noncomputable def r1 (_ : Unit) : List Stp := [S 50 (.load true 6 (.t 1)), SP 51 (.call (.c (.func (.func fn_law11_long) [] [])) [(.t 50)]), S 52 (.mv (.t 51)), SG 53 52 false (.load true 6 (.t 1)), SGP 54 52 false (.call (.c (.func (.func fn_ref11_Ship) [] [])) [(.t 53)]), SG 55 52 false (.un .not (.t 54)), S 56 (.pick (.t 52) (.c (.bool true)) (.t 55))]
@[simp] noncomputable def r2 (_ : Unit) : List Stp := [SP 57 (.call (.c (.func (.func fn_law11_alive) [] [])) []), S 2 (.mv (.t 57))]
@[simp] noncomputable def r3 (_ : Unit) : List Stp := [S 58 (.fAddr 2 (.t 1)), S 59 (.load false 1 (.t 58)), S 60 (.len (.t 59)), S 3 (.mv (.t 60))]
@[simp] noncomputable def r4 (_ : Unit) : List Stp := [S 61 (.load true 6 (.t 1)), S 62 (.load true 6 (.t 1)), SD (some 4) (.alloc [.nils, .nils, .nils, (.int .i64 0), .nils, (.int .i64 0)]) true [] [], SD (some 5) (.alloc [.nils, .nils, .nils, (.int .i64 0), .nils, (.int .i64 0)]) true [] [], SD none (.store 6 (.t 4) (.t 61)) false [] [I 62 (.load true 6 (.t 1))], SN (.store 6 (.t 5) (.t 62))]
@[simp] noncomputable def r5 (_ : Unit) : List Stp := [S 63 (.fAddr 4 (.t 4)), SN (.store 1 (.t 63) (.c .nils))]
@[simp] noncomputable def r6 (_ : Unit) : List Stp := [S 64 (.fAddr 5 (.t 1)), S 65 (.load false 1 (.t 64)), S 6 (.mv (.t 65))]
@[simp] noncomputable def r7 (_ : Unit) : List Stp := [S 66 (.mv (.t 6)), S 67 (.bin .geq (.t 66) (.c (.int .i64 0))), S 68 (.mv (.t 67)), SG 69 68 true (.mv (.t 6)), SG 70 68 true (.fAddr 5 (.t 1)), SG 71 68 true (.load false 1 (.t 70)), SG 72 68 true (.bin .sub (.t 71) (.c (.int .i64 5000))), SG 73 68 true (.bin .geq (.t 69) (.t 72)), S 74 (.pick (.t 68) (.t 73) (.c (.bool false)))]
@[simp] noncomputable def r9 (_ : Unit) : List Stp := [S 77 (.fAddr 4 (.t 1)), S 78 (.load false 1 (.t 77)), S 79 (.len (.t 78)), S 80 (.mv (.c (.int .i64 0)))]
@[simp] noncomputable def r10 (_ : Unit) : List Stp := [S 81 (.bin .lss (.t 80) (.t 79))]
@[simp] noncomputable def r11 (_ : Unit) : List Stp := [S 82 (.mv (.t 80)), S 83 (.ixS 3 (.t 78) (.t 80)), S 84 (.load true 3 (.t 83)), S 8 (.alloc [(.int .i64 0), (.int .i64 0), (.int .i64 0)]), S 7 (.mv (.t 82)), SN (.store 3 (.t 8) (.t 84))]
@[simp] noncomputable def r12 (_ : Unit) : List Stp := [S 85 (.fAddr 1 (.t 8)), S 86 (.load false 1 (.t 85)), S 87 (.mv (.t 6)), S 88 (.bin .neq (.t 86) (.t 87))]
@[simp] noncomputable def r13 (_ : Unit) : List Stp := [S 9 (.mv (.c (.bool true)))]
@[simp] noncomputable def r14 (_ : Unit) : List Stp := [S 89 (.fAddr 4 (.t 1)), S 90 (.load false 1 (.t 89)), S 91 (.len (.t 90)), S 92 (.mv (.c (.int .i64 0)))]
@[simp] noncomputable def r15 (_ : Unit) : List Stp := [S 93 (.bin .lss (.t 92) (.t 91))]
@[simp] noncomputable def r16 (_ : Unit) : List Stp := [S 94 (.mv (.t 92)), S 95 (.ixS 3 (.t 90) (.t 92)), S 96 (.load true 3 (.t 95)), S 11 (.alloc [(.int .i64 0), (.int .i64 0), (.int .i64 0)]), S 10 (.mv (.t 94)), SN (.store 3 (.t 11) (.t 96))]
@[simp] noncomputable def r17 (_ : Unit) : List Stp := [S 97 (.mv (.t 9)), S 98 (.mv (.t 97)), SG 99 98 true (.fAddr 0 (.t 11)), SG 100 98 true (.load false 1 (.t 99)), SG 101 98 true (.fAddr 0 (.t 8)), SG 102 98 true (.load false 1 (.t 101)), SG 103 98 true (.bin .neq (.t 100) (.t 102)), SG 104 98 true (.mv (.t 103)), SG 105 104 false (.fAddr 1 (.t 11)), SG 106 104 false (.load false 1 (.t 105)), SG 107 104 false (.fAddr 1 (.t 8)), SG 108 104 false (.load false 1 (.t 107)), SG 109 104 false (.bin .lss (.t 106) (.t 108)), SG 110 98 true (.pick (.t 104) (.c (.bool true)) (.t 109)), SG 111 98 true (.mv (.t 110)), SG 112 111 false (.fAddr 1 (.t 11)), SG 113 111 false (.load false 1 (.t 112)), SG 114 111 false (.fAddr 1 (.t 8)), SG 115 111 false (.load false 1 (.t 114)), SG 116 111 false (.bin .eql (.t 113) (.t 115)), SG 117 111 false (.mv (.t 116)), SG 118 117 true (.mv (.t 10)), SG 119 117 true (.mv (.t 7)), SG 120 117 true (.bin .leq (.t 118) (.t 119)), SG 121 111 false (.pick (.t 117) (.t 120) (.c (.bool false))), SG 122 98 true (.pick (.t 111) (.c (.bool true)) (.t 121)), S 123 (.pick (.t 98) (.t 122) (.c (.bool false))), S 9 (.mv (.t 123))]
@[simp] noncomputable def r18 (_ : Unit) : List Stp := [S 124 (.bin .add (.t 92) (.c (.int .i64 1))), S 92 (.mv (.t 124))]
@[simp] noncomputable def r19 (_ : Unit) : List Stp := [S 125 (.mv (.t 9))]
@[simp] noncomputable def r20 (_ : Unit) : List Stp := [S 126 (.fAddr 4 (.t 4)), S 127 (.load false 1 (.t 126)), S 128 (.load true 3 (.t 8)), S 129 (.bsl 1 [(.int .i64 0), (.int .i64 0), (.int .i64 0)] [(0, 3, (.t 128))]), S 130 (.app 3 24 (.t 127) (.t 129)), S 131 (.fAddr 4 (.t 4)), SN (.store 1 (.t 131) (.t 130))]
@[simp] noncomputable def r21 (_ : Unit) : List Stp := [S 132 (.bin .add (.t 80) (.c (.int .i64 1))), S 80 (.mv (.t 132))]
@[simp] noncomputable def r8 (_ : Unit) : List Stp := [S 75 (.mv (.t 6)), S 76 (.bin .sub (.t 75) (.c (.int .i64 1))), S 6 (.mv (.t 76))]
@[simp] noncomputable def r22 (_ : Unit) : List Stp := [S 133 (.fAddr 0 (.t 5)), S 134 (.fAddr 0 (.t 133)), SN (.store 1 (.t 134) (.c .nils)), S 135 (.fAddr 2 (.t 5)), SN (.store 1 (.t 135) (.c .nils)), S 136 (.fAddr 4 (.t 5)), SN (.store 1 (.t 136) (.c .nils))]
@[simp] noncomputable def r23 (_ : Unit) : List Stp := [S 137 (.fAddr 2 (.t 1)), S 138 (.load false 1 (.t 137)), S 139 (.len (.t 138)), S 140 (.mv (.c (.int .i64 0)))]
@[simp] noncomputable def r24 (_ : Unit) : List Stp := [S 141 (.bin .lss (.t 140) (.t 139))]
@[simp] noncomputable def r25 (_ : Unit) : List Stp := [S 142 (.mv (.t 140)), S 12 (.mv (.t 142))]
@[simp] noncomputable def r26 (_ : Unit) : List Stp := [S 143 (.fAddr 0 (.t 5)), S 144 (.fAddr 0 (.t 143)), S 146 (.fAddr 0 (.t 1)), S 147 (.fAddr 0 (.t 146)), S 149 (.mv (.t 3)), S 150 (.bin .sub (.t 149) (.c (.int .i64 1))), S 151 (.mv (.t 12)), S 152 (.bin .sub (.t 150) (.t 151)), S 157 (.fAddr 2 (.t 5)), S 159 (.fAddr 2 (.t 1)), S 161 (.mv (.t 3)), S 162 (.bin .sub (.t 161) (.c (.int .i64 1))), S 163 (.mv (.t 12)), S 164 (.bin .sub (.t 162) (.t 163)), S 145 (.load false 1 (.t 144)), S 148 (.load false 1 (.t 147)), S 153 (.ixS 3 (.t 148) (.t 152)), S 154 (.load true 3 (.t 153)), S 158 (.load false 1 (.t 157)), S 160 (.load false 1 (.t 159)), S 165 (.ixS 1 (.t 160) (.t 164)), S 166 (.load false 1 (.t 165)), SD (some 155) (.bsl 1 [(.int .i64 0), (.int .i64 0), (.int .i64 0)] [(0, 3, (.t 154))]) true [] [], SD (some 167) (.bsl 1 [(.int .i64 0)] [(0, 1, (.t 166))]) true [] [], SD (some 156) (.app 3 24 (.t 145) (.t 155)) false [] [I 158 (.load false 1 (.t 157)), I 160 (.load false 1 (.t 159)), I 166 (.load false 1 (.t 165))], S 169 (.fAddr 0 (.t 5)), S 170 (.fAddr 0 (.t 169)), S 168 (.app 1 8 (.t 158) (.t 167)), SN (.store 1 (.t 170) (.t 156)), S 171 (.fAddr 2 (.t 5)), SN (.store 1 (.t 171) (.t 168))]
@[simp] noncomputable def r27 (_ : Unit) : List Stp := [S 172 (.bin .add (.t 140) (.c (.int .i64 1))), S 140 (.mv (.t 172))]
@[simp] noncomputable def r28 (_ : Unit) : List Stp := [S 173 (.fAddr 4 (.t 1)), S 174 (.load false 1 (.t 173)), S 175 (.len (.t 174)), S 176 (.mv (.c (.int .i64 0)))]
@[simp] noncomputable def r29 (_ : Unit) : List Stp := [S 177 (.bin .lss (.t 176) (.t 175))]
@[simp] noncomputable def r30 (_ : Unit) : List Stp := [S 178 (.ixS 3 (.t 174) (.t 176)), S 179 (.load true 3 (.t 178)), S 14 (.alloc [(.int .i64 0), (.int .i64 0), (.int .i64 0)]), SN (.store 3 (.t 14) (.t 179))]
@[simp] noncomputable def r31 (_ : Unit) : List Stp := [S 180 (.fAddr 4 (.t 5)), S 182 (.mv (.t 3)), S 183 (.bin .sub (.t 182) (.c (.int .i64 1))), S 184 (.fAddr 0 (.t 14)), S 187 (.fAddr 1 (.t 14)), S 189 (.fAddr 2 (.t 14)), S 181 (.load false 1 (.t 180)), S 185 (.load false 1 (.t 184)), S 186 (.bin .sub (.t 183) (.t 185)), S 188 (.load false 1 (.t 187)), S 190 (.load false 1 (.t 189)), SP 191 (.call (.c (.func (.func fn_law11_work) [] [])) [(.t 186), (.t 188), (.t 190)]), SD (some 192) (.bsl 1 [(.int .i64 0), (.int .i64 0), (.int .i64 0)] [(0, 3, (.t 191))]) true [] [], S 193 (.app 3 24 (.t 181) (.t 192)), S 194 (.fAddr 4 (.t 5)), SN (.store 1 (.t 194) (.t 193))]
@[simp] noncomputable def r32 (_ : Unit) : List Stp := [S 195 (.bin .add (.t 176) (.c (.int .i64 1))), S 176 (.mv (.t 195))]
@[simp] noncomputable def r33 (_ : Unit) : List Stp := [S 197 (.fAddr 4 (.t 1)), S 201 (.fAddr 2 (.t 1)), S 198 (.load false 1 (.t 197)), S 202 (.load false 1 (.t 201)), SD (some 196) (.bsl 0 [] []) true [] [], SD (some 200) (.bsl 0 [] []) true [] [], SD (some 199) (.app 3 24 (.t 196) (.t 198)) false [] [I 202 (.load false 1 (.t 201))], S 203 (.app 1 8 (.t 200) (.t 202)), S 15 (.mv (.t 199)), S 16 (.mv (.t 203))]
@[simp] noncomputable def r34 (_ : Unit) : List Stp := [S 205 (.load true 6 (.t 1)), SP 206 (.call (.c (.func (.func fn_again_Promised) [] [])) [(.t 205)]), S 204 (.mv (.t 206)), S 207 (.ext (.t 204) 0), S 208 (.ext (.t 204) 1), S 17 (.mv (.t 207)), S 18 (.mv (.t 208))]
@[simp] noncomputable def r35 (_ : Unit) : List Stp := [S 210 (.load true 6 (.t 5)), SP 211 (.call (.c (.func (.func fn_again_Promised) [] [])) [(.t 210)]), S 209 (.mv (.t 211)), S 212 (.ext (.t 209) 0), S 213 (.ext (.t 209) 1), S 19 (.mv (.t 212)), S 20 (.mv (.t 213))]
@[simp] noncomputable def r36 (_ : Unit) : List Stp := [S 214 (.mv (.t 18)), S 215 (.bin .neq (.t 214) (.c (.int .i64 0))), S 216 (.mv (.t 215)), SG 217 216 false (.mv (.t 20)), SG 218 216 false (.bin .neq (.t 217) (.c (.int .i64 0))), S 219 (.pick (.t 216) (.c (.bool true)) (.t 218)), S 220 (.mv (.t 219)), SG 221 220 false (.mv (.t 17)), SG 222 220 false (.mm true [(.c (.int .i64 0)), (.t 221)]), SGP 223 220 false (.call (.c (.func (.func fn_ref01_Size) [] [])) [(.t 222)]), SG 224 220 false (.mv (.t 19)), SG 225 220 false (.mm true [(.c (.int .i64 0)), (.t 224)]), SGP 226 220 false (.call (.c (.func (.func fn_ref01_Size) [] [])) [(.t 225)]), SG 227 220 false (.bin .neq (.t 223) (.t 226)), S 228 (.pick (.t 220) (.c (.bool true)) (.t 227))]
@[simp] noncomputable def r37 (_ : Unit) : List Stp := [S 2 (.mv (.c (.bool false)))]
@[simp] noncomputable def r38 (_ : Unit) : List Stp := [S 229 (.mv (.t 3)), S 230 (.mv (.c (.int .i64 0)))]
@[simp] noncomputable def r39 (_ : Unit) : List Stp := [S 231 (.bin .lss (.t 230) (.t 229))]
@[simp] noncomputable def r40 (_ : Unit) : List Stp := [S 232 (.mv (.t 230)), S 21 (.mv (.t 232))]
@[simp] noncomputable def r41 (_ : Unit) : List Stp := [S 233 (.mv (.t 17)), S 234 (.mv (.t 21)), S 235 (.bin .shr (.t 233) (.t 234)), S 236 (.bin .and (.t 235) (.c (.int .i64 1))), S 237 (.mv (.t 19)), S 238 (.mv (.t 3)), S 239 (.bin .sub (.t 238) (.c (.int .i64 1))), S 240 (.mv (.t 21)), S 241 (.bin .sub (.t 239) (.t 240)), S 242 (.bin .shr (.t 237) (.t 241)), S 243 (.bin .and (.t 242) (.c (.int .i64 1))), S 244 (.bin .neq (.t 236) (.t 243))]
@[simp] noncomputable def r42 (_ : Unit) : List Stp := [S 2 (.mv (.c (.bool false)))]
@[simp] noncomputable def r43 (_ : Unit) : List Stp := [S 245 (.bin .add (.t 230) (.c (.int .i64 1))), S 230 (.mv (.t 245))]
@[simp] noncomputable def r44 (_ : Unit) : List Stp := [S 247 (.load true 6 (.t 1)), SP 248 (.call (.c (.func (.func fn_again_Yard) [] [])) [(.t 247)]), S 246 (.mv (.t 248)), S 249 (.ext (.t 246) 0), S 250 (.ext (.t 246) 1), S 22 (.mv (.t 249)), S 23 (.mv (.t 250))]
@[simp] noncomputable def r45 (_ : Unit) : List Stp := [S 252 (.load true 6 (.t 1)), SP 253 (.call (.c (.func (.func fn_again_Pays) [] [])) [(.t 252)]), S 251 (.mv (.t 253)), S 254 (.ext (.t 251) 0), S 255 (.ext (.t 251) 1), S 24 (.alloc [(.int .i64 0), (.int .i64 0)]), SN (.store 2 (.t 24) (.t 254)), S 25 (.mv (.t 255))]
@[simp] noncomputable def r46 (_ : Unit) : List Stp := [S 257 (.load true 6 (.t 1)), SP 258 (.call (.c (.func (.func fn_again_Nothing) [] [])) [(.t 257)]), S 256 (.mv (.t 258)), S 259 (.ext (.t 256) 0), S 260 (.ext (.t 256) 1), S 26 (.alloc [(.int .i64 0), (.int .i64 0)]), SN (.store 2 (.t 26) (.t 259)), S 27 (.mv (.t 260))]
@[simp] noncomputable def r47 (_ : Unit) : List Stp := [S 262 (.load true 6 (.t 1)), SP 263 (.call (.c (.func (.func fn_again_Blame) [] [])) [(.t 262)]), S 261 (.mv (.t 263)), S 264 (.ext (.t 261) 0), S 265 (.ext (.t 261) 1), S 266 (.ext (.t 261) 2), S 28 (.mv (.t 264)), S 29 (.mv (.t 265)), S 30 (.mv (.t 266))]
@[simp] noncomputable def r48 (_ : Unit) : List Stp := [S 268 (.load true 6 (.t 1)), SP 269 (.call (.c (.func (.func fn_again_Until) [] [])) [(.t 268)]), S 267 (.mv (.t 269)), S 270 (.ext (.t 267) 0), S 271 (.ext (.t 267) 1), S 31 (.mv (.t 270)), S 32 (.mv (.t 271))]
@[simp] noncomputable def r49 (_ : Unit) : List Stp := [S 272 (.load true 6 (.t 4)), S 273 (.load true 6 (.t 5)), S 274 (.bsl 2 [.nils, .nils, .nils, (.int .i64 0), .nils, (.int .i64 0), .nils, .nils, .nils, (.int .i64 0), .nils, (.int .i64 0)] [(0, 6, (.t 272)), (6, 6, (.t 273))]), S 275 (.len (.t 274)), S 276 (.mv (.c (.int .i64 0)))]
@[simp] noncomputable def r50 (_ : Unit) : List Stp := [S 277 (.bin .lss (.t 276) (.t 275))]
@[simp] noncomputable def r51 (_ : Unit) : List Stp := [S 278 (.mv (.t 276)), S 279 (.ixS 6 (.t 274) (.t 276)), S 280 (.load true 6 (.t 279)), S 34 (.alloc [.nils, .nils, .nils, (.int .i64 0), .nils, (.int .i64 0)]), S 33 (.mv (.t 278)), SN (.store 6 (.t 34) (.t 280))]
@[simp] noncomputable def r52 (_ : Unit) : List Stp := [S 282 (.load true 6 (.t 34)), SP 283 (.call (.c (.func (.func fn_again_Promised) [] [])) [(.t 282)]), S 281 (.mv (.t 283)), S 284 (.ext (.t 281) 0), S 285 (.ext (.t 281) 1), S 35 (.mv (.t 284)), S 36 (.mv (.t 285))]
@[simp] noncomputable def r53 (_ : Unit) : List Stp := [S 287 (.load true 6 (.t 34)), SP 288 (.call (.c (.func (.func fn_again_Yard) [] [])) [(.t 287)]), S 286 (.mv (.t 288)), S 289 (.ext (.t 286) 0), S 290 (.ext (.t 286) 1), S 37 (.mv (.t 289)), S 38 (.mv (.t 290))]
@[simp] noncomputable def r54 (_ : Unit) : List Stp := [S 292 (.load true 6 (.t 34)), SP 293 (.call (.c (.func (.func fn_again_Pays) [] [])) [(.t 292)]), S 291 (.mv (.t 293)), S 294 (.ext (.t 291) 0), S 295 (.ext (.t 291) 1), S 39 (.alloc [(.int .i64 0), (.int .i64 0)]), SN (.store 2 (.t 39) (.t 294)), S 40 (.mv (.t 295))]
@[simp] noncomputable def r55 (_ : Unit) : List Stp := [S 297 (.load true 6 (.t 34)), SP 298 (.call (.c (.func (.func fn_again_Nothing) [] [])) [(.t 297)]), S 296 (.mv (.t 298)), S 299 (.ext (.t 296) 0), S 300 (.ext (.t 296) 1), S 41 (.alloc [(.int .i64 0), (.int .i64 0)]), SN (.store 2 (.t 41) (.t 299)), S 42 (.mv (.t 300))]
@[simp] noncomputable def r56 (_ : Unit) : List Stp := [S 302 (.load true 6 (.t 34)), SP 303 (.call (.c (.func (.func fn_again_Blame) [] [])) [(.t 302)]), S 301 (.mv (.t 303)), S 304 (.ext (.t 301) 0), S 305 (.ext (.t 301) 1), S 306 (.ext (.t 301) 2), S 43 (.mv (.t 304)), S 44 (.mv (.t 305)), S 45 (.mv (.t 306))]
@[simp] noncomputable def r57 (_ : Unit) : List Stp := [S 308 (.load true 6 (.t 34)), SP 309 (.call (.c (.func (.func fn_again_Until) [] [])) [(.t 308)]), S 307 (.mv (.t 309)), S 310 (.ext (.t 307) 0), S 311 (.ext (.t 307) 1), S 46 (.mv (.t 310)), S 47 (.mv (.t 311))]
@[simp] noncomputable def r58 (_ : Unit) : List Stp := [S 312 (.mv (.t 36)), S 313 (.bin .neq (.t 312) (.c (.int .i64 0))), S 314 (.mv (.t 313)), SG 315 314 false (.mv (.t 33)), SG 316 314 false (.bin .eql (.t 315) (.c (.int .i64 0))), SG 317 314 false (.mv (.t 316)), SG 318 317 true (.mv (.t 35)), SG 319 317 true (.mv (.t 17)), SG 320 317 true (.bin .neq (.t 318) (.t 319)), SG 321 314 false (.pick (.t 317) (.t 320) (.c (.bool false))), S 322 (.pick (.t 314) (.c (.bool true)) (.t 321)), S 323 (.mv (.t 322)), SG 324 323 false (.mv (.t 37)), SG 325 323 false (.mv (.t 22)), SG 326 323 false (.bin .neq (.t 324) (.t 325)), S 327 (.pick (.t 323) (.c (.bool true)) (.t 326)), S 328 (.mv (.t 327)), SG 329 328 false (.mv (.t 38)), SG 330 328 false (.mv (.t 23)), SG 331 328 false (.bin .neq (.t 329) (.t 330)), S 332 (.pick (.t 328) (.c (.bool true)) (.t 331)), S 333 (.mv (.t 332)), SG 334 333 false (.load true 2 (.t 39)), SG 335 333 false (.load true 2 (.t 24)), SG 336 333 false (.eqA true [.i, .i] (.t 334) (.t 335)), S 337 (.pick (.t 333) (.c (.bool true)) (.t 336)), S 338 (.mv (.t 337)), SG 339 338 false (.mv (.t 40)), SG 340 338 false (.mv (.t 25)), SG 341 338 false (.bin .neq (.t 339) (.t 340)), S 342 (.pick (.t 338) (.c (.bool true)) (.t 341)), S 343 (.mv (.t 342)), SG 344 343 false (.load true 2 (.t 41)), SG 345 343 false (.load true 2 (.t 26)), SG 346 343 false (.eqA true [.i, .i] (.t 344) (.t 345)), S 347 (.pick (.t 343) (.c (.bool true)) (.t 346)), S 348 (.mv (.t 347)), SG 349 348 false (.mv (.t 42)), SG 350 348 false (.mv (.t 27)), SG 351 348 false (.bin .neq (.t 349) (.t 350)), S 352 (.pick (.t 348) (.c (.bool true)) (.t 351)), S 353 (.mv (.t 352)), SG 354 353 false (.mv (.t 43)), SG 355 353 false (.mv (.t 28)), SG 356 353 false (.bin .neq (.t 354) (.t 355)), S 357 (.pick (.t 353) (.c (.bool true)) (.t 356)), S 358 (.mv (.t 357)), SG 359 358 false (.mv (.t 44)), SG 360 358 false (.mv (.t 29)), SG 361 358 false (.bin .neq (.t 359) (.t 360)), S 362 (.pick (.t 358) (.c (.bool true)) (.t 361)), S 363 (.mv (.t 362)), SG 364 363 false (.mv (.t 45)), SG 365 363 false (.mv (.t 30)), SG 366 363 false (.bin .neq (.t 364) (.t 365)), S 367 (.pick (.t 363) (.c (.bool true)) (.t 366)), S 368 (.mv (.t 367)), SG 369 368 false (.mv (.t 46)), SG 370 368 false (.mv (.t 31)), SG 371 368 false (.bin .neq (.t 369) (.t 370)), S 372 (.pick (.t 368) (.c (.bool true)) (.t 371)), S 373 (.mv (.t 372)), SG 374 373 false (.mv (.t 47)), SG 375 373 false (.mv (.t 32)), SG 376 373 false (.bin .neq (.t 374) (.t 375)), S 377 (.pick (.t 373) (.c (.bool true)) (.t 376))]
@[simp] noncomputable def r59 (_ : Unit) : List Stp := [S 2 (.mv (.c (.bool false)))]
@[simp] noncomputable def r60 (_ : Unit) : List Stp := [S 378 (.bin .add (.t 276) (.c (.int .i64 1))), S 276 (.mv (.t 378))]
@[simp] noncomputable def r61 (_ : Unit) : List Stp := [S 379 (.mv (.t 15)), S 380 (.len (.t 379)), S 381 (.mv (.c (.int .i64 0)))]
@[simp] noncomputable def r62 (_ : Unit) : List Stp := [S 382 (.bin .lss (.t 381) (.t 380))]
@[simp] noncomputable def r63 (_ : Unit) : List Stp := [S 383 (.mv (.t 381)), S 48 (.mv (.t 383))]
@[simp] noncomputable def r64 (_ : Unit) : List Stp := [S 384 (.mv (.t 15)), S 385 (.mv (.t 48)), S 386 (.ixS 3 (.t 384) (.t 385)), S 388 (.fAddr 4 (.t 1)), S 390 (.mv (.t 48)), S 387 (.load true 3 (.t 386)), S 389 (.load false 1 (.t 388)), S 391 (.ixS 3 (.t 389) (.t 390)), S 392 (.load true 3 (.t 391)), S 393 (.eqA true [.i, .i, .i] (.t 387) (.t 392))]
@[simp] noncomputable def r65 (_ : Unit) : List Stp := [S 2 (.mv (.c (.bool false)))]
@[simp] noncomputable def r66 (_ : Unit) : List Stp := [S 394 (.bin .add (.t 381) (.c (.int .i64 1))), S 381 (.mv (.t 394))]
@[simp] noncomputable def r67 (_ : Unit) : List Stp := [S 395 (.mv (.t 16)), S 396 (.len (.t 395)), S 397 (.mv (.c (.int .i64 0)))]
@[simp] noncomputable def r68 (_ : Unit) : List Stp := [S 398 (.bin .lss (.t 397) (.t 396))]
@[simp] noncomputable def r69 (_ : Unit) : List Stp := [S 399 (.mv (.t 397)), S 49 (.mv (.t 399))]
@[simp] noncomputable def r70 (_ : Unit) : List Stp := [S 400 (.mv (.t 16)), S 401 (.mv (.t 49)), S 402 (.ixS 1 (.t 400) (.t 401)), S 404 (.fAddr 2 (.t 1)), S 406 (.mv (.t 49)), S 403 (.load false 1 (.t 402)), S 405 (.load false 1 (.t 404)), S 407 (.ixS 1 (.t 405) (.t 406)), S 408 (.load false 1 (.t 407)), S 409 (.bin .neq (.t 403) (.t 408))]
@[simp] noncomputable def r71 (_ : Unit) : List Stp := [S 2 (.mv (.c (.bool false)))]
@[simp] noncomputable def r72 (_ : Unit) : List Stp := [S 410 (.bin .add (.t 397) (.c (.int .i64 1))), S 397 (.mv (.t 410))]
@[simp] noncomputable def r73 (_ : Unit) : List Stp := [SP 411 (.call (.c (.func (.func fn_law11_alive) [] [])) []), S 2 (.mv (.t 411))]
@[simp] noncomputable def ir : IR := (.seq (.ops r0) (.seq (.seq (.ops r1) (.cond (.t 56) (.seq (.ops r2) .ret) .skip)) (.seq (.ops r3) (.seq (.ops r4) (.seq (.ops r5) (.seq (.seq (.ops r6) (.block 0 (.loop (.seq (.seq (.ops r7) (.cond (.t 74) .skip (.exit 0))) (.seq (.block 1 (.seq (.ops r9) (.block 2 (.loop (.seq (.ops r10) (.seq (.cond (.t 81) .skip (.exit 2)) (.seq (.block 3 (.seq (.ops r11) (.seq (.seq (.ops r12) (.cond (.t 88) (.exit 3) .skip)) (.seq (.ops r13) (.seq (.seq (.ops r14) (.block 4 (.loop (.seq (.ops r15) (.seq (.cond (.t 93) .skip (.exit 4)) (.seq (.block 5 (.seq (.ops r16) (.ops r17))) (.ops r18))))))) (.seq (.ops r19) (.cond (.t 125) (.ops r20) .skip))))))) (.ops r21)))))))) (.ops r8)))))) (.seq (.ops r22) (.seq (.seq (.ops r23) (.block 6 (.loop (.seq (.ops r24) (.seq (.cond (.t 141) .skip (.exit 6)) (.seq (.block 7 (.seq (.ops r25) (.ops r26))) (.ops r27))))))) (.seq (.seq (.ops r28) (.block 8 (.loop (.seq (.ops r29) (.seq (.cond (.t 177) .skip (.exit 8)) (.seq (.block 9 (.seq (.ops r30) (.ops r31))) (.ops r32))))))) (.seq (.ops r33) (.seq (.ops r34) (.seq (.ops r35) (.seq (.seq (.ops r36) (.cond (.t 228) (.seq (.ops r37) .ret) .skip)) (.seq (.seq (.ops r38) (.block 10 (.loop (.seq (.ops r39) (.seq (.cond (.t 231) .skip (.exit 10)) (.seq (.block 11 (.seq (.ops r40) (.seq (.ops r41) (.cond (.t 244) (.seq (.ops r42) .ret) .skip)))) (.ops r43))))))) (.seq (.ops r44) (.seq (.ops r45) (.seq (.ops r46) (.seq (.ops r47) (.seq (.ops r48) (.seq (.seq (.ops r49) (.block 12 (.loop (.seq (.ops r50) (.seq (.cond (.t 277) .skip (.exit 12)) (.seq (.block 13 (.seq (.ops r51) (.seq (.ops r52) (.seq (.ops r53) (.seq (.ops r54) (.seq (.ops r55) (.seq (.ops r56) (.seq (.ops r57) (.seq (.ops r58) (.cond (.t 377) (.seq (.ops r59) .ret) .skip)))))))))) (.ops r60))))))) (.seq (.seq (.ops r61) (.block 14 (.loop (.seq (.ops r62) (.seq (.cond (.t 382) .skip (.exit 14)) (.seq (.block 15 (.seq (.ops r63) (.seq (.ops r64) (.cond (.t 393) (.seq (.ops r65) .ret) .skip)))) (.ops r66))))))) (.seq (.seq (.ops r67) (.block 16 (.loop (.seq (.ops r68) (.seq (.cond (.t 398) .skip (.exit 16)) (.seq (.block 17 (.seq (.ops r69) (.seq (.ops r70) (.cond (.t 409) (.seq (.ops r71) .ret) .skip)))) (.ops r72))))))) (.seq (.ops r73) .ret)))))))))))))))))))))))
@[simp] noncomputable def rs : List RV := [.tmp 2]
theorem comp : compF Pg cfg Tryz.f11 = some (ir, rs, 412) := by kernel_rfl
theorem enter {args : List AVal} {h : Heap} {K : AEnd → Heap → Prop} (F : Nat) (hl : args.length ≤ 412) (a : AW ⟨Pg, F, 412, false, []⟩ ir (RetK rs K) (initT args) [] h) : ACalls Pg fn_law11_AgainTurned args h K :=
  ACalls.of_comp follows Tryz.func11 comp hl a
theorem pure {args : List AVal} {v : AVal} (hl : args.length ≤ 412) (a : AW ⟨Pg, 0, 412, false, []⟩ ir (RetK rs fun e _ => e = .ret v) (initT args) [] nilH) : APure Pg fn_law11_AgainTurned args v :=
  APure.of_nil (enter 0 hl a)
end law11_AgainTurned

namespace law11_alive
noncomputable def cfg : Cfg := { pure := pures, pcs := [], raw := [], cuts := [], draws := [(9, [⟨0, false, [], []⟩, ⟨1, false, [], []⟩, ⟨2, false, [], []⟩, ⟨3, false, [], []⟩, ⟨4, false, [], []⟩, ⟨5, false, [], []⟩, ⟨6, false, [], []⟩, ⟨7, false, [], []⟩, ⟨8, false, [], []⟩, ⟨9, false, [], []⟩, ⟨10, false, [], []⟩, ⟨11, false, [], []⟩, ⟨12, false, [], []⟩, ⟨13, false, [], []⟩, ⟨14, false, [], []⟩, ⟨16, false, [], []⟩, ⟨15, false, [], []⟩, ⟨17, false, [], []⟩, ⟨18, false, [], []⟩, ⟨19, false, [], []⟩, ⟨20, false, [], []⟩, ⟨21, false, [], []⟩, ⟨22, false, [], []⟩, ⟨23, false, [], []⟩, ⟨25, false, [], []⟩, ⟨24, false, [], []⟩, ⟨26, false, [], []⟩, ⟨27, false, [], []⟩, ⟨28, false, [], []⟩, ⟨29, false, [], []⟩, ⟨30, false, [], []⟩, ⟨31, false, [], []⟩, ⟨32, false, [], []⟩, ⟨34, false, [], []⟩, ⟨33, false, [], []⟩, ⟨35, false, [], []⟩, ⟨36, false, [], []⟩, ⟨37, false, [], []⟩, ⟨38, false, [], []⟩, ⟨39, false, [], []⟩, ⟨40, false, [], []⟩, ⟨41, false, [], []⟩, ⟨42, false, [], []⟩, ⟨43, false, [], []⟩, ⟨44, false, [], []⟩, ⟨45, false, [], []⟩, ⟨46, false, [], []⟩, ⟨47, false, [], []⟩, ⟨48, false, [], []⟩, ⟨49, false, [], []⟩, ⟨50, false, [], []⟩, ⟨51, false, [], []⟩, ⟨52, false, [], []⟩, ⟨53, false, [], []⟩, ⟨54, false, [], []⟩, ⟨55, false, [], []⟩, ⟨56, false, [], []⟩, ⟨57, false, [], []⟩, ⟨58, false, [], []⟩, ⟨59, false, [], []⟩, ⟨60, false, [], []⟩, ⟨61, false, [], []⟩, ⟨62, false, [], []⟩, ⟨63, false, [], []⟩, ⟨64, false, [], []⟩, ⟨65, false, [], []⟩, ⟨66, false, [], []⟩, ⟨67, false, [], []⟩, ⟨68, false, [], []⟩, ⟨69, false, [], []⟩, ⟨70, false, [], []⟩, ⟨71, false, [], []⟩, ⟨72, false, [], []⟩, ⟨73, false, [], []⟩])], keep := [] }
@[simp] noncomputable def r0 (_ : Unit) : List Stp := [S 0 (.mv (.c (.bool false)))]
@[simp] noncomputable def r1 (_ : Unit) : List Stp := [SP 20 (.call (.c (.func (.func fn_law11_sample) [] [])) [(.c (.int .i64 400))]), SP 21 (.call (.c (.func (.func fn_again_Promised) [] [])) [(.t 20)]), S 19 (.mv (.t 21)), S 22 (.ext (.t 19) 0), S 23 (.ext (.t 19) 1), S 1 (.mv (.t 22)), S 2 (.mv (.t 23))]
@[simp] noncomputable def r2 (_ : Unit) : List Stp := [SP 25 (.call (.c (.func (.func fn_law11_sample) [] [])) [(.c (.int .i64 300))]), SP 26 (.call (.c (.func (.func fn_again_Yard) [] [])) [(.t 25)]), S 24 (.mv (.t 26)), S 27 (.ext (.t 24) 0), S 28 (.ext (.t 24) 1), S 3 (.mv (.t 27)), S 4 (.mv (.t 28))]
@[simp] noncomputable def r3 (_ : Unit) : List Stp := [SP 30 (.call (.c (.func (.func fn_law11_sample) [] [])) [(.c (.int .i64 400))]), SP 31 (.call (.c (.func (.func fn_again_Pays) [] [])) [(.t 30)]), S 29 (.mv (.t 31)), S 32 (.ext (.t 29) 0), S 33 (.ext (.t 29) 1), S 5 (.alloc [(.int .i64 0), (.int .i64 0)]), SN (.store 2 (.t 5) (.t 32)), S 6 (.mv (.t 33))]
@[simp] noncomputable def r4 (_ : Unit) : List Stp := [SP 35 (.call (.c (.func (.func fn_law11_sample) [] [])) [(.c (.int .i64 300))]), SP 36 (.call (.c (.func (.func fn_again_Nothing) [] [])) [(.t 35)]), S 34 (.mv (.t 36)), S 37 (.ext (.t 34) 0), S 38 (.ext (.t 34) 1), S 7 (.alloc [(.int .i64 0), (.int .i64 0)]), SN (.store 2 (.t 7) (.t 37)), S 8 (.mv (.t 38))]
@[simp] noncomputable def r5 (_ : Unit) : List Stp := [SP 40 (.call (.c (.func (.func fn_law11_sample) [] [])) [(.c (.int .i64 400))]), SP 41 (.call (.c (.func (.func fn_again_Gang) [] [])) [(.t 40), (.c (.int .i64 1))]), S 39 (.mv (.t 41)), S 42 (.ext (.t 39) 0), S 43 (.ext (.t 39) 1), S 9 (.alloc [(.int .i64 0), (.int .i64 0)]), SN (.store 2 (.t 9) (.t 42)), S 10 (.mv (.t 43))]
@[simp] noncomputable def r6 (_ : Unit) : List Stp := [SP 45 (.call (.c (.func (.func fn_law11_sample) [] [])) [(.c (.int .i64 400))]), SP 46 (.call (.c (.func (.func fn_again_Blame) [] [])) [(.t 45)]), S 44 (.mv (.t 46)), S 47 (.ext (.t 44) 0), S 48 (.ext (.t 44) 1), S 49 (.ext (.t 44) 2), S 11 (.mv (.t 47)), S 12 (.mv (.t 48)), S 13 (.mv (.t 49))]
@[simp] noncomputable def r7 (_ : Unit) : List Stp := [SP 51 (.call (.c (.func (.func fn_law11_sample) [] [])) [(.c (.int .i64 300))]), SP 52 (.call (.c (.func (.func fn_again_Until) [] [])) [(.t 51)]), S 50 (.mv (.t 52)), S 53 (.ext (.t 50) 0), S 54 (.ext (.t 50) 1), S 14 (.mv (.t 53)), S 15 (.mv (.t 54))]
@[simp] noncomputable def r8 (_ : Unit) : List Stp := [SP 56 (.call (.c (.func (.func fn_law11_sample) [] [])) [(.c (.int .i64 400))]), SP 57 (.call (.c (.func (.func fn_again_Ask) [] [])) [(.t 56)]), S 55 (.mv (.t 57)), S 58 (.ext (.t 55) 0), S 59 (.ext (.t 55) 1), S 60 (.ext (.t 55) 2), S 16 (.mv (.t 58)), S 17 (.mv (.t 59)), S 18 (.mv (.t 60))]
@[simp] noncomputable def r9 (_ : Unit) : List Stp := [S 61 (.mv (.t 1)), S 62 (.bin .eql (.t 61) (.c (.int .i64 3))), S 63 (.mv (.t 62)), SG 64 63 true (.mv (.t 2)), SG 65 63 true (.bin .eql (.t 64) (.c (.int .i64 0))), S 66 (.pick (.t 63) (.t 65) (.c (.bool false))), S 67 (.mv (.t 66)), SG 68 67 true (.mv (.t 3)), SG 69 67 true (.bin .eql (.t 68) (.c (.int .i64 2))), S 70 (.pick (.t 67) (.t 69) (.c (.bool false))), S 71 (.mv (.t 70)), SG 72 71 true (.mv (.t 4)), SG 73 71 true (.bin .eql (.t 72) (.c (.int .i64 0))), S 74 (.pick (.t 71) (.t 73) (.c (.bool false))), S 75 (.mv (.t 74)), SGP 77 75 true (.call (.c (.func (.func fn_law11_span) [] [])) [(.c (.int .i64 0)), (.c (.int .i64 50))]), SG 76 75 true (.load true 2 (.t 5)), SG 78 75 true (.eqA false [.i, .i] (.t 76) (.t 77)), S 79 (.pick (.t 75) (.t 78) (.c (.bool false))), S 80 (.mv (.t 79)), SG 81 80 true (.mv (.t 6)), SG 82 80 true (.bin .eql (.t 81) (.c (.int .i64 0))), S 83 (.pick (.t 80) (.t 82) (.c (.bool false))), S 84 (.mv (.t 83)), SGP 86 84 true (.call (.c (.func (.func fn_law11_span) [] [])) [(.c (.int .i64 7)), (.c (.int .i64 12))]), SG 85 84 true (.load true 2 (.t 7)), SG 87 84 true (.eqA false [.i, .i] (.t 85) (.t 86)), S 88 (.pick (.t 84) (.t 87) (.c (.bool false))), S 89 (.mv (.t 88)), SG 90 89 true (.mv (.t 8)), SG 91 89 true (.bin .eql (.t 90) (.c (.int .i64 0))), S 92 (.pick (.t 89) (.t 91) (.c (.bool false))), S 93 (.mv (.t 92)), SGP 95 93 true (.call (.c (.func (.func fn_law11_span) [] [])) [(.c (.int .i64 0)), (.c (.int .i64 3))]), SG 94 93 true (.load true 2 (.t 9)), SG 96 93 true (.eqA false [.i, .i] (.t 94) (.t 95)), S 97 (.pick (.t 93) (.t 96) (.c (.bool false))), S 98 (.mv (.t 97)), SG 99 98 true (.mv (.t 10)), SG 100 98 true (.bin .eql (.t 99) (.c (.int .i64 0))), S 101 (.pick (.t 98) (.t 100) (.c (.bool false))), S 102 (.mv (.t 101)), SG 103 102 true (.mv (.t 11)), SG 104 102 true (.bin .eql (.t 103) (.c (.int .i64 1))), S 105 (.pick (.t 102) (.t 104) (.c (.bool false))), S 106 (.mv (.t 105)), SG 107 106 true (.mv (.t 12)), SG 108 106 true (.bin .eql (.t 107) (.c (.int .i64 3))), S 109 (.pick (.t 106) (.t 108) (.c (.bool false))), S 110 (.mv (.t 109)), SG 111 110 true (.mv (.t 13)), SG 112 110 true (.bin .eql (.t 111) (.c (.int .i64 0))), S 113 (.pick (.t 110) (.t 112) (.c (.bool false))), S 114 (.mv (.t 113)), SG 115 114 true (.mv (.t 14)), SG 116 114 true (.bin .eql (.t 115) (.c (.int .i64 375))), S 117 (.pick (.t 114) (.t 116) (.c (.bool false))), S 118 (.mv (.t 117)), SG 119 118 true (.mv (.t 15)), SG 120 118 true (.bin .eql (.t 119) (.c (.int .i64 0))), S 121 (.pick (.t 118) (.t 120) (.c (.bool false))), S 122 (.mv (.t 121)), SG 123 122 true (.mv (.t 16)), SG 124 122 true (.bin .eql (.t 123) (.c (.int .i64 2))), S 125 (.pick (.t 122) (.t 124) (.c (.bool false))), S 126 (.mv (.t 125)), SG 127 126 true (.mv (.t 17)), SG 128 126 true (.bin .eql (.t 127) (.c (.int .i64 (-3)))), S 129 (.pick (.t 126) (.t 128) (.c (.bool false))), S 130 (.mv (.t 129)), SG 131 130 true (.mv (.t 18)), SG 132 130 true (.bin .eql (.t 131) (.c (.int .i64 0))), S 133 (.pick (.t 130) (.t 132) (.c (.bool false))), S 0 (.mv (.t 133))]
@[simp] noncomputable def ir : IR := (.seq (.ops r0) (.seq (.ops r1) (.seq (.ops r2) (.seq (.ops r3) (.seq (.ops r4) (.seq (.ops r5) (.seq (.ops r6) (.seq (.ops r7) (.seq (.ops r8) (.seq (.ops r9) .ret))))))))))
@[simp] noncomputable def rs : List RV := [.tmp 0]
theorem comp : compF Pg cfg Tryz.f13 = some (ir, rs, 134) := by kernel_rfl
theorem enter {args : List AVal} {h : Heap} {K : AEnd → Heap → Prop} (F : Nat) (hl : args.length ≤ 134) (a : AW ⟨Pg, F, 134, false, []⟩ ir (RetK rs K) (initT args) [] h) : ACalls Pg fn_law11_alive args h K :=
  ACalls.of_comp follows Tryz.func13 comp hl a
theorem pure {args : List AVal} {v : AVal} (hl : args.length ≤ 134) (a : AW ⟨Pg, 0, 134, false, []⟩ ir (RetK rs fun e _ => e = .ret v) (initT args) [] nilH) : APure Pg fn_law11_alive args v :=
  APure.of_nil (enter 0 hl a)
end law11_alive

namespace again_Promised
noncomputable def cfg : Cfg := { pure := pures, pcs := [], raw := [], cuts := [], draws := [(2, [⟨2, false, [], []⟩, ⟨0, false, [], []⟩, ⟨3, false, [], []⟩, ⟨1, false, [], [3]⟩, ⟨4, false, [], []⟩, ⟨5, false, [], []⟩, ⟨6, false, [], []⟩])], keep := [2, 3] }
@[simp] noncomputable def r0 (_ : Unit) : List Stp := [S 1 (.box (.t 0)), S 2 (.mv (.c (.int .i64 0))), S 3 (.alloc [(.int .i64 0)])]
@[simp] noncomputable def r1 (_ : Unit) : List Stp := [S 4 (.mkF (.func fn_again_Promised_1) [] [(.t 3)]), SN (.defer (.t 4) [])]
@[simp] noncomputable def r2 (_ : Unit) : List Stp := [S 7 (.fAddr 5 (.t 1)), S 5 (.load true 6 (.t 1)), S 8 (.load false 1 (.t 7)), SD (some 6) (.call (.c (.func (.func fn_again_open) [] [])) [(.t 5), (.c (.bool true))]) false [] [I 8 (.load false 1 (.t 7))], S 9 (.call (.c (.func (.func fn_again_ship_promised) [] [])) [(.t 6), (.t 8)]), S 2 (.mv (.t 9)), SN (.store 1 (.t 3) (.c (.int .i64 0)))]
@[simp] noncomputable def ir : IR := (.seq (.ops r0) (.seq (.ops r1) (.seq (.ops r2) .ret)))
@[simp] noncomputable def rs : List RV := [.tmp 2, .cell 3 false 1]
theorem comp : compF Pg cfg Tryz.f14 = some (ir, rs, 10) := by kernel_rfl
theorem enter {args : List AVal} {h : Heap} {K : AEnd → Heap → Prop} (F : Nat) (hl : args.length ≤ 10) (a : AW ⟨Pg, F, 10, false, [2, 3]⟩ ir (RetD Pg rs K) (initT args) [] h) : ACalls Pg fn_again_Promised args h K :=
  ACalls.of_comp_defer follows Tryz.func14 comp hl a
theorem pure {args : List AVal} {v : AVal} (hl : args.length ≤ 10) (a : AW ⟨Pg, 0, 10, false, [2, 3]⟩ ir (RetD Pg rs fun e _ => e = .ret v) (initT args) [] nilH) : APure Pg fn_again_Promised args v :=
  APure.of_nil (enter 0 hl a)
end again_Promised

namespace again_Yard
noncomputable def cfg : Cfg := { pure := pures, pcs := [], raw := [], cuts := [], draws := [(3, [⟨0, false, [], []⟩, ⟨1, false, [], []⟩, ⟨2, false, [], []⟩, ⟨3, false, [], []⟩, ⟨5, false, [], []⟩, ⟨4, false, [], []⟩, ⟨6, false, [], []⟩, ⟨7, false, [], []⟩, ⟨8, false, [], []⟩, ⟨9, false, [], []⟩, ⟨10, false, [], []⟩])], keep := [2, 3] }
@[simp] noncomputable def r0 (_ : Unit) : List Stp := [S 1 (.box (.t 0)), S 2 (.mv (.c (.int .i64 0))), S 3 (.alloc [(.int .i64 0)])]
@[simp] noncomputable def r1 (_ : Unit) : List Stp := [S 5 (.mkF (.func fn_again_Yard_1) [] [(.t 3)]), SN (.defer (.t 5) [])]
@[simp] noncomputable def r2 (_ : Unit) : List Stp := [S 6 (.load true 6 (.t 1)), S 7 (.call (.c (.func (.func fn_again_look) [] [])) [(.t 6), (.c (.bool true))]), S 4 (.mv (.t 7))]
@[simp] noncomputable def r3 (_ : Unit) : List Stp := [S 8 (.mv (.t 4)), S 9 (.mv (.t 4)), S 10 (.nilck Pg (.t 9)), S 11 (.fAddr 13 (.t 10)), S 13 (.fAddr 5 (.t 1)), S 12 (.load false 1 (.t 11)), S 14 (.load false 1 (.t 13)), S 15 (.call (.c (.func (.func fn_again_ship_verdict) [] [])) [(.t 8), (.t 12), (.t 14)]), SP 16 (.call (.c (.func (.func fn_again_verdict_told) [] [])) [(.t 15)]), S 2 (.mv (.t 16)), SN (.store 1 (.t 3) (.c (.int .i64 0)))]
@[simp] noncomputable def ir : IR := (.seq (.ops r0) (.seq (.ops r1) (.seq (.ops r2) (.seq (.ops r3) .ret))))
@[simp] noncomputable def rs : List RV := [.tmp 2, .cell 3 false 1]
theorem comp : compF Pg cfg Tryz.f16 = some (ir, rs, 17) := by kernel_rfl
theorem enter {args : List AVal} {h : Heap} {K : AEnd → Heap → Prop} (F : Nat) (hl : args.length ≤ 17) (a : AW ⟨Pg, F, 17, false, [2, 3]⟩ ir (RetD Pg rs K) (initT args) [] h) : ACalls Pg fn_again_Yard args h K :=
  ACalls.of_comp_defer follows Tryz.func16 comp hl a
theorem pure {args : List AVal} {v : AVal} (hl : args.length ≤ 17) (a : AW ⟨Pg, 0, 17, false, [2, 3]⟩ ir (RetD Pg rs fun e _ => e = .ret v) (initT args) [] nilH) : APure Pg fn_again_Yard args v :=
  APure.of_nil (enter 0 hl a)
end again_Yard

namespace again_Pays
noncomputable def cfg : Cfg := { pure := pures, pcs := [], raw := [], cuts := [], draws := [], keep := [2, 3] }
@[simp] noncomputable def r0 (_ : Unit) : List Stp := [S 1 (.box (.t 0)), S 2 (.alloc [(.int .i64 0), (.int .i64 0)]), S 3 (.alloc [(.int .i64 0)])]
@[simp] noncomputable def r1 (_ : Unit) : List Stp := [S 5 (.mkF (.func fn_again_Pays_1) [] [(.t 3)]), SN (.defer (.t 5) [])]
@[simp] noncomputable def r2 (_ : Unit) : List Stp := [S 6 (.load true 6 (.t 1)), S 7 (.call (.c (.func (.func fn_again_look) [] [])) [(.t 6), (.c (.bool true))]), S 8 (.build [] []), S 9 (.mkI 92 (.t 8)), S 10 (.call (.c (.func (.func fn_again_ship_span) [] [])) [(.t 7), (.t 9)]), S 4 (.alloc [(.int .i64 0), (.int .i64 0)]), SN (.store 2 (.t 4) (.t 10))]
@[simp] noncomputable def r3 (_ : Unit) : List Stp := [S 11 (.fAddr 0 (.t 4)), S 12 (.load false 1 (.t 11)), S 13 (.fAddr 3 (.t 1)), S 14 (.load false 1 (.t 13)), S 15 (.bin .mul (.t 12) (.t 14)), S 16 (.fAddr 1 (.t 4)), S 17 (.load false 1 (.t 16)), S 18 (.fAddr 3 (.t 1)), S 19 (.load false 1 (.t 18)), S 20 (.bin .mul (.t 17) (.t 19)), S 21 (.build [(.int .i64 0), (.int .i64 0)] [(0, 1, (.t 15)), (1, 1, (.t 20))]), SN (.store 2 (.t 2) (.t 21)), SN (.store 1 (.t 3) (.c (.int .i64 0)))]
@[simp] noncomputable def ir : IR := (.seq (.ops r0) (.seq (.ops r1) (.seq (.ops r2) (.seq (.ops r3) .ret))))
@[simp] noncomputable def rs : List RV := [.cell 2 true 2, .cell 3 false 1]
theorem comp : compF Pg cfg Tryz.f18 = some (ir, rs, 22) := by kernel_rfl
theorem enter {args : List AVal} {h : Heap} {K : AEnd → Heap → Prop} (F : Nat) (hl : args.length ≤ 22) (a : AW ⟨Pg, F, 22, false, [2, 3]⟩ ir (RetD Pg rs K) (initT args) [] h) : ACalls Pg fn_again_Pays args h K :=
  ACalls.of_comp_defer follows Tryz.func18 comp hl a
theorem pure {args : List AVal} {v : AVal} (hl : args.length ≤ 22) (a : AW ⟨Pg, 0, 22, false, [2, 3]⟩ ir (RetD Pg rs fun e _ => e = .ret v) (initT args) [] nilH) : APure Pg fn_again_Pays args v :=
  APure.of_nil (enter 0 hl a)
end again_Pays

namespace again_Nothing
noncomputable def cfg : Cfg := { pure := pures, pcs := [], raw := [], cuts := [], draws := [], keep := [2, 3] }
@[simp] noncomputable def r0 (_ : Unit) : List Stp := [S 1 (.box (.t 0)), S 2 (.alloc [(.int .i64 0), (.int .i64 0)]), S 3 (.alloc [(.int .i64 0)])]
@[simp] noncomputable def r1 (_ : Unit) : List Stp := [S 4 (.mkF (.func fn_again_Nothing_1) [] [(.t 3)]), SN (.defer (.t 4) [])]
@[simp] noncomputable def r2 (_ : Unit) : List Stp := [S 5 (.load true 6 (.t 1)), S 6 (.call (.c (.func (.func fn_again_look) [] [])) [(.t 5), (.c (.bool true))]), S 7 (.build [] []), S 8 (.mkI 90 (.t 7)), S 9 (.call (.c (.func (.func fn_again_ship_span) [] [])) [(.t 6), (.t 8)]), SN (.store 2 (.t 2) (.t 9)), SN (.store 1 (.t 3) (.c (.int .i64 0)))]
@[simp] noncomputable def ir : IR := (.seq (.ops r0) (.seq (.ops r1) (.seq (.ops r2) .ret)))
@[simp] noncomputable def rs : List RV := [.cell 2 true 2, .cell 3 false 1]
theorem comp : compF Pg cfg Tryz.f20 = some (ir, rs, 10) := by kernel_rfl
theorem enter {args : List AVal} {h : Heap} {K : AEnd → Heap → Prop} (F : Nat) (hl : args.length ≤ 10) (a : AW ⟨Pg, F, 10, false, [2, 3]⟩ ir (RetD Pg rs K) (initT args) [] h) : ACalls Pg fn_again_Nothing args h K :=
  ACalls.of_comp_defer follows Tryz.func20 comp hl a
theorem pure {args : List AVal} {v : AVal} (hl : args.length ≤ 10) (a : AW ⟨Pg, 0, 10, false, [2, 3]⟩ ir (RetD Pg rs fun e _ => e = .ret v) (initT args) [] nilH) : APure Pg fn_again_Nothing args v :=
  APure.of_nil (enter 0 hl a)
end again_Nothing

namespace again_Gang
noncomputable def cfg : Cfg := { pure := pures, pcs := [], raw := [], cuts := [], draws := [(2, [⟨1, false, [], []⟩, ⟨2, false, [], []⟩, ⟨0, false, [], []⟩, ⟨3, false, [], []⟩, ⟨4, false, [], []⟩])], keep := [4, 5] }
@[simp] noncomputable def r0 (_ : Unit) : List Stp := [S 2 (.box (.t 0)), S 4 (.alloc [(.int .i64 0), (.int .i64 0)]), S 5 (.alloc [(.int .i64 0)])]
@[simp] noncomputable def r1 (_ : Unit) : List Stp := [S 7 (.mkF (.func fn_again_Gang_1) [] [(.t 5)]), SN (.defer (.t 7) [])]
@[simp] noncomputable def r2 (_ : Unit) : List Stp := [S 9 (.mv (.t 1)), SP 10 (.call (.c (.func (.func fn_again_within) [] [])) [(.t 9), (.c (.int .i64 0)), (.c (.int .i64 3))]), S 8 (.load true 6 (.t 2)), S 11 (.call (.c (.func (.func fn_again_look) [] [])) [(.t 8), (.t 10)]), S 6 (.mv (.t 11))]
@[simp] noncomputable def r3 (_ : Unit) : List Stp := [S 12 (.mv (.t 6)), S 13 (.build [] []), S 14 (.mv (.t 1)), S 15 (.build [(.int .i64 0)] [(0, 0, (.t 13)), (0, 1, (.t 14))]), S 16 (.mkI 96 (.t 15)), S 17 (.call (.c (.func (.func fn_again_ship_span) [] [])) [(.t 12), (.t 16)]), SN (.store 2 (.t 4) (.t 17)), SN (.store 1 (.t 5) (.c (.int .i64 0)))]
@[simp] noncomputable def ir : IR := (.seq (.ops r0) (.seq (.ops r1) (.seq (.ops r2) (.seq (.ops r3) .ret))))
@[simp] noncomputable def rs : List RV := [.cell 4 true 2, .cell 5 false 1]
theorem comp : compF Pg cfg Tryz.f22 = some (ir, rs, 18) := by kernel_rfl
theorem enter {args : List AVal} {h : Heap} {K : AEnd → Heap → Prop} (F : Nat) (hl : args.length ≤ 18) (a : AW ⟨Pg, F, 18, false, [4, 5]⟩ ir (RetD Pg rs K) (initT args) [] h) : ACalls Pg fn_again_Gang args h K :=
  ACalls.of_comp_defer follows Tryz.func22 comp hl a
theorem pure {args : List AVal} {v : AVal} (hl : args.length ≤ 18) (a : AW ⟨Pg, 0, 18, false, [4, 5]⟩ ir (RetD Pg rs fun e _ => e = .ret v) (initT args) [] nilH) : APure Pg fn_again_Gang args v :=
  APure.of_nil (enter 0 hl a)
end again_Gang

namespace again_Blame
noncomputable def cfg : Cfg := { pure := pures, pcs := [], raw := [], cuts := [], draws := [], keep := [2, 3, 4] }
@[simp] noncomputable def r0 (_ : Unit) : List Stp := [S 1 (.box (.t 0)), S 2 (.mv (.c (.int .i64 0))), S 3 (.mv (.c (.int .i64 0))), S 4 (.alloc [(.int .i64 0)])]
@[simp] noncomputable def r1 (_ : Unit) : List Stp := [S 11 (.mkF (.func fn_again_Blame_1) [] [(.t 4)]), SN (.defer (.t 11) [])]
@[simp] noncomputable def r2 (_ : Unit) : List Stp := [S 12 (.load true 6 (.t 1)), S 13 (.call (.c (.func (.func fn_again_look) [] [])) [(.t 12), (.c (.bool true))]), S 5 (.mv (.t 13))]
@[simp] noncomputable def r3 (_ : Unit) : List Stp := [S 6 (.mv (.c (.int .i64 0))), S 7 (.mv (.c (.int .i64 0)))]
@[simp] noncomputable def r4 (_ : Unit) : List Stp := [S 14 (.mv (.t 5)), S 15 (.mkF (.func fn_again_ship_span) [(.t 14)] []), S 8 (.mv (.t 15))]
@[simp] noncomputable def r5 (_ : Unit) : List Stp := [S 16 (.mv (.c (.int .i64 0)))]
@[simp] noncomputable def r6 (_ : Unit) : List Stp := [S 17 (.bin .lss (.t 16) (.c (.int .i64 4)))]
@[simp] noncomputable def r7 (_ : Unit) : List Stp := [S 18 (.mv (.t 16)), S 9 (.mv (.t 18))]
@[simp] noncomputable def r8 (_ : Unit) : List Stp := [S 19 (.mv (.t 8)), S 20 (.mv (.t 9)), S 21 (.build [(.int .i64 0)] [(0, 1, (.t 20))]), S 22 (.mkI 96 (.t 21)), S 23 (.call (.t 19) [(.t 22)]), S 10 (.alloc [(.int .i64 0), (.int .i64 0)]), SN (.store 2 (.t 10) (.t 23))]
@[simp] noncomputable def r9 (_ : Unit) : List Stp := [S 24 (.fAddr 1 (.t 10)), S 25 (.load false 1 (.t 24)), S 26 (.bin .gtr (.t 25) (.c (.int .i64 0)))]
@[simp] noncomputable def r10 (_ : Unit) : List Stp := [S 27 (.mv (.t 6)), S 28 (.mv (.t 9)), S 29 (.bsl 1 [(.int .i64 0)] [(0, 1, (.t 28))]), S 30 (.call (.c (.func (.func fn_again_setOf) [] [])) [(.t 29)]), S 31 (.bin .or (.t 27) (.t 30)), S 6 (.mv (.t 31))]
@[simp] noncomputable def r11 (_ : Unit) : List Stp := [S 32 (.fAddr 0 (.t 10)), S 33 (.load false 1 (.t 32)), S 34 (.bin .gtr (.t 33) (.c (.int .i64 0)))]
@[simp] noncomputable def r12 (_ : Unit) : List Stp := [S 35 (.mv (.t 7)), S 36 (.mv (.t 9)), S 37 (.bsl 1 [(.int .i64 0)] [(0, 1, (.t 36))]), S 38 (.call (.c (.func (.func fn_again_setOf) [] [])) [(.t 37)]), S 39 (.bin .or (.t 35) (.t 38)), S 7 (.mv (.t 39))]
@[simp] noncomputable def r13 (_ : Unit) : List Stp := [S 40 (.bin .add (.t 16) (.c (.int .i64 1))), S 16 (.mv (.t 40))]
@[simp] noncomputable def r14 (_ : Unit) : List Stp := [S 41 (.mv (.t 7)), S 42 (.mv (.t 6)), S 2 (.mv (.t 41)), S 3 (.mv (.t 42)), SN (.store 1 (.t 4) (.c (.int .i64 0)))]
@[simp] noncomputable def ir : IR := (.seq (.ops r0) (.seq (.ops r1) (.seq (.ops r2) (.seq (.ops r3) (.seq (.ops r4) (.seq (.seq (.ops r5) (.block 0 (.loop (.seq (.ops r6) (.seq (.cond (.t 17) .skip (.exit 0)) (.seq (.block 1 (.seq (.ops r7) (.seq (.ops r8) (.seq (.seq (.ops r9) (.cond (.t 26) (.ops r10) .skip)) (.seq (.ops r11) (.cond (.t 34) (.ops r12) .skip)))))) (.ops r13))))))) (.seq (.ops r14) .ret)))))))
@[simp] noncomputable def rs : List RV := [.tmp 2, .tmp 3, .cell 4 false 1]
theorem comp : compF Pg cfg Tryz.f24 = some (ir, rs, 43) := by kernel_rfl
theorem enter {args : List AVal} {h : Heap} {K : AEnd → Heap → Prop} (F : Nat) (hl : args.length ≤ 43) (a : AW ⟨Pg, F, 43, false, [2, 3, 4]⟩ ir (RetD Pg rs K) (initT args) [] h) : ACalls Pg fn_again_Blame args h K :=
  ACalls.of_comp_defer follows Tryz.func24 comp hl a
theorem pure {args : List AVal} {v : AVal} (hl : args.length ≤ 43) (a : AW ⟨Pg, 0, 43, false, [2, 3, 4]⟩ ir (RetD Pg rs fun e _ => e = .ret v) (initT args) [] nilH) : APure Pg fn_again_Blame args v :=
  APure.of_nil (enter 0 hl a)
end again_Blame

namespace again_Until
noncomputable def cfg : Cfg := { pure := pures, pcs := [], raw := [], cuts := [], draws := [(3, [⟨0, false, [], []⟩, ⟨1, false, [], []⟩, ⟨2, false, [], []⟩, ⟨3, false, [], []⟩, ⟨5, false, [], []⟩, ⟨4, false, [], []⟩, ⟨6, false, [], []⟩, ⟨7, false, [], []⟩, ⟨8, false, [], []⟩, ⟨9, false, [], []⟩, ⟨10, false, [], []⟩])], keep := [2, 3] }
@[simp] noncomputable def r0 (_ : Unit) : List Stp := [S 1 (.box (.t 0)), S 2 (.mv (.c (.int .i64 0))), S 3 (.alloc [(.int .i64 0)])]
@[simp] noncomputable def r1 (_ : Unit) : List Stp := [S 10 (.mkF (.func fn_again_Until_1) [] [(.t 3)]), SN (.defer (.t 10) [])]
@[simp] noncomputable def r2 (_ : Unit) : List Stp := [S 11 (.load true 6 (.t 1)), S 12 (.call (.c (.func (.func fn_again_look) [] [])) [(.t 11), (.c (.bool true))]), S 4 (.mv (.t 12))]
@[simp] noncomputable def r3 (_ : Unit) : List Stp := [S 13 (.mv (.t 4)), S 14 (.mv (.t 4)), S 15 (.nilck Pg (.t 14)), S 16 (.fAddr 13 (.t 15)), S 18 (.fAddr 5 (.t 1)), S 17 (.load false 1 (.t 16)), S 19 (.load false 1 (.t 18)), S 20 (.call (.c (.func (.func fn_again_ship_verdict) [] [])) [(.t 13), (.t 17), (.t 19)]), SP 21 (.call (.c (.func (.func fn_again_verdict_told) [] [])) [(.t 20)]), S 22 (.bin .eql (.t 21) (.c (.int .i64 2))), S 23 (.call (.c (.func (.func fn_again_want) [] [])) [(.t 22), (.c (.int .i64 11))])]
@[simp] noncomputable def r4 (_ : Unit) : List Stp := [S 5 (.mv (.c (.int .i64 (-1))))]
@[simp] noncomputable def r5 (_ : Unit) : List Stp := [S 24 (.mv (.t 4)), S 25 (.nilck Pg (.t 24)), S 26 (.fAddr 12 (.t 25)), S 27 (.load false 1 (.t 26)), S 28 (.range (.t 27))]
@[simp] noncomputable def r6 (_ : Unit) : List Stp := [S 29 (.next (.t 28)), S 30 (.ext (.t 29) 0)]
@[simp] noncomputable def r7 (_ : Unit) : List Stp := [S 31 (.entry (.t 28)), S 32 (.ext (.t 31) 0), S 33 (.ext (.t 31) 1), S 7 (.alloc [(.int .i64 0), (.int .i64 0), (.int .i64 0)]), S 6 (.mv (.t 32)), SN (.store 3 (.t 7) (.t 33))]
@[simp] noncomputable def r8 (_ : Unit) : List Stp := [S 34 (.mv (.t 4)), S 35 (.nilck Pg (.t 34)), S 36 (.fAddr 13 (.t 35)), S 37 (.load false 1 (.t 36)), S 38 (.len (.t 37)), S 39 (.mv (.c (.int .i64 0)))]
@[simp] noncomputable def r9 (_ : Unit) : List Stp := [S 40 (.bin .lss (.t 39) (.t 38))]
@[simp] noncomputable def r10 (_ : Unit) : List Stp := [S 41 (.ixS 1 (.t 37) (.t 39)), S 42 (.load false 1 (.t 41)), S 9 (.mv (.t 42))]
@[simp] noncomputable def r11 (_ : Unit) : List Stp := [S 43 (.mv (.t 9)), S 44 (.mv (.t 6)), S 45 (.bin .shr (.t 43) (.t 44)), S 46 (.bin .and (.t 45) (.c (.int .i64 1))), S 47 (.bin .eql (.t 46) (.c (.int .i64 1))), S 48 (.mv (.t 47)), SG 49 48 true (.mv (.t 5)), SG 50 48 true (.bin .lss (.t 49) (.c (.int .i64 0))), SG 51 48 true (.mv (.t 50)), SG 52 51 false (.fAddr 1 (.t 7)), SG 53 51 false (.load false 1 (.t 52)), SG 54 51 false (.mv (.t 5)), SG 55 51 false (.bin .lss (.t 53) (.t 54)), SG 56 48 true (.pick (.t 51) (.c (.bool true)) (.t 55)), S 57 (.pick (.t 48) (.t 56) (.c (.bool false)))]
@[simp] noncomputable def r12 (_ : Unit) : List Stp := [S 58 (.fAddr 1 (.t 7)), S 59 (.load false 1 (.t 58)), S 5 (.mv (.t 59))]
@[simp] noncomputable def r13 (_ : Unit) : List Stp := [S 60 (.bin .add (.t 39) (.c (.int .i64 1))), S 39 (.mv (.t 60))]
@[simp] noncomputable def r14 (_ : Unit) : List Stp := [S 61 (.mv (.t 5)), S 62 (.bin .add (.t 61) (.c (.int .i64 365))), S 2 (.mv (.t 62)), SN (.store 1 (.t 3) (.c (.int .i64 0)))]
@[simp] noncomputable def ir : IR := (.seq (.ops r0) (.seq (.ops r1) (.seq (.ops r2) (.seq (.ops r3) (.seq (.ops r4) (.seq (.seq (.ops r5) (.block 0 (.loop (.seq (.ops r6) (.seq (.cond (.t 30) .skip (.exit 0)) (.block 1 (.seq (.ops r7) (.seq (.ops r8) (.block 2 (.loop (.seq (.ops r9) (.seq (.cond (.t 40) .skip (.exit 2)) (.seq (.block 3 (.seq (.ops r10) (.seq (.ops r11) (.cond (.t 57) (.ops r12) .skip)))) (.ops r13)))))))))))))) (.seq (.ops r14) .ret)))))))
@[simp] noncomputable def rs : List RV := [.tmp 2, .cell 3 false 1]
theorem comp : compF Pg cfg Tryz.f26 = some (ir, rs, 63) := by kernel_rfl
theorem enter {args : List AVal} {h : Heap} {K : AEnd → Heap → Prop} (F : Nat) (hl : args.length ≤ 63) (a : AW ⟨Pg, F, 63, false, [2, 3]⟩ ir (RetD Pg rs K) (initT args) [] h) : ACalls Pg fn_again_Until args h K :=
  ACalls.of_comp_defer follows Tryz.func26 comp hl a
theorem pure {args : List AVal} {v : AVal} (hl : args.length ≤ 63) (a : AW ⟨Pg, 0, 63, false, [2, 3]⟩ ir (RetD Pg rs fun e _ => e = .ret v) (initT args) [] nilH) : APure Pg fn_again_Until args v :=
  APure.of_nil (enter 0 hl a)
end again_Until

namespace again_Ask
noncomputable def cfg : Cfg := { pure := pures, pcs := [], raw := [], cuts := [], draws := [(3, [⟨5, false, [], []⟩, ⟨0, false, [], []⟩, ⟨1, false, [], []⟩, ⟨2, false, [], []⟩, ⟨3, false, [], []⟩, ⟨4, false, [], []⟩, ⟨6, false, [], []⟩, ⟨7, false, [], []⟩, ⟨8, false, [], []⟩, ⟨9, false, [], []⟩, ⟨10, false, [], []⟩]), (7, [⟨5, false, [], []⟩, ⟨7, false, [], []⟩, ⟨0, false, [], []⟩, ⟨1, false, [], []⟩, ⟨2, false, [], []⟩, ⟨3, false, [], []⟩, ⟨4, false, [], []⟩, ⟨6, false, [], []⟩, ⟨8, false, [], []⟩, ⟨9, false, [], []⟩, ⟨10, false, [], []⟩, ⟨11, false, [], []⟩, ⟨12, false, [], []⟩, ⟨13, false, [], []⟩, ⟨14, false, [], []⟩]), (12, [⟨0, false, [], []⟩, ⟨2, false, [], []⟩, ⟨1, false, [], []⟩, ⟨3, false, [], []⟩, ⟨4, false, [], [3]⟩, ⟨5, false, [], []⟩, ⟨6, false, [], []⟩])], keep := [2, 3, 4] }
@[simp] noncomputable def r0 (_ : Unit) : List Stp := [S 1 (.box (.t 0)), S 2 (.alloc [(.int .i64 0)]), S 3 (.alloc [(.int .i64 0)]), S 4 (.alloc [(.int .i64 0)])]
@[simp] noncomputable def r1 (_ : Unit) : List Stp := [S 10 (.mkF (.func fn_again_Ask_1) [] [(.t 4)]), SN (.defer (.t 10) [])]
@[simp] noncomputable def r2 (_ : Unit) : List Stp := [S 11 (.load true 6 (.t 1)), S 12 (.call (.c (.func (.func fn_again_look) [] [])) [(.t 11), (.c (.bool true))]), S 5 (.alloc [.nilp]), SN (.store 1 (.t 5) (.t 12))]
@[simp] noncomputable def r3 (_ : Unit) : List Stp := [S 18 (.fAddr 5 (.t 1)), S 13 (.load false 1 (.t 5)), S 14 (.load false 1 (.t 5)), S 15 (.nilck Pg (.t 14)), S 16 (.fAddr 13 (.t 15)), S 17 (.load false 1 (.t 16)), S 19 (.load false 1 (.t 18)), S 20 (.call (.c (.func (.func fn_again_ship_verdict) [] [])) [(.t 13), (.t 17), (.t 19)]), SP 21 (.call (.c (.func (.func fn_again_verdict_told) [] [])) [(.t 20)]), S 22 (.bin .eql (.t 21) (.c (.int .i64 1))), S 23 (.call (.c (.func (.func fn_again_want) [] [])) [(.t 22), (.c (.int .i64 11))])]
@[simp] noncomputable def r4 (_ : Unit) : List Stp := [S 24 (.mkmap), S 6 (.alloc [.nilm]), SN (.store 1 (.t 6) (.t 24))]
@[simp] noncomputable def r5 (_ : Unit) : List Stp := [S 25 (.call (.c (.func (.func fn_again_places) [] [])) [])]
@[simp] noncomputable def r6 (_ : Unit) : List Stp := [S 7 (.alloc [(.int .i64 0), (.int .i64 0)]), SN (.store 2 (.t 7) (.t 26))]
@[simp] noncomputable def r7 (_ : Unit) : List Stp := [S 33 (.fAddr 0 (.t 7)), S 35 (.fAddr 1 (.t 7)), S 28 (.load false 1 (.t 5)), S 29 (.nilck Pg (.t 28)), S 30 (.fAddr 0 (.t 29)), S 31 (.fAddr 0 (.t 30)), S 32 (.load true 2 (.t 31)), S 34 (.load false 1 (.t 33)), S 36 (.load false 1 (.t 35)), SP 37 (.call (.c (.func (.func fn_leak_Wet) [] [])) [(.t 32), (.t 34), (.t 36)]), S 27 (.mv (.t 37)), S 38 (.ext (.t 27) 0), S 39 (.ext (.t 27) 1), S 8 (.mv (.t 38)), S 9 (.mv (.t 39))]
@[simp] noncomputable def r8 (_ : Unit) : List Stp := [S 40 (.mv (.t 9)), S 41 (.bin .eql (.t 40) (.c (.int .i64 0))), S 42 (.mv (.t 9)), S 43 (.call (.c (.func (.func fn_again_want) [] [])) [(.t 41), (.t 42)])]
@[simp] noncomputable def r9 (_ : Unit) : List Stp := [S 44 (.load false 1 (.t 6)), S 45 (.mv (.t 8)), S 46 (.lookup (false, [.i]) false (.bool false) (.t 44) (.t 45))]
@[simp] noncomputable def r10 (_ : Unit) : List Stp := [S 47 (.load false 1 (.t 6)), S 48 (.mv (.t 8)), SN (.mapU (false, [.i]) (.t 47) (.t 48) (.c (.bool true)))]
@[simp] noncomputable def r11 (_ : Unit) : List Stp := [S 49 (.load false 1 (.t 5)), S 50 (.load true 2 (.t 7)), S 51 (.call (.c (.func (.func fn_again_ship_settles) [] [])) [(.t 49), (.t 50)])]
@[simp] noncomputable def r12 (_ : Unit) : List Stp := [S 52 (.fAddr 0 (.t 7)), S 54 (.fAddr 1 (.t 7)), S 53 (.load false 1 (.t 52)), S 55 (.load false 1 (.t 54)), SD none (.store 1 (.t 2) (.t 53)) false [] [I 55 (.load false 1 (.t 54))], SN (.store 1 (.t 3) (.t 55)), SN (.store 1 (.t 4) (.c (.int .i64 0)))]
@[simp] noncomputable def r13 (_ : Unit) : List Stp := [SN (.store 1 (.t 2) (.c (.int .i64 0))), SN (.store 1 (.t 3) (.c (.int .i64 0))), SN (.store 1 (.t 4) (.c (.int .i64 4)))]
@[simp] noncomputable def ir : IR := (.seq (.ops r0) (.seq (.ops r1) (.seq (.ops r2) (.seq (.ops r3) (.seq (.ops r4) (.seq .skip (.seq (.seq (.ops r5) (.block 0 (.rangeF (.t 25) [26] (.ops r6) (.block 1 (.seq (.ops r7) (.seq (.ops r8) (.seq (.seq (.ops r9) (.cond (.t 46) (.exit 1) .skip)) (.seq (.ops r10) (.seq (.ops r11) (.cond (.t 51) (.seq (.ops r12) .ret) .skip)))))))))) (.seq (.ops r13) .ret))))))))
@[simp] noncomputable def rs : List RV := [.cell 2 false 1, .cell 3 false 1, .cell 4 false 1]
theorem comp : compF Pg cfg Tryz.f28 = some (ir, rs, 56) := by kernel_rfl
theorem enter {args : List AVal} {h : Heap} {K : AEnd → Heap → Prop} (F : Nat) (hl : args.length ≤ 56) (a : AW ⟨Pg, F, 56, false, [2, 3, 4]⟩ ir (RetD Pg rs K) (initT args) [] h) : ACalls Pg fn_again_Ask args h K :=
  ACalls.of_comp_defer follows Tryz.func28 comp hl a
theorem pure {args : List AVal} {v : AVal} (hl : args.length ≤ 56) (a : AW ⟨Pg, 0, 56, false, [2, 3, 4]⟩ ir (RetD Pg rs fun e _ => e = .ret v) (initT args) [] nilH) : APure Pg fn_again_Ask args v :=
  APure.of_nil (enter 0 hl a)
end again_Ask

namespace law11_sample
noncomputable def cfg : Cfg := { pure := pures, pcs := [], raw := [], cuts := [], draws := [], keep := [] }
@[simp] noncomputable def r0 (_ : Unit) : List Stp := [S 2 (.alloc [.nils, .nils, .nils, (.int .i64 0), .nils, (.int .i64 0)])]
@[simp] noncomputable def r1 (_ : Unit) : List Stp := [S 3 (.build [(.int .i64 0), (.int .i64 0), (.int .i64 0)] [(0, 1, (.c (.int .i64 2))), (1, 1, (.c (.int .i64 0))), (2, 1, (.c (.int .i64 3)))]), S 4 (.build [(.int .i64 0), (.int .i64 0), (.int .i64 0)] [(0, 1, (.c (.int .i64 5))), (1, 1, (.c (.int .i64 (-1)))), (2, 1, (.c (.int .i64 2)))]), S 5 (.build [(.int .i64 0), (.int .i64 0), (.int .i64 0)] [(0, 1, (.c (.int .i64 5))), (1, 1, (.c (.int .i64 1))), (2, 1, (.c (.int .i64 4)))]), S 6 (.bsl 3 [(.int .i64 0), (.int .i64 0), (.int .i64 0), (.int .i64 0), (.int .i64 0), (.int .i64 0), (.int .i64 0), (.int .i64 0), (.int .i64 0)] [(0, 3, (.t 3)), (3, 3, (.t 4)), (6, 3, (.t 5))]), SP 7 (.call (.c (.func (.func fn_law11_span) [] [])) [(.c (.int .i64 1)), (.c (.int .i64 2))]), S 8 (.build [(.int .i64 0), (.int .i64 0), (.int .i64 0), (.int .i64 0)] [(0, 1, (.c (.int .i64 3))), (2, 2, (.t 7))]), SP 9 (.call (.c (.func (.func fn_law11_span) [] [])) [(.c (.int .i64 4)), (.c (.int .i64 4))]), S 10 (.build [(.int .i64 0), (.int .i64 0), (.int .i64 0), (.int .i64 0)] [(0, 1, (.c (.int .i64 6))), (2, 2, (.t 9))]), S 11 (.bsl 2 [(.int .i64 0), (.int .i64 0), (.int .i64 0), (.int .i64 0), (.int .i64 0), (.int .i64 0), (.int .i64 0), (.int .i64 0)] [(0, 4, (.t 8)), (4, 4, (.t 10))]), S 12 (.build [.nils, .nils] [(0, 1, (.t 6)), (1, 1, (.t 11))]), S 13 (.bsl 3 [(.int .i64 0), (.int .i64 0), (.int .i64 0)] [(0, 1, (.c (.int .i64 4))), (1, 1, (.c (.int .i64 3))), (2, 1, (.c (.int .i64 5)))]), SP 14 (.call (.c (.func (.func fn_law11_work) [] [])) [(.c (.int .i64 0)), (.c (.int .i64 100)), (.c (.int .i64 0))]), SP 15 (.call (.c (.func (.func fn_law11_work) [] [])) [(.c (.int .i64 1)), (.c (.int .i64 90)), (.c (.int .i64 1))]), SP 16 (.call (.c (.func (.func fn_law11_work) [] [])) [(.c (.int .i64 2)), (.c (.int .i64 10)), (.c (.int .i64 0))]), S 17 (.bsl 3 [(.int .i64 0), (.int .i64 0), (.int .i64 0), (.int .i64 0), (.int .i64 0), (.int .i64 0), (.int .i64 0), (.int .i64 0), (.int .i64 0)] [(0, 3, (.t 14)), (3, 3, (.t 15)), (6, 3, (.t 16))]), S 18 (.mv (.t 0)), S 19 (.build [.nils, .nils, .nils, (.int .i64 0), .nils, (.int .i64 0)] [(0, 2, (.t 12)), (2, 1, (.t 13)), (3, 1, (.c (.int .i64 10))), (4, 1, (.t 17)), (5, 1, (.t 18))]), SN (.store 6 (.t 2) (.t 19))]
@[simp] noncomputable def ir : IR := (.seq (.ops r0) (.seq (.ops r1) .ret))
@[simp] noncomputable def rs : List RV := [.cell 2 true 6]
theorem comp : compF Pg cfg Tryz.f30 = some (ir, rs, 20) := by kernel_rfl
theorem enter {args : List AVal} {h : Heap} {K : AEnd → Heap → Prop} (F : Nat) (hl : args.length ≤ 20) (a : AW ⟨Pg, F, 20, false, []⟩ ir (RetK rs K) (initT args) [] h) : ACalls Pg fn_law11_sample args h K :=
  ACalls.of_comp follows Tryz.func30 comp hl a
theorem pure {args : List AVal} {v : AVal} (hl : args.length ≤ 20) (a : AW ⟨Pg, 0, 20, false, []⟩ ir (RetK rs fun e _ => e = .ret v) (initT args) [] nilH) : APure Pg fn_law11_sample args v :=
  APure.of_nil (enter 0 hl a)
end law11_sample

namespace law11_span
noncomputable def cfg : Cfg := { pure := pures, pcs := [], raw := [], cuts := [], draws := [], keep := [] }
@[simp] noncomputable def r0 (_ : Unit) : List Stp := [S 4 (.alloc [(.int .i64 0), (.int .i64 0)])]
@[simp] noncomputable def r1 (_ : Unit) : List Stp := [S 5 (.mv (.t 0)), S 6 (.mv (.t 1)), S 7 (.build [(.int .i64 0), (.int .i64 0)] [(0, 1, (.t 5)), (1, 1, (.t 6))]), SN (.store 2 (.t 4) (.t 7))]
@[simp] noncomputable def ir : IR := (.seq (.ops r0) (.seq (.ops r1) .ret))
@[simp] noncomputable def rs : List RV := [.cell 4 true 2]
theorem comp : compF Pg cfg Tryz.f31 = some (ir, rs, 8) := by kernel_rfl
theorem enter {args : List AVal} {h : Heap} {K : AEnd → Heap → Prop} (F : Nat) (hl : args.length ≤ 8) (a : AW ⟨Pg, F, 8, false, []⟩ ir (RetK rs K) (initT args) [] h) : ACalls Pg fn_law11_span args h K :=
  ACalls.of_comp follows Tryz.func31 comp hl a
theorem pure {args : List AVal} {v : AVal} (hl : args.length ≤ 8) (a : AW ⟨Pg, 0, 8, false, []⟩ ir (RetK rs fun e _ => e = .ret v) (initT args) [] nilH) : APure Pg fn_law11_span args v :=
  APure.of_nil (enter 0 hl a)
end law11_span

namespace law11_long
noncomputable def cfg : Cfg := { pure := pures, pcs := [], raw := [], cuts := [], draws := [], keep := [] }
@[simp] noncomputable def r0 (_ : Unit) : List Stp := [S 1 (.box (.t 0)), S 2 (.mv (.c (.bool false)))]
@[simp] noncomputable def r1 (_ : Unit) : List Stp := [S 3 (.fAddr 0 (.t 1)), S 4 (.fAddr 0 (.t 3)), S 5 (.load false 1 (.t 4)), S 6 (.len (.t 5)), S 7 (.fAddr 0 (.t 1)), S 8 (.fAddr 1 (.t 7)), S 9 (.load false 1 (.t 8)), S 10 (.len (.t 9)), S 11 (.fAddr 2 (.t 1)), S 12 (.load false 1 (.t 11)), S 13 (.len (.t 12)), S 14 (.fAddr 4 (.t 1)), S 15 (.load false 1 (.t 14)), S 16 (.len (.t 15)), S 17 (.mm true [(.t 6), (.t 10), (.t 13), (.t 16)]), S 18 (.bin .gtr (.t 17) (.c (.int .i64 40))), S 2 (.mv (.t 18))]
@[simp] noncomputable def ir : IR := (.seq (.ops r0) (.seq (.ops r1) .ret))
@[simp] noncomputable def rs : List RV := [.tmp 2]
theorem comp : compF Pg cfg Tryz.f32 = some (ir, rs, 19) := by kernel_rfl
theorem enter {args : List AVal} {h : Heap} {K : AEnd → Heap → Prop} (F : Nat) (hl : args.length ≤ 19) (a : AW ⟨Pg, F, 19, false, []⟩ ir (RetK rs K) (initT args) [] h) : ACalls Pg fn_law11_long args h K :=
  ACalls.of_comp follows Tryz.func32 comp hl a
theorem pure {args : List AVal} {v : AVal} (hl : args.length ≤ 19) (a : AW ⟨Pg, 0, 19, false, []⟩ ir (RetK rs fun e _ => e = .ret v) (initT args) [] nilH) : APure Pg fn_law11_long args v :=
  APure.of_nil (enter 0 hl a)
end law11_long

namespace ref11_Ship
noncomputable def cfg : Cfg := { pure := pures, pcs := [], raw := [], cuts := [], draws := [], keep := [] }
@[simp] noncomputable def r0 (_ : Unit) : List Stp := [S 1 (.box (.t 0)), S 2 (.mv (.c (.bool false)))]
@[simp] noncomputable def r1 (_ : Unit) : List Stp := [S 6 (.fAddr 0 (.t 1)), S 7 (.load true 2 (.t 6)), SP 8 (.call (.c (.func (.func fn_ref01_Hull) [] [])) [(.t 7)]), S 9 (.un .not (.t 8)), S 10 (.mv (.t 9)), SG 11 10 false (.fAddr 0 (.t 1)), SG 12 10 false (.fAddr 1 (.t 11)), SG 13 10 false (.load false 1 (.t 12)), SG 14 10 false (.len (.t 13)), SG 15 10 false (.bin .geq (.t 14) (.c (.int .i64 8))), S 16 (.pick (.t 10) (.c (.bool true)) (.t 15)), S 17 (.mv (.t 16)), SG 18 17 false (.fAddr 2 (.t 1)), SG 19 17 false (.load false 1 (.t 18)), SG 20 17 false (.len (.t 19)), SG 21 17 false (.fAddr 0 (.t 1)), SG 22 17 false (.fAddr 0 (.t 21)), SG 23 17 false (.load false 1 (.t 22)), SG 24 17 false (.len (.t 23)), SG 25 17 false (.bin .neq (.t 20) (.t 24)), S 26 (.pick (.t 17) (.c (.bool true)) (.t 25)), S 27 (.mv (.t 26)), SG 28 27 false (.fAddr 3 (.t 1)), SG 29 27 false (.load false 1 (.t 28)), SGP 30 27 false (.call (.c (.func (.func fn_ref11_in) [] [])) [(.t 29), (.c (.int .i64 0)), (.c (.int .i64 100))]), SG 31 27 false (.un .not (.t 30)), S 32 (.pick (.t 27) (.c (.bool true)) (.t 31)), S 33 (.mv (.t 32)), SG 34 33 false (.fAddr 5 (.t 1)), SG 35 33 false (.load false 1 (.t 34)), SGP 36 33 false (.call (.c (.func (.func fn_ref11_in) [] [])) [(.t 35), (.c (.int .i64 0)), (.c (.int .i64 5000))]), SG 37 33 false (.un .not (.t 36)), S 38 (.pick (.t 33) (.c (.bool true)) (.t 37)), S 39 (.mv (.t 38)), SG 40 39 false (.fAddr 4 (.t 1)), SG 41 39 false (.load false 1 (.t 40)), SG 42 39 false (.len (.t 41)), SG 43 39 false (.bin .gtr (.t 42) (.c (.int .i64 12))), S 44 (.pick (.t 39) (.c (.bool true)) (.t 43))]
@[simp] noncomputable def r2 (_ : Unit) : List Stp := [S 2 (.mv (.c (.bool false)))]
@[simp] noncomputable def r3 (_ : Unit) : List Stp := [S 3 (.mv (.c (.int .i64 0)))]
@[simp] noncomputable def r4 (_ : Unit) : List Stp := [S 45 (.mv (.t 3)), S 46 (.fAddr 2 (.t 1)), S 47 (.load false 1 (.t 46)), S 48 (.len (.t 47)), S 49 (.bin .lss (.t 45) (.t 48))]
@[simp] noncomputable def r6 (_ : Unit) : List Stp := [S 52 (.fAddr 2 (.t 1)), S 53 (.load false 1 (.t 52)), S 54 (.mv (.t 3)), S 55 (.ixS 1 (.t 53) (.t 54)), S 56 (.load false 1 (.t 55)), SP 57 (.call (.c (.func (.func fn_ref11_in) [] [])) [(.t 56), (.c (.int .i64 1)), (.c (.int .i64 20))]), S 58 (.un .not (.t 57))]
@[simp] noncomputable def r7 (_ : Unit) : List Stp := [S 2 (.mv (.c (.bool false)))]
@[simp] noncomputable def r5 (_ : Unit) : List Stp := [S 50 (.mv (.t 3)), S 51 (.bin .add (.t 50) (.c (.int .i64 1))), S 3 (.mv (.t 51))]
@[simp] noncomputable def r8 (_ : Unit) : List Stp := [S 4 (.mv (.c (.int .i64 0)))]
@[simp] noncomputable def r9 (_ : Unit) : List Stp := [S 59 (.mv (.t 4)), S 60 (.fAddr 4 (.t 1)), S 61 (.load false 1 (.t 60)), S 62 (.len (.t 61)), S 63 (.bin .lss (.t 59) (.t 62))]
@[simp] noncomputable def r11 (_ : Unit) : List Stp := [S 66 (.fAddr 4 (.t 1)), S 67 (.load false 1 (.t 66)), S 68 (.mv (.t 4)), S 69 (.ixS 3 (.t 67) (.t 68)), S 70 (.load true 3 (.t 69)), S 5 (.alloc [(.int .i64 0), (.int .i64 0), (.int .i64 0)]), SN (.store 3 (.t 5) (.t 70))]
@[simp] noncomputable def r12 (_ : Unit) : List Stp := [S 71 (.fAddr 0 (.t 1)), S 72 (.load true 2 (.t 71)), S 73 (.fAddr 0 (.t 5)), S 74 (.load false 1 (.t 73)), SP 75 (.call (.c (.func (.func fn_ref01_Seam) [] [])) [(.t 72), (.t 74)]), S 76 (.un .not (.t 75)), S 77 (.mv (.t 76)), SG 78 77 false (.fAddr 2 (.t 5)), SG 79 77 false (.load false 1 (.t 78)), SGP 80 77 false (.call (.c (.func (.func fn_ref11_in) [] [])) [(.t 79), (.c (.int .i64 0)), (.c (.int .i64 3))]), SG 81 77 false (.un .not (.t 80)), S 82 (.pick (.t 77) (.c (.bool true)) (.t 81)), S 83 (.mv (.t 82)), SG 84 83 false (.fAddr 1 (.t 5)), SG 85 83 false (.load false 1 (.t 84)), SG 86 83 false (.fAddr 5 (.t 1)), SG 87 83 false (.load false 1 (.t 86)), SGP 88 83 false (.call (.c (.func (.func fn_ref11_in) [] [])) [(.t 85), (.c (.int .i64 0)), (.t 87)]), SG 89 83 false (.un .not (.t 88)), S 90 (.pick (.t 83) (.c (.bool true)) (.t 89))]
@[simp] noncomputable def r13 (_ : Unit) : List Stp := [S 2 (.mv (.c (.bool false)))]
@[simp] noncomputable def r10 (_ : Unit) : List Stp := [S 64 (.mv (.t 4)), S 65 (.bin .add (.t 64) (.c (.int .i64 1))), S 4 (.mv (.t 65))]
@[simp] noncomputable def r14 (_ : Unit) : List Stp := [S 2 (.mv (.c (.bool true)))]
@[simp] noncomputable def ir : IR := (.seq (.ops r0) (.seq (.seq (.ops r1) (.cond (.t 44) (.seq (.ops r2) .ret) .skip)) (.seq (.seq (.ops r3) (.block 0 (.loop (.seq (.seq (.ops r4) (.cond (.t 49) .skip (.exit 0))) (.seq (.block 1 (.seq (.ops r6) (.cond (.t 58) (.seq (.ops r7) .ret) .skip))) (.ops r5)))))) (.seq (.seq (.ops r8) (.block 2 (.loop (.seq (.seq (.ops r9) (.cond (.t 63) .skip (.exit 2))) (.seq (.block 3 (.seq (.ops r11) (.seq (.ops r12) (.cond (.t 90) (.seq (.ops r13) .ret) .skip)))) (.ops r10)))))) (.seq (.ops r14) .ret)))))
@[simp] noncomputable def rs : List RV := [.tmp 2]
theorem comp : compF Pg cfg Tryz.f33 = some (ir, rs, 91) := by kernel_rfl
theorem enter {args : List AVal} {h : Heap} {K : AEnd → Heap → Prop} (F : Nat) (hl : args.length ≤ 91) (a : AW ⟨Pg, F, 91, false, []⟩ ir (RetK rs K) (initT args) [] h) : ACalls Pg fn_ref11_Ship args h K :=
  ACalls.of_comp follows Tryz.func33 comp hl a
theorem pure {args : List AVal} {v : AVal} (hl : args.length ≤ 91) (a : AW ⟨Pg, 0, 91, false, []⟩ ir (RetK rs fun e _ => e = .ret v) (initT args) [] nilH) : APure Pg fn_ref11_Ship args v :=
  APure.of_nil (enter 0 hl a)
end ref11_Ship

namespace leak_Sets
noncomputable def cfg : Cfg := { pure := pures, pcs := [], raw := [], cuts := [], draws := [], keep := [2, 3] }
@[simp] noncomputable def r0 (_ : Unit) : List Stp := [S 1 (.box (.t 0)), S 2 (.mv (.c .nils)), S 3 (.alloc [(.int .i64 0)])]
@[simp] noncomputable def r1 (_ : Unit) : List Stp := [S 4 (.mkF (.func fn_leak_Sets_1) [] [(.t 3)]), SN (.defer (.t 4) [])]
@[simp] noncomputable def r2 (_ : Unit) : List Stp := [S 5 (.load true 2 (.t 1)), S 6 (.call (.c (.func (.func fn_leak_open) [] [])) [(.t 5), (.c (.bool true))]), S 7 (.call (.c (.func (.func fn_leak_hull_sets) [] [])) [(.t 6)]), S 2 (.mv (.t 7)), SN (.store 1 (.t 3) (.c (.int .i64 0)))]
@[simp] noncomputable def ir : IR := (.seq (.ops r0) (.seq (.ops r1) (.seq (.ops r2) .ret)))
@[simp] noncomputable def rs : List RV := [.tmp 2, .cell 3 false 1]
theorem comp : compF Pg cfg Tryz.f34 = some (ir, rs, 8) := by kernel_rfl
theorem enter {args : List AVal} {h : Heap} {K : AEnd → Heap → Prop} (F : Nat) (hl : args.length ≤ 8) (a : AW ⟨Pg, F, 8, false, [2, 3]⟩ ir (RetD Pg rs K) (initT args) [] h) : ACalls Pg fn_leak_Sets args h K :=
  ACalls.of_comp_defer follows Tryz.func34 comp hl a
theorem pure {args : List AVal} {v : AVal} (hl : args.length ≤ 8) (a : AW ⟨Pg, 0, 8, false, [2, 3]⟩ ir (RetD Pg rs fun e _ => e = .ret v) (initT args) [] nilH) : APure Pg fn_leak_Sets args v :=
  APure.of_nil (enter 0 hl a)
end leak_Sets

namespace leak_Flow
noncomputable def cfg : Cfg := { pure := pures, pcs := [], raw := [], cuts := [], draws := [(3, [⟨0, false, [], []⟩, ⟨1, false, [], []⟩, ⟨2, false, [], []⟩, ⟨3, false, [], []⟩, ⟨4, false, [], []⟩])], keep := [6, 7] }
@[simp] noncomputable def r0 (_ : Unit) : List Stp := [S 3 (.box (.t 0)), S 6 (.alloc [(.int .i64 0), (.int .i64 0)]), S 7 (.alloc [(.int .i64 0)])]
@[simp] noncomputable def r1 (_ : Unit) : List Stp := [S 10 (.mkF (.func fn_leak_Flow_1) [] [(.t 7)]), SN (.defer (.t 10) [])]
@[simp] noncomputable def r2 (_ : Unit) : List Stp := [S 11 (.mv (.t 1)), S 12 (.mv (.t 2)), S 13 (.build [(.int .i64 0), (.int .i64 0)] [(0, 1, (.t 11)), (1, 1, (.t 12))]), S 8 (.alloc [(.int .i64 0), (.int .i64 0)]), SN (.store 2 (.t 8) (.t 13))]
@[simp] noncomputable def r3 (_ : Unit) : List Stp := [S 14 (.load true 2 (.t 3)), S 15 (.load true 2 (.t 8)), SP 16 (.call (.c (.func (.func fn_leak_place_isPlace) [] [])) [(.t 15)]), S 17 (.call (.c (.func (.func fn_leak_open) [] [])) [(.t 14), (.t 16)]), S 9 (.mv (.t 17))]
@[simp] noncomputable def r4 (_ : Unit) : List Stp := [S 18 (.mv (.t 9)), S 19 (.mv (.t 9)), S 20 (.load true 2 (.t 8)), S 21 (.call (.c (.func (.func fn_leak_hull_wet) [] [])) [(.t 19), (.t 20)]), S 22 (.call (.c (.func (.func fn_leak_hull_total) [] [])) [(.t 18), (.t 21)]), SN (.store 2 (.t 6) (.t 22)), SN (.store 1 (.t 7) (.c (.int .i64 0)))]
@[simp] noncomputable def ir : IR := (.seq (.ops r0) (.seq (.ops r1) (.seq (.ops r2) (.seq (.ops r3) (.seq (.ops r4) .ret)))))
@[simp] noncomputable def rs : List RV := [.cell 6 true 2, .cell 7 false 1]
theorem comp : compF Pg cfg Tryz.f39 = some (ir, rs, 23) := by kernel_rfl
theorem enter {args : List AVal} {h : Heap} {K : AEnd → Heap → Prop} (F : Nat) (hl : args.length ≤ 23) (a : AW ⟨Pg, F, 23, false, [6, 7]⟩ ir (RetD Pg rs K) (initT args) [] h) : ACalls Pg fn_leak_Flow args h K :=
  ACalls.of_comp_defer follows Tryz.func39 comp hl a
theorem pure {args : List AVal} {v : AVal} (hl : args.length ≤ 23) (a : AW ⟨Pg, 0, 23, false, [6, 7]⟩ ir (RetD Pg rs fun e _ => e = .ret v) (initT args) [] nilH) : APure Pg fn_leak_Flow args v :=
  APure.of_nil (enter 0 hl a)
end leak_Flow

namespace law11_work
noncomputable def cfg : Cfg := { pure := pures, pcs := [], raw := [], cuts := [], draws := [], keep := [] }
@[simp] noncomputable def r0 (_ : Unit) : List Stp := [S 6 (.alloc [(.int .i64 0), (.int .i64 0), (.int .i64 0)])]
@[simp] noncomputable def r1 (_ : Unit) : List Stp := [S 7 (.mv (.t 0)), S 8 (.mv (.t 1)), S 9 (.mv (.t 2)), S 10 (.build [(.int .i64 0), (.int .i64 0), (.int .i64 0)] [(0, 1, (.t 7)), (1, 1, (.t 8)), (2, 1, (.t 9))]), SN (.store 3 (.t 6) (.t 10))]
@[simp] noncomputable def ir : IR := (.seq (.ops r0) (.seq (.ops r1) .ret))
@[simp] noncomputable def rs : List RV := [.cell 6 true 3]
theorem comp : compF Pg cfg Tryz.f40 = some (ir, rs, 11) := by kernel_rfl
theorem enter {args : List AVal} {h : Heap} {K : AEnd → Heap → Prop} (F : Nat) (hl : args.length ≤ 11) (a : AW ⟨Pg, F, 11, false, []⟩ ir (RetK rs K) (initT args) [] h) : ACalls Pg fn_law11_work args h K :=
  ACalls.of_comp follows Tryz.func40 comp hl a
theorem pure {args : List AVal} {v : AVal} (hl : args.length ≤ 11) (a : AW ⟨Pg, 0, 11, false, []⟩ ir (RetK rs fun e _ => e = .ret v) (initT args) [] nilH) : APure Pg fn_law11_work args v :=
  APure.of_nil (enter 0 hl a)
end law11_work

namespace ref01_Size
noncomputable def cfg : Cfg := { pure := pures, pcs := [], raw := [], cuts := [], draws := [], keep := [] }
@[simp] noncomputable def r0 (_ : Unit) : List Stp := [S 2 (.mv (.c (.int .i64 0)))]
@[simp] noncomputable def r1 (_ : Unit) : List Stp := [S 3 (.mv (.c (.int .i64 0)))]
@[simp] noncomputable def r2 (_ : Unit) : List Stp := [S 4 (.mv (.t 0)), S 5 (.bin .gtr (.t 4) (.c (.int .i64 0)))]
@[simp] noncomputable def r3 (_ : Unit) : List Stp := [S 6 (.mv (.t 3)), S 7 (.mv (.t 0)), S 8 (.bin .rem (.t 7) (.c (.int .i64 2))), S 9 (.bin .add (.t 6) (.t 8)), S 3 (.mv (.t 9))]
@[simp] noncomputable def r4 (_ : Unit) : List Stp := [S 10 (.mv (.t 0)), S 11 (.bin .quo (.t 10) (.c (.int .i64 2))), S 0 (.mv (.t 11))]
@[simp] noncomputable def r5 (_ : Unit) : List Stp := [S 12 (.mv (.t 3)), S 2 (.mv (.t 12))]
@[simp] noncomputable def ir : IR := (.seq (.ops r0) (.seq (.ops r1) (.seq (.block 0 (.loop (.seq (.seq (.ops r2) (.cond (.t 5) .skip (.exit 0))) (.block 1 (.seq (.ops r3) (.ops r4)))))) (.seq (.ops r5) .ret))))
@[simp] noncomputable def rs : List RV := [.tmp 2]
theorem comp : compF Pg cfg Tryz.f42 = some (ir, rs, 13) := by kernel_rfl
theorem enter {args : List AVal} {h : Heap} {K : AEnd → Heap → Prop} (F : Nat) (hl : args.length ≤ 13) (a : AW ⟨Pg, F, 13, false, []⟩ ir (RetK rs K) (initT args) [] h) : ACalls Pg fn_ref01_Size args h K :=
  ACalls.of_comp follows Tryz.func42 comp hl a
theorem pure {args : List AVal} {v : AVal} (hl : args.length ≤ 13) (a : AW ⟨Pg, 0, 13, false, []⟩ ir (RetK rs fun e _ => e = .ret v) (initT args) [] nilH) : APure Pg fn_ref01_Size args v :=
  APure.of_nil (enter 0 hl a)
end ref01_Size

namespace again_Promised_1
noncomputable def cfg : Cfg := { pure := pures, pcs := [], raw := [], cuts := [], draws := [], keep := [] }
@[simp] noncomputable def r0 (_ : Unit) : List Stp := [S 1 (.recov), S 2 (.call (.c (.func (.func fn_again_said) [] [])) [(.t 1), (.t 0)])]
@[simp] noncomputable def ir : IR := (.ops r0)
@[simp] noncomputable def rs : List RV := []
theorem comp : compF Pg cfg Tryz.f43 = some (ir, rs, 3) := by kernel_rfl
theorem enter {args : List AVal} {h : Heap} {K : AEnd → Heap → Prop} (F : Nat) (hl : args.length ≤ 3) (a : AW ⟨Pg, F, 3, false, []⟩ ir (RetK rs K) (initT args) [] h) : ACalls Pg fn_again_Promised_1 args h K :=
  ACalls.of_comp follows Tryz.func43 comp hl a
theorem pure {args : List AVal} {v : AVal} (hl : args.length ≤ 3) (a : AW ⟨Pg, 0, 3, false, []⟩ ir (RetK rs fun e _ => e = .ret v) (initT args) [] nilH) : APure Pg fn_again_Promised_1 args v :=
  APure.of_nil (enter 0 hl a)
theorem recClo : RecClo Pg fn_again_Promised_1 fn_again_said := ⟨_, Tryz.func43, by kernel_rfl⟩
end again_Promised_1

namespace again_said
noncomputable def cfg : Cfg := { pure := pures, pcs := [], raw := [], cuts := [], draws := [], keep := [] }
@[simp] noncomputable def r0 (_ : Unit) : List Stp := [S 6 (.mv (.t 0)), S 7 (.eqN .i false (.t 6))]
@[simp] noncomputable def r1 (_ : Unit) : List Stp := [S 9 (.mv (.t 0)), S 10 (.tyAs 119 true (.agg [(.int .i64 0)]) (.t 9)), S 8 (.mv (.t 10)), S 11 (.ext (.t 8) 0), S 12 (.ext (.t 8) 1), S 4 (.alloc [(.int .i64 0)]), SN (.store 1 (.t 4) (.t 11)), S 5 (.mv (.t 12))]
@[simp] noncomputable def r2 (_ : Unit) : List Stp := [S 13 (.mv (.t 5)), S 14 (.un .not (.t 13))]
@[simp] noncomputable def r3 (_ : Unit) : List Stp := [S 15 (.mv (.t 0)), SN (.panic (.t 15))]
@[simp] noncomputable def r4 (_ : Unit) : List Stp := [S 16 (.mv (.t 1)), S 17 (.fAddr 0 (.t 4)), S 18 (.load false 1 (.t 17)), S 19 (.nilck Pg (.t 16)), SN (.store 1 (.t 19) (.t 18))]
@[simp] noncomputable def ir : IR := (.seq (.seq (.ops r0) (.cond (.t 7) .ret .skip)) (.seq (.ops r1) (.seq (.seq (.ops r2) (.cond (.t 14) (.ops r3) .skip)) (.ops r4))))
@[simp] noncomputable def rs : List RV := []
theorem comp : compF Pg cfg Tryz.f44 = some (ir, rs, 20) := by kernel_rfl
theorem enter {args : List AVal} {h : Heap} {K : AEnd → Heap → Prop} (F : Nat) (hl : args.length ≤ 20) (a : AW ⟨Pg, F, 20, false, []⟩ ir (RetK rs K) (initT args) [] h) : ACalls Pg fn_again_said args h K :=
  ACalls.of_comp follows Tryz.func44 comp hl a
theorem pure {args : List AVal} {v : AVal} (hl : args.length ≤ 20) (a : AW ⟨Pg, 0, 20, false, []⟩ ir (RetK rs fun e _ => e = .ret v) (initT args) [] nilH) : APure Pg fn_again_said args v :=
  APure.of_nil (enter 0 hl a)
end again_said

namespace again_open
noncomputable def cfg : Cfg := { pure := pures, pcs := [], raw := [], cuts := [], draws := [(3, [⟨0, false, [], []⟩, ⟨1, false, [], []⟩, ⟨2, false, [], []⟩, ⟨3, false, [], []⟩, ⟨4, false, [], []⟩, ⟨5, false, [], []⟩, ⟨6, false, [], []⟩]), (11, [⟨0, false, [], []⟩, ⟨1, false, [], []⟩, ⟨2, false, [], []⟩, ⟨4, false, [], []⟩, ⟨3, false, [], []⟩, ⟨5, false, [], []⟩, ⟨6, false, [], []⟩, ⟨7, false, [], []⟩, ⟨8, false, [], []⟩, ⟨9, false, [], []⟩, ⟨10, true, [], []⟩, ⟨11, false, [], []⟩, ⟨12, false, [], []⟩]), (13, [⟨0, false, [], []⟩, ⟨1, false, [], []⟩, ⟨2, false, [], []⟩, ⟨4, false, [], []⟩, ⟨3, false, [], []⟩, ⟨5, false, [], []⟩, ⟨6, false, [], []⟩, ⟨7, false, [], []⟩])], keep := [] }
@[simp] noncomputable def r0 (_ : Unit) : List Stp := [S 2 (.box (.t 0)), S 4 (.mv (.c .nilp))]
@[simp] noncomputable def r1 (_ : Unit) : List Stp := [S 12 (.load true 6 (.t 2)), S 13 (.mv (.t 1)), S 14 (.call (.c (.func (.func fn_again_check) [] [])) [(.t 12), (.t 13)])]
@[simp] noncomputable def r2 (_ : Unit) : List Stp := [S 15 (.load true 6 (.t 2)), S 16 (.mkmap), S 17 (.build [.nils, .nils, .nils, (.int .i64 0), .nils, (.int .i64 0), (.int .i64 0), (.int .i64 0), (.int .i64 0), (.int .i64 0), (.int .i64 0), (.int .i64 0), .nilm, .nils] [(0, 6, (.t 15)), (12, 1, (.t 16))]), S 18 (.box (.t 17)), S 5 (.mv (.t 18))]
@[simp] noncomputable def r3 (_ : Unit) : List Stp := [S 19 (.mv (.t 5)), S 20 (.nilck Pg (.t 19)), S 21 (.fAddr 6 (.t 20)), S 22 (.slA 6 1 (.t 21) none none none), S 23 (.fAddr 2 (.t 2)), S 24 (.load false 1 (.t 23)), S 25 (.copy 1 (.t 22) (.t 24))]
@[simp] noncomputable def r4 (_ : Unit) : List Stp := [S 26 (.fAddr 4 (.t 2)), S 27 (.load false 1 (.t 26)), S 28 (.len (.t 27)), S 29 (.mksl 24 [(.int .i64 0), (.int .i64 0), (.int .i64 0)] (.t 28) (.t 28)), S 6 (.mv (.t 29))]
@[simp] noncomputable def r5 (_ : Unit) : List Stp := [S 30 (.mv (.t 6)), S 31 (.fAddr 4 (.t 2)), S 32 (.load false 1 (.t 31)), S 33 (.copy 3 (.t 30) (.t 32))]
@[simp] noncomputable def r6 (_ : Unit) : List Stp := [S 34 (.build [.nilf] [(0, 1, (.c (.func (.func fn_again_open_1) [] [])))]), S 7 (.alloc [.nilf]), SN (.store 1 (.t 7) (.t 34))]
@[simp] noncomputable def r7 (_ : Unit) : List Stp := [S 35 (.mv (.t 6)), S 36 (.fAddr 0 (.t 7)), S 37 (.load false 1 (.t 36)), S 38 (.call (.c (.func (.func fn_slices_SortStableFunc_api_AgainWork_api_AgainWork) [] [])) [(.t 35), (.t 37)])]
@[simp] noncomputable def r8 (_ : Unit) : List Stp := [S 39 (.mv (.t 6)), S 40 (.len (.t 39)), S 41 (.mv (.c (.int .i64 0)))]
@[simp] noncomputable def r9 (_ : Unit) : List Stp := [S 42 (.bin .lss (.t 41) (.t 40))]
@[simp] noncomputable def r10 (_ : Unit) : List Stp := [S 43 (.ixS 3 (.t 39) (.t 41)), S 44 (.load true 3 (.t 43)), S 9 (.alloc [(.int .i64 0), (.int .i64 0), (.int .i64 0)]), SN (.store 3 (.t 9) (.t 44))]
@[simp] noncomputable def r11 (_ : Unit) : List Stp := [S 46 (.mv (.t 5)), S 47 (.nilck Pg (.t 46)), S 48 (.fAddr 12 (.t 47)), S 50 (.fAddr 0 (.t 9)), S 49 (.load false 1 (.t 48)), S 51 (.load false 1 (.t 50)), S 52 (.lookup (false, [.i]) true (.agg [(.int .i64 0), (.int .i64 0), (.int .i64 0)]) (.t 49) (.t 51)), S 45 (.mv (.t 52)), S 53 (.ext (.t 45) 0), S 54 (.ext (.t 45) 1), SD (some 10) (.alloc [(.int .i64 0), (.int .i64 0), (.int .i64 0)]) true [] [], SN (.store 3 (.t 10) (.t 53)), S 11 (.mv (.t 54))]
@[simp] noncomputable def r12 (_ : Unit) : List Stp := [S 55 (.mv (.t 11)), S 56 (.un .not (.t 55)), S 57 (.mv (.t 56)), SG 58 57 false (.load true 3 (.t 10)), SG 59 57 false (.load true 3 (.t 9)), SG 60 57 false (.eqA true [.i, .i, .i] (.t 58) (.t 59)), S 61 (.pick (.t 57) (.c (.bool true)) (.t 60))]
@[simp] noncomputable def r13 (_ : Unit) : List Stp := [S 62 (.mv (.t 5)), S 63 (.nilck Pg (.t 62)), S 64 (.fAddr 12 (.t 63)), S 66 (.fAddr 0 (.t 9)), S 65 (.load false 1 (.t 64)), S 67 (.load false 1 (.t 66)), S 68 (.load true 3 (.t 9)), SN (.mapU (false, [.i]) (.t 65) (.t 67) (.t 68))]
@[simp] noncomputable def r14 (_ : Unit) : List Stp := [S 69 (.bin .add (.t 41) (.c (.int .i64 1))), S 41 (.mv (.t 69))]
@[simp] noncomputable def r15 (_ : Unit) : List Stp := [S 70 (.mv (.t 5)), S 4 (.mv (.t 70))]
@[simp] noncomputable def ir : IR := (.seq (.ops r0) (.seq (.ops r1) (.seq (.ops r2) (.seq (.ops r3) (.seq (.ops r4) (.seq (.ops r5) (.seq (.ops r6) (.seq (.ops r7) (.seq (.seq (.ops r8) (.block 0 (.loop (.seq (.ops r9) (.seq (.cond (.t 42) .skip (.exit 0)) (.seq (.block 1 (.seq (.ops r10) (.seq (.ops r11) (.seq (.ops r12) (.cond (.t 61) (.ops r13) .skip))))) (.ops r14))))))) (.seq (.ops r15) .ret))))))))))
@[simp] noncomputable def rs : List RV := [.tmp 4]
theorem comp : compF Pg cfg Tryz.f45 = some (ir, rs, 71) := by kernel_rfl
theorem enter {args : List AVal} {h : Heap} {K : AEnd → Heap → Prop} (F : Nat) (hl : args.length ≤ 71) (a : AW ⟨Pg, F, 71, false, []⟩ ir (RetK rs K) (initT args) [] h) : ACalls Pg fn_again_open args h K :=
  ACalls.of_comp follows Tryz.func45 comp hl a
theorem pure {args : List AVal} {v : AVal} (hl : args.length ≤ 71) (a : AW ⟨Pg, 0, 71, false, []⟩ ir (RetK rs fun e _ => e = .ret v) (initT args) [] nilH) : APure Pg fn_again_open args v :=
  APure.of_nil (enter 0 hl a)
end again_open

namespace again_ship_promised
noncomputable def cfg : Cfg := { pure := pures, pcs := [], raw := [], cuts := [], draws := [], keep := [] }
@[simp] noncomputable def r0 (_ : Unit) : List Stp := [S 4 (.mv (.c (.int .i64 0)))]
@[simp] noncomputable def r1 (_ : Unit) : List Stp := [S 7 (.mv (.t 0)), S 8 (.nilck Pg (.t 7)), S 9 (.fAddr 12 (.t 8)), S 10 (.load false 1 (.t 9)), S 11 (.range (.t 10))]
@[simp] noncomputable def r2 (_ : Unit) : List Stp := [S 12 (.next (.t 11)), S 13 (.ext (.t 12) 0)]
@[simp] noncomputable def r3 (_ : Unit) : List Stp := [S 14 (.entry (.t 11)), S 15 (.ext (.t 14) 0), S 16 (.ext (.t 14) 1), S 6 (.alloc [(.int .i64 0), (.int .i64 0), (.int .i64 0)]), S 5 (.mv (.t 15)), SN (.store 3 (.t 6) (.t 16))]
@[simp] noncomputable def r4 (_ : Unit) : List Stp := [S 17 (.mv (.t 1)), S 18 (.fAddr 1 (.t 6)), S 19 (.load false 1 (.t 18)), S 20 (.bin .sub (.t 17) (.t 19)), S 21 (.bin .leq (.t 20) (.c (.int .i64 365)))]
@[simp] noncomputable def r5 (_ : Unit) : List Stp := [S 22 (.mv (.t 4)), S 23 (.mv (.t 5)), S 24 (.bsl 1 [(.int .i64 0)] [(0, 1, (.t 23))]), S 25 (.call (.c (.func (.func fn_again_setOf) [] [])) [(.t 24)]), S 26 (.bin .or (.t 22) (.t 25)), S 4 (.mv (.t 26))]
@[simp] noncomputable def r6 (_ : Unit) : List Stp := [S 27 (.mv (.t 4)), S 4 (.mv (.t 27))]
@[simp] noncomputable def ir : IR := (.seq (.ops r0) (.seq (.seq (.ops r1) (.block 0 (.loop (.seq (.ops r2) (.seq (.cond (.t 13) .skip (.exit 0)) (.block 1 (.seq (.ops r3) (.seq (.ops r4) (.cond (.t 21) (.ops r5) .skip))))))))) (.seq (.ops r6) .ret)))
@[simp] noncomputable def rs : List RV := [.tmp 4]
theorem comp : compF Pg cfg Tryz.f46 = some (ir, rs, 28) := by kernel_rfl
theorem enter {args : List AVal} {h : Heap} {K : AEnd → Heap → Prop} (F : Nat) (hl : args.length ≤ 28) (a : AW ⟨Pg, F, 28, false, []⟩ ir (RetK rs K) (initT args) [] h) : ACalls Pg fn_again_ship_promised args h K :=
  ACalls.of_comp follows Tryz.func46 comp hl a
theorem pure {args : List AVal} {v : AVal} (hl : args.length ≤ 28) (a : AW ⟨Pg, 0, 28, false, []⟩ ir (RetK rs fun e _ => e = .ret v) (initT args) [] nilH) : APure Pg fn_again_ship_promised args v :=
  APure.of_nil (enter 0 hl a)
end again_ship_promised

namespace again_Yard_1
noncomputable def cfg : Cfg := { pure := pures, pcs := [], raw := [], cuts := [], draws := [], keep := [] }
@[simp] noncomputable def r0 (_ : Unit) : List Stp := [S 1 (.recov), S 2 (.call (.c (.func (.func fn_again_said) [] [])) [(.t 1), (.t 0)])]
@[simp] noncomputable def ir : IR := (.ops r0)
@[simp] noncomputable def rs : List RV := []
theorem comp : compF Pg cfg Tryz.f50 = some (ir, rs, 3) := by kernel_rfl
theorem enter {args : List AVal} {h : Heap} {K : AEnd → Heap → Prop} (F : Nat) (hl : args.length ≤ 3) (a : AW ⟨Pg, F, 3, false, []⟩ ir (RetK rs K) (initT args) [] h) : ACalls Pg fn_again_Yard_1 args h K :=
  ACalls.of_comp follows Tryz.func50 comp hl a
theorem pure {args : List AVal} {v : AVal} (hl : args.length ≤ 3) (a : AW ⟨Pg, 0, 3, false, []⟩ ir (RetK rs fun e _ => e = .ret v) (initT args) [] nilH) : APure Pg fn_again_Yard_1 args v :=
  APure.of_nil (enter 0 hl a)
theorem recClo : RecClo Pg fn_again_Yard_1 fn_again_said := ⟨_, Tryz.func50, by kernel_rfl⟩
end again_Yard_1

namespace again_look
noncomputable def cfg : Cfg := { pure := pures, pcs := [], raw := [], cuts := [], draws := [], keep := [] }
@[simp] noncomputable def r0 (_ : Unit) : List Stp := [S 2 (.box (.t 0)), S 4 (.mv (.c .nilp))]
@[simp] noncomputable def r1 (_ : Unit) : List Stp := [S 8 (.load true 6 (.t 2)), S 9 (.mv (.t 1)), S 10 (.call (.c (.func (.func fn_again_open) [] [])) [(.t 8), (.t 9)]), S 5 (.mv (.t 10))]
@[simp] noncomputable def r2 (_ : Unit) : List Stp := [S 12 (.fAddr 0 (.t 2)), S 13 (.load true 2 (.t 12)), SP 14 (.call (.c (.func (.func fn_leak_Sets) [] [])) [(.t 13)]), S 11 (.mv (.t 14)), S 15 (.ext (.t 11) 0), S 16 (.ext (.t 11) 1), S 6 (.mv (.t 15)), S 7 (.mv (.t 16))]
@[simp] noncomputable def r3 (_ : Unit) : List Stp := [S 17 (.mv (.t 7)), S 18 (.bin .eql (.t 17) (.c (.int .i64 0))), S 19 (.mv (.t 7)), S 20 (.call (.c (.func (.func fn_again_want) [] [])) [(.t 18), (.t 19)])]
@[simp] noncomputable def r4 (_ : Unit) : List Stp := [S 21 (.mv (.t 5)), S 22 (.mv (.t 6)), S 23 (.nilck Pg (.t 21)), S 24 (.fAddr 13 (.t 23)), SN (.store 1 (.t 24) (.t 22))]
@[simp] noncomputable def r5 (_ : Unit) : List Stp := [S 25 (.mv (.t 5)), S 4 (.mv (.t 25))]
@[simp] noncomputable def ir : IR := (.seq (.ops r0) (.seq (.ops r1) (.seq (.ops r2) (.seq (.ops r3) (.seq (.ops r4) (.seq (.ops r5) .ret))))))
@[simp] noncomputable def rs : List RV := [.tmp 4]
theorem comp : compF Pg cfg Tryz.f51 = some (ir, rs, 26) := by kernel_rfl
theorem enter {args : List AVal} {h : Heap} {K : AEnd → Heap → Prop} (F : Nat) (hl : args.length ≤ 26) (a : AW ⟨Pg, F, 26, false, []⟩ ir (RetK rs K) (initT args) [] h) : ACalls Pg fn_again_look args h K :=
  ACalls.of_comp follows Tryz.func51 comp hl a
theorem pure {args : List AVal} {v : AVal} (hl : args.length ≤ 26) (a : AW ⟨Pg, 0, 26, false, []⟩ ir (RetK rs fun e _ => e = .ret v) (initT args) [] nilH) : APure Pg fn_again_look args v :=
  APure.of_nil (enter 0 hl a)
end again_look

namespace again_ship_verdict
noncomputable def cfg : Cfg := { pure := pures, pcs := [], raw := [], cuts := [], draws := [], keep := [] }
@[simp] noncomputable def r0 (_ : Unit) : List Stp := [S 6 (.alloc [(.bool false), (.bool false)])]
@[simp] noncomputable def r1 (_ : Unit) : List Stp := [S 8 (.mv (.t 0)), S 9 (.mv (.t 2)), S 10 (.call (.c (.func (.func fn_again_ship_promised) [] [])) [(.t 8), (.t 9)]), S 7 (.alloc [(.int .i64 0)]), SN (.store 1 (.t 7) (.t 10))]
@[simp] noncomputable def r2 (_ : Unit) : List Stp := [S 11 (.mv (.t 1)), S 12 (.mkF (.func fn_again_ship_verdict_1) [] [(.t 7)]), S 13 (.call (.c (.func (.func fn_again_joined_again_verdict) [] [])) [(.t 11), (.t 12), (.c (.func (.func fn_again_ship_verdict_2) [] []))]), SN (.store 2 (.t 6) (.t 13))]
@[simp] noncomputable def ir : IR := (.seq (.ops r0) (.seq (.ops r1) (.seq (.ops r2) .ret)))
@[simp] noncomputable def rs : List RV := [.cell 6 true 2]
theorem comp : compF Pg cfg Tryz.f52 = some (ir, rs, 14) := by kernel_rfl
theorem enter {args : List AVal} {h : Heap} {K : AEnd → Heap → Prop} (F : Nat) (hl : args.length ≤ 14) (a : AW ⟨Pg, F, 14, false, []⟩ ir (RetK rs K) (initT args) [] h) : ACalls Pg fn_again_ship_verdict args h K :=
  ACalls.of_comp follows Tryz.func52 comp hl a
theorem pure {args : List AVal} {v : AVal} (hl : args.length ≤ 14) (a : AW ⟨Pg, 0, 14, false, []⟩ ir (RetK rs fun e _ => e = .ret v) (initT args) [] nilH) : APure Pg fn_again_ship_verdict args v :=
  APure.of_nil (enter 0 hl a)
end again_ship_verdict

namespace again_verdict_told
noncomputable def cfg : Cfg := { pure := pures, pcs := [], raw := [], cuts := [], draws := [], keep := [] }
@[simp] noncomputable def r0 (_ : Unit) : List Stp := [S 1 (.box (.t 0)), S 2 (.mv (.c (.int .i64 0)))]
@[simp] noncomputable def r1 (_ : Unit) : List Stp := [S 3 (.load true 2 (.t 1))]
@[simp] noncomputable def r2 (_ : Unit) : List Stp := [S 5 (.build [(.bool false), (.bool false)] [(0, 1, (.c (.bool true)))]), S 6 (.eqA false [.b, .b] (.t 3) (.t 5)), S 4 (.mv (.t 6))]
@[simp] noncomputable def r3 (_ : Unit) : List Stp := [S 2 (.mv (.c (.int .i64 2)))]
@[simp] noncomputable def r4 (_ : Unit) : List Stp := [S 8 (.build [(.bool false), (.bool false)] [(1, 1, (.c (.bool true)))]), S 9 (.eqA false [.b, .b] (.t 3) (.t 8)), S 7 (.mv (.t 9))]
@[simp] noncomputable def r5 (_ : Unit) : List Stp := [S 2 (.mv (.c (.int .i64 0)))]
@[simp] noncomputable def r6 (_ : Unit) : List Stp := [S 2 (.mv (.c (.int .i64 1)))]
@[simp] noncomputable def ir : IR := (.seq (.ops r0) (.seq (.seq (.ops r1) (.block 0 (.seq (.ops r2) (.cond (.t 4) (.seq (.ops r3) .ret) (.seq (.ops r4) (.cond (.t 7) (.seq (.ops r5) .ret) .skip)))))) (.seq (.ops r6) .ret)))
@[simp] noncomputable def rs : List RV := [.tmp 2]
theorem comp : compF Pg cfg Tryz.f53 = some (ir, rs, 10) := by kernel_rfl
theorem enter {args : List AVal} {h : Heap} {K : AEnd → Heap → Prop} (F : Nat) (hl : args.length ≤ 10) (a : AW ⟨Pg, F, 10, false, []⟩ ir (RetK rs K) (initT args) [] h) : ACalls Pg fn_again_verdict_told args h K :=
  ACalls.of_comp follows Tryz.func53 comp hl a
theorem pure {args : List AVal} {v : AVal} (hl : args.length ≤ 10) (a : AW ⟨Pg, 0, 10, false, []⟩ ir (RetK rs fun e _ => e = .ret v) (initT args) [] nilH) : APure Pg fn_again_verdict_told args v :=
  APure.of_nil (enter 0 hl a)
end again_verdict_told

namespace again_Pays_1
noncomputable def cfg : Cfg := { pure := pures, pcs := [], raw := [], cuts := [], draws := [], keep := [] }
@[simp] noncomputable def r0 (_ : Unit) : List Stp := [S 1 (.recov), S 2 (.call (.c (.func (.func fn_again_said) [] [])) [(.t 1), (.t 0)])]
@[simp] noncomputable def ir : IR := (.ops r0)
@[simp] noncomputable def rs : List RV := []
theorem comp : compF Pg cfg Tryz.f56 = some (ir, rs, 3) := by kernel_rfl
theorem enter {args : List AVal} {h : Heap} {K : AEnd → Heap → Prop} (F : Nat) (hl : args.length ≤ 3) (a : AW ⟨Pg, F, 3, false, []⟩ ir (RetK rs K) (initT args) [] h) : ACalls Pg fn_again_Pays_1 args h K :=
  ACalls.of_comp follows Tryz.func56 comp hl a
theorem pure {args : List AVal} {v : AVal} (hl : args.length ≤ 3) (a : AW ⟨Pg, 0, 3, false, []⟩ ir (RetK rs fun e _ => e = .ret v) (initT args) [] nilH) : APure Pg fn_again_Pays_1 args v :=
  APure.of_nil (enter 0 hl a)
theorem recClo : RecClo Pg fn_again_Pays_1 fn_again_said := ⟨_, Tryz.func56, by kernel_rfl⟩
end again_Pays_1

namespace again_ship_span
noncomputable def cfg : Cfg := { pure := pures, pcs := [], raw := [], cuts := [], draws := [], keep := [] }
@[simp] noncomputable def r0 (_ : Unit) : List Stp := [S 2 (.box (.t 0)), S 3 (.box (.t 1)), S 4 (.alloc [(.int .i64 0), (.int .i64 0)])]
@[simp] noncomputable def r1 (_ : Unit) : List Stp := [S 5 (.alloc [.nilf]), SN (.store 1 (.t 5) (.c (.func (.func fn_again_lengths_sum) [] [])))]
@[simp] noncomputable def r2 (_ : Unit) : List Stp := [S 6 (.load false 1 (.t 2)), S 7 (.nilck Pg (.t 6)), S 8 (.fAddr 13 (.t 7)), S 9 (.load false 1 (.t 8)), S 10 (.mkF (.func fn_again_ship_span_1) [] [(.t 5), (.t 2), (.t 3)]), S 11 (.call (.c (.func (.func fn_again_joined_api_Span) [] [])) [(.t 9), (.t 10), (.c (.func (.func fn_again_hull) [] []))]), SN (.store 2 (.t 4) (.t 11))]
@[simp] noncomputable def ir : IR := (.seq (.ops r0) (.seq (.ops r1) (.seq (.ops r2) .ret)))
@[simp] noncomputable def rs : List RV := [.cell 4 true 2]
theorem comp : compF Pg cfg Tryz.f57 = some (ir, rs, 12) := by kernel_rfl
theorem enter {args : List AVal} {h : Heap} {K : AEnd → Heap → Prop} (F : Nat) (hl : args.length ≤ 12) (a : AW ⟨Pg, F, 12, false, []⟩ ir (RetK rs K) (initT args) [] h) : ACalls Pg fn_again_ship_span args h K :=
  ACalls.of_comp follows Tryz.func57 comp hl a
theorem pure {args : List AVal} {v : AVal} (hl : args.length ≤ 12) (a : AW ⟨Pg, 0, 12, false, []⟩ ir (RetK rs fun e _ => e = .ret v) (initT args) [] nilH) : APure Pg fn_again_ship_span args v :=
  APure.of_nil (enter 0 hl a)
end again_ship_span

namespace again_Nothing_1
noncomputable def cfg : Cfg := { pure := pures, pcs := [], raw := [], cuts := [], draws := [], keep := [] }
@[simp] noncomputable def r0 (_ : Unit) : List Stp := [S 1 (.recov), S 2 (.call (.c (.func (.func fn_again_said) [] [])) [(.t 1), (.t 0)])]
@[simp] noncomputable def ir : IR := (.ops r0)
@[simp] noncomputable def rs : List RV := []
theorem comp : compF Pg cfg Tryz.f59 = some (ir, rs, 3) := by kernel_rfl
theorem enter {args : List AVal} {h : Heap} {K : AEnd → Heap → Prop} (F : Nat) (hl : args.length ≤ 3) (a : AW ⟨Pg, F, 3, false, []⟩ ir (RetK rs K) (initT args) [] h) : ACalls Pg fn_again_Nothing_1 args h K :=
  ACalls.of_comp follows Tryz.func59 comp hl a
theorem pure {args : List AVal} {v : AVal} (hl : args.length ≤ 3) (a : AW ⟨Pg, 0, 3, false, []⟩ ir (RetK rs fun e _ => e = .ret v) (initT args) [] nilH) : APure Pg fn_again_Nothing_1 args v :=
  APure.of_nil (enter 0 hl a)
theorem recClo : RecClo Pg fn_again_Nothing_1 fn_again_said := ⟨_, Tryz.func59, by kernel_rfl⟩
end again_Nothing_1

namespace again_Gang_1
noncomputable def cfg : Cfg := { pure := pures, pcs := [], raw := [], cuts := [], draws := [], keep := [] }
@[simp] noncomputable def r0 (_ : Unit) : List Stp := [S 1 (.recov), S 2 (.call (.c (.func (.func fn_again_said) [] [])) [(.t 1), (.t 0)])]
@[simp] noncomputable def ir : IR := (.ops r0)
@[simp] noncomputable def rs : List RV := []
theorem comp : compF Pg cfg Tryz.f60 = some (ir, rs, 3) := by kernel_rfl
theorem enter {args : List AVal} {h : Heap} {K : AEnd → Heap → Prop} (F : Nat) (hl : args.length ≤ 3) (a : AW ⟨Pg, F, 3, false, []⟩ ir (RetK rs K) (initT args) [] h) : ACalls Pg fn_again_Gang_1 args h K :=
  ACalls.of_comp follows Tryz.func60 comp hl a
theorem pure {args : List AVal} {v : AVal} (hl : args.length ≤ 3) (a : AW ⟨Pg, 0, 3, false, []⟩ ir (RetK rs fun e _ => e = .ret v) (initT args) [] nilH) : APure Pg fn_again_Gang_1 args v :=
  APure.of_nil (enter 0 hl a)
theorem recClo : RecClo Pg fn_again_Gang_1 fn_again_said := ⟨_, Tryz.func60, by kernel_rfl⟩
end again_Gang_1

namespace again_within
noncomputable def cfg : Cfg := { pure := pures, pcs := [], raw := [], cuts := [], draws := [], keep := [] }
@[simp] noncomputable def r0 (_ : Unit) : List Stp := [S 6 (.mv (.c (.bool false)))]
@[simp] noncomputable def r1 (_ : Unit) : List Stp := [S 7 (.mv (.t 1)), S 8 (.mv (.t 0)), S 9 (.bin .leq (.t 7) (.t 8)), S 10 (.mv (.t 9)), SG 11 10 true (.mv (.t 0)), SG 12 10 true (.mv (.t 2)), SG 13 10 true (.bin .leq (.t 11) (.t 12)), S 14 (.pick (.t 10) (.t 13) (.c (.bool false))), S 6 (.mv (.t 14))]
@[simp] noncomputable def ir : IR := (.seq (.ops r0) (.seq (.ops r1) .ret))
@[simp] noncomputable def rs : List RV := [.tmp 6]
theorem comp : compF Pg cfg Tryz.f61 = some (ir, rs, 15) := by kernel_rfl
theorem enter {args : List AVal} {h : Heap} {K : AEnd → Heap → Prop} (F : Nat) (hl : args.length ≤ 15) (a : AW ⟨Pg, F, 15, false, []⟩ ir (RetK rs K) (initT args) [] h) : ACalls Pg fn_again_within args h K :=
  ACalls.of_comp follows Tryz.func61 comp hl a
theorem pure {args : List AVal} {v : AVal} (hl : args.length ≤ 15) (a : AW ⟨Pg, 0, 15, false, []⟩ ir (RetK rs fun e _ => e = .ret v) (initT args) [] nilH) : APure Pg fn_again_within args v :=
  APure.of_nil (enter 0 hl a)
end again_within

namespace ref11_in
noncomputable def cfg : Cfg := { pure := pures, pcs := [], raw := [], cuts := [], draws := [], keep := [] }
@[simp] noncomputable def r0 (_ : Unit) : List Stp := [S 6 (.mv (.c (.bool false)))]
@[simp] noncomputable def r1 (_ : Unit) : List Stp := [S 7 (.mv (.t 1)), S 8 (.mv (.t 0)), S 9 (.bin .leq (.t 7) (.t 8)), S 10 (.mv (.t 9)), SG 11 10 true (.mv (.t 0)), SG 12 10 true (.mv (.t 2)), SG 13 10 true (.bin .leq (.t 11) (.t 12)), S 14 (.pick (.t 10) (.t 13) (.c (.bool false))), S 6 (.mv (.t 14))]
@[simp] noncomputable def ir : IR := (.seq (.ops r0) (.seq (.ops r1) .ret))
@[simp] noncomputable def rs : List RV := [.tmp 6]
theorem comp : compF Pg cfg Tryz.f62 = some (ir, rs, 15) := by kernel_rfl
theorem enter {args : List AVal} {h : Heap} {K : AEnd → Heap → Prop} (F : Nat) (hl : args.length ≤ 15) (a : AW ⟨Pg, F, 15, false, []⟩ ir (RetK rs K) (initT args) [] h) : ACalls Pg fn_ref11_in args h K :=
  ACalls.of_comp follows Tryz.func62 comp hl a
theorem pure {args : List AVal} {v : AVal} (hl : args.length ≤ 15) (a : AW ⟨Pg, 0, 15, false, []⟩ ir (RetK rs fun e _ => e = .ret v) (initT args) [] nilH) : APure Pg fn_ref11_in args v :=
  APure.of_nil (enter 0 hl a)
end ref11_in

namespace again_Blame_1
noncomputable def cfg : Cfg := { pure := pures, pcs := [], raw := [], cuts := [], draws := [], keep := [] }
@[simp] noncomputable def r0 (_ : Unit) : List Stp := [S 1 (.recov), S 2 (.call (.c (.func (.func fn_again_said) [] [])) [(.t 1), (.t 0)])]
@[simp] noncomputable def ir : IR := (.ops r0)
@[simp] noncomputable def rs : List RV := []
theorem comp : compF Pg cfg Tryz.f63 = some (ir, rs, 3) := by kernel_rfl
theorem enter {args : List AVal} {h : Heap} {K : AEnd → Heap → Prop} (F : Nat) (hl : args.length ≤ 3) (a : AW ⟨Pg, F, 3, false, []⟩ ir (RetK rs K) (initT args) [] h) : ACalls Pg fn_again_Blame_1 args h K :=
  ACalls.of_comp follows Tryz.func63 comp hl a
theorem pure {args : List AVal} {v : AVal} (hl : args.length ≤ 3) (a : AW ⟨Pg, 0, 3, false, []⟩ ir (RetK rs fun e _ => e = .ret v) (initT args) [] nilH) : APure Pg fn_again_Blame_1 args v :=
  APure.of_nil (enter 0 hl a)
theorem recClo : RecClo Pg fn_again_Blame_1 fn_again_said := ⟨_, Tryz.func63, by kernel_rfl⟩
end again_Blame_1

namespace again_setOf
noncomputable def cfg : Cfg := { pure := pures, pcs := [], raw := [], cuts := [], draws := [], keep := [] }
@[simp] noncomputable def r0 (_ : Unit) : List Stp := [S 2 (.mv (.c (.int .i64 0)))]
@[simp] noncomputable def r1 (_ : Unit) : List Stp := [S 5 (.mv (.t 0)), S 6 (.len (.t 5)), S 7 (.mv (.c (.int .i64 0)))]
@[simp] noncomputable def r2 (_ : Unit) : List Stp := [S 8 (.bin .lss (.t 7) (.t 6))]
@[simp] noncomputable def r3 (_ : Unit) : List Stp := [S 9 (.ixS 1 (.t 5) (.t 7)), S 10 (.load false 1 (.t 9)), S 4 (.mv (.t 10))]
@[simp] noncomputable def r4 (_ : Unit) : List Stp := [S 11 (.mv (.t 2)), S 12 (.mv (.t 4)), S 13 (.bin .shl (.c (.int .i64 1)) (.t 12)), S 14 (.bin .or (.t 11) (.t 13)), S 2 (.mv (.t 14))]
@[simp] noncomputable def r5 (_ : Unit) : List Stp := [S 15 (.bin .add (.t 7) (.c (.int .i64 1))), S 7 (.mv (.t 15))]
@[simp] noncomputable def r6 (_ : Unit) : List Stp := [S 16 (.mv (.t 2)), S 2 (.mv (.t 16))]
@[simp] noncomputable def ir : IR := (.seq (.ops r0) (.seq (.seq (.ops r1) (.block 0 (.loop (.seq (.ops r2) (.seq (.cond (.t 8) .skip (.exit 0)) (.seq (.block 1 (.seq (.ops r3) (.ops r4))) (.ops r5))))))) (.seq (.ops r6) .ret)))
@[simp] noncomputable def rs : List RV := [.tmp 2]
theorem comp : compF Pg cfg Tryz.f64 = some (ir, rs, 17) := by kernel_rfl
theorem enter {args : List AVal} {h : Heap} {K : AEnd → Heap → Prop} (F : Nat) (hl : args.length ≤ 17) (a : AW ⟨Pg, F, 17, false, []⟩ ir (RetK rs K) (initT args) [] h) : ACalls Pg fn_again_setOf args h K :=
  ACalls.of_comp follows Tryz.func64 comp hl a
theorem pure {args : List AVal} {v : AVal} (hl : args.length ≤ 17) (a : AW ⟨Pg, 0, 17, false, []⟩ ir (RetK rs fun e _ => e = .ret v) (initT args) [] nilH) : APure Pg fn_again_setOf args v :=
  APure.of_nil (enter 0 hl a)
end again_setOf

namespace again_Until_1
noncomputable def cfg : Cfg := { pure := pures, pcs := [], raw := [], cuts := [], draws := [], keep := [] }
@[simp] noncomputable def r0 (_ : Unit) : List Stp := [S 1 (.recov), S 2 (.call (.c (.func (.func fn_again_said) [] [])) [(.t 1), (.t 0)])]
@[simp] noncomputable def ir : IR := (.ops r0)
@[simp] noncomputable def rs : List RV := []
theorem comp : compF Pg cfg Tryz.f65 = some (ir, rs, 3) := by kernel_rfl
theorem enter {args : List AVal} {h : Heap} {K : AEnd → Heap → Prop} (F : Nat) (hl : args.length ≤ 3) (a : AW ⟨Pg, F, 3, false, []⟩ ir (RetK rs K) (initT args) [] h) : ACalls Pg fn_again_Until_1 args h K :=
  ACalls.of_comp follows Tryz.func65 comp hl a
theorem pure {args : List AVal} {v : AVal} (hl : args.length ≤ 3) (a : AW ⟨Pg, 0, 3, false, []⟩ ir (RetK rs fun e _ => e = .ret v) (initT args) [] nilH) : APure Pg fn_again_Until_1 args v :=
  APure.of_nil (enter 0 hl a)
theorem recClo : RecClo Pg fn_again_Until_1 fn_again_said := ⟨_, Tryz.func65, by kernel_rfl⟩
end again_Until_1

namespace again_want
noncomputable def cfg : Cfg := { pure := pures, pcs := [], raw := [], cuts := [], draws := [], keep := [] }
@[simp] noncomputable def r0 (_ : Unit) : List Stp := [S 4 (.mv (.t 0)), S 5 (.un .not (.t 4))]
@[simp] noncomputable def r1 (_ : Unit) : List Stp := [S 6 (.mv (.t 1)), S 7 (.build [(.int .i64 0)] [(0, 1, (.t 6))]), S 8 (.mkI 119 (.t 7)), SN (.panic (.t 8))]
@[simp] noncomputable def ir : IR := (.seq (.ops r0) (.cond (.t 5) (.ops r1) .skip))
@[simp] noncomputable def rs : List RV := []
theorem comp : compF Pg cfg Tryz.f66 = some (ir, rs, 9) := by kernel_rfl
theorem enter {args : List AVal} {h : Heap} {K : AEnd → Heap → Prop} (F : Nat) (hl : args.length ≤ 9) (a : AW ⟨Pg, F, 9, false, []⟩ ir (RetK rs K) (initT args) [] h) : ACalls Pg fn_again_want args h K :=
  ACalls.of_comp follows Tryz.func66 comp hl a
theorem pure {args : List AVal} {v : AVal} (hl : args.length ≤ 9) (a : AW ⟨Pg, 0, 9, false, []⟩ ir (RetK rs fun e _ => e = .ret v) (initT args) [] nilH) : APure Pg fn_again_want args v :=
  APure.of_nil (enter 0 hl a)
end again_want

namespace again_Ask_1
noncomputable def cfg : Cfg := { pure := pures, pcs := [], raw := [], cuts := [], draws := [], keep := [] }
@[simp] noncomputable def r0 (_ : Unit) : List Stp := [S 1 (.recov), S 2 (.call (.c (.func (.func fn_again_said) [] [])) [(.t 1), (.t 0)])]
@[simp] noncomputable def ir : IR := (.ops r0)
@[simp] noncomputable def rs : List RV := []
theorem comp : compF Pg cfg Tryz.f67 = some (ir, rs, 3) := by kernel_rfl
theorem enter {args : List AVal} {h : Heap} {K : AEnd → Heap → Prop} (F : Nat) (hl : args.length ≤ 3) (a : AW ⟨Pg, F, 3, false, []⟩ ir (RetK rs K) (initT args) [] h) : ACalls Pg fn_again_Ask_1 args h K :=
  ACalls.of_comp follows Tryz.func67 comp hl a
theorem pure {args : List AVal} {v : AVal} (hl : args.length ≤ 3) (a : AW ⟨Pg, 0, 3, false, []⟩ ir (RetK rs fun e _ => e = .ret v) (initT args) [] nilH) : APure Pg fn_again_Ask_1 args v :=
  APure.of_nil (enter 0 hl a)
theorem recClo : RecClo Pg fn_again_Ask_1 fn_again_said := ⟨_, Tryz.func67, by kernel_rfl⟩
end again_Ask_1

namespace again_places
noncomputable def cfg : Cfg := { pure := pures, pcs := [], raw := [], cuts := [], draws := [], keep := [] }
@[simp] noncomputable def r0 (_ : Unit) : List Stp := [S 0 (.mv (.c .nilf))]
@[simp] noncomputable def r1 (_ : Unit) : List Stp := [S 0 (.mv (.c (.func (.func fn_again_places_1) [] [])))]
@[simp] noncomputable def ir : IR := (.seq (.ops r0) (.seq (.ops r1) .ret))
@[simp] noncomputable def rs : List RV := [.tmp 0]
theorem comp : compF Pg cfg Tryz.f68 = some (ir, rs, 1) := by kernel_rfl
theorem enter {args : List AVal} {h : Heap} {K : AEnd → Heap → Prop} (F : Nat) (hl : args.length ≤ 1) (a : AW ⟨Pg, F, 1, false, []⟩ ir (RetK rs K) (initT args) [] h) : ACalls Pg fn_again_places args h K :=
  ACalls.of_comp follows Tryz.func68 comp hl a
theorem pure {args : List AVal} {v : AVal} (hl : args.length ≤ 1) (a : AW ⟨Pg, 0, 1, false, []⟩ ir (RetK rs fun e _ => e = .ret v) (initT args) [] nilH) : APure Pg fn_again_places args v :=
  APure.of_nil (enter 0 hl a)
end again_places

namespace leak_Wet
noncomputable def cfg : Cfg := { pure := pures, pcs := [], raw := [], cuts := [], draws := [(3, [⟨0, false, [], []⟩, ⟨1, false, [], []⟩, ⟨2, false, [], []⟩, ⟨3, false, [], []⟩, ⟨4, false, [], []⟩])], keep := [6, 7] }
@[simp] noncomputable def r0 (_ : Unit) : List Stp := [S 3 (.box (.t 0)), S 6 (.mv (.c (.int .i64 0))), S 7 (.alloc [(.int .i64 0)])]
@[simp] noncomputable def r1 (_ : Unit) : List Stp := [S 10 (.mkF (.func fn_leak_Wet_1) [] [(.t 7)]), SN (.defer (.t 10) [])]
@[simp] noncomputable def r2 (_ : Unit) : List Stp := [S 11 (.mv (.t 1)), S 12 (.mv (.t 2)), S 13 (.build [(.int .i64 0), (.int .i64 0)] [(0, 1, (.t 11)), (1, 1, (.t 12))]), S 8 (.alloc [(.int .i64 0), (.int .i64 0)]), SN (.store 2 (.t 8) (.t 13))]
@[simp] noncomputable def r3 (_ : Unit) : List Stp := [S 14 (.load true 2 (.t 3)), S 15 (.load true 2 (.t 8)), SP 16 (.call (.c (.func (.func fn_leak_place_isPlace) [] [])) [(.t 15)]), S 17 (.call (.c (.func (.func fn_leak_open) [] [])) [(.t 14), (.t 16)]), S 9 (.mv (.t 17))]
@[simp] noncomputable def r4 (_ : Unit) : List Stp := [S 18 (.mv (.t 9)), S 19 (.load true 2 (.t 8)), S 20 (.call (.c (.func (.func fn_leak_hull_wet) [] [])) [(.t 18), (.t 19)]), S 21 (.conv .i64 (.t 20)), S 6 (.mv (.t 21)), SN (.store 1 (.t 7) (.c (.int .i64 0)))]
@[simp] noncomputable def ir : IR := (.seq (.ops r0) (.seq (.ops r1) (.seq (.ops r2) (.seq (.ops r3) (.seq (.ops r4) .ret)))))
@[simp] noncomputable def rs : List RV := [.tmp 6, .cell 7 false 1]
theorem comp : compF Pg cfg Tryz.f69 = some (ir, rs, 22) := by kernel_rfl
theorem enter {args : List AVal} {h : Heap} {K : AEnd → Heap → Prop} (F : Nat) (hl : args.length ≤ 22) (a : AW ⟨Pg, F, 22, false, [6, 7]⟩ ir (RetD Pg rs K) (initT args) [] h) : ACalls Pg fn_leak_Wet args h K :=
  ACalls.of_comp_defer follows Tryz.func69 comp hl a
theorem pure {args : List AVal} {v : AVal} (hl : args.length ≤ 22) (a : AW ⟨Pg, 0, 22, false, [6, 7]⟩ ir (RetD Pg rs fun e _ => e = .ret v) (initT args) [] nilH) : APure Pg fn_leak_Wet args v :=
  APure.of_nil (enter 0 hl a)
end leak_Wet

end Go.Cw
end
