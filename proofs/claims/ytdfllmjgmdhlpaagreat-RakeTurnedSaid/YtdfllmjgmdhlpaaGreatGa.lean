/-
  The program's functions in the small form.
-/
import Derived.Test.YtdfllmjgmdhlpaaGreatAd
import Derived.Test.YtdfllmjgmdhlpaaGreatProg
set_option linter.unusedVariables false
set_option linter.unusedSimpArgs false
set_option linter.unusedSectionVars false

/- The functions' numbers. Printed by a program of this seat's proofs. -/
section
namespace Go.Cw
open Go Go.Proofs

@[reducible] noncomputable def Pg : Program := Tryz.prog
theorem follows : Pg.follows .mixedOrders = true := by kernel_rfl
def fn_main_main : FuncId := 0
def fn_gosem_cut : FuncId := 1
def fn_gosem_cut_init : FuncId := 2
def fn_law03_RakeTells : FuncId := 3
def fn_law03_RakeOrders : FuncId := 4
def fn_law03_RakeNames : FuncId := 5
def fn_law03_RakeFollow : FuncId := 6
def fn_law03_RakeBest : FuncId := 7
def fn_law03_RakeOrder : FuncId := 8
def fn_law03_RakeMore : FuncId := 9
def fn_law03_RakeTurned : FuncId := 10
def fn_law03_RakeEnough : FuncId := 11
def fn_law03_heavy : FuncId := 12
def fn_law03_alive : FuncId := 13
def fn_rake_Known : FuncId := 14
def fn_ref03_Known : FuncId := 15
def fn_rake_Next : FuncId := 16
def fn_ref03_Next : FuncId := 17
def fn_rake_Worst : FuncId := 18
def fn_ref03_Worst : FuncId := 19
def fn_rake_Any : FuncId := 20
def fn_ref03_Any : FuncId := 21
def fn_ref01_Ints : FuncId := 22
def fn_rake_Cost : FuncId := 23
def fn_ref03_Cost : FuncId := 24
def fn_rake_Order : FuncId := 25
def fn_ref03_Order : FuncId := 26
def fn_rake_Enough : FuncId := 27
def fn_ref03_Enough : FuncId := 28
def fn_law03_sample : FuncId := 29
def fn_law03_find : FuncId := 30
def fn_law03_ints : FuncId := 31
def fn_law03_long : FuncId := 32
def fn_ref03_Rake : FuncId := 33
def fn_leak_Sets : FuncId := 34
def fn_law03_finding : FuncId := 35
def fn_ref03_Length : FuncId := 36
def fn_law03_RakeBest_1 : FuncId := 37
def fn_ref03_IsOrder : FuncId := 38
def fn_law03_RakeOrder_1 : FuncId := 39
def fn_law03_made : FuncId := 40
def fn_law03_RakeMore_1 : FuncId := 41
def fn_leak_Leaks : FuncId := 42
def fn_law03_RakeEnough_1 : FuncId := 43
def fn_law03_RakeEnough_2 : FuncId := 44
def fn_rake_Known_1 : FuncId := 45
def fn_rake_said : FuncId := 46
def fn_rake_open : FuncId := 47
def fn_rake_hull_agreeing : FuncId := 48
def fn_ref03_told : FuncId := 49
def fn_rake_Next_1 : FuncId := 50
def fn_rake_want : FuncId := 51
def fn_rake_hull_plan : FuncId := 52
def fn_ref03_best : FuncId := 53
def fn_ref03_raked : FuncId := 54
def fn_rake_Worst_1 : FuncId := 55
def fn_rake_Any_1 : FuncId := 56
def fn_slices_Contains_int_int : FuncId := 57
def fn_rake_Cost_1 : FuncId := 58
def fn_rake_isOrder : FuncId := 59
def fn_rake_hull_cost : FuncId := 60
def fn_ref01_Set : FuncId := 61
def fn_ref03_cost : FuncId := 62
def fn_rake_Order_1 : FuncId := 63
def fn_rake_Order_2 : FuncId := 64
def fn_rake_greatest : FuncId := 65
def fn_rake_hull_orders : FuncId := 66
def fn_rake_best_rake_line_see : FuncId := 67
def fn_slices_Clone_int_int : FuncId := 68
def fn_ref03_orders : FuncId := 69
def fn_rake_Enough_1 : FuncId := 70
def fn_rake_lengths_sum : FuncId := 71
def fn_rake_Enough_2 : FuncId := 72
def fn_rake_hull_tells : FuncId := 73
def fn_rake_best_int_see : FuncId := 74
def fn_ref03_power : FuncId := 75
def fn_ref03_Tells : FuncId := 76
def fn_law03_span : FuncId := 77
def fn_ref01_Hull : FuncId := 78
def fn_ref03_in : FuncId := 79
def fn_leak_Sets_1 : FuncId := 80
def fn_leak_said : FuncId := 81
def fn_leak_open : FuncId := 82
def fn_leak_hull_sets : FuncId := 83
def fn_ref01_Has : FuncId := 84
def fn_leak_Leaks_1 : FuncId := 85
def fn_leak_hull_truths : FuncId := 86
def fn_leak_inflow_leaks : FuncId := 87
def fn_rake_check : FuncId := 88
def fn_rake_known_with : FuncId := 89
def fn_rake_known_agrees : FuncId := 90
def fn_ref03_check : FuncId := 91
def fn_ref01_Sets : FuncId := 92
def fn_ref03_Agrees : FuncId := 93
def fn_rake_hull_plan_1 : FuncId := 94
def fn_rake_lengths_of : FuncId := 95
def fn_rake_hull_plan_1_1 : FuncId := 96
def fn_ref03_with : FuncId := 97
def fn_slices_Index_int_int : FuncId := 98
def fn_slices_Sort_int_int : FuncId := 99
def fn_rake_all_done : FuncId := 100
def fn_ref01_in : FuncId := 101
def fn_ref01_power : FuncId := 102
def fn_slices_Max_int_int : FuncId := 103
def fn_rake_hull_orders_1 : FuncId := 104
def fn_rake_hull_orders_1_1 : FuncId := 105
def fn_ref01_At : FuncId := 106
def fn_leak_want : FuncId := 107
def fn_leak_within : FuncId := 108
def fn_leak_place_isPlace : FuncId := 109
def fn_slices_Collect_leak_inflow : FuncId := 110
def fn_leak_hull_inflows : FuncId := 111
def fn_leak_hull_every : FuncId := 112
def fn_leak_Rate : FuncId := 113
def fn_rake_check_1 : FuncId := 114
def fn_rake_within : FuncId := 115
def fn_slices_ContainsFunc_int_int : FuncId := 116
def fn_ref01_Seam : FuncId := 117
def fn_ref01_told : FuncId := 118
def fn_ref01_LeaksOf : FuncId := 119
def fn_slices_pdqsortOrdered_int : FuncId := 120
def fn_math_bits_Len : FuncId := 121
def fn_slices_AppendSeq_leak_inflow_leak_inflow : FuncId := 122
def fn_leak_hull_conditions : FuncId := 123
def fn_leak_hull_inflows_1 : FuncId := 124
def fn_leak_hull_inflows_1_1 : FuncId := 125
def fn_leak_Rate_1 : FuncId := 126
def fn_leak_hull_total : FuncId := 127
def fn_slices_IndexFunc_int_int : FuncId := 128
def fn_ref01_Truths : FuncId := 129
def fn_slices_insertionSortOrdered_int : FuncId := 130
def fn_slices_heapSortOrdered_int : FuncId := 131
def fn_slices_breakPatternsOrdered_int : FuncId := 132
def fn_slices_choosePivotOrdered_int : FuncId := 133
def fn_slices_reverseRangeOrdered_int : FuncId := 134
def fn_slices_partialInsertionSortOrdered_int : FuncId := 135
def fn_cmp_Less_int : FuncId := 136
def fn_slices_partitionEqualOrdered_int : FuncId := 137
def fn_slices_partitionOrdered_int : FuncId := 138
def fn_math_bits_Len32 : FuncId := 139
def fn_math_bits_Len64 : FuncId := 140
def fn_leak_hull_wet : FuncId := 141
def fn_leak_inflow_sum : FuncId := 142
def fn_leak_sums : FuncId := 143
def fn_leak_hull_total_1 : FuncId := 144
def fn_ref01_truths : FuncId := 145
def fn_ref01_every : FuncId := 146
def fn_slices_siftDownOrdered_int : FuncId := 147
def fn_slices_nextPowerOfTwo : FuncId := 148
def fn_slices_xorshift_Next : FuncId := 149
def fn_slices_medianAdjacentOrdered_int : FuncId := 150
def fn_slices_medianOrdered_int : FuncId := 151
def fn_cmp_isNaN_int : FuncId := 152
def fn_leak_set_has : FuncId := 153
def fn_leak_flows : FuncId := 154
def fn_ref01_right : FuncId := 155
def fn_slices_order2Ordered_int : FuncId := 156
def fn_ref01_Sum : FuncId := 157
def fn_ref01_wet : FuncId := 158
def fn_runtime_boundsError_Error : FuncId := 159
def fn_runtime_boundsError_RuntimeError : FuncId := 160
def fn_runtime_errorString_Error : FuncId := 161
def fn_runtime_errorString_RuntimeError : FuncId := 162
def fn_runtime_plainError_Error : FuncId := 163
def fn_runtime_plainError_RuntimeError : FuncId := 164
def fn_runtime_errorAddressString_Error : FuncId := 165
def fn_runtime_errorAddressString_RuntimeError : FuncId := 166
def fn_runtime_TypeAssertionError_Error : FuncId := 167
def fn_runtime_TypeAssertionError_RuntimeError : FuncId := 168
def fn_runtime_PanicNilError_Error : FuncId := 169
def fn_runtime_PanicNilError_RuntimeError : FuncId := 170
def fn_abi_Type_Align : FuncId := 171
def fn_runtime_maps_unhashableTypeError_Error : FuncId := 172
def fn_runtime_maps_unhashableTypeError_RuntimeError : FuncId := 173
def fn_rake_some_done : FuncId := 174
def fn_leak_hull_can : FuncId := 175
def fn_leak_none_can : FuncId := 176
def fn_leak_wet_ends : FuncId := 177
def fn_leak_sounding_can : FuncId := 178
def fn_abi_Kind_String : FuncId := 179
def pures : List Nat := [12, 13, 14, 15, 16, 17, 18, 19, 20, 21, 22, 23, 24, 25, 26, 27, 28, 29, 30, 31, 32, 33, 34, 35, 36, 38, 40, 42, 49, 53, 54, 59, 60, 61, 62, 71, 73, 75, 76, 77, 78, 79, 84, 87, 89, 90, 91, 92, 93, 95, 97, 100, 101, 102, 106, 108, 109, 113, 115, 117, 118, 119, 129, 142, 146, 153, 155, 157, 158, 174]

end Go.Cw
end

/- Functions in the small form. Printed by a program of this seat's proofs. -/
section
namespace Go.Cw
open Go Go.Proofs








namespace law03_RakeTurned
noncomputable def cfg : Cfg := { pure := [12, 13, 15, 16, 17, 18, 19, 20, 21, 22, 23, 24, 26, 27, 28, 29, 30, 31, 32, 33, 34, 35, 36, 38, 40, 42, 49, 53, 54, 59, 60, 61, 62, 71, 73, 75, 76, 77, 78, 79, 84, 87, 89, 90, 91, 92, 93, 95, 97, 100, 101, 102, 106, 108, 109, 113, 115, 117, 118, 119, 129, 142, 146, 153, 155, 157, 158, 174], pcs := [], raw := [], cuts := [], draws := [(22, [⟨1, false, [], []⟩, ⟨4, false, [], []⟩, ⟨5, false, [], []⟩, ⟨0, true, [], []⟩, ⟨3, true, [], []⟩, ⟨2, false, [], [5]⟩, ⟨6, false, [], []⟩, ⟨7, false, [], []⟩, ⟨8, false, [], []⟩]), (64, [⟨0, false, [], []⟩, ⟨1, false, [], []⟩, ⟨2, false, [], []⟩, ⟨4, false, [], []⟩, ⟨5, false, [], []⟩, ⟨6, false, [], []⟩, ⟨3, false, [], []⟩, ⟨7, false, [], []⟩, ⟨8, false, [], []⟩])], keep := [] }
@[simp] noncomputable def r0 (_ : Unit) : List Stp := [S 4 (.box (.t 0)), S 8 (.mv (.c (.bool false)))]
@[simp] noncomputable def r1 (_ : Unit) : List Stp := [S 46 (.load true 3 (.t 4)), SP 47 (.call (.c (.func (.func fn_law03_long) [] [])) [(.t 46), (.c .nils), (.c .nils)]), S 48 (.mv (.t 47)), SG 49 48 false (.load true 3 (.t 4)), SGP 50 48 false (.call (.c (.func (.func fn_ref03_Rake) [] [])) [(.t 49)]), SG 51 48 false (.un .not (.t 50)), S 52 (.pick (.t 48) (.c (.bool true)) (.t 51))]
@[simp] noncomputable def r2 (_ : Unit) : List Stp := [SP 53 (.call (.c (.func (.func fn_law03_alive) [] [])) []), S 8 (.mv (.t 53))]
@[simp] noncomputable def r3 (_ : Unit) : List Stp := [S 55 (.load true 3 (.t 4)), S 56 (.call (.c (.func (.func fn_rake_Known) [] [])) [(.t 55), (.c .nils)]), S 54 (.mv (.t 56)), S 57 (.ext (.t 54) 0), S 58 (.ext (.t 54) 1), S 9 (.mv (.t 57)), S 10 (.mv (.t 58))]
@[simp] noncomputable def r4 (_ : Unit) : List Stp := [S 59 (.mv (.t 10)), S 60 (.bin .neq (.t 59) (.c (.int .i64 0)))]
@[simp] noncomputable def r5 (_ : Unit) : List Stp := [S 61 (.mv (.t 10)), S 62 (.bin .eql (.t 61) (.c (.int .i64 10))), S 63 (.mv (.t 62)), SGP 64 63 true (.call (.c (.func (.func fn_law03_alive) [] [])) []), S 65 (.pick (.t 63) (.t 64) (.c (.bool false))), S 8 (.mv (.t 65))]
@[simp] noncomputable def r6 (_ : Unit) : List Stp := [S 66 (.mv (.t 9)), S 67 (.len (.t 66)), S 68 (.bin .eql (.t 67) (.c (.int .i64 0)))]
@[simp] noncomputable def r7 (_ : Unit) : List Stp := [S 8 (.mv (.c (.bool false)))]
@[simp] noncomputable def r8 (_ : Unit) : List Stp := [S 69 (.mv (.t 9)), S 70 (.mv (.t 1)), S 71 (.conv .i64 (.t 70)), S 72 (.mv (.t 9)), S 73 (.len (.t 72)), S 74 (.bin .rem (.t 71) (.t 73)), S 75 (.ixS 1 (.t 69) (.t 74)), S 76 (.load false 1 (.t 75)), S 11 (.mv (.t 76))]
@[simp] noncomputable def r9 (_ : Unit) : List Stp := [S 12 (.mv (.c .nils)), S 13 (.mv (.c .nils))]
@[simp] noncomputable def r10 (_ : Unit) : List Stp := [S 77 (.fAddr 2 (.t 4)), S 78 (.load false 1 (.t 77)), S 79 (.len (.t 78)), S 80 (.mv (.c (.int .i64 0)))]
@[simp] noncomputable def r11 (_ : Unit) : List Stp := [S 81 (.bin .lss (.t 80) (.t 79))]
@[simp] noncomputable def r12 (_ : Unit) : List Stp := [S 82 (.mv (.t 80)), S 14 (.mv (.t 82))]
@[simp] noncomputable def r13 (_ : Unit) : List Stp := [S 83 (.mv (.t 2)), S 84 (.mv (.t 14)), S 85 (.bin .shr (.t 83) (.t 84)), S 86 (.bin .and (.t 85) (.c (.int .u8 1))), S 87 (.bin .eql (.t 86) (.c (.int .u8 1)))]
@[simp] noncomputable def r14 (_ : Unit) : List Stp := [S 88 (.mv (.t 12)), S 89 (.mv (.t 14)), S 90 (.mv (.t 11)), SP 91 (.call (.c (.func (.func fn_law03_finding) [] [])) [(.t 89), (.t 90)]), S 92 (.bsl 1 [(.int .i64 0), (.bool false)] [(0, 2, (.t 91))]), S 93 (.app 2 16 (.t 88) (.t 92)), S 94 (.mv (.t 13)), S 95 (.mv (.t 14)), S 96 (.mv (.t 3)), S 97 (.conv .i64 (.t 96)), SP 98 (.call (.c (.func (.func fn_law03_finding) [] [])) [(.t 95), (.t 97)]), S 99 (.bsl 1 [(.int .i64 0), (.bool false)] [(0, 2, (.t 98))]), S 100 (.app 2 16 (.t 94) (.t 99)), S 12 (.mv (.t 93)), S 13 (.mv (.t 100))]
@[simp] noncomputable def r15 (_ : Unit) : List Stp := [S 101 (.bin .add (.t 80) (.c (.int .i64 1))), S 80 (.mv (.t 101))]
@[simp] noncomputable def r16 (_ : Unit) : List Stp := [S 15 (.mv (.c .nils))]
@[simp] noncomputable def r17 (_ : Unit) : List Stp := [S 102 (.mv (.t 12)), S 103 (.len (.t 102)), S 104 (.mv (.c (.int .i64 0)))]
@[simp] noncomputable def r18 (_ : Unit) : List Stp := [S 105 (.bin .lss (.t 104) (.t 103))]
@[simp] noncomputable def r19 (_ : Unit) : List Stp := [S 106 (.mv (.t 104)), S 16 (.mv (.t 106))]
@[simp] noncomputable def r20 (_ : Unit) : List Stp := [S 107 (.mv (.t 15)), S 108 (.mv (.t 12)), S 109 (.mv (.t 12)), S 110 (.len (.t 109)), S 111 (.bin .sub (.t 110) (.c (.int .i64 1))), S 112 (.mv (.t 16)), S 113 (.bin .sub (.t 111) (.t 112)), S 114 (.ixS 2 (.t 108) (.t 113)), S 115 (.load true 2 (.t 114)), S 116 (.bsl 1 [(.int .i64 0), (.bool false)] [(0, 2, (.t 115))]), S 117 (.app 2 16 (.t 107) (.t 116)), S 15 (.mv (.t 117))]
@[simp] noncomputable def r21 (_ : Unit) : List Stp := [S 118 (.bin .add (.t 104) (.c (.int .i64 1))), S 104 (.mv (.t 118))]
@[simp] noncomputable def r22 (_ : Unit) : List Stp := [S 120 (.mv (.t 12)), S 123 (.fAddr 2 (.t 4)), S 124 (.load false 1 (.t 123)), SD (some 119) (.bsl 0 [] []) true [] [], SD (some 122) (.bsl 0 [] []) true [] [], SD (some 121) (.app 2 16 (.t 119) (.t 120)) false [] [I 124 (.load false 1 (.t 123))], S 125 (.app 1 8 (.t 122) (.t 124)), S 17 (.mv (.t 121)), S 18 (.mv (.t 125))]
@[simp] noncomputable def r23 (_ : Unit) : List Stp := [S 127 (.load true 3 (.t 4)), S 128 (.mv (.t 12)), S 129 (.call (.c (.func (.func fn_rake_Known) [] [])) [(.t 127), (.t 128)]), S 126 (.mv (.t 129)), S 130 (.ext (.t 126) 0), S 131 (.ext (.t 126) 1), S 19 (.mv (.t 130)), S 20 (.mv (.t 131))]
@[simp] noncomputable def r24 (_ : Unit) : List Stp := [S 133 (.load true 3 (.t 4)), S 134 (.mv (.t 15)), S 135 (.call (.c (.func (.func fn_rake_Known) [] [])) [(.t 133), (.t 134)]), S 132 (.mv (.t 135)), S 136 (.ext (.t 132) 0), S 137 (.ext (.t 132) 1), S 21 (.mv (.t 136)), S 22 (.mv (.t 137))]
@[simp] noncomputable def r25 (_ : Unit) : List Stp := [S 139 (.load true 3 (.t 4)), S 140 (.mv (.t 12)), SP 141 (.call (.c (.func (.func fn_rake_Next) [] [])) [(.t 139), (.t 140)]), S 138 (.mv (.t 141)), S 142 (.ext (.t 138) 0), S 143 (.ext (.t 138) 1), S 144 (.ext (.t 138) 2), S 23 (.mv (.t 142)), S 24 (.mv (.t 143)), S 25 (.mv (.t 144))]
@[simp] noncomputable def r26 (_ : Unit) : List Stp := [S 146 (.load true 3 (.t 4)), S 147 (.mv (.t 15)), SP 148 (.call (.c (.func (.func fn_rake_Next) [] [])) [(.t 146), (.t 147)]), S 145 (.mv (.t 148)), S 149 (.ext (.t 145) 0), S 150 (.ext (.t 145) 1), S 151 (.ext (.t 145) 2), S 26 (.mv (.t 149)), S 27 (.mv (.t 150)), S 28 (.mv (.t 151))]
@[simp] noncomputable def r27 (_ : Unit) : List Stp := [S 153 (.load true 3 (.t 4)), S 154 (.mv (.t 13)), S 155 (.call (.c (.func (.func fn_rake_Known) [] [])) [(.t 153), (.t 154)]), S 152 (.mv (.t 155)), S 156 (.ext (.t 152) 0), S 157 (.ext (.t 152) 1), S 29 (.mv (.t 156)), S 30 (.mv (.t 157))]
@[simp] noncomputable def r28 (_ : Unit) : List Stp := [S 158 (.mv (.t 20)), S 159 (.bin .neq (.t 158) (.c (.int .i64 0))), S 160 (.mv (.t 159)), SG 161 160 false (.mv (.t 22)), SG 162 160 false (.mv (.t 20)), SG 163 160 false (.bin .neq (.t 161) (.t 162)), S 164 (.pick (.t 160) (.c (.bool true)) (.t 163)), S 165 (.mv (.t 164)), SG 166 165 false (.mv (.t 19)), SG 167 165 false (.mv (.t 21)), SGP 168 165 false (.call (.c (.func (.func fn_law03_ints) [] [])) [(.t 166), (.t 167)]), SG 169 165 false (.un .not (.t 168)), S 170 (.pick (.t 165) (.c (.bool true)) (.t 169)), S 171 (.mv (.t 170)), SG 172 171 false (.mv (.t 23)), SG 173 171 false (.mv (.t 26)), SG 174 171 false (.bin .neq (.t 172) (.t 173)), S 175 (.pick (.t 171) (.c (.bool true)) (.t 174)), S 176 (.mv (.t 175)), SG 177 176 false (.mv (.t 24)), SG 178 176 false (.mv (.t 27)), SG 179 176 false (.bin .neq (.t 177) (.t 178)), S 180 (.pick (.t 176) (.c (.bool true)) (.t 179)), S 181 (.mv (.t 180)), SG 182 181 false (.mv (.t 25)), SG 183 181 false (.mv (.t 28)), SG 184 181 false (.bin .neq (.t 182) (.t 183)), S 185 (.pick (.t 181) (.c (.bool true)) (.t 184)), S 186 (.mv (.t 185)), SG 187 186 false (.mv (.t 19)), SG 188 186 false (.len (.t 187)), SG 189 186 false (.mv (.t 9)), SG 190 186 false (.len (.t 189)), SG 191 186 false (.bin .gtr (.t 188) (.t 190)), S 192 (.pick (.t 186) (.c (.bool true)) (.t 191))]
@[simp] noncomputable def r29 (_ : Unit) : List Stp := [S 8 (.mv (.c (.bool false)))]
@[simp] noncomputable def r30 (_ : Unit) : List Stp := [S 31 (.mv (.c (.bool false))), S 32 (.mv (.c (.int .i64 0)))]
@[simp] noncomputable def r31 (_ : Unit) : List Stp := [S 193 (.mv (.t 19)), S 194 (.len (.t 193)), S 195 (.mv (.c (.int .i64 0)))]
@[simp] noncomputable def r32 (_ : Unit) : List Stp := [S 196 (.bin .lss (.t 195) (.t 194))]
@[simp] noncomputable def r33 (_ : Unit) : List Stp := [S 197 (.ixS 1 (.t 193) (.t 195)), S 198 (.load false 1 (.t 197)), S 34 (.mv (.t 198))]
@[simp] noncomputable def r34 (_ : Unit) : List Stp := [S 199 (.mv (.t 31)), S 200 (.mv (.t 199)), SG 201 200 false (.mv (.t 34)), SG 202 200 false (.mv (.t 11)), SG 203 200 false (.bin .eql (.t 201) (.t 202)), S 204 (.pick (.t 200) (.c (.bool true)) (.t 203)), S 31 (.mv (.t 204))]
@[simp] noncomputable def r35 (_ : Unit) : List Stp := [S 205 (.bin .add (.t 195) (.c (.int .i64 1))), S 195 (.mv (.t 205))]
@[simp] noncomputable def r36 (_ : Unit) : List Stp := [S 206 (.mv (.t 9)), S 207 (.len (.t 206)), S 208 (.mv (.c (.int .i64 0)))]
@[simp] noncomputable def r37 (_ : Unit) : List Stp := [S 209 (.bin .lss (.t 208) (.t 207))]
@[simp] noncomputable def r38 (_ : Unit) : List Stp := [S 210 (.ixS 1 (.t 206) (.t 208)), S 211 (.load false 1 (.t 210)), S 36 (.mv (.t 211))]
@[simp] noncomputable def r39 (_ : Unit) : List Stp := [S 212 (.mv (.t 36)), S 213 (.mv (.t 3)), S 214 (.conv .i64 (.t 213)), S 215 (.bin .xor (.t 212) (.t 214)), S 216 (.mv (.t 2)), S 217 (.conv .i64 (.t 216)), S 218 (.bin .and (.t 215) (.t 217)), S 219 (.fAddr 2 (.t 4)), S 220 (.load false 1 (.t 219)), S 221 (.len (.t 220)), S 222 (.bin .shl (.c (.int .i64 1)) (.t 221)), S 223 (.bin .sub (.t 222) (.c (.int .i64 1))), S 224 (.bin .and (.t 218) (.t 223)), S 225 (.bin .eql (.t 224) (.c (.int .i64 0)))]
@[simp] noncomputable def r40 (_ : Unit) : List Stp := [S 226 (.mv (.t 32)), S 227 (.bin .add (.t 226) (.c (.int .i64 1))), S 32 (.mv (.t 227))]
@[simp] noncomputable def r41 (_ : Unit) : List Stp := [S 228 (.bin .add (.t 208) (.c (.int .i64 1))), S 208 (.mv (.t 228))]
@[simp] noncomputable def r42 (_ : Unit) : List Stp := [S 229 (.mv (.t 31)), S 230 (.un .not (.t 229)), S 231 (.mv (.t 230)), SG 232 231 false (.mv (.t 29)), SG 233 231 false (.len (.t 232)), SG 234 231 false (.mv (.t 32)), SG 235 231 false (.bin .neq (.t 233) (.t 234)), S 236 (.pick (.t 231) (.c (.bool true)) (.t 235)), S 237 (.mv (.t 236)), SG 238 237 false (.mv (.t 30)), SG 239 237 false (.bin .eql (.t 238) (.c (.int .i64 10))), SG 240 237 false (.mv (.t 32)), SG 241 237 false (.bin .eql (.t 240) (.c (.int .i64 0))), SG 242 237 false (.eqB true (.t 239) (.t 241)), S 243 (.pick (.t 237) (.c (.bool true)) (.t 242)), S 244 (.mv (.t 243)), SG 245 244 false (.mv (.t 30)), SG 246 244 false (.bin .neq (.t 245) (.c (.int .i64 0))), SG 247 244 false (.mv (.t 246)), SG 248 247 true (.mv (.t 30)), SG 249 247 true (.bin .neq (.t 248) (.c (.int .i64 10))), SG 250 244 false (.pick (.t 247) (.t 249) (.c (.bool false))), S 251 (.pick (.t 244) (.c (.bool true)) (.t 250))]
@[simp] noncomputable def r43 (_ : Unit) : List Stp := [S 8 (.mv (.c (.bool false)))]
@[simp] noncomputable def r44 (_ : Unit) : List Stp := [S 253 (.load true 3 (.t 4)), S 254 (.call (.c (.func (.func fn_rake_Order) [] [])) [(.t 253)]), S 252 (.mv (.t 254)), S 255 (.ext (.t 252) 0), S 256 (.ext (.t 252) 1), S 257 (.ext (.t 252) 2), S 37 (.mv (.t 255)), S 38 (.mv (.t 256)), S 39 (.mv (.t 257))]
@[simp] noncomputable def r45 (_ : Unit) : List Stp := [S 258 (.mv (.t 39)), S 259 (.bin .neq (.t 258) (.c (.int .i64 0)))]
@[simp] noncomputable def r46 (_ : Unit) : List Stp := [S 8 (.mv (.c (.bool false)))]
@[simp] noncomputable def r47 (_ : Unit) : List Stp := [S 260 (.bsl 0 [] []), S 261 (.mv (.t 37)), S 262 (.app 1 8 (.t 260) (.t 261)), S 40 (.mv (.t 262))]
@[simp] noncomputable def r48 (_ : Unit) : List Stp := [S 263 (.mv (.t 37)), S 264 (.len (.t 263)), S 265 (.mv (.c (.int .i64 0)))]
@[simp] noncomputable def r49 (_ : Unit) : List Stp := [S 266 (.bin .lss (.t 265) (.t 264))]
@[simp] noncomputable def r50 (_ : Unit) : List Stp := [S 267 (.mv (.t 265)), S 41 (.mv (.t 267))]
@[simp] noncomputable def r51 (_ : Unit) : List Stp := [S 268 (.mv (.t 37)), S 269 (.mv (.t 41)), S 270 (.ixS 1 (.t 268) (.t 269)), SN (.store 1 (.t 270) (.c (.int .i64 (-9))))]
@[simp] noncomputable def r52 (_ : Unit) : List Stp := [S 271 (.bin .add (.t 265) (.c (.int .i64 1))), S 265 (.mv (.t 271))]
@[simp] noncomputable def r53 (_ : Unit) : List Stp := [S 272 (.mv (.t 9)), S 273 (.len (.t 272)), S 274 (.mv (.c (.int .i64 0)))]
@[simp] noncomputable def r54 (_ : Unit) : List Stp := [S 275 (.bin .lss (.t 274) (.t 273))]
@[simp] noncomputable def r55 (_ : Unit) : List Stp := [S 276 (.mv (.t 274)), S 42 (.mv (.t 276))]
@[simp] noncomputable def r56 (_ : Unit) : List Stp := [S 277 (.mv (.t 9)), S 278 (.mv (.t 42)), S 279 (.ixS 1 (.t 277) (.t 278)), SN (.store 1 (.t 279) (.c (.int .i64 (-9))))]
@[simp] noncomputable def r57 (_ : Unit) : List Stp := [S 280 (.bin .add (.t 274) (.c (.int .i64 1))), S 274 (.mv (.t 280))]
@[simp] noncomputable def r58 (_ : Unit) : List Stp := [S 282 (.load true 3 (.t 4)), S 283 (.call (.c (.func (.func fn_rake_Order) [] [])) [(.t 282)]), S 281 (.mv (.t 283)), S 284 (.ext (.t 281) 0), S 285 (.ext (.t 281) 1), S 286 (.ext (.t 281) 2), S 43 (.mv (.t 284)), S 44 (.mv (.t 285)), S 39 (.mv (.t 286))]
@[simp] noncomputable def r59 (_ : Unit) : List Stp := [S 287 (.mv (.t 39)), S 288 (.bin .neq (.t 287) (.c (.int .i64 0))), S 289 (.mv (.t 288)), SG 290 289 false (.mv (.t 43)), SG 291 289 false (.mv (.t 40)), SGP 292 289 false (.call (.c (.func (.func fn_law03_ints) [] [])) [(.t 290), (.t 291)]), SG 293 289 false (.un .not (.t 292)), S 294 (.pick (.t 289) (.c (.bool true)) (.t 293)), S 295 (.mv (.t 294)), SG 296 295 false (.mv (.t 18)), SG 297 295 false (.fAddr 2 (.t 4)), SG 298 295 false (.load false 1 (.t 297)), SGP 299 295 false (.call (.c (.func (.func fn_law03_ints) [] [])) [(.t 296), (.t 298)]), SG 300 295 false (.un .not (.t 299)), S 301 (.pick (.t 295) (.c (.bool true)) (.t 300))]
@[simp] noncomputable def r60 (_ : Unit) : List Stp := [S 8 (.mv (.c (.bool false)))]
@[simp] noncomputable def r61 (_ : Unit) : List Stp := [S 302 (.mv (.t 17)), S 303 (.len (.t 302)), S 304 (.mv (.c (.int .i64 0)))]
@[simp] noncomputable def r62 (_ : Unit) : List Stp := [S 305 (.bin .lss (.t 304) (.t 303))]
@[simp] noncomputable def r63 (_ : Unit) : List Stp := [S 306 (.mv (.t 304)), S 45 (.mv (.t 306))]
@[simp] noncomputable def r64 (_ : Unit) : List Stp := [S 307 (.mv (.t 17)), S 308 (.mv (.t 45)), S 309 (.ixS 2 (.t 307) (.t 308)), S 311 (.mv (.t 12)), S 312 (.mv (.t 45)), S 313 (.ixS 2 (.t 311) (.t 312)), S 310 (.load true 2 (.t 309)), S 314 (.load true 2 (.t 313)), S 315 (.eqA true [.i, .b] (.t 310) (.t 314))]
@[simp] noncomputable def r65 (_ : Unit) : List Stp := [S 8 (.mv (.c (.bool false)))]
@[simp] noncomputable def r66 (_ : Unit) : List Stp := [S 316 (.bin .add (.t 304) (.c (.int .i64 1))), S 304 (.mv (.t 316))]
@[simp] noncomputable def r67 (_ : Unit) : List Stp := [SP 317 (.call (.c (.func (.func fn_law03_alive) [] [])) []), S 8 (.mv (.t 317))]
@[simp] noncomputable def ir : IR := (.seq (.ops r0) (.seq (.seq (.ops r1) (.cond (.t 52) (.seq (.ops r2) .ret) .skip)) (.seq (.ops r3) (.seq (.seq (.ops r4) (.cond (.t 60) (.seq (.ops r5) .ret) .skip)) (.seq (.seq (.ops r6) (.cond (.t 68) (.seq (.ops r7) .ret) .skip)) (.seq (.ops r8) (.seq (.ops r9) (.seq (.seq (.ops r10) (.block 0 (.loop (.seq (.ops r11) (.seq (.cond (.t 81) .skip (.exit 0)) (.seq (.block 1 (.seq (.ops r12) (.seq (.ops r13) (.cond (.t 87) (.ops r14) .skip)))) (.ops r15))))))) (.seq (.ops r16) (.seq (.seq (.ops r17) (.block 2 (.loop (.seq (.ops r18) (.seq (.cond (.t 105) .skip (.exit 2)) (.seq (.block 3 (.seq (.ops r19) (.ops r20))) (.ops r21))))))) (.seq (.ops r22) (.seq (.ops r23) (.seq (.ops r24) (.seq (.ops r25) (.seq (.ops r26) (.seq (.ops r27) (.seq (.seq (.ops r28) (.cond (.t 192) (.seq (.ops r29) .ret) .skip)) (.seq (.ops r30) (.seq (.seq (.ops r31) (.block 4 (.loop (.seq (.ops r32) (.seq (.cond (.t 196) .skip (.exit 4)) (.seq (.block 5 (.seq (.ops r33) (.ops r34))) (.ops r35))))))) (.seq (.seq (.ops r36) (.block 6 (.loop (.seq (.ops r37) (.seq (.cond (.t 209) .skip (.exit 6)) (.seq (.block 7 (.seq (.ops r38) (.seq (.ops r39) (.cond (.t 225) (.ops r40) .skip)))) (.ops r41))))))) (.seq (.seq (.ops r42) (.cond (.t 251) (.seq (.ops r43) .ret) .skip)) (.seq (.ops r44) (.seq (.seq (.ops r45) (.cond (.t 259) (.seq (.ops r46) .ret) .skip)) (.seq (.ops r47) (.seq (.seq (.ops r48) (.block 8 (.loop (.seq (.ops r49) (.seq (.cond (.t 266) .skip (.exit 8)) (.seq (.block 9 (.seq (.ops r50) (.ops r51))) (.ops r52))))))) (.seq (.seq (.ops r53) (.block 10 (.loop (.seq (.ops r54) (.seq (.cond (.t 275) .skip (.exit 10)) (.seq (.block 11 (.seq (.ops r55) (.ops r56))) (.ops r57))))))) (.seq (.ops r58) (.seq (.seq (.ops r59) (.cond (.t 301) (.seq (.ops r60) .ret) .skip)) (.seq (.seq (.ops r61) (.block 12 (.loop (.seq (.ops r62) (.seq (.cond (.t 305) .skip (.exit 12)) (.seq (.block 13 (.seq (.ops r63) (.seq (.ops r64) (.cond (.t 315) (.seq (.ops r65) .ret) .skip)))) (.ops r66))))))) (.seq (.ops r67) .ret))))))))))))))))))))))))))))))
@[simp] noncomputable def rs : List RV := [.tmp 8]
theorem comp : compF Pg cfg Tryz.f10 = some (ir, rs, 318) := by kernel_rfl
theorem enter {args : List AVal} {h : Heap} {K : AEnd → Heap → Prop} (F : Nat) (hl : args.length ≤ 318) (a : AW ⟨Pg, F, 318, false, []⟩ ir (RetK rs K) (initT args) [] h) : ACalls Pg fn_law03_RakeTurned args h K :=
  ACalls.of_comp follows Tryz.func10 comp hl a
theorem pure {args : List AVal} {v : AVal} (hl : args.length ≤ 318) (a : AW ⟨Pg, 0, 318, false, []⟩ ir (RetK rs fun e _ => e = .ret v) (initT args) [] nilH) : APure Pg fn_law03_RakeTurned args v :=
  APure.of_nil (enter 0 hl a)
end law03_RakeTurned



namespace law03_alive
noncomputable def cfg : Cfg := { pure := [12, 13, 15, 16, 17, 18, 19, 20, 21, 22, 24, 25, 26, 27, 28, 29, 30, 32, 33, 34, 35, 36, 38, 40, 42, 49, 53, 54, 59, 60, 61, 62, 71, 73, 75, 76, 77, 78, 79, 84, 87, 89, 90, 91, 92, 93, 95, 97, 100, 101, 102, 106, 108, 109, 113, 115, 117, 118, 119, 129, 142, 146, 153, 155, 157, 158, 174], pcs := [], raw := [], cuts := [], draws := [], keep := [] }
@[simp] noncomputable def r0 (_ : Unit) : List Stp := [S 0 (.mv (.c (.bool false)))]
@[simp] noncomputable def r1 (_ : Unit) : List Stp := [SP 20 (.call (.c (.func (.func fn_law03_sample) [] [])) []), SP 21 (.call (.c (.func (.func fn_law03_find) [] [])) [(.c (.int .i64 1)), (.c (.bool true))]), S 22 (.bsl 1 [(.int .i64 0), (.bool false)] [(0, 2, (.t 21))]), S 23 (.call (.c (.func (.func fn_rake_Known) [] [])) [(.t 20), (.t 22)]), S 19 (.mv (.t 23)), S 24 (.ext (.t 19) 0), S 25 (.ext (.t 19) 1), S 1 (.mv (.t 24)), S 2 (.mv (.t 25))]
@[simp] noncomputable def r2 (_ : Unit) : List Stp := [SP 27 (.call (.c (.func (.func fn_law03_sample) [] [])) []), SP 28 (.call (.c (.func (.func fn_rake_Next) [] [])) [(.t 27), (.c .nils)]), S 26 (.mv (.t 28)), S 29 (.ext (.t 26) 0), S 30 (.ext (.t 26) 1), S 31 (.ext (.t 26) 2), S 3 (.mv (.t 29)), S 4 (.mv (.t 30)), S 5 (.mv (.t 31))]
@[simp] noncomputable def r3 (_ : Unit) : List Stp := [SP 33 (.call (.c (.func (.func fn_law03_sample) [] [])) []), SP 34 (.call (.c (.func (.func fn_rake_Worst) [] [])) [(.t 33)]), S 32 (.mv (.t 34)), S 35 (.ext (.t 32) 0), S 36 (.ext (.t 32) 1), S 6 (.mv (.t 35)), S 7 (.mv (.t 36))]
@[simp] noncomputable def r4 (_ : Unit) : List Stp := [SP 38 (.call (.c (.func (.func fn_law03_sample) [] [])) []), S 39 (.bsl 3 [(.int .i64 0), (.int .i64 0), (.int .i64 0)] [(0, 1, (.c (.int .i64 1))), (1, 1, (.c (.int .i64 2))), (2, 1, (.c (.int .i64 0)))]), S 40 (.call (.c (.func (.func fn_rake_Cost) [] [])) [(.t 38), (.t 39), (.c (.int .i64 5))]), S 37 (.mv (.t 40)), S 41 (.ext (.t 37) 0), S 42 (.ext (.t 37) 1), S 8 (.mv (.t 41)), S 9 (.mv (.t 42))]
@[simp] noncomputable def r5 (_ : Unit) : List Stp := [SP 44 (.call (.c (.func (.func fn_law03_sample) [] [])) []), SP 45 (.call (.c (.func (.func fn_rake_Order) [] [])) [(.t 44)]), S 43 (.mv (.t 45)), S 46 (.ext (.t 43) 0), S 47 (.ext (.t 43) 1), S 48 (.ext (.t 43) 2), S 10 (.mv (.t 46)), S 11 (.mv (.t 47)), S 12 (.mv (.t 48))]
@[simp] noncomputable def r6 (_ : Unit) : List Stp := [SP 50 (.call (.c (.func (.func fn_law03_sample) [] [])) []), SP 51 (.call (.c (.func (.func fn_rake_Enough) [] [])) [(.t 50)]), S 49 (.mv (.t 51)), S 52 (.ext (.t 49) 0), S 53 (.ext (.t 49) 1), S 54 (.ext (.t 49) 2), S 13 (.mv (.t 52)), S 14 (.mv (.t 53)), S 15 (.mv (.t 54))]
@[simp] noncomputable def r7 (_ : Unit) : List Stp := [SP 56 (.call (.c (.func (.func fn_law03_sample) [] [])) []), SP 57 (.call (.c (.func (.func fn_rake_Any) [] [])) [(.t 56)]), S 55 (.mv (.t 57)), S 58 (.ext (.t 55) 0), S 59 (.ext (.t 55) 1), S 60 (.ext (.t 55) 2), S 16 (.mv (.t 58)), S 17 (.mv (.t 59)), S 18 (.mv (.t 60))]
@[simp] noncomputable def r8 (_ : Unit) : List Stp := [S 61 (.mv (.t 1)), S 62 (.bsl 2 [(.int .i64 0), (.int .i64 0)] [(0, 1, (.c (.int .i64 3))), (1, 1, (.c (.int .i64 7)))]), S 63 (.call (.c (.func (.func fn_law03_ints) [] [])) [(.t 61), (.t 62)]), S 64 (.mv (.t 63)), SG 65 64 true (.mv (.t 2)), SG 66 64 true (.bin .eql (.t 65) (.c (.int .i64 0))), S 67 (.pick (.t 64) (.t 66) (.c (.bool false))), S 68 (.mv (.t 67)), SG 69 68 true (.mv (.t 3)), SG 70 68 true (.bin .eql (.t 69) (.c (.int .i64 1))), S 71 (.pick (.t 68) (.t 70) (.c (.bool false))), S 72 (.mv (.t 71)), SG 73 72 true (.mv (.t 4)), SG 74 72 true (.bin .eql (.t 73) (.c (.int .i64 8))), S 75 (.pick (.t 72) (.t 74) (.c (.bool false))), S 76 (.mv (.t 75)), SG 77 76 true (.mv (.t 5)), SG 78 76 true (.bin .eql (.t 77) (.c (.int .i64 0))), S 79 (.pick (.t 76) (.t 78) (.c (.bool false))), S 80 (.mv (.t 79)), SG 81 80 true (.mv (.t 6)), SG 82 80 true (.bin .eql (.t 81) (.c (.int .i64 8))), S 83 (.pick (.t 80) (.t 82) (.c (.bool false))), S 84 (.mv (.t 83)), SG 85 84 true (.mv (.t 7)), SG 86 84 true (.bin .eql (.t 85) (.c (.int .i64 0))), S 87 (.pick (.t 84) (.t 86) (.c (.bool false))), S 88 (.mv (.t 87)), SG 89 88 true (.mv (.t 8)), SG 90 88 true (.bin .eql (.t 89) (.c (.int .i64 3))), S 91 (.pick (.t 88) (.t 90) (.c (.bool false))), S 92 (.mv (.t 91)), SG 93 92 true (.mv (.t 9)), SG 94 92 true (.bin .eql (.t 93) (.c (.int .i64 0))), S 95 (.pick (.t 92) (.t 94) (.c (.bool false))), S 96 (.mv (.t 95)), SG 97 96 true (.mv (.t 10)), SG 98 96 true (.bsl 3 [(.int .i64 0), (.int .i64 0), (.int .i64 0)] [(0, 1, (.c (.int .i64 1))), (1, 1, (.c (.int .i64 2))), (2, 1, (.c (.int .i64 0)))]), SG 99 96 true (.call (.c (.func (.func fn_law03_ints) [] [])) [(.t 97), (.t 98)]), S 100 (.pick (.t 96) (.t 99) (.c (.bool false))), S 101 (.mv (.t 100)), SG 102 101 true (.mv (.t 11)), SG 103 101 true (.bin .eql (.t 102) (.c (.int .i64 8))), S 104 (.pick (.t 101) (.t 103) (.c (.bool false))), S 105 (.mv (.t 104)), SG 106 105 true (.mv (.t 12)), SG 107 105 true (.bin .eql (.t 106) (.c (.int .i64 0))), S 108 (.pick (.t 105) (.t 107) (.c (.bool false))), S 109 (.mv (.t 108)), SG 110 109 true (.mv (.t 13)), SG 111 109 true (.bin .eql (.t 110) (.c (.int .i64 6))), S 112 (.pick (.t 109) (.t 111) (.c (.bool false))), S 113 (.mv (.t 112)), SG 114 113 true (.mv (.t 14)), SG 115 113 true (.bin .eql (.t 114) (.c (.int .i64 8))), S 116 (.pick (.t 113) (.t 115) (.c (.bool false))), S 117 (.mv (.t 116)), SG 118 117 true (.mv (.t 15)), SG 119 117 true (.bin .eql (.t 118) (.c (.int .i64 0))), S 120 (.pick (.t 117) (.t 119) (.c (.bool false))), S 121 (.mv (.t 120)), SG 122 121 true (.mv (.t 16)), SG 123 121 true (.bin .eql (.t 122) (.c (.int .i64 0))), S 124 (.pick (.t 121) (.t 123) (.c (.bool false))), S 125 (.mv (.t 124)), SG 126 125 true (.mv (.t 17)), SG 127 125 true (.bin .eql (.t 126) (.c (.int .i64 4))), S 128 (.pick (.t 125) (.t 127) (.c (.bool false))), S 129 (.mv (.t 128)), SG 130 129 true (.mv (.t 18)), SG 131 129 true (.bin .eql (.t 130) (.c (.int .i64 0))), S 132 (.pick (.t 129) (.t 131) (.c (.bool false))), S 0 (.mv (.t 132))]
@[simp] noncomputable def ir : IR := (.seq (.ops r0) (.seq (.ops r1) (.seq (.ops r2) (.seq (.ops r3) (.seq (.ops r4) (.seq (.ops r5) (.seq (.ops r6) (.seq (.ops r7) (.seq (.ops r8) .ret)))))))))
@[simp] noncomputable def rs : List RV := [.tmp 0]
theorem comp : compF Pg cfg Tryz.f13 = some (ir, rs, 133) := by kernel_rfl
theorem enter {args : List AVal} {h : Heap} {K : AEnd → Heap → Prop} (F : Nat) (hl : args.length ≤ 133) (a : AW ⟨Pg, F, 133, false, []⟩ ir (RetK rs K) (initT args) [] h) : ACalls Pg fn_law03_alive args h K :=
  ACalls.of_comp follows Tryz.func13 comp hl a
theorem pure {args : List AVal} {v : AVal} (hl : args.length ≤ 133) (a : AW ⟨Pg, 0, 133, false, []⟩ ir (RetK rs fun e _ => e = .ret v) (initT args) [] nilH) : APure Pg fn_law03_alive args v :=
  APure.of_nil (enter 0 hl a)
end law03_alive

namespace rake_Known
noncomputable def cfg : Cfg := { pure := pures, pcs := [], raw := [], cuts := [], draws := [], keep := [4, 5] }
@[simp] noncomputable def r0 (_ : Unit) : List Stp := [S 2 (.box (.t 0)), S 4 (.mv (.c .nils)), S 5 (.alloc [(.int .i64 0)])]
@[simp] noncomputable def r1 (_ : Unit) : List Stp := [S 8 (.mkF (.func fn_rake_Known_1) [] [(.t 5)]), SN (.defer (.t 8) [])]
@[simp] noncomputable def r2 (_ : Unit) : List Stp := [S 10 (.load true 3 (.t 2)), S 11 (.mv (.t 1)), S 12 (.call (.c (.func (.func fn_rake_open) [] [])) [(.t 10), (.t 11), (.c (.bool true))]), S 9 (.mv (.t 12)), S 13 (.ext (.t 9) 0), S 14 (.ext (.t 9) 1), S 7 (.alloc [(.int .i64 0), (.int .i64 0)]), S 6 (.mv (.t 13)), SN (.store 2 (.t 7) (.t 14))]
@[simp] noncomputable def r3 (_ : Unit) : List Stp := [S 15 (.mv (.t 6)), S 16 (.load true 2 (.t 7)), S 17 (.call (.c (.func (.func fn_rake_hull_agreeing) [] [])) [(.t 15), (.t 16)]), S 4 (.mv (.t 17)), SN (.store 1 (.t 5) (.c (.int .i64 0)))]
@[simp] noncomputable def ir : IR := (.seq (.ops r0) (.seq (.ops r1) (.seq (.ops r2) (.seq (.ops r3) .ret))))
@[simp] noncomputable def rs : List RV := [.tmp 4, .cell 5 false 1]
theorem comp : compF Pg cfg Tryz.f14 = some (ir, rs, 18) := by kernel_rfl
theorem enter {args : List AVal} {h : Heap} {K : AEnd → Heap → Prop} (F : Nat) (hl : args.length ≤ 18) (a : AW ⟨Pg, F, 18, false, [4, 5]⟩ ir (RetD Pg rs K) (initT args) [] h) : ACalls Pg fn_rake_Known args h K :=
  ACalls.of_comp_defer follows Tryz.func14 comp hl a
theorem pure {args : List AVal} {v : AVal} (hl : args.length ≤ 18) (a : AW ⟨Pg, 0, 18, false, [4, 5]⟩ ir (RetD Pg rs fun e _ => e = .ret v) (initT args) [] nilH) : APure Pg fn_rake_Known args v :=
  APure.of_nil (enter 0 hl a)
end rake_Known


namespace rake_Next
noncomputable def cfg : Cfg := { pure := pures, pcs := [], raw := [], cuts := [], draws := [(4, [⟨0, false, [], []⟩, ⟨1, false, [], []⟩, ⟨2, false, [], []⟩, ⟨4, false, [], []⟩, ⟨3, false, [], [4]⟩, ⟨5, false, [], []⟩, ⟨6, false, [], []⟩, ⟨7, false, [], []⟩, ⟨8, false, [], []⟩, ⟨9, false, [], []⟩, ⟨10, false, [], []⟩])], keep := [4, 5, 6] }
@[simp] noncomputable def r0 (_ : Unit) : List Stp := [S 2 (.box (.t 0)), S 4 (.mv (.c (.int .i64 0))), S 5 (.mv (.c (.int .i64 0))), S 6 (.alloc [(.int .i64 0)])]
@[simp] noncomputable def r1 (_ : Unit) : List Stp := [S 11 (.mkF (.func fn_rake_Next_1) [] [(.t 6)]), SN (.defer (.t 11) [])]
@[simp] noncomputable def r2 (_ : Unit) : List Stp := [S 13 (.load true 3 (.t 2)), S 14 (.mv (.t 1)), S 15 (.call (.c (.func (.func fn_rake_open) [] [])) [(.t 13), (.t 14), (.c (.bool true))]), S 12 (.mv (.t 15)), S 16 (.ext (.t 12) 0), S 17 (.ext (.t 12) 1), S 8 (.alloc [(.int .i64 0), (.int .i64 0)]), S 7 (.mv (.t 16)), SN (.store 2 (.t 8) (.t 17))]
@[simp] noncomputable def r3 (_ : Unit) : List Stp := [S 18 (.mv (.t 7)), S 19 (.load true 2 (.t 8)), S 20 (.call (.c (.func (.func fn_rake_hull_agreeing) [] [])) [(.t 18), (.t 19)]), S 21 (.len (.t 20)), S 22 (.bin .gtr (.t 21) (.c (.int .i64 1))), S 23 (.call (.c (.func (.func fn_rake_want) [] [])) [(.t 22), (.c (.int .i64 4))])]
@[simp] noncomputable def r4 (_ : Unit) : List Stp := [S 25 (.mv (.t 7)), S 26 (.build [] []), S 27 (.mkI 90 (.t 26)), S 29 (.load true 2 (.t 8)), SD (some 28) (.call (.c (.func (.func fn_rake_hull_plan) [] [])) [(.t 25), (.t 27)]) false [] [I 29 (.load true 2 (.t 8))], S 30 (.call (.t 28) [(.t 29)]), S 24 (.mv (.t 30)), S 31 (.ext (.t 24) 0), S 32 (.ext (.t 24) 1), S 9 (.mv (.t 31)), S 10 (.mv (.t 32))]
@[simp] noncomputable def r5 (_ : Unit) : List Stp := [S 33 (.mv (.t 9)), S 34 (.mv (.t 10)), S 4 (.mv (.t 33)), S 5 (.mv (.t 34)), SN (.store 1 (.t 6) (.c (.int .i64 0)))]
@[simp] noncomputable def ir : IR := (.seq (.ops r0) (.seq (.ops r1) (.seq (.ops r2) (.seq (.ops r3) (.seq (.ops r4) (.seq (.ops r5) .ret))))))
@[simp] noncomputable def rs : List RV := [.tmp 4, .tmp 5, .cell 6 false 1]
theorem comp : compF Pg cfg Tryz.f16 = some (ir, rs, 35) := by kernel_rfl
theorem enter {args : List AVal} {h : Heap} {K : AEnd → Heap → Prop} (F : Nat) (hl : args.length ≤ 35) (a : AW ⟨Pg, F, 35, false, [4, 5, 6]⟩ ir (RetD Pg rs K) (initT args) [] h) : ACalls Pg fn_rake_Next args h K :=
  ACalls.of_comp_defer follows Tryz.func16 comp hl a
theorem pure {args : List AVal} {v : AVal} (hl : args.length ≤ 35) (a : AW ⟨Pg, 0, 35, false, [4, 5, 6]⟩ ir (RetD Pg rs fun e _ => e = .ret v) (initT args) [] nilH) : APure Pg fn_rake_Next args v :=
  APure.of_nil (enter 0 hl a)
end rake_Next


namespace rake_Worst
noncomputable def cfg : Cfg := { pure := pures, pcs := [], raw := [], cuts := [], draws := [(3, [⟨0, false, [], []⟩, ⟨1, false, [], []⟩, ⟨2, false, [], []⟩, ⟨4, false, [], []⟩, ⟨3, false, [], [4]⟩, ⟨5, false, [], []⟩, ⟨6, false, [], []⟩, ⟨7, false, [], []⟩, ⟨8, false, [], []⟩, ⟨9, false, [], []⟩, ⟨10, false, [], []⟩])], keep := [2, 3] }
@[simp] noncomputable def r0 (_ : Unit) : List Stp := [S 1 (.box (.t 0)), S 2 (.mv (.c (.int .i64 0))), S 3 (.alloc [(.int .i64 0)])]
@[simp] noncomputable def r1 (_ : Unit) : List Stp := [S 8 (.mkF (.func fn_rake_Worst_1) [] [(.t 3)]), SN (.defer (.t 8) [])]
@[simp] noncomputable def r2 (_ : Unit) : List Stp := [S 10 (.load true 3 (.t 1)), S 11 (.call (.c (.func (.func fn_rake_open) [] [])) [(.t 10), (.c .nils), (.c (.bool true))]), S 9 (.mv (.t 11)), S 12 (.ext (.t 9) 0), S 13 (.ext (.t 9) 1), S 5 (.alloc [(.int .i64 0), (.int .i64 0)]), S 4 (.mv (.t 12)), SN (.store 2 (.t 5) (.t 13))]
@[simp] noncomputable def r3 (_ : Unit) : List Stp := [S 15 (.mv (.t 4)), S 16 (.build [] []), S 17 (.mkI 90 (.t 16)), S 19 (.load true 2 (.t 5)), SD (some 18) (.call (.c (.func (.func fn_rake_hull_plan) [] [])) [(.t 15), (.t 17)]) false [] [I 19 (.load true 2 (.t 5))], S 20 (.call (.t 18) [(.t 19)]), S 14 (.mv (.t 20)), S 21 (.ext (.t 14) 0), S 22 (.ext (.t 14) 1), S 6 (.mv (.t 21)), S 7 (.mv (.t 22))]
@[simp] noncomputable def r4 (_ : Unit) : List Stp := [S 23 (.mv (.t 7)), S 2 (.mv (.t 23)), SN (.store 1 (.t 3) (.c (.int .i64 0)))]
@[simp] noncomputable def ir : IR := (.seq (.ops r0) (.seq (.ops r1) (.seq (.ops r2) (.seq (.ops r3) (.seq (.ops r4) .ret)))))
@[simp] noncomputable def rs : List RV := [.tmp 2, .cell 3 false 1]
theorem comp : compF Pg cfg Tryz.f18 = some (ir, rs, 24) := by kernel_rfl
theorem enter {args : List AVal} {h : Heap} {K : AEnd → Heap → Prop} (F : Nat) (hl : args.length ≤ 24) (a : AW ⟨Pg, F, 24, false, [2, 3]⟩ ir (RetD Pg rs K) (initT args) [] h) : ACalls Pg fn_rake_Worst args h K :=
  ACalls.of_comp_defer follows Tryz.func18 comp hl a
theorem pure {args : List AVal} {v : AVal} (hl : args.length ≤ 24) (a : AW ⟨Pg, 0, 24, false, [2, 3]⟩ ir (RetD Pg rs fun e _ => e = .ret v) (initT args) [] nilH) : APure Pg fn_rake_Worst args v :=
  APure.of_nil (enter 0 hl a)
end rake_Worst


namespace rake_Any
noncomputable def cfg : Cfg := { pure := pures, pcs := [], raw := [], cuts := [], draws := [(4, [⟨0, false, [], []⟩, ⟨1, false, [], []⟩, ⟨2, false, [], []⟩, ⟨4, false, [], []⟩, ⟨3, false, [], [4]⟩, ⟨5, false, [], []⟩, ⟨6, false, [], []⟩, ⟨7, false, [], []⟩, ⟨8, false, [], []⟩, ⟨9, false, [], []⟩, ⟨10, false, [], []⟩])], keep := [2, 3, 4] }
@[simp] noncomputable def r0 (_ : Unit) : List Stp := [S 1 (.box (.t 0)), S 2 (.mv (.c (.int .i64 0))), S 3 (.mv (.c (.int .i64 0))), S 4 (.alloc [(.int .i64 0)])]
@[simp] noncomputable def r1 (_ : Unit) : List Stp := [S 9 (.mkF (.func fn_rake_Any_1) [] [(.t 4)]), SN (.defer (.t 9) [])]
@[simp] noncomputable def r2 (_ : Unit) : List Stp := [S 11 (.load true 3 (.t 1)), S 12 (.call (.c (.func (.func fn_rake_open) [] [])) [(.t 11), (.c .nils), (.c (.bool true))]), S 10 (.mv (.t 12)), S 13 (.ext (.t 10) 0), S 14 (.ext (.t 10) 1), S 6 (.alloc [(.int .i64 0), (.int .i64 0)]), S 5 (.mv (.t 13)), SN (.store 2 (.t 6) (.t 14))]
@[simp] noncomputable def r3 (_ : Unit) : List Stp := [S 15 (.mv (.t 5)), S 16 (.nilck Pg (.t 15)), S 17 (.fAddr 7 (.t 16)), S 18 (.load false 1 (.t 17)), S 19 (.call (.c (.func (.func fn_slices_Contains_int_int) [] [])) [(.t 18), (.c (.int .i64 0))]), S 20 (.un .not (.t 19)), S 21 (.call (.c (.func (.func fn_rake_want) [] [])) [(.t 20), (.c (.int .i64 11))])]
@[simp] noncomputable def r4 (_ : Unit) : List Stp := [S 23 (.mv (.t 5)), S 24 (.build [] []), S 25 (.mkI 99 (.t 24)), S 27 (.load true 2 (.t 6)), SD (some 26) (.call (.c (.func (.func fn_rake_hull_plan) [] [])) [(.t 23), (.t 25)]) false [] [I 27 (.load true 2 (.t 6))], S 28 (.call (.t 26) [(.t 27)]), S 22 (.mv (.t 28)), S 29 (.ext (.t 22) 0), S 30 (.ext (.t 22) 1), S 7 (.mv (.t 29)), S 8 (.mv (.t 30))]
@[simp] noncomputable def r5 (_ : Unit) : List Stp := [S 31 (.mv (.t 7)), S 32 (.mv (.t 8)), S 2 (.mv (.t 31)), S 3 (.mv (.t 32)), SN (.store 1 (.t 4) (.c (.int .i64 0)))]
@[simp] noncomputable def ir : IR := (.seq (.ops r0) (.seq (.ops r1) (.seq (.ops r2) (.seq (.ops r3) (.seq (.ops r4) (.seq (.ops r5) .ret))))))
@[simp] noncomputable def rs : List RV := [.tmp 2, .tmp 3, .cell 4 false 1]
theorem comp : compF Pg cfg Tryz.f20 = some (ir, rs, 33) := by kernel_rfl
theorem enter {args : List AVal} {h : Heap} {K : AEnd → Heap → Prop} (F : Nat) (hl : args.length ≤ 33) (a : AW ⟨Pg, F, 33, false, [2, 3, 4]⟩ ir (RetD Pg rs K) (initT args) [] h) : ACalls Pg fn_rake_Any args h K :=
  ACalls.of_comp_defer follows Tryz.func20 comp hl a
theorem pure {args : List AVal} {v : AVal} (hl : args.length ≤ 33) (a : AW ⟨Pg, 0, 33, false, [2, 3, 4]⟩ ir (RetD Pg rs fun e _ => e = .ret v) (initT args) [] nilH) : APure Pg fn_rake_Any args v :=
  APure.of_nil (enter 0 hl a)
end rake_Any


namespace ref01_Ints
noncomputable def cfg : Cfg := { pure := pures, pcs := [], raw := [], cuts := [], draws := [(6, [⟨0, false, [], []⟩, ⟨1, false, [], []⟩, ⟨2, false, [], []⟩, ⟨4, false, [], []⟩, ⟨5, false, [], []⟩, ⟨6, false, [], []⟩, ⟨3, false, [], []⟩, ⟨7, false, [], []⟩, ⟨8, false, [], []⟩])], keep := [] }
@[simp] noncomputable def r0 (_ : Unit) : List Stp := [S 4 (.mv (.c (.bool false)))]
@[simp] noncomputable def r1 (_ : Unit) : List Stp := [S 6 (.mv (.t 0)), S 7 (.len (.t 6)), S 8 (.mv (.t 1)), S 9 (.len (.t 8)), S 10 (.bin .neq (.t 7) (.t 9))]
@[simp] noncomputable def r2 (_ : Unit) : List Stp := [S 4 (.mv (.c (.bool false)))]
@[simp] noncomputable def r3 (_ : Unit) : List Stp := [S 5 (.mv (.c (.int .i64 0)))]
@[simp] noncomputable def r4 (_ : Unit) : List Stp := [S 11 (.mv (.t 5)), S 12 (.mv (.t 0)), S 13 (.len (.t 12)), S 14 (.bin .lss (.t 11) (.t 13))]
@[simp] noncomputable def r6 (_ : Unit) : List Stp := [S 17 (.mv (.t 0)), S 18 (.mv (.t 5)), S 19 (.ixS 1 (.t 17) (.t 18)), S 21 (.mv (.t 1)), S 22 (.mv (.t 5)), S 23 (.ixS 1 (.t 21) (.t 22)), S 20 (.load false 1 (.t 19)), S 24 (.load false 1 (.t 23)), S 25 (.bin .neq (.t 20) (.t 24))]
@[simp] noncomputable def r7 (_ : Unit) : List Stp := [S 4 (.mv (.c (.bool false)))]
@[simp] noncomputable def r5 (_ : Unit) : List Stp := [S 15 (.mv (.t 5)), S 16 (.bin .add (.t 15) (.c (.int .i64 1))), S 5 (.mv (.t 16))]
@[simp] noncomputable def r8 (_ : Unit) : List Stp := [S 4 (.mv (.c (.bool true)))]
@[simp] noncomputable def ir : IR := (.seq (.ops r0) (.seq (.seq (.ops r1) (.cond (.t 10) (.seq (.ops r2) .ret) .skip)) (.seq (.seq (.ops r3) (.block 0 (.loop (.seq (.seq (.ops r4) (.cond (.t 14) .skip (.exit 0))) (.seq (.block 1 (.seq (.ops r6) (.cond (.t 25) (.seq (.ops r7) .ret) .skip))) (.ops r5)))))) (.seq (.ops r8) .ret))))
@[simp] noncomputable def rs : List RV := [.tmp 4]
theorem comp : compF Pg cfg Tryz.f22 = some (ir, rs, 26) := by kernel_rfl
theorem enter {args : List AVal} {h : Heap} {K : AEnd → Heap → Prop} (F : Nat) (hl : args.length ≤ 26) (a : AW ⟨Pg, F, 26, false, []⟩ ir (RetK rs K) (initT args) [] h) : ACalls Pg fn_ref01_Ints args h K :=
  ACalls.of_comp follows Tryz.func22 comp hl a
theorem pure {args : List AVal} {v : AVal} (hl : args.length ≤ 26) (a : AW ⟨Pg, 0, 26, false, []⟩ ir (RetK rs fun e _ => e = .ret v) (initT args) [] nilH) : APure Pg fn_ref01_Ints args v :=
  APure.of_nil (enter 0 hl a)
end ref01_Ints

namespace rake_Cost
noncomputable def cfg : Cfg := { pure := pures, pcs := [], raw := [], cuts := [], draws := [(2, [⟨2, false, [], []⟩, ⟨0, false, [], []⟩, ⟨1, false, [], []⟩, ⟨3, false, [], []⟩, ⟨4, false, [], []⟩, ⟨5, false, [], []⟩, ⟨6, false, [], []⟩, ⟨7, false, [], []⟩, ⟨8, false, [], []⟩, ⟨9, false, [], []⟩, ⟨10, false, [], []⟩, ⟨11, false, [], []⟩, ⟨12, false, [], []⟩, ⟨13, false, [], []⟩, ⟨14, false, [], []⟩, ⟨15, false, [], []⟩, ⟨16, false, [], []⟩, ⟨17, false, [21], []⟩, ⟨18, false, [], []⟩, ⟨19, false, [], []⟩, ⟨20, false, [], []⟩, ⟨21, true, [], []⟩, ⟨22, false, [], []⟩, ⟨23, false, [], []⟩])], keep := [6, 7] }
@[simp] noncomputable def r0 (_ : Unit) : List Stp := [S 3 (.box (.t 0)), S 6 (.mv (.c (.int .i64 0))), S 7 (.alloc [(.int .i64 0)])]
@[simp] noncomputable def r1 (_ : Unit) : List Stp := [S 10 (.mkF (.func fn_rake_Cost_1) [] [(.t 7)]), SN (.defer (.t 10) [])]
@[simp] noncomputable def r2 (_ : Unit) : List Stp := [S 14 (.mv (.t 1)), S 12 (.load true 3 (.t 3)), S 13 (.load true 3 (.t 3)), SP 15 (.call (.c (.func (.func fn_rake_isOrder) [] [])) [(.t 13), (.t 14)]), S 16 (.mv (.t 15)), SG 17 16 true (.mv (.t 2)), SG 18 16 true (.bin .geq (.t 17) (.c (.int .i64 0))), S 19 (.pick (.t 16) (.t 18) (.c (.bool false))), S 20 (.mv (.t 19)), SG 21 20 true (.mv (.t 2)), SG 22 20 true (.fAddr 2 (.t 3)), SG 23 20 true (.load false 1 (.t 22)), SG 24 20 true (.len (.t 23)), SG 25 20 true (.mm false [(.t 24), (.c (.int .i64 62))]), SG 26 20 true (.bin .shr (.t 21) (.t 25)), SG 27 20 true (.bin .eql (.t 26) (.c (.int .i64 0))), S 28 (.pick (.t 20) (.t 27) (.c (.bool false))), SD (some 29) (.call (.c (.func (.func fn_rake_open) [] [])) [(.t 12), (.c .nils), (.t 28)]) false [I 9 (.alloc [(.int .i64 0), (.int .i64 0)])] [], S 11 (.mv (.t 29)), S 30 (.ext (.t 11) 0), S 31 (.ext (.t 11) 1), SD (some 9) (.alloc [(.int .i64 0), (.int .i64 0)]) true [] [], S 8 (.mv (.t 30)), SN (.store 2 (.t 9) (.t 31))]
@[simp] noncomputable def r3 (_ : Unit) : List Stp := [S 32 (.mv (.t 8)), S 33 (.nilck Pg (.t 32)), S 34 (.fAddr 7 (.t 33)), S 35 (.load false 1 (.t 34)), S 36 (.mv (.t 2)), S 37 (.call (.c (.func (.func fn_slices_Contains_int_int) [] [])) [(.t 35), (.t 36)]), S 38 (.call (.c (.func (.func fn_rake_want) [] [])) [(.t 37), (.c (.int .i64 4))])]
@[simp] noncomputable def r4 (_ : Unit) : List Stp := [S 39 (.mv (.t 8)), S 40 (.mv (.t 1)), S 41 (.mv (.t 2)), SP 42 (.call (.c (.func (.func fn_rake_hull_cost) [] [])) [(.t 39), (.t 40), (.t 41)]), S 6 (.mv (.t 42)), SN (.store 1 (.t 7) (.c (.int .i64 0)))]
@[simp] noncomputable def ir : IR := (.seq (.ops r0) (.seq (.ops r1) (.seq (.ops r2) (.seq (.ops r3) (.seq (.ops r4) .ret)))))
@[simp] noncomputable def rs : List RV := [.tmp 6, .cell 7 false 1]
theorem comp : compF Pg cfg Tryz.f23 = some (ir, rs, 43) := by kernel_rfl
theorem enter {args : List AVal} {h : Heap} {K : AEnd → Heap → Prop} (F : Nat) (hl : args.length ≤ 43) (a : AW ⟨Pg, F, 43, false, [6, 7]⟩ ir (RetD Pg rs K) (initT args) [] h) : ACalls Pg fn_rake_Cost args h K :=
  ACalls.of_comp_defer follows Tryz.func23 comp hl a
theorem pure {args : List AVal} {v : AVal} (hl : args.length ≤ 43) (a : AW ⟨Pg, 0, 43, false, [6, 7]⟩ ir (RetD Pg rs fun e _ => e = .ret v) (initT args) [] nilH) : APure Pg fn_rake_Cost args v :=
  APure.of_nil (enter 0 hl a)
end rake_Cost


namespace rake_Order
noncomputable def cfg : Cfg := { pure := pures, pcs := [], raw := [], cuts := [9], draws := [(9, [⟨0, false, [], []⟩, ⟨7, false, [], []⟩, ⟨1, false, [], []⟩, ⟨2, false, [], []⟩, ⟨3, false, [], []⟩, ⟨4, false, [], []⟩, ⟨5, false, [], []⟩, ⟨8, false, [], []⟩, ⟨6, false, [], [8]⟩, ⟨9, false, [], []⟩, ⟨10, false, [], []⟩, ⟨11, false, [], []⟩])], keep := [2, 3, 4] }
@[simp] noncomputable def r0 (_ : Unit) : List Stp := [S 1 (.box (.t 0)), S 2 (.mv (.c .nils)), S 3 (.mv (.c (.int .i64 0))), S 4 (.alloc [(.int .i64 0)])]
@[simp] noncomputable def r1 (_ : Unit) : List Stp := [S 10 (.mkF (.func fn_rake_Order_1) [] [(.t 4)]), SN (.defer (.t 10) [])]
@[simp] noncomputable def r2 (_ : Unit) : List Stp := [S 12 (.load true 3 (.t 1)), S 13 (.call (.c (.func (.func fn_rake_open) [] [])) [(.t 12), (.c .nils), (.c (.bool true))]), S 11 (.mv (.t 13)), S 14 (.ext (.t 11) 0), S 15 (.ext (.t 11) 1), S 5 (.alloc [.nilp]), S 6 (.alloc [(.int .i64 0), (.int .i64 0)]), SN (.store 1 (.t 5) (.t 14)), SN (.store 2 (.t 6) (.t 15))]
@[simp] noncomputable def r3 (_ : Unit) : List Stp := [S 16 (.mkF (.func fn_rake_Order_2) [] [(.t 5)]), S 17 (.build [(.bool false), (.int .i64 0), (.int .i64 0), (.int .i64 0), (.int .i64 0), (.int .i64 0), (.int .i64 0), (.int .i64 0), .nilf] [(8, 1, (.t 16))]), S 7 (.alloc [(.bool false), (.int .i64 0), (.int .i64 0), (.int .i64 0), (.int .i64 0), (.int .i64 0), (.int .i64 0), (.int .i64 0), .nilf]), SN (.store 9 (.t 7) (.t 17))]
@[simp] noncomputable def r4 (_ : Unit) : List Stp := [S 18 (.load false 1 (.t 5)), S 19 (.call (.c (.func (.func fn_rake_hull_orders) [] [])) [(.t 18)])]
@[simp] noncomputable def r5 (_ : Unit) : List Stp := [S 8 (.mv (.t 20))]
@[simp] noncomputable def r6 (_ : Unit) : List Stp := [S 9 (.alloc [(.int .i64 0), (.int .i64 0), (.int .i64 0), (.int .i64 0), (.int .i64 0), (.int .i64 0)])]
@[simp] noncomputable def r7 (_ : Unit) : List Stp := [S 21 (.slA 6 1 (.t 9) none none none), S 22 (.mv (.t 8)), S 23 (.copy 1 (.t 21) (.t 22))]
@[simp] noncomputable def r8 (_ : Unit) : List Stp := [S 24 (.load true 6 (.t 9)), S 25 (.call (.c (.func (.func fn_rake_best_rake_line_see) [] [])) [(.t 7), (.t 24)])]
@[simp] noncomputable def r9 (_ : Unit) : List Stp := [S 26 (.fAddr 1 (.t 7)), S 33 (.fAddr 7 (.t 7)), S 27 (.load false 1 (.t 5)), S 28 (.nilck Pg (.t 27)), S 29 (.fAddr 6 (.t 28)), S 30 (.load false 1 (.t 29)), S 31 (.slA 6 1 (.t 26) none (some (.t 30)) none), S 34 (.load false 1 (.t 33)), SD (some 32) (.call (.c (.func (.func fn_slices_Clone_int_int) [] [])) [(.t 31)]) false [] [I 34 (.load false 1 (.t 33))], S 2 (.mv (.t 32)), S 3 (.mv (.t 34)), SN (.store 1 (.t 4) (.c (.int .i64 0)))]
@[simp] noncomputable def ir : IR := (.seq (.ops r0) (.seq (.ops r1) (.seq (.ops r2) (.seq (.ops r3) (.seq (.seq (.ops r4) (.block 0 (.rangeF (.t 19) [20] (.ops r5) (.block 1 (.seq (.ops r6) (.seq (.ops r7) (.ops r8))))))) (.seq (.cut (.nk (.ops r9))) .ret))))))
@[simp] noncomputable def rs : List RV := [.tmp 2, .tmp 3, .cell 4 false 1]
theorem comp : compF Pg cfg Tryz.f25 = some (ir, rs, 35) := by kernel_rfl
theorem enter {args : List AVal} {h : Heap} {K : AEnd → Heap → Prop} (F : Nat) (hl : args.length ≤ 35) (a : AW ⟨Pg, F, 35, false, [2, 3, 4]⟩ ir (RetD Pg rs K) (initT args) [] h) : ACalls Pg fn_rake_Order args h K :=
  ACalls.of_comp_defer follows Tryz.func25 comp hl a
theorem pure {args : List AVal} {v : AVal} (hl : args.length ≤ 35) (a : AW ⟨Pg, 0, 35, false, [2, 3, 4]⟩ ir (RetD Pg rs fun e _ => e = .ret v) (initT args) [] nilH) : APure Pg fn_rake_Order args v :=
  APure.of_nil (enter 0 hl a)
end rake_Order


namespace rake_Enough
noncomputable def cfg : Cfg := { pure := pures, pcs := [], raw := [], cuts := [], draws := [(11, [⟨0, false, [], []⟩, ⟨2, false, [], []⟩, ⟨1, false, [], []⟩, ⟨4, false, [], []⟩, ⟨3, false, [], []⟩, ⟨5, false, [], []⟩, ⟨6, false, [], []⟩])], keep := [2, 3, 4] }
@[simp] noncomputable def r0 (_ : Unit) : List Stp := [S 1 (.box (.t 0)), S 2 (.mv (.c (.int .i64 0))), S 3 (.mv (.c (.int .i64 0))), S 4 (.alloc [(.int .i64 0)])]
@[simp] noncomputable def r1 (_ : Unit) : List Stp := [S 10 (.mkF (.func fn_rake_Enough_1) [] [(.t 4)]), SN (.defer (.t 10) [])]
@[simp] noncomputable def r2 (_ : Unit) : List Stp := [S 12 (.load true 3 (.t 1)), S 13 (.call (.c (.func (.func fn_rake_open) [] [])) [(.t 12), (.c .nils), (.c (.bool true))]), S 11 (.mv (.t 13)), S 14 (.ext (.t 11) 0), S 15 (.ext (.t 11) 1), S 5 (.alloc [.nilp]), S 6 (.alloc [(.int .i64 0), (.int .i64 0)]), SN (.store 1 (.t 5) (.t 14)), SN (.store 2 (.t 6) (.t 15))]
@[simp] noncomputable def r3 (_ : Unit) : List Stp := [S 7 (.alloc [.nilf]), SN (.store 1 (.t 7) (.c (.func (.func fn_rake_lengths_sum) [] [])))]
@[simp] noncomputable def r4 (_ : Unit) : List Stp := [S 16 (.mkF (.func fn_rake_Enough_2) [] [(.t 7), (.t 5)]), S 17 (.build [(.bool false), (.int .i64 0), (.int .i64 0), .nilf] [(3, 1, (.t 16))]), S 8 (.alloc [(.bool false), (.int .i64 0), (.int .i64 0), .nilf]), SN (.store 4 (.t 8) (.t 17))]
@[simp] noncomputable def r5 (_ : Unit) : List Stp := [S 18 (.load false 1 (.t 5)), S 19 (.nilck Pg (.t 18)), S 20 (.fAddr 6 (.t 19)), S 21 (.load false 1 (.t 20)), S 22 (.bin .shl (.c (.int .i64 1)) (.t 21)), S 23 (.mv (.c (.int .i64 0)))]
@[simp] noncomputable def r6 (_ : Unit) : List Stp := [S 24 (.bin .lss (.t 23) (.t 22))]
@[simp] noncomputable def r7 (_ : Unit) : List Stp := [S 25 (.mv (.t 23)), S 9 (.mv (.t 25))]
@[simp] noncomputable def r8 (_ : Unit) : List Stp := [S 26 (.load false 1 (.t 5)), S 27 (.mv (.t 9)), SP 28 (.call (.c (.func (.func fn_rake_hull_tells) [] [])) [(.t 26), (.t 27)])]
@[simp] noncomputable def r9 (_ : Unit) : List Stp := [S 29 (.mv (.t 9)), S 30 (.call (.c (.func (.func fn_rake_best_int_see) [] [])) [(.t 8), (.t 29)])]
@[simp] noncomputable def r10 (_ : Unit) : List Stp := [S 31 (.bin .add (.t 23) (.c (.int .i64 1))), S 23 (.mv (.t 31))]
@[simp] noncomputable def r11 (_ : Unit) : List Stp := [S 32 (.fAddr 1 (.t 8)), S 34 (.fAddr 2 (.t 8)), S 33 (.load false 1 (.t 32)), S 2 (.mv (.t 33)), S 35 (.load false 1 (.t 34)), S 3 (.mv (.t 35)), SN (.store 1 (.t 4) (.c (.int .i64 0)))]
@[simp] noncomputable def ir : IR := (.seq (.ops r0) (.seq (.ops r1) (.seq (.ops r2) (.seq (.ops r3) (.seq (.ops r4) (.seq (.seq (.ops r5) (.block 0 (.loop (.seq (.ops r6) (.seq (.cond (.t 24) .skip (.exit 0)) (.seq (.block 1 (.seq (.ops r7) (.seq (.ops r8) (.cond (.t 28) (.ops r9) .skip)))) (.ops r10))))))) (.seq (.nk (.ops r11)) .ret)))))))
@[simp] noncomputable def rs : List RV := [.tmp 2, .tmp 3, .cell 4 false 1]
theorem comp : compF Pg cfg Tryz.f27 = some (ir, rs, 36) := by kernel_rfl
theorem enter {args : List AVal} {h : Heap} {K : AEnd → Heap → Prop} (F : Nat) (hl : args.length ≤ 36) (a : AW ⟨Pg, F, 36, false, [2, 3, 4]⟩ ir (RetD Pg rs K) (initT args) [] h) : ACalls Pg fn_rake_Enough args h K :=
  ACalls.of_comp_defer follows Tryz.func27 comp hl a
theorem pure {args : List AVal} {v : AVal} (hl : args.length ≤ 36) (a : AW ⟨Pg, 0, 36, false, [2, 3, 4]⟩ ir (RetD Pg rs fun e _ => e = .ret v) (initT args) [] nilH) : APure Pg fn_rake_Enough args v :=
  APure.of_nil (enter 0 hl a)
end rake_Enough


namespace law03_sample
noncomputable def cfg : Cfg := { pure := pures, pcs := [], raw := [], cuts := [], draws := [], keep := [] }
@[simp] noncomputable def r0 (_ : Unit) : List Stp := [S 0 (.alloc [.nils, .nils, .nils])]
@[simp] noncomputable def r1 (_ : Unit) : List Stp := [S 1 (.build [(.int .i64 0), (.int .i64 0), (.int .i64 0)] [(0, 1, (.c (.int .i64 2))), (1, 1, (.c (.int .i64 0))), (2, 1, (.c (.int .i64 3)))]), S 2 (.build [(.int .i64 0), (.int .i64 0), (.int .i64 0)] [(0, 1, (.c (.int .i64 5))), (1, 1, (.c (.int .i64 (-1)))), (2, 1, (.c (.int .i64 2)))]), S 3 (.build [(.int .i64 0), (.int .i64 0), (.int .i64 0)] [(0, 1, (.c (.int .i64 5))), (1, 1, (.c (.int .i64 1))), (2, 1, (.c (.int .i64 4)))]), S 4 (.bsl 3 [(.int .i64 0), (.int .i64 0), (.int .i64 0), (.int .i64 0), (.int .i64 0), (.int .i64 0), (.int .i64 0), (.int .i64 0), (.int .i64 0)] [(0, 3, (.t 1)), (3, 3, (.t 2)), (6, 3, (.t 3))]), SP 5 (.call (.c (.func (.func fn_law03_span) [] [])) [(.c (.int .i64 1)), (.c (.int .i64 2))]), S 6 (.build [(.int .i64 0), (.int .i64 0), (.int .i64 0), (.int .i64 0)] [(0, 1, (.c (.int .i64 3))), (2, 2, (.t 5))]), SP 7 (.call (.c (.func (.func fn_law03_span) [] [])) [(.c (.int .i64 4)), (.c (.int .i64 4))]), S 8 (.build [(.int .i64 0), (.int .i64 0), (.int .i64 0), (.int .i64 0)] [(0, 1, (.c (.int .i64 6))), (2, 2, (.t 7))]), S 9 (.bsl 2 [(.int .i64 0), (.int .i64 0), (.int .i64 0), (.int .i64 0), (.int .i64 0), (.int .i64 0), (.int .i64 0), (.int .i64 0)] [(0, 4, (.t 6)), (4, 4, (.t 8))]), S 10 (.build [.nils, .nils] [(0, 1, (.t 4)), (1, 1, (.t 9))]), S 11 (.bsl 3 [(.int .i64 0), (.int .i64 0), (.int .i64 0)] [(0, 1, (.c (.int .i64 4))), (1, 1, (.c (.int .i64 3))), (2, 1, (.c (.int .i64 5)))]), S 12 (.build [.nils, .nils, .nils] [(0, 2, (.t 10)), (2, 1, (.t 11))]), SN (.store 3 (.t 0) (.t 12))]
@[simp] noncomputable def ir : IR := (.seq (.ops r0) (.seq (.ops r1) .ret))
@[simp] noncomputable def rs : List RV := [.cell 0 true 3]
theorem comp : compF Pg cfg Tryz.f29 = some (ir, rs, 13) := by kernel_rfl
theorem enter {args : List AVal} {h : Heap} {K : AEnd → Heap → Prop} (F : Nat) (hl : args.length ≤ 13) (a : AW ⟨Pg, F, 13, false, []⟩ ir (RetK rs K) (initT args) [] h) : ACalls Pg fn_law03_sample args h K :=
  ACalls.of_comp follows Tryz.func29 comp hl a
theorem pure {args : List AVal} {v : AVal} (hl : args.length ≤ 13) (a : AW ⟨Pg, 0, 13, false, []⟩ ir (RetK rs fun e _ => e = .ret v) (initT args) [] nilH) : APure Pg fn_law03_sample args v :=
  APure.of_nil (enter 0 hl a)
end law03_sample

namespace law03_find
noncomputable def cfg : Cfg := { pure := pures, pcs := [], raw := [], cuts := [], draws := [], keep := [] }
@[simp] noncomputable def r0 (_ : Unit) : List Stp := [S 4 (.alloc [(.int .i64 0), (.bool false)])]
@[simp] noncomputable def r1 (_ : Unit) : List Stp := [S 5 (.mv (.t 0)), S 6 (.mv (.t 1)), S 7 (.build [(.int .i64 0), (.bool false)] [(0, 1, (.t 5)), (1, 1, (.t 6))]), SN (.store 2 (.t 4) (.t 7))]
@[simp] noncomputable def ir : IR := (.seq (.ops r0) (.seq (.ops r1) .ret))
@[simp] noncomputable def rs : List RV := [.cell 4 true 2]
theorem comp : compF Pg cfg Tryz.f30 = some (ir, rs, 8) := by kernel_rfl
theorem enter {args : List AVal} {h : Heap} {K : AEnd → Heap → Prop} (F : Nat) (hl : args.length ≤ 8) (a : AW ⟨Pg, F, 8, false, []⟩ ir (RetK rs K) (initT args) [] h) : ACalls Pg fn_law03_find args h K :=
  ACalls.of_comp follows Tryz.func30 comp hl a
theorem pure {args : List AVal} {v : AVal} (hl : args.length ≤ 8) (a : AW ⟨Pg, 0, 8, false, []⟩ ir (RetK rs fun e _ => e = .ret v) (initT args) [] nilH) : APure Pg fn_law03_find args v :=
  APure.of_nil (enter 0 hl a)
end law03_find

namespace law03_ints
noncomputable def cfg : Cfg := { pure := pures, pcs := [], raw := [], cuts := [], draws := [], keep := [] }
@[simp] noncomputable def r0 (_ : Unit) : List Stp := [S 4 (.mv (.c (.bool false)))]
@[simp] noncomputable def r1 (_ : Unit) : List Stp := [S 5 (.mv (.t 0)), S 6 (.mv (.t 1)), SP 7 (.call (.c (.func (.func fn_ref01_Ints) [] [])) [(.t 5), (.t 6)]), S 4 (.mv (.t 7))]
@[simp] noncomputable def ir : IR := (.seq (.ops r0) (.seq (.ops r1) .ret))
@[simp] noncomputable def rs : List RV := [.tmp 4]
theorem comp : compF Pg cfg Tryz.f31 = some (ir, rs, 8) := by kernel_rfl
theorem enter {args : List AVal} {h : Heap} {K : AEnd → Heap → Prop} (F : Nat) (hl : args.length ≤ 8) (a : AW ⟨Pg, F, 8, false, []⟩ ir (RetK rs K) (initT args) [] h) : ACalls Pg fn_law03_ints args h K :=
  ACalls.of_comp follows Tryz.func31 comp hl a
theorem pure {args : List AVal} {v : AVal} (hl : args.length ≤ 8) (a : AW ⟨Pg, 0, 8, false, []⟩ ir (RetK rs fun e _ => e = .ret v) (initT args) [] nilH) : APure Pg fn_law03_ints args v :=
  APure.of_nil (enter 0 hl a)
end law03_ints

namespace law03_long
noncomputable def cfg : Cfg := { pure := pures, pcs := [], raw := [], cuts := [], draws := [], keep := [] }
@[simp] noncomputable def r0 (_ : Unit) : List Stp := [S 3 (.box (.t 0)), S 6 (.mv (.c (.bool false)))]
@[simp] noncomputable def r1 (_ : Unit) : List Stp := [S 10 (.fAddr 0 (.t 3)), S 11 (.fAddr 0 (.t 10)), S 12 (.load false 1 (.t 11)), S 13 (.len (.t 12)), S 14 (.fAddr 0 (.t 3)), S 15 (.fAddr 1 (.t 14)), S 16 (.load false 1 (.t 15)), S 17 (.len (.t 16)), S 18 (.fAddr 2 (.t 3)), S 19 (.load false 1 (.t 18)), S 20 (.len (.t 19)), S 21 (.mv (.t 1)), S 22 (.len (.t 21)), S 23 (.mm true [(.t 13), (.t 17), (.t 20), (.t 22)]), S 7 (.mv (.t 23))]
@[simp] noncomputable def r2 (_ : Unit) : List Stp := [S 24 (.mv (.t 2)), S 25 (.len (.t 24)), S 26 (.mv (.c (.int .i64 0)))]
@[simp] noncomputable def r3 (_ : Unit) : List Stp := [S 27 (.bin .lss (.t 26) (.t 25))]
@[simp] noncomputable def r4 (_ : Unit) : List Stp := [S 28 (.ixS 1 (.t 24) (.t 26)), S 29 (.load false 1 (.t 28)), S 9 (.mv (.t 29))]
@[simp] noncomputable def r5 (_ : Unit) : List Stp := [S 30 (.mv (.t 7)), S 31 (.mv (.t 9)), S 32 (.len (.t 31)), S 33 (.mm true [(.t 30), (.t 32)]), S 7 (.mv (.t 33))]
@[simp] noncomputable def r6 (_ : Unit) : List Stp := [S 34 (.bin .add (.t 26) (.c (.int .i64 1))), S 26 (.mv (.t 34))]
@[simp] noncomputable def r7 (_ : Unit) : List Stp := [S 35 (.mv (.t 7)), S 36 (.bin .gtr (.t 35) (.c (.int .i64 40))), S 6 (.mv (.t 36))]
@[simp] noncomputable def ir : IR := (.seq (.ops r0) (.seq (.ops r1) (.seq (.seq (.ops r2) (.block 0 (.loop (.seq (.ops r3) (.seq (.cond (.t 27) .skip (.exit 0)) (.seq (.block 1 (.seq (.ops r4) (.ops r5))) (.ops r6))))))) (.seq (.ops r7) .ret))))
@[simp] noncomputable def rs : List RV := [.tmp 6]
theorem comp : compF Pg cfg Tryz.f32 = some (ir, rs, 37) := by kernel_rfl
theorem enter {args : List AVal} {h : Heap} {K : AEnd → Heap → Prop} (F : Nat) (hl : args.length ≤ 37) (a : AW ⟨Pg, F, 37, false, []⟩ ir (RetK rs K) (initT args) [] h) : ACalls Pg fn_law03_long args h K :=
  ACalls.of_comp follows Tryz.func32 comp hl a
theorem pure {args : List AVal} {v : AVal} (hl : args.length ≤ 37) (a : AW ⟨Pg, 0, 37, false, []⟩ ir (RetK rs fun e _ => e = .ret v) (initT args) [] nilH) : APure Pg fn_law03_long args v :=
  APure.of_nil (enter 0 hl a)
end law03_long

namespace ref03_Rake
noncomputable def cfg : Cfg := { pure := pures, pcs := [], raw := [], cuts := [], draws := [], keep := [] }
@[simp] noncomputable def r0 (_ : Unit) : List Stp := [S 1 (.box (.t 0)), S 2 (.mv (.c (.bool false)))]
@[simp] noncomputable def r1 (_ : Unit) : List Stp := [S 4 (.fAddr 0 (.t 1)), S 5 (.load true 2 (.t 4)), SP 6 (.call (.c (.func (.func fn_ref01_Hull) [] [])) [(.t 5)]), S 7 (.un .not (.t 6)), S 8 (.mv (.t 7)), SG 9 8 false (.fAddr 2 (.t 1)), SG 10 8 false (.load false 1 (.t 9)), SG 11 8 false (.len (.t 10)), SG 12 8 false (.fAddr 0 (.t 1)), SG 13 8 false (.fAddr 0 (.t 12)), SG 14 8 false (.load false 1 (.t 13)), SG 15 8 false (.len (.t 14)), SG 16 8 false (.bin .neq (.t 11) (.t 15)), S 17 (.pick (.t 8) (.c (.bool true)) (.t 16))]
@[simp] noncomputable def r2 (_ : Unit) : List Stp := [S 2 (.mv (.c (.bool false)))]
@[simp] noncomputable def r3 (_ : Unit) : List Stp := [S 3 (.mv (.c (.int .i64 0)))]
@[simp] noncomputable def r4 (_ : Unit) : List Stp := [S 18 (.mv (.t 3)), S 19 (.fAddr 2 (.t 1)), S 20 (.load false 1 (.t 19)), S 21 (.len (.t 20)), S 22 (.bin .lss (.t 18) (.t 21))]
@[simp] noncomputable def r6 (_ : Unit) : List Stp := [S 25 (.fAddr 2 (.t 1)), S 26 (.load false 1 (.t 25)), S 27 (.mv (.t 3)), S 28 (.ixS 1 (.t 26) (.t 27)), S 29 (.load false 1 (.t 28)), SP 30 (.call (.c (.func (.func fn_ref03_in) [] [])) [(.t 29), (.c (.int .i64 1)), (.c (.int .i64 20))]), S 31 (.un .not (.t 30))]
@[simp] noncomputable def r7 (_ : Unit) : List Stp := [S 2 (.mv (.c (.bool false)))]
@[simp] noncomputable def r5 (_ : Unit) : List Stp := [S 23 (.mv (.t 3)), S 24 (.bin .add (.t 23) (.c (.int .i64 1))), S 3 (.mv (.t 24))]
@[simp] noncomputable def r8 (_ : Unit) : List Stp := [S 2 (.mv (.c (.bool true)))]
@[simp] noncomputable def ir : IR := (.seq (.ops r0) (.seq (.seq (.ops r1) (.cond (.t 17) (.seq (.ops r2) .ret) .skip)) (.seq (.seq (.ops r3) (.block 0 (.loop (.seq (.seq (.ops r4) (.cond (.t 22) .skip (.exit 0))) (.seq (.block 1 (.seq (.ops r6) (.cond (.t 31) (.seq (.ops r7) .ret) .skip))) (.ops r5)))))) (.seq (.ops r8) .ret))))
@[simp] noncomputable def rs : List RV := [.tmp 2]
theorem comp : compF Pg cfg Tryz.f33 = some (ir, rs, 32) := by kernel_rfl
theorem enter {args : List AVal} {h : Heap} {K : AEnd → Heap → Prop} (F : Nat) (hl : args.length ≤ 32) (a : AW ⟨Pg, F, 32, false, []⟩ ir (RetK rs K) (initT args) [] h) : ACalls Pg fn_ref03_Rake args h K :=
  ACalls.of_comp follows Tryz.func33 comp hl a
theorem pure {args : List AVal} {v : AVal} (hl : args.length ≤ 32) (a : AW ⟨Pg, 0, 32, false, []⟩ ir (RetK rs fun e _ => e = .ret v) (initT args) [] nilH) : APure Pg fn_ref03_Rake args v :=
  APure.of_nil (enter 0 hl a)
end ref03_Rake

namespace leak_Sets
noncomputable def cfg : Cfg := { pure := pures, pcs := [], raw := [], cuts := [], draws := [], keep := [2, 3] }
@[simp] noncomputable def r0 (_ : Unit) : List Stp := [S 1 (.box (.t 0)), S 2 (.mv (.c .nils)), S 3 (.alloc [(.int .i64 0)])]
@[simp] noncomputable def r1 (_ : Unit) : List Stp := [S 4 (.mkF (.func fn_leak_Sets_1) [] [(.t 3)]), SN (.defer (.t 4) [])]
@[simp] noncomputable def r2 (_ : Unit) : List Stp := [S 5 (.load true 2 (.t 1)), S 6 (.call (.c (.func (.func fn_leak_open) [] [])) [(.t 5), (.c (.bool true))]), S 7 (.call (.c (.func (.func fn_leak_hull_sets) [] [])) [(.t 6)]), S 2 (.mv (.t 7)), SN (.store 1 (.t 3) (.c (.int .i64 0)))]
@[simp] noncomputable def ir : IR := (.seq (.ops r0) (.seq (.ops r1) (.seq (.ops r2) .ret)))
@[simp] noncomputable def rs : List RV := [.tmp 2, .cell 3 false 1]
theorem comp : compF Pg cfg Tryz.f34 = some (ir, rs, 8) := by kernel_rfl
theorem enter {args : List AVal} {h : Heap} {K : AEnd → Heap → Prop} (F : Nat) (hl : args.length ≤ 8) (a : AW ⟨Pg, F, 8, false, [2, 3]⟩ ir (RetD Pg rs K) (initT args) [] h) : ACalls Pg fn_leak_Sets args h K :=
  ACalls.of_comp_defer follows Tryz.func34 comp hl a
theorem pure {args : List AVal} {v : AVal} (hl : args.length ≤ 8) (a : AW ⟨Pg, 0, 8, false, [2, 3]⟩ ir (RetD Pg rs fun e _ => e = .ret v) (initT args) [] nilH) : APure Pg fn_leak_Sets args v :=
  APure.of_nil (enter 0 hl a)
end leak_Sets

namespace law03_finding
noncomputable def cfg : Cfg := { pure := pures, pcs := [], raw := [], cuts := [], draws := [], keep := [] }
@[simp] noncomputable def r0 (_ : Unit) : List Stp := [S 4 (.alloc [(.int .i64 0), (.bool false)])]
@[simp] noncomputable def r1 (_ : Unit) : List Stp := [S 5 (.mv (.t 0)), S 6 (.mv (.t 1)), S 7 (.mv (.t 0)), S 8 (.bin .shr (.t 6) (.t 7)), S 9 (.bin .and (.t 8) (.c (.int .i64 1))), S 10 (.bin .eql (.t 9) (.c (.int .i64 1))), SP 11 (.call (.c (.func (.func fn_law03_find) [] [])) [(.t 5), (.t 10)]), SN (.store 2 (.t 4) (.t 11))]
@[simp] noncomputable def ir : IR := (.seq (.ops r0) (.seq (.ops r1) .ret))
@[simp] noncomputable def rs : List RV := [.cell 4 true 2]
theorem comp : compF Pg cfg Tryz.f35 = some (ir, rs, 12) := by kernel_rfl
theorem enter {args : List AVal} {h : Heap} {K : AEnd → Heap → Prop} (F : Nat) (hl : args.length ≤ 12) (a : AW ⟨Pg, F, 12, false, []⟩ ir (RetK rs K) (initT args) [] h) : ACalls Pg fn_law03_finding args h K :=
  ACalls.of_comp follows Tryz.func35 comp hl a
theorem pure {args : List AVal} {v : AVal} (hl : args.length ≤ 12) (a : AW ⟨Pg, 0, 12, false, []⟩ ir (RetK rs fun e _ => e = .ret v) (initT args) [] nilH) : APure Pg fn_law03_finding args v :=
  APure.of_nil (enter 0 hl a)
end law03_finding










namespace rake_Known_1
noncomputable def cfg : Cfg := { pure := pures, pcs := [], raw := [], cuts := [], draws := [], keep := [] }
@[simp] noncomputable def r0 (_ : Unit) : List Stp := [S 1 (.recov), S 2 (.call (.c (.func (.func fn_rake_said) [] [])) [(.t 1), (.t 0)])]
@[simp] noncomputable def ir : IR := (.ops r0)
@[simp] noncomputable def rs : List RV := []
theorem comp : compF Pg cfg Tryz.f45 = some (ir, rs, 3) := by kernel_rfl
theorem enter {args : List AVal} {h : Heap} {K : AEnd → Heap → Prop} (F : Nat) (hl : args.length ≤ 3) (a : AW ⟨Pg, F, 3, false, []⟩ ir (RetK rs K) (initT args) [] h) : ACalls Pg fn_rake_Known_1 args h K :=
  ACalls.of_comp follows Tryz.func45 comp hl a
theorem pure {args : List AVal} {v : AVal} (hl : args.length ≤ 3) (a : AW ⟨Pg, 0, 3, false, []⟩ ir (RetK rs fun e _ => e = .ret v) (initT args) [] nilH) : APure Pg fn_rake_Known_1 args v :=
  APure.of_nil (enter 0 hl a)
theorem recClo : RecClo Pg fn_rake_Known_1 fn_rake_said := ⟨_, Tryz.func45, by kernel_rfl⟩
end rake_Known_1

namespace rake_said
noncomputable def cfg : Cfg := { pure := pures, pcs := [], raw := [], cuts := [], draws := [], keep := [] }
@[simp] noncomputable def r0 (_ : Unit) : List Stp := [S 6 (.mv (.t 0)), S 7 (.eqN .i false (.t 6))]
@[simp] noncomputable def r1 (_ : Unit) : List Stp := [S 9 (.mv (.t 0)), S 10 (.tyAs 133 true (.agg [(.int .i64 0)]) (.t 9)), S 8 (.mv (.t 10)), S 11 (.ext (.t 8) 0), S 12 (.ext (.t 8) 1), S 4 (.alloc [(.int .i64 0)]), SN (.store 1 (.t 4) (.t 11)), S 5 (.mv (.t 12))]
@[simp] noncomputable def r2 (_ : Unit) : List Stp := [S 13 (.mv (.t 5)), S 14 (.un .not (.t 13))]
@[simp] noncomputable def r3 (_ : Unit) : List Stp := [S 15 (.mv (.t 0)), SN (.panic (.t 15))]
@[simp] noncomputable def r4 (_ : Unit) : List Stp := [S 16 (.mv (.t 1)), S 17 (.fAddr 0 (.t 4)), S 18 (.load false 1 (.t 17)), S 19 (.nilck Pg (.t 16)), SN (.store 1 (.t 19) (.t 18))]
@[simp] noncomputable def ir : IR := (.seq (.seq (.ops r0) (.cond (.t 7) .ret .skip)) (.seq (.ops r1) (.seq (.seq (.ops r2) (.cond (.t 14) (.ops r3) .skip)) (.ops r4))))
@[simp] noncomputable def rs : List RV := []
theorem comp : compF Pg cfg Tryz.f46 = some (ir, rs, 20) := by kernel_rfl
theorem enter {args : List AVal} {h : Heap} {K : AEnd → Heap → Prop} (F : Nat) (hl : args.length ≤ 20) (a : AW ⟨Pg, F, 20, false, []⟩ ir (RetK rs K) (initT args) [] h) : ACalls Pg fn_rake_said args h K :=
  ACalls.of_comp follows Tryz.func46 comp hl a
theorem pure {args : List AVal} {v : AVal} (hl : args.length ≤ 20) (a : AW ⟨Pg, 0, 20, false, []⟩ ir (RetK rs fun e _ => e = .ret v) (initT args) [] nilH) : APure Pg fn_rake_said args v :=
  APure.of_nil (enter 0 hl a)
end rake_said

namespace rake_open
noncomputable def cfg : Cfg := { pure := pures, pcs := [], raw := [], cuts := [], draws := [(3, [⟨0, false, [], []⟩, ⟨1, false, [], []⟩, ⟨2, false, [], []⟩, ⟨3, false, [], []⟩, ⟨4, false, [], []⟩, ⟨5, false, [], []⟩, ⟨6, false, [], []⟩]), (14, [⟨0, false, [], []⟩, ⟨2, false, [], []⟩, ⟨1, false, [], []⟩, ⟨3, false, [], []⟩])], keep := [] }
@[simp] noncomputable def r0 (_ : Unit) : List Stp := [S 3 (.box (.t 0)), S 6 (.mv (.c .nilp)), S 7 (.alloc [(.int .i64 0), (.int .i64 0)])]
@[simp] noncomputable def r1 (_ : Unit) : List Stp := [S 14 (.load true 3 (.t 3)), S 15 (.mv (.t 1)), S 16 (.mv (.t 2)), S 17 (.call (.c (.func (.func fn_rake_check) [] [])) [(.t 14), (.t 15), (.t 16)])]
@[simp] noncomputable def r2 (_ : Unit) : List Stp := [S 18 (.fAddr 2 (.t 3)), S 19 (.load false 1 (.t 18)), S 20 (.len (.t 19)), S 21 (.build [(.int .i64 0), (.int .i64 0), (.int .i64 0), (.int .i64 0), (.int .i64 0), (.int .i64 0), (.int .i64 0), .nils] [(6, 1, (.t 20))]), S 22 (.box (.t 21)), S 8 (.mv (.t 22))]
@[simp] noncomputable def r3 (_ : Unit) : List Stp := [S 23 (.mv (.t 8)), S 24 (.nilck Pg (.t 23)), S 25 (.fAddr 0 (.t 24)), S 26 (.slA 6 1 (.t 25) none none none), S 27 (.fAddr 2 (.t 3)), S 28 (.load false 1 (.t 27)), S 29 (.copy 1 (.t 26) (.t 28))]
@[simp] noncomputable def r4 (_ : Unit) : List Stp := [S 31 (.fAddr 0 (.t 3)), S 32 (.load true 2 (.t 31)), SP 33 (.call (.c (.func (.func fn_leak_Sets) [] [])) [(.t 32)]), S 30 (.mv (.t 33)), S 34 (.ext (.t 30) 0), S 35 (.ext (.t 30) 1), S 9 (.mv (.t 34)), S 10 (.mv (.t 35))]
@[simp] noncomputable def r5 (_ : Unit) : List Stp := [S 36 (.mv (.t 10)), S 37 (.bin .eql (.t 36) (.c (.int .i64 0))), S 38 (.mv (.t 10)), S 39 (.call (.c (.func (.func fn_rake_want) [] [])) [(.t 37), (.t 38)])]
@[simp] noncomputable def r6 (_ : Unit) : List Stp := [S 40 (.mv (.t 8)), S 41 (.mv (.t 9)), S 42 (.nilck Pg (.t 40)), S 43 (.fAddr 7 (.t 42)), SN (.store 1 (.t 43) (.t 41))]
@[simp] noncomputable def r7 (_ : Unit) : List Stp := [S 11 (.alloc [(.int .i64 0), (.int .i64 0)])]
@[simp] noncomputable def r8 (_ : Unit) : List Stp := [S 44 (.mv (.t 1)), S 45 (.len (.t 44)), S 46 (.mv (.c (.int .i64 0)))]
@[simp] noncomputable def r9 (_ : Unit) : List Stp := [S 47 (.bin .lss (.t 46) (.t 45))]
@[simp] noncomputable def r10 (_ : Unit) : List Stp := [S 48 (.ixS 2 (.t 44) (.t 46)), S 49 (.load true 2 (.t 48)), S 13 (.alloc [(.int .i64 0), (.bool false)]), SN (.store 2 (.t 13) (.t 49))]
@[simp] noncomputable def r11 (_ : Unit) : List Stp := [S 50 (.load true 2 (.t 11)), S 51 (.fAddr 0 (.t 13)), S 52 (.load false 1 (.t 51)), S 53 (.fAddr 1 (.t 13)), S 54 (.load false 1 (.t 53)), SP 55 (.call (.c (.func (.func fn_rake_known_with) [] [])) [(.t 50), (.t 52), (.t 54)]), SN (.store 2 (.t 11) (.t 55))]
@[simp] noncomputable def r12 (_ : Unit) : List Stp := [S 56 (.bin .add (.t 46) (.c (.int .i64 1))), S 46 (.mv (.t 56))]
@[simp] noncomputable def r13 (_ : Unit) : List Stp := [S 57 (.mv (.t 8)), S 58 (.load true 2 (.t 11)), S 59 (.call (.c (.func (.func fn_rake_hull_agreeing) [] [])) [(.t 57), (.t 58)]), S 60 (.len (.t 59)), S 61 (.bin .gtr (.t 60) (.c (.int .i64 0))), S 62 (.call (.c (.func (.func fn_rake_want) [] [])) [(.t 61), (.c (.int .i64 10))])]
@[simp] noncomputable def r14 (_ : Unit) : List Stp := [S 63 (.mv (.t 8)), S 6 (.mv (.t 63)), S 64 (.load true 2 (.t 11)), SN (.store 2 (.t 7) (.t 64))]
@[simp] noncomputable def ir : IR := (.seq (.ops r0) (.seq (.ops r1) (.seq (.ops r2) (.seq (.ops r3) (.seq (.ops r4) (.seq (.ops r5) (.seq (.ops r6) (.seq (.ops r7) (.seq (.seq (.ops r8) (.block 0 (.loop (.seq (.ops r9) (.seq (.cond (.t 47) .skip (.exit 0)) (.seq (.block 1 (.seq (.ops r10) (.ops r11))) (.ops r12))))))) (.seq (.ops r13) (.seq (.ops r14) .ret)))))))))))
@[simp] noncomputable def rs : List RV := [.tmp 6, .cell 7 true 2]
theorem comp : compF Pg cfg Tryz.f47 = some (ir, rs, 65) := by kernel_rfl
theorem enter {args : List AVal} {h : Heap} {K : AEnd → Heap → Prop} (F : Nat) (hl : args.length ≤ 65) (a : AW ⟨Pg, F, 65, false, []⟩ ir (RetK rs K) (initT args) [] h) : ACalls Pg fn_rake_open args h K :=
  ACalls.of_comp follows Tryz.func47 comp hl a
theorem pure {args : List AVal} {v : AVal} (hl : args.length ≤ 65) (a : AW ⟨Pg, 0, 65, false, []⟩ ir (RetK rs fun e _ => e = .ret v) (initT args) [] nilH) : APure Pg fn_rake_open args v :=
  APure.of_nil (enter 0 hl a)
end rake_open

namespace rake_hull_agreeing
noncomputable def cfg : Cfg := { pure := pures, pcs := [], raw := [], cuts := [], draws := [], keep := [] }
@[simp] noncomputable def r0 (_ : Unit) : List Stp := [S 3 (.box (.t 1)), S 4 (.mv (.c .nils))]
@[simp] noncomputable def r1 (_ : Unit) : List Stp := [S 7 (.mv (.t 0)), S 8 (.nilck Pg (.t 7)), S 9 (.fAddr 7 (.t 8)), S 10 (.load false 1 (.t 9)), S 11 (.len (.t 10)), S 12 (.mv (.c (.int .i64 0)))]
@[simp] noncomputable def r2 (_ : Unit) : List Stp := [S 13 (.bin .lss (.t 12) (.t 11))]
@[simp] noncomputable def r3 (_ : Unit) : List Stp := [S 14 (.ixS 1 (.t 10) (.t 12)), S 15 (.load false 1 (.t 14)), S 6 (.mv (.t 15))]
@[simp] noncomputable def r4 (_ : Unit) : List Stp := [S 16 (.load true 2 (.t 3)), S 17 (.mv (.t 6)), SP 18 (.call (.c (.func (.func fn_rake_known_agrees) [] [])) [(.t 16), (.t 17)])]
@[simp] noncomputable def r5 (_ : Unit) : List Stp := [S 19 (.mv (.t 4)), S 20 (.mv (.t 6)), S 21 (.bsl 1 [(.int .i64 0)] [(0, 1, (.t 20))]), S 22 (.app 1 8 (.t 19) (.t 21)), S 4 (.mv (.t 22))]
@[simp] noncomputable def r6 (_ : Unit) : List Stp := [S 23 (.bin .add (.t 12) (.c (.int .i64 1))), S 12 (.mv (.t 23))]
@[simp] noncomputable def r7 (_ : Unit) : List Stp := [S 24 (.mv (.t 4)), S 4 (.mv (.t 24))]
@[simp] noncomputable def ir : IR := (.seq (.ops r0) (.seq (.seq (.ops r1) (.block 0 (.loop (.seq (.ops r2) (.seq (.cond (.t 13) .skip (.exit 0)) (.seq (.block 1 (.seq (.ops r3) (.seq (.ops r4) (.cond (.t 18) (.ops r5) .skip)))) (.ops r6))))))) (.seq (.ops r7) .ret)))
@[simp] noncomputable def rs : List RV := [.tmp 4]
theorem comp : compF Pg cfg Tryz.f48 = some (ir, rs, 25) := by kernel_rfl
theorem enter {args : List AVal} {h : Heap} {K : AEnd → Heap → Prop} (F : Nat) (hl : args.length ≤ 25) (a : AW ⟨Pg, F, 25, false, []⟩ ir (RetK rs K) (initT args) [] h) : ACalls Pg fn_rake_hull_agreeing args h K :=
  ACalls.of_comp follows Tryz.func48 comp hl a
theorem pure {args : List AVal} {v : AVal} (hl : args.length ≤ 25) (a : AW ⟨Pg, 0, 25, false, []⟩ ir (RetK rs fun e _ => e = .ret v) (initT args) [] nilH) : APure Pg fn_rake_hull_agreeing args v :=
  APure.of_nil (enter 0 hl a)
end rake_hull_agreeing


namespace rake_Next_1
noncomputable def cfg : Cfg := { pure := pures, pcs := [], raw := [], cuts := [], draws := [], keep := [] }
@[simp] noncomputable def r0 (_ : Unit) : List Stp := [S 1 (.recov), S 2 (.call (.c (.func (.func fn_rake_said) [] [])) [(.t 1), (.t 0)])]
@[simp] noncomputable def ir : IR := (.ops r0)
@[simp] noncomputable def rs : List RV := []
theorem comp : compF Pg cfg Tryz.f50 = some (ir, rs, 3) := by kernel_rfl
theorem enter {args : List AVal} {h : Heap} {K : AEnd → Heap → Prop} (F : Nat) (hl : args.length ≤ 3) (a : AW ⟨Pg, F, 3, false, []⟩ ir (RetK rs K) (initT args) [] h) : ACalls Pg fn_rake_Next_1 args h K :=
  ACalls.of_comp follows Tryz.func50 comp hl a
theorem pure {args : List AVal} {v : AVal} (hl : args.length ≤ 3) (a : AW ⟨Pg, 0, 3, false, []⟩ ir (RetK rs fun e _ => e = .ret v) (initT args) [] nilH) : APure Pg fn_rake_Next_1 args v :=
  APure.of_nil (enter 0 hl a)
theorem recClo : RecClo Pg fn_rake_Next_1 fn_rake_said := ⟨_, Tryz.func50, by kernel_rfl⟩
end rake_Next_1

namespace rake_want
noncomputable def cfg : Cfg := { pure := pures, pcs := [], raw := [], cuts := [], draws := [], keep := [] }
@[simp] noncomputable def r0 (_ : Unit) : List Stp := [S 4 (.mv (.t 0)), S 5 (.un .not (.t 4))]
@[simp] noncomputable def r1 (_ : Unit) : List Stp := [S 6 (.mv (.t 1)), S 7 (.build [(.int .i64 0)] [(0, 1, (.t 6))]), S 8 (.mkI 133 (.t 7)), SN (.panic (.t 8))]
@[simp] noncomputable def ir : IR := (.seq (.ops r0) (.cond (.t 5) (.ops r1) .skip))
@[simp] noncomputable def rs : List RV := []
theorem comp : compF Pg cfg Tryz.f51 = some (ir, rs, 9) := by kernel_rfl
theorem enter {args : List AVal} {h : Heap} {K : AEnd → Heap → Prop} (F : Nat) (hl : args.length ≤ 9) (a : AW ⟨Pg, F, 9, false, []⟩ ir (RetK rs K) (initT args) [] h) : ACalls Pg fn_rake_want args h K :=
  ACalls.of_comp follows Tryz.func51 comp hl a
theorem pure {args : List AVal} {v : AVal} (hl : args.length ≤ 9) (a : AW ⟨Pg, 0, 9, false, []⟩ ir (RetK rs fun e _ => e = .ret v) (initT args) [] nilH) : APure Pg fn_rake_want args v :=
  APure.of_nil (enter 0 hl a)
end rake_want

namespace rake_hull_plan
noncomputable def cfg : Cfg := { pure := pures, pcs := [], raw := [], cuts := [], draws := [], keep := [] }
@[simp] noncomputable def r0 (_ : Unit) : List Stp := [S 2 (.box (.t 0)), S 3 (.box (.t 1)), S 4 (.mv (.c .nilf))]
@[simp] noncomputable def r1 (_ : Unit) : List Stp := [S 7 (.mkmap), S 5 (.alloc [.nilm]), SN (.store 1 (.t 5) (.t 7))]
@[simp] noncomputable def r2 (_ : Unit) : List Stp := [S 6 (.alloc [.nilf])]
@[simp] noncomputable def r3 (_ : Unit) : List Stp := [S 8 (.mkF (.func fn_rake_hull_plan_1) [] [(.t 2), (.t 3), (.t 5), (.t 6)]), SN (.store 1 (.t 6) (.t 8))]
@[simp] noncomputable def r4 (_ : Unit) : List Stp := [S 9 (.load false 1 (.t 6)), S 4 (.mv (.t 9))]
@[simp] noncomputable def ir : IR := (.seq (.ops r0) (.seq (.ops r1) (.seq (.ops r2) (.seq (.ops r3) (.seq (.ops r4) .ret)))))
@[simp] noncomputable def rs : List RV := [.tmp 4]
theorem comp : compF Pg cfg Tryz.f52 = some (ir, rs, 10) := by kernel_rfl
theorem enter {args : List AVal} {h : Heap} {K : AEnd → Heap → Prop} (F : Nat) (hl : args.length ≤ 10) (a : AW ⟨Pg, F, 10, false, []⟩ ir (RetK rs K) (initT args) [] h) : ACalls Pg fn_rake_hull_plan args h K :=
  ACalls.of_comp follows Tryz.func52 comp hl a
theorem pure {args : List AVal} {v : AVal} (hl : args.length ≤ 10) (a : AW ⟨Pg, 0, 10, false, []⟩ ir (RetK rs fun e _ => e = .ret v) (initT args) [] nilH) : APure Pg fn_rake_hull_plan args v :=
  APure.of_nil (enter 0 hl a)
end rake_hull_plan



namespace rake_Worst_1
noncomputable def cfg : Cfg := { pure := pures, pcs := [], raw := [], cuts := [], draws := [], keep := [] }
@[simp] noncomputable def r0 (_ : Unit) : List Stp := [S 1 (.recov), S 2 (.call (.c (.func (.func fn_rake_said) [] [])) [(.t 1), (.t 0)])]
@[simp] noncomputable def ir : IR := (.ops r0)
@[simp] noncomputable def rs : List RV := []
theorem comp : compF Pg cfg Tryz.f55 = some (ir, rs, 3) := by kernel_rfl
theorem enter {args : List AVal} {h : Heap} {K : AEnd → Heap → Prop} (F : Nat) (hl : args.length ≤ 3) (a : AW ⟨Pg, F, 3, false, []⟩ ir (RetK rs K) (initT args) [] h) : ACalls Pg fn_rake_Worst_1 args h K :=
  ACalls.of_comp follows Tryz.func55 comp hl a
theorem pure {args : List AVal} {v : AVal} (hl : args.length ≤ 3) (a : AW ⟨Pg, 0, 3, false, []⟩ ir (RetK rs fun e _ => e = .ret v) (initT args) [] nilH) : APure Pg fn_rake_Worst_1 args v :=
  APure.of_nil (enter 0 hl a)
theorem recClo : RecClo Pg fn_rake_Worst_1 fn_rake_said := ⟨_, Tryz.func55, by kernel_rfl⟩
end rake_Worst_1

namespace rake_Any_1
noncomputable def cfg : Cfg := { pure := pures, pcs := [], raw := [], cuts := [], draws := [], keep := [] }
@[simp] noncomputable def r0 (_ : Unit) : List Stp := [S 1 (.recov), S 2 (.call (.c (.func (.func fn_rake_said) [] [])) [(.t 1), (.t 0)])]
@[simp] noncomputable def ir : IR := (.ops r0)
@[simp] noncomputable def rs : List RV := []
theorem comp : compF Pg cfg Tryz.f56 = some (ir, rs, 3) := by kernel_rfl
theorem enter {args : List AVal} {h : Heap} {K : AEnd → Heap → Prop} (F : Nat) (hl : args.length ≤ 3) (a : AW ⟨Pg, F, 3, false, []⟩ ir (RetK rs K) (initT args) [] h) : ACalls Pg fn_rake_Any_1 args h K :=
  ACalls.of_comp follows Tryz.func56 comp hl a
theorem pure {args : List AVal} {v : AVal} (hl : args.length ≤ 3) (a : AW ⟨Pg, 0, 3, false, []⟩ ir (RetK rs fun e _ => e = .ret v) (initT args) [] nilH) : APure Pg fn_rake_Any_1 args v :=
  APure.of_nil (enter 0 hl a)
theorem recClo : RecClo Pg fn_rake_Any_1 fn_rake_said := ⟨_, Tryz.func56, by kernel_rfl⟩
end rake_Any_1

namespace slices_Contains_int_int
noncomputable def cfg : Cfg := { pure := pures, pcs := [], raw := [], cuts := [], draws := [], keep := [] }
@[simp] noncomputable def r0 (_ : Unit) : List Stp := [S 4 (.mv (.c (.bool false)))]
@[simp] noncomputable def r1 (_ : Unit) : List Stp := [S 5 (.mv (.t 0)), S 6 (.mv (.t 1)), S 7 (.call (.c (.func (.func fn_slices_Index_int_int) [] [])) [(.t 5), (.t 6)]), S 8 (.bin .geq (.t 7) (.c (.int .i64 0))), S 4 (.mv (.t 8))]
@[simp] noncomputable def ir : IR := (.seq (.ops r0) (.seq (.ops r1) .ret))
@[simp] noncomputable def rs : List RV := [.tmp 4]
theorem comp : compF Pg cfg Tryz.f57 = some (ir, rs, 9) := by kernel_rfl
theorem enter {args : List AVal} {h : Heap} {K : AEnd → Heap → Prop} (F : Nat) (hl : args.length ≤ 9) (a : AW ⟨Pg, F, 9, false, []⟩ ir (RetK rs K) (initT args) [] h) : ACalls Pg fn_slices_Contains_int_int args h K :=
  ACalls.of_comp follows Tryz.func57 comp hl a
theorem pure {args : List AVal} {v : AVal} (hl : args.length ≤ 9) (a : AW ⟨Pg, 0, 9, false, []⟩ ir (RetK rs fun e _ => e = .ret v) (initT args) [] nilH) : APure Pg fn_slices_Contains_int_int args v :=
  APure.of_nil (enter 0 hl a)
end slices_Contains_int_int

namespace rake_Cost_1
noncomputable def cfg : Cfg := { pure := pures, pcs := [], raw := [], cuts := [], draws := [], keep := [] }
@[simp] noncomputable def r0 (_ : Unit) : List Stp := [S 1 (.recov), S 2 (.call (.c (.func (.func fn_rake_said) [] [])) [(.t 1), (.t 0)])]
@[simp] noncomputable def ir : IR := (.ops r0)
@[simp] noncomputable def rs : List RV := []
theorem comp : compF Pg cfg Tryz.f58 = some (ir, rs, 3) := by kernel_rfl
theorem enter {args : List AVal} {h : Heap} {K : AEnd → Heap → Prop} (F : Nat) (hl : args.length ≤ 3) (a : AW ⟨Pg, F, 3, false, []⟩ ir (RetK rs K) (initT args) [] h) : ACalls Pg fn_rake_Cost_1 args h K :=
  ACalls.of_comp follows Tryz.func58 comp hl a
theorem pure {args : List AVal} {v : AVal} (hl : args.length ≤ 3) (a : AW ⟨Pg, 0, 3, false, []⟩ ir (RetK rs fun e _ => e = .ret v) (initT args) [] nilH) : APure Pg fn_rake_Cost_1 args v :=
  APure.of_nil (enter 0 hl a)
theorem recClo : RecClo Pg fn_rake_Cost_1 fn_rake_said := ⟨_, Tryz.func58, by kernel_rfl⟩
end rake_Cost_1

namespace rake_isOrder
noncomputable def cfg : Cfg := { pure := pures, pcs := [], raw := [], cuts := [], draws := [], keep := [] }
@[simp] noncomputable def r0 (_ : Unit) : List Stp := [S 2 (.box (.t 0)), S 4 (.mv (.c (.bool false)))]
@[simp] noncomputable def r1 (_ : Unit) : List Stp := [S 8 (.mv (.t 1)), S 9 (.call (.c (.func (.func fn_slices_Clone_int_int) [] [])) [(.t 8)]), S 5 (.mv (.t 9))]
@[simp] noncomputable def r2 (_ : Unit) : List Stp := [S 10 (.mv (.t 5)), S 11 (.call (.c (.func (.func fn_slices_Sort_int_int) [] [])) [(.t 10)])]
@[simp] noncomputable def r3 (_ : Unit) : List Stp := [S 12 (.mv (.t 5)), S 13 (.len (.t 12)), S 14 (.mv (.c (.int .i64 0)))]
@[simp] noncomputable def r4 (_ : Unit) : List Stp := [S 15 (.bin .lss (.t 14) (.t 13))]
@[simp] noncomputable def r5 (_ : Unit) : List Stp := [S 16 (.mv (.t 14)), S 17 (.ixS 1 (.t 12) (.t 14)), S 18 (.load false 1 (.t 17)), S 6 (.mv (.t 16)), S 7 (.mv (.t 18))]
@[simp] noncomputable def r6 (_ : Unit) : List Stp := [S 19 (.mv (.t 6)), S 20 (.mv (.t 7)), S 21 (.bin .neq (.t 19) (.t 20))]
@[simp] noncomputable def r7 (_ : Unit) : List Stp := [S 4 (.mv (.c (.bool false)))]
@[simp] noncomputable def r8 (_ : Unit) : List Stp := [S 22 (.bin .add (.t 14) (.c (.int .i64 1))), S 14 (.mv (.t 22))]
@[simp] noncomputable def r9 (_ : Unit) : List Stp := [S 23 (.mv (.t 1)), S 24 (.len (.t 23)), S 25 (.fAddr 2 (.t 2)), S 26 (.load false 1 (.t 25)), S 27 (.len (.t 26)), S 28 (.bin .eql (.t 24) (.t 27)), S 4 (.mv (.t 28))]
@[simp] noncomputable def ir : IR := (.seq (.ops r0) (.seq (.ops r1) (.seq (.ops r2) (.seq (.seq (.ops r3) (.block 0 (.loop (.seq (.ops r4) (.seq (.cond (.t 15) .skip (.exit 0)) (.seq (.block 1 (.seq (.ops r5) (.seq (.ops r6) (.cond (.t 21) (.seq (.ops r7) .ret) .skip)))) (.ops r8))))))) (.seq (.ops r9) .ret)))))
@[simp] noncomputable def rs : List RV := [.tmp 4]
theorem comp : compF Pg cfg Tryz.f59 = some (ir, rs, 29) := by kernel_rfl
theorem enter {args : List AVal} {h : Heap} {K : AEnd → Heap → Prop} (F : Nat) (hl : args.length ≤ 29) (a : AW ⟨Pg, F, 29, false, []⟩ ir (RetK rs K) (initT args) [] h) : ACalls Pg fn_rake_isOrder args h K :=
  ACalls.of_comp follows Tryz.func59 comp hl a
theorem pure {args : List AVal} {v : AVal} (hl : args.length ≤ 29) (a : AW ⟨Pg, 0, 29, false, []⟩ ir (RetK rs fun e _ => e = .ret v) (initT args) [] nilH) : APure Pg fn_rake_isOrder args v :=
  APure.of_nil (enter 0 hl a)
end rake_isOrder

namespace rake_hull_cost
noncomputable def cfg : Cfg := { pure := pures, pcs := [], raw := [], cuts := [], draws := [(5, [⟨0, false, [], []⟩, ⟨2, false, [], []⟩, ⟨1, false, [], []⟩, ⟨3, false, [], []⟩, ⟨4, false, [], [1]⟩, ⟨5, false, [], []⟩]), (7, [⟨1, false, [], []⟩, ⟨2, false, [], []⟩, ⟨3, false, [], []⟩, ⟨4, false, [], []⟩, ⟨5, false, [], []⟩, ⟨6, false, [], []⟩, ⟨0, false, [], []⟩, ⟨7, false, [], []⟩, ⟨8, false, [], []⟩])], keep := [] }
@[simp] noncomputable def r0 (_ : Unit) : List Stp := [S 6 (.mv (.c (.int .i64 0)))]
@[simp] noncomputable def r1 (_ : Unit) : List Stp := [S 7 (.alloc [(.int .i64 0), (.int .i64 0)])]
@[simp] noncomputable def r2 (_ : Unit) : List Stp := [S 10 (.mv (.t 1)), S 11 (.len (.t 10)), S 12 (.mv (.c (.int .i64 0)))]
@[simp] noncomputable def r3 (_ : Unit) : List Stp := [S 13 (.bin .lss (.t 12) (.t 11))]
@[simp] noncomputable def r4 (_ : Unit) : List Stp := [S 14 (.ixS 1 (.t 10) (.t 12)), S 15 (.load false 1 (.t 14)), S 9 (.mv (.t 15))]
@[simp] noncomputable def r5 (_ : Unit) : List Stp := [S 16 (.build [] []), S 18 (.mv (.t 0)), S 17 (.load true 2 (.t 7)), S 19 (.load true 2 (.t 7)), SD (some 20) (.call (.c (.func (.func fn_rake_hull_agreeing) [] [])) [(.t 18), (.t 19)]) false [] [I 17 (.load true 2 (.t 7))], SP 21 (.call (.c (.func (.func fn_rake_all_done) [] [])) [(.t 16), (.t 17), (.t 20)])]
@[simp] noncomputable def r6 (_ : Unit) : List Stp := [S 22 (.mv (.t 6)), S 23 (.mv (.t 0)), S 24 (.nilck Pg (.t 23)), S 25 (.fAddr 0 (.t 24)), S 26 (.load true 6 (.t 25)), S 27 (.mv (.t 9)), SP 28 (.call (.c (.func (.func fn_rake_lengths_of) [] [])) [(.t 26), (.t 27)]), S 29 (.bin .add (.t 22) (.t 28)), S 6 (.mv (.t 29))]
@[simp] noncomputable def r7 (_ : Unit) : List Stp := [S 31 (.mv (.t 9)), S 32 (.mv (.t 2)), S 33 (.mv (.t 9)), S 34 (.bin .shr (.t 32) (.t 33)), S 35 (.bin .and (.t 34) (.c (.int .i64 1))), S 36 (.bin .eql (.t 35) (.c (.int .i64 1))), S 30 (.load true 2 (.t 7)), SP 37 (.call (.c (.func (.func fn_rake_known_with) [] [])) [(.t 30), (.t 31), (.t 36)]), SN (.store 2 (.t 7) (.t 37))]
@[simp] noncomputable def r8 (_ : Unit) : List Stp := [S 38 (.bin .add (.t 12) (.c (.int .i64 1))), S 12 (.mv (.t 38))]
@[simp] noncomputable def r9 (_ : Unit) : List Stp := [S 39 (.mv (.t 6)), S 6 (.mv (.t 39))]
@[simp] noncomputable def ir : IR := (.seq (.ops r0) (.seq (.ops r1) (.seq (.seq (.ops r2) (.block 0 (.loop (.seq (.ops r3) (.seq (.cond (.t 13) .skip (.exit 0)) (.seq (.block 1 (.seq (.ops r4) (.seq (.seq (.ops r5) (.cond (.t 21) (.exit 0) .skip)) (.seq (.ops r6) (.ops r7))))) (.ops r8))))))) (.seq (.ops r9) .ret))))
@[simp] noncomputable def rs : List RV := [.tmp 6]
theorem comp : compF Pg cfg Tryz.f60 = some (ir, rs, 40) := by kernel_rfl
theorem enter {args : List AVal} {h : Heap} {K : AEnd → Heap → Prop} (F : Nat) (hl : args.length ≤ 40) (a : AW ⟨Pg, F, 40, false, []⟩ ir (RetK rs K) (initT args) [] h) : ACalls Pg fn_rake_hull_cost args h K :=
  ACalls.of_comp follows Tryz.func60 comp hl a
theorem pure {args : List AVal} {v : AVal} (hl : args.length ≤ 40) (a : AW ⟨Pg, 0, 40, false, []⟩ ir (RetK rs fun e _ => e = .ret v) (initT args) [] nilH) : APure Pg fn_rake_hull_cost args v :=
  APure.of_nil (enter 0 hl a)
end rake_hull_cost



namespace rake_Order_1
noncomputable def cfg : Cfg := { pure := pures, pcs := [], raw := [], cuts := [], draws := [], keep := [] }
@[simp] noncomputable def r0 (_ : Unit) : List Stp := [S 1 (.recov), S 2 (.call (.c (.func (.func fn_rake_said) [] [])) [(.t 1), (.t 0)])]
@[simp] noncomputable def ir : IR := (.ops r0)
@[simp] noncomputable def rs : List RV := []
theorem comp : compF Pg cfg Tryz.f63 = some (ir, rs, 3) := by kernel_rfl
theorem enter {args : List AVal} {h : Heap} {K : AEnd → Heap → Prop} (F : Nat) (hl : args.length ≤ 3) (a : AW ⟨Pg, F, 3, false, []⟩ ir (RetK rs K) (initT args) [] h) : ACalls Pg fn_rake_Order_1 args h K :=
  ACalls.of_comp follows Tryz.func63 comp hl a
theorem pure {args : List AVal} {v : AVal} (hl : args.length ≤ 3) (a : AW ⟨Pg, 0, 3, false, []⟩ ir (RetK rs fun e _ => e = .ret v) (initT args) [] nilH) : APure Pg fn_rake_Order_1 args v :=
  APure.of_nil (enter 0 hl a)
theorem recClo : RecClo Pg fn_rake_Order_1 fn_rake_said := ⟨_, Tryz.func63, by kernel_rfl⟩
end rake_Order_1

namespace rake_Order_2
noncomputable def cfg : Cfg := { pure := pures, pcs := [], raw := [], cuts := [], draws := [(5, [⟨0, false, [], []⟩, ⟨7, false, [], []⟩, ⟨1, false, [], []⟩, ⟨2, false, [], []⟩, ⟨3, false, [], []⟩, ⟨4, false, [], []⟩, ⟨5, false, [], []⟩, ⟨6, false, [], []⟩, ⟨8, false, [], []⟩, ⟨9, false, [], []⟩, ⟨10, false, [], []⟩, ⟨11, false, [], []⟩])], keep := [] }
@[simp] noncomputable def r0 (_ : Unit) : List Stp := [S 2 (.box (.t 0)), S 3 (.mv (.c (.int .i64 0)))]
@[simp] noncomputable def r1 (_ : Unit) : List Stp := [S 4 (.mv (.c (.int .i64 0)))]
@[simp] noncomputable def r2 (_ : Unit) : List Stp := [S 7 (.load false 1 (.t 1)), S 8 (.nilck Pg (.t 7)), S 9 (.fAddr 7 (.t 8)), S 10 (.load false 1 (.t 9)), S 11 (.len (.t 10)), S 12 (.mv (.c (.int .i64 0)))]
@[simp] noncomputable def r3 (_ : Unit) : List Stp := [S 13 (.bin .lss (.t 12) (.t 11))]
@[simp] noncomputable def r4 (_ : Unit) : List Stp := [S 14 (.ixS 1 (.t 10) (.t 12)), S 15 (.load false 1 (.t 14)), S 6 (.mv (.t 15))]
@[simp] noncomputable def r5 (_ : Unit) : List Stp := [S 16 (.mv (.t 4)), S 23 (.mv (.t 6)), S 17 (.load false 1 (.t 1)), S 18 (.load false 1 (.t 1)), S 19 (.nilck Pg (.t 18)), S 20 (.fAddr 6 (.t 19)), S 21 (.load false 1 (.t 20)), S 22 (.slA 6 1 (.t 2) none (some (.t 21)) none), SP 24 (.call (.c (.func (.func fn_rake_hull_cost) [] [])) [(.t 17), (.t 22), (.t 23)]), S 25 (.bsl 2 [(.int .i64 0), (.int .i64 0)] [(0, 1, (.t 16)), (1, 1, (.t 24))]), S 26 (.call (.c (.func (.func fn_rake_greatest) [] [])) [(.t 25)]), S 4 (.mv (.t 26))]
@[simp] noncomputable def r6 (_ : Unit) : List Stp := [S 27 (.bin .add (.t 12) (.c (.int .i64 1))), S 12 (.mv (.t 27))]
@[simp] noncomputable def r7 (_ : Unit) : List Stp := [S 28 (.mv (.t 4)), S 3 (.mv (.t 28))]
@[simp] noncomputable def ir : IR := (.seq (.ops r0) (.seq (.ops r1) (.seq (.seq (.ops r2) (.block 0 (.loop (.seq (.ops r3) (.seq (.cond (.t 13) .skip (.exit 0)) (.seq (.block 1 (.seq (.ops r4) (.ops r5))) (.ops r6))))))) (.seq (.ops r7) .ret))))
@[simp] noncomputable def rs : List RV := [.tmp 3]
theorem comp : compF Pg cfg Tryz.f64 = some (ir, rs, 29) := by kernel_rfl
theorem enter {args : List AVal} {h : Heap} {K : AEnd → Heap → Prop} (F : Nat) (hl : args.length ≤ 29) (a : AW ⟨Pg, F, 29, false, []⟩ ir (RetK rs K) (initT args) [] h) : ACalls Pg fn_rake_Order_2 args h K :=
  ACalls.of_comp follows Tryz.func64 comp hl a
theorem pure {args : List AVal} {v : AVal} (hl : args.length ≤ 29) (a : AW ⟨Pg, 0, 29, false, []⟩ ir (RetK rs fun e _ => e = .ret v) (initT args) [] nilH) : APure Pg fn_rake_Order_2 args v :=
  APure.of_nil (enter 0 hl a)
end rake_Order_2

namespace rake_greatest
noncomputable def cfg : Cfg := { pure := pures, pcs := [], raw := [], cuts := [], draws := [], keep := [] }
@[simp] noncomputable def r0 (_ : Unit) : List Stp := [S 2 (.mv (.c (.int .i64 0)))]
@[simp] noncomputable def r1 (_ : Unit) : List Stp := [S 3 (.mv (.t 0)), S 4 (.bsl 1 [(.int .i64 0)] [(0, 1, (.c (.int .i64 0)))]), S 5 (.app 1 8 (.t 3) (.t 4)), S 6 (.call (.c (.func (.func fn_slices_Max_int_int) [] [])) [(.t 5)]), S 2 (.mv (.t 6))]
@[simp] noncomputable def ir : IR := (.seq (.ops r0) (.seq (.ops r1) .ret))
@[simp] noncomputable def rs : List RV := [.tmp 2]
theorem comp : compF Pg cfg Tryz.f65 = some (ir, rs, 7) := by kernel_rfl
theorem enter {args : List AVal} {h : Heap} {K : AEnd → Heap → Prop} (F : Nat) (hl : args.length ≤ 7) (a : AW ⟨Pg, F, 7, false, []⟩ ir (RetK rs K) (initT args) [] h) : ACalls Pg fn_rake_greatest args h K :=
  ACalls.of_comp follows Tryz.func65 comp hl a
theorem pure {args : List AVal} {v : AVal} (hl : args.length ≤ 7) (a : AW ⟨Pg, 0, 7, false, []⟩ ir (RetK rs fun e _ => e = .ret v) (initT args) [] nilH) : APure Pg fn_rake_greatest args v :=
  APure.of_nil (enter 0 hl a)
end rake_greatest

namespace rake_hull_orders
noncomputable def cfg : Cfg := { pure := pures, pcs := [], raw := [], cuts := [], draws := [], keep := [] }
@[simp] noncomputable def r0 (_ : Unit) : List Stp := [S 1 (.box (.t 0)), S 2 (.mv (.c .nilf))]
@[simp] noncomputable def r1 (_ : Unit) : List Stp := [S 3 (.mkF (.func fn_rake_hull_orders_1) [] [(.t 1)]), S 2 (.mv (.t 3))]
@[simp] noncomputable def ir : IR := (.seq (.ops r0) (.seq (.ops r1) .ret))
@[simp] noncomputable def rs : List RV := [.tmp 2]
theorem comp : compF Pg cfg Tryz.f66 = some (ir, rs, 4) := by kernel_rfl
theorem enter {args : List AVal} {h : Heap} {K : AEnd → Heap → Prop} (F : Nat) (hl : args.length ≤ 4) (a : AW ⟨Pg, F, 4, false, []⟩ ir (RetK rs K) (initT args) [] h) : ACalls Pg fn_rake_hull_orders args h K :=
  ACalls.of_comp follows Tryz.func66 comp hl a
theorem pure {args : List AVal} {v : AVal} (hl : args.length ≤ 4) (a : AW ⟨Pg, 0, 4, false, []⟩ ir (RetK rs fun e _ => e = .ret v) (initT args) [] nilH) : APure Pg fn_rake_hull_orders args v :=
  APure.of_nil (enter 0 hl a)
end rake_hull_orders

namespace rake_best_rake_line_see
noncomputable def cfg : Cfg := { pure := pures, pcs := [], raw := [], cuts := [], draws := [(1, [⟨0, false, [], []⟩, ⟨1, false, [], []⟩, ⟨2, false, [], []⟩, ⟨3, false, [], []⟩, ⟨4, false, [], []⟩, ⟨5, false, [], []⟩, ⟨6, false, [], []⟩]), (3, [⟨0, false, [], []⟩, ⟨1, false, [], []⟩, ⟨2, false, [], []⟩, ⟨4, false, [], []⟩, ⟨5, false, [], []⟩, ⟨6, false, [], []⟩, ⟨3, false, [], []⟩, ⟨7, false, [], [3]⟩, ⟨8, false, [], []⟩, ⟨9, false, [], []⟩, ⟨10, false, [], []⟩, ⟨11, false, [], []⟩, ⟨12, false, [], []⟩, ⟨13, false, [], []⟩])], keep := [] }
@[simp] noncomputable def r0 (_ : Unit) : List Stp := [S 3 (.box (.t 1))]
@[simp] noncomputable def r1 (_ : Unit) : List Stp := [S 5 (.mv (.t 0)), S 6 (.nilck Pg (.t 5)), S 7 (.fAddr 8 (.t 6)), S 8 (.load false 1 (.t 7)), S 9 (.load true 6 (.t 3)), S 10 (.call (.t 8) [(.t 9)]), S 4 (.mv (.t 10))]
@[simp] noncomputable def r2 (_ : Unit) : List Stp := [S 11 (.mv (.t 0)), S 12 (.nilck Pg (.t 11)), S 13 (.fAddr 0 (.t 12)), S 14 (.load false 1 (.t 13)), S 15 (.un .not (.t 14)), S 16 (.mv (.t 15)), SG 17 16 false (.mv (.t 4)), SG 18 16 false (.mv (.t 0)), SG 19 16 false (.nilck Pg (.t 18)), SG 20 16 false (.fAddr 7 (.t 19)), SG 21 16 false (.load false 1 (.t 20)), SG 22 16 false (.bin .lss (.t 17) (.t 21)), S 23 (.pick (.t 16) (.c (.bool true)) (.t 22))]
@[simp] noncomputable def r3 (_ : Unit) : List Stp := [S 24 (.mv (.t 0)), S 25 (.mv (.t 0)), S 26 (.mv (.t 0)), S 28 (.mv (.t 4)), S 29 (.nilck Pg (.t 24)), S 30 (.fAddr 0 (.t 29)), S 27 (.load true 6 (.t 3)), SD none (.store 1 (.t 30) (.c (.bool true))) false [] [I 27 (.load true 6 (.t 3))], S 31 (.nilck Pg (.t 25)), S 32 (.fAddr 1 (.t 31)), SN (.store 6 (.t 32) (.t 27)), S 33 (.nilck Pg (.t 26)), S 34 (.fAddr 7 (.t 33)), SN (.store 1 (.t 34) (.t 28))]
@[simp] noncomputable def ir : IR := (.seq (.ops r0) (.seq (.ops r1) (.seq (.ops r2) (.cond (.t 23) (.ops r3) .skip))))
@[simp] noncomputable def rs : List RV := []
theorem comp : compF Pg cfg Tryz.f67 = some (ir, rs, 35) := by kernel_rfl
theorem enter {args : List AVal} {h : Heap} {K : AEnd → Heap → Prop} (F : Nat) (hl : args.length ≤ 35) (a : AW ⟨Pg, F, 35, false, []⟩ ir (RetK rs K) (initT args) [] h) : ACalls Pg fn_rake_best_rake_line_see args h K :=
  ACalls.of_comp follows Tryz.func67 comp hl a
theorem pure {args : List AVal} {v : AVal} (hl : args.length ≤ 35) (a : AW ⟨Pg, 0, 35, false, []⟩ ir (RetK rs fun e _ => e = .ret v) (initT args) [] nilH) : APure Pg fn_rake_best_rake_line_see args v :=
  APure.of_nil (enter 0 hl a)
end rake_best_rake_line_see

namespace slices_Clone_int_int
noncomputable def cfg : Cfg := { pure := pures, pcs := [], raw := [], cuts := [], draws := [], keep := [] }
@[simp] noncomputable def r0 (_ : Unit) : List Stp := [S 2 (.mv (.c .nils))]
@[simp] noncomputable def r1 (_ : Unit) : List Stp := [S 3 (.mv (.t 0)), S 4 (.eqN .s false (.t 3))]
@[simp] noncomputable def r2 (_ : Unit) : List Stp := [S 2 (.mv (.c .nils))]
@[simp] noncomputable def r3 (_ : Unit) : List Stp := [S 5 (.bsl 0 [] []), S 6 (.mv (.t 0)), S 7 (.app 1 8 (.t 5) (.t 6)), S 2 (.mv (.t 7))]
@[simp] noncomputable def ir : IR := (.seq (.ops r0) (.seq (.seq (.ops r1) (.cond (.t 4) (.seq (.ops r2) .ret) .skip)) (.seq (.ops r3) .ret)))
@[simp] noncomputable def rs : List RV := [.tmp 2]
theorem comp : compF Pg cfg Tryz.f68 = some (ir, rs, 8) := by kernel_rfl
theorem enter {args : List AVal} {h : Heap} {K : AEnd → Heap → Prop} (F : Nat) (hl : args.length ≤ 8) (a : AW ⟨Pg, F, 8, false, []⟩ ir (RetK rs K) (initT args) [] h) : ACalls Pg fn_slices_Clone_int_int args h K :=
  ACalls.of_comp follows Tryz.func68 comp hl a
theorem pure {args : List AVal} {v : AVal} (hl : args.length ≤ 8) (a : AW ⟨Pg, 0, 8, false, []⟩ ir (RetK rs fun e _ => e = .ret v) (initT args) [] nilH) : APure Pg fn_slices_Clone_int_int args v :=
  APure.of_nil (enter 0 hl a)
end slices_Clone_int_int


namespace rake_Enough_1
noncomputable def cfg : Cfg := { pure := pures, pcs := [], raw := [], cuts := [], draws := [], keep := [] }
@[simp] noncomputable def r0 (_ : Unit) : List Stp := [S 1 (.recov), S 2 (.call (.c (.func (.func fn_rake_said) [] [])) [(.t 1), (.t 0)])]
@[simp] noncomputable def ir : IR := (.ops r0)
@[simp] noncomputable def rs : List RV := []
theorem comp : compF Pg cfg Tryz.f70 = some (ir, rs, 3) := by kernel_rfl
theorem enter {args : List AVal} {h : Heap} {K : AEnd → Heap → Prop} (F : Nat) (hl : args.length ≤ 3) (a : AW ⟨Pg, F, 3, false, []⟩ ir (RetK rs K) (initT args) [] h) : ACalls Pg fn_rake_Enough_1 args h K :=
  ACalls.of_comp follows Tryz.func70 comp hl a
theorem pure {args : List AVal} {v : AVal} (hl : args.length ≤ 3) (a : AW ⟨Pg, 0, 3, false, []⟩ ir (RetK rs fun e _ => e = .ret v) (initT args) [] nilH) : APure Pg fn_rake_Enough_1 args v :=
  APure.of_nil (enter 0 hl a)
theorem recClo : RecClo Pg fn_rake_Enough_1 fn_rake_said := ⟨_, Tryz.func70, by kernel_rfl⟩
end rake_Enough_1

end Go.Cw
end
