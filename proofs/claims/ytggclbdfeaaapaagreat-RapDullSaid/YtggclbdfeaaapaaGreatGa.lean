/-
  The program's functions in the small form.
-/
import Derived.Test.YtggclbdfeaaapaaGreatAd
import Derived.Test.YtggclbdfeaaapaaGreatProg
set_option linter.unusedVariables false
set_option linter.unusedSimpArgs false
set_option linter.unusedSectionVars false

/- The functions' numbers. Printed by a program of this seat's proofs. -/
section
namespace Go.Cw
open Go Go.Proofs

@[reducible] noncomputable def Pg : Program := Tryz.prog
theorem follows : Pg.follows .mixedOrders = true := by kernel_rfl
def fn_main_main : FuncId := 0
def fn_gosem_cut : FuncId := 1
def fn_gosem_cut_init : FuncId := 2
def fn_law13_RapTells : FuncId := 3
def fn_law13_RapWrongs : FuncId := 4
def fn_law13_RapTrue : FuncId := 5
def fn_law13_RapDull : FuncId := 6
def fn_law13_RapFewest : FuncId := 7
def fn_law13_RapNext : FuncId := 8
def fn_law13_RapWrong : FuncId := 9
def fn_law13_RapTurned : FuncId := 10
def fn_law13_RapSets : FuncId := 11
def fn_law13_long : FuncId := 12
def fn_law13_alive : FuncId := 13
def fn_rap_Dull : FuncId := 14
def fn_ref13_Dull : FuncId := 15
def fn_rap_Sets : FuncId := 16
def fn_ref13_Sets : FuncId := 17
def fn_rap_Open : FuncId := 18
def fn_ref13_Open : FuncId := 19
def fn_law13_ints : FuncId := 20
def fn_rap_Sound : FuncId := 21
def fn_ref13_Sound : FuncId := 22
def fn_rap_Fewest : FuncId := 23
def fn_ref13_Fewest : FuncId := 24
def fn_rap_Next : FuncId := 25
def fn_ref13_Next : FuncId := 26
def fn_rap_Wrong : FuncId := 27
def fn_ref13_Wrong : FuncId := 28
def fn_ref13_Rap : FuncId := 29
def fn_law13_draws : FuncId := 30
def fn_drive_Settle : FuncId := 31
def fn_law13_opened : FuncId := 32
def fn_law13_find : FuncId := 33
def fn_law13_hears : FuncId := 34
def fn_law13_RapFewest_1 : FuncId := 35
def fn_ref13_Size : FuncId := 36
def fn_law13_RapNext_1 : FuncId := 37
def fn_law13_RapWrong_1 : FuncId := 38
def fn_law13_RapSets_1 : FuncId := 39
def fn_drive_Opens : FuncId := 40
def fn_law13_sample : FuncId := 41
def fn_rap_Dull_1 : FuncId := 42
def fn_rap_said : FuncId := 43
def fn_rap_open : FuncId := 44
def fn_rap_around_dull : FuncId := 45
def fn_ref13_in : FuncId := 46
def fn_ref13_power : FuncId := 47
def fn_ref13_Hears : FuncId := 48
def fn_rap_Sets_1 : FuncId := 49
def fn_rap_hull_can : FuncId := 50
def fn_ref13_heard : FuncId := 51
def fn_ref13_opened : FuncId := 52
def fn_ref13_every : FuncId := 53
def fn_rap_Open_1 : FuncId := 54
def fn_rap_union : FuncId := 55
def fn_ref13_Has : FuncId := 56
def fn_ref13_Ints : FuncId := 57
def fn_rap_Sound_1 : FuncId := 58
def fn_rap_Fewest_1 : FuncId := 59
def fn_rap_best_int : FuncId := 60
def fn_rap_upTo : FuncId := 61
def fn_rap_hull_seams : FuncId := 62
def fn_rap_Fewest_2 : FuncId := 63
def fn_math_bits_OnesCount : FuncId := 64
def fn_slices_ContainsFunc_rap_sound_rap_sound : FuncId := 65
def fn_rap_Fewest_2_1 : FuncId := 66
def fn_rap_want : FuncId := 67
def fn_ref13_shows : FuncId := 68
def fn_rap_Next_1 : FuncId := 69
def fn_rap_Next_2 : FuncId := 70
def fn_rap_set_has : FuncId := 71
def fn_rap_within : FuncId := 72
def fn_rap_Wrong_1 : FuncId := 73
def fn_rap_hull_sounds : FuncId := 74
def fn_rap_Wrong_2 : FuncId := 75
def fn_rap_hull_heard : FuncId := 76
def fn_rap_hull_every : FuncId := 77
def fn_ref05_Drive : FuncId := 78
def fn_ref05_Seam : FuncId := 79
def fn_law13_draws_1 : FuncId := 80
def fn_drive_Settle_1 : FuncId := 81
def fn_drive_said : FuncId := 82
def fn_drive_open : FuncId := 83
def fn_drive_areBlows : FuncId := 84
def fn_drive_hull_settler : FuncId := 85
def fn_drive_settler_rest : FuncId := 86
def fn_drive_blowsOf : FuncId := 87
def fn_slices_Clone_int_int : FuncId := 88
def fn_drive_hull_seams : FuncId := 89
def fn_drive_Opens_1 : FuncId := 90
def fn_drive_hull_times : FuncId := 91
def fn_drive_rest_open : FuncId := 92
def fn_law13_span : FuncId := 93
def fn_drive_Times : FuncId := 94
def fn_ref05_Truths : FuncId := 95
def fn_ref05_Rest : FuncId := 96
def fn_rap_set_with : FuncId := 97
def fn_ref05_Ints : FuncId := 98
def fn_math_bits_OnesCount32 : FuncId := 99
def fn_math_bits_OnesCount64 : FuncId := 100
def fn_slices_IndexFunc_rap_sound_rap_sound : FuncId := 101
def fn_rap_hull_blows : FuncId := 102
def fn_slices_SortFunc_rap_sound_rap_sound : FuncId := 103
def fn_rap_hull_sounds_1 : FuncId := 104
def fn_rap_hull_ears : FuncId := 105
def fn_ref05_in : FuncId := 106
def fn_ref05_Beside : FuncId := 107
def fn_drive_want : FuncId := 108
def fn_drive_within : FuncId := 109
def fn_drive_isSeam : FuncId := 110
def fn_slices_Contains_2_int_2_int : FuncId := 111
def fn_drive_areBlows_1 : FuncId := 112
def fn_slices_ContainsFunc_int_int : FuncId := 113
def fn_drive_hull_opened : FuncId := 114
def fn_drive_blows_with : FuncId := 115
def fn_drive_hull_ends : FuncId := 116
def fn_drive_setOf : FuncId := 117
def fn_drive_Times_1 : FuncId := 118
def fn_ref05_truths : FuncId := 119
def fn_ref05_run : FuncId := 120
def fn_ref05_rising : FuncId := 121
def fn_rap_hull_blows_1 : FuncId := 122
def fn_rap_hull_blows_1_1 : FuncId := 123
def fn_slices_pdqsortCmpFunc_rap_sound : FuncId := 124
def fn_math_bits_Len : FuncId := 125
def fn_slices_Index_2_int_2_int : FuncId := 126
def fn_slices_IndexFunc_int_int : FuncId := 127
def fn_ref05_open : FuncId := 128
def fn_slices_insertionSortCmpFunc_rap_sound : FuncId := 129
def fn_slices_heapSortCmpFunc_rap_sound : FuncId := 130
def fn_slices_breakPatternsCmpFunc_rap_sound : FuncId := 131
def fn_slices_choosePivotCmpFunc_rap_sound : FuncId := 132
def fn_slices_reverseRangeCmpFunc_rap_sound : FuncId := 133
def fn_slices_partialInsertionSortCmpFunc_rap_sound : FuncId := 134
def fn_slices_partitionEqualCmpFunc_rap_sound : FuncId := 135
def fn_slices_partitionCmpFunc_rap_sound : FuncId := 136
def fn_math_bits_Len32 : FuncId := 137
def fn_math_bits_Len64 : FuncId := 138
def fn_slices_siftDownCmpFunc_rap_sound : FuncId := 139
def fn_slices_nextPowerOfTwo : FuncId := 140
def fn_slices_xorshift_Next : FuncId := 141
def fn_slices_medianAdjacentCmpFunc_rap_sound : FuncId := 142
def fn_slices_medianCmpFunc_rap_sound : FuncId := 143
def fn_slices_order2CmpFunc_rap_sound : FuncId := 144
def fn_runtime_boundsError_Error : FuncId := 145
def fn_runtime_boundsError_RuntimeError : FuncId := 146
def fn_runtime_errorString_Error : FuncId := 147
def fn_runtime_errorString_RuntimeError : FuncId := 148
def fn_runtime_plainError_Error : FuncId := 149
def fn_runtime_plainError_RuntimeError : FuncId := 150
def fn_runtime_errorAddressString_Error : FuncId := 151
def fn_runtime_errorAddressString_RuntimeError : FuncId := 152
def fn_runtime_TypeAssertionError_Error : FuncId := 153
def fn_runtime_TypeAssertionError_RuntimeError : FuncId := 154
def fn_runtime_PanicNilError_Error : FuncId := 155
def fn_runtime_PanicNilError_RuntimeError : FuncId := 156
def fn_abi_Type_Align : FuncId := 157
def fn_runtime_maps_unhashableTypeError_Error : FuncId := 158
def fn_runtime_maps_unhashableTypeError_RuntimeError : FuncId := 159
def fn_rap_nothing_hears : FuncId := 160
def fn_rap_knock_hears : FuncId := 161
def fn_abi_Kind_String : FuncId := 162
def pures : List Nat := [12, 13, 14, 15, 16, 17, 18, 19, 20, 21, 22, 23, 24, 25, 26, 27, 28, 29, 32, 33, 34, 36, 40, 45, 46, 47, 48, 51, 52, 53, 56, 57, 62, 64, 68, 71, 72, 77, 78, 79, 84, 87, 89, 91, 92, 93, 94, 95, 96, 97, 98, 99, 100, 106, 107, 109, 110, 111, 112, 113, 114, 115, 116, 120, 121, 126, 127, 128, 160, 161]

end Go.Cw
end

/- Functions in the small form. Printed by a program of this seat's proofs. -/
section
namespace Go.Cw
open Go Go.Proofs



namespace law13_RapTrue
noncomputable def cfg : Cfg := { pure := pures, pcs := [], raw := [], cuts := [], draws := [(12, [⟨0, false, [], []⟩, ⟨1, false, [], []⟩, ⟨3, false, [], []⟩, ⟨4, false, [], []⟩, ⟨6, false, [], []⟩, ⟨2, false, [], []⟩, ⟨5, false, [], []⟩, ⟨7, false, [], []⟩, ⟨8, false, [], []⟩, ⟨9, false, [], []⟩, ⟨10, false, [], [2]⟩, ⟨11, false, [], []⟩, ⟨12, false, [], []⟩, ⟨13, false, [], []⟩, ⟨14, false, [], []⟩]), (23, [⟨0, false, [], []⟩, ⟨2, false, [], []⟩, ⟨4, false, [], []⟩, ⟨5, false, [], []⟩, ⟨1, false, [], []⟩, ⟨3, false, [], []⟩, ⟨6, false, [], []⟩, ⟨7, false, [], []⟩, ⟨8, true, [], []⟩, ⟨9, false, [], []⟩, ⟨10, false, [], []⟩, ⟨11, false, [], []⟩])], keep := [] }
@[simp] noncomputable def r0 (_ : Unit) : List Stp := [S 2 (.box (.t 0)), S 4 (.mv (.c (.bool false)))]
@[simp] noncomputable def r1 (_ : Unit) : List Stp := [S 36 (.load true 4 (.t 2)), SP 37 (.call (.c (.func (.func fn_law13_long) [] [])) [(.t 36)])]
@[simp] noncomputable def r2 (_ : Unit) : List Stp := [SP 38 (.call (.c (.func (.func fn_law13_alive) [] [])) []), S 4 (.mv (.t 38))]
@[simp] noncomputable def r3 (_ : Unit) : List Stp := [S 39 (.load true 4 (.t 2)), SP 40 (.call (.c (.func (.func fn_ref13_Rap) [] [])) [(.t 39)]), S 41 (.un .not (.t 40))]
@[simp] noncomputable def r4 (_ : Unit) : List Stp := [S 43 (.load true 4 (.t 2)), SP 44 (.call (.c (.func (.func fn_rap_Sets) [] [])) [(.t 43)]), S 42 (.mv (.t 44)), S 45 (.ext (.t 42) 0), S 46 (.ext (.t 42) 1), S 5 (.mv (.t 45)), S 6 (.mv (.t 46))]
@[simp] noncomputable def r5 (_ : Unit) : List Stp := [S 48 (.load true 4 (.t 2)), SP 49 (.call (.c (.func (.func fn_rap_Sound) [] [])) [(.t 48)]), S 47 (.mv (.t 49)), S 50 (.ext (.t 47) 0), S 51 (.ext (.t 47) 1), S 7 (.mv (.t 50)), S 8 (.mv (.t 51))]
@[simp] noncomputable def r6 (_ : Unit) : List Stp := [S 52 (.mv (.t 6)), S 53 (.bin .eql (.t 52) (.c (.int .i64 1))), S 54 (.mv (.t 53)), SG 55 54 true (.mv (.t 8)), SG 56 54 true (.mv (.t 6)), SG 57 54 true (.bin .eql (.t 55) (.t 56)), S 58 (.pick (.t 54) (.t 57) (.c (.bool false))), S 59 (.mv (.t 58)), SG 60 59 true (.mv (.t 5)), SG 61 59 true (.len (.t 60)), SG 62 59 true (.bin .eql (.t 61) (.c (.int .i64 0))), S 63 (.pick (.t 59) (.t 62) (.c (.bool false))), S 64 (.mv (.t 63)), SG 65 64 true (.mv (.t 7)), SG 66 64 true (.bin .eql (.t 65) (.c (.int .i64 0))), S 67 (.pick (.t 64) (.t 66) (.c (.bool false))), S 68 (.mv (.t 67)), SGP 69 68 true (.call (.c (.func (.func fn_law13_alive) [] [])) []), S 70 (.pick (.t 68) (.t 69) (.c (.bool false))), S 4 (.mv (.t 70))]
@[simp] noncomputable def r7 (_ : Unit) : List Stp := [S 71 (.mv (.t 1)), S 72 (.call (.c (.func (.func fn_law13_draws) [] [])) [(.t 71)]), S 9 (.mv (.t 72))]
@[simp] noncomputable def r8 (_ : Unit) : List Stp := [S 10 (.mv (.c .nils))]
@[simp] noncomputable def r9 (_ : Unit) : List Stp := [S 73 (.fAddr 0 (.t 2)), S 74 (.fAddr 2 (.t 73)), S 75 (.load false 1 (.t 74)), S 76 (.len (.t 75)), S 77 (.mv (.c (.int .i64 0)))]
@[simp] noncomputable def r10 (_ : Unit) : List Stp := [S 78 (.bin .lss (.t 77) (.t 76))]
@[simp] noncomputable def r11 (_ : Unit) : List Stp := [S 79 (.ixS 2 (.t 75) (.t 77)), S 80 (.load true 2 (.t 79)), S 12 (.alloc [(.int .i64 0), (.int .i64 0)]), SN (.store 2 (.t 12) (.t 80))]
@[simp] noncomputable def r12 (_ : Unit) : List Stp := [S 81 (.mv (.t 10)), S 82 (.fAddr 0 (.t 12)), S 84 (.mv (.t 9)), S 85 (.fAddr 1 (.t 12)), S 87 (.fAddr 0 (.t 12)), S 83 (.load false 1 (.t 82)), S 86 (.load false 1 (.t 85)), S 88 (.load false 1 (.t 87)), S 89 (.bin .sub (.t 86) (.t 88)), S 90 (.bin .add (.t 89) (.c (.int .i64 1))), SD (some 91) (.call (.t 84) [(.t 90)]) false [] [I 83 (.load false 1 (.t 82))], S 92 (.bin .add (.t 83) (.t 91)), S 93 (.bsl 1 [(.int .i64 0)] [(0, 1, (.t 92))]), S 94 (.app 1 8 (.t 81) (.t 93)), S 10 (.mv (.t 94))]
@[simp] noncomputable def r13 (_ : Unit) : List Stp := [S 95 (.bin .add (.t 77) (.c (.int .i64 1))), S 77 (.mv (.t 95))]
@[simp] noncomputable def r14 (_ : Unit) : List Stp := [S 97 (.fAddr 0 (.t 2)), S 98 (.load true 3 (.t 97)), S 99 (.mv (.t 10)), S 100 (.call (.c (.func (.func fn_drive_Settle) [] [])) [(.t 98), (.t 99)]), S 96 (.mv (.t 100)), S 101 (.ext (.t 96) 0), S 102 (.ext (.t 96) 1), S 103 (.ext (.t 96) 2), S 13 (.mv (.t 101)), S 14 (.mv (.t 102)), S 15 (.mv (.t 103))]
@[simp] noncomputable def r15 (_ : Unit) : List Stp := [S 104 (.mv (.t 15)), S 105 (.bin .neq (.t 104) (.c (.int .i64 0))), S 106 (.mv (.t 105)), SG 107 106 false (.mv (.t 14)), SG 108 106 false (.len (.t 107)), SG 109 106 false (.mv (.t 10)), SG 110 106 false (.len (.t 109)), SG 111 106 false (.bin .neq (.t 108) (.t 110)), S 112 (.pick (.t 106) (.c (.bool true)) (.t 111))]
@[simp] noncomputable def r16 (_ : Unit) : List Stp := [S 4 (.mv (.c (.bool false)))]
@[simp] noncomputable def r17 (_ : Unit) : List Stp := [S 113 (.mv (.t 14)), SP 114 (.call (.c (.func (.func fn_law13_opened) [] [])) [(.t 113)]), S 16 (.mv (.t 114))]
@[simp] noncomputable def r18 (_ : Unit) : List Stp := [S 115 (.load true 4 (.t 2)), S 17 (.alloc [.nils, .nils, .nils, .nils]), SN (.store 4 (.t 17) (.t 115))]
@[simp] noncomputable def r19 (_ : Unit) : List Stp := [S 116 (.fAddr 3 (.t 17)), SN (.store 1 (.t 116) (.c .nils))]
@[simp] noncomputable def r20 (_ : Unit) : List Stp := [S 117 (.mv (.t 9)), S 118 (.call (.t 117) [(.c (.int .i64 11))]), S 119 (.mv (.c (.int .i64 0)))]
@[simp] noncomputable def r21 (_ : Unit) : List Stp := [S 120 (.bin .lss (.t 119) (.t 118))]
@[simp] noncomputable def r22 (_ : Unit) : List Stp := [S 121 (.mv (.t 9)), S 122 (.mv (.t 10)), S 123 (.len (.t 122)), S 124 (.call (.t 121) [(.t 123)]), S 18 (.mv (.t 124))]
@[simp] noncomputable def r23 (_ : Unit) : List Stp := [S 125 (.fAddr 3 (.t 17)), S 127 (.mv (.t 18)), S 129 (.mv (.t 16)), S 130 (.mv (.t 18)), S 126 (.load false 1 (.t 125)), S 128 (.load true 4 (.t 2)), SP 131 (.call (.c (.func (.func fn_law13_hears) [] [])) [(.t 128), (.t 129), (.t 130)]), SP 132 (.call (.c (.func (.func fn_law13_find) [] [])) [(.t 127), (.t 131)]), SD (some 133) (.bsl 1 [(.int .i64 0), (.bool false)] [(0, 2, (.t 132))]) true [] [], S 134 (.app 2 16 (.t 126) (.t 133)), S 135 (.fAddr 3 (.t 17)), SN (.store 1 (.t 135) (.t 134))]
@[simp] noncomputable def r24 (_ : Unit) : List Stp := [S 136 (.bin .add (.t 119) (.c (.int .i64 1))), S 119 (.mv (.t 136))]
@[simp] noncomputable def r25 (_ : Unit) : List Stp := [S 138 (.load true 4 (.t 17)), SP 139 (.call (.c (.func (.func fn_rap_Sets) [] [])) [(.t 138)]), S 137 (.mv (.t 139)), S 140 (.ext (.t 137) 0), S 141 (.ext (.t 137) 1), S 19 (.mv (.t 140)), S 20 (.mv (.t 141))]
@[simp] noncomputable def r26 (_ : Unit) : List Stp := [S 143 (.load true 4 (.t 17)), SP 144 (.call (.c (.func (.func fn_rap_Open) [] [])) [(.t 143)]), S 142 (.mv (.t 144)), S 145 (.ext (.t 142) 0), S 146 (.ext (.t 142) 1), S 147 (.ext (.t 142) 2), S 21 (.mv (.t 145)), S 22 (.mv (.t 146)), S 23 (.mv (.t 147))]
@[simp] noncomputable def r27 (_ : Unit) : List Stp := [S 149 (.load true 4 (.t 17)), SP 150 (.call (.c (.func (.func fn_rap_Sound) [] [])) [(.t 149)]), S 148 (.mv (.t 150)), S 151 (.ext (.t 148) 0), S 152 (.ext (.t 148) 1), S 24 (.mv (.t 151)), S 25 (.mv (.t 152))]
@[simp] noncomputable def r28 (_ : Unit) : List Stp := [S 154 (.load true 4 (.t 17)), SP 155 (.call (.c (.func (.func fn_rap_Fewest) [] [])) [(.t 154)]), S 153 (.mv (.t 155)), S 156 (.ext (.t 153) 0), S 157 (.ext (.t 153) 1), S 158 (.ext (.t 153) 2), S 26 (.mv (.t 156)), S 27 (.mv (.t 157)), S 28 (.mv (.t 158))]
@[simp] noncomputable def r29 (_ : Unit) : List Stp := [S 160 (.load true 4 (.t 17)), SP 161 (.call (.c (.func (.func fn_rap_Wrong) [] [])) [(.t 160)]), S 159 (.mv (.t 161)), S 162 (.ext (.t 159) 0), S 163 (.ext (.t 159) 1), S 29 (.mv (.t 162)), S 30 (.mv (.t 163))]
@[simp] noncomputable def r30 (_ : Unit) : List Stp := [S 164 (.mv (.t 20)), S 165 (.bin .neq (.t 164) (.c (.int .i64 0))), S 166 (.mv (.t 165)), SG 167 166 false (.mv (.t 23)), SG 168 166 false (.bin .neq (.t 167) (.c (.int .i64 0))), S 169 (.pick (.t 166) (.c (.bool true)) (.t 168)), S 170 (.mv (.t 169)), SG 171 170 false (.mv (.t 25)), SG 172 170 false (.bin .neq (.t 171) (.c (.int .i64 0))), S 173 (.pick (.t 170) (.c (.bool true)) (.t 172)), S 174 (.mv (.t 173)), SG 175 174 false (.mv (.t 28)), SG 176 174 false (.bin .neq (.t 175) (.c (.int .i64 0))), S 177 (.pick (.t 174) (.c (.bool true)) (.t 176)), S 178 (.mv (.t 177)), SG 179 178 false (.mv (.t 30)), SG 180 178 false (.bin .neq (.t 179) (.c (.int .i64 4))), S 181 (.pick (.t 178) (.c (.bool true)) (.t 180))]
@[simp] noncomputable def r31 (_ : Unit) : List Stp := [S 4 (.mv (.c (.bool false)))]
@[simp] noncomputable def r32 (_ : Unit) : List Stp := [S 31 (.mv (.c (.bool false)))]
@[simp] noncomputable def r33 (_ : Unit) : List Stp := [S 182 (.mv (.t 19)), S 183 (.len (.t 182)), S 184 (.mv (.c (.int .i64 0)))]
@[simp] noncomputable def r34 (_ : Unit) : List Stp := [S 185 (.bin .lss (.t 184) (.t 183))]
@[simp] noncomputable def r35 (_ : Unit) : List Stp := [S 186 (.ixS 1 (.t 182) (.t 184)), S 187 (.load false 1 (.t 186)), S 33 (.mv (.t 187))]
@[simp] noncomputable def r36 (_ : Unit) : List Stp := [S 188 (.mv (.t 31)), S 189 (.mv (.t 188)), SG 190 189 false (.mv (.t 33)), SG 191 189 false (.mv (.t 16)), SG 192 189 false (.bin .eql (.t 190) (.t 191)), S 193 (.pick (.t 189) (.c (.bool true)) (.t 192)), S 31 (.mv (.t 193))]
@[simp] noncomputable def r37 (_ : Unit) : List Stp := [S 194 (.bin .add (.t 184) (.c (.int .i64 1))), S 184 (.mv (.t 194))]
@[simp] noncomputable def r38 (_ : Unit) : List Stp := [S 34 (.mv (.c (.bool true)))]
@[simp] noncomputable def r39 (_ : Unit) : List Stp := [S 195 (.mv (.t 10)), S 196 (.len (.t 195)), S 197 (.mv (.c (.int .i64 0)))]
@[simp] noncomputable def r40 (_ : Unit) : List Stp := [S 198 (.bin .lss (.t 197) (.t 196))]
@[simp] noncomputable def r41 (_ : Unit) : List Stp := [S 199 (.mv (.t 197)), S 35 (.mv (.t 199))]
@[simp] noncomputable def r42 (_ : Unit) : List Stp := [S 200 (.mv (.t 34)), S 201 (.mv (.t 200)), SG 202 201 true (.mv (.t 27)), SG 203 201 true (.mv (.t 35)), SG 204 201 true (.bin .shr (.t 202) (.t 203)), SG 205 201 true (.bin .and (.t 204) (.c (.int .i64 1))), SG 206 201 true (.bin .eql (.t 205) (.c (.int .i64 0))), SG 207 201 true (.mv (.t 206)), SG 208 207 false (.load true 4 (.t 2)), SG 209 207 false (.mv (.t 16)), SG 210 207 false (.mv (.t 35)), SGP 211 207 false (.call (.c (.func (.func fn_law13_hears) [] [])) [(.t 208), (.t 209), (.t 210)]), SG 212 207 false (.un .not (.t 211)), SG 213 201 true (.pick (.t 207) (.c (.bool true)) (.t 212)), S 214 (.pick (.t 201) (.t 213) (.c (.bool false))), S 34 (.mv (.t 214))]
@[simp] noncomputable def r43 (_ : Unit) : List Stp := [S 215 (.bin .add (.t 197) (.c (.int .i64 1))), S 197 (.mv (.t 215))]
@[simp] noncomputable def r44 (_ : Unit) : List Stp := [S 216 (.mv (.t 31)), S 217 (.mv (.t 216)), SG 218 217 true (.mv (.t 16)), SG 219 217 true (.mv (.t 21)), SG 220 217 true (.bin .andNot (.t 218) (.t 219)), SG 221 217 true (.bin .eql (.t 220) (.c (.int .i64 0))), S 222 (.pick (.t 217) (.t 221) (.c (.bool false))), S 223 (.mv (.t 222)), SG 224 223 true (.mv (.t 22)), SG 225 223 true (.mv (.t 16)), SG 226 223 true (.bin .andNot (.t 224) (.t 225)), SG 227 223 true (.bin .eql (.t 226) (.c (.int .i64 0))), S 228 (.pick (.t 223) (.t 227) (.c (.bool false))), S 229 (.mv (.t 228)), SG 230 229 true (.mv (.t 24)), SG 231 229 true (.bin .neq (.t 230) (.c (.int .i64 2))), SG 232 229 true (.mv (.t 231)), SG 233 232 false (.mv (.t 16)), SG 234 232 false (.bin .eql (.t 233) (.c (.int .i64 0))), SG 235 229 true (.pick (.t 232) (.c (.bool true)) (.t 234)), S 236 (.pick (.t 229) (.t 235) (.c (.bool false))), S 237 (.mv (.t 236)), SG 238 237 true (.mv (.t 24)), SG 239 237 true (.bin .neq (.t 238) (.c (.int .i64 0))), SG 240 237 true (.mv (.t 239)), SG 241 240 false (.mv (.t 16)), SG 242 240 false (.bin .neq (.t 241) (.c (.int .i64 0))), SG 243 237 true (.pick (.t 240) (.c (.bool true)) (.t 242)), S 244 (.pick (.t 237) (.t 243) (.c (.bool false))), S 245 (.mv (.t 244)), SG 246 245 true (.mv (.t 34)), SG 247 245 true (.un .not (.t 246)), SG 248 245 true (.mv (.t 247)), SG 249 248 false (.mv (.t 16)), SG 250 248 false (.bin .eql (.t 249) (.c (.int .i64 0))), SG 251 245 true (.pick (.t 248) (.c (.bool true)) (.t 250)), S 252 (.pick (.t 245) (.t 251) (.c (.bool false))), S 253 (.mv (.t 252)), SGP 254 253 true (.call (.c (.func (.func fn_law13_alive) [] [])) []), S 255 (.pick (.t 253) (.t 254) (.c (.bool false))), S 4 (.mv (.t 255))]
@[simp] noncomputable def ir : IR := (.seq (.ops r0) (.seq (.seq (.ops r1) (.cond (.t 37) (.seq (.ops r2) .ret) .skip)) (.seq (.seq (.ops r3) (.cond (.t 41) (.seq (.ops r4) (.seq (.ops r5) (.seq (.ops r6) .ret))) .skip)) (.seq (.ops r7) (.seq (.ops r8) (.seq (.seq (.ops r9) (.block 0 (.loop (.seq (.ops r10) (.seq (.cond (.t 78) .skip (.exit 0)) (.seq (.block 1 (.seq (.ops r11) (.ops r12))) (.ops r13))))))) (.seq (.ops r14) (.seq (.seq (.ops r15) (.cond (.t 112) (.seq (.ops r16) .ret) .skip)) (.seq (.ops r17) (.seq (.ops r18) (.seq (.ops r19) (.seq (.seq (.ops r20) (.block 2 (.loop (.seq (.ops r21) (.seq (.cond (.t 120) .skip (.exit 2)) (.seq (.block 3 (.seq (.ops r22) (.ops r23))) (.ops r24))))))) (.seq (.ops r25) (.seq (.ops r26) (.seq (.ops r27) (.seq (.ops r28) (.seq (.ops r29) (.seq (.seq (.ops r30) (.cond (.t 181) (.seq (.ops r31) .ret) .skip)) (.seq (.ops r32) (.seq (.seq (.ops r33) (.block 4 (.loop (.seq (.ops r34) (.seq (.cond (.t 185) .skip (.exit 4)) (.seq (.block 5 (.seq (.ops r35) (.ops r36))) (.ops r37))))))) (.seq (.ops r38) (.seq (.seq (.ops r39) (.block 6 (.loop (.seq (.ops r40) (.seq (.cond (.t 198) .skip (.exit 6)) (.seq (.block 7 (.seq (.ops r41) (.ops r42))) (.ops r43))))))) (.seq (.ops r44) .ret)))))))))))))))))))))))
@[simp] noncomputable def rs : List RV := [.tmp 4]
theorem comp : compF Pg cfg Tryz.f5 = some (ir, rs, 256) := by kernel_rfl
theorem enter {args : List AVal} {h : Heap} {K : AEnd → Heap → Prop} (F : Nat) (hl : args.length ≤ 256) (a : AW ⟨Pg, F, 256, false, []⟩ ir (RetK rs K) (initT args) [] h) : ACalls Pg fn_law13_RapTrue args h K :=
  ACalls.of_comp follows Tryz.func5 comp hl a
theorem pure {args : List AVal} {v : AVal} (hl : args.length ≤ 256) (a : AW ⟨Pg, 0, 256, false, []⟩ ir (RetK rs fun e _ => e = .ret v) (initT args) [] nilH) : APure Pg fn_law13_RapTrue args v :=
  APure.of_nil (enter 0 hl a)
end law13_RapTrue

namespace law13_RapDull
noncomputable def cfg : Cfg := { pure := pures, pcs := [], raw := [], cuts := [], draws := [(16, [⟨0, false, [], []⟩, ⟨1, false, [], []⟩, ⟨2, false, [], []⟩, ⟨3, false, [], []⟩, ⟨4, false, [], []⟩, ⟨6, false, [], []⟩, ⟨7, false, [], []⟩, ⟨5, false, [], []⟩, ⟨8, false, [], []⟩, ⟨9, false, [], []⟩])], keep := [] }
@[simp] noncomputable def r0 (_ : Unit) : List Stp := [S 3 (.box (.t 0)), S 6 (.mv (.c (.bool false)))]
@[simp] noncomputable def r1 (_ : Unit) : List Stp := [S 22 (.load true 4 (.t 3)), SP 23 (.call (.c (.func (.func fn_law13_long) [] [])) [(.t 22)]), S 24 (.mv (.t 23)), SG 25 24 false (.load true 4 (.t 3)), SGP 26 24 false (.call (.c (.func (.func fn_ref13_Rap) [] [])) [(.t 25)]), SG 27 24 false (.un .not (.t 26)), S 28 (.pick (.t 24) (.c (.bool true)) (.t 27))]
@[simp] noncomputable def r2 (_ : Unit) : List Stp := [SP 29 (.call (.c (.func (.func fn_law13_alive) [] [])) []), S 6 (.mv (.t 29))]
@[simp] noncomputable def r3 (_ : Unit) : List Stp := [S 30 (.fAddr 0 (.t 3)), S 31 (.fAddr 0 (.t 30)), S 32 (.load false 1 (.t 31)), S 33 (.len (.t 32)), S 7 (.mv (.t 33))]
@[simp] noncomputable def r4 (_ : Unit) : List Stp := [S 34 (.mv (.t 7)), S 35 (.bin .shl (.c (.int .i64 1)) (.t 34)), S 36 (.bin .sub (.t 35) (.c (.int .i64 1))), S 8 (.mv (.t 36))]
@[simp] noncomputable def r5 (_ : Unit) : List Stp := [S 37 (.mv (.t 1)), S 38 (.conv .i64 (.t 37)), S 39 (.mv (.t 8)), S 40 (.bin .and (.t 38) (.t 39)), S 41 (.mv (.t 2)), S 42 (.conv .i64 (.t 41)), S 43 (.mv (.t 8)), S 44 (.bin .and (.t 42) (.t 43)), S 9 (.mv (.t 40)), S 10 (.mv (.t 44))]
@[simp] noncomputable def r6 (_ : Unit) : List Stp := [S 46 (.load true 4 (.t 3)), S 47 (.mv (.t 9)), SP 48 (.call (.c (.func (.func fn_rap_Dull) [] [])) [(.t 46), (.t 47)]), S 45 (.mv (.t 48)), S 49 (.ext (.t 45) 0), S 50 (.ext (.t 45) 1), S 11 (.mv (.t 49)), S 12 (.mv (.t 50))]
@[simp] noncomputable def r7 (_ : Unit) : List Stp := [S 52 (.load true 4 (.t 3)), S 53 (.mv (.t 10)), SP 54 (.call (.c (.func (.func fn_rap_Dull) [] [])) [(.t 52), (.t 53)]), S 51 (.mv (.t 54)), S 55 (.ext (.t 51) 0), S 56 (.ext (.t 51) 1), S 13 (.mv (.t 55)), S 14 (.mv (.t 56))]
@[simp] noncomputable def r8 (_ : Unit) : List Stp := [S 58 (.load true 4 (.t 3)), S 59 (.mv (.t 9)), S 60 (.mv (.t 10)), S 61 (.bin .or (.t 59) (.t 60)), SP 62 (.call (.c (.func (.func fn_rap_Dull) [] [])) [(.t 58), (.t 61)]), S 57 (.mv (.t 62)), S 63 (.ext (.t 57) 0), S 64 (.ext (.t 57) 1), S 15 (.mv (.t 63)), S 16 (.mv (.t 64))]
@[simp] noncomputable def r9 (_ : Unit) : List Stp := [S 66 (.load true 4 (.t 3)), S 67 (.mv (.t 8)), S 68 (.bin .add (.t 67) (.c (.int .i64 1))), SP 69 (.call (.c (.func (.func fn_rap_Dull) [] [])) [(.t 66), (.t 68)]), S 65 (.mv (.t 69)), S 70 (.ext (.t 65) 0), S 71 (.ext (.t 65) 1), S 17 (.mv (.t 70)), S 18 (.mv (.t 71))]
@[simp] noncomputable def r10 (_ : Unit) : List Stp := [S 73 (.load true 4 (.t 3)), SP 74 (.call (.c (.func (.func fn_rap_Dull) [] [])) [(.t 73), (.c (.int .i64 (-1)))]), S 72 (.mv (.t 74)), S 75 (.ext (.t 72) 0), S 76 (.ext (.t 72) 1), S 19 (.mv (.t 75)), S 20 (.mv (.t 76))]
@[simp] noncomputable def r11 (_ : Unit) : List Stp := [S 77 (.mv (.t 12)), S 78 (.bin .neq (.t 77) (.c (.int .i64 0))), S 79 (.mv (.t 78)), SG 80 79 false (.mv (.t 14)), SG 81 79 false (.bin .neq (.t 80) (.c (.int .i64 0))), S 82 (.pick (.t 79) (.c (.bool true)) (.t 81)), S 83 (.mv (.t 82)), SG 84 83 false (.mv (.t 16)), SG 85 83 false (.bin .neq (.t 84) (.c (.int .i64 0))), S 86 (.pick (.t 83) (.c (.bool true)) (.t 85)), S 87 (.mv (.t 86)), SG 88 87 false (.mv (.t 15)), SG 89 87 false (.mv (.t 11)), SG 90 87 false (.mv (.t 13)), SG 91 87 false (.bin .or (.t 89) (.t 90)), SG 92 87 false (.bin .neq (.t 88) (.t 91)), S 93 (.pick (.t 87) (.c (.bool true)) (.t 92)), S 94 (.mv (.t 93)), SG 95 94 false (.mv (.t 18)), SG 96 94 false (.bin .neq (.t 95) (.c (.int .i64 2))), S 97 (.pick (.t 94) (.c (.bool true)) (.t 96)), S 98 (.mv (.t 97)), SG 99 98 false (.mv (.t 20)), SG 100 98 false (.bin .neq (.t 99) (.c (.int .i64 2))), S 101 (.pick (.t 98) (.c (.bool true)) (.t 100)), S 102 (.mv (.t 101)), SG 103 102 false (.mv (.t 11)), SG 104 102 false (.mv (.t 8)), SG 105 102 false (.bin .andNot (.t 103) (.t 104)), SG 106 102 false (.bin .neq (.t 105) (.c (.int .i64 0))), S 107 (.pick (.t 102) (.c (.bool true)) (.t 106)), S 108 (.mv (.t 107)), SG 109 108 false (.mv (.t 9)), SG 110 108 false (.mv (.t 11)), SG 111 108 false (.bin .andNot (.t 109) (.t 110)), SG 112 108 false (.bin .neq (.t 111) (.c (.int .i64 0))), S 113 (.pick (.t 108) (.c (.bool true)) (.t 112))]
@[simp] noncomputable def r12 (_ : Unit) : List Stp := [S 6 (.mv (.c (.bool false)))]
@[simp] noncomputable def r13 (_ : Unit) : List Stp := [S 114 (.mv (.t 7)), S 115 (.mv (.c (.int .i64 0)))]
@[simp] noncomputable def r14 (_ : Unit) : List Stp := [S 116 (.bin .lss (.t 115) (.t 114))]
@[simp] noncomputable def r15 (_ : Unit) : List Stp := [S 117 (.mv (.t 115)), S 21 (.mv (.t 117))]
@[simp] noncomputable def r16 (_ : Unit) : List Stp := [S 118 (.mv (.t 11)), S 119 (.mv (.t 21)), S 120 (.bin .shr (.t 118) (.t 119)), S 121 (.bin .and (.t 120) (.c (.int .i64 1))), S 122 (.bin .eql (.t 121) (.c (.int .i64 1))), S 124 (.mv (.t 9)), S 125 (.mv (.t 21)), S 123 (.load true 4 (.t 3)), SP 126 (.call (.c (.func (.func fn_law13_hears) [] [])) [(.t 123), (.t 124), (.t 125)]), S 127 (.eqB true (.t 122) (.t 126))]
@[simp] noncomputable def r17 (_ : Unit) : List Stp := [S 6 (.mv (.c (.bool false)))]
@[simp] noncomputable def r18 (_ : Unit) : List Stp := [S 128 (.bin .add (.t 115) (.c (.int .i64 1))), S 115 (.mv (.t 128))]
@[simp] noncomputable def r19 (_ : Unit) : List Stp := [SP 129 (.call (.c (.func (.func fn_law13_alive) [] [])) []), S 6 (.mv (.t 129))]
@[simp] noncomputable def ir : IR := (.seq (.ops r0) (.seq (.seq (.ops r1) (.cond (.t 28) (.seq (.ops r2) .ret) .skip)) (.seq (.ops r3) (.seq (.ops r4) (.seq (.ops r5) (.seq (.ops r6) (.seq (.ops r7) (.seq (.ops r8) (.seq (.ops r9) (.seq (.ops r10) (.seq (.seq (.ops r11) (.cond (.t 113) (.seq (.ops r12) .ret) .skip)) (.seq (.seq (.ops r13) (.block 0 (.loop (.seq (.ops r14) (.seq (.cond (.t 116) .skip (.exit 0)) (.seq (.block 1 (.seq (.ops r15) (.seq (.ops r16) (.cond (.t 127) (.seq (.ops r17) .ret) .skip)))) (.ops r18))))))) (.seq (.ops r19) .ret)))))))))))))
@[simp] noncomputable def rs : List RV := [.tmp 6]
theorem comp : compF Pg cfg Tryz.f6 = some (ir, rs, 130) := by kernel_rfl
theorem enter {args : List AVal} {h : Heap} {K : AEnd → Heap → Prop} (F : Nat) (hl : args.length ≤ 130) (a : AW ⟨Pg, F, 130, false, []⟩ ir (RetK rs K) (initT args) [] h) : ACalls Pg fn_law13_RapDull args h K :=
  ACalls.of_comp follows Tryz.func6 comp hl a
theorem pure {args : List AVal} {v : AVal} (hl : args.length ≤ 130) (a : AW ⟨Pg, 0, 130, false, []⟩ ir (RetK rs fun e _ => e = .ret v) (initT args) [] nilH) : APure Pg fn_law13_RapDull args v :=
  APure.of_nil (enter 0 hl a)
end law13_RapDull





namespace law13_RapSets
noncomputable def cfg : Cfg := { pure := pures, pcs := [], raw := [], cuts := [], draws := [(14, [⟨0, false, [], []⟩, ⟨1, false, [], []⟩, ⟨3, false, [], []⟩, ⟨4, false, [], []⟩, ⟨6, false, [], []⟩, ⟨2, false, [], []⟩, ⟨5, false, [], []⟩, ⟨7, false, [], []⟩, ⟨8, false, [], []⟩, ⟨9, false, [], []⟩, ⟨10, false, [], [2]⟩, ⟨11, false, [], []⟩, ⟨12, false, [], []⟩, ⟨13, false, [], []⟩, ⟨14, false, [], []⟩]), (19, [⟨0, false, [], []⟩, ⟨1, false, [], []⟩, ⟨2, false, [], []⟩, ⟨3, false, [], []⟩, ⟨4, false, [], []⟩, ⟨5, false, [], []⟩])], keep := [] }
@[simp] noncomputable def r0 (_ : Unit) : List Stp := [S 2 (.box (.t 0)), S 4 (.mv (.c (.bool false)))]
@[simp] noncomputable def r1 (_ : Unit) : List Stp := [S 30 (.load true 4 (.t 2)), SP 31 (.call (.c (.func (.func fn_law13_long) [] [])) [(.t 30)]), S 32 (.mv (.t 31)), SG 33 32 false (.load true 4 (.t 2)), SGP 34 32 false (.call (.c (.func (.func fn_ref13_Rap) [] [])) [(.t 33)]), SG 35 32 false (.un .not (.t 34)), S 36 (.pick (.t 32) (.c (.bool true)) (.t 35))]
@[simp] noncomputable def r2 (_ : Unit) : List Stp := [SP 37 (.call (.c (.func (.func fn_law13_alive) [] [])) []), S 4 (.mv (.t 37))]
@[simp] noncomputable def r3 (_ : Unit) : List Stp := [S 39 (.load true 4 (.t 2)), SP 40 (.call (.c (.func (.func fn_rap_Sets) [] [])) [(.t 39)]), S 38 (.mv (.t 40)), S 41 (.ext (.t 38) 0), S 42 (.ext (.t 38) 1), S 5 (.mv (.t 41)), S 6 (.mv (.t 42))]
@[simp] noncomputable def r4 (_ : Unit) : List Stp := [S 44 (.load true 4 (.t 2)), SP 45 (.call (.c (.func (.func fn_rap_Open) [] [])) [(.t 44)]), S 43 (.mv (.t 45)), S 46 (.ext (.t 43) 0), S 47 (.ext (.t 43) 1), S 48 (.ext (.t 43) 2), S 7 (.mv (.t 46)), S 8 (.mv (.t 47)), S 9 (.mv (.t 48))]
@[simp] noncomputable def r5 (_ : Unit) : List Stp := [S 50 (.load true 4 (.t 2)), SP 51 (.call (.c (.func (.func fn_rap_Sound) [] [])) [(.t 50)]), S 49 (.mv (.t 51)), S 52 (.ext (.t 49) 0), S 53 (.ext (.t 49) 1), S 10 (.mv (.t 52)), S 11 (.mv (.t 53))]
@[simp] noncomputable def r6 (_ : Unit) : List Stp := [S 54 (.mv (.t 6)), S 55 (.mv (.t 9)), S 56 (.bin .neq (.t 54) (.t 55)), S 57 (.mv (.t 56)), SG 58 57 false (.mv (.t 6)), SG 59 57 false (.mv (.t 11)), SG 60 57 false (.bin .neq (.t 58) (.t 59)), S 61 (.pick (.t 57) (.c (.bool true)) (.t 60)), S 62 (.mv (.t 61)), SG 63 62 false (.mv (.t 6)), SG 64 62 false (.bin .neq (.t 63) (.c (.int .i64 0))), SG 65 62 false (.mv (.t 64)), SG 66 65 true (.mv (.t 6)), SG 67 65 true (.bin .neq (.t 66) (.c (.int .i64 10))), SG 68 65 true (.mv (.t 67)), SG 69 68 false (.mv (.t 5)), SG 70 68 false (.len (.t 69)), SG 71 68 false (.bin .neq (.t 70) (.c (.int .i64 0))), SG 72 65 true (.pick (.t 68) (.c (.bool true)) (.t 71)), SG 73 65 true (.mv (.t 72)), SG 74 73 false (.mv (.t 7)), SG 75 73 false (.bin .neq (.t 74) (.c (.int .i64 0))), SG 76 65 true (.pick (.t 73) (.c (.bool true)) (.t 75)), SG 77 65 true (.mv (.t 76)), SG 78 77 false (.mv (.t 8)), SG 79 77 false (.bin .neq (.t 78) (.c (.int .i64 0))), SG 80 65 true (.pick (.t 77) (.c (.bool true)) (.t 79)), SG 81 65 true (.mv (.t 80)), SG 82 81 false (.mv (.t 10)), SG 83 81 false (.bin .neq (.t 82) (.c (.int .i64 0))), SG 84 65 true (.pick (.t 81) (.c (.bool true)) (.t 83)), SG 85 62 false (.pick (.t 65) (.t 84) (.c (.bool false))), S 86 (.pick (.t 62) (.c (.bool true)) (.t 85))]
@[simp] noncomputable def r7 (_ : Unit) : List Stp := [S 4 (.mv (.c (.bool false)))]
@[simp] noncomputable def r8 (_ : Unit) : List Stp := [S 87 (.mkF (.func fn_law13_RapSets_1) [] [(.t 2)]), S 12 (.mv (.t 87))]
@[simp] noncomputable def r9 (_ : Unit) : List Stp := [S 88 (.mv (.t 1)), S 89 (.call (.c (.func (.func fn_law13_draws) [] [])) [(.t 88)]), S 13 (.mv (.t 89))]
@[simp] noncomputable def r10 (_ : Unit) : List Stp := [S 14 (.mv (.c .nils))]
@[simp] noncomputable def r11 (_ : Unit) : List Stp := [S 90 (.fAddr 0 (.t 2)), S 91 (.fAddr 2 (.t 90)), S 92 (.load false 1 (.t 91)), S 93 (.len (.t 92)), S 94 (.mv (.c (.int .i64 0)))]
@[simp] noncomputable def r12 (_ : Unit) : List Stp := [S 95 (.bin .lss (.t 94) (.t 93))]
@[simp] noncomputable def r13 (_ : Unit) : List Stp := [S 96 (.ixS 2 (.t 92) (.t 94)), S 97 (.load true 2 (.t 96)), S 16 (.alloc [(.int .i64 0), (.int .i64 0)]), SN (.store 2 (.t 16) (.t 97))]
@[simp] noncomputable def r14 (_ : Unit) : List Stp := [S 98 (.mv (.t 14)), S 99 (.fAddr 0 (.t 16)), S 101 (.mv (.t 13)), S 102 (.fAddr 1 (.t 16)), S 104 (.fAddr 0 (.t 16)), S 100 (.load false 1 (.t 99)), S 103 (.load false 1 (.t 102)), S 105 (.load false 1 (.t 104)), S 106 (.bin .sub (.t 103) (.t 105)), S 107 (.bin .add (.t 106) (.c (.int .i64 1))), SD (some 108) (.call (.t 101) [(.t 107)]) false [] [I 100 (.load false 1 (.t 99))], S 109 (.bin .add (.t 100) (.t 108)), S 110 (.bsl 1 [(.int .i64 0)] [(0, 1, (.t 109))]), S 111 (.app 1 8 (.t 98) (.t 110)), S 14 (.mv (.t 111))]
@[simp] noncomputable def r15 (_ : Unit) : List Stp := [S 112 (.bin .add (.t 94) (.c (.int .i64 1))), S 94 (.mv (.t 112))]
@[simp] noncomputable def r16 (_ : Unit) : List Stp := [S 114 (.fAddr 0 (.t 2)), S 115 (.load true 3 (.t 114)), S 116 (.mv (.t 14)), S 117 (.call (.c (.func (.func fn_drive_Settle) [] [])) [(.t 115), (.t 116)]), S 113 (.mv (.t 117)), S 118 (.ext (.t 113) 0), S 119 (.ext (.t 113) 1), S 120 (.ext (.t 113) 2), S 17 (.mv (.t 118)), S 18 (.mv (.t 119)), S 19 (.mv (.t 120))]
@[simp] noncomputable def r17 (_ : Unit) : List Stp := [S 121 (.mv (.t 18)), SP 122 (.call (.c (.func (.func fn_law13_opened) [] [])) [(.t 121)]), S 20 (.mv (.t 122))]
@[simp] noncomputable def r18 (_ : Unit) : List Stp := [S 21 (.mv (.c (.bool false)))]
@[simp] noncomputable def r19 (_ : Unit) : List Stp := [S 123 (.mv (.t 14)), S 124 (.len (.t 123)), S 125 (.bin .shl (.c (.int .i64 1)) (.t 124)), S 126 (.bin .sub (.t 125) (.c (.int .i64 1))), S 22 (.mv (.c (.int .i64 0))), S 23 (.mv (.t 126))]
@[simp] noncomputable def r20 (_ : Unit) : List Stp := [S 128 (.fAddr 0 (.t 2)), S 129 (.load true 3 (.t 128)), SP 130 (.call (.c (.func (.func fn_drive_Opens) [] [])) [(.t 129)]), S 127 (.mv (.t 130)), S 131 (.ext (.t 127) 0), S 132 (.ext (.t 127) 1), S 133 (.ext (.t 127) 2), S 24 (.mv (.t 131)), S 25 (.mv (.t 132)), S 26 (.mv (.t 133))]
@[simp] noncomputable def r21 (_ : Unit) : List Stp := [S 134 (.mv (.t 19)), S 135 (.bin .neq (.t 134) (.c (.int .i64 0))), S 136 (.mv (.t 135)), SG 137 136 false (.mv (.t 26)), SG 138 136 false (.bin .neq (.t 137) (.c (.int .i64 0))), S 139 (.pick (.t 136) (.c (.bool true)) (.t 138))]
@[simp] noncomputable def r22 (_ : Unit) : List Stp := [S 4 (.mv (.c (.bool false)))]
@[simp] noncomputable def r23 (_ : Unit) : List Stp := [S 140 (.mv (.t 5)), S 141 (.len (.t 140)), S 142 (.mv (.c (.int .i64 0)))]
@[simp] noncomputable def r24 (_ : Unit) : List Stp := [S 143 (.bin .lss (.t 142) (.t 141))]
@[simp] noncomputable def r25 (_ : Unit) : List Stp := [S 144 (.mv (.t 142)), S 145 (.ixS 1 (.t 140) (.t 142)), S 146 (.load false 1 (.t 145)), S 27 (.mv (.t 144)), S 28 (.mv (.t 146))]
@[simp] noncomputable def r26 (_ : Unit) : List Stp := [S 147 (.mv (.t 28)), S 148 (.bin .lss (.t 147) (.c (.int .i64 0))), S 149 (.mv (.t 148)), SG 150 149 false (.mv (.t 28)), SG 151 149 false (.mv (.t 14)), SG 152 149 false (.len (.t 151)), SG 153 149 false (.bin .shr (.t 150) (.t 152)), SG 154 149 false (.bin .neq (.t 153) (.c (.int .i64 0))), S 155 (.pick (.t 149) (.c (.bool true)) (.t 154)), S 156 (.mv (.t 155)), SG 157 156 false (.mv (.t 27)), SG 158 156 false (.bin .gtr (.t 157) (.c (.int .i64 0))), SG 159 156 false (.mv (.t 158)), SG 160 159 true (.mv (.t 28)), SG 161 159 true (.mv (.t 5)), SG 162 159 true (.mv (.t 27)), SG 163 159 true (.bin .sub (.t 162) (.c (.int .i64 1))), SG 164 159 true (.ixS 1 (.t 161) (.t 163)), SG 165 159 true (.load false 1 (.t 164)), SG 166 159 true (.bin .leq (.t 160) (.t 165)), SG 167 156 false (.pick (.t 159) (.t 166) (.c (.bool false))), S 168 (.pick (.t 156) (.c (.bool true)) (.t 167)), S 169 (.mv (.t 168)), SG 170 169 false (.mv (.t 12)), SG 171 169 false (.mv (.t 28)), SG 172 169 false (.call (.t 170) [(.t 171)]), SG 173 169 false (.un .not (.t 172)), S 174 (.pick (.t 169) (.c (.bool true)) (.t 173)), S 175 (.mv (.t 174)), SG 176 175 false (.mv (.t 28)), SG 177 175 false (.mv (.t 24)), SG 178 175 false (.bin .andNot (.t 176) (.t 177)), SG 179 175 false (.bin .neq (.t 178) (.c (.int .i64 0))), S 180 (.pick (.t 175) (.c (.bool true)) (.t 179)), S 181 (.mv (.t 180)), SG 182 181 false (.mv (.t 25)), SG 183 181 false (.mv (.t 28)), SG 184 181 false (.bin .andNot (.t 182) (.t 183)), SG 185 181 false (.bin .neq (.t 184) (.c (.int .i64 0))), S 186 (.pick (.t 181) (.c (.bool true)) (.t 185))]
@[simp] noncomputable def r27 (_ : Unit) : List Stp := [S 4 (.mv (.c (.bool false)))]
@[simp] noncomputable def r28 (_ : Unit) : List Stp := [S 187 (.mv (.t 21)), S 188 (.mv (.t 187)), SG 189 188 false (.mv (.t 28)), SG 190 188 false (.mv (.t 20)), SG 191 188 false (.bin .eql (.t 189) (.t 190)), S 192 (.pick (.t 188) (.c (.bool true)) (.t 191)), S 193 (.mv (.t 22)), S 194 (.mv (.t 28)), S 195 (.bin .or (.t 193) (.t 194)), S 196 (.mv (.t 23)), S 197 (.mv (.t 28)), S 198 (.bin .and (.t 196) (.t 197)), S 21 (.mv (.t 192)), S 22 (.mv (.t 195)), S 23 (.mv (.t 198))]
@[simp] noncomputable def r29 (_ : Unit) : List Stp := [S 199 (.bin .add (.t 142) (.c (.int .i64 1))), S 142 (.mv (.t 199))]
@[simp] noncomputable def r30 (_ : Unit) : List Stp := [S 200 (.mv (.t 21)), S 201 (.mv (.t 12)), S 202 (.mv (.t 20)), S 203 (.call (.t 201) [(.t 202)]), S 204 (.eqB true (.t 200) (.t 203))]
@[simp] noncomputable def r31 (_ : Unit) : List Stp := [S 4 (.mv (.c (.bool false)))]
@[simp] noncomputable def r32 (_ : Unit) : List Stp := [S 205 (.mv (.t 6)), S 206 (.bin .neq (.t 205) (.c (.int .i64 0)))]
@[simp] noncomputable def r33 (_ : Unit) : List Stp := [SP 207 (.call (.c (.func (.func fn_law13_alive) [] [])) []), S 4 (.mv (.t 207))]
@[simp] noncomputable def r34 (_ : Unit) : List Stp := [S 29 (.mv (.c (.int .i64 1)))]
@[simp] noncomputable def r35 (_ : Unit) : List Stp := [S 209 (.mv (.t 5)), S 210 (.len (.t 209)), S 211 (.bin .eql (.t 210) (.c (.int .i64 0))), S 208 (.mv (.t 211))]
@[simp] noncomputable def r36 (_ : Unit) : List Stp := [S 4 (.mv (.c (.bool false)))]
@[simp] noncomputable def r37 (_ : Unit) : List Stp := [S 213 (.mv (.t 5)), S 214 (.ixS 1 (.t 213) (.c (.int .i64 0))), S 215 (.load false 1 (.t 214)), S 216 (.bin .neq (.t 215) (.c (.int .i64 0))), S 212 (.mv (.t 216))]
@[simp] noncomputable def r38 (_ : Unit) : List Stp := [S 29 (.mv (.c (.int .i64 0)))]
@[simp] noncomputable def r39 (_ : Unit) : List Stp := [S 218 (.mv (.t 5)), S 219 (.len (.t 218)), S 220 (.bin .eql (.t 219) (.c (.int .i64 1))), S 217 (.mv (.t 220))]
@[simp] noncomputable def r40 (_ : Unit) : List Stp := [S 29 (.mv (.c (.int .i64 2)))]
@[simp] noncomputable def r41 (_ : Unit) : List Stp := [S 221 (.mv (.t 22)), S 222 (.mv (.t 7)), S 223 (.bin .eql (.t 221) (.t 222)), S 224 (.mv (.t 223)), SG 225 224 true (.mv (.t 23)), SG 226 224 true (.mv (.t 8)), SG 227 224 true (.bin .eql (.t 225) (.t 226)), S 228 (.pick (.t 224) (.t 227) (.c (.bool false))), S 229 (.mv (.t 228)), SG 230 229 true (.mv (.t 10)), SG 231 229 true (.mv (.t 29)), SG 232 229 true (.bin .eql (.t 230) (.t 231)), S 233 (.pick (.t 229) (.t 232) (.c (.bool false))), S 234 (.mv (.t 233)), SGP 235 234 true (.call (.c (.func (.func fn_law13_alive) [] [])) []), S 236 (.pick (.t 234) (.t 235) (.c (.bool false))), S 4 (.mv (.t 236))]
@[simp] noncomputable def ir : IR := (.seq (.ops r0) (.seq (.seq (.ops r1) (.cond (.t 36) (.seq (.ops r2) .ret) .skip)) (.seq (.ops r3) (.seq (.ops r4) (.seq (.ops r5) (.seq (.seq (.ops r6) (.cond (.t 86) (.seq (.ops r7) .ret) .skip)) (.seq (.ops r8) (.seq (.ops r9) (.seq (.ops r10) (.seq (.seq (.ops r11) (.block 0 (.loop (.seq (.ops r12) (.seq (.cond (.t 95) .skip (.exit 0)) (.seq (.block 1 (.seq (.ops r13) (.ops r14))) (.ops r15))))))) (.seq (.ops r16) (.seq (.ops r17) (.seq (.ops r18) (.seq (.ops r19) (.seq (.ops r20) (.seq (.seq (.ops r21) (.cond (.t 139) (.seq (.ops r22) .ret) .skip)) (.seq (.seq (.ops r23) (.block 2 (.loop (.seq (.ops r24) (.seq (.cond (.t 143) .skip (.exit 2)) (.seq (.block 3 (.seq (.ops r25) (.seq (.seq (.ops r26) (.cond (.t 186) (.seq (.ops r27) .ret) .skip)) (.ops r28)))) (.ops r29))))))) (.seq (.seq (.ops r30) (.cond (.t 204) (.seq (.ops r31) .ret) .skip)) (.seq (.seq (.ops r32) (.cond (.t 206) (.seq (.ops r33) .ret) .skip)) (.seq (.ops r34) (.seq (.block 4 (.seq (.ops r35) (.cond (.t 208) (.seq (.ops r36) .ret) (.seq (.ops r37) (.cond (.t 212) (.ops r38) (.seq (.ops r39) (.cond (.t 217) (.ops r40) .skip))))))) (.seq (.ops r41) .ret))))))))))))))))))))))
@[simp] noncomputable def rs : List RV := [.tmp 4]
theorem comp : compF Pg cfg Tryz.f11 = some (ir, rs, 237) := by kernel_rfl
theorem enter {args : List AVal} {h : Heap} {K : AEnd → Heap → Prop} (F : Nat) (hl : args.length ≤ 237) (a : AW ⟨Pg, F, 237, false, []⟩ ir (RetK rs K) (initT args) [] h) : ACalls Pg fn_law13_RapSets args h K :=
  ACalls.of_comp follows Tryz.func11 comp hl a
theorem pure {args : List AVal} {v : AVal} (hl : args.length ≤ 237) (a : AW ⟨Pg, 0, 237, false, []⟩ ir (RetK rs fun e _ => e = .ret v) (initT args) [] nilH) : APure Pg fn_law13_RapSets args v :=
  APure.of_nil (enter 0 hl a)
end law13_RapSets

namespace law13_long
noncomputable def cfg : Cfg := { pure := pures, pcs := [], raw := [], cuts := [], draws := [], keep := [] }
@[simp] noncomputable def r0 (_ : Unit) : List Stp := [S 1 (.box (.t 0)), S 2 (.mv (.c (.bool false)))]
@[simp] noncomputable def r1 (_ : Unit) : List Stp := [S 3 (.fAddr 0 (.t 1)), S 4 (.fAddr 0 (.t 3)), S 5 (.load false 1 (.t 4)), S 6 (.len (.t 5)), S 7 (.fAddr 0 (.t 1)), S 8 (.fAddr 1 (.t 7)), S 9 (.load false 1 (.t 8)), S 10 (.len (.t 9)), S 11 (.fAddr 0 (.t 1)), S 12 (.fAddr 2 (.t 11)), S 13 (.load false 1 (.t 12)), S 14 (.len (.t 13)), S 15 (.fAddr 3 (.t 1)), S 16 (.load false 1 (.t 15)), S 17 (.len (.t 16)), S 18 (.mm true [(.t 6), (.t 10), (.t 14), (.t 17)]), S 19 (.bin .gtr (.t 18) (.c (.int .i64 40))), S 2 (.mv (.t 19))]
@[simp] noncomputable def ir : IR := (.seq (.ops r0) (.seq (.ops r1) .ret))
@[simp] noncomputable def rs : List RV := [.tmp 2]
theorem comp : compF Pg cfg Tryz.f12 = some (ir, rs, 20) := by kernel_rfl
theorem enter {args : List AVal} {h : Heap} {K : AEnd → Heap → Prop} (F : Nat) (hl : args.length ≤ 20) (a : AW ⟨Pg, F, 20, false, []⟩ ir (RetK rs K) (initT args) [] h) : ACalls Pg fn_law13_long args h K :=
  ACalls.of_comp follows Tryz.func12 comp hl a
theorem pure {args : List AVal} {v : AVal} (hl : args.length ≤ 20) (a : AW ⟨Pg, 0, 20, false, []⟩ ir (RetK rs fun e _ => e = .ret v) (initT args) [] nilH) : APure Pg fn_law13_long args v :=
  APure.of_nil (enter 0 hl a)
end law13_long

namespace law13_alive
noncomputable def cfg : Cfg := { pure := [12, 13, 14, 15, 16, 17, 18, 19, 21, 22, 23, 24, 25, 26, 27, 28, 29, 32, 33, 34, 36, 40, 45, 46, 47, 48, 51, 52, 53, 56, 57, 62, 64, 68, 71, 72, 77, 78, 79, 84, 87, 89, 91, 92, 93, 94, 95, 96, 97, 98, 99, 100, 106, 107, 109, 110, 111, 112, 113, 114, 115, 116, 120, 121, 126, 127, 128, 160, 161], pcs := [], raw := [], cuts := [], draws := [], keep := [] }
@[simp] noncomputable def r0 (_ : Unit) : List Stp := [S 0 (.mv (.c (.bool false)))]
@[simp] noncomputable def r1 (_ : Unit) : List Stp := [S 19 (.call (.c (.func (.func fn_law13_sample) [] [])) [(.c .nils)]), SP 20 (.call (.c (.func (.func fn_rap_Dull) [] [])) [(.t 19), (.c (.int .i64 9))]), S 18 (.mv (.t 20)), S 21 (.ext (.t 18) 0), S 22 (.ext (.t 18) 1), S 1 (.mv (.t 21)), S 2 (.mv (.t 22))]
@[simp] noncomputable def r2 (_ : Unit) : List Stp := [S 24 (.call (.c (.func (.func fn_law13_sample) [] [])) [(.c .nils)]), SP 25 (.call (.c (.func (.func fn_rap_Sets) [] [])) [(.t 24)]), S 23 (.mv (.t 25)), S 26 (.ext (.t 23) 0), S 27 (.ext (.t 23) 1), S 3 (.mv (.t 26)), S 4 (.mv (.t 27))]
@[simp] noncomputable def r3 (_ : Unit) : List Stp := [S 29 (.call (.c (.func (.func fn_law13_sample) [] [])) [(.c .nils)]), SP 30 (.call (.c (.func (.func fn_rap_Open) [] [])) [(.t 29)]), S 28 (.mv (.t 30)), S 31 (.ext (.t 28) 0), S 32 (.ext (.t 28) 1), S 33 (.ext (.t 28) 2), S 5 (.mv (.t 31)), S 6 (.mv (.t 32)), S 7 (.mv (.t 33))]
@[simp] noncomputable def r4 (_ : Unit) : List Stp := [SP 35 (.call (.c (.func (.func fn_law13_find) [] [])) [(.c (.int .i64 0)), (.c (.bool false))]), SP 36 (.call (.c (.func (.func fn_law13_find) [] [])) [(.c (.int .i64 3)), (.c (.bool false))]), S 37 (.bsl 2 [(.int .i64 0), (.bool false), (.int .i64 0), (.bool false)] [(0, 2, (.t 35)), (2, 2, (.t 36))]), S 38 (.call (.c (.func (.func fn_law13_sample) [] [])) [(.t 37)]), SP 39 (.call (.c (.func (.func fn_rap_Sound) [] [])) [(.t 38)]), S 34 (.mv (.t 39)), S 40 (.ext (.t 34) 0), S 41 (.ext (.t 34) 1), S 8 (.mv (.t 40)), S 9 (.mv (.t 41))]
@[simp] noncomputable def r5 (_ : Unit) : List Stp := [S 43 (.call (.c (.func (.func fn_law13_sample) [] [])) [(.c .nils)]), SP 44 (.call (.c (.func (.func fn_rap_Fewest) [] [])) [(.t 43)]), S 42 (.mv (.t 44)), S 45 (.ext (.t 42) 0), S 46 (.ext (.t 42) 1), S 47 (.ext (.t 42) 2), S 10 (.mv (.t 45)), S 11 (.mv (.t 46)), S 12 (.mv (.t 47))]
@[simp] noncomputable def r6 (_ : Unit) : List Stp := [S 49 (.call (.c (.func (.func fn_law13_sample) [] [])) [(.c .nils)]), SP 50 (.call (.c (.func (.func fn_rap_Next) [] [])) [(.t 49)]), S 48 (.mv (.t 50)), S 51 (.ext (.t 48) 0), S 52 (.ext (.t 48) 1), S 53 (.ext (.t 48) 2), S 13 (.mv (.t 51)), S 14 (.mv (.t 52)), S 15 (.mv (.t 53))]
@[simp] noncomputable def r7 (_ : Unit) : List Stp := [SP 55 (.call (.c (.func (.func fn_law13_find) [] [])) [(.c (.int .i64 0)), (.c (.bool true))]), SP 56 (.call (.c (.func (.func fn_law13_find) [] [])) [(.c (.int .i64 1)), (.c (.bool false))]), S 57 (.bsl 2 [(.int .i64 0), (.bool false), (.int .i64 0), (.bool false)] [(0, 2, (.t 55)), (2, 2, (.t 56))]), S 58 (.call (.c (.func (.func fn_law13_sample) [] [])) [(.t 57)]), SP 59 (.call (.c (.func (.func fn_rap_Wrong) [] [])) [(.t 58)]), S 54 (.mv (.t 59)), S 60 (.ext (.t 54) 0), S 61 (.ext (.t 54) 1), S 16 (.mv (.t 60)), S 17 (.mv (.t 61))]
@[simp] noncomputable def r8 (_ : Unit) : List Stp := [S 62 (.mv (.t 1)), S 63 (.bin .eql (.t 62) (.c (.int .i64 15))), S 64 (.mv (.t 63)), SG 65 64 true (.mv (.t 2)), SG 66 64 true (.bin .eql (.t 65) (.c (.int .i64 0))), S 67 (.pick (.t 64) (.t 66) (.c (.bool false))), S 68 (.mv (.t 67)), SG 69 68 true (.mv (.t 3)), SG 70 68 true (.bsl 4 [(.int .i64 0), (.int .i64 0), (.int .i64 0), (.int .i64 0)] [(0, 1, (.c (.int .i64 0))), (1, 1, (.c (.int .i64 1))), (2, 1, (.c (.int .i64 8))), (3, 1, (.c (.int .i64 9)))]), SG 71 68 true (.call (.c (.func (.func fn_law13_ints) [] [])) [(.t 69), (.t 70)]), S 72 (.pick (.t 68) (.t 71) (.c (.bool false))), S 73 (.mv (.t 72)), SG 74 73 true (.mv (.t 4)), SG 75 73 true (.bin .eql (.t 74) (.c (.int .i64 0))), S 76 (.pick (.t 73) (.t 75) (.c (.bool false))), S 77 (.mv (.t 76)), SG 78 77 true (.mv (.t 5)), SG 79 77 true (.bin .eql (.t 78) (.c (.int .i64 9))), S 80 (.pick (.t 77) (.t 79) (.c (.bool false))), S 81 (.mv (.t 80)), SG 82 81 true (.mv (.t 6)), SG 83 81 true (.bin .eql (.t 82) (.c (.int .i64 0))), S 84 (.pick (.t 81) (.t 83) (.c (.bool false))), S 85 (.mv (.t 84)), SG 86 85 true (.mv (.t 7)), SG 87 85 true (.bin .eql (.t 86) (.c (.int .i64 0))), S 88 (.pick (.t 85) (.t 87) (.c (.bool false))), S 89 (.mv (.t 88)), SG 90 89 true (.mv (.t 8)), SG 91 89 true (.bin .eql (.t 90) (.c (.int .i64 2))), S 92 (.pick (.t 89) (.t 91) (.c (.bool false))), S 93 (.mv (.t 92)), SG 94 93 true (.mv (.t 9)), SG 95 93 true (.bin .eql (.t 94) (.c (.int .i64 0))), S 96 (.pick (.t 93) (.t 95) (.c (.bool false))), S 97 (.mv (.t 96)), SG 98 97 true (.mv (.t 10)), SG 99 97 true (.bin .eql (.t 98) (.c (.int .i64 2))), S 100 (.pick (.t 97) (.t 99) (.c (.bool false))), S 101 (.mv (.t 100)), SG 102 101 true (.mv (.t 11)), SG 103 101 true (.bin .eql (.t 102) (.c (.int .i64 5))), S 104 (.pick (.t 101) (.t 103) (.c (.bool false))), S 105 (.mv (.t 104)), SG 106 105 true (.mv (.t 12)), SG 107 105 true (.bin .eql (.t 106) (.c (.int .i64 0))), S 108 (.pick (.t 105) (.t 107) (.c (.bool false))), S 109 (.mv (.t 108)), SG 110 109 true (.mv (.t 13)), SG 111 109 true (.bin .eql (.t 110) (.c (.int .i64 0))), S 112 (.pick (.t 109) (.t 111) (.c (.bool false))), S 113 (.mv (.t 112)), SG 114 113 true (.mv (.t 14)), SG 115 113 true (.bin .eql (.t 114) (.c (.int .i64 2))), S 116 (.pick (.t 113) (.t 115) (.c (.bool false))), S 117 (.mv (.t 116)), SG 118 117 true (.mv (.t 15)), SG 119 117 true (.bin .eql (.t 118) (.c (.int .i64 0))), S 120 (.pick (.t 117) (.t 119) (.c (.bool false))), S 121 (.mv (.t 120)), SG 122 121 true (.mv (.t 16)), SG 123 121 true (.bin .eql (.t 122) (.c (.int .i64 1))), S 124 (.pick (.t 121) (.t 123) (.c (.bool false))), S 125 (.mv (.t 124)), SG 126 125 true (.mv (.t 17)), SG 127 125 true (.bin .eql (.t 126) (.c (.int .i64 0))), S 128 (.pick (.t 125) (.t 127) (.c (.bool false))), S 0 (.mv (.t 128))]
@[simp] noncomputable def ir : IR := (.seq (.ops r0) (.seq (.ops r1) (.seq (.ops r2) (.seq (.ops r3) (.seq (.ops r4) (.seq (.ops r5) (.seq (.ops r6) (.seq (.ops r7) (.seq (.ops r8) .ret)))))))))
@[simp] noncomputable def rs : List RV := [.tmp 0]
theorem comp : compF Pg cfg Tryz.f13 = some (ir, rs, 129) := by kernel_rfl
theorem enter {args : List AVal} {h : Heap} {K : AEnd → Heap → Prop} (F : Nat) (hl : args.length ≤ 129) (a : AW ⟨Pg, F, 129, false, []⟩ ir (RetK rs K) (initT args) [] h) : ACalls Pg fn_law13_alive args h K :=
  ACalls.of_comp follows Tryz.func13 comp hl a
theorem pure {args : List AVal} {v : AVal} (hl : args.length ≤ 129) (a : AW ⟨Pg, 0, 129, false, []⟩ ir (RetK rs fun e _ => e = .ret v) (initT args) [] nilH) : APure Pg fn_law13_alive args v :=
  APure.of_nil (enter 0 hl a)
end law13_alive

namespace rap_Dull
noncomputable def cfg : Cfg := { pure := pures, pcs := [], raw := [], cuts := [], draws := [(2, [⟨1, false, [], []⟩, ⟨2, false, [], []⟩, ⟨3, false, [], []⟩, ⟨4, false, [], []⟩, ⟨5, false, [], []⟩, ⟨6, false, [], []⟩, ⟨0, false, [], []⟩, ⟨7, false, [], []⟩, ⟨8, false, [], []⟩, ⟨9, false, [], []⟩, ⟨10, false, [], []⟩, ⟨11, false, [], []⟩, ⟨12, false, [], []⟩, ⟨13, false, [], []⟩, ⟨14, false, [], []⟩])], keep := [4, 5] }
@[simp] noncomputable def r0 (_ : Unit) : List Stp := [S 2 (.box (.t 0)), S 4 (.mv (.c (.int .i64 0))), S 5 (.alloc [(.int .i64 0)])]
@[simp] noncomputable def r1 (_ : Unit) : List Stp := [S 7 (.mkF (.func fn_rap_Dull_1) [] [(.t 5)]), SN (.defer (.t 7) [])]
@[simp] noncomputable def r2 (_ : Unit) : List Stp := [S 9 (.mv (.t 1)), S 10 (.bin .geq (.t 9) (.c (.int .i64 0))), S 11 (.mv (.t 10)), SG 12 11 true (.mv (.t 1)), SG 13 11 true (.fAddr 0 (.t 2)), SG 14 11 true (.fAddr 0 (.t 13)), S 8 (.load true 4 (.t 2)), SG 15 11 true (.load false 1 (.t 14)), SG 16 11 true (.len (.t 15)), SG 17 11 true (.mm false [(.t 16), (.c (.int .i64 62))]), SG 18 11 true (.bin .shr (.t 12) (.t 17)), SG 19 11 true (.bin .eql (.t 18) (.c (.int .i64 0))), S 20 (.pick (.t 11) (.t 19) (.c (.bool false))), S 21 (.call (.c (.func (.func fn_rap_open) [] [])) [(.t 8), (.t 20)]), S 6 (.mv (.t 21))]
@[simp] noncomputable def r3 (_ : Unit) : List Stp := [S 22 (.mv (.t 6)), S 23 (.nilck Pg (.t 22)), S 24 (.fAddr 4 (.t 23)), S 25 (.load true 6 (.t 24)), S 26 (.mv (.t 1)), S 27 (.conv .u64 (.t 26)), SP 28 (.call (.c (.func (.func fn_rap_around_dull) [] [])) [(.t 25), (.t 27)]), S 29 (.conv .i64 (.t 28)), S 4 (.mv (.t 29)), SN (.store 1 (.t 5) (.c (.int .i64 0)))]
@[simp] noncomputable def ir : IR := (.seq (.ops r0) (.seq (.ops r1) (.seq (.ops r2) (.seq (.ops r3) .ret))))
@[simp] noncomputable def rs : List RV := [.tmp 4, .cell 5 false 1]
theorem comp : compF Pg cfg Tryz.f14 = some (ir, rs, 30) := by kernel_rfl
theorem enter {args : List AVal} {h : Heap} {K : AEnd → Heap → Prop} (F : Nat) (hl : args.length ≤ 30) (a : AW ⟨Pg, F, 30, false, [4, 5]⟩ ir (RetD Pg rs K) (initT args) [] h) : ACalls Pg fn_rap_Dull args h K :=
  ACalls.of_comp_defer follows Tryz.func14 comp hl a
theorem pure {args : List AVal} {v : AVal} (hl : args.length ≤ 30) (a : AW ⟨Pg, 0, 30, false, [4, 5]⟩ ir (RetD Pg rs fun e _ => e = .ret v) (initT args) [] nilH) : APure Pg fn_rap_Dull args v :=
  APure.of_nil (enter 0 hl a)
end rap_Dull


namespace rap_Sets
noncomputable def cfg : Cfg := { pure := pures, pcs := [], raw := [], cuts := [], draws := [], keep := [2, 3] }
@[simp] noncomputable def r0 (_ : Unit) : List Stp := [S 1 (.box (.t 0)), S 2 (.mv (.c .nils)), S 3 (.alloc [(.int .i64 0)])]
@[simp] noncomputable def r1 (_ : Unit) : List Stp := [S 7 (.mkF (.func fn_rap_Sets_1) [] [(.t 3)]), SN (.defer (.t 7) [])]
@[simp] noncomputable def r2 (_ : Unit) : List Stp := [S 4 (.mv (.c .nils))]
@[simp] noncomputable def r3 (_ : Unit) : List Stp := [S 8 (.load true 4 (.t 1)), S 9 (.call (.c (.func (.func fn_rap_open) [] [])) [(.t 8), (.c (.bool true))]), S 10 (.call (.c (.func (.func fn_rap_hull_can) [] [])) [(.t 9)]), S 11 (.len (.t 10)), S 12 (.mv (.c (.int .i64 0)))]
@[simp] noncomputable def r4 (_ : Unit) : List Stp := [S 13 (.bin .lss (.t 12) (.t 11))]
@[simp] noncomputable def r5 (_ : Unit) : List Stp := [S 14 (.ixS 2 (.t 10) (.t 12)), S 15 (.load true 2 (.t 14)), S 6 (.alloc [(.int .u64 0), (.int .u64 0)]), SN (.store 2 (.t 6) (.t 15))]
@[simp] noncomputable def r6 (_ : Unit) : List Stp := [S 16 (.mv (.t 4)), S 17 (.fAddr 0 (.t 6)), S 18 (.load false 1 (.t 17)), S 19 (.conv .i64 (.t 18)), S 20 (.bsl 1 [(.int .i64 0)] [(0, 1, (.t 19))]), S 21 (.app 1 8 (.t 16) (.t 20)), S 4 (.mv (.t 21))]
@[simp] noncomputable def r7 (_ : Unit) : List Stp := [S 22 (.bin .add (.t 12) (.c (.int .i64 1))), S 12 (.mv (.t 22))]
@[simp] noncomputable def r8 (_ : Unit) : List Stp := [S 23 (.mv (.t 4)), S 2 (.mv (.t 23)), SN (.store 1 (.t 3) (.c (.int .i64 0)))]
@[simp] noncomputable def ir : IR := (.seq (.ops r0) (.seq (.ops r1) (.seq (.ops r2) (.seq (.seq (.ops r3) (.block 0 (.loop (.seq (.ops r4) (.seq (.cond (.t 13) .skip (.exit 0)) (.seq (.block 1 (.seq (.ops r5) (.ops r6))) (.ops r7))))))) (.seq (.ops r8) .ret)))))
@[simp] noncomputable def rs : List RV := [.tmp 2, .cell 3 false 1]
theorem comp : compF Pg cfg Tryz.f16 = some (ir, rs, 24) := by kernel_rfl
theorem enter {args : List AVal} {h : Heap} {K : AEnd → Heap → Prop} (F : Nat) (hl : args.length ≤ 24) (a : AW ⟨Pg, F, 24, false, [2, 3]⟩ ir (RetD Pg rs K) (initT args) [] h) : ACalls Pg fn_rap_Sets args h K :=
  ACalls.of_comp_defer follows Tryz.func16 comp hl a
theorem pure {args : List AVal} {v : AVal} (hl : args.length ≤ 24) (a : AW ⟨Pg, 0, 24, false, [2, 3]⟩ ir (RetD Pg rs fun e _ => e = .ret v) (initT args) [] nilH) : APure Pg fn_rap_Sets args v :=
  APure.of_nil (enter 0 hl a)
end rap_Sets


namespace rap_Open
noncomputable def cfg : Cfg := { pure := pures, pcs := [], raw := [], cuts := [], draws := [(6, [⟨0, false, [], []⟩, ⟨1, false, [], []⟩, ⟨5, false, [], []⟩, ⟨6, false, [], []⟩, ⟨2, false, [], []⟩, ⟨7, false, [], []⟩, ⟨8, false, [], []⟩, ⟨3, true, [], []⟩, ⟨4, false, [], [7]⟩, ⟨9, false, [], []⟩, ⟨10, false, [], []⟩])], keep := [2, 3, 4] }
@[simp] noncomputable def r0 (_ : Unit) : List Stp := [S 1 (.box (.t 0)), S 2 (.mv (.c (.int .i64 0))), S 3 (.mv (.c (.int .i64 0))), S 4 (.alloc [(.int .i64 0)])]
@[simp] noncomputable def r1 (_ : Unit) : List Stp := [S 9 (.mkF (.func fn_rap_Open_1) [] [(.t 4)]), SN (.defer (.t 9) [])]
@[simp] noncomputable def r2 (_ : Unit) : List Stp := [S 5 (.mv (.c (.int .u64 0))), S 6 (.mv (.c (.int .u64 63)))]
@[simp] noncomputable def r3 (_ : Unit) : List Stp := [S 10 (.load true 4 (.t 1)), S 11 (.call (.c (.func (.func fn_rap_open) [] [])) [(.t 10), (.c (.bool true))]), S 12 (.call (.c (.func (.func fn_rap_hull_can) [] [])) [(.t 11)]), S 13 (.len (.t 12)), S 14 (.mv (.c (.int .i64 0)))]
@[simp] noncomputable def r4 (_ : Unit) : List Stp := [S 15 (.bin .lss (.t 14) (.t 13))]
@[simp] noncomputable def r5 (_ : Unit) : List Stp := [S 16 (.ixS 2 (.t 12) (.t 14)), S 17 (.load true 2 (.t 16)), S 8 (.alloc [(.int .u64 0), (.int .u64 0)]), SN (.store 2 (.t 8) (.t 17))]
@[simp] noncomputable def r6 (_ : Unit) : List Stp := [S 18 (.mv (.t 5)), S 19 (.fAddr 0 (.t 8)), S 23 (.mv (.t 6)), S 24 (.fAddr 0 (.t 8)), S 20 (.load false 1 (.t 19)), S 25 (.load false 1 (.t 24)), S 26 (.bin .and (.t 23) (.t 25)), SD (some 21) (.bsl 2 [(.int .u64 0), (.int .u64 0)] [(0, 1, (.t 18)), (1, 1, (.t 20))]) true [] [], SD (some 22) (.call (.c (.func (.func fn_rap_union) [] [])) [(.t 21)]) false [] [I 25 (.load false 1 (.t 24))], S 5 (.mv (.t 22)), S 6 (.mv (.t 26))]
@[simp] noncomputable def r7 (_ : Unit) : List Stp := [S 27 (.bin .add (.t 14) (.c (.int .i64 1))), S 14 (.mv (.t 27))]
@[simp] noncomputable def r8 (_ : Unit) : List Stp := [S 28 (.mv (.t 5)), S 29 (.conv .i64 (.t 28)), S 30 (.mv (.t 6)), S 31 (.conv .i64 (.t 30)), S 2 (.mv (.t 29)), S 3 (.mv (.t 31)), SN (.store 1 (.t 4) (.c (.int .i64 0)))]
@[simp] noncomputable def ir : IR := (.seq (.ops r0) (.seq (.ops r1) (.seq (.ops r2) (.seq (.seq (.ops r3) (.block 0 (.loop (.seq (.ops r4) (.seq (.cond (.t 15) .skip (.exit 0)) (.seq (.block 1 (.seq (.ops r5) (.ops r6))) (.ops r7))))))) (.seq (.ops r8) .ret)))))
@[simp] noncomputable def rs : List RV := [.tmp 2, .tmp 3, .cell 4 false 1]
theorem comp : compF Pg cfg Tryz.f18 = some (ir, rs, 32) := by kernel_rfl
theorem enter {args : List AVal} {h : Heap} {K : AEnd → Heap → Prop} (F : Nat) (hl : args.length ≤ 32) (a : AW ⟨Pg, F, 32, false, [2, 3, 4]⟩ ir (RetD Pg rs K) (initT args) [] h) : ACalls Pg fn_rap_Open args h K :=
  ACalls.of_comp_defer follows Tryz.func18 comp hl a
theorem pure {args : List AVal} {v : AVal} (hl : args.length ≤ 32) (a : AW ⟨Pg, 0, 32, false, [2, 3, 4]⟩ ir (RetD Pg rs fun e _ => e = .ret v) (initT args) [] nilH) : APure Pg fn_rap_Open args v :=
  APure.of_nil (enter 0 hl a)
end rap_Open


namespace law13_ints
noncomputable def cfg : Cfg := { pure := [12, 13, 14, 15, 16, 17, 18, 19, 20, 21, 22, 23, 24, 25, 26, 27, 28, 29, 32, 33, 34, 36, 40, 45, 46, 47, 48, 51, 52, 53, 56, 62, 64, 68, 71, 72, 77, 78, 79, 84, 87, 89, 91, 92, 93, 94, 95, 96, 97, 98, 99, 100, 106, 107, 109, 110, 111, 112, 113, 114, 115, 116, 120, 121, 126, 127, 128, 160, 161], pcs := [], raw := [], cuts := [], draws := [], keep := [] }
@[simp] noncomputable def r0 (_ : Unit) : List Stp := [S 4 (.mv (.c (.bool false)))]
@[simp] noncomputable def r1 (_ : Unit) : List Stp := [S 5 (.mv (.t 0)), S 6 (.mv (.t 1)), S 7 (.call (.c (.func (.func fn_ref13_Ints) [] [])) [(.t 5), (.t 6)]), S 4 (.mv (.t 7))]
@[simp] noncomputable def ir : IR := (.seq (.ops r0) (.seq (.ops r1) .ret))
@[simp] noncomputable def rs : List RV := [.tmp 4]
theorem comp : compF Pg cfg Tryz.f20 = some (ir, rs, 8) := by kernel_rfl
theorem enter {args : List AVal} {h : Heap} {K : AEnd → Heap → Prop} (F : Nat) (hl : args.length ≤ 8) (a : AW ⟨Pg, F, 8, false, []⟩ ir (RetK rs K) (initT args) [] h) : ACalls Pg fn_law13_ints args h K :=
  ACalls.of_comp follows Tryz.func20 comp hl a
theorem pure {args : List AVal} {v : AVal} (hl : args.length ≤ 8) (a : AW ⟨Pg, 0, 8, false, []⟩ ir (RetK rs fun e _ => e = .ret v) (initT args) [] nilH) : APure Pg fn_law13_ints args v :=
  APure.of_nil (enter 0 hl a)
end law13_ints

namespace rap_Sound
noncomputable def cfg : Cfg := { pure := pures, pcs := [], raw := [], cuts := [], draws := [], keep := [2, 3] }
@[simp] noncomputable def r0 (_ : Unit) : List Stp := [S 1 (.box (.t 0)), S 2 (.mv (.c (.int .i64 0))), S 3 (.alloc [(.int .i64 0)])]
@[simp] noncomputable def r1 (_ : Unit) : List Stp := [S 5 (.mkF (.func fn_rap_Sound_1) [] [(.t 3)]), SN (.defer (.t 5) [])]
@[simp] noncomputable def r2 (_ : Unit) : List Stp := [S 6 (.load true 4 (.t 1)), S 7 (.call (.c (.func (.func fn_rap_open) [] [])) [(.t 6), (.c (.bool true))]), S 8 (.call (.c (.func (.func fn_rap_hull_can) [] [])) [(.t 7)]), S 4 (.mv (.t 8))]
@[simp] noncomputable def r3 (_ : Unit) : List Stp := [S 10 (.mv (.t 4)), S 11 (.ixS 2 (.t 10) (.c (.int .i64 0))), S 12 (.fAddr 0 (.t 11)), S 13 (.load false 1 (.t 12)), S 14 (.bin .neq (.t 13) (.c (.int .u64 0))), S 9 (.mv (.t 14))]
@[simp] noncomputable def r4 (_ : Unit) : List Stp := [S 2 (.mv (.c (.int .i64 0))), SN (.store 1 (.t 3) (.c (.int .i64 0)))]
@[simp] noncomputable def r5 (_ : Unit) : List Stp := [S 16 (.mv (.t 4)), S 17 (.len (.t 16)), S 18 (.bin .eql (.t 17) (.c (.int .i64 1))), S 15 (.mv (.t 18))]
@[simp] noncomputable def r6 (_ : Unit) : List Stp := [S 2 (.mv (.c (.int .i64 2))), SN (.store 1 (.t 3) (.c (.int .i64 0)))]
@[simp] noncomputable def r7 (_ : Unit) : List Stp := [S 2 (.mv (.c (.int .i64 1))), SN (.store 1 (.t 3) (.c (.int .i64 0)))]
@[simp] noncomputable def ir : IR := (.seq (.ops r0) (.seq (.ops r1) (.seq (.seq (.ops r2) (.block 0 (.seq (.ops r3) (.cond (.t 9) (.seq (.ops r4) .ret) (.seq (.ops r5) (.cond (.t 15) (.seq (.ops r6) .ret) .skip)))))) (.seq (.ops r7) .ret))))
@[simp] noncomputable def rs : List RV := [.tmp 2, .cell 3 false 1]
theorem comp : compF Pg cfg Tryz.f21 = some (ir, rs, 19) := by kernel_rfl
theorem enter {args : List AVal} {h : Heap} {K : AEnd → Heap → Prop} (F : Nat) (hl : args.length ≤ 19) (a : AW ⟨Pg, F, 19, false, [2, 3]⟩ ir (RetD Pg rs K) (initT args) [] h) : ACalls Pg fn_rap_Sound args h K :=
  ACalls.of_comp_defer follows Tryz.func21 comp hl a
theorem pure {args : List AVal} {v : AVal} (hl : args.length ≤ 19) (a : AW ⟨Pg, 0, 19, false, [2, 3]⟩ ir (RetD Pg rs fun e _ => e = .ret v) (initT args) [] nilH) : APure Pg fn_rap_Sound args v :=
  APure.of_nil (enter 0 hl a)
end rap_Sound


namespace rap_Fewest
noncomputable def cfg : Cfg := { pure := pures, pcs := [], raw := [], cuts := [], draws := [], keep := [2, 3, 4] }
@[simp] noncomputable def r0 (_ : Unit) : List Stp := [S 1 (.box (.t 0)), S 2 (.mv (.c (.int .i64 0))), S 3 (.mv (.c (.int .i64 0))), S 4 (.alloc [(.int .i64 0)])]
@[simp] noncomputable def r1 (_ : Unit) : List Stp := [S 10 (.mkF (.func fn_rap_Fewest_1) [] [(.t 4)]), SN (.defer (.t 10) [])]
@[simp] noncomputable def r2 (_ : Unit) : List Stp := [S 11 (.load true 4 (.t 1)), S 12 (.call (.c (.func (.func fn_rap_open) [] [])) [(.t 11), (.c (.bool true))]), S 5 (.mv (.t 12))]
@[simp] noncomputable def r3 (_ : Unit) : List Stp := [S 13 (.mv (.t 5)), S 14 (.call (.c (.func (.func fn_rap_hull_can) [] [])) [(.t 13)]), S 6 (.alloc [.nils]), SN (.store 1 (.t 6) (.t 14))]
@[simp] noncomputable def r4 (_ : Unit) : List Stp := [S 16 (.mv (.t 5)), SP 17 (.call (.c (.func (.func fn_rap_hull_seams) [] [])) [(.t 16)]), S 18 (.bin .shl (.c (.int .i64 1)) (.t 17)), S 19 (.call (.c (.func (.func fn_rap_upTo) [] [])) [(.t 18)]), S 20 (.mkF (.func fn_rap_Fewest_2) [] [(.t 6)]), S 21 (.build [.nilf] [(0, 1, (.t 20))]), S 22 (.call (.c (.func (.func fn_rap_best_int) [] [])) [(.t 19), (.t 21)]), S 15 (.mv (.t 22)), S 23 (.ext (.t 15) 0), S 24 (.ext (.t 15) 1), S 25 (.ext (.t 15) 2), S 7 (.mv (.t 23)), S 8 (.mv (.t 24)), S 9 (.mv (.t 25))]
@[simp] noncomputable def r5 (_ : Unit) : List Stp := [S 26 (.mv (.t 9)), S 27 (.call (.c (.func (.func fn_rap_want) [] [])) [(.t 26), (.c (.int .i64 4))])]
@[simp] noncomputable def r6 (_ : Unit) : List Stp := [S 28 (.mv (.t 8)), S 29 (.mv (.t 7)), S 2 (.mv (.t 28)), S 3 (.mv (.t 29)), SN (.store 1 (.t 4) (.c (.int .i64 0)))]
@[simp] noncomputable def ir : IR := (.seq (.ops r0) (.seq (.ops r1) (.seq (.ops r2) (.seq (.ops r3) (.seq (.ops r4) (.seq (.ops r5) (.seq (.ops r6) .ret)))))))
@[simp] noncomputable def rs : List RV := [.tmp 2, .tmp 3, .cell 4 false 1]
theorem comp : compF Pg cfg Tryz.f23 = some (ir, rs, 30) := by kernel_rfl
theorem enter {args : List AVal} {h : Heap} {K : AEnd → Heap → Prop} (F : Nat) (hl : args.length ≤ 30) (a : AW ⟨Pg, F, 30, false, [2, 3, 4]⟩ ir (RetD Pg rs K) (initT args) [] h) : ACalls Pg fn_rap_Fewest args h K :=
  ACalls.of_comp_defer follows Tryz.func23 comp hl a
theorem pure {args : List AVal} {v : AVal} (hl : args.length ≤ 30) (a : AW ⟨Pg, 0, 30, false, [2, 3, 4]⟩ ir (RetD Pg rs fun e _ => e = .ret v) (initT args) [] nilH) : APure Pg fn_rap_Fewest args v :=
  APure.of_nil (enter 0 hl a)
end rap_Fewest


namespace rap_Next
noncomputable def cfg : Cfg := { pure := pures, pcs := [], raw := [], cuts := [], draws := [], keep := [2, 3, 4] }
@[simp] noncomputable def r0 (_ : Unit) : List Stp := [S 1 (.box (.t 0)), S 2 (.mv (.c (.int .i64 0))), S 3 (.mv (.c (.int .i64 0))), S 4 (.alloc [(.int .i64 0)])]
@[simp] noncomputable def r1 (_ : Unit) : List Stp := [S 10 (.mkF (.func fn_rap_Next_1) [] [(.t 4)]), SN (.defer (.t 10) [])]
@[simp] noncomputable def r2 (_ : Unit) : List Stp := [S 11 (.load true 4 (.t 1)), S 12 (.call (.c (.func (.func fn_rap_open) [] [])) [(.t 11), (.c (.bool true))]), S 5 (.mv (.t 12))]
@[simp] noncomputable def r3 (_ : Unit) : List Stp := [S 13 (.mv (.t 5)), S 14 (.call (.c (.func (.func fn_rap_hull_can) [] [])) [(.t 13)]), S 6 (.alloc [.nils]), SN (.store 1 (.t 6) (.t 14))]
@[simp] noncomputable def r4 (_ : Unit) : List Stp := [S 15 (.load false 1 (.t 6)), S 16 (.len (.t 15)), S 17 (.bin .gtr (.t 16) (.c (.int .i64 1))), S 18 (.call (.c (.func (.func fn_rap_want) [] [])) [(.t 17), (.c (.int .i64 11))])]
@[simp] noncomputable def r5 (_ : Unit) : List Stp := [S 20 (.mv (.t 5)), SP 21 (.call (.c (.func (.func fn_rap_hull_seams) [] [])) [(.t 20)]), S 22 (.call (.c (.func (.func fn_rap_upTo) [] [])) [(.t 21)]), S 23 (.mkF (.func fn_rap_Next_2) [] [(.t 6)]), S 24 (.build [.nilf] [(0, 1, (.t 23))]), S 25 (.call (.c (.func (.func fn_rap_best_int) [] [])) [(.t 22), (.t 24)]), S 19 (.mv (.t 25)), S 26 (.ext (.t 19) 0), S 27 (.ext (.t 19) 1), S 28 (.ext (.t 19) 2), S 7 (.mv (.t 26)), S 8 (.mv (.t 27)), S 9 (.mv (.t 28))]
@[simp] noncomputable def r6 (_ : Unit) : List Stp := [S 29 (.mv (.t 9)), S 30 (.call (.c (.func (.func fn_rap_want) [] [])) [(.t 29), (.c (.int .i64 4))])]
@[simp] noncomputable def r7 (_ : Unit) : List Stp := [S 31 (.mv (.t 7)), S 32 (.mv (.t 8)), S 2 (.mv (.t 31)), S 3 (.mv (.t 32)), SN (.store 1 (.t 4) (.c (.int .i64 0)))]
@[simp] noncomputable def ir : IR := (.seq (.ops r0) (.seq (.ops r1) (.seq (.ops r2) (.seq (.ops r3) (.seq (.ops r4) (.seq (.ops r5) (.seq (.ops r6) (.seq (.ops r7) .ret))))))))
@[simp] noncomputable def rs : List RV := [.tmp 2, .tmp 3, .cell 4 false 1]
theorem comp : compF Pg cfg Tryz.f25 = some (ir, rs, 33) := by kernel_rfl
theorem enter {args : List AVal} {h : Heap} {K : AEnd → Heap → Prop} (F : Nat) (hl : args.length ≤ 33) (a : AW ⟨Pg, F, 33, false, [2, 3, 4]⟩ ir (RetD Pg rs K) (initT args) [] h) : ACalls Pg fn_rap_Next args h K :=
  ACalls.of_comp_defer follows Tryz.func25 comp hl a
theorem pure {args : List AVal} {v : AVal} (hl : args.length ≤ 33) (a : AW ⟨Pg, 0, 33, false, [2, 3, 4]⟩ ir (RetD Pg rs fun e _ => e = .ret v) (initT args) [] nilH) : APure Pg fn_rap_Next args v :=
  APure.of_nil (enter 0 hl a)
end rap_Next


namespace rap_Wrong
noncomputable def cfg : Cfg := { pure := pures, pcs := [], raw := [], cuts := [], draws := [], keep := [2, 3] }
@[simp] noncomputable def r0 (_ : Unit) : List Stp := [S 1 (.box (.t 0)), S 2 (.mv (.c (.int .i64 0))), S 3 (.alloc [(.int .i64 0)])]
@[simp] noncomputable def r1 (_ : Unit) : List Stp := [S 9 (.mkF (.func fn_rap_Wrong_1) [] [(.t 3)]), SN (.defer (.t 9) [])]
@[simp] noncomputable def r2 (_ : Unit) : List Stp := [S 10 (.load true 4 (.t 1)), S 11 (.call (.c (.func (.func fn_rap_open) [] [])) [(.t 10), (.c (.bool true))]), S 4 (.alloc [.nilp]), SN (.store 1 (.t 4) (.t 11))]
@[simp] noncomputable def r3 (_ : Unit) : List Stp := [S 12 (.load false 1 (.t 4)), S 13 (.call (.c (.func (.func fn_rap_hull_sounds) [] [])) [(.t 12)]), S 5 (.alloc [.nils]), SN (.store 1 (.t 5) (.t 13))]
@[simp] noncomputable def r4 (_ : Unit) : List Stp := [S 15 (.fAddr 3 (.t 1)), S 16 (.load false 1 (.t 15)), S 17 (.len (.t 16)), S 18 (.bin .shl (.c (.int .i64 1)) (.t 17)), S 19 (.call (.c (.func (.func fn_rap_upTo) [] [])) [(.t 18)]), S 20 (.mkF (.func fn_rap_Wrong_2) [] [(.t 4), (.t 5)]), S 21 (.build [.nilf] [(0, 1, (.t 20))]), S 22 (.call (.c (.func (.func fn_rap_best_int) [] [])) [(.t 19), (.t 21)]), S 14 (.mv (.t 22)), S 23 (.ext (.t 14) 0), S 24 (.ext (.t 14) 1), S 25 (.ext (.t 14) 2), S 6 (.mv (.t 23)), S 7 (.mv (.t 24)), S 8 (.mv (.t 25))]
@[simp] noncomputable def r5 (_ : Unit) : List Stp := [S 26 (.mv (.t 8)), S 27 (.mv (.t 26)), SG 28 27 true (.mv (.t 6)), SG 29 27 true (.bin .neq (.t 28) (.c (.int .i64 0))), S 30 (.pick (.t 27) (.t 29) (.c (.bool false))), S 31 (.call (.c (.func (.func fn_rap_want) [] [])) [(.t 30), (.c (.int .i64 4))])]
@[simp] noncomputable def r6 (_ : Unit) : List Stp := [S 32 (.mv (.t 6)), S 2 (.mv (.t 32)), SN (.store 1 (.t 3) (.c (.int .i64 0)))]
@[simp] noncomputable def ir : IR := (.seq (.ops r0) (.seq (.ops r1) (.seq (.ops r2) (.seq (.ops r3) (.seq (.ops r4) (.seq (.ops r5) (.seq (.ops r6) .ret)))))))
@[simp] noncomputable def rs : List RV := [.tmp 2, .cell 3 false 1]
theorem comp : compF Pg cfg Tryz.f27 = some (ir, rs, 33) := by kernel_rfl
theorem enter {args : List AVal} {h : Heap} {K : AEnd → Heap → Prop} (F : Nat) (hl : args.length ≤ 33) (a : AW ⟨Pg, F, 33, false, [2, 3]⟩ ir (RetD Pg rs K) (initT args) [] h) : ACalls Pg fn_rap_Wrong args h K :=
  ACalls.of_comp_defer follows Tryz.func27 comp hl a
theorem pure {args : List AVal} {v : AVal} (hl : args.length ≤ 33) (a : AW ⟨Pg, 0, 33, false, [2, 3]⟩ ir (RetD Pg rs fun e _ => e = .ret v) (initT args) [] nilH) : APure Pg fn_rap_Wrong args v :=
  APure.of_nil (enter 0 hl a)
end rap_Wrong


namespace ref13_Rap
noncomputable def cfg : Cfg := { pure := pures, pcs := [], raw := [], cuts := [], draws := [(6, [⟨0, false, [], []⟩, ⟨2, false, [], []⟩, ⟨4, false, [], []⟩, ⟨1, false, [], []⟩, ⟨3, false, [], []⟩, ⟨5, false, [], []⟩, ⟨6, false, [], []⟩, ⟨7, false, [], []⟩, ⟨8, false, [], []⟩, ⟨9, false, [], []⟩])], keep := [] }
@[simp] noncomputable def r0 (_ : Unit) : List Stp := [S 1 (.box (.t 0)), S 2 (.mv (.c (.bool false)))]
@[simp] noncomputable def r1 (_ : Unit) : List Stp := [S 4 (.fAddr 0 (.t 1)), S 5 (.load true 3 (.t 4)), SP 6 (.call (.c (.func (.func fn_ref05_Drive) [] [])) [(.t 5)]), S 7 (.un .not (.t 6)), S 8 (.mv (.t 7)), SG 9 8 false (.fAddr 3 (.t 1)), SG 10 8 false (.load false 1 (.t 9)), SG 11 8 false (.len (.t 10)), SG 12 8 false (.bin .gtr (.t 11) (.c (.int .i64 10))), S 13 (.pick (.t 8) (.c (.bool true)) (.t 12))]
@[simp] noncomputable def r2 (_ : Unit) : List Stp := [S 2 (.mv (.c (.bool false)))]
@[simp] noncomputable def r3 (_ : Unit) : List Stp := [S 3 (.mv (.c (.int .i64 0)))]
@[simp] noncomputable def r4 (_ : Unit) : List Stp := [S 14 (.mv (.t 3)), S 15 (.fAddr 3 (.t 1)), S 16 (.load false 1 (.t 15)), S 17 (.len (.t 16)), S 18 (.bin .lss (.t 14) (.t 17))]
@[simp] noncomputable def r6 (_ : Unit) : List Stp := [S 21 (.fAddr 0 (.t 1)), S 23 (.fAddr 3 (.t 1)), S 25 (.mv (.t 3)), S 22 (.load true 3 (.t 21)), S 24 (.load false 1 (.t 23)), S 26 (.ixS 2 (.t 24) (.t 25)), S 27 (.fAddr 0 (.t 26)), S 28 (.load false 1 (.t 27)), SP 29 (.call (.c (.func (.func fn_ref05_Seam) [] [])) [(.t 22), (.t 28)]), S 30 (.un .not (.t 29))]
@[simp] noncomputable def r7 (_ : Unit) : List Stp := [S 2 (.mv (.c (.bool false)))]
@[simp] noncomputable def r5 (_ : Unit) : List Stp := [S 19 (.mv (.t 3)), S 20 (.bin .add (.t 19) (.c (.int .i64 1))), S 3 (.mv (.t 20))]
@[simp] noncomputable def r8 (_ : Unit) : List Stp := [S 2 (.mv (.c (.bool true)))]
@[simp] noncomputable def ir : IR := (.seq (.ops r0) (.seq (.seq (.ops r1) (.cond (.t 13) (.seq (.ops r2) .ret) .skip)) (.seq (.seq (.ops r3) (.block 0 (.loop (.seq (.seq (.ops r4) (.cond (.t 18) .skip (.exit 0))) (.seq (.block 1 (.seq (.ops r6) (.cond (.t 30) (.seq (.ops r7) .ret) .skip))) (.ops r5)))))) (.seq (.ops r8) .ret))))
@[simp] noncomputable def rs : List RV := [.tmp 2]
theorem comp : compF Pg cfg Tryz.f29 = some (ir, rs, 31) := by kernel_rfl
theorem enter {args : List AVal} {h : Heap} {K : AEnd → Heap → Prop} (F : Nat) (hl : args.length ≤ 31) (a : AW ⟨Pg, F, 31, false, []⟩ ir (RetK rs K) (initT args) [] h) : ACalls Pg fn_ref13_Rap args h K :=
  ACalls.of_comp follows Tryz.func29 comp hl a
theorem pure {args : List AVal} {v : AVal} (hl : args.length ≤ 31) (a : AW ⟨Pg, 0, 31, false, []⟩ ir (RetK rs fun e _ => e = .ret v) (initT args) [] nilH) : APure Pg fn_ref13_Rap args v :=
  APure.of_nil (enter 0 hl a)
end ref13_Rap

namespace law13_draws
noncomputable def cfg : Cfg := { pure := pures, pcs := [], raw := [], cuts := [], draws := [], keep := [] }
@[simp] noncomputable def r0 (_ : Unit) : List Stp := [S 1 (.box (.t 0)), S 2 (.mv (.c .nilf))]
@[simp] noncomputable def r1 (_ : Unit) : List Stp := [S 3 (.alloc [(.int .i64 0)]), SN (.store 1 (.t 3) (.c (.int .i64 0)))]
@[simp] noncomputable def r2 (_ : Unit) : List Stp := [S 4 (.mkF (.func fn_law13_draws_1) [] [(.t 3), (.t 1)]), S 2 (.mv (.t 4))]
@[simp] noncomputable def ir : IR := (.seq (.ops r0) (.seq (.ops r1) (.seq (.ops r2) .ret)))
@[simp] noncomputable def rs : List RV := [.tmp 2]
theorem comp : compF Pg cfg Tryz.f30 = some (ir, rs, 5) := by kernel_rfl
theorem enter {args : List AVal} {h : Heap} {K : AEnd → Heap → Prop} (F : Nat) (hl : args.length ≤ 5) (a : AW ⟨Pg, F, 5, false, []⟩ ir (RetK rs K) (initT args) [] h) : ACalls Pg fn_law13_draws args h K :=
  ACalls.of_comp follows Tryz.func30 comp hl a
theorem pure {args : List AVal} {v : AVal} (hl : args.length ≤ 5) (a : AW ⟨Pg, 0, 5, false, []⟩ ir (RetK rs fun e _ => e = .ret v) (initT args) [] nilH) : APure Pg fn_law13_draws args v :=
  APure.of_nil (enter 0 hl a)
end law13_draws

namespace drive_Settle
noncomputable def cfg : Cfg := { pure := pures, pcs := [], raw := [], cuts := [], draws := [(2, [⟨2, false, [], []⟩, ⟨0, false, [], []⟩, ⟨1, false, [], []⟩, ⟨3, false, [], []⟩, ⟨4, false, [], []⟩, ⟨5, false, [], []⟩])], keep := [4, 5, 6] }
@[simp] noncomputable def r0 (_ : Unit) : List Stp := [S 2 (.box (.t 0)), S 4 (.mv (.c .nils)), S 5 (.mv (.c .nils)), S 6 (.alloc [(.int .i64 0)])]
@[simp] noncomputable def r1 (_ : Unit) : List Stp := [S 9 (.mkF (.func fn_drive_Settle_1) [] [(.t 6)]), SN (.defer (.t 9) [])]
@[simp] noncomputable def r2 (_ : Unit) : List Stp := [S 12 (.mv (.t 1)), S 10 (.load true 3 (.t 2)), S 11 (.load true 3 (.t 2)), SP 13 (.call (.c (.func (.func fn_drive_areBlows) [] [])) [(.t 11), (.t 12)]), S 14 (.call (.c (.func (.func fn_drive_open) [] [])) [(.t 10), (.t 13)]), S 7 (.mv (.t 14))]
@[simp] noncomputable def r3 (_ : Unit) : List Stp := [S 15 (.mv (.t 7)), S 16 (.call (.c (.func (.func fn_drive_hull_settler) [] [])) [(.t 15)]), S 17 (.mv (.t 1)), SP 18 (.call (.c (.func (.func fn_drive_blowsOf) [] [])) [(.t 17)]), S 19 (.call (.c (.func (.func fn_drive_settler_rest) [] [])) [(.t 16), (.t 18)]), S 8 (.alloc [(.int .i64 0), (.int .i64 0), (.int .i64 0), (.int .i64 0), (.int .i64 0), (.int .i64 0), (.int .i64 0), (.int .i64 0), (.int .i64 0), (.int .i64 0), (.int .i64 0), (.int .i64 0)]), SN (.store 12 (.t 8) (.t 19))]
@[simp] noncomputable def r4 (_ : Unit) : List Stp := [S 20 (.fAddr 0 (.t 8)), S 21 (.mv (.t 7)), SP 22 (.call (.c (.func (.func fn_drive_hull_seams) [] [])) [(.t 21)]), S 23 (.slA 6 1 (.t 20) none (some (.t 22)) none), S 24 (.call (.c (.func (.func fn_slices_Clone_int_int) [] [])) [(.t 23)]), S 25 (.fAddr 6 (.t 8)), S 26 (.mv (.t 7)), SP 27 (.call (.c (.func (.func fn_drive_hull_seams) [] [])) [(.t 26)]), S 28 (.slA 6 1 (.t 25) none (some (.t 27)) none), S 29 (.call (.c (.func (.func fn_slices_Clone_int_int) [] [])) [(.t 28)]), S 4 (.mv (.t 24)), S 5 (.mv (.t 29)), SN (.store 1 (.t 6) (.c (.int .i64 0)))]
@[simp] noncomputable def ir : IR := (.seq (.ops r0) (.seq (.ops r1) (.seq (.ops r2) (.seq (.ops r3) (.seq (.ops r4) .ret)))))
@[simp] noncomputable def rs : List RV := [.tmp 4, .tmp 5, .cell 6 false 1]
theorem comp : compF Pg cfg Tryz.f31 = some (ir, rs, 30) := by kernel_rfl
theorem enter {args : List AVal} {h : Heap} {K : AEnd → Heap → Prop} (F : Nat) (hl : args.length ≤ 30) (a : AW ⟨Pg, F, 30, false, [4, 5, 6]⟩ ir (RetD Pg rs K) (initT args) [] h) : ACalls Pg fn_drive_Settle args h K :=
  ACalls.of_comp_defer follows Tryz.func31 comp hl a
theorem pure {args : List AVal} {v : AVal} (hl : args.length ≤ 30) (a : AW ⟨Pg, 0, 30, false, [4, 5, 6]⟩ ir (RetD Pg rs fun e _ => e = .ret v) (initT args) [] nilH) : APure Pg fn_drive_Settle args v :=
  APure.of_nil (enter 0 hl a)
end drive_Settle

namespace law13_opened
noncomputable def cfg : Cfg := { pure := pures, pcs := [], raw := [], cuts := [], draws := [], keep := [] }
@[simp] noncomputable def r0 (_ : Unit) : List Stp := [S 2 (.mv (.c (.int .i64 0)))]
@[simp] noncomputable def r1 (_ : Unit) : List Stp := [S 5 (.mv (.t 0)), S 6 (.len (.t 5)), S 7 (.mv (.c (.int .i64 0)))]
@[simp] noncomputable def r2 (_ : Unit) : List Stp := [S 8 (.bin .lss (.t 7) (.t 6))]
@[simp] noncomputable def r3 (_ : Unit) : List Stp := [S 9 (.mv (.t 7)), S 10 (.ixS 1 (.t 5) (.t 7)), S 11 (.load false 1 (.t 10)), S 3 (.mv (.t 9)), S 4 (.mv (.t 11))]
@[simp] noncomputable def r4 (_ : Unit) : List Stp := [S 12 (.mv (.t 4)), S 13 (.bin .gtr (.t 12) (.c (.int .i64 0))), S 14 (.mv (.t 13)), SG 15 14 true (.mv (.t 3)), SG 16 14 true (.bin .lss (.t 15) (.c (.int .i64 6))), S 17 (.pick (.t 14) (.t 16) (.c (.bool false)))]
@[simp] noncomputable def r5 (_ : Unit) : List Stp := [S 18 (.mv (.t 2)), S 19 (.mv (.t 3)), S 20 (.bin .shl (.c (.int .i64 1)) (.t 19)), S 21 (.bin .or (.t 18) (.t 20)), S 2 (.mv (.t 21))]
@[simp] noncomputable def r6 (_ : Unit) : List Stp := [S 22 (.bin .add (.t 7) (.c (.int .i64 1))), S 7 (.mv (.t 22))]
@[simp] noncomputable def r7 (_ : Unit) : List Stp := [S 23 (.mv (.t 2)), S 2 (.mv (.t 23))]
@[simp] noncomputable def ir : IR := (.seq (.ops r0) (.seq (.seq (.ops r1) (.block 0 (.loop (.seq (.ops r2) (.seq (.cond (.t 8) .skip (.exit 0)) (.seq (.block 1 (.seq (.ops r3) (.seq (.ops r4) (.cond (.t 17) (.ops r5) .skip)))) (.ops r6))))))) (.seq (.ops r7) .ret)))
@[simp] noncomputable def rs : List RV := [.tmp 2]
theorem comp : compF Pg cfg Tryz.f32 = some (ir, rs, 24) := by kernel_rfl
theorem enter {args : List AVal} {h : Heap} {K : AEnd → Heap → Prop} (F : Nat) (hl : args.length ≤ 24) (a : AW ⟨Pg, F, 24, false, []⟩ ir (RetK rs K) (initT args) [] h) : ACalls Pg fn_law13_opened args h K :=
  ACalls.of_comp follows Tryz.func32 comp hl a
theorem pure {args : List AVal} {v : AVal} (hl : args.length ≤ 24) (a : AW ⟨Pg, 0, 24, false, []⟩ ir (RetK rs fun e _ => e = .ret v) (initT args) [] nilH) : APure Pg fn_law13_opened args v :=
  APure.of_nil (enter 0 hl a)
end law13_opened

namespace law13_find
noncomputable def cfg : Cfg := { pure := pures, pcs := [], raw := [], cuts := [], draws := [], keep := [] }
@[simp] noncomputable def r0 (_ : Unit) : List Stp := [S 4 (.alloc [(.int .i64 0), (.bool false)])]
@[simp] noncomputable def r1 (_ : Unit) : List Stp := [S 5 (.mv (.t 0)), S 6 (.mv (.t 1)), S 7 (.build [(.int .i64 0), (.bool false)] [(0, 1, (.t 5)), (1, 1, (.t 6))]), SN (.store 2 (.t 4) (.t 7))]
@[simp] noncomputable def ir : IR := (.seq (.ops r0) (.seq (.ops r1) .ret))
@[simp] noncomputable def rs : List RV := [.cell 4 true 2]
theorem comp : compF Pg cfg Tryz.f33 = some (ir, rs, 8) := by kernel_rfl
theorem enter {args : List AVal} {h : Heap} {K : AEnd → Heap → Prop} (F : Nat) (hl : args.length ≤ 8) (a : AW ⟨Pg, F, 8, false, []⟩ ir (RetK rs K) (initT args) [] h) : ACalls Pg fn_law13_find args h K :=
  ACalls.of_comp follows Tryz.func33 comp hl a
theorem pure {args : List AVal} {v : AVal} (hl : args.length ≤ 8) (a : AW ⟨Pg, 0, 8, false, []⟩ ir (RetK rs fun e _ => e = .ret v) (initT args) [] nilH) : APure Pg fn_law13_find args v :=
  APure.of_nil (enter 0 hl a)
end law13_find

namespace law13_hears
noncomputable def cfg : Cfg := { pure := pures, pcs := [], raw := [], cuts := [], draws := [], keep := [] }
@[simp] noncomputable def r0 (_ : Unit) : List Stp := [S 3 (.box (.t 0)), S 6 (.mv (.c (.bool false)))]
@[simp] noncomputable def r1 (_ : Unit) : List Stp := [S 10 (.mv (.t 1)), S 11 (.mv (.t 2)), S 12 (.bin .shr (.t 10) (.t 11)), S 13 (.bin .and (.t 12) (.c (.int .i64 1))), S 14 (.bin .eql (.t 13) (.c (.int .i64 1))), S 7 (.mv (.t 14))]
@[simp] noncomputable def r2 (_ : Unit) : List Stp := [S 15 (.fAddr 0 (.t 3)), S 16 (.fAddr 1 (.t 15)), S 17 (.load false 1 (.t 16)), S 18 (.len (.t 17)), S 19 (.mv (.c (.int .i64 0)))]
@[simp] noncomputable def r3 (_ : Unit) : List Stp := [S 20 (.bin .lss (.t 19) (.t 18))]
@[simp] noncomputable def r4 (_ : Unit) : List Stp := [S 21 (.ixS 2 (.t 17) (.t 19)), S 22 (.load true 2 (.t 21)), S 9 (.alloc [(.int .i64 0), (.int .i64 0)]), SN (.store 2 (.t 9) (.t 22))]
@[simp] noncomputable def r5 (_ : Unit) : List Stp := [S 23 (.mv (.t 7)), S 24 (.mv (.t 23)), SG 25 24 false (.ixA 2 1 (.t 9) (.c (.int .i64 0))), SG 26 24 false (.load false 1 (.t 25)), SG 27 24 false (.mv (.t 2)), SG 28 24 false (.bin .eql (.t 26) (.t 27)), SG 29 24 false (.mv (.t 28)), SG 30 29 true (.mv (.t 1)), SG 31 29 true (.ixA 2 1 (.t 9) (.c (.int .i64 1))), SG 32 29 true (.load false 1 (.t 31)), SG 33 29 true (.bin .shr (.t 30) (.t 32)), SG 34 29 true (.bin .and (.t 33) (.c (.int .i64 1))), SG 35 29 true (.bin .eql (.t 34) (.c (.int .i64 1))), SG 36 24 false (.pick (.t 29) (.t 35) (.c (.bool false))), S 37 (.pick (.t 24) (.c (.bool true)) (.t 36)), S 38 (.mv (.t 37)), SG 39 38 false (.ixA 2 1 (.t 9) (.c (.int .i64 1))), SG 40 38 false (.load false 1 (.t 39)), SG 41 38 false (.mv (.t 2)), SG 42 38 false (.bin .eql (.t 40) (.t 41)), SG 43 38 false (.mv (.t 42)), SG 44 43 true (.mv (.t 1)), SG 45 43 true (.ixA 2 1 (.t 9) (.c (.int .i64 0))), SG 46 43 true (.load false 1 (.t 45)), SG 47 43 true (.bin .shr (.t 44) (.t 46)), SG 48 43 true (.bin .and (.t 47) (.c (.int .i64 1))), SG 49 43 true (.bin .eql (.t 48) (.c (.int .i64 1))), SG 50 38 false (.pick (.t 43) (.t 49) (.c (.bool false))), S 51 (.pick (.t 38) (.c (.bool true)) (.t 50)), S 7 (.mv (.t 51))]
@[simp] noncomputable def r6 (_ : Unit) : List Stp := [S 52 (.bin .add (.t 19) (.c (.int .i64 1))), S 19 (.mv (.t 52))]
@[simp] noncomputable def r7 (_ : Unit) : List Stp := [S 53 (.mv (.t 7)), S 6 (.mv (.t 53))]
@[simp] noncomputable def ir : IR := (.seq (.ops r0) (.seq (.ops r1) (.seq (.seq (.ops r2) (.block 0 (.loop (.seq (.ops r3) (.seq (.cond (.t 20) .skip (.exit 0)) (.seq (.block 1 (.seq (.ops r4) (.ops r5))) (.ops r6))))))) (.seq (.ops r7) .ret))))
@[simp] noncomputable def rs : List RV := [.tmp 6]
theorem comp : compF Pg cfg Tryz.f34 = some (ir, rs, 54) := by kernel_rfl
theorem enter {args : List AVal} {h : Heap} {K : AEnd → Heap → Prop} (F : Nat) (hl : args.length ≤ 54) (a : AW ⟨Pg, F, 54, false, []⟩ ir (RetK rs K) (initT args) [] h) : ACalls Pg fn_law13_hears args h K :=
  ACalls.of_comp follows Tryz.func34 comp hl a
theorem pure {args : List AVal} {v : AVal} (hl : args.length ≤ 54) (a : AW ⟨Pg, 0, 54, false, []⟩ ir (RetK rs fun e _ => e = .ret v) (initT args) [] nilH) : APure Pg fn_law13_hears args v :=
  APure.of_nil (enter 0 hl a)
end law13_hears





namespace law13_RapSets_1
noncomputable def cfg : Cfg := { pure := pures, pcs := [], raw := [], cuts := [], draws := [(4, [⟨1, false, [], []⟩, ⟨2, false, [], []⟩, ⟨5, false, [], []⟩, ⟨0, false, [], []⟩, ⟨3, false, [], []⟩, ⟨4, false, [], []⟩, ⟨6, false, [], []⟩, ⟨7, false, [], []⟩])], keep := [] }
@[simp] noncomputable def r0 (_ : Unit) : List Stp := [S 3 (.mv (.c (.bool false)))]
@[simp] noncomputable def r1 (_ : Unit) : List Stp := [S 6 (.fAddr 3 (.t 1)), S 7 (.load false 1 (.t 6)), S 8 (.len (.t 7)), S 9 (.mv (.c (.int .i64 0)))]
@[simp] noncomputable def r2 (_ : Unit) : List Stp := [S 10 (.bin .lss (.t 9) (.t 8))]
@[simp] noncomputable def r3 (_ : Unit) : List Stp := [S 11 (.ixS 2 (.t 7) (.t 9)), S 12 (.load true 2 (.t 11)), S 5 (.alloc [(.int .i64 0), (.bool false)]), SN (.store 2 (.t 5) (.t 12))]
@[simp] noncomputable def r4 (_ : Unit) : List Stp := [S 14 (.mv (.t 0)), S 15 (.fAddr 0 (.t 5)), S 18 (.fAddr 1 (.t 5)), S 13 (.load true 4 (.t 1)), S 16 (.load false 1 (.t 15)), SP 17 (.call (.c (.func (.func fn_law13_hears) [] [])) [(.t 13), (.t 14), (.t 16)]), S 19 (.load false 1 (.t 18)), S 20 (.eqB true (.t 17) (.t 19))]
@[simp] noncomputable def r5 (_ : Unit) : List Stp := [S 3 (.mv (.c (.bool false)))]
@[simp] noncomputable def r6 (_ : Unit) : List Stp := [S 21 (.bin .add (.t 9) (.c (.int .i64 1))), S 9 (.mv (.t 21))]
@[simp] noncomputable def r7 (_ : Unit) : List Stp := [S 3 (.mv (.c (.bool true)))]
@[simp] noncomputable def ir : IR := (.seq (.ops r0) (.seq (.seq (.ops r1) (.block 0 (.loop (.seq (.ops r2) (.seq (.cond (.t 10) .skip (.exit 0)) (.seq (.block 1 (.seq (.ops r3) (.seq (.ops r4) (.cond (.t 20) (.seq (.ops r5) .ret) .skip)))) (.ops r6))))))) (.seq (.ops r7) .ret)))
@[simp] noncomputable def rs : List RV := [.tmp 3]
theorem comp : compF Pg cfg Tryz.f39 = some (ir, rs, 22) := by kernel_rfl
theorem enter {args : List AVal} {h : Heap} {K : AEnd → Heap → Prop} (F : Nat) (hl : args.length ≤ 22) (a : AW ⟨Pg, F, 22, false, []⟩ ir (RetK rs K) (initT args) [] h) : ACalls Pg fn_law13_RapSets_1 args h K :=
  ACalls.of_comp follows Tryz.func39 comp hl a
theorem pure {args : List AVal} {v : AVal} (hl : args.length ≤ 22) (a : AW ⟨Pg, 0, 22, false, []⟩ ir (RetK rs fun e _ => e = .ret v) (initT args) [] nilH) : APure Pg fn_law13_RapSets_1 args v :=
  APure.of_nil (enter 0 hl a)
end law13_RapSets_1

namespace drive_Opens
noncomputable def cfg : Cfg := { pure := pures, pcs := [], raw := [], cuts := [], draws := [(3, [⟨0, false, [], []⟩, ⟨1, false, [], []⟩, ⟨2, false, [], []⟩, ⟨3, false, [], []⟩, ⟨4, false, [], []⟩, ⟨5, false, [], []⟩, ⟨6, false, [], []⟩, ⟨7, false, [], []⟩, ⟨8, false, [], []⟩])], keep := [2, 3, 4] }
@[simp] noncomputable def r0 (_ : Unit) : List Stp := [S 1 (.box (.t 0)), S 2 (.mv (.c (.int .i64 0))), S 3 (.mv (.c (.int .i64 0))), S 4 (.alloc [(.int .i64 0)])]
@[simp] noncomputable def r1 (_ : Unit) : List Stp := [S 7 (.mkF (.func fn_drive_Opens_1) [] [(.t 4)]), SN (.defer (.t 7) [])]
@[simp] noncomputable def r2 (_ : Unit) : List Stp := [S 9 (.load true 3 (.t 1)), S 10 (.call (.c (.func (.func fn_drive_open) [] [])) [(.t 9), (.c (.bool true))]), SP 11 (.call (.c (.func (.func fn_drive_hull_times) [] [])) [(.t 10)]), S 8 (.mv (.t 11)), S 12 (.ext (.t 8) 0), S 13 (.ext (.t 8) 1), S 5 (.alloc [(.int .i64 0), (.int .i64 0), (.int .i64 0), (.int .i64 0), (.int .i64 0), (.int .i64 0)]), S 6 (.alloc [(.int .i64 0), (.int .i64 0), (.int .i64 0), (.int .i64 0), (.int .i64 0), (.int .i64 0)]), SN (.store 6 (.t 5) (.t 12)), SN (.store 6 (.t 6) (.t 13))]
@[simp] noncomputable def r3 (_ : Unit) : List Stp := [S 14 (.load true 6 (.t 6)), S 15 (.build [(.int .i64 0), (.int .i64 0), (.int .i64 0), (.int .i64 0), (.int .i64 0), (.int .i64 0), (.int .i64 0), (.int .i64 0), (.int .i64 0), (.int .i64 0), (.int .i64 0), (.int .i64 0)] [(6, 6, (.t 14))]), SP 16 (.call (.c (.func (.func fn_drive_rest_open) [] [])) [(.t 15)]), S 17 (.load true 6 (.t 5)), S 18 (.build [(.int .i64 0), (.int .i64 0), (.int .i64 0), (.int .i64 0), (.int .i64 0), (.int .i64 0), (.int .i64 0), (.int .i64 0), (.int .i64 0), (.int .i64 0), (.int .i64 0), (.int .i64 0)] [(6, 6, (.t 17))]), SP 19 (.call (.c (.func (.func fn_drive_rest_open) [] [])) [(.t 18)]), S 2 (.mv (.t 16)), S 3 (.mv (.t 19)), SN (.store 1 (.t 4) (.c (.int .i64 0)))]
@[simp] noncomputable def ir : IR := (.seq (.ops r0) (.seq (.ops r1) (.seq (.ops r2) (.seq (.nk (.ops r3)) .ret))))
@[simp] noncomputable def rs : List RV := [.tmp 2, .tmp 3, .cell 4 false 1]
theorem comp : compF Pg cfg Tryz.f40 = some (ir, rs, 20) := by kernel_rfl
theorem enter {args : List AVal} {h : Heap} {K : AEnd → Heap → Prop} (F : Nat) (hl : args.length ≤ 20) (a : AW ⟨Pg, F, 20, false, [2, 3, 4]⟩ ir (RetD Pg rs K) (initT args) [] h) : ACalls Pg fn_drive_Opens args h K :=
  ACalls.of_comp_defer follows Tryz.func40 comp hl a
theorem pure {args : List AVal} {v : AVal} (hl : args.length ≤ 20) (a : AW ⟨Pg, 0, 20, false, [2, 3, 4]⟩ ir (RetD Pg rs fun e _ => e = .ret v) (initT args) [] nilH) : APure Pg fn_drive_Opens args v :=
  APure.of_nil (enter 0 hl a)
end drive_Opens

namespace law13_sample
noncomputable def cfg : Cfg := { pure := pures, pcs := [], raw := [], cuts := [], draws := [], keep := [] }
@[simp] noncomputable def r0 (_ : Unit) : List Stp := [S 2 (.alloc [.nils, .nils, .nils, .nils])]
@[simp] noncomputable def r1 (_ : Unit) : List Stp := [S 3 (.bsl 4 [(.int .i64 0), (.int .i64 0), (.int .i64 0), (.int .i64 0)] [(0, 1, (.c (.int .i64 3))), (1, 1, (.c (.int .i64 3))), (2, 1, (.c (.int .i64 3))), (3, 1, (.c (.int .i64 3)))]), S 4 (.build [(.int .i64 0), (.int .i64 0)] [(0, 1, (.c (.int .i64 0))), (1, 1, (.c (.int .i64 1)))]), S 5 (.build [(.int .i64 0), (.int .i64 0)] [(0, 1, (.c (.int .i64 1))), (1, 1, (.c (.int .i64 2)))]), S 6 (.build [(.int .i64 0), (.int .i64 0)] [(0, 1, (.c (.int .i64 2))), (1, 1, (.c (.int .i64 3)))]), S 7 (.bsl 3 [(.int .i64 0), (.int .i64 0), (.int .i64 0), (.int .i64 0), (.int .i64 0), (.int .i64 0)] [(0, 2, (.t 4)), (2, 2, (.t 5)), (4, 2, (.t 6))]), SP 8 (.call (.c (.func (.func fn_law13_span) [] [])) [(.c (.int .i64 2)), (.c (.int .i64 3))]), SP 9 (.call (.c (.func (.func fn_law13_span) [] [])) [(.c (.int .i64 0)), (.c (.int .i64 0))]), SP 10 (.call (.c (.func (.func fn_law13_span) [] [])) [(.c (.int .i64 0)), (.c (.int .i64 0))]), SP 11 (.call (.c (.func (.func fn_law13_span) [] [])) [(.c (.int .i64 1)), (.c (.int .i64 3))]), S 12 (.bsl 4 [(.int .i64 0), (.int .i64 0), (.int .i64 0), (.int .i64 0), (.int .i64 0), (.int .i64 0), (.int .i64 0), (.int .i64 0)] [(0, 2, (.t 8)), (2, 2, (.t 9)), (4, 2, (.t 10)), (6, 2, (.t 11))]), S 13 (.build [.nils, .nils, .nils] [(0, 1, (.t 3)), (1, 1, (.t 7)), (2, 1, (.t 12))]), S 14 (.mv (.t 0)), S 15 (.build [.nils, .nils, .nils, .nils] [(0, 3, (.t 13)), (3, 1, (.t 14))]), SN (.store 4 (.t 2) (.t 15))]
@[simp] noncomputable def ir : IR := (.seq (.ops r0) (.seq (.ops r1) .ret))
@[simp] noncomputable def rs : List RV := [.cell 2 true 4]
theorem comp : compF Pg cfg Tryz.f41 = some (ir, rs, 16) := by kernel_rfl
theorem enter {args : List AVal} {h : Heap} {K : AEnd → Heap → Prop} (F : Nat) (hl : args.length ≤ 16) (a : AW ⟨Pg, F, 16, false, []⟩ ir (RetK rs K) (initT args) [] h) : ACalls Pg fn_law13_sample args h K :=
  ACalls.of_comp follows Tryz.func41 comp hl a
theorem pure {args : List AVal} {v : AVal} (hl : args.length ≤ 16) (a : AW ⟨Pg, 0, 16, false, []⟩ ir (RetK rs fun e _ => e = .ret v) (initT args) [] nilH) : APure Pg fn_law13_sample args v :=
  APure.of_nil (enter 0 hl a)
end law13_sample

namespace rap_Dull_1
noncomputable def cfg : Cfg := { pure := pures, pcs := [], raw := [], cuts := [], draws := [], keep := [] }
@[simp] noncomputable def r0 (_ : Unit) : List Stp := [S 1 (.recov), S 2 (.call (.c (.func (.func fn_rap_said) [] [])) [(.t 1), (.t 0)])]
@[simp] noncomputable def ir : IR := (.ops r0)
@[simp] noncomputable def rs : List RV := []
theorem comp : compF Pg cfg Tryz.f42 = some (ir, rs, 3) := by kernel_rfl
theorem enter {args : List AVal} {h : Heap} {K : AEnd → Heap → Prop} (F : Nat) (hl : args.length ≤ 3) (a : AW ⟨Pg, F, 3, false, []⟩ ir (RetK rs K) (initT args) [] h) : ACalls Pg fn_rap_Dull_1 args h K :=
  ACalls.of_comp follows Tryz.func42 comp hl a
theorem pure {args : List AVal} {v : AVal} (hl : args.length ≤ 3) (a : AW ⟨Pg, 0, 3, false, []⟩ ir (RetK rs fun e _ => e = .ret v) (initT args) [] nilH) : APure Pg fn_rap_Dull_1 args v :=
  APure.of_nil (enter 0 hl a)
theorem recClo : RecClo Pg fn_rap_Dull_1 fn_rap_said := ⟨_, Tryz.func42, by kernel_rfl⟩
end rap_Dull_1

namespace rap_said
noncomputable def cfg : Cfg := { pure := pures, pcs := [], raw := [], cuts := [], draws := [], keep := [] }
@[simp] noncomputable def r0 (_ : Unit) : List Stp := [S 6 (.mv (.t 0)), S 7 (.eqN .i false (.t 6))]
@[simp] noncomputable def r1 (_ : Unit) : List Stp := [S 9 (.mv (.t 0)), S 10 (.tyAs 120 true (.agg [(.int .i64 0)]) (.t 9)), S 8 (.mv (.t 10)), S 11 (.ext (.t 8) 0), S 12 (.ext (.t 8) 1), S 4 (.alloc [(.int .i64 0)]), SN (.store 1 (.t 4) (.t 11)), S 5 (.mv (.t 12))]
@[simp] noncomputable def r2 (_ : Unit) : List Stp := [S 13 (.mv (.t 5)), S 14 (.un .not (.t 13))]
@[simp] noncomputable def r3 (_ : Unit) : List Stp := [S 15 (.mv (.t 0)), SN (.panic (.t 15))]
@[simp] noncomputable def r4 (_ : Unit) : List Stp := [S 16 (.mv (.t 1)), S 17 (.fAddr 0 (.t 4)), S 18 (.load false 1 (.t 17)), S 19 (.nilck Pg (.t 16)), SN (.store 1 (.t 19) (.t 18))]
@[simp] noncomputable def ir : IR := (.seq (.seq (.ops r0) (.cond (.t 7) .ret .skip)) (.seq (.ops r1) (.seq (.seq (.ops r2) (.cond (.t 14) (.ops r3) .skip)) (.ops r4))))
@[simp] noncomputable def rs : List RV := []
theorem comp : compF Pg cfg Tryz.f43 = some (ir, rs, 20) := by kernel_rfl
theorem enter {args : List AVal} {h : Heap} {K : AEnd → Heap → Prop} (F : Nat) (hl : args.length ≤ 20) (a : AW ⟨Pg, F, 20, false, []⟩ ir (RetK rs K) (initT args) [] h) : ACalls Pg fn_rap_said args h K :=
  ACalls.of_comp follows Tryz.func43 comp hl a
theorem pure {args : List AVal} {v : AVal} (hl : args.length ≤ 20) (a : AW ⟨Pg, 0, 20, false, []⟩ ir (RetK rs fun e _ => e = .ret v) (initT args) [] nilH) : APure Pg fn_rap_said args v :=
  APure.of_nil (enter 0 hl a)
end rap_said

namespace rap_open
noncomputable def cfg : Cfg := { pure := pures, pcs := [], raw := [], cuts := [], draws := [(13, [⟨0, false, [], []⟩, ⟨1, false, [], []⟩, ⟨2, false, [], []⟩, ⟨3, false, [], []⟩, ⟨4, false, [], []⟩, ⟨5, false, [], []⟩, ⟨6, false, [], []⟩, ⟨7, false, [], []⟩]), (18, [⟨0, false, [], []⟩, ⟨1, false, [], []⟩, ⟨3, false, [], []⟩, ⟨4, false, [], []⟩, ⟨6, false, [], []⟩, ⟨7, false, [], []⟩, ⟨9, false, [], []⟩, ⟨10, false, [], []⟩, ⟨13, false, [], []⟩, ⟨18, false, [], []⟩, ⟨19, false, [], []⟩, ⟨21, false, [], []⟩, ⟨22, false, [], []⟩, ⟨25, false, [], []⟩, ⟨30, false, [], []⟩, ⟨31, false, [], []⟩, ⟨34, false, [], []⟩, ⟨35, false, [], []⟩, ⟨2, false, [], []⟩, ⟨5, false, [], []⟩, ⟨8, false, [], []⟩, ⟨11, false, [], []⟩, ⟨12, false, [], []⟩, ⟨14, false, [], []⟩, ⟨15, false, [], []⟩, ⟨20, false, [], []⟩, ⟨23, false, [], []⟩, ⟨24, false, [], []⟩, ⟨26, false, [], []⟩, ⟨27, false, [], []⟩, ⟨16, true, [], []⟩, ⟨17, false, [28], [2, 5, 20, 24, 26]⟩, ⟨28, true, [], []⟩, ⟨29, false, [], [2, 5]⟩, ⟨32, false, [], []⟩, ⟨33, false, [], [5]⟩, ⟨36, false, [], []⟩, ⟨37, false, [], []⟩])], keep := [] }
@[simp] noncomputable def r0 (_ : Unit) : List Stp := [S 2 (.box (.t 0)), S 4 (.mv (.c .nilp))]
@[simp] noncomputable def r1 (_ : Unit) : List Stp := [S 14 (.fAddr 0 (.t 2)), S 15 (.load true 3 (.t 14)), SP 16 (.call (.c (.func (.func fn_drive_Times) [] [])) [(.t 15), (.c (.int .i64 (-1)))]), S 13 (.mv (.t 16)), S 17 (.ext (.t 13) 0), S 18 (.ext (.t 13) 1), S 5 (.alloc [(.int .i64 0), (.int .i64 0)]), SN (.store 2 (.t 5) (.t 17)), S 6 (.mv (.t 18))]
@[simp] noncomputable def r2 (_ : Unit) : List Stp := [S 19 (.mv (.t 6)), S 20 (.bin .eql (.t 19) (.c (.int .i64 2))), S 21 (.mv (.t 20)), SG 22 21 true (.fAddr 3 (.t 2)), SG 23 21 true (.load false 1 (.t 22)), SG 24 21 true (.len (.t 23)), SG 25 21 true (.bin .leq (.t 24) (.c (.int .i64 10))), S 26 (.pick (.t 21) (.t 25) (.c (.bool false))), S 27 (.call (.c (.func (.func fn_rap_want) [] [])) [(.t 26), (.c (.int .i64 1))])]
@[simp] noncomputable def r3 (_ : Unit) : List Stp := [S 28 (.fAddr 3 (.t 2)), S 29 (.load false 1 (.t 28)), S 30 (.len (.t 29)), S 31 (.mv (.c (.int .i64 0)))]
@[simp] noncomputable def r4 (_ : Unit) : List Stp := [S 32 (.bin .lss (.t 31) (.t 30))]
@[simp] noncomputable def r5 (_ : Unit) : List Stp := [S 33 (.ixS 2 (.t 29) (.t 31)), S 34 (.load true 2 (.t 33)), S 8 (.alloc [(.int .i64 0), (.bool false)]), SN (.store 2 (.t 8) (.t 34))]
@[simp] noncomputable def r6 (_ : Unit) : List Stp := [S 35 (.fAddr 0 (.t 8)), S 36 (.load false 1 (.t 35)), S 37 (.fAddr 0 (.t 2)), S 38 (.fAddr 0 (.t 37)), S 39 (.load false 1 (.t 38)), S 40 (.len (.t 39)), S 41 (.bin .sub (.t 40) (.c (.int .i64 1))), SP 42 (.call (.c (.func (.func fn_rap_within) [] [])) [(.t 36), (.c (.int .i64 0)), (.t 41)]), S 43 (.call (.c (.func (.func fn_rap_want) [] [])) [(.t 42), (.c (.int .i64 1))])]
@[simp] noncomputable def r7 (_ : Unit) : List Stp := [S 44 (.bin .add (.t 31) (.c (.int .i64 1))), S 31 (.mv (.t 44))]
@[simp] noncomputable def r8 (_ : Unit) : List Stp := [S 45 (.mv (.t 1)), S 46 (.call (.c (.func (.func fn_rap_want) [] [])) [(.t 45), (.c (.int .i64 2))])]
@[simp] noncomputable def r9 (_ : Unit) : List Stp := [S 47 (.load true 4 (.t 2)), S 48 (.build [.nils, .nils, .nils, .nils, (.int .u64 0), (.int .u64 0), (.int .u64 0), (.int .u64 0), (.int .u64 0), (.int .u64 0)] [(0, 4, (.t 47))]), S 49 (.box (.t 48)), S 9 (.mv (.t 49))]
@[simp] noncomputable def r10 (_ : Unit) : List Stp := [S 50 (.fAddr 0 (.t 2)), S 51 (.fAddr 0 (.t 50)), S 52 (.load false 1 (.t 51)), S 53 (.len (.t 52)), S 54 (.mv (.c (.int .i64 0)))]
@[simp] noncomputable def r11 (_ : Unit) : List Stp := [S 55 (.bin .lss (.t 54) (.t 53))]
@[simp] noncomputable def r12 (_ : Unit) : List Stp := [S 56 (.mv (.t 54)), S 10 (.mv (.t 56))]
@[simp] noncomputable def r13 (_ : Unit) : List Stp := [S 57 (.mv (.t 9)), S 58 (.mv (.t 10)), S 59 (.mv (.t 10)), S 60 (.bin .shl (.c (.int .u64 1)) (.t 59)), S 61 (.nilck Pg (.t 57)), S 62 (.fAddr 4 (.t 61)), S 63 (.ixA 6 1 (.t 62) (.t 58)), SN (.store 1 (.t 63) (.t 60))]
@[simp] noncomputable def r14 (_ : Unit) : List Stp := [S 64 (.bin .add (.t 54) (.c (.int .i64 1))), S 54 (.mv (.t 64))]
@[simp] noncomputable def r15 (_ : Unit) : List Stp := [S 65 (.fAddr 0 (.t 2)), S 66 (.fAddr 1 (.t 65)), S 67 (.load false 1 (.t 66)), S 68 (.len (.t 67)), S 69 (.mv (.c (.int .i64 0)))]
@[simp] noncomputable def r16 (_ : Unit) : List Stp := [S 70 (.bin .lss (.t 69) (.t 68))]
@[simp] noncomputable def r17 (_ : Unit) : List Stp := [S 71 (.ixS 2 (.t 67) (.t 69)), S 72 (.load true 2 (.t 71)), S 12 (.alloc [(.int .i64 0), (.int .i64 0)]), SN (.store 2 (.t 12) (.t 72))]
@[simp] noncomputable def r18 (_ : Unit) : List Stp := [S 73 (.mv (.t 9)), S 74 (.ixA 2 1 (.t 12) (.c (.int .i64 0))), S 76 (.mv (.t 9)), S 77 (.ixA 2 1 (.t 12) (.c (.int .i64 1))), S 79 (.mv (.t 9)), S 80 (.ixA 2 1 (.t 12) (.c (.int .i64 0))), S 82 (.nilck Pg (.t 79)), S 83 (.fAddr 4 (.t 82)), S 86 (.ixA 2 1 (.t 12) (.c (.int .i64 1))), S 91 (.mv (.t 9)), S 92 (.ixA 2 1 (.t 12) (.c (.int .i64 1))), S 94 (.nilck Pg (.t 91)), S 95 (.fAddr 4 (.t 94)), S 98 (.ixA 2 1 (.t 12) (.c (.int .i64 0))), S 103 (.nilck Pg (.t 73)), S 104 (.fAddr 4 (.t 103)), S 106 (.nilck Pg (.t 76)), S 107 (.fAddr 4 (.t 106)), S 75 (.load false 1 (.t 74)), S 78 (.load false 1 (.t 77)), S 81 (.load false 1 (.t 80)), S 84 (.ixA 6 1 (.t 83) (.t 81)), S 85 (.load false 1 (.t 84)), S 87 (.load false 1 (.t 86)), S 88 (.bin .shl (.c (.int .u64 1)) (.t 87)), S 93 (.load false 1 (.t 92)), S 96 (.ixA 6 1 (.t 95) (.t 93)), S 97 (.load false 1 (.t 96)), S 99 (.load false 1 (.t 98)), S 100 (.bin .shl (.c (.int .u64 1)) (.t 99)), SD (some 89) (.bsl 2 [(.int .u64 0), (.int .u64 0)] [(0, 1, (.t 85)), (1, 1, (.t 88))]) true [] [], SD (some 90) (.call (.c (.func (.func fn_rap_union) [] [])) [(.t 89)]) false [I 101 (.bsl 2 [(.int .u64 0), (.int .u64 0)] [(0, 1, (.t 97)), (1, 1, (.t 100))])] [I 75 (.load false 1 (.t 74)), I 78 (.load false 1 (.t 77)), I 93 (.load false 1 (.t 92)), I 97 (.load false 1 (.t 96)), I 99 (.load false 1 (.t 98))], SD (some 101) (.bsl 2 [(.int .u64 0), (.int .u64 0)] [(0, 1, (.t 97)), (1, 1, (.t 100))]) true [] [], SD (some 102) (.call (.c (.func (.func fn_rap_union) [] [])) [(.t 101)]) false [] [I 75 (.load false 1 (.t 74)), I 78 (.load false 1 (.t 77))], S 105 (.ixA 6 1 (.t 104) (.t 75)), SD none (.store 1 (.t 105) (.t 90)) false [] [I 78 (.load false 1 (.t 77))], S 108 (.ixA 6 1 (.t 107) (.t 78)), SN (.store 1 (.t 108) (.t 102))]
@[simp] noncomputable def r19 (_ : Unit) : List Stp := [S 109 (.bin .add (.t 69) (.c (.int .i64 1))), S 69 (.mv (.t 109))]
@[simp] noncomputable def r20 (_ : Unit) : List Stp := [S 110 (.mv (.t 9)), S 4 (.mv (.t 110))]
@[simp] noncomputable def ir : IR := (.seq (.ops r0) (.seq (.ops r1) (.seq (.ops r2) (.seq (.seq (.ops r3) (.block 0 (.loop (.seq (.ops r4) (.seq (.cond (.t 32) .skip (.exit 0)) (.seq (.block 1 (.seq (.ops r5) (.ops r6))) (.ops r7))))))) (.seq (.ops r8) (.seq (.ops r9) (.seq (.seq (.ops r10) (.block 2 (.loop (.seq (.ops r11) (.seq (.cond (.t 55) .skip (.exit 2)) (.seq (.block 3 (.seq (.ops r12) (.ops r13))) (.ops r14))))))) (.seq (.seq (.ops r15) (.block 4 (.loop (.seq (.ops r16) (.seq (.cond (.t 70) .skip (.exit 4)) (.seq (.block 5 (.seq (.ops r17) (.ops r18))) (.ops r19))))))) (.seq (.ops r20) .ret)))))))))
@[simp] noncomputable def rs : List RV := [.tmp 4]
theorem comp : compF Pg cfg Tryz.f44 = some (ir, rs, 111) := by kernel_rfl
theorem enter {args : List AVal} {h : Heap} {K : AEnd → Heap → Prop} (F : Nat) (hl : args.length ≤ 111) (a : AW ⟨Pg, F, 111, false, []⟩ ir (RetK rs K) (initT args) [] h) : ACalls Pg fn_rap_open args h K :=
  ACalls.of_comp follows Tryz.func44 comp hl a
theorem pure {args : List AVal} {v : AVal} (hl : args.length ≤ 111) (a : AW ⟨Pg, 0, 111, false, []⟩ ir (RetK rs fun e _ => e = .ret v) (initT args) [] nilH) : APure Pg fn_rap_open args v :=
  APure.of_nil (enter 0 hl a)
end rap_open

namespace rap_around_dull
noncomputable def cfg : Cfg := { pure := pures, pcs := [], raw := [], cuts := [], draws := [], keep := [] }
@[simp] noncomputable def r0 (_ : Unit) : List Stp := [S 2 (.box (.t 0)), S 4 (.mv (.c (.int .u64 0)))]
@[simp] noncomputable def r1 (_ : Unit) : List Stp := [S 7 (.load true 6 (.t 2)), S 8 (.mv (.c (.int .i64 0)))]
@[simp] noncomputable def r2 (_ : Unit) : List Stp := [S 9 (.bin .lss (.t 8) (.c (.int .i64 6)))]
@[simp] noncomputable def r3 (_ : Unit) : List Stp := [S 10 (.mv (.t 8)), S 11 (.ixV 6 1 false (.t 7) (.t 8)), S 5 (.mv (.t 10)), S 6 (.mv (.t 11))]
@[simp] noncomputable def r4 (_ : Unit) : List Stp := [S 12 (.mv (.t 6)), S 13 (.mv (.t 1)), S 14 (.bin .and (.t 12) (.t 13)), S 15 (.bin .neq (.t 14) (.c (.int .u64 0)))]
@[simp] noncomputable def r5 (_ : Unit) : List Stp := [S 16 (.mv (.t 4)), S 17 (.mv (.t 5)), S 18 (.bin .shl (.c (.int .u64 1)) (.t 17)), S 19 (.bsl 2 [(.int .u64 0), (.int .u64 0)] [(0, 1, (.t 16)), (1, 1, (.t 18))]), S 20 (.call (.c (.func (.func fn_rap_union) [] [])) [(.t 19)]), S 4 (.mv (.t 20))]
@[simp] noncomputable def r6 (_ : Unit) : List Stp := [S 21 (.bin .add (.t 8) (.c (.int .i64 1))), S 8 (.mv (.t 21))]
@[simp] noncomputable def r7 (_ : Unit) : List Stp := [S 22 (.mv (.t 4)), S 4 (.mv (.t 22))]
@[simp] noncomputable def ir : IR := (.seq (.ops r0) (.seq (.seq (.ops r1) (.block 0 (.loop (.seq (.ops r2) (.seq (.cond (.t 9) .skip (.exit 0)) (.seq (.block 1 (.seq (.ops r3) (.seq (.ops r4) (.cond (.t 15) (.ops r5) .skip)))) (.ops r6))))))) (.seq (.ops r7) .ret)))
@[simp] noncomputable def rs : List RV := [.tmp 4]
theorem comp : compF Pg cfg Tryz.f45 = some (ir, rs, 23) := by kernel_rfl
theorem enter {args : List AVal} {h : Heap} {K : AEnd → Heap → Prop} (F : Nat) (hl : args.length ≤ 23) (a : AW ⟨Pg, F, 23, false, []⟩ ir (RetK rs K) (initT args) [] h) : ACalls Pg fn_rap_around_dull args h K :=
  ACalls.of_comp follows Tryz.func45 comp hl a
theorem pure {args : List AVal} {v : AVal} (hl : args.length ≤ 23) (a : AW ⟨Pg, 0, 23, false, []⟩ ir (RetK rs fun e _ => e = .ret v) (initT args) [] nilH) : APure Pg fn_rap_around_dull args v :=
  APure.of_nil (enter 0 hl a)
end rap_around_dull

namespace ref13_in
noncomputable def cfg : Cfg := { pure := pures, pcs := [], raw := [], cuts := [], draws := [], keep := [] }
@[simp] noncomputable def r0 (_ : Unit) : List Stp := [S 6 (.mv (.c (.bool false)))]
@[simp] noncomputable def r1 (_ : Unit) : List Stp := [S 7 (.mv (.t 1)), S 8 (.mv (.t 0)), S 9 (.bin .leq (.t 7) (.t 8)), S 10 (.mv (.t 9)), SG 11 10 true (.mv (.t 0)), SG 12 10 true (.mv (.t 2)), SG 13 10 true (.bin .leq (.t 11) (.t 12)), S 14 (.pick (.t 10) (.t 13) (.c (.bool false))), S 6 (.mv (.t 14))]
@[simp] noncomputable def ir : IR := (.seq (.ops r0) (.seq (.ops r1) .ret))
@[simp] noncomputable def rs : List RV := [.tmp 6]
theorem comp : compF Pg cfg Tryz.f46 = some (ir, rs, 15) := by kernel_rfl
theorem enter {args : List AVal} {h : Heap} {K : AEnd → Heap → Prop} (F : Nat) (hl : args.length ≤ 15) (a : AW ⟨Pg, F, 15, false, []⟩ ir (RetK rs K) (initT args) [] h) : ACalls Pg fn_ref13_in args h K :=
  ACalls.of_comp follows Tryz.func46 comp hl a
theorem pure {args : List AVal} {v : AVal} (hl : args.length ≤ 15) (a : AW ⟨Pg, 0, 15, false, []⟩ ir (RetK rs fun e _ => e = .ret v) (initT args) [] nilH) : APure Pg fn_ref13_in args v :=
  APure.of_nil (enter 0 hl a)
end ref13_in



namespace rap_Sets_1
noncomputable def cfg : Cfg := { pure := pures, pcs := [], raw := [], cuts := [], draws := [], keep := [] }
@[simp] noncomputable def r0 (_ : Unit) : List Stp := [S 1 (.recov), S 2 (.call (.c (.func (.func fn_rap_said) [] [])) [(.t 1), (.t 0)])]
@[simp] noncomputable def ir : IR := (.ops r0)
@[simp] noncomputable def rs : List RV := []
theorem comp : compF Pg cfg Tryz.f49 = some (ir, rs, 3) := by kernel_rfl
theorem enter {args : List AVal} {h : Heap} {K : AEnd → Heap → Prop} (F : Nat) (hl : args.length ≤ 3) (a : AW ⟨Pg, F, 3, false, []⟩ ir (RetK rs K) (initT args) [] h) : ACalls Pg fn_rap_Sets_1 args h K :=
  ACalls.of_comp follows Tryz.func49 comp hl a
theorem pure {args : List AVal} {v : AVal} (hl : args.length ≤ 3) (a : AW ⟨Pg, 0, 3, false, []⟩ ir (RetK rs fun e _ => e = .ret v) (initT args) [] nilH) : APure Pg fn_rap_Sets_1 args v :=
  APure.of_nil (enter 0 hl a)
theorem recClo : RecClo Pg fn_rap_Sets_1 fn_rap_said := ⟨_, Tryz.func49, by kernel_rfl⟩
end rap_Sets_1

namespace rap_hull_can
noncomputable def cfg : Cfg := { pure := pures, pcs := [], raw := [], cuts := [], draws := [], keep := [] }
@[simp] noncomputable def r0 (_ : Unit) : List Stp := [S 2 (.mv (.c .nils))]
@[simp] noncomputable def r1 (_ : Unit) : List Stp := [S 4 (.mv (.t 0)), S 5 (.mv (.t 0)), S 6 (.call (.c (.func (.func fn_rap_hull_sounds) [] [])) [(.t 5)]), S 7 (.mv (.t 0)), SP 8 (.call (.c (.func (.func fn_rap_hull_every) [] [])) [(.t 7)]), S 9 (.call (.c (.func (.func fn_rap_hull_heard) [] [])) [(.t 4), (.t 6), (.t 8)]), S 3 (.mv (.t 9))]
@[simp] noncomputable def r2 (_ : Unit) : List Stp := [S 10 (.mv (.t 3)), S 11 (.len (.t 10)), S 12 (.bin .gtr (.t 11) (.c (.int .i64 0))), S 13 (.call (.c (.func (.func fn_rap_want) [] [])) [(.t 12), (.c (.int .i64 10))])]
@[simp] noncomputable def r3 (_ : Unit) : List Stp := [S 14 (.mv (.t 3)), S 2 (.mv (.t 14))]
@[simp] noncomputable def ir : IR := (.seq (.ops r0) (.seq (.ops r1) (.seq (.ops r2) (.seq (.ops r3) .ret))))
@[simp] noncomputable def rs : List RV := [.tmp 2]
theorem comp : compF Pg cfg Tryz.f50 = some (ir, rs, 15) := by kernel_rfl
theorem enter {args : List AVal} {h : Heap} {K : AEnd → Heap → Prop} (F : Nat) (hl : args.length ≤ 15) (a : AW ⟨Pg, F, 15, false, []⟩ ir (RetK rs K) (initT args) [] h) : ACalls Pg fn_rap_hull_can args h K :=
  ACalls.of_comp follows Tryz.func50 comp hl a
theorem pure {args : List AVal} {v : AVal} (hl : args.length ≤ 15) (a : AW ⟨Pg, 0, 15, false, []⟩ ir (RetK rs fun e _ => e = .ret v) (initT args) [] nilH) : APure Pg fn_rap_hull_can args v :=
  APure.of_nil (enter 0 hl a)
end rap_hull_can

end Go.Cw
end
