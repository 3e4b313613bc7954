/-
  The program's functions in the small form.
-/
import Derived.Test.YtggclbdfeaaapaaGreatAd
import Derived.Test.YtggclbdfeaaapaaGreatProg
set_option linter.unusedVariables false
set_option linter.unusedSimpArgs false
set_option linter.unusedSectionVars false

/- The functions' numbers. Printed by a program of this seat's proofs. -/
section
namespace Go.Cw
open Go Go.Proofs

@[reducible] noncomputable def Pg : Program := Tryz.prog
theorem follows : Pg.follows .mixedOrders = true := by kernel_rfl
def fn_main_main : FuncId := 0
def fn_gosem_cut : FuncId := 1
def fn_gosem_cut_init : FuncId := 2
def fn_law13_RapTells : FuncId := 3
def fn_law13_RapWrongs : FuncId := 4
def fn_law13_RapTrue : FuncId := 5
def fn_law13_RapDull : FuncId := 6
def fn_law13_RapFewest : FuncId := 7
def fn_law13_RapNext : FuncId := 8
def fn_law13_RapWrong : FuncId := 9
def fn_law13_RapTurned : FuncId := 10
def fn_law13_RapSets : FuncId := 11
def fn_law13_long : FuncId := 12
def fn_law13_alive : FuncId := 13
def fn_rap_Dull : FuncId := 14
def fn_ref13_Dull : FuncId := 15
def fn_rap_Sets : FuncId := 16
def fn_ref13_Sets : FuncId := 17
def fn_rap_Open : FuncId := 18
def fn_ref13_Open : FuncId := 19
def fn_law13_ints : FuncId := 20
def fn_rap_Sound : FuncId := 21
def fn_ref13_Sound : FuncId := 22
def fn_rap_Fewest : FuncId := 23
def fn_ref13_Fewest : FuncId := 24
def fn_rap_Next : FuncId := 25
def fn_ref13_Next : FuncId := 26
def fn_rap_Wrong : FuncId := 27
def fn_ref13_Wrong : FuncId := 28
def fn_ref13_Rap : FuncId := 29
def fn_law13_draws : FuncId := 30
def fn_drive_Settle : FuncId := 31
def fn_law13_opened : FuncId := 32
def fn_law13_find : FuncId := 33
def fn_law13_hears : FuncId := 34
def fn_law13_RapFewest_1 : FuncId := 35
def fn_ref13_Size : FuncId := 36
def fn_law13_RapNext_1 : FuncId := 37
def fn_law13_RapWrong_1 : FuncId := 38
def fn_law13_RapSets_1 : FuncId := 39
def fn_drive_Opens : FuncId := 40
def fn_law13_sample : FuncId := 41
def fn_rap_Dull_1 : FuncId := 42
def fn_rap_said : FuncId := 43
def fn_rap_open : FuncId := 44
def fn_rap_around_dull : FuncId := 45
def fn_ref13_in : FuncId := 46
def fn_ref13_power : FuncId := 47
def fn_ref13_Hears : FuncId := 48
def fn_rap_Sets_1 : FuncId := 49
def fn_rap_hull_can : FuncId := 50
def fn_ref13_heard : FuncId := 51
def fn_ref13_opened : FuncId := 52
def fn_ref13_every : FuncId := 53
def fn_rap_Open_1 : FuncId := 54
def fn_rap_union : FuncId := 55
def fn_ref13_Has : FuncId := 56
def fn_ref13_Ints : FuncId := 57
def fn_rap_Sound_1 : FuncId := 58
def fn_rap_Fewest_1 : FuncId := 59
def fn_rap_best_int : FuncId := 60
def fn_rap_upTo : FuncId := 61
def fn_rap_hull_seams : FuncId := 62
def fn_rap_Fewest_2 : FuncId := 63
def fn_math_bits_OnesCount : FuncId := 64
def fn_slices_ContainsFunc_rap_sound_rap_sound : FuncId := 65
def fn_rap_Fewest_2_1 : FuncId := 66
def fn_rap_want : FuncId := 67
def fn_ref13_shows : FuncId := 68
def fn_rap_Next_1 : FuncId := 69
def fn_rap_Next_2 : FuncId := 70
def fn_rap_set_has : FuncId := 71
def fn_rap_within : FuncId := 72
def fn_rap_Wrong_1 : FuncId := 73
def fn_rap_hull_sounds : FuncId := 74
def fn_rap_Wrong_2 : FuncId := 75
def fn_rap_hull_heard : FuncId := 76
def fn_rap_hull_every : FuncId := 77
def fn_ref05_Drive : FuncId := 78
def fn_ref05_Seam : FuncId := 79
def fn_law13_draws_1 : FuncId := 80
def fn_drive_Settle_1 : FuncId := 81
def fn_drive_said : FuncId := 82
def fn_drive_open : FuncId := 83
def fn_drive_areBlows : FuncId := 84
def fn_drive_hull_settler : FuncId := 85
def fn_drive_settler_rest : FuncId := 86
def fn_drive_blowsOf : FuncId := 87
def fn_slices_Clone_int_int : FuncId := 88
def fn_drive_hull_seams : FuncId := 89
def fn_drive_Opens_1 : FuncId := 90
def fn_drive_hull_times : FuncId := 91
def fn_drive_rest_open : FuncId := 92
def fn_law13_span : FuncId := 93
def fn_drive_Times : FuncId := 94
def fn_ref05_Truths : FuncId := 95
def fn_ref05_Rest : FuncId := 96
def fn_rap_set_with : FuncId := 97
def fn_ref05_Ints : FuncId := 98
def fn_math_bits_OnesCount32 : FuncId := 99
def fn_math_bits_OnesCount64 : FuncId := 100
def fn_slices_IndexFunc_rap_sound_rap_sound : FuncId := 101
def fn_rap_hull_blows : FuncId := 102
def fn_slices_SortFunc_rap_sound_rap_sound : FuncId := 103
def fn_rap_hull_sounds_1 : FuncId := 104
def fn_rap_hull_ears : FuncId := 105
def fn_ref05_in : FuncId := 106
def fn_ref05_Beside : FuncId := 107
def fn_drive_want : FuncId := 108
def fn_drive_within : FuncId := 109
def fn_drive_isSeam : FuncId := 110
def fn_slices_Contains_2_int_2_int : FuncId := 111
def fn_drive_areBlows_1 : FuncId := 112
def fn_slices_ContainsFunc_int_int : FuncId := 113
def fn_drive_hull_opened : FuncId := 114
def fn_drive_blows_with : FuncId := 115
def fn_drive_hull_ends : FuncId := 116
def fn_drive_setOf : FuncId := 117
def fn_drive_Times_1 : FuncId := 118
def fn_ref05_truths : FuncId := 119
def fn_ref05_run : FuncId := 120
def fn_ref05_rising : FuncId := 121
def fn_rap_hull_blows_1 : FuncId := 122
def fn_rap_hull_blows_1_1 : FuncId := 123
def fn_slices_pdqsortCmpFunc_rap_sound : FuncId := 124
def fn_math_bits_Len : FuncId := 125
def fn_slices_Index_2_int_2_int : FuncId := 126
def fn_slices_IndexFunc_int_int : FuncId := 127
def fn_ref05_open : FuncId := 128
def fn_slices_insertionSortCmpFunc_rap_sound : FuncId := 129
def fn_slices_heapSortCmpFunc_rap_sound : FuncId := 130
def fn_slices_breakPatternsCmpFunc_rap_sound : FuncId := 131
def fn_slices_choosePivotCmpFunc_rap_sound : FuncId := 132
def fn_slices_reverseRangeCmpFunc_rap_sound : FuncId := 133
def fn_slices_partialInsertionSortCmpFunc_rap_sound : FuncId := 134
def fn_slices_partitionEqualCmpFunc_rap_sound : FuncId := 135
def fn_slices_partitionCmpFunc_rap_sound : FuncId := 136
def fn_math_bits_Len32 : FuncId := 137
def fn_math_bits_Len64 : FuncId := 138
def fn_slices_siftDownCmpFunc_rap_sound : FuncId := 139
def fn_slices_nextPowerOfTwo : FuncId := 140
def fn_slices_xorshift_Next : FuncId := 141
def fn_slices_medianAdjacentCmpFunc_rap_sound : FuncId := 142
def fn_slices_medianCmpFunc_rap_sound : FuncId := 143
def fn_slices_order2CmpFunc_rap_sound : FuncId := 144
def fn_runtime_boundsError_Error : FuncId := 145
def fn_runtime_boundsError_RuntimeError : FuncId := 146
def fn_runtime_errorString_Error : FuncId := 147
def fn_runtime_errorString_RuntimeError : FuncId := 148
def fn_runtime_plainError_Error : FuncId := 149
def fn_runtime_plainError_RuntimeError : FuncId := 150
def fn_runtime_errorAddressString_Error : FuncId := 151
def fn_runtime_errorAddressString_RuntimeError : FuncId := 152
def fn_runtime_TypeAssertionError_Error : FuncId := 153
def fn_runtime_TypeAssertionError_RuntimeError : FuncId := 154
def fn_runtime_PanicNilError_Error : FuncId := 155
def fn_runtime_PanicNilError_RuntimeError : FuncId := 156
def fn_abi_Type_Align : FuncId := 157
def fn_runtime_maps_unhashableTypeError_Error : FuncId := 158
def fn_runtime_maps_unhashableTypeError_RuntimeError : FuncId := 159
def fn_rap_nothing_hears : FuncId := 160
def fn_rap_knock_hears : FuncId := 161
def fn_abi_Kind_String : FuncId := 162
def pures : List Nat := [12, 13, 14, 15, 16, 17, 18, 19, 20, 21, 22, 23, 24, 25, 26, 27, 28, 29, 32, 33, 34, 36, 40, 45, 46, 47, 48, 51, 52, 53, 56, 57, 62, 64, 68, 71, 72, 77, 78, 79, 84, 87, 89, 91, 92, 93, 94, 95, 96, 97, 98, 99, 100, 106, 107, 109, 110, 111, 112, 113, 114, 115, 116, 120, 121, 126, 127, 128, 160, 161]

end Go.Cw
end

/- Functions in the small form. Printed by a program of this seat's proofs. -/
section
namespace Go.Cw
open Go Go.Proofs








namespace law13_RapTurned
noncomputable def cfg : Cfg := { pure := [12, 13, 14, 15, 17, 18, 19, 21, 22, 23, 24, 25, 26, 27, 28, 29, 32, 33, 34, 36, 40, 45, 46, 47, 48, 51, 52, 53, 56, 57, 62, 64, 68, 71, 72, 77, 78, 79, 84, 87, 89, 91, 92, 93, 94, 95, 96, 97, 98, 99, 100, 106, 107, 109, 110, 111, 112, 113, 114, 115, 116, 120, 121, 126, 127, 128, 160, 161], pcs := [], raw := [], cuts := [24, 43], draws := [(4, [⟨0, false, [], []⟩, ⟨1, false, [], []⟩, ⟨2, false, [], []⟩, ⟨3, true, [], []⟩, ⟨4, true, [], []⟩, ⟨5, true, [], []⟩, ⟨6, false, [], [1, 2]⟩, ⟨7, false, [], [2]⟩, ⟨8, false, [], []⟩]), (5, [⟨1, false, [], []⟩, ⟨4, false, [], []⟩, ⟨5, false, [], []⟩, ⟨6, false, [], []⟩, ⟨7, false, [], []⟩, ⟨8, false, [], []⟩, ⟨2, false, [], []⟩, ⟨0, true, [], []⟩, ⟨3, false, [], []⟩, ⟨9, false, [], []⟩, ⟨10, false, [], []⟩, ⟨11, false, [], []⟩, ⟨12, false, [], []⟩, ⟨13, false, [], []⟩, ⟨14, false, [], []⟩, ⟨15, false, [], []⟩, ⟨16, false, [], []⟩, ⟨17, false, [], []⟩]), (6, [⟨0, false, [], []⟩, ⟨2, false, [], []⟩, ⟨1, false, [], []⟩, ⟨3, false, [], []⟩, ⟨4, false, [], []⟩, ⟨5, false, [], []⟩, ⟨6, false, [], []⟩]), (10, [⟨0, false, [], []⟩, ⟨1, false, [], []⟩, ⟨3, false, [], []⟩, ⟨4, false, [], []⟩, ⟨5, false, [], []⟩, ⟨6, false, [], []⟩, ⟨7, false, [], []⟩, ⟨8, false, [], []⟩, ⟨10, false, [], []⟩, ⟨11, false, [], []⟩, ⟨12, false, [], []⟩, ⟨13, false, [], []⟩, ⟨14, false, [], []⟩, ⟨15, false, [], []⟩, ⟨17, false, [], []⟩, ⟨20, false, [], []⟩, ⟨21, false, [], []⟩, ⟨23, false, [], []⟩, ⟨2, false, [], []⟩, ⟨9, false, [], []⟩, ⟨16, false, [], []⟩, ⟨18, false, [], []⟩, ⟨19, false, [], []⟩, ⟨22, false, [], []⟩, ⟨24, false, [], []⟩, ⟨25, false, [], []⟩, ⟨26, false, [], []⟩, ⟨27, false, [], [9]⟩, ⟨28, false, [], []⟩, ⟨29, false, [], []⟩]), (20, [⟨0, false, [], []⟩, ⟨2, false, [], []⟩, ⟨4, false, [], []⟩, ⟨8, false, [], []⟩, ⟨14, false, [], []⟩, ⟨16, false, [], []⟩, ⟨17, false, [], []⟩, ⟨18, false, [], []⟩, ⟨21, false, [], []⟩, ⟨1, false, [], []⟩, ⟨3, false, [], []⟩, ⟨5, false, [], []⟩, ⟨6, false, [], []⟩, ⟨7, false, [], []⟩, ⟨9, false, [], []⟩, ⟨10, false, [], []⟩, ⟨11, false, [], []⟩, ⟨15, false, [], []⟩, ⟨19, false, [], []⟩, ⟨20, false, [], []⟩, ⟨22, false, [], []⟩, ⟨12, true, [], []⟩, ⟨13, false, [], [15, 19, 22]⟩, ⟨23, false, [], []⟩, ⟨26, false, [], []⟩, ⟨24, true, [], []⟩, ⟨25, false, [], []⟩, ⟨27, false, [], []⟩, ⟨28, false, [], []⟩, ⟨29, false, [], []⟩]), (23, [⟨0, false, [], []⟩, ⟨2, false, [], []⟩, ⟨4, false, [], []⟩, ⟨5, false, [], []⟩, ⟨6, false, [], []⟩, ⟨1, false, [], []⟩, ⟨3, false, [], []⟩, ⟨7, false, [], []⟩, ⟨8, false, [], []⟩, ⟨9, false, [], []⟩, ⟨10, false, [], []⟩, ⟨11, false, [], []⟩, ⟨12, true, [], []⟩, ⟨13, false, [], []⟩, ⟨14, false, [], []⟩, ⟨15, false, [], []⟩]), (78, [⟨0, false, [], []⟩, ⟨1, false, [], []⟩, ⟨2, false, [], []⟩, ⟨4, false, [], []⟩, ⟨6, false, [], []⟩, ⟨3, false, [], []⟩, ⟨5, false, [], []⟩, ⟨7, false, [], []⟩, ⟨8, false, [], []⟩, ⟨9, false, [], []⟩])], keep := [] }
@[simp] noncomputable def r0 (_ : Unit) : List Stp := [S 3 (.box (.t 0)), S 6 (.mv (.c (.bool false)))]
@[simp] noncomputable def r1 (_ : Unit) : List Stp := [S 52 (.load true 4 (.t 3)), SP 53 (.call (.c (.func (.func fn_law13_long) [] [])) [(.t 52)]), S 54 (.mv (.t 53)), SG 55 54 false (.load true 4 (.t 3)), SGP 56 54 false (.call (.c (.func (.func fn_ref13_Rap) [] [])) [(.t 55)]), SG 57 54 false (.un .not (.t 56)), S 58 (.pick (.t 54) (.c (.bool true)) (.t 57))]
@[simp] noncomputable def r2 (_ : Unit) : List Stp := [SP 59 (.call (.c (.func (.func fn_law13_alive) [] [])) []), S 6 (.mv (.t 59))]
@[simp] noncomputable def r3 (_ : Unit) : List Stp := [S 60 (.fAddr 0 (.t 3)), S 61 (.fAddr 0 (.t 60)), S 62 (.load false 1 (.t 61)), S 63 (.len (.t 62)), S 7 (.mv (.t 63))]
@[simp] noncomputable def r4 (_ : Unit) : List Stp := [S 64 (.load true 4 (.t 3)), S 65 (.load true 4 (.t 3)), S 66 (.load true 4 (.t 3)), SD (some 8) (.alloc [.nils, .nils, .nils, .nils]) true [] [], SD (some 9) (.alloc [.nils, .nils, .nils, .nils]) true [] [], SD (some 10) (.alloc [.nils, .nils, .nils, .nils]) true [] [], SD none (.store 4 (.t 8) (.t 64)) false [] [I 65 (.load true 4 (.t 3)), I 66 (.load true 4 (.t 3))], SD none (.store 4 (.t 9) (.t 65)) false [] [I 66 (.load true 4 (.t 3))], SN (.store 4 (.t 10) (.t 66))]
@[simp] noncomputable def r5 (_ : Unit) : List Stp := [S 68 (.fAddr 3 (.t 3)), S 71 (.mv (.t 1)), S 72 (.conv .i64 (.t 71)), S 73 (.mv (.t 7)), S 74 (.bin .rem (.t 72) (.t 73)), S 75 (.mv (.t 2)), S 69 (.load false 1 (.t 68)), SD (some 67) (.bsl 0 [] []) true [] [], S 70 (.app 2 16 (.t 67) (.t 69)), SP 76 (.call (.c (.func (.func fn_law13_find) [] [])) [(.t 74), (.t 75)]), S 77 (.bsl 1 [(.int .i64 0), (.bool false)] [(0, 2, (.t 76))]), S 78 (.app 2 16 (.t 70) (.t 77)), S 79 (.fAddr 3 (.t 8)), SN (.store 1 (.t 79) (.t 78)), S 80 (.fAddr 3 (.t 9)), SN (.store 1 (.t 80) (.c .nils)), S 81 (.fAddr 3 (.t 10)), SN (.store 1 (.t 81) (.c .nils))]
@[simp] noncomputable def r6 (_ : Unit) : List Stp := [S 82 (.mv (.t 7)), S 84 (.mv (.t 7)), S 83 (.mksl 8 [(.int .i64 0)] (.t 82) (.t 82)), S 85 (.mksl 16 [(.int .i64 0), (.int .i64 0)] (.t 84) (.t 84)), S 86 (.build [.nils, .nils, .nils] [(0, 1, (.t 83)), (2, 1, (.t 85))]), S 87 (.fAddr 0 (.t 10)), SN (.store 3 (.t 87) (.t 86))]
@[simp] noncomputable def r7 (_ : Unit) : List Stp := [S 88 (.mv (.t 7)), S 89 (.mv (.c (.int .i64 0)))]
@[simp] noncomputable def r8 (_ : Unit) : List Stp := [S 90 (.bin .lss (.t 89) (.t 88))]
@[simp] noncomputable def r9 (_ : Unit) : List Stp := [S 91 (.mv (.t 89)), S 11 (.mv (.t 91))]
@[simp] noncomputable def r10 (_ : Unit) : List Stp := [S 92 (.fAddr 0 (.t 10)), S 93 (.fAddr 0 (.t 92)), S 95 (.mv (.t 7)), S 96 (.bin .sub (.t 95) (.c (.int .i64 1))), S 97 (.mv (.t 11)), S 98 (.bin .sub (.t 96) (.t 97)), S 99 (.fAddr 0 (.t 10)), S 100 (.fAddr 2 (.t 99)), S 102 (.mv (.t 7)), S 103 (.bin .sub (.t 102) (.c (.int .i64 1))), S 104 (.mv (.t 11)), S 105 (.bin .sub (.t 103) (.t 104)), S 106 (.fAddr 0 (.t 3)), S 107 (.fAddr 0 (.t 106)), S 109 (.mv (.t 11)), S 112 (.fAddr 0 (.t 3)), S 113 (.fAddr 2 (.t 112)), S 115 (.mv (.t 11)), S 94 (.load false 1 (.t 93)), S 101 (.load false 1 (.t 100)), S 108 (.load false 1 (.t 107)), S 110 (.ixS 1 (.t 108) (.t 109)), S 111 (.load false 1 (.t 110)), S 114 (.load false 1 (.t 113)), S 116 (.ixS 2 (.t 114) (.t 115)), S 117 (.load true 2 (.t 116)), S 118 (.ixS 1 (.t 94) (.t 98)), SD none (.store 1 (.t 118) (.t 111)) false [] [I 101 (.load false 1 (.t 100))], S 119 (.ixS 2 (.t 101) (.t 105)), SN (.store 2 (.t 119) (.t 117))]
@[simp] noncomputable def r11 (_ : Unit) : List Stp := [S 120 (.bin .add (.t 89) (.c (.int .i64 1))), S 89 (.mv (.t 120))]
@[simp] noncomputable def r12 (_ : Unit) : List Stp := [S 121 (.fAddr 0 (.t 3)), S 122 (.fAddr 1 (.t 121)), S 123 (.load false 1 (.t 122)), S 124 (.len (.t 123)), S 125 (.mv (.c (.int .i64 0)))]
@[simp] noncomputable def r13 (_ : Unit) : List Stp := [S 126 (.bin .lss (.t 125) (.t 124))]
@[simp] noncomputable def r14 (_ : Unit) : List Stp := [S 127 (.ixS 2 (.t 123) (.t 125)), S 128 (.load true 2 (.t 127)), S 13 (.alloc [(.int .i64 0), (.int .i64 0)]), SN (.store 2 (.t 13) (.t 128))]
@[simp] noncomputable def r15 (_ : Unit) : List Stp := [S 129 (.fAddr 0 (.t 10)), S 130 (.fAddr 1 (.t 129)), S 131 (.load false 1 (.t 130)), S 132 (.mv (.t 7)), S 133 (.bin .sub (.t 132) (.c (.int .i64 1))), S 134 (.ixA 2 1 (.t 13) (.c (.int .i64 1))), S 135 (.load false 1 (.t 134)), S 136 (.bin .sub (.t 133) (.t 135)), S 137 (.mv (.t 7)), S 138 (.bin .sub (.t 137) (.c (.int .i64 1))), S 139 (.ixA 2 1 (.t 13) (.c (.int .i64 0))), S 140 (.load false 1 (.t 139)), S 141 (.bin .sub (.t 138) (.t 140)), S 142 (.build [(.int .i64 0), (.int .i64 0)] [(0, 1, (.t 136)), (1, 1, (.t 141))]), S 143 (.bsl 1 [(.int .i64 0), (.int .i64 0)] [(0, 2, (.t 142))]), S 144 (.app 2 16 (.t 131) (.t 143)), S 145 (.fAddr 0 (.t 10)), S 146 (.fAddr 1 (.t 145)), SN (.store 1 (.t 146) (.t 144))]
@[simp] noncomputable def r16 (_ : Unit) : List Stp := [S 147 (.bin .add (.t 125) (.c (.int .i64 1))), S 125 (.mv (.t 147))]
@[simp] noncomputable def r17 (_ : Unit) : List Stp := [S 148 (.fAddr 3 (.t 3)), S 149 (.load false 1 (.t 148)), S 150 (.len (.t 149)), S 151 (.mv (.c (.int .i64 0)))]
@[simp] noncomputable def r18 (_ : Unit) : List Stp := [S 152 (.bin .lss (.t 151) (.t 150))]
@[simp] noncomputable def r19 (_ : Unit) : List Stp := [S 153 (.mv (.t 151)), S 154 (.ixS 2 (.t 149) (.t 151)), S 155 (.load true 2 (.t 154)), S 15 (.alloc [(.int .i64 0), (.bool false)]), S 14 (.mv (.t 153)), SN (.store 2 (.t 15) (.t 155))]
@[simp] noncomputable def r20 (_ : Unit) : List Stp := [S 156 (.fAddr 3 (.t 9)), S 158 (.fAddr 3 (.t 3)), S 160 (.fAddr 3 (.t 3)), S 164 (.mv (.t 14)), S 170 (.fAddr 3 (.t 10)), S 172 (.mv (.t 7)), S 173 (.bin .sub (.t 172) (.c (.int .i64 1))), S 174 (.fAddr 0 (.t 15)), S 177 (.fAddr 1 (.t 15)), S 157 (.load false 1 (.t 156)), S 159 (.load false 1 (.t 158)), S 161 (.load false 1 (.t 160)), S 162 (.len (.t 161)), S 163 (.bin .sub (.t 162) (.c (.int .i64 1))), S 165 (.bin .sub (.t 163) (.t 164)), S 166 (.ixS 2 (.t 159) (.t 165)), S 167 (.load true 2 (.t 166)), S 171 (.load false 1 (.t 170)), S 175 (.load false 1 (.t 174)), S 176 (.bin .sub (.t 173) (.t 175)), S 178 (.load false 1 (.t 177)), SD (some 168) (.bsl 1 [(.int .i64 0), (.bool false)] [(0, 2, (.t 167))]) true [] [], SD (some 169) (.app 2 16 (.t 157) (.t 168)) false [] [I 171 (.load false 1 (.t 170)), I 175 (.load false 1 (.t 174)), I 178 (.load false 1 (.t 177))], SP 179 (.call (.c (.func (.func fn_law13_find) [] [])) [(.t 176), (.t 178)]), S 182 (.fAddr 3 (.t 9)), SD (some 180) (.bsl 1 [(.int .i64 0), (.bool false)] [(0, 2, (.t 179))]) true [] [], S 181 (.app 2 16 (.t 171) (.t 180)), SN (.store 1 (.t 182) (.t 169)), S 183 (.fAddr 3 (.t 10)), SN (.store 1 (.t 183) (.t 181))]
@[simp] noncomputable def r21 (_ : Unit) : List Stp := [S 184 (.bin .add (.t 151) (.c (.int .i64 1))), S 151 (.mv (.t 184))]
@[simp] noncomputable def r22 (_ : Unit) : List Stp := [S 185 (.fAddr 3 (.t 3)), S 186 (.load false 1 (.t 185)), S 187 (.len (.t 186)), S 188 (.bin .gtr (.t 187) (.c (.int .i64 0))), S 189 (.mv (.t 188)), SG 190 189 true (.fAddr 3 (.t 3)), SG 191 189 true (.load false 1 (.t 190)), SG 192 189 true (.len (.t 191)), SG 193 189 true (.bin .lss (.t 192) (.c (.int .i64 10))), S 194 (.pick (.t 189) (.t 193) (.c (.bool false)))]
@[simp] noncomputable def r23 (_ : Unit) : List Stp := [S 195 (.fAddr 3 (.t 9)), S 197 (.fAddr 3 (.t 3)), S 199 (.mv (.t 1)), S 200 (.conv .i64 (.t 199)), S 201 (.fAddr 3 (.t 3)), S 196 (.load false 1 (.t 195)), S 198 (.load false 1 (.t 197)), S 202 (.load false 1 (.t 201)), S 203 (.len (.t 202)), S 204 (.bin .rem (.t 200) (.t 203)), S 205 (.ixS 2 (.t 198) (.t 204)), S 206 (.load true 2 (.t 205)), SD (some 207) (.bsl 1 [(.int .i64 0), (.bool false)] [(0, 2, (.t 206))]) true [] [], S 208 (.app 2 16 (.t 196) (.t 207)), S 209 (.fAddr 3 (.t 9)), SN (.store 1 (.t 209) (.t 208))]
@[simp] noncomputable def r24 (_ : Unit) : List Stp := [S 210 (.bsl 0 [] []), S 211 (.fAddr 3 (.t 3)), S 212 (.load false 1 (.t 211)), S 213 (.app 2 16 (.t 210) (.t 212)), S 16 (.mv (.t 213))]
@[simp] noncomputable def r25 (_ : Unit) : List Stp := [S 215 (.load true 4 (.t 3)), S 216 (.call (.c (.func (.func fn_rap_Sets) [] [])) [(.t 215)]), S 214 (.mv (.t 216)), S 217 (.ext (.t 214) 0), S 218 (.ext (.t 214) 1), S 17 (.mv (.t 217)), S 18 (.mv (.t 218))]
@[simp] noncomputable def r26 (_ : Unit) : List Stp := [S 220 (.load true 4 (.t 3)), SP 221 (.call (.c (.func (.func fn_rap_Fewest) [] [])) [(.t 220)]), S 219 (.mv (.t 221)), S 222 (.ext (.t 219) 0), S 223 (.ext (.t 219) 1), S 224 (.ext (.t 219) 2), S 19 (.mv (.t 222)), S 20 (.mv (.t 223)), S 21 (.mv (.t 224))]
@[simp] noncomputable def r27 (_ : Unit) : List Stp := [S 225 (.mv (.t 18)), S 226 (.mv (.t 21)), S 227 (.bin .neq (.t 225) (.t 226))]
@[simp] noncomputable def r28 (_ : Unit) : List Stp := [S 6 (.mv (.c (.bool false)))]
@[simp] noncomputable def r29 (_ : Unit) : List Stp := [S 228 (.load true 4 (.t 8)), SP 229 (.call (.c (.func (.func fn_ref13_Rap) [] [])) [(.t 228)])]
@[simp] noncomputable def r30 (_ : Unit) : List Stp := [S 231 (.load true 4 (.t 8)), S 232 (.call (.c (.func (.func fn_rap_Sets) [] [])) [(.t 231)]), S 230 (.mv (.t 232)), S 233 (.ext (.t 230) 0), S 234 (.ext (.t 230) 1), S 22 (.mv (.t 233)), S 23 (.mv (.t 234))]
@[simp] noncomputable def r31 (_ : Unit) : List Stp := [S 236 (.load true 4 (.t 8)), SP 237 (.call (.c (.func (.func fn_rap_Fewest) [] [])) [(.t 236)]), S 235 (.mv (.t 237)), S 238 (.ext (.t 235) 0), S 239 (.ext (.t 235) 1), S 240 (.ext (.t 235) 2), S 24 (.mv (.t 238)), S 25 (.mv (.t 239)), S 26 (.mv (.t 240))]
@[simp] noncomputable def r32 (_ : Unit) : List Stp := [S 241 (.mv (.t 23)), S 242 (.mv (.t 26)), S 243 (.bin .neq (.t 241) (.t 242)), S 244 (.mv (.t 243)), SG 245 244 false (.mv (.t 23)), SG 246 244 false (.bin .neq (.t 245) (.c (.int .i64 0))), SG 247 244 false (.mv (.t 246)), SG 248 247 true (.mv (.t 23)), SG 249 247 true (.bin .neq (.t 248) (.c (.int .i64 10))), SG 250 244 false (.pick (.t 247) (.t 249) (.c (.bool false))), S 251 (.pick (.t 244) (.c (.bool true)) (.t 250)), S 252 (.mv (.t 251)), SG 253 252 false (.mv (.t 23)), SG 254 252 false (.bin .eql (.t 253) (.c (.int .i64 0))), SG 255 252 false (.mv (.t 254)), SG 256 255 true (.mv (.t 18)), SG 257 255 true (.bin .neq (.t 256) (.c (.int .i64 0))), SG 258 255 true (.mv (.t 257)), SG 259 258 false (.mv (.t 24)), SG 260 258 false (.mv (.t 19)), SG 261 258 false (.bin .gtr (.t 259) (.t 260)), SG 262 255 true (.pick (.t 258) (.c (.bool true)) (.t 261)), SG 263 252 false (.pick (.t 255) (.t 262) (.c (.bool false))), S 264 (.pick (.t 252) (.c (.bool true)) (.t 263))]
@[simp] noncomputable def r33 (_ : Unit) : List Stp := [S 6 (.mv (.c (.bool false)))]
@[simp] noncomputable def r34 (_ : Unit) : List Stp := [S 27 (.mv (.c (.int .i64 0)))]
@[simp] noncomputable def r35 (_ : Unit) : List Stp := [S 265 (.mv (.t 22)), S 266 (.len (.t 265)), S 267 (.mv (.c (.int .i64 0)))]
@[simp] noncomputable def r36 (_ : Unit) : List Stp := [S 268 (.bin .lss (.t 267) (.t 266))]
@[simp] noncomputable def r37 (_ : Unit) : List Stp := [S 269 (.ixS 1 (.t 265) (.t 267)), S 270 (.load false 1 (.t 269)), S 29 (.mv (.t 270))]
@[simp] noncomputable def r38 (_ : Unit) : List Stp := [S 271 (.mv (.t 27)), S 272 (.mv (.t 17)), S 273 (.len (.t 272)), S 274 (.bin .lss (.t 271) (.t 273)), S 275 (.mv (.t 274)), SG 276 275 true (.mv (.t 17)), SG 277 275 true (.mv (.t 27)), SG 278 275 true (.ixS 1 (.t 276) (.t 277)), SG 279 275 true (.load false 1 (.t 278)), SG 280 275 true (.mv (.t 29)), SG 281 275 true (.bin .lss (.t 279) (.t 280)), S 282 (.pick (.t 275) (.t 281) (.c (.bool false)))]
@[simp] noncomputable def r39 (_ : Unit) : List Stp := [S 283 (.mv (.t 27)), S 284 (.bin .add (.t 283) (.c (.int .i64 1))), S 27 (.mv (.t 284))]
@[simp] noncomputable def r40 (_ : Unit) : List Stp := [S 285 (.mv (.t 27)), S 286 (.mv (.t 17)), S 287 (.len (.t 286)), S 288 (.bin .eql (.t 285) (.t 287)), S 289 (.mv (.t 288)), SG 290 289 false (.mv (.t 17)), SG 291 289 false (.mv (.t 27)), SG 292 289 false (.ixS 1 (.t 290) (.t 291)), SG 293 289 false (.load false 1 (.t 292)), SG 294 289 false (.mv (.t 29)), SG 295 289 false (.bin .neq (.t 293) (.t 294)), S 296 (.pick (.t 289) (.c (.bool true)) (.t 295))]
@[simp] noncomputable def r41 (_ : Unit) : List Stp := [S 6 (.mv (.c (.bool false)))]
@[simp] noncomputable def r42 (_ : Unit) : List Stp := [S 297 (.bin .add (.t 267) (.c (.int .i64 1))), S 267 (.mv (.t 297))]
@[simp] noncomputable def r43 (_ : Unit) : List Stp := [S 299 (.load true 4 (.t 9)), S 300 (.call (.c (.func (.func fn_rap_Sets) [] [])) [(.t 299)]), S 298 (.mv (.t 300)), S 301 (.ext (.t 298) 0), S 302 (.ext (.t 298) 1), S 30 (.mv (.t 301)), S 31 (.mv (.t 302))]
@[simp] noncomputable def r44 (_ : Unit) : List Stp := [S 304 (.load true 4 (.t 10)), S 305 (.call (.c (.func (.func fn_rap_Sets) [] [])) [(.t 304)]), S 303 (.mv (.t 305)), S 306 (.ext (.t 303) 0), S 307 (.ext (.t 303) 1), S 32 (.mv (.t 306)), S 33 (.mv (.t 307))]
@[simp] noncomputable def r45 (_ : Unit) : List Stp := [S 309 (.load true 4 (.t 10)), SP 310 (.call (.c (.func (.func fn_rap_Fewest) [] [])) [(.t 309)]), S 308 (.mv (.t 310)), S 311 (.ext (.t 308) 0), S 312 (.ext (.t 308) 1), S 313 (.ext (.t 308) 2), S 34 (.mv (.t 311)), S 35 (.mv (.t 312)), S 36 (.mv (.t 313))]
@[simp] noncomputable def r46 (_ : Unit) : List Stp := [S 315 (.load true 4 (.t 3)), SP 316 (.call (.c (.func (.func fn_rap_Sound) [] [])) [(.t 315)]), S 314 (.mv (.t 316)), S 317 (.ext (.t 314) 0), S 318 (.ext (.t 314) 1), S 37 (.mv (.t 317)), S 38 (.mv (.t 318))]
@[simp] noncomputable def r47 (_ : Unit) : List Stp := [S 320 (.load true 4 (.t 10)), SP 321 (.call (.c (.func (.func fn_rap_Sound) [] [])) [(.t 320)]), S 319 (.mv (.t 321)), S 322 (.ext (.t 319) 0), S 323 (.ext (.t 319) 1), S 39 (.mv (.t 322)), S 40 (.mv (.t 323))]
@[simp] noncomputable def r48 (_ : Unit) : List Stp := [S 324 (.mv (.t 17)), S 325 (.mv (.t 30)), S 326 (.call (.c (.func (.func fn_law13_ints) [] [])) [(.t 324), (.t 325)]), S 327 (.un .not (.t 326)), S 328 (.mv (.t 327)), SG 329 328 false (.mv (.t 31)), SG 330 328 false (.mv (.t 18)), SG 331 328 false (.bin .neq (.t 329) (.t 330)), S 332 (.pick (.t 328) (.c (.bool true)) (.t 331)), S 333 (.mv (.t 332)), SG 334 333 false (.mv (.t 33)), SG 335 333 false (.mv (.t 18)), SG 336 333 false (.bin .neq (.t 334) (.t 335)), S 337 (.pick (.t 333) (.c (.bool true)) (.t 336)), S 338 (.mv (.t 337)), SG 339 338 false (.mv (.t 36)), SG 340 338 false (.mv (.t 18)), SG 341 338 false (.bin .neq (.t 339) (.t 340)), S 342 (.pick (.t 338) (.c (.bool true)) (.t 341)), S 343 (.mv (.t 342)), SG 344 343 false (.mv (.t 32)), SG 345 343 false (.len (.t 344)), SG 346 343 false (.mv (.t 17)), SG 347 343 false (.len (.t 346)), SG 348 343 false (.bin .neq (.t 345) (.t 347)), S 349 (.pick (.t 343) (.c (.bool true)) (.t 348)), S 350 (.mv (.t 349)), SG 351 350 false (.mv (.t 34)), SG 352 350 false (.mv (.t 19)), SG 353 350 false (.bin .neq (.t 351) (.t 352)), S 354 (.pick (.t 350) (.c (.bool true)) (.t 353)), S 355 (.mv (.t 354)), SG 356 355 false (.mv (.t 37)), SG 357 355 false (.mv (.t 39)), SG 358 355 false (.bin .neq (.t 356) (.t 357)), S 359 (.pick (.t 355) (.c (.bool true)) (.t 358)), S 360 (.mv (.t 359)), SG 361 360 false (.mv (.t 38)), SG 362 360 false (.mv (.t 40)), SG 363 360 false (.bin .neq (.t 361) (.t 362)), S 364 (.pick (.t 360) (.c (.bool true)) (.t 363))]
@[simp] noncomputable def r49 (_ : Unit) : List Stp := [S 6 (.mv (.c (.bool false)))]
@[simp] noncomputable def r50 (_ : Unit) : List Stp := [S 365 (.mv (.t 17)), S 366 (.len (.t 365)), S 367 (.mv (.c (.int .i64 0)))]
@[simp] noncomputable def r51 (_ : Unit) : List Stp := [S 368 (.bin .lss (.t 367) (.t 366))]
@[simp] noncomputable def r52 (_ : Unit) : List Stp := [S 369 (.ixS 1 (.t 365) (.t 367)), S 370 (.load false 1 (.t 369)), S 42 (.mv (.t 370))]
@[simp] noncomputable def r53 (_ : Unit) : List Stp := [S 43 (.mv (.c (.int .i64 0))), S 44 (.mv (.c (.bool false)))]
@[simp] noncomputable def r54 (_ : Unit) : List Stp := [S 371 (.mv (.t 7)), S 372 (.mv (.c (.int .i64 0)))]
@[simp] noncomputable def r55 (_ : Unit) : List Stp := [S 373 (.bin .lss (.t 372) (.t 371))]
@[simp] noncomputable def r56 (_ : Unit) : List Stp := [S 374 (.mv (.t 372)), S 45 (.mv (.t 374))]
@[simp] noncomputable def r57 (_ : Unit) : List Stp := [S 375 (.mv (.t 43)), S 376 (.mv (.t 42)), S 377 (.mv (.t 45)), S 378 (.bin .shr (.t 376) (.t 377)), S 379 (.bin .and (.t 378) (.c (.int .i64 1))), S 380 (.mv (.t 7)), S 381 (.bin .sub (.t 380) (.c (.int .i64 1))), S 382 (.mv (.t 45)), S 383 (.bin .sub (.t 381) (.t 382)), S 384 (.bin .shl (.t 379) (.t 383)), S 385 (.bin .or (.t 375) (.t 384)), S 43 (.mv (.t 385))]
@[simp] noncomputable def r58 (_ : Unit) : List Stp := [S 386 (.bin .add (.t 372) (.c (.int .i64 1))), S 372 (.mv (.t 386))]
@[simp] noncomputable def r59 (_ : Unit) : List Stp := [S 387 (.mv (.t 32)), S 388 (.len (.t 387)), S 389 (.mv (.c (.int .i64 0)))]
@[simp] noncomputable def r60 (_ : Unit) : List Stp := [S 390 (.bin .lss (.t 389) (.t 388))]
@[simp] noncomputable def r61 (_ : Unit) : List Stp := [S 391 (.ixS 1 (.t 387) (.t 389)), S 392 (.load false 1 (.t 391)), S 47 (.mv (.t 392))]
@[simp] noncomputable def r62 (_ : Unit) : List Stp := [S 393 (.mv (.t 44)), S 394 (.mv (.t 393)), SG 395 394 false (.mv (.t 47)), SG 396 394 false (.mv (.t 43)), SG 397 394 false (.bin .eql (.t 395) (.t 396)), S 398 (.pick (.t 394) (.c (.bool true)) (.t 397)), S 44 (.mv (.t 398))]
@[simp] noncomputable def r63 (_ : Unit) : List Stp := [S 399 (.bin .add (.t 389) (.c (.int .i64 1))), S 389 (.mv (.t 399))]
@[simp] noncomputable def r64 (_ : Unit) : List Stp := [S 400 (.mv (.t 44)), S 401 (.un .not (.t 400))]
@[simp] noncomputable def r65 (_ : Unit) : List Stp := [S 6 (.mv (.c (.bool false)))]
@[simp] noncomputable def r66 (_ : Unit) : List Stp := [S 402 (.bin .add (.t 367) (.c (.int .i64 1))), S 367 (.mv (.t 402))]
@[simp] noncomputable def r67 (_ : Unit) : List Stp := [S 403 (.mv (.t 17)), S 404 (.len (.t 403)), S 405 (.mv (.c (.int .i64 0)))]
@[simp] noncomputable def r68 (_ : Unit) : List Stp := [S 406 (.bin .lss (.t 405) (.t 404))]
@[simp] noncomputable def r69 (_ : Unit) : List Stp := [S 407 (.mv (.t 405)), S 48 (.mv (.t 407))]
@[simp] noncomputable def r70 (_ : Unit) : List Stp := [S 408 (.mv (.t 17)), S 409 (.mv (.t 48)), S 410 (.ixS 1 (.t 408) (.t 409)), SN (.store 1 (.t 410) (.c (.int .i64 (-9))))]
@[simp] noncomputable def r71 (_ : Unit) : List Stp := [S 411 (.bin .add (.t 405) (.c (.int .i64 1))), S 405 (.mv (.t 411))]
@[simp] noncomputable def r72 (_ : Unit) : List Stp := [S 413 (.load true 4 (.t 3)), S 414 (.call (.c (.func (.func fn_rap_Sets) [] [])) [(.t 413)]), S 412 (.mv (.t 414)), S 415 (.ext (.t 412) 0), S 416 (.ext (.t 412) 1), S 49 (.mv (.t 415)), S 50 (.mv (.t 416))]
@[simp] noncomputable def r73 (_ : Unit) : List Stp := [S 417 (.mv (.t 50)), S 418 (.mv (.t 18)), S 419 (.bin .neq (.t 417) (.t 418)), S 420 (.mv (.t 419)), SG 421 420 false (.mv (.t 49)), SG 422 420 false (.mv (.t 30)), SG 423 420 false (.call (.c (.func (.func fn_law13_ints) [] [])) [(.t 421), (.t 422)]), SG 424 420 false (.un .not (.t 423)), S 425 (.pick (.t 420) (.c (.bool true)) (.t 424))]
@[simp] noncomputable def r74 (_ : Unit) : List Stp := [S 6 (.mv (.c (.bool false)))]
@[simp] noncomputable def r75 (_ : Unit) : List Stp := [S 426 (.mv (.t 16)), S 427 (.len (.t 426)), S 428 (.mv (.c (.int .i64 0)))]
@[simp] noncomputable def r76 (_ : Unit) : List Stp := [S 429 (.bin .lss (.t 428) (.t 427))]
@[simp] noncomputable def r77 (_ : Unit) : List Stp := [S 430 (.mv (.t 428)), S 51 (.mv (.t 430))]
@[simp] noncomputable def r78 (_ : Unit) : List Stp := [S 431 (.mv (.t 16)), S 432 (.mv (.t 51)), S 433 (.ixS 2 (.t 431) (.t 432)), S 435 (.fAddr 3 (.t 3)), S 437 (.mv (.t 51)), S 434 (.load true 2 (.t 433)), S 436 (.load false 1 (.t 435)), S 438 (.ixS 2 (.t 436) (.t 437)), S 439 (.load true 2 (.t 438)), S 440 (.eqA true [.i, .b] (.t 434) (.t 439))]
@[simp] noncomputable def r79 (_ : Unit) : List Stp := [S 6 (.mv (.c (.bool false)))]
@[simp] noncomputable def r80 (_ : Unit) : List Stp := [S 441 (.bin .add (.t 428) (.c (.int .i64 1))), S 428 (.mv (.t 441))]
@[simp] noncomputable def r81 (_ : Unit) : List Stp := [SP 442 (.call (.c (.func (.func fn_law13_alive) [] [])) []), S 6 (.mv (.t 442))]
@[simp] noncomputable def ir : IR := (.seq (.ops r0) (.seq (.seq (.ops r1) (.cond (.t 58) (.seq (.ops r2) .ret) .skip)) (.seq (.ops r3) (.seq (.ops r4) (.seq (.ops r5) (.seq (.ops r6) (.seq (.seq (.ops r7) (.block 0 (.loop (.seq (.ops r8) (.seq (.cond (.t 90) .skip (.exit 0)) (.seq (.block 1 (.seq (.ops r9) (.ops r10))) (.ops r11))))))) (.seq (.seq (.ops r12) (.block 2 (.loop (.seq (.ops r13) (.seq (.cond (.t 126) .skip (.exit 2)) (.seq (.block 3 (.seq (.ops r14) (.ops r15))) (.ops r16))))))) (.seq (.seq (.ops r17) (.block 4 (.loop (.seq (.ops r18) (.seq (.cond (.t 152) .skip (.exit 4)) (.seq (.block 5 (.seq (.ops r19) (.ops r20))) (.ops r21))))))) (.seq (.seq (.ops r22) (.cond (.t 194) (.ops r23) .skip)) (.seq (.cut (.ops r24)) (.seq (.ops r25) (.seq (.ops r26) (.seq (.seq (.ops r27) (.cond (.t 227) (.seq (.ops r28) .ret) .skip)) (.seq (.seq (.ops r29) (.cond (.t 229) (.seq (.ops r30) (.seq (.ops r31) (.seq (.seq (.ops r32) (.cond (.t 264) (.seq (.ops r33) .ret) .skip)) (.seq (.ops r34) (.seq (.ops r35) (.block 6 (.loop (.seq (.ops r36) (.seq (.cond (.t 268) .skip (.exit 6)) (.seq (.block 7 (.seq (.ops r37) (.seq (.block 8 (.loop (.seq (.seq (.ops r38) (.cond (.t 282) .skip (.exit 8))) (.block 9 (.ops r39))))) (.seq (.ops r40) (.cond (.t 296) (.seq (.ops r41) .ret) .skip))))) (.ops r42))))))))))) .skip)) (.seq (.cut (.ops r43)) (.seq (.ops r44) (.seq (.ops r45) (.seq (.ops r46) (.seq (.ops r47) (.seq (.seq (.ops r48) (.cond (.t 364) (.seq (.ops r49) .ret) .skip)) (.seq (.seq (.ops r50) (.block 10 (.loop (.seq (.ops r51) (.seq (.cond (.t 368) .skip (.exit 10)) (.seq (.block 11 (.seq (.ops r52) (.seq (.ops r53) (.seq (.seq (.ops r54) (.block 12 (.loop (.seq (.ops r55) (.seq (.cond (.t 373) .skip (.exit 12)) (.seq (.block 13 (.seq (.ops r56) (.ops r57))) (.ops r58))))))) (.seq (.seq (.ops r59) (.block 14 (.loop (.seq (.ops r60) (.seq (.cond (.t 390) .skip (.exit 14)) (.seq (.block 15 (.seq (.ops r61) (.ops r62))) (.ops r63))))))) (.seq (.ops r64) (.cond (.t 401) (.seq (.ops r65) .ret) .skip))))))) (.ops r66))))))) (.seq (.seq (.ops r67) (.block 16 (.loop (.seq (.ops r68) (.seq (.cond (.t 406) .skip (.exit 16)) (.seq (.block 17 (.seq (.ops r69) (.ops r70))) (.ops r71))))))) (.seq (.ops r72) (.seq (.seq (.ops r73) (.cond (.t 425) (.seq (.ops r74) .ret) .skip)) (.seq (.seq (.ops r75) (.block 18 (.loop (.seq (.ops r76) (.seq (.cond (.t 429) .skip (.exit 18)) (.seq (.block 19 (.seq (.ops r77) (.seq (.ops r78) (.cond (.t 440) (.seq (.ops r79) .ret) .skip)))) (.ops r80))))))) (.seq (.ops r81) .ret)))))))))))))))))))))))))))
@[simp] noncomputable def rs : List RV := [.tmp 6]
theorem comp : compF Pg cfg Tryz.f10 = some (ir, rs, 443) := by kernel_rfl
theorem enter {args : List AVal} {h : Heap} {K : AEnd → Heap → Prop} (F : Nat) (hl : args.length ≤ 443) (a : AW ⟨Pg, F, 443, false, []⟩ ir (RetK rs K) (initT args) [] h) : ACalls Pg fn_law13_RapTurned args h K :=
  ACalls.of_comp follows Tryz.func10 comp hl a
theorem pure {args : List AVal} {v : AVal} (hl : args.length ≤ 443) (a : AW ⟨Pg, 0, 443, false, []⟩ ir (RetK rs fun e _ => e = .ret v) (initT args) [] nilH) : APure Pg fn_law13_RapTurned args v :=
  APure.of_nil (enter 0 hl a)
end law13_RapTurned


namespace law13_long
noncomputable def cfg : Cfg := { pure := pures, pcs := [], raw := [], cuts := [], draws := [], keep := [] }
@[simp] noncomputable def r0 (_ : Unit) : List Stp := [S 1 (.box (.t 0)), S 2 (.mv (.c (.bool false)))]
@[simp] noncomputable def r1 (_ : Unit) : List Stp := [S 3 (.fAddr 0 (.t 1)), S 4 (.fAddr 0 (.t 3)), S 5 (.load false 1 (.t 4)), S 6 (.len (.t 5)), S 7 (.fAddr 0 (.t 1)), S 8 (.fAddr 1 (.t 7)), S 9 (.load false 1 (.t 8)), S 10 (.len (.t 9)), S 11 (.fAddr 0 (.t 1)), S 12 (.fAddr 2 (.t 11)), S 13 (.load false 1 (.t 12)), S 14 (.len (.t 13)), S 15 (.fAddr 3 (.t 1)), S 16 (.load false 1 (.t 15)), S 17 (.len (.t 16)), S 18 (.mm true [(.t 6), (.t 10), (.t 14), (.t 17)]), S 19 (.bin .gtr (.t 18) (.c (.int .i64 40))), S 2 (.mv (.t 19))]
@[simp] noncomputable def ir : IR := (.seq (.ops r0) (.seq (.ops r1) .ret))
@[simp] noncomputable def rs : List RV := [.tmp 2]
theorem comp : compF Pg cfg Tryz.f12 = some (ir, rs, 20) := by kernel_rfl
theorem enter {args : List AVal} {h : Heap} {K : AEnd → Heap → Prop} (F : Nat) (hl : args.length ≤ 20) (a : AW ⟨Pg, F, 20, false, []⟩ ir (RetK rs K) (initT args) [] h) : ACalls Pg fn_law13_long args h K :=
  ACalls.of_comp follows Tryz.func12 comp hl a
theorem pure {args : List AVal} {v : AVal} (hl : args.length ≤ 20) (a : AW ⟨Pg, 0, 20, false, []⟩ ir (RetK rs fun e _ => e = .ret v) (initT args) [] nilH) : APure Pg fn_law13_long args v :=
  APure.of_nil (enter 0 hl a)
end law13_long

namespace law13_alive
noncomputable def cfg : Cfg := { pure := [12, 13, 14, 15, 16, 17, 18, 19, 21, 22, 23, 24, 25, 26, 27, 28, 29, 32, 33, 34, 36, 40, 45, 46, 47, 48, 51, 52, 53, 56, 57, 62, 64, 68, 71, 72, 77, 78, 79, 84, 87, 89, 91, 92, 93, 94, 95, 96, 97, 98, 99, 100, 106, 107, 109, 110, 111, 112, 113, 114, 115, 116, 120, 121, 126, 127, 128, 160, 161], pcs := [], raw := [], cuts := [], draws := [], keep := [] }
@[simp] noncomputable def r0 (_ : Unit) : List Stp := [S 0 (.mv (.c (.bool false)))]
@[simp] noncomputable def r1 (_ : Unit) : List Stp := [S 19 (.call (.c (.func (.func fn_law13_sample) [] [])) [(.c .nils)]), SP 20 (.call (.c (.func (.func fn_rap_Dull) [] [])) [(.t 19), (.c (.int .i64 9))]), S 18 (.mv (.t 20)), S 21 (.ext (.t 18) 0), S 22 (.ext (.t 18) 1), S 1 (.mv (.t 21)), S 2 (.mv (.t 22))]
@[simp] noncomputable def r2 (_ : Unit) : List Stp := [S 24 (.call (.c (.func (.func fn_law13_sample) [] [])) [(.c .nils)]), SP 25 (.call (.c (.func (.func fn_rap_Sets) [] [])) [(.t 24)]), S 23 (.mv (.t 25)), S 26 (.ext (.t 23) 0), S 27 (.ext (.t 23) 1), S 3 (.mv (.t 26)), S 4 (.mv (.t 27))]
@[simp] noncomputable def r3 (_ : Unit) : List Stp := [S 29 (.call (.c (.func (.func fn_law13_sample) [] [])) [(.c .nils)]), SP 30 (.call (.c (.func (.func fn_rap_Open) [] [])) [(.t 29)]), S 28 (.mv (.t 30)), S 31 (.ext (.t 28) 0), S 32 (.ext (.t 28) 1), S 33 (.ext (.t 28) 2), S 5 (.mv (.t 31)), S 6 (.mv (.t 32)), S 7 (.mv (.t 33))]
@[simp] noncomputable def r4 (_ : Unit) : List Stp := [SP 35 (.call (.c (.func (.func fn_law13_find) [] [])) [(.c (.int .i64 0)), (.c (.bool false))]), SP 36 (.call (.c (.func (.func fn_law13_find) [] [])) [(.c (.int .i64 3)), (.c (.bool false))]), S 37 (.bsl 2 [(.int .i64 0), (.bool false), (.int .i64 0), (.bool false)] [(0, 2, (.t 35)), (2, 2, (.t 36))]), S 38 (.call (.c (.func (.func fn_law13_sample) [] [])) [(.t 37)]), SP 39 (.call (.c (.func (.func fn_rap_Sound) [] [])) [(.t 38)]), S 34 (.mv (.t 39)), S 40 (.ext (.t 34) 0), S 41 (.ext (.t 34) 1), S 8 (.mv (.t 40)), S 9 (.mv (.t 41))]
@[simp] noncomputable def r5 (_ : Unit) : List Stp := [S 43 (.call (.c (.func (.func fn_law13_sample) [] [])) [(.c .nils)]), SP 44 (.call (.c (.func (.func fn_rap_Fewest) [] [])) [(.t 43)]), S 42 (.mv (.t 44)), S 45 (.ext (.t 42) 0), S 46 (.ext (.t 42) 1), S 47 (.ext (.t 42) 2), S 10 (.mv (.t 45)), S 11 (.mv (.t 46)), S 12 (.mv (.t 47))]
@[simp] noncomputable def r6 (_ : Unit) : List Stp := [S 49 (.call (.c (.func (.func fn_law13_sample) [] [])) [(.c .nils)]), SP 50 (.call (.c (.func (.func fn_rap_Next) [] [])) [(.t 49)]), S 48 (.mv (.t 50)), S 51 (.ext (.t 48) 0), S 52 (.ext (.t 48) 1), S 53 (.ext (.t 48) 2), S 13 (.mv (.t 51)), S 14 (.mv (.t 52)), S 15 (.mv (.t 53))]
@[simp] noncomputable def r7 (_ : Unit) : List Stp := [SP 55 (.call (.c (.func (.func fn_law13_find) [] [])) [(.c (.int .i64 0)), (.c (.bool true))]), SP 56 (.call (.c (.func (.func fn_law13_find) [] [])) [(.c (.int .i64 1)), (.c (.bool false))]), S 57 (.bsl 2 [(.int .i64 0), (.bool false), (.int .i64 0), (.bool false)] [(0, 2, (.t 55)), (2, 2, (.t 56))]), S 58 (.call (.c (.func (.func fn_law13_sample) [] [])) [(.t 57)]), SP 59 (.call (.c (.func (.func fn_rap_Wrong) [] [])) [(.t 58)]), S 54 (.mv (.t 59)), S 60 (.ext (.t 54) 0), S 61 (.ext (.t 54) 1), S 16 (.mv (.t 60)), S 17 (.mv (.t 61))]
@[simp] noncomputable def r8 (_ : Unit) : List Stp := [S 62 (.mv (.t 1)), S 63 (.bin .eql (.t 62) (.c (.int .i64 15))), S 64 (.mv (.t 63)), SG 65 64 true (.mv (.t 2)), SG 66 64 true (.bin .eql (.t 65) (.c (.int .i64 0))), S 67 (.pick (.t 64) (.t 66) (.c (.bool false))), S 68 (.mv (.t 67)), SG 69 68 true (.mv (.t 3)), SG 70 68 true (.bsl 4 [(.int .i64 0), (.int .i64 0), (.int .i64 0), (.int .i64 0)] [(0, 1, (.c (.int .i64 0))), (1, 1, (.c (.int .i64 1))), (2, 1, (.c (.int .i64 8))), (3, 1, (.c (.int .i64 9)))]), SG 71 68 true (.call (.c (.func (.func fn_law13_ints) [] [])) [(.t 69), (.t 70)]), S 72 (.pick (.t 68) (.t 71) (.c (.bool false))), S 73 (.mv (.t 72)), SG 74 73 true (.mv (.t 4)), SG 75 73 true (.bin .eql (.t 74) (.c (.int .i64 0))), S 76 (.pick (.t 73) (.t 75) (.c (.bool false))), S 77 (.mv (.t 76)), SG 78 77 true (.mv (.t 5)), SG 79 77 true (.bin .eql (.t 78) (.c (.int .i64 9))), S 80 (.pick (.t 77) (.t 79) (.c (.bool false))), S 81 (.mv (.t 80)), SG 82 81 true (.mv (.t 6)), SG 83 81 true (.bin .eql (.t 82) (.c (.int .i64 0))), S 84 (.pick (.t 81) (.t 83) (.c (.bool false))), S 85 (.mv (.t 84)), SG 86 85 true (.mv (.t 7)), SG 87 85 true (.bin .eql (.t 86) (.c (.int .i64 0))), S 88 (.pick (.t 85) (.t 87) (.c (.bool false))), S 89 (.mv (.t 88)), SG 90 89 true (.mv (.t 8)), SG 91 89 true (.bin .eql (.t 90) (.c (.int .i64 2))), S 92 (.pick (.t 89) (.t 91) (.c (.bool false))), S 93 (.mv (.t 92)), SG 94 93 true (.mv (.t 9)), SG 95 93 true (.bin .eql (.t 94) (.c (.int .i64 0))), S 96 (.pick (.t 93) (.t 95) (.c (.bool false))), S 97 (.mv (.t 96)), SG 98 97 true (.mv (.t 10)), SG 99 97 true (.bin .eql (.t 98) (.c (.int .i64 2))), S 100 (.pick (.t 97) (.t 99) (.c (.bool false))), S 101 (.mv (.t 100)), SG 102 101 true (.mv (.t 11)), SG 103 101 true (.bin .eql (.t 102) (.c (.int .i64 5))), S 104 (.pick (.t 101) (.t 103) (.c (.bool false))), S 105 (.mv (.t 104)), SG 106 105 true (.mv (.t 12)), SG 107 105 true (.bin .eql (.t 106) (.c (.int .i64 0))), S 108 (.pick (.t 105) (.t 107) (.c (.bool false))), S 109 (.mv (.t 108)), SG 110 109 true (.mv (.t 13)), SG 111 109 true (.bin .eql (.t 110) (.c (.int .i64 0))), S 112 (.pick (.t 109) (.t 111) (.c (.bool false))), S 113 (.mv (.t 112)), SG 114 113 true (.mv (.t 14)), SG 115 113 true (.bin .eql (.t 114) (.c (.int .i64 2))), S 116 (.pick (.t 113) (.t 115) (.c (.bool false))), S 117 (.mv (.t 116)), SG 118 117 true (.mv (.t 15)), SG 119 117 true (.bin .eql (.t 118) (.c (.int .i64 0))), S 120 (.pick (.t 117) (.t 119) (.c (.bool false))), S 121 (.mv (.t 120)), SG 122 121 true (.mv (.t 16)), SG 123 121 true (.bin .eql (.t 122) (.c (.int .i64 1))), S 124 (.pick (.t 121) (.t 123) (.c (.bool false))), S 125 (.mv (.t 124)), SG 126 125 true (.mv (.t 17)), SG 127 125 true (.bin .eql (.t 126) (.c (.int .i64 0))), S 128 (.pick (.t 125) (.t 127) (.c (.bool false))), S 0 (.mv (.t 128))]
@[simp] noncomputable def ir : IR := (.seq (.ops r0) (.seq (.ops r1) (.seq (.ops r2) (.seq (.ops r3) (.seq (.ops r4) (.seq (.ops r5) (.seq (.ops r6) (.seq (.ops r7) (.seq (.ops r8) .ret)))))))))
@[simp] noncomputable def rs : List RV := [.tmp 0]
theorem comp : compF Pg cfg Tryz.f13 = some (ir, rs, 129) := by kernel_rfl
theorem enter {args : List AVal} {h : Heap} {K : AEnd → Heap → Prop} (F : Nat) (hl : args.length ≤ 129) (a : AW ⟨Pg, F, 129, false, []⟩ ir (RetK rs K) (initT args) [] h) : ACalls Pg fn_law13_alive args h K :=
  ACalls.of_comp follows Tryz.func13 comp hl a
theorem pure {args : List AVal} {v : AVal} (hl : args.length ≤ 129) (a : AW ⟨Pg, 0, 129, false, []⟩ ir (RetK rs fun e _ => e = .ret v) (initT args) [] nilH) : APure Pg fn_law13_alive args v :=
  APure.of_nil (enter 0 hl a)
end law13_alive

namespace rap_Dull
noncomputable def cfg : Cfg := { pure := pures, pcs := [], raw := [], cuts := [], draws := [(2, [⟨1, false, [], []⟩, ⟨2, false, [], []⟩, ⟨3, false, [], []⟩, ⟨4, false, [], []⟩, ⟨5, false, [], []⟩, ⟨6, false, [], []⟩, ⟨0, false, [], []⟩, ⟨7, false, [], []⟩, ⟨8, false, [], []⟩, ⟨9, false, [], []⟩, ⟨10, false, [], []⟩, ⟨11, false, [], []⟩, ⟨12, false, [], []⟩, ⟨13, false, [], []⟩, ⟨14, false, [], []⟩])], keep := [4, 5] }
@[simp] noncomputable def r0 (_ : Unit) : List Stp := [S 2 (.box (.t 0)), S 4 (.mv (.c (.int .i64 0))), S 5 (.alloc [(.int .i64 0)])]
@[simp] noncomputable def r1 (_ : Unit) : List Stp := [S 7 (.mkF (.func fn_rap_Dull_1) [] [(.t 5)]), SN (.defer (.t 7) [])]
@[simp] noncomputable def r2 (_ : Unit) : List Stp := [S 9 (.mv (.t 1)), S 10 (.bin .geq (.t 9) (.c (.int .i64 0))), S 11 (.mv (.t 10)), SG 12 11 true (.mv (.t 1)), SG 13 11 true (.fAddr 0 (.t 2)), SG 14 11 true (.fAddr 0 (.t 13)), S 8 (.load true 4 (.t 2)), SG 15 11 true (.load false 1 (.t 14)), SG 16 11 true (.len (.t 15)), SG 17 11 true (.mm false [(.t 16), (.c (.int .i64 62))]), SG 18 11 true (.bin .shr (.t 12) (.t 17)), SG 19 11 true (.bin .eql (.t 18) (.c (.int .i64 0))), S 20 (.pick (.t 11) (.t 19) (.c (.bool false))), S 21 (.call (.c (.func (.func fn_rap_open) [] [])) [(.t 8), (.t 20)]), S 6 (.mv (.t 21))]
@[simp] noncomputable def r3 (_ : Unit) : List Stp := [S 22 (.mv (.t 6)), S 23 (.nilck Pg (.t 22)), S 24 (.fAddr 4 (.t 23)), S 25 (.load true 6 (.t 24)), S 26 (.mv (.t 1)), S 27 (.conv .u64 (.t 26)), SP 28 (.call (.c (.func (.func fn_rap_around_dull) [] [])) [(.t 25), (.t 27)]), S 29 (.conv .i64 (.t 28)), S 4 (.mv (.t 29)), SN (.store 1 (.t 5) (.c (.int .i64 0)))]
@[simp] noncomputable def ir : IR := (.seq (.ops r0) (.seq (.ops r1) (.seq (.ops r2) (.seq (.ops r3) .ret))))
@[simp] noncomputable def rs : List RV := [.tmp 4, .cell 5 false 1]
theorem comp : compF Pg cfg Tryz.f14 = some (ir, rs, 30) := by kernel_rfl
theorem enter {args : List AVal} {h : Heap} {K : AEnd → Heap → Prop} (F : Nat) (hl : args.length ≤ 30) (a : AW ⟨Pg, F, 30, false, [4, 5]⟩ ir (RetD Pg rs K) (initT args) [] h) : ACalls Pg fn_rap_Dull args h K :=
  ACalls.of_comp_defer follows Tryz.func14 comp hl a
theorem pure {args : List AVal} {v : AVal} (hl : args.length ≤ 30) (a : AW ⟨Pg, 0, 30, false, [4, 5]⟩ ir (RetD Pg rs fun e _ => e = .ret v) (initT args) [] nilH) : APure Pg fn_rap_Dull args v :=
  APure.of_nil (enter 0 hl a)
end rap_Dull


namespace rap_Sets
noncomputable def cfg : Cfg := { pure := pures, pcs := [], raw := [], cuts := [], draws := [], keep := [2, 3] }
@[simp] noncomputable def r0 (_ : Unit) : List Stp := [S 1 (.box (.t 0)), S 2 (.mv (.c .nils)), S 3 (.alloc [(.int .i64 0)])]
@[simp] noncomputable def r1 (_ : Unit) : List Stp := [S 7 (.mkF (.func fn_rap_Sets_1) [] [(.t 3)]), SN (.defer (.t 7) [])]
@[simp] noncomputable def r2 (_ : Unit) : List Stp := [S 4 (.mv (.c .nils))]
@[simp] noncomputable def r3 (_ : Unit) : List Stp := [S 8 (.load true 4 (.t 1)), S 9 (.call (.c (.func (.func fn_rap_open) [] [])) [(.t 8), (.c (.bool true))]), S 10 (.call (.c (.func (.func fn_rap_hull_can) [] [])) [(.t 9)]), S 11 (.len (.t 10)), S 12 (.mv (.c (.int .i64 0)))]
@[simp] noncomputable def r4 (_ : Unit) : List Stp := [S 13 (.bin .lss (.t 12) (.t 11))]
@[simp] noncomputable def r5 (_ : Unit) : List Stp := [S 14 (.ixS 2 (.t 10) (.t 12)), S 15 (.load true 2 (.t 14)), S 6 (.alloc [(.int .u64 0), (.int .u64 0)]), SN (.store 2 (.t 6) (.t 15))]
@[simp] noncomputable def r6 (_ : Unit) : List Stp := [S 16 (.mv (.t 4)), S 17 (.fAddr 0 (.t 6)), S 18 (.load false 1 (.t 17)), S 19 (.conv .i64 (.t 18)), S 20 (.bsl 1 [(.int .i64 0)] [(0, 1, (.t 19))]), S 21 (.app 1 8 (.t 16) (.t 20)), S 4 (.mv (.t 21))]
@[simp] noncomputable def r7 (_ : Unit) : List Stp := [S 22 (.bin .add (.t 12) (.c (.int .i64 1))), S 12 (.mv (.t 22))]
@[simp] noncomputable def r8 (_ : Unit) : List Stp := [S 23 (.mv (.t 4)), S 2 (.mv (.t 23)), SN (.store 1 (.t 3) (.c (.int .i64 0)))]
@[simp] noncomputable def ir : IR := (.seq (.ops r0) (.seq (.ops r1) (.seq (.ops r2) (.seq (.seq (.ops r3) (.block 0 (.loop (.seq (.ops r4) (.seq (.cond (.t 13) .skip (.exit 0)) (.seq (.block 1 (.seq (.ops r5) (.ops r6))) (.ops r7))))))) (.seq (.ops r8) .ret)))))
@[simp] noncomputable def rs : List RV := [.tmp 2, .cell 3 false 1]
theorem comp : compF Pg cfg Tryz.f16 = some (ir, rs, 24) := by kernel_rfl
theorem enter {args : List AVal} {h : Heap} {K : AEnd → Heap → Prop} (F : Nat) (hl : args.length ≤ 24) (a : AW ⟨Pg, F, 24, false, [2, 3]⟩ ir (RetD Pg rs K) (initT args) [] h) : ACalls Pg fn_rap_Sets args h K :=
  ACalls.of_comp_defer follows Tryz.func16 comp hl a
theorem pure {args : List AVal} {v : AVal} (hl : args.length ≤ 24) (a : AW ⟨Pg, 0, 24, false, [2, 3]⟩ ir (RetD Pg rs fun e _ => e = .ret v) (initT args) [] nilH) : APure Pg fn_rap_Sets args v :=
  APure.of_nil (enter 0 hl a)
end rap_Sets


namespace rap_Open
noncomputable def cfg : Cfg := { pure := pures, pcs := [], raw := [], cuts := [], draws := [(6, [⟨0, false, [], []⟩, ⟨1, false, [], []⟩, ⟨5, false, [], []⟩, ⟨6, false, [], []⟩, ⟨2, false, [], []⟩, ⟨7, false, [], []⟩, ⟨8, false, [], []⟩, ⟨3, true, [], []⟩, ⟨4, false, [], [7]⟩, ⟨9, false, [], []⟩, ⟨10, false, [], []⟩])], keep := [2, 3, 4] }
@[simp] noncomputable def r0 (_ : Unit) : List Stp := [S 1 (.box (.t 0)), S 2 (.mv (.c (.int .i64 0))), S 3 (.mv (.c (.int .i64 0))), S 4 (.alloc [(.int .i64 0)])]
@[simp] noncomputable def r1 (_ : Unit) : List Stp := [S 9 (.mkF (.func fn_rap_Open_1) [] [(.t 4)]), SN (.defer (.t 9) [])]
@[simp] noncomputable def r2 (_ : Unit) : List Stp := [S 5 (.mv (.c (.int .u64 0))), S 6 (.mv (.c (.int .u64 63)))]
@[simp] noncomputable def r3 (_ : Unit) : List Stp := [S 10 (.load true 4 (.t 1)), S 11 (.call (.c (.func (.func fn_rap_open) [] [])) [(.t 10), (.c (.bool true))]), S 12 (.call (.c (.func (.func fn_rap_hull_can) [] [])) [(.t 11)]), S 13 (.len (.t 12)), S 14 (.mv (.c (.int .i64 0)))]
@[simp] noncomputable def r4 (_ : Unit) : List Stp := [S 15 (.bin .lss (.t 14) (.t 13))]
@[simp] noncomputable def r5 (_ : Unit) : List Stp := [S 16 (.ixS 2 (.t 12) (.t 14)), S 17 (.load true 2 (.t 16)), S 8 (.alloc [(.int .u64 0), (.int .u64 0)]), SN (.store 2 (.t 8) (.t 17))]
@[simp] noncomputable def r6 (_ : Unit) : List Stp := [S 18 (.mv (.t 5)), S 19 (.fAddr 0 (.t 8)), S 23 (.mv (.t 6)), S 24 (.fAddr 0 (.t 8)), S 20 (.load false 1 (.t 19)), S 25 (.load false 1 (.t 24)), S 26 (.bin .and (.t 23) (.t 25)), SD (some 21) (.bsl 2 [(.int .u64 0), (.int .u64 0)] [(0, 1, (.t 18)), (1, 1, (.t 20))]) true [] [], SD (some 22) (.call (.c (.func (.func fn_rap_union) [] [])) [(.t 21)]) false [] [I 25 (.load false 1 (.t 24))], S 5 (.mv (.t 22)), S 6 (.mv (.t 26))]
@[simp] noncomputable def r7 (_ : Unit) : List Stp := [S 27 (.bin .add (.t 14) (.c (.int .i64 1))), S 14 (.mv (.t 27))]
@[simp] noncomputable def r8 (_ : Unit) : List Stp := [S 28 (.mv (.t 5)), S 29 (.conv .i64 (.t 28)), S 30 (.mv (.t 6)), S 31 (.conv .i64 (.t 30)), S 2 (.mv (.t 29)), S 3 (.mv (.t 31)), SN (.store 1 (.t 4) (.c (.int .i64 0)))]
@[simp] noncomputable def ir : IR := (.seq (.ops r0) (.seq (.ops r1) (.seq (.ops r2) (.seq (.seq (.ops r3) (.block 0 (.loop (.seq (.ops r4) (.seq (.cond (.t 15) .skip (.exit 0)) (.seq (.block 1 (.seq (.ops r5) (.ops r6))) (.ops r7))))))) (.seq (.ops r8) .ret)))))
@[simp] noncomputable def rs : List RV := [.tmp 2, .tmp 3, .cell 4 false 1]
theorem comp : compF Pg cfg Tryz.f18 = some (ir, rs, 32) := by kernel_rfl
theorem enter {args : List AVal} {h : Heap} {K : AEnd → Heap → Prop} (F : Nat) (hl : args.length ≤ 32) (a : AW ⟨Pg, F, 32, false, [2, 3, 4]⟩ ir (RetD Pg rs K) (initT args) [] h) : ACalls Pg fn_rap_Open args h K :=
  ACalls.of_comp_defer follows Tryz.func18 comp hl a
theorem pure {args : List AVal} {v : AVal} (hl : args.length ≤ 32) (a : AW ⟨Pg, 0, 32, false, [2, 3, 4]⟩ ir (RetD Pg rs fun e _ => e = .ret v) (initT args) [] nilH) : APure Pg fn_rap_Open args v :=
  APure.of_nil (enter 0 hl a)
end rap_Open


namespace law13_ints
noncomputable def cfg : Cfg := { pure := [12, 13, 14, 15, 16, 17, 18, 19, 20, 21, 22, 23, 24, 25, 26, 27, 28, 29, 32, 33, 34, 36, 40, 45, 46, 47, 48, 51, 52, 53, 56, 62, 64, 68, 71, 72, 77, 78, 79, 84, 87, 89, 91, 92, 93, 94, 95, 96, 97, 98, 99, 100, 106, 107, 109, 110, 111, 112, 113, 114, 115, 116, 120, 121, 126, 127, 128, 160, 161], pcs := [], raw := [], cuts := [], draws := [], keep := [] }
@[simp] noncomputable def r0 (_ : Unit) : List Stp := [S 4 (.mv (.c (.bool false)))]
@[simp] noncomputable def r1 (_ : Unit) : List Stp := [S 5 (.mv (.t 0)), S 6 (.mv (.t 1)), S 7 (.call (.c (.func (.func fn_ref13_Ints) [] [])) [(.t 5), (.t 6)]), S 4 (.mv (.t 7))]
@[simp] noncomputable def ir : IR := (.seq (.ops r0) (.seq (.ops r1) .ret))
@[simp] noncomputable def rs : List RV := [.tmp 4]
theorem comp : compF Pg cfg Tryz.f20 = some (ir, rs, 8) := by kernel_rfl
theorem enter {args : List AVal} {h : Heap} {K : AEnd → Heap → Prop} (F : Nat) (hl : args.length ≤ 8) (a : AW ⟨Pg, F, 8, false, []⟩ ir (RetK rs K) (initT args) [] h) : ACalls Pg fn_law13_ints args h K :=
  ACalls.of_comp follows Tryz.func20 comp hl a
theorem pure {args : List AVal} {v : AVal} (hl : args.length ≤ 8) (a : AW ⟨Pg, 0, 8, false, []⟩ ir (RetK rs fun e _ => e = .ret v) (initT args) [] nilH) : APure Pg fn_law13_ints args v :=
  APure.of_nil (enter 0 hl a)
end law13_ints

namespace rap_Sound
noncomputable def cfg : Cfg := { pure := pures, pcs := [], raw := [], cuts := [], draws := [], keep := [2, 3] }
@[simp] noncomputable def r0 (_ : Unit) : List Stp := [S 1 (.box (.t 0)), S 2 (.mv (.c (.int .i64 0))), S 3 (.alloc [(.int .i64 0)])]
@[simp] noncomputable def r1 (_ : Unit) : List Stp := [S 5 (.mkF (.func fn_rap_Sound_1) [] [(.t 3)]), SN (.defer (.t 5) [])]
@[simp] noncomputable def r2 (_ : Unit) : List Stp := [S 6 (.load true 4 (.t 1)), S 7 (.call (.c (.func (.func fn_rap_open) [] [])) [(.t 6), (.c (.bool true))]), S 8 (.call (.c (.func (.func fn_rap_hull_can) [] [])) [(.t 7)]), S 4 (.mv (.t 8))]
@[simp] noncomputable def r3 (_ : Unit) : List Stp := [S 10 (.mv (.t 4)), S 11 (.ixS 2 (.t 10) (.c (.int .i64 0))), S 12 (.fAddr 0 (.t 11)), S 13 (.load false 1 (.t 12)), S 14 (.bin .neq (.t 13) (.c (.int .u64 0))), S 9 (.mv (.t 14))]
@[simp] noncomputable def r4 (_ : Unit) : List Stp := [S 2 (.mv (.c (.int .i64 0))), SN (.store 1 (.t 3) (.c (.int .i64 0)))]
@[simp] noncomputable def r5 (_ : Unit) : List Stp := [S 16 (.mv (.t 4)), S 17 (.len (.t 16)), S 18 (.bin .eql (.t 17) (.c (.int .i64 1))), S 15 (.mv (.t 18))]
@[simp] noncomputable def r6 (_ : Unit) : List Stp := [S 2 (.mv (.c (.int .i64 2))), SN (.store 1 (.t 3) (.c (.int .i64 0)))]
@[simp] noncomputable def r7 (_ : Unit) : List Stp := [S 2 (.mv (.c (.int .i64 1))), SN (.store 1 (.t 3) (.c (.int .i64 0)))]
@[simp] noncomputable def ir : IR := (.seq (.ops r0) (.seq (.ops r1) (.seq (.seq (.ops r2) (.block 0 (.seq (.ops r3) (.cond (.t 9) (.seq (.ops r4) .ret) (.seq (.ops r5) (.cond (.t 15) (.seq (.ops r6) .ret) .skip)))))) (.seq (.ops r7) .ret))))
@[simp] noncomputable def rs : List RV := [.tmp 2, .cell 3 false 1]
theorem comp : compF Pg cfg Tryz.f21 = some (ir, rs, 19) := by kernel_rfl
theorem enter {args : List AVal} {h : Heap} {K : AEnd → Heap → Prop} (F : Nat) (hl : args.length ≤ 19) (a : AW ⟨Pg, F, 19, false, [2, 3]⟩ ir (RetD Pg rs K) (initT args) [] h) : ACalls Pg fn_rap_Sound args h K :=
  ACalls.of_comp_defer follows Tryz.func21 comp hl a
theorem pure {args : List AVal} {v : AVal} (hl : args.length ≤ 19) (a : AW ⟨Pg, 0, 19, false, [2, 3]⟩ ir (RetD Pg rs fun e _ => e = .ret v) (initT args) [] nilH) : APure Pg fn_rap_Sound args v :=
  APure.of_nil (enter 0 hl a)
end rap_Sound


namespace rap_Fewest
noncomputable def cfg : Cfg := { pure := pures, pcs := [], raw := [], cuts := [], draws := [], keep := [2, 3, 4] }
@[simp] noncomputable def r0 (_ : Unit) : List Stp := [S 1 (.box (.t 0)), S 2 (.mv (.c (.int .i64 0))), S 3 (.mv (.c (.int .i64 0))), S 4 (.alloc [(.int .i64 0)])]
@[simp] noncomputable def r1 (_ : Unit) : List Stp := [S 10 (.mkF (.func fn_rap_Fewest_1) [] [(.t 4)]), SN (.defer (.t 10) [])]
@[simp] noncomputable def r2 (_ : Unit) : List Stp := [S 11 (.load true 4 (.t 1)), S 12 (.call (.c (.func (.func fn_rap_open) [] [])) [(.t 11), (.c (.bool true))]), S 5 (.mv (.t 12))]
@[simp] noncomputable def r3 (_ : Unit) : List Stp := [S 13 (.mv (.t 5)), S 14 (.call (.c (.func (.func fn_rap_hull_can) [] [])) [(.t 13)]), S 6 (.alloc [.nils]), SN (.store 1 (.t 6) (.t 14))]
@[simp] noncomputable def r4 (_ : Unit) : List Stp := [S 16 (.mv (.t 5)), SP 17 (.call (.c (.func (.func fn_rap_hull_seams) [] [])) [(.t 16)]), S 18 (.bin .shl (.c (.int .i64 1)) (.t 17)), S 19 (.call (.c (.func (.func fn_rap_upTo) [] [])) [(.t 18)]), S 20 (.mkF (.func fn_rap_Fewest_2) [] [(.t 6)]), S 21 (.build [.nilf] [(0, 1, (.t 20))]), S 22 (.call (.c (.func (.func fn_rap_best_int) [] [])) [(.t 19), (.t 21)]), S 15 (.mv (.t 22)), S 23 (.ext (.t 15) 0), S 24 (.ext (.t 15) 1), S 25 (.ext (.t 15) 2), S 7 (.mv (.t 23)), S 8 (.mv (.t 24)), S 9 (.mv (.t 25))]
@[simp] noncomputable def r5 (_ : Unit) : List Stp := [S 26 (.mv (.t 9)), S 27 (.call (.c (.func (.func fn_rap_want) [] [])) [(.t 26), (.c (.int .i64 4))])]
@[simp] noncomputable def r6 (_ : Unit) : List Stp := [S 28 (.mv (.t 8)), S 29 (.mv (.t 7)), S 2 (.mv (.t 28)), S 3 (.mv (.t 29)), SN (.store 1 (.t 4) (.c (.int .i64 0)))]
@[simp] noncomputable def ir : IR := (.seq (.ops r0) (.seq (.ops r1) (.seq (.ops r2) (.seq (.ops r3) (.seq (.ops r4) (.seq (.ops r5) (.seq (.ops r6) .ret)))))))
@[simp] noncomputable def rs : List RV := [.tmp 2, .tmp 3, .cell 4 false 1]
theorem comp : compF Pg cfg Tryz.f23 = some (ir, rs, 30) := by kernel_rfl
theorem enter {args : List AVal} {h : Heap} {K : AEnd → Heap → Prop} (F : Nat) (hl : args.length ≤ 30) (a : AW ⟨Pg, F, 30, false, [2, 3, 4]⟩ ir (RetD Pg rs K) (initT args) [] h) : ACalls Pg fn_rap_Fewest args h K :=
  ACalls.of_comp_defer follows Tryz.func23 comp hl a
theorem pure {args : List AVal} {v : AVal} (hl : args.length ≤ 30) (a : AW ⟨Pg, 0, 30, false, [2, 3, 4]⟩ ir (RetD Pg rs fun e _ => e = .ret v) (initT args) [] nilH) : APure Pg fn_rap_Fewest args v :=
  APure.of_nil (enter 0 hl a)
end rap_Fewest


namespace rap_Next
noncomputable def cfg : Cfg := { pure := pures, pcs := [], raw := [], cuts := [], draws := [], keep := [2, 3, 4] }
@[simp] noncomputable def r0 (_ : Unit) : List Stp := [S 1 (.box (.t 0)), S 2 (.mv (.c (.int .i64 0))), S 3 (.mv (.c (.int .i64 0))), S 4 (.alloc [(.int .i64 0)])]
@[simp] noncomputable def r1 (_ : Unit) : List Stp := [S 10 (.mkF (.func fn_rap_Next_1) [] [(.t 4)]), SN (.defer (.t 10) [])]
@[simp] noncomputable def r2 (_ : Unit) : List Stp := [S 11 (.load true 4 (.t 1)), S 12 (.call (.c (.func (.func fn_rap_open) [] [])) [(.t 11), (.c (.bool true))]), S 5 (.mv (.t 12))]
@[simp] noncomputable def r3 (_ : Unit) : List Stp := [S 13 (.mv (.t 5)), S 14 (.call (.c (.func (.func fn_rap_hull_can) [] [])) [(.t 13)]), S 6 (.alloc [.nils]), SN (.store 1 (.t 6) (.t 14))]
@[simp] noncomputable def r4 (_ : Unit) : List Stp := [S 15 (.load false 1 (.t 6)), S 16 (.len (.t 15)), S 17 (.bin .gtr (.t 16) (.c (.int .i64 1))), S 18 (.call (.c (.func (.func fn_rap_want) [] [])) [(.t 17), (.c (.int .i64 11))])]
@[simp] noncomputable def r5 (_ : Unit) : List Stp := [S 20 (.mv (.t 5)), SP 21 (.call (.c (.func (.func fn_rap_hull_seams) [] [])) [(.t 20)]), S 22 (.call (.c (.func (.func fn_rap_upTo) [] [])) [(.t 21)]), S 23 (.mkF (.func fn_rap_Next_2) [] [(.t 6)]), S 24 (.build [.nilf] [(0, 1, (.t 23))]), S 25 (.call (.c (.func (.func fn_rap_best_int) [] [])) [(.t 22), (.t 24)]), S 19 (.mv (.t 25)), S 26 (.ext (.t 19) 0), S 27 (.ext (.t 19) 1), S 28 (.ext (.t 19) 2), S 7 (.mv (.t 26)), S 8 (.mv (.t 27)), S 9 (.mv (.t 28))]
@[simp] noncomputable def r6 (_ : Unit) : List Stp := [S 29 (.mv (.t 9)), S 30 (.call (.c (.func (.func fn_rap_want) [] [])) [(.t 29), (.c (.int .i64 4))])]
@[simp] noncomputable def r7 (_ : Unit) : List Stp := [S 31 (.mv (.t 7)), S 32 (.mv (.t 8)), S 2 (.mv (.t 31)), S 3 (.mv (.t 32)), SN (.store 1 (.t 4) (.c (.int .i64 0)))]
@[simp] noncomputable def ir : IR := (.seq (.ops r0) (.seq (.ops r1) (.seq (.ops r2) (.seq (.ops r3) (.seq (.ops r4) (.seq (.ops r5) (.seq (.ops r6) (.seq (.ops r7) .ret))))))))
@[simp] noncomputable def rs : List RV := [.tmp 2, .tmp 3, .cell 4 false 1]
theorem comp : compF Pg cfg Tryz.f25 = some (ir, rs, 33) := by kernel_rfl
theorem enter {args : List AVal} {h : Heap} {K : AEnd → Heap → Prop} (F : Nat) (hl : args.length ≤ 33) (a : AW ⟨Pg, F, 33, false, [2, 3, 4]⟩ ir (RetD Pg rs K) (initT args) [] h) : ACalls Pg fn_rap_Next args h K :=
  ACalls.of_comp_defer follows Tryz.func25 comp hl a
theorem pure {args : List AVal} {v : AVal} (hl : args.length ≤ 33) (a : AW ⟨Pg, 0, 33, false, [2, 3, 4]⟩ ir (RetD Pg rs fun e _ => e = .ret v) (initT args) [] nilH) : APure Pg fn_rap_Next args v :=
  APure.of_nil (enter 0 hl a)
end rap_Next


namespace rap_Wrong
noncomputable def cfg : Cfg := { pure := pures, pcs := [], raw := [], cuts := [], draws := [], keep := [2, 3] }
@[simp] noncomputable def r0 (_ : Unit) : List Stp := [S 1 (.box (.t 0)), S 2 (.mv (.c (.int .i64 0))), S 3 (.alloc [(.int .i64 0)])]
@[simp] noncomputable def r1 (_ : Unit) : List Stp := [S 9 (.mkF (.func fn_rap_Wrong_1) [] [(.t 3)]), SN (.defer (.t 9) [])]
@[simp] noncomputable def r2 (_ : Unit) : List Stp := [S 10 (.load true 4 (.t 1)), S 11 (.call (.c (.func (.func fn_rap_open) [] [])) [(.t 10), (.c (.bool true))]), S 4 (.alloc [.nilp]), SN (.store 1 (.t 4) (.t 11))]
@[simp] noncomputable def r3 (_ : Unit) : List Stp := [S 12 (.load false 1 (.t 4)), S 13 (.call (.c (.func (.func fn_rap_hull_sounds) [] [])) [(.t 12)]), S 5 (.alloc [.nils]), SN (.store 1 (.t 5) (.t 13))]
@[simp] noncomputable def r4 (_ : Unit) : List Stp := [S 15 (.fAddr 3 (.t 1)), S 16 (.load false 1 (.t 15)), S 17 (.len (.t 16)), S 18 (.bin .shl (.c (.int .i64 1)) (.t 17)), S 19 (.call (.c (.func (.func fn_rap_upTo) [] [])) [(.t 18)]), S 20 (.mkF (.func fn_rap_Wrong_2) [] [(.t 4), (.t 5)]), S 21 (.build [.nilf] [(0, 1, (.t 20))]), S 22 (.call (.c (.func (.func fn_rap_best_int) [] [])) [(.t 19), (.t 21)]), S 14 (.mv (.t 22)), S 23 (.ext (.t 14) 0), S 24 (.ext (.t 14) 1), S 25 (.ext (.t 14) 2), S 6 (.mv (.t 23)), S 7 (.mv (.t 24)), S 8 (.mv (.t 25))]
@[simp] noncomputable def r5 (_ : Unit) : List Stp := [S 26 (.mv (.t 8)), S 27 (.mv (.t 26)), SG 28 27 true (.mv (.t 6)), SG 29 27 true (.bin .neq (.t 28) (.c (.int .i64 0))), S 30 (.pick (.t 27) (.t 29) (.c (.bool false))), S 31 (.call (.c (.func (.func fn_rap_want) [] [])) [(.t 30), (.c (.int .i64 4))])]
@[simp] noncomputable def r6 (_ : Unit) : List Stp := [S 32 (.mv (.t 6)), S 2 (.mv (.t 32)), SN (.store 1 (.t 3) (.c (.int .i64 0)))]
@[simp] noncomputable def ir : IR := (.seq (.ops r0) (.seq (.ops r1) (.seq (.ops r2) (.seq (.ops r3) (.seq (.ops r4) (.seq (.ops r5) (.seq (.ops r6) .ret)))))))
@[simp] noncomputable def rs : List RV := [.tmp 2, .cell 3 false 1]
theorem comp : compF Pg cfg Tryz.f27 = some (ir, rs, 33) := by kernel_rfl
theorem enter {args : List AVal} {h : Heap} {K : AEnd → Heap → Prop} (F : Nat) (hl : args.length ≤ 33) (a : AW ⟨Pg, F, 33, false, [2, 3]⟩ ir (RetD Pg rs K) (initT args) [] h) : ACalls Pg fn_rap_Wrong args h K :=
  ACalls.of_comp_defer follows Tryz.func27 comp hl a
theorem pure {args : List AVal} {v : AVal} (hl : args.length ≤ 33) (a : AW ⟨Pg, 0, 33, false, [2, 3]⟩ ir (RetD Pg rs fun e _ => e = .ret v) (initT args) [] nilH) : APure Pg fn_rap_Wrong args v :=
  APure.of_nil (enter 0 hl a)
end rap_Wrong


namespace ref13_Rap
noncomputable def cfg : Cfg := { pure := pures, pcs := [], raw := [], cuts := [], draws := [(6, [⟨0, false, [], []⟩, ⟨2, false, [], []⟩, ⟨4, false, [], []⟩, ⟨1, false, [], []⟩, ⟨3, false, [], []⟩, ⟨5, false, [], []⟩, ⟨6, false, [], []⟩, ⟨7, false, [], []⟩, ⟨8, false, [], []⟩, ⟨9, false, [], []⟩])], keep := [] }
@[simp] noncomputable def r0 (_ : Unit) : List Stp := [S 1 (.box (.t 0)), S 2 (.mv (.c (.bool false)))]
@[simp] noncomputable def r1 (_ : Unit) : List Stp := [S 4 (.fAddr 0 (.t 1)), S 5 (.load true 3 (.t 4)), SP 6 (.call (.c (.func (.func fn_ref05_Drive) [] [])) [(.t 5)]), S 7 (.un .not (.t 6)), S 8 (.mv (.t 7)), SG 9 8 false (.fAddr 3 (.t 1)), SG 10 8 false (.load false 1 (.t 9)), SG 11 8 false (.len (.t 10)), SG 12 8 false (.bin .gtr (.t 11) (.c (.int .i64 10))), S 13 (.pick (.t 8) (.c (.bool true)) (.t 12))]
@[simp] noncomputable def r2 (_ : Unit) : List Stp := [S 2 (.mv (.c (.bool false)))]
@[simp] noncomputable def r3 (_ : Unit) : List Stp := [S 3 (.mv (.c (.int .i64 0)))]
@[simp] noncomputable def r4 (_ : Unit) : List Stp := [S 14 (.mv (.t 3)), S 15 (.fAddr 3 (.t 1)), S 16 (.load false 1 (.t 15)), S 17 (.len (.t 16)), S 18 (.bin .lss (.t 14) (.t 17))]
@[simp] noncomputable def r6 (_ : Unit) : List Stp := [S 21 (.fAddr 0 (.t 1)), S 23 (.fAddr 3 (.t 1)), S 25 (.mv (.t 3)), S 22 (.load true 3 (.t 21)), S 24 (.load false 1 (.t 23)), S 26 (.ixS 2 (.t 24) (.t 25)), S 27 (.fAddr 0 (.t 26)), S 28 (.load false 1 (.t 27)), SP 29 (.call (.c (.func (.func fn_ref05_Seam) [] [])) [(.t 22), (.t 28)]), S 30 (.un .not (.t 29))]
@[simp] noncomputable def r7 (_ : Unit) : List Stp := [S 2 (.mv (.c (.bool false)))]
@[simp] noncomputable def r5 (_ : Unit) : List Stp := [S 19 (.mv (.t 3)), S 20 (.bin .add (.t 19) (.c (.int .i64 1))), S 3 (.mv (.t 20))]
@[simp] noncomputable def r8 (_ : Unit) : List Stp := [S 2 (.mv (.c (.bool true)))]
@[simp] noncomputable def ir : IR := (.seq (.ops r0) (.seq (.seq (.ops r1) (.cond (.t 13) (.seq (.ops r2) .ret) .skip)) (.seq (.seq (.ops r3) (.block 0 (.loop (.seq (.seq (.ops r4) (.cond (.t 18) .skip (.exit 0))) (.seq (.block 1 (.seq (.ops r6) (.cond (.t 30) (.seq (.ops r7) .ret) .skip))) (.ops r5)))))) (.seq (.ops r8) .ret))))
@[simp] noncomputable def rs : List RV := [.tmp 2]
theorem comp : compF Pg cfg Tryz.f29 = some (ir, rs, 31) := by kernel_rfl
theorem enter {args : List AVal} {h : Heap} {K : AEnd → Heap → Prop} (F : Nat) (hl : args.length ≤ 31) (a : AW ⟨Pg, F, 31, false, []⟩ ir (RetK rs K) (initT args) [] h) : ACalls Pg fn_ref13_Rap args h K :=
  ACalls.of_comp follows Tryz.func29 comp hl a
theorem pure {args : List AVal} {v : AVal} (hl : args.length ≤ 31) (a : AW ⟨Pg, 0, 31, false, []⟩ ir (RetK rs fun e _ => e = .ret v) (initT args) [] nilH) : APure Pg fn_ref13_Rap args v :=
  APure.of_nil (enter 0 hl a)
end ref13_Rap


namespace drive_Settle
noncomputable def cfg : Cfg := { pure := pures, pcs := [], raw := [], cuts := [], draws := [(2, [⟨2, false, [], []⟩, ⟨0, false, [], []⟩, ⟨1, false, [], []⟩, ⟨3, false, [], []⟩, ⟨4, false, [], []⟩, ⟨5, false, [], []⟩])], keep := [4, 5, 6] }
@[simp] noncomputable def r0 (_ : Unit) : List Stp := [S 2 (.box (.t 0)), S 4 (.mv (.c .nils)), S 5 (.mv (.c .nils)), S 6 (.alloc [(.int .i64 0)])]
@[simp] noncomputable def r1 (_ : Unit) : List Stp := [S 9 (.mkF (.func fn_drive_Settle_1) [] [(.t 6)]), SN (.defer (.t 9) [])]
@[simp] noncomputable def r2 (_ : Unit) : List Stp := [S 12 (.mv (.t 1)), S 10 (.load true 3 (.t 2)), S 11 (.load true 3 (.t 2)), SP 13 (.call (.c (.func (.func fn_drive_areBlows) [] [])) [(.t 11), (.t 12)]), S 14 (.call (.c (.func (.func fn_drive_open) [] [])) [(.t 10), (.t 13)]), S 7 (.mv (.t 14))]
@[simp] noncomputable def r3 (_ : Unit) : List Stp := [S 15 (.mv (.t 7)), S 16 (.call (.c (.func (.func fn_drive_hull_settler) [] [])) [(.t 15)]), S 17 (.mv (.t 1)), SP 18 (.call (.c (.func (.func fn_drive_blowsOf) [] [])) [(.t 17)]), S 19 (.call (.c (.func (.func fn_drive_settler_rest) [] [])) [(.t 16), (.t 18)]), S 8 (.alloc [(.int .i64 0), (.int .i64 0), (.int .i64 0), (.int .i64 0), (.int .i64 0), (.int .i64 0), (.int .i64 0), (.int .i64 0), (.int .i64 0), (.int .i64 0), (.int .i64 0), (.int .i64 0)]), SN (.store 12 (.t 8) (.t 19))]
@[simp] noncomputable def r4 (_ : Unit) : List Stp := [S 20 (.fAddr 0 (.t 8)), S 21 (.mv (.t 7)), SP 22 (.call (.c (.func (.func fn_drive_hull_seams) [] [])) [(.t 21)]), S 23 (.slA 6 1 (.t 20) none (some (.t 22)) none), S 24 (.call (.c (.func (.func fn_slices_Clone_int_int) [] [])) [(.t 23)]), S 25 (.fAddr 6 (.t 8)), S 26 (.mv (.t 7)), SP 27 (.call (.c (.func (.func fn_drive_hull_seams) [] [])) [(.t 26)]), S 28 (.slA 6 1 (.t 25) none (some (.t 27)) none), S 29 (.call (.c (.func (.func fn_slices_Clone_int_int) [] [])) [(.t 28)]), S 4 (.mv (.t 24)), S 5 (.mv (.t 29)), SN (.store 1 (.t 6) (.c (.int .i64 0)))]
@[simp] noncomputable def ir : IR := (.seq (.ops r0) (.seq (.ops r1) (.seq (.ops r2) (.seq (.ops r3) (.seq (.ops r4) .ret)))))
@[simp] noncomputable def rs : List RV := [.tmp 4, .tmp 5, .cell 6 false 1]
theorem comp : compF Pg cfg Tryz.f31 = some (ir, rs, 30) := by kernel_rfl
theorem enter {args : List AVal} {h : Heap} {K : AEnd → Heap → Prop} (F : Nat) (hl : args.length ≤ 30) (a : AW ⟨Pg, F, 30, false, [4, 5, 6]⟩ ir (RetD Pg rs K) (initT args) [] h) : ACalls Pg fn_drive_Settle args h K :=
  ACalls.of_comp_defer follows Tryz.func31 comp hl a
theorem pure {args : List AVal} {v : AVal} (hl : args.length ≤ 30) (a : AW ⟨Pg, 0, 30, false, [4, 5, 6]⟩ ir (RetD Pg rs fun e _ => e = .ret v) (initT args) [] nilH) : APure Pg fn_drive_Settle args v :=
  APure.of_nil (enter 0 hl a)
end drive_Settle


namespace law13_find
noncomputable def cfg : Cfg := { pure := pures, pcs := [], raw := [], cuts := [], draws := [], keep := [] }
@[simp] noncomputable def r0 (_ : Unit) : List Stp := [S 4 (.alloc [(.int .i64 0), (.bool false)])]
@[simp] noncomputable def r1 (_ : Unit) : List Stp := [S 5 (.mv (.t 0)), S 6 (.mv (.t 1)), S 7 (.build [(.int .i64 0), (.bool false)] [(0, 1, (.t 5)), (1, 1, (.t 6))]), SN (.store 2 (.t 4) (.t 7))]
@[simp] noncomputable def ir : IR := (.seq (.ops r0) (.seq (.ops r1) .ret))
@[simp] noncomputable def rs : List RV := [.cell 4 true 2]
theorem comp : compF Pg cfg Tryz.f33 = some (ir, rs, 8) := by kernel_rfl
theorem enter {args : List AVal} {h : Heap} {K : AEnd → Heap → Prop} (F : Nat) (hl : args.length ≤ 8) (a : AW ⟨Pg, F, 8, false, []⟩ ir (RetK rs K) (initT args) [] h) : ACalls Pg fn_law13_find args h K :=
  ACalls.of_comp follows Tryz.func33 comp hl a
theorem pure {args : List AVal} {v : AVal} (hl : args.length ≤ 8) (a : AW ⟨Pg, 0, 8, false, []⟩ ir (RetK rs fun e _ => e = .ret v) (initT args) [] nilH) : APure Pg fn_law13_find args v :=
  APure.of_nil (enter 0 hl a)
end law13_find







namespace drive_Opens
noncomputable def cfg : Cfg := { pure := pures, pcs := [], raw := [], cuts := [], draws := [(3, [⟨0, false, [], []⟩, ⟨1, false, [], []⟩, ⟨2, false, [], []⟩, ⟨3, false, [], []⟩, ⟨4, false, [], []⟩, ⟨5, false, [], []⟩, ⟨6, false, [], []⟩, ⟨7, false, [], []⟩, ⟨8, false, [], []⟩])], keep := [2, 3, 4] }
@[simp] noncomputable def r0 (_ : Unit) : List Stp := [S 1 (.box (.t 0)), S 2 (.mv (.c (.int .i64 0))), S 3 (.mv (.c (.int .i64 0))), S 4 (.alloc [(.int .i64 0)])]
@[simp] noncomputable def r1 (_ : Unit) : List Stp := [S 7 (.mkF (.func fn_drive_Opens_1) [] [(.t 4)]), SN (.defer (.t 7) [])]
@[simp] noncomputable def r2 (_ : Unit) : List Stp := [S 9 (.load true 3 (.t 1)), S 10 (.call (.c (.func (.func fn_drive_open) [] [])) [(.t 9), (.c (.bool true))]), SP 11 (.call (.c (.func (.func fn_drive_hull_times) [] [])) [(.t 10)]), S 8 (.mv (.t 11)), S 12 (.ext (.t 8) 0), S 13 (.ext (.t 8) 1), S 5 (.alloc [(.int .i64 0), (.int .i64 0), (.int .i64 0), (.int .i64 0), (.int .i64 0), (.int .i64 0)]), S 6 (.alloc [(.int .i64 0), (.int .i64 0), (.int .i64 0), (.int .i64 0), (.int .i64 0), (.int .i64 0)]), SN (.store 6 (.t 5) (.t 12)), SN (.store 6 (.t 6) (.t 13))]
@[simp] noncomputable def r3 (_ : Unit) : List Stp := [S 14 (.load true 6 (.t 6)), S 15 (.build [(.int .i64 0), (.int .i64 0), (.int .i64 0), (.int .i64 0), (.int .i64 0), (.int .i64 0), (.int .i64 0), (.int .i64 0), (.int .i64 0), (.int .i64 0), (.int .i64 0), (.int .i64 0)] [(6, 6, (.t 14))]), SP 16 (.call (.c (.func (.func fn_drive_rest_open) [] [])) [(.t 15)]), S 17 (.load true 6 (.t 5)), S 18 (.build [(.int .i64 0), (.int .i64 0), (.int .i64 0), (.int .i64 0), (.int .i64 0), (.int .i64 0), (.int .i64 0), (.int .i64 0), (.int .i64 0), (.int .i64 0), (.int .i64 0), (.int .i64 0)] [(6, 6, (.t 17))]), SP 19 (.call (.c (.func (.func fn_drive_rest_open) [] [])) [(.t 18)]), S 2 (.mv (.t 16)), S 3 (.mv (.t 19)), SN (.store 1 (.t 4) (.c (.int .i64 0)))]
@[simp] noncomputable def ir : IR := (.seq (.ops r0) (.seq (.ops r1) (.seq (.ops r2) (.seq (.nk (.ops r3)) .ret))))
@[simp] noncomputable def rs : List RV := [.tmp 2, .tmp 3, .cell 4 false 1]
theorem comp : compF Pg cfg Tryz.f40 = some (ir, rs, 20) := by kernel_rfl
theorem enter {args : List AVal} {h : Heap} {K : AEnd → Heap → Prop} (F : Nat) (hl : args.length ≤ 20) (a : AW ⟨Pg, F, 20, false, [2, 3, 4]⟩ ir (RetD Pg rs K) (initT args) [] h) : ACalls Pg fn_drive_Opens args h K :=
  ACalls.of_comp_defer follows Tryz.func40 comp hl a
theorem pure {args : List AVal} {v : AVal} (hl : args.length ≤ 20) (a : AW ⟨Pg, 0, 20, false, [2, 3, 4]⟩ ir (RetD Pg rs fun e _ => e = .ret v) (initT args) [] nilH) : APure Pg fn_drive_Opens args v :=
  APure.of_nil (enter 0 hl a)
end drive_Opens

namespace law13_sample
noncomputable def cfg : Cfg := { pure := pures, pcs := [], raw := [], cuts := [], draws := [], keep := [] }
@[simp] noncomputable def r0 (_ : Unit) : List Stp := [S 2 (.alloc [.nils, .nils, .nils, .nils])]
@[simp] noncomputable def r1 (_ : Unit) : List Stp := [S 3 (.bsl 4 [(.int .i64 0), (.int .i64 0), (.int .i64 0), (.int .i64 0)] [(0, 1, (.c (.int .i64 3))), (1, 1, (.c (.int .i64 3))), (2, 1, (.c (.int .i64 3))), (3, 1, (.c (.int .i64 3)))]), S 4 (.build [(.int .i64 0), (.int .i64 0)] [(0, 1, (.c (.int .i64 0))), (1, 1, (.c (.int .i64 1)))]), S 5 (.build [(.int .i64 0), (.int .i64 0)] [(0, 1, (.c (.int .i64 1))), (1, 1, (.c (.int .i64 2)))]), S 6 (.build [(.int .i64 0), (.int .i64 0)] [(0, 1, (.c (.int .i64 2))), (1, 1, (.c (.int .i64 3)))]), S 7 (.bsl 3 [(.int .i64 0), (.int .i64 0), (.int .i64 0), (.int .i64 0), (.int .i64 0), (.int .i64 0)] [(0, 2, (.t 4)), (2, 2, (.t 5)), (4, 2, (.t 6))]), SP 8 (.call (.c (.func (.func fn_law13_span) [] [])) [(.c (.int .i64 2)), (.c (.int .i64 3))]), SP 9 (.call (.c (.func (.func fn_law13_span) [] [])) [(.c (.int .i64 0)), (.c (.int .i64 0))]), SP 10 (.call (.c (.func (.func fn_law13_span) [] [])) [(.c (.int .i64 0)), (.c (.int .i64 0))]), SP 11 (.call (.c (.func (.func fn_law13_span) [] [])) [(.c (.int .i64 1)), (.c (.int .i64 3))]), S 12 (.bsl 4 [(.int .i64 0), (.int .i64 0), (.int .i64 0), (.int .i64 0), (.int .i64 0), (.int .i64 0), (.int .i64 0), (.int .i64 0)] [(0, 2, (.t 8)), (2, 2, (.t 9)), (4, 2, (.t 10)), (6, 2, (.t 11))]), S 13 (.build [.nils, .nils, .nils] [(0, 1, (.t 3)), (1, 1, (.t 7)), (2, 1, (.t 12))]), S 14 (.mv (.t 0)), S 15 (.build [.nils, .nils, .nils, .nils] [(0, 3, (.t 13)), (3, 1, (.t 14))]), SN (.store 4 (.t 2) (.t 15))]
@[simp] noncomputable def ir : IR := (.seq (.ops r0) (.seq (.ops r1) .ret))
@[simp] noncomputable def rs : List RV := [.cell 2 true 4]
theorem comp : compF Pg cfg Tryz.f41 = some (ir, rs, 16) := by kernel_rfl
theorem enter {args : List AVal} {h : Heap} {K : AEnd → Heap → Prop} (F : Nat) (hl : args.length ≤ 16) (a : AW ⟨Pg, F, 16, false, []⟩ ir (RetK rs K) (initT args) [] h) : ACalls Pg fn_law13_sample args h K :=
  ACalls.of_comp follows Tryz.func41 comp hl a
theorem pure {args : List AVal} {v : AVal} (hl : args.length ≤ 16) (a : AW ⟨Pg, 0, 16, false, []⟩ ir (RetK rs fun e _ => e = .ret v) (initT args) [] nilH) : APure Pg fn_law13_sample args v :=
  APure.of_nil (enter 0 hl a)
end law13_sample

namespace rap_Dull_1
noncomputable def cfg : Cfg := { pure := pures, pcs := [], raw := [], cuts := [], draws := [], keep := [] }
@[simp] noncomputable def r0 (_ : Unit) : List Stp := [S 1 (.recov), S 2 (.call (.c (.func (.func fn_rap_said) [] [])) [(.t 1), (.t 0)])]
@[simp] noncomputable def ir : IR := (.ops r0)
@[simp] noncomputable def rs : List RV := []
theorem comp : compF Pg cfg Tryz.f42 = some (ir, rs, 3) := by kernel_rfl
theorem enter {args : List AVal} {h : Heap} {K : AEnd → Heap → Prop} (F : Nat) (hl : args.length ≤ 3) (a : AW ⟨Pg, F, 3, false, []⟩ ir (RetK rs K) (initT args) [] h) : ACalls Pg fn_rap_Dull_1 args h K :=
  ACalls.of_comp follows Tryz.func42 comp hl a
theorem pure {args : List AVal} {v : AVal} (hl : args.length ≤ 3) (a : AW ⟨Pg, 0, 3, false, []⟩ ir (RetK rs fun e _ => e = .ret v) (initT args) [] nilH) : APure Pg fn_rap_Dull_1 args v :=
  APure.of_nil (enter 0 hl a)
theorem recClo : RecClo Pg fn_rap_Dull_1 fn_rap_said := ⟨_, Tryz.func42, by kernel_rfl⟩
end rap_Dull_1

namespace rap_said
noncomputable def cfg : Cfg := { pure := pures, pcs := [], raw := [], cuts := [], draws := [], keep := [] }
@[simp] noncomputable def r0 (_ : Unit) : List Stp := [S 6 (.mv (.t 0)), S 7 (.eqN .i false (.t 6))]
@[simp] noncomputable def r1 (_ : Unit) : List Stp := [S 9 (.mv (.t 0)), S 10 (.tyAs 120 true (.agg [(.int .i64 0)]) (.t 9)), S 8 (.mv (.t 10)), S 11 (.ext (.t 8) 0), S 12 (.ext (.t 8) 1), S 4 (.alloc [(.int .i64 0)]), SN (.store 1 (.t 4) (.t 11)), S 5 (.mv (.t 12))]
@[simp] noncomputable def r2 (_ : Unit) : List Stp := [S 13 (.mv (.t 5)), S 14 (.un .not (.t 13))]
@[simp] noncomputable def r3 (_ : Unit) : List Stp := [S 15 (.mv (.t 0)), SN (.panic (.t 15))]
@[simp] noncomputable def r4 (_ : Unit) : List Stp := [S 16 (.mv (.t 1)), S 17 (.fAddr 0 (.t 4)), S 18 (.load false 1 (.t 17)), S 19 (.nilck Pg (.t 16)), SN (.store 1 (.t 19) (.t 18))]
@[simp] noncomputable def ir : IR := (.seq (.seq (.ops r0) (.cond (.t 7) .ret .skip)) (.seq (.ops r1) (.seq (.seq (.ops r2) (.cond (.t 14) (.ops r3) .skip)) (.ops r4))))
@[simp] noncomputable def rs : List RV := []
theorem comp : compF Pg cfg Tryz.f43 = some (ir, rs, 20) := by kernel_rfl
theorem enter {args : List AVal} {h : Heap} {K : AEnd → Heap → Prop} (F : Nat) (hl : args.length ≤ 20) (a : AW ⟨Pg, F, 20, false, []⟩ ir (RetK rs K) (initT args) [] h) : ACalls Pg fn_rap_said args h K :=
  ACalls.of_comp follows Tryz.func43 comp hl a
theorem pure {args : List AVal} {v : AVal} (hl : args.length ≤ 20) (a : AW ⟨Pg, 0, 20, false, []⟩ ir (RetK rs fun e _ => e = .ret v) (initT args) [] nilH) : APure Pg fn_rap_said args v :=
  APure.of_nil (enter 0 hl a)
end rap_said

namespace rap_open
noncomputable def cfg : Cfg := { pure := pures, pcs := [], raw := [], cuts := [], draws := [(13, [⟨0, false, [], []⟩, ⟨1, false, [], []⟩, ⟨2, false, [], []⟩, ⟨3, false, [], []⟩, ⟨4, false, [], []⟩, ⟨5, false, [], []⟩, ⟨6, false, [], []⟩, ⟨7, false, [], []⟩]), (18, [⟨0, false, [], []⟩, ⟨1, false, [], []⟩, ⟨3, false, [], []⟩, ⟨4, false, [], []⟩, ⟨6, false, [], []⟩, ⟨7, false, [], []⟩, ⟨9, false, [], []⟩, ⟨10, false, [], []⟩, ⟨13, false, [], []⟩, ⟨18, false, [], []⟩, ⟨19, false, [], []⟩, ⟨21, false, [], []⟩, ⟨22, false, [], []⟩, ⟨25, false, [], []⟩, ⟨30, false, [], []⟩, ⟨31, false, [], []⟩, ⟨34, false, [], []⟩, ⟨35, false, [], []⟩, ⟨2, false, [], []⟩, ⟨5, false, [], []⟩, ⟨8, false, [], []⟩, ⟨11, false, [], []⟩, ⟨12, false, [], []⟩, ⟨14, false, [], []⟩, ⟨15, false, [], []⟩, ⟨20, false, [], []⟩, ⟨23, false, [], []⟩, ⟨24, false, [], []⟩, ⟨26, false, [], []⟩, ⟨27, false, [], []⟩, ⟨16, true, [], []⟩, ⟨17, false, [28], [2, 5, 20, 24, 26]⟩, ⟨28, true, [], []⟩, ⟨29, false, [], [2, 5]⟩, ⟨32, false, [], []⟩, ⟨33, false, [], [5]⟩, ⟨36, false, [], []⟩, ⟨37, false, [], []⟩])], keep := [] }
@[simp] noncomputable def r0 (_ : Unit) : List Stp := [S 2 (.box (.t 0)), S 4 (.mv (.c .nilp))]
@[simp] noncomputable def r1 (_ : Unit) : List Stp := [S 14 (.fAddr 0 (.t 2)), S 15 (.load true 3 (.t 14)), SP 16 (.call (.c (.func (.func fn_drive_Times) [] [])) [(.t 15), (.c (.int .i64 (-1)))]), S 13 (.mv (.t 16)), S 17 (.ext (.t 13) 0), S 18 (.ext (.t 13) 1), S 5 (.alloc [(.int .i64 0), (.int .i64 0)]), SN (.store 2 (.t 5) (.t 17)), S 6 (.mv (.t 18))]
@[simp] noncomputable def r2 (_ : Unit) : List Stp := [S 19 (.mv (.t 6)), S 20 (.bin .eql (.t 19) (.c (.int .i64 2))), S 21 (.mv (.t 20)), SG 22 21 true (.fAddr 3 (.t 2)), SG 23 21 true (.load false 1 (.t 22)), SG 24 21 true (.len (.t 23)), SG 25 21 true (.bin .leq (.t 24) (.c (.int .i64 10))), S 26 (.pick (.t 21) (.t 25) (.c (.bool false))), S 27 (.call (.c (.func (.func fn_rap_want) [] [])) [(.t 26), (.c (.int .i64 1))])]
@[simp] noncomputable def r3 (_ : Unit) : List Stp := [S 28 (.fAddr 3 (.t 2)), S 29 (.load false 1 (.t 28)), S 30 (.len (.t 29)), S 31 (.mv (.c (.int .i64 0)))]
@[simp] noncomputable def r4 (_ : Unit) : List Stp := [S 32 (.bin .lss (.t 31) (.t 30))]
@[simp] noncomputable def r5 (_ : Unit) : List Stp := [S 33 (.ixS 2 (.t 29) (.t 31)), S 34 (.load true 2 (.t 33)), S 8 (.alloc [(.int .i64 0), (.bool false)]), SN (.store 2 (.t 8) (.t 34))]
@[simp] noncomputable def r6 (_ : Unit) : List Stp := [S 35 (.fAddr 0 (.t 8)), S 36 (.load false 1 (.t 35)), S 37 (.fAddr 0 (.t 2)), S 38 (.fAddr 0 (.t 37)), S 39 (.load false 1 (.t 38)), S 40 (.len (.t 39)), S 41 (.bin .sub (.t 40) (.c (.int .i64 1))), SP 42 (.call (.c (.func (.func fn_rap_within) [] [])) [(.t 36), (.c (.int .i64 0)), (.t 41)]), S 43 (.call (.c (.func (.func fn_rap_want) [] [])) [(.t 42), (.c (.int .i64 1))])]
@[simp] noncomputable def r7 (_ : Unit) : List Stp := [S 44 (.bin .add (.t 31) (.c (.int .i64 1))), S 31 (.mv (.t 44))]
@[simp] noncomputable def r8 (_ : Unit) : List Stp := [S 45 (.mv (.t 1)), S 46 (.call (.c (.func (.func fn_rap_want) [] [])) [(.t 45), (.c (.int .i64 2))])]
@[simp] noncomputable def r9 (_ : Unit) : List Stp := [S 47 (.load true 4 (.t 2)), S 48 (.build [.nils, .nils, .nils, .nils, (.int .u64 0), (.int .u64 0), (.int .u64 0), (.int .u64 0), (.int .u64 0), (.int .u64 0)] [(0, 4, (.t 47))]), S 49 (.box (.t 48)), S 9 (.mv (.t 49))]
@[simp] noncomputable def r10 (_ : Unit) : List Stp := [S 50 (.fAddr 0 (.t 2)), S 51 (.fAddr 0 (.t 50)), S 52 (.load false 1 (.t 51)), S 53 (.len (.t 52)), S 54 (.mv (.c (.int .i64 0)))]
@[simp] noncomputable def r11 (_ : Unit) : List Stp := [S 55 (.bin .lss (.t 54) (.t 53))]
@[simp] noncomputable def r12 (_ : Unit) : List Stp := [S 56 (.mv (.t 54)), S 10 (.mv (.t 56))]
@[simp] noncomputable def r13 (_ : Unit) : List Stp := [S 57 (.mv (.t 9)), S 58 (.mv (.t 10)), S 59 (.mv (.t 10)), S 60 (.bin .shl (.c (.int .u64 1)) (.t 59)), S 61 (.nilck Pg (.t 57)), S 62 (.fAddr 4 (.t 61)), S 63 (.ixA 6 1 (.t 62) (.t 58)), SN (.store 1 (.t 63) (.t 60))]
@[simp] noncomputable def r14 (_ : Unit) : List Stp := [S 64 (.bin .add (.t 54) (.c (.int .i64 1))), S 54 (.mv (.t 64))]
@[simp] noncomputable def r15 (_ : Unit) : List Stp := [S 65 (.fAddr 0 (.t 2)), S 66 (.fAddr 1 (.t 65)), S 67 (.load false 1 (.t 66)), S 68 (.len (.t 67)), S 69 (.mv (.c (.int .i64 0)))]
@[simp] noncomputable def r16 (_ : Unit) : List Stp := [S 70 (.bin .lss (.t 69) (.t 68))]
@[simp] noncomputable def r17 (_ : Unit) : List Stp := [S 71 (.ixS 2 (.t 67) (.t 69)), S 72 (.load true 2 (.t 71)), S 12 (.alloc [(.int .i64 0), (.int .i64 0)]), SN (.store 2 (.t 12) (.t 72))]
@[simp] noncomputable def r18 (_ : Unit) : List Stp := [S 73 (.mv (.t 9)), S 74 (.ixA 2 1 (.t 12) (.c (.int .i64 0))), S 76 (.mv (.t 9)), S 77 (.ixA 2 1 (.t 12) (.c (.int .i64 1))), S 79 (.mv (.t 9)), S 80 (.ixA 2 1 (.t 12) (.c (.int .i64 0))), S 82 (.nilck Pg (.t 79)), S 83 (.fAddr 4 (.t 82)), S 86 (.ixA 2 1 (.t 12) (.c (.int .i64 1))), S 91 (.mv (.t 9)), S 92 (.ixA 2 1 (.t 12) (.c (.int .i64 1))), S 94 (.nilck Pg (.t 91)), S 95 (.fAddr 4 (.t 94)), S 98 (.ixA 2 1 (.t 12) (.c (.int .i64 0))), S 103 (.nilck Pg (.t 73)), S 104 (.fAddr 4 (.t 103)), S 106 (.nilck Pg (.t 76)), S 107 (.fAddr 4 (.t 106)), S 75 (.load false 1 (.t 74)), S 78 (.load false 1 (.t 77)), S 81 (.load false 1 (.t 80)), S 84 (.ixA 6 1 (.t 83) (.t 81)), S 85 (.load false 1 (.t 84)), S 87 (.load false 1 (.t 86)), S 88 (.bin .shl (.c (.int .u64 1)) (.t 87)), S 93 (.load false 1 (.t 92)), S 96 (.ixA 6 1 (.t 95) (.t 93)), S 97 (.load false 1 (.t 96)), S 99 (.load false 1 (.t 98)), S 100 (.bin .shl (.c (.int .u64 1)) (.t 99)), SD (some 89) (.bsl 2 [(.int .u64 0), (.int .u64 0)] [(0, 1, (.t 85)), (1, 1, (.t 88))]) true [] [], SD (some 90) (.call (.c (.func (.func fn_rap_union) [] [])) [(.t 89)]) false [I 101 (.bsl 2 [(.int .u64 0), (.int .u64 0)] [(0, 1, (.t 97)), (1, 1, (.t 100))])] [I 75 (.load false 1 (.t 74)), I 78 (.load false 1 (.t 77)), I 93 (.load false 1 (.t 92)), I 97 (.load false 1 (.t 96)), I 99 (.load false 1 (.t 98))], SD (some 101) (.bsl 2 [(.int .u64 0), (.int .u64 0)] [(0, 1, (.t 97)), (1, 1, (.t 100))]) true [] [], SD (some 102) (.call (.c (.func (.func fn_rap_union) [] [])) [(.t 101)]) false [] [I 75 (.load false 1 (.t 74)), I 78 (.load false 1 (.t 77))], S 105 (.ixA 6 1 (.t 104) (.t 75)), SD none (.store 1 (.t 105) (.t 90)) false [] [I 78 (.load false 1 (.t 77))], S 108 (.ixA 6 1 (.t 107) (.t 78)), SN (.store 1 (.t 108) (.t 102))]
@[simp] noncomputable def r19 (_ : Unit) : List Stp := [S 109 (.bin .add (.t 69) (.c (.int .i64 1))), S 69 (.mv (.t 109))]
@[simp] noncomputable def r20 (_ : Unit) : List Stp := [S 110 (.mv (.t 9)), S 4 (.mv (.t 110))]
@[simp] noncomputable def ir : IR := (.seq (.ops r0) (.seq (.ops r1) (.seq (.ops r2) (.seq (.seq (.ops r3) (.block 0 (.loop (.seq (.ops r4) (.seq (.cond (.t 32) .skip (.exit 0)) (.seq (.block 1 (.seq (.ops r5) (.ops r6))) (.ops r7))))))) (.seq (.ops r8) (.seq (.ops r9) (.seq (.seq (.ops r10) (.block 2 (.loop (.seq (.ops r11) (.seq (.cond (.t 55) .skip (.exit 2)) (.seq (.block 3 (.seq (.ops r12) (.ops r13))) (.ops r14))))))) (.seq (.seq (.ops r15) (.block 4 (.loop (.seq (.ops r16) (.seq (.cond (.t 70) .skip (.exit 4)) (.seq (.block 5 (.seq (.ops r17) (.ops r18))) (.ops r19))))))) (.seq (.ops r20) .ret)))))))))
@[simp] noncomputable def rs : List RV := [.tmp 4]
theorem comp : compF Pg cfg Tryz.f44 = some (ir, rs, 111) := by kernel_rfl
theorem enter {args : List AVal} {h : Heap} {K : AEnd → Heap → Prop} (F : Nat) (hl : args.length ≤ 111) (a : AW ⟨Pg, F, 111, false, []⟩ ir (RetK rs K) (initT args) [] h) : ACalls Pg fn_rap_open args h K :=
  ACalls.of_comp follows Tryz.func44 comp hl a
theorem pure {args : List AVal} {v : AVal} (hl : args.length ≤ 111) (a : AW ⟨Pg, 0, 111, false, []⟩ ir (RetK rs fun e _ => e = .ret v) (initT args) [] nilH) : APure Pg fn_rap_open args v :=
  APure.of_nil (enter 0 hl a)
end rap_open

namespace rap_around_dull
noncomputable def cfg : Cfg := { pure := pures, pcs := [], raw := [], cuts := [], draws := [], keep := [] }
@[simp] noncomputable def r0 (_ : Unit) : List Stp := [S 2 (.box (.t 0)), S 4 (.mv (.c (.int .u64 0)))]
@[simp] noncomputable def r1 (_ : Unit) : List Stp := [S 7 (.load true 6 (.t 2)), S 8 (.mv (.c (.int .i64 0)))]
@[simp] noncomputable def r2 (_ : Unit) : List Stp := [S 9 (.bin .lss (.t 8) (.c (.int .i64 6)))]
@[simp] noncomputable def r3 (_ : Unit) : List Stp := [S 10 (.mv (.t 8)), S 11 (.ixV 6 1 false (.t 7) (.t 8)), S 5 (.mv (.t 10)), S 6 (.mv (.t 11))]
@[simp] noncomputable def r4 (_ : Unit) : List Stp := [S 12 (.mv (.t 6)), S 13 (.mv (.t 1)), S 14 (.bin .and (.t 12) (.t 13)), S 15 (.bin .neq (.t 14) (.c (.int .u64 0)))]
@[simp] noncomputable def r5 (_ : Unit) : List Stp := [S 16 (.mv (.t 4)), S 17 (.mv (.t 5)), S 18 (.bin .shl (.c (.int .u64 1)) (.t 17)), S 19 (.bsl 2 [(.int .u64 0), (.int .u64 0)] [(0, 1, (.t 16)), (1, 1, (.t 18))]), S 20 (.call (.c (.func (.func fn_rap_union) [] [])) [(.t 19)]), S 4 (.mv (.t 20))]
@[simp] noncomputable def r6 (_ : Unit) : List Stp := [S 21 (.bin .add (.t 8) (.c (.int .i64 1))), S 8 (.mv (.t 21))]
@[simp] noncomputable def r7 (_ : Unit) : List Stp := [S 22 (.mv (.t 4)), S 4 (.mv (.t 22))]
@[simp] noncomputable def ir : IR := (.seq (.ops r0) (.seq (.seq (.ops r1) (.block 0 (.loop (.seq (.ops r2) (.seq (.cond (.t 9) .skip (.exit 0)) (.seq (.block 1 (.seq (.ops r3) (.seq (.ops r4) (.cond (.t 15) (.ops r5) .skip)))) (.ops r6))))))) (.seq (.ops r7) .ret)))
@[simp] noncomputable def rs : List RV := [.tmp 4]
theorem comp : compF Pg cfg Tryz.f45 = some (ir, rs, 23) := by kernel_rfl
theorem enter {args : List AVal} {h : Heap} {K : AEnd → Heap → Prop} (F : Nat) (hl : args.length ≤ 23) (a : AW ⟨Pg, F, 23, false, []⟩ ir (RetK rs K) (initT args) [] h) : ACalls Pg fn_rap_around_dull args h K :=
  ACalls.of_comp follows Tryz.func45 comp hl a
theorem pure {args : List AVal} {v : AVal} (hl : args.length ≤ 23) (a : AW ⟨Pg, 0, 23, false, []⟩ ir (RetK rs fun e _ => e = .ret v) (initT args) [] nilH) : APure Pg fn_rap_around_dull args v :=
  APure.of_nil (enter 0 hl a)
end rap_around_dull

namespace ref13_in
noncomputable def cfg : Cfg := { pure := pures, pcs := [], raw := [], cuts := [], draws := [], keep := [] }
@[simp] noncomputable def r0 (_ : Unit) : List Stp := [S 6 (.mv (.c (.bool false)))]
@[simp] noncomputable def r1 (_ : Unit) : List Stp := [S 7 (.mv (.t 1)), S 8 (.mv (.t 0)), S 9 (.bin .leq (.t 7) (.t 8)), S 10 (.mv (.t 9)), SG 11 10 true (.mv (.t 0)), SG 12 10 true (.mv (.t 2)), SG 13 10 true (.bin .leq (.t 11) (.t 12)), S 14 (.pick (.t 10) (.t 13) (.c (.bool false))), S 6 (.mv (.t 14))]
@[simp] noncomputable def ir : IR := (.seq (.ops r0) (.seq (.ops r1) .ret))
@[simp] noncomputable def rs : List RV := [.tmp 6]
theorem comp : compF Pg cfg Tryz.f46 = some (ir, rs, 15) := by kernel_rfl
theorem enter {args : List AVal} {h : Heap} {K : AEnd → Heap → Prop} (F : Nat) (hl : args.length ≤ 15) (a : AW ⟨Pg, F, 15, false, []⟩ ir (RetK rs K) (initT args) [] h) : ACalls Pg fn_ref13_in args h K :=
  ACalls.of_comp follows Tryz.func46 comp hl a
theorem pure {args : List AVal} {v : AVal} (hl : args.length ≤ 15) (a : AW ⟨Pg, 0, 15, false, []⟩ ir (RetK rs fun e _ => e = .ret v) (initT args) [] nilH) : APure Pg fn_ref13_in args v :=
  APure.of_nil (enter 0 hl a)
end ref13_in



namespace rap_Sets_1
noncomputable def cfg : Cfg := { pure := pures, pcs := [], raw := [], cuts := [], draws := [], keep := [] }
@[simp] noncomputable def r0 (_ : Unit) : List Stp := [S 1 (.recov), S 2 (.call (.c (.func (.func fn_rap_said) [] [])) [(.t 1), (.t 0)])]
@[simp] noncomputable def ir : IR := (.ops r0)
@[simp] noncomputable def rs : List RV := []
theorem comp : compF Pg cfg Tryz.f49 = some (ir, rs, 3) := by kernel_rfl
theorem enter {args : List AVal} {h : Heap} {K : AEnd → Heap → Prop} (F : Nat) (hl : args.length ≤ 3) (a : AW ⟨Pg, F, 3, false, []⟩ ir (RetK rs K) (initT args) [] h) : ACalls Pg fn_rap_Sets_1 args h K :=
  ACalls.of_comp follows Tryz.func49 comp hl a
theorem pure {args : List AVal} {v : AVal} (hl : args.length ≤ 3) (a : AW ⟨Pg, 0, 3, false, []⟩ ir (RetK rs fun e _ => e = .ret v) (initT args) [] nilH) : APure Pg fn_rap_Sets_1 args v :=
  APure.of_nil (enter 0 hl a)
theorem recClo : RecClo Pg fn_rap_Sets_1 fn_rap_said := ⟨_, Tryz.func49, by kernel_rfl⟩
end rap_Sets_1

namespace rap_hull_can
noncomputable def cfg : Cfg := { pure := pures, pcs := [], raw := [], cuts := [], draws := [], keep := [] }
@[simp] noncomputable def r0 (_ : Unit) : List Stp := [S 2 (.mv (.c .nils))]
@[simp] noncomputable def r1 (_ : Unit) : List Stp := [S 4 (.mv (.t 0)), S 5 (.mv (.t 0)), S 6 (.call (.c (.func (.func fn_rap_hull_sounds) [] [])) [(.t 5)]), S 7 (.mv (.t 0)), SP 8 (.call (.c (.func (.func fn_rap_hull_every) [] [])) [(.t 7)]), S 9 (.call (.c (.func (.func fn_rap_hull_heard) [] [])) [(.t 4), (.t 6), (.t 8)]), S 3 (.mv (.t 9))]
@[simp] noncomputable def r2 (_ : Unit) : List Stp := [S 10 (.mv (.t 3)), S 11 (.len (.t 10)), S 12 (.bin .gtr (.t 11) (.c (.int .i64 0))), S 13 (.call (.c (.func (.func fn_rap_want) [] [])) [(.t 12), (.c (.int .i64 10))])]
@[simp] noncomputable def r3 (_ : Unit) : List Stp := [S 14 (.mv (.t 3)), S 2 (.mv (.t 14))]
@[simp] noncomputable def ir : IR := (.seq (.ops r0) (.seq (.ops r1) (.seq (.ops r2) (.seq (.ops r3) .ret))))
@[simp] noncomputable def rs : List RV := [.tmp 2]
theorem comp : compF Pg cfg Tryz.f50 = some (ir, rs, 15) := by kernel_rfl
theorem enter {args : List AVal} {h : Heap} {K : AEnd → Heap → Prop} (F : Nat) (hl : args.length ≤ 15) (a : AW ⟨Pg, F, 15, false, []⟩ ir (RetK rs K) (initT args) [] h) : ACalls Pg fn_rap_hull_can args h K :=
  ACalls.of_comp follows Tryz.func50 comp hl a
theorem pure {args : List AVal} {v : AVal} (hl : args.length ≤ 15) (a : AW ⟨Pg, 0, 15, false, []⟩ ir (RetK rs fun e _ => e = .ret v) (initT args) [] nilH) : APure Pg fn_rap_hull_can args v :=
  APure.of_nil (enter 0 hl a)
end rap_hull_can

end Go.Cw
end
