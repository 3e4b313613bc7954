/-
  The program's functions in the small form.
-/
import Derived.Test.YtggclbdfeaaapaaGreatAd
import Derived.Test.YtggclbdfeaaapaaGreatProg
set_option linter.unusedVariables false
set_option linter.unusedSimpArgs false
set_option linter.unusedSectionVars false

/- The functions' numbers. Printed by a program of this seat's proofs. -/
section
namespace Go.Cw
open Go Go.Proofs

@[reducible] noncomputable def Pg : Program := Tryz.prog
theorem follows : Pg.follows .mixedOrders = true := by kernel_rfl
def fn_main_main : FuncId := 0
def fn_gosem_cut : FuncId := 1
def fn_gosem_cut_init : FuncId := 2
def fn_law13_RapTells : FuncId := 3
def fn_law13_RapWrongs : FuncId := 4
def fn_law13_RapTrue : FuncId := 5
def fn_law13_RapDull : FuncId := 6
def fn_law13_RapFewest : FuncId := 7
def fn_law13_RapNext : FuncId := 8
def fn_law13_RapWrong : FuncId := 9
def fn_law13_RapTurned : FuncId := 10
def fn_law13_RapSets : FuncId := 11
def fn_law13_long : FuncId := 12
def fn_law13_alive : FuncId := 13
def fn_rap_Dull : FuncId := 14
def fn_ref13_Dull : FuncId := 15
def fn_rap_Sets : FuncId := 16
def fn_ref13_Sets : FuncId := 17
def fn_rap_Open : FuncId := 18
def fn_ref13_Open : FuncId := 19
def fn_law13_ints : FuncId := 20
def fn_rap_Sound : FuncId := 21
def fn_ref13_Sound : FuncId := 22
def fn_rap_Fewest : FuncId := 23
def fn_ref13_Fewest : FuncId := 24
def fn_rap_Next : FuncId := 25
def fn_ref13_Next : FuncId := 26
def fn_rap_Wrong : FuncId := 27
def fn_ref13_Wrong : FuncId := 28
def fn_ref13_Rap : FuncId := 29
def fn_law13_draws : FuncId := 30
def fn_drive_Settle : FuncId := 31
def fn_law13_opened : FuncId := 32
def fn_law13_find : FuncId := 33
def fn_law13_hears : FuncId := 34
def fn_law13_RapFewest_1 : FuncId := 35
def fn_ref13_Size : FuncId := 36
def fn_law13_RapNext_1 : FuncId := 37
def fn_law13_RapWrong_1 : FuncId := 38
def fn_law13_RapSets_1 : FuncId := 39
def fn_drive_Opens : FuncId := 40
def fn_law13_sample : FuncId := 41
def fn_rap_Dull_1 : FuncId := 42
def fn_rap_said : FuncId := 43
def fn_rap_open : FuncId := 44
def fn_rap_around_dull : FuncId := 45
def fn_ref13_in : FuncId := 46
def fn_ref13_power : FuncId := 47
def fn_ref13_Hears : FuncId := 48
def fn_rap_Sets_1 : FuncId := 49
def fn_rap_hull_can : FuncId := 50
def fn_ref13_heard : FuncId := 51
def fn_ref13_opened : FuncId := 52
def fn_ref13_every : FuncId := 53
def fn_rap_Open_1 : FuncId := 54
def fn_rap_union : FuncId := 55
def fn_ref13_Has : FuncId := 56
def fn_ref13_Ints : FuncId := 57
def fn_rap_Sound_1 : FuncId := 58
def fn_rap_Fewest_1 : FuncId := 59
def fn_rap_best_int : FuncId := 60
def fn_rap_upTo : FuncId := 61
def fn_rap_hull_seams : FuncId := 62
def fn_rap_Fewest_2 : FuncId := 63
def fn_math_bits_OnesCount : FuncId := 64
def fn_slices_ContainsFunc_rap_sound_rap_sound : FuncId := 65
def fn_rap_Fewest_2_1 : FuncId := 66
def fn_rap_want : FuncId := 67
def fn_ref13_shows : FuncId := 68
def fn_rap_Next_1 : FuncId := 69
def fn_rap_Next_2 : FuncId := 70
def fn_rap_set_has : FuncId := 71
def fn_rap_within : FuncId := 72
def fn_rap_Wrong_1 : FuncId := 73
def fn_rap_hull_sounds : FuncId := 74
def fn_rap_Wrong_2 : FuncId := 75
def fn_rap_hull_heard : FuncId := 76
def fn_rap_hull_every : FuncId := 77
def fn_ref05_Drive : FuncId := 78
def fn_ref05_Seam : FuncId := 79
def fn_law13_draws_1 : FuncId := 80
def fn_drive_Settle_1 : FuncId := 81
def fn_drive_said : FuncId := 82
def fn_drive_open : FuncId := 83
def fn_drive_areBlows : FuncId := 84
def fn_drive_hull_settler : FuncId := 85
def fn_drive_settler_rest : FuncId := 86
def fn_drive_blowsOf : FuncId := 87
def fn_slices_Clone_int_int : FuncId := 88
def fn_drive_hull_seams : FuncId := 89
def fn_drive_Opens_1 : FuncId := 90
def fn_drive_hull_times : FuncId := 91
def fn_drive_rest_open : FuncId := 92
def fn_law13_span : FuncId := 93
def fn_drive_Times : FuncId := 94
def fn_ref05_Truths : FuncId := 95
def fn_ref05_Rest : FuncId := 96
def fn_rap_set_with : FuncId := 97
def fn_ref05_Ints : FuncId := 98
def fn_math_bits_OnesCount32 : FuncId := 99
def fn_math_bits_OnesCount64 : FuncId := 100
def fn_slices_IndexFunc_rap_sound_rap_sound : FuncId := 101
def fn_rap_hull_blows : FuncId := 102
def fn_slices_SortFunc_rap_sound_rap_sound : FuncId := 103
def fn_rap_hull_sounds_1 : FuncId := 104
def fn_rap_hull_ears : FuncId := 105
def fn_ref05_in : FuncId := 106
def fn_ref05_Beside : FuncId := 107
def fn_drive_want : FuncId := 108
def fn_drive_within : FuncId := 109
def fn_drive_isSeam : FuncId := 110
def fn_slices_Contains_2_int_2_int : FuncId := 111
def fn_drive_areBlows_1 : FuncId := 112
def fn_slices_ContainsFunc_int_int : FuncId := 113
def fn_drive_hull_opened : FuncId := 114
def fn_drive_blows_with : FuncId := 115
def fn_drive_hull_ends : FuncId := 116
def fn_drive_setOf : FuncId := 117
def fn_drive_Times_1 : FuncId := 118
def fn_ref05_truths : FuncId := 119
def fn_ref05_run : FuncId := 120
def fn_ref05_rising : FuncId := 121
def fn_rap_hull_blows_1 : FuncId := 122
def fn_rap_hull_blows_1_1 : FuncId := 123
def fn_slices_pdqsortCmpFunc_rap_sound : FuncId := 124
def fn_math_bits_Len : FuncId := 125
def fn_slices_Index_2_int_2_int : FuncId := 126
def fn_slices_IndexFunc_int_int : FuncId := 127
def fn_ref05_open : FuncId := 128
def fn_slices_insertionSortCmpFunc_rap_sound : FuncId := 129
def fn_slices_heapSortCmpFunc_rap_sound : FuncId := 130
def fn_slices_breakPatternsCmpFunc_rap_sound : FuncId := 131
def fn_slices_choosePivotCmpFunc_rap_sound : FuncId := 132
def fn_slices_reverseRangeCmpFunc_rap_sound : FuncId := 133
def fn_slices_partialInsertionSortCmpFunc_rap_sound : FuncId := 134
def fn_slices_partitionEqualCmpFunc_rap_sound : FuncId := 135
def fn_slices_partitionCmpFunc_rap_sound : FuncId := 136
def fn_math_bits_Len32 : FuncId := 137
def fn_math_bits_Len64 : FuncId := 138
def fn_slices_siftDownCmpFunc_rap_sound : FuncId := 139
def fn_slices_nextPowerOfTwo : FuncId := 140
def fn_slices_xorshift_Next : FuncId := 141
def fn_slices_medianAdjacentCmpFunc_rap_sound : FuncId := 142
def fn_slices_medianCmpFunc_rap_sound : FuncId := 143
def fn_slices_order2CmpFunc_rap_sound : FuncId := 144
def fn_runtime_boundsError_Error : FuncId := 145
def fn_runtime_boundsError_RuntimeError : FuncId := 146
def fn_runtime_errorString_Error : FuncId := 147
def fn_runtime_errorString_RuntimeError : FuncId := 148
def fn_runtime_plainError_Error : FuncId := 149
def fn_runtime_plainError_RuntimeError : FuncId := 150
def fn_runtime_errorAddressString_Error : FuncId := 151
def fn_runtime_errorAddressString_RuntimeError : FuncId := 152
def fn_runtime_TypeAssertionError_Error : FuncId := 153
def fn_runtime_TypeAssertionError_RuntimeError : FuncId := 154
def fn_runtime_PanicNilError_Error : FuncId := 155
def fn_runtime_PanicNilError_RuntimeError : FuncId := 156
def fn_abi_Type_Align : FuncId := 157
def fn_runtime_maps_unhashableTypeError_Error : FuncId := 158
def fn_runtime_maps_unhashableTypeError_RuntimeError : FuncId := 159
def fn_rap_nothing_hears : FuncId := 160
def fn_rap_knock_hears : FuncId := 161
def fn_abi_Kind_String : FuncId := 162
def pures : List Nat := [12, 13, 14, 15, 16, 17, 18, 19, 20, 21, 22, 23, 24, 25, 26, 27, 28, 29, 32, 33, 34, 36, 40, 45, 46, 47, 48, 51, 52, 53, 56, 57, 62, 64, 68, 71, 72, 77, 78, 79, 84, 87, 89, 91, 92, 93, 94, 95, 96, 97, 98, 99, 100, 106, 107, 109, 110, 111, 112, 113, 114, 115, 116, 120, 121, 126, 127, 128, 160, 161]

end Go.Cw
end

/- Functions in the small form. Printed by a program of this seat's proofs. -/
section
namespace Go.Cw
open Go Go.Proofs





namespace law13_RapFewest
noncomputable def cfg : Cfg := { pure := pures, pcs := [], raw := [], cuts := [], draws := [], keep := [] }
@[simp] noncomputable def r0 (_ : Unit) : List Stp := [S 2 (.box (.t 0)), S 4 (.mv (.c (.bool false)))]
@[simp] noncomputable def r1 (_ : Unit) : List Stp := [S 15 (.load true 4 (.t 2)), SP 16 (.call (.c (.func (.func fn_law13_long) [] [])) [(.t 15)]), S 17 (.mv (.t 16)), SG 18 17 false (.load true 4 (.t 2)), SGP 19 17 false (.call (.c (.func (.func fn_ref13_Rap) [] [])) [(.t 18)]), SG 20 17 false (.un .not (.t 19)), S 21 (.pick (.t 17) (.c (.bool true)) (.t 20)), S 22 (.mv (.t 21)), SG 23 22 false (.fAddr 3 (.t 2)), SG 24 22 false (.load false 1 (.t 23)), SG 25 22 false (.len (.t 24)), SG 26 22 false (.bin .gtr (.t 25) (.c (.int .i64 4))), S 27 (.pick (.t 22) (.c (.bool true)) (.t 26))]
@[simp] noncomputable def r2 (_ : Unit) : List Stp := [SP 28 (.call (.c (.func (.func fn_law13_alive) [] [])) []), S 4 (.mv (.t 28))]
@[simp] noncomputable def r3 (_ : Unit) : List Stp := [S 30 (.load true 4 (.t 2)), SP 31 (.call (.c (.func (.func fn_rap_Fewest) [] [])) [(.t 30)]), S 29 (.mv (.t 31)), S 32 (.ext (.t 29) 0), S 33 (.ext (.t 29) 1), S 34 (.ext (.t 29) 2), S 5 (.mv (.t 32)), S 6 (.mv (.t 33)), S 7 (.mv (.t 34))]
@[simp] noncomputable def r4 (_ : Unit) : List Stp := [S 35 (.mv (.t 7)), S 36 (.bin .neq (.t 35) (.c (.int .i64 0)))]
@[simp] noncomputable def r5 (_ : Unit) : List Stp := [S 38 (.load true 4 (.t 2)), SP 39 (.call (.c (.func (.func fn_rap_Sets) [] [])) [(.t 38)]), S 37 (.mv (.t 39)), S 40 (.ext (.t 37) 0), S 41 (.ext (.t 37) 1), S 8 (.mv (.t 40)), S 9 (.mv (.t 41))]
@[simp] noncomputable def r6 (_ : Unit) : List Stp := [S 42 (.mv (.t 7)), S 43 (.bin .eql (.t 42) (.c (.int .i64 10))), S 44 (.mv (.t 43)), SG 45 44 true (.mv (.t 9)), SG 46 44 true (.mv (.t 7)), SG 47 44 true (.bin .eql (.t 45) (.t 46)), S 48 (.pick (.t 44) (.t 47) (.c (.bool false))), S 49 (.mv (.t 48)), SG 50 49 true (.mv (.t 5)), SG 51 49 true (.bin .eql (.t 50) (.c (.int .i64 0))), S 52 (.pick (.t 49) (.t 51) (.c (.bool false))), S 53 (.mv (.t 52)), SG 54 53 true (.mv (.t 6)), SG 55 53 true (.bin .eql (.t 54) (.c (.int .i64 0))), S 56 (.pick (.t 53) (.t 55) (.c (.bool false))), S 57 (.mv (.t 56)), SGP 58 57 true (.call (.c (.func (.func fn_law13_alive) [] [])) []), S 59 (.pick (.t 57) (.t 58) (.c (.bool false))), S 4 (.mv (.t 59))]
@[simp] noncomputable def r7 (_ : Unit) : List Stp := [S 60 (.fAddr 0 (.t 2)), S 61 (.fAddr 0 (.t 60)), S 62 (.load false 1 (.t 61)), S 63 (.len (.t 62)), S 64 (.bin .shl (.c (.int .i64 1)) (.t 63)), S 65 (.bin .sub (.t 64) (.c (.int .i64 1))), S 10 (.mv (.t 65))]
@[simp] noncomputable def r8 (_ : Unit) : List Stp := [S 66 (.mkF (.func fn_law13_RapFewest_1) [] [(.t 2)]), S 11 (.mv (.t 66))]
@[simp] noncomputable def r9 (_ : Unit) : List Stp := [S 67 (.mv (.t 6)), S 68 (.bin .lss (.t 67) (.c (.int .i64 0))), S 69 (.mv (.t 68)), SG 70 69 false (.mv (.t 6)), SG 71 69 false (.mv (.t 10)), SG 72 69 false (.bin .gtr (.t 70) (.t 71)), S 73 (.pick (.t 69) (.c (.bool true)) (.t 72)), S 74 (.mv (.t 73)), SG 75 74 false (.mv (.t 5)), SG 76 74 false (.mv (.t 6)), SGP 77 74 false (.call (.c (.func (.func fn_ref13_Size) [] [])) [(.t 76)]), SG 78 74 false (.bin .neq (.t 75) (.t 77)), S 79 (.pick (.t 74) (.c (.bool true)) (.t 78)), S 80 (.mv (.t 79)), SG 81 80 false (.mv (.t 11)), SG 82 80 false (.mv (.t 6)), SG 83 80 false (.call (.t 81) [(.t 82)]), SG 84 80 false (.un .not (.t 83)), S 85 (.pick (.t 80) (.c (.bool true)) (.t 84))]
@[simp] noncomputable def r10 (_ : Unit) : List Stp := [S 4 (.mv (.c (.bool false)))]
@[simp] noncomputable def r11 (_ : Unit) : List Stp := [S 86 (.fAddr 0 (.t 2)), S 87 (.fAddr 0 (.t 86)), S 88 (.load false 1 (.t 87)), S 89 (.len (.t 88)), S 90 (.mv (.c (.int .i64 0)))]
@[simp] noncomputable def r12 (_ : Unit) : List Stp := [S 91 (.bin .lss (.t 90) (.t 89))]
@[simp] noncomputable def r13 (_ : Unit) : List Stp := [S 92 (.mv (.t 90)), S 12 (.mv (.t 92))]
@[simp] noncomputable def r14 (_ : Unit) : List Stp := [S 93 (.mv (.t 6)), S 94 (.mv (.t 12)), S 95 (.bin .shr (.t 93) (.t 94)), S 96 (.bin .and (.t 95) (.c (.int .i64 1))), S 97 (.bin .eql (.t 96) (.c (.int .i64 1))), S 98 (.mv (.t 97)), SG 99 98 true (.mv (.t 11)), SG 100 98 true (.mv (.t 6)), SG 101 98 true (.mv (.t 12)), SG 102 98 true (.bin .shl (.c (.int .i64 1)) (.t 101)), SG 103 98 true (.bin .andNot (.t 100) (.t 102)), SG 104 98 true (.call (.t 99) [(.t 103)]), S 105 (.pick (.t 98) (.t 104) (.c (.bool false)))]
@[simp] noncomputable def r15 (_ : Unit) : List Stp := [S 4 (.mv (.c (.bool false)))]
@[simp] noncomputable def r16 (_ : Unit) : List Stp := [S 106 (.bin .add (.t 90) (.c (.int .i64 1))), S 90 (.mv (.t 106))]
@[simp] noncomputable def r17 (_ : Unit) : List Stp := [S 107 (.mv (.t 1)), S 108 (.conv .i64 (.t 107)), S 109 (.mv (.t 10)), S 110 (.bin .and (.t 108) (.t 109)), S 13 (.mv (.t 110)), S 14 (.mv (.c (.func (.func fn_ref13_Size) [] [])))]
@[simp] noncomputable def r18 (_ : Unit) : List Stp := [S 111 (.mv (.t 11)), S 112 (.mv (.t 13)), S 113 (.call (.t 111) [(.t 112)]), S 114 (.un .not (.t 113)), S 115 (.mv (.t 114)), SG 116 115 false (.mv (.t 14)), SG 117 115 false (.mv (.t 13)), SG 118 115 false (.call (.t 116) [(.t 117)]), SG 119 115 false (.mv (.t 5)), SG 120 115 false (.bin .gtr (.t 118) (.t 119)), S 121 (.pick (.t 115) (.c (.bool true)) (.t 120)), S 122 (.mv (.t 121)), SG 123 122 false (.mv (.t 14)), SG 124 122 false (.mv (.t 13)), SG 125 122 false (.call (.t 123) [(.t 124)]), SG 126 122 false (.mv (.t 5)), SG 127 122 false (.bin .eql (.t 125) (.t 126)), SG 128 122 false (.mv (.t 127)), SG 129 128 true (.mv (.t 13)), SG 130 128 true (.mv (.t 6)), SG 131 128 true (.bin .geq (.t 129) (.t 130)), SG 132 122 false (.pick (.t 128) (.t 131) (.c (.bool false))), S 133 (.pick (.t 122) (.c (.bool true)) (.t 132)), S 134 (.mv (.t 133)), SGP 135 134 true (.call (.c (.func (.func fn_law13_alive) [] [])) []), S 136 (.pick (.t 134) (.t 135) (.c (.bool false))), S 4 (.mv (.t 136))]
@[simp] noncomputable def ir : IR := (.seq (.ops r0) (.seq (.seq (.ops r1) (.cond (.t 27) (.seq (.ops r2) .ret) .skip)) (.seq (.ops r3) (.seq (.seq (.ops r4) (.cond (.t 36) (.seq (.ops r5) (.seq (.ops r6) .ret)) .skip)) (.seq (.ops r7) (.seq (.ops r8) (.seq (.seq (.ops r9) (.cond (.t 85) (.seq (.ops r10) .ret) .skip)) (.seq (.seq (.ops r11) (.block 0 (.loop (.seq (.ops r12) (.seq (.cond (.t 91) .skip (.exit 0)) (.seq (.block 1 (.seq (.ops r13) (.seq (.ops r14) (.cond (.t 105) (.seq (.ops r15) .ret) .skip)))) (.ops r16))))))) (.seq (.ops r17) (.seq (.ops r18) .ret))))))))))
@[simp] noncomputable def rs : List RV := [.tmp 4]
theorem comp : compF Pg cfg Tryz.f7 = some (ir, rs, 137) := by kernel_rfl
theorem enter {args : List AVal} {h : Heap} {K : AEnd → Heap → Prop} (F : Nat) (hl : args.length ≤ 137) (a : AW ⟨Pg, F, 137, false, []⟩ ir (RetK rs K) (initT args) [] h) : ACalls Pg fn_law13_RapFewest args h K :=
  ACalls.of_comp follows Tryz.func7 comp hl a
theorem pure {args : List AVal} {v : AVal} (hl : args.length ≤ 137) (a : AW ⟨Pg, 0, 137, false, []⟩ ir (RetK rs fun e _ => e = .ret v) (initT args) [] nilH) : APure Pg fn_law13_RapFewest args v :=
  APure.of_nil (enter 0 hl a)
end law13_RapFewest

namespace law13_RapNext
noncomputable def cfg : Cfg := { pure := pures, pcs := [], raw := [], cuts := [], draws := [], keep := [] }
@[simp] noncomputable def r0 (_ : Unit) : List Stp := [S 2 (.box (.t 0)), S 4 (.mv (.c (.bool false)))]
@[simp] noncomputable def r1 (_ : Unit) : List Stp := [S 13 (.load true 4 (.t 2)), SP 14 (.call (.c (.func (.func fn_law13_long) [] [])) [(.t 13)]), S 15 (.mv (.t 14)), SG 16 15 false (.load true 4 (.t 2)), SGP 17 15 false (.call (.c (.func (.func fn_ref13_Rap) [] [])) [(.t 16)]), SG 18 15 false (.un .not (.t 17)), S 19 (.pick (.t 15) (.c (.bool true)) (.t 18)), S 20 (.mv (.t 19)), SG 21 20 false (.fAddr 3 (.t 2)), SG 22 20 false (.load false 1 (.t 21)), SG 23 20 false (.len (.t 22)), SG 24 20 false (.bin .geq (.t 23) (.c (.int .i64 10))), S 25 (.pick (.t 20) (.c (.bool true)) (.t 24))]
@[simp] noncomputable def r2 (_ : Unit) : List Stp := [SP 26 (.call (.c (.func (.func fn_law13_alive) [] [])) []), S 4 (.mv (.t 26))]
@[simp] noncomputable def r3 (_ : Unit) : List Stp := [S 28 (.load true 4 (.t 2)), SP 29 (.call (.c (.func (.func fn_rap_Next) [] [])) [(.t 28)]), S 27 (.mv (.t 29)), S 30 (.ext (.t 27) 0), S 31 (.ext (.t 27) 1), S 32 (.ext (.t 27) 2), S 5 (.mv (.t 30)), S 6 (.mv (.t 31)), S 7 (.mv (.t 32))]
@[simp] noncomputable def r4 (_ : Unit) : List Stp := [S 34 (.load true 4 (.t 2)), SP 35 (.call (.c (.func (.func fn_rap_Sets) [] [])) [(.t 34)]), S 33 (.mv (.t 35)), S 36 (.ext (.t 33) 0), S 37 (.ext (.t 33) 1), S 8 (.mv (.t 36)), S 9 (.mv (.t 37))]
@[simp] noncomputable def r5 (_ : Unit) : List Stp := [S 38 (.mv (.t 9)), S 39 (.bin .neq (.t 38) (.c (.int .i64 0)))]
@[simp] noncomputable def r6 (_ : Unit) : List Stp := [S 40 (.mv (.t 7)), S 41 (.mv (.t 9)), S 42 (.bin .eql (.t 40) (.t 41)), S 43 (.mv (.t 42)), SG 44 43 true (.mv (.t 9)), SG 45 43 true (.bin .eql (.t 44) (.c (.int .i64 10))), S 46 (.pick (.t 43) (.t 45) (.c (.bool false))), S 47 (.mv (.t 46)), SG 48 47 true (.mv (.t 5)), SG 49 47 true (.bin .eql (.t 48) (.c (.int .i64 0))), S 50 (.pick (.t 47) (.t 49) (.c (.bool false))), S 51 (.mv (.t 50)), SG 52 51 true (.mv (.t 6)), SG 53 51 true (.bin .eql (.t 52) (.c (.int .i64 0))), S 54 (.pick (.t 51) (.t 53) (.c (.bool false))), S 55 (.mv (.t 54)), SGP 56 55 true (.call (.c (.func (.func fn_law13_alive) [] [])) []), S 57 (.pick (.t 55) (.t 56) (.c (.bool false))), S 4 (.mv (.t 57))]
@[simp] noncomputable def r7 (_ : Unit) : List Stp := [S 58 (.mkF (.func fn_law13_RapNext_1) [] [(.t 2)]), S 10 (.mv (.t 58))]
@[simp] noncomputable def r8 (_ : Unit) : List Stp := [S 59 (.mv (.t 1)), S 60 (.conv .i64 (.t 59)), S 61 (.fAddr 0 (.t 2)), S 62 (.fAddr 0 (.t 61)), S 63 (.load false 1 (.t 62)), S 64 (.len (.t 63)), S 65 (.bin .rem (.t 60) (.t 64)), S 11 (.mv (.t 65))]
@[simp] noncomputable def r9 (_ : Unit) : List Stp := [S 66 (.mv (.t 10)), S 67 (.mv (.t 11)), S 68 (.call (.t 66) [(.t 67)]), S 12 (.mv (.t 68))]
@[simp] noncomputable def r10 (_ : Unit) : List Stp := [S 69 (.mv (.t 12)), S 70 (.bin .lss (.t 69) (.c (.int .i64 1))), S 71 (.mv (.t 70)), SG 72 71 false (.mv (.t 12)), SG 73 71 false (.mv (.t 8)), SG 74 71 false (.len (.t 73)), SG 75 71 false (.bin .gtr (.t 72) (.t 74)), S 76 (.pick (.t 71) (.c (.bool true)) (.t 75)), S 77 (.mv (.t 76)), SG 78 77 false (.mv (.t 7)), SG 79 77 false (.bin .eql (.t 78) (.c (.int .i64 11))), SG 80 77 false (.mv (.t 8)), SG 81 77 false (.len (.t 80)), SG 82 77 false (.bin .eql (.t 81) (.c (.int .i64 1))), SG 83 77 false (.eqB true (.t 79) (.t 82)), S 84 (.pick (.t 77) (.c (.bool true)) (.t 83))]
@[simp] noncomputable def r11 (_ : Unit) : List Stp := [S 4 (.mv (.c (.bool false)))]
@[simp] noncomputable def r12 (_ : Unit) : List Stp := [S 85 (.mv (.t 7)), S 86 (.bin .neq (.t 85) (.c (.int .i64 0)))]
@[simp] noncomputable def r13 (_ : Unit) : List Stp := [S 87 (.mv (.t 7)), S 88 (.bin .eql (.t 87) (.c (.int .i64 11))), S 89 (.mv (.t 88)), SG 90 89 false (.mv (.t 7)), SG 91 89 false (.bin .eql (.t 90) (.c (.int .i64 4))), S 92 (.pick (.t 89) (.c (.bool true)) (.t 91)), S 93 (.mv (.t 92)), SG 94 93 true (.mv (.t 5)), SG 95 93 true (.bin .eql (.t 94) (.c (.int .i64 0))), S 96 (.pick (.t 93) (.t 95) (.c (.bool false))), S 97 (.mv (.t 96)), SG 98 97 true (.mv (.t 6)), SG 99 97 true (.bin .eql (.t 98) (.c (.int .i64 0))), S 100 (.pick (.t 97) (.t 99) (.c (.bool false))), S 101 (.mv (.t 100)), SG 102 101 true (.mv (.t 12)), SG 103 101 true (.mv (.t 8)), SG 104 101 true (.len (.t 103)), SG 105 101 true (.bin .eql (.t 102) (.t 104)), S 106 (.pick (.t 101) (.t 105) (.c (.bool false))), S 107 (.mv (.t 106)), SGP 108 107 true (.call (.c (.func (.func fn_law13_alive) [] [])) []), S 109 (.pick (.t 107) (.t 108) (.c (.bool false))), S 4 (.mv (.t 109))]
@[simp] noncomputable def r14 (_ : Unit) : List Stp := [S 110 (.mv (.t 5)), S 111 (.bin .geq (.t 110) (.c (.int .i64 0))), S 112 (.mv (.t 111)), SG 113 112 true (.mv (.t 5)), SG 114 112 true (.fAddr 0 (.t 2)), SG 115 112 true (.fAddr 0 (.t 114)), SG 116 112 true (.load false 1 (.t 115)), SG 117 112 true (.len (.t 116)), SG 118 112 true (.bin .lss (.t 113) (.t 117)), S 119 (.pick (.t 112) (.t 118) (.c (.bool false))), S 120 (.mv (.t 119)), SG 121 120 true (.mv (.t 6)), SG 122 120 true (.mv (.t 8)), SG 123 120 true (.len (.t 122)), SG 124 120 true (.bin .lss (.t 121) (.t 123)), S 125 (.pick (.t 120) (.t 124) (.c (.bool false))), S 126 (.mv (.t 125)), SG 127 126 true (.mv (.t 10)), SG 128 126 true (.mv (.t 5)), SG 129 126 true (.call (.t 127) [(.t 128)]), SG 130 126 true (.mv (.t 6)), SG 131 126 true (.bin .eql (.t 129) (.t 130)), S 132 (.pick (.t 126) (.t 131) (.c (.bool false))), S 133 (.mv (.t 132)), SG 134 133 true (.mv (.t 12)), SG 135 133 true (.mv (.t 6)), SG 136 133 true (.bin .gtr (.t 134) (.t 135)), SG 137 133 true (.mv (.t 136)), SG 138 137 false (.mv (.t 12)), SG 139 137 false (.mv (.t 6)), SG 140 137 false (.bin .eql (.t 138) (.t 139)), SG 141 137 false (.mv (.t 140)), SG 142 141 true (.mv (.t 11)), SG 143 141 true (.mv (.t 5)), SG 144 141 true (.bin .geq (.t 142) (.t 143)), SG 145 137 false (.pick (.t 141) (.t 144) (.c (.bool false))), SG 146 133 true (.pick (.t 137) (.c (.bool true)) (.t 145)), S 147 (.pick (.t 133) (.t 146) (.c (.bool false))), S 148 (.mv (.t 147)), SGP 149 148 true (.call (.c (.func (.func fn_law13_alive) [] [])) []), S 150 (.pick (.t 148) (.t 149) (.c (.bool false))), S 4 (.mv (.t 150))]
@[simp] noncomputable def ir : IR := (.seq (.ops r0) (.seq (.seq (.ops r1) (.cond (.t 25) (.seq (.ops r2) .ret) .skip)) (.seq (.ops r3) (.seq (.ops r4) (.seq (.seq (.ops r5) (.cond (.t 39) (.seq (.ops r6) .ret) .skip)) (.seq (.ops r7) (.seq (.ops r8) (.seq (.ops r9) (.seq (.seq (.ops r10) (.cond (.t 84) (.seq (.ops r11) .ret) .skip)) (.seq (.seq (.ops r12) (.cond (.t 86) (.seq (.ops r13) .ret) .skip)) (.seq (.ops r14) .ret)))))))))))
@[simp] noncomputable def rs : List RV := [.tmp 4]
theorem comp : compF Pg cfg Tryz.f8 = some (ir, rs, 151) := by kernel_rfl
theorem enter {args : List AVal} {h : Heap} {K : AEnd → Heap → Prop} (F : Nat) (hl : args.length ≤ 151) (a : AW ⟨Pg, F, 151, false, []⟩ ir (RetK rs K) (initT args) [] h) : ACalls Pg fn_law13_RapNext args h K :=
  ACalls.of_comp follows Tryz.func8 comp hl a
theorem pure {args : List AVal} {v : AVal} (hl : args.length ≤ 151) (a : AW ⟨Pg, 0, 151, false, []⟩ ir (RetK rs fun e _ => e = .ret v) (initT args) [] nilH) : APure Pg fn_law13_RapNext args v :=
  APure.of_nil (enter 0 hl a)
end law13_RapNext

namespace law13_RapWrong
noncomputable def cfg : Cfg := { pure := pures, pcs := [], raw := [], cuts := [], draws := [], keep := [] }
@[simp] noncomputable def r0 (_ : Unit) : List Stp := [S 2 (.box (.t 0)), S 4 (.mv (.c (.bool false)))]
@[simp] noncomputable def r1 (_ : Unit) : List Stp := [S 14 (.load true 4 (.t 2)), SP 15 (.call (.c (.func (.func fn_law13_long) [] [])) [(.t 14)])]
@[simp] noncomputable def r2 (_ : Unit) : List Stp := [SP 16 (.call (.c (.func (.func fn_law13_alive) [] [])) []), S 4 (.mv (.t 16))]
@[simp] noncomputable def r3 (_ : Unit) : List Stp := [S 18 (.load true 4 (.t 2)), SP 19 (.call (.c (.func (.func fn_rap_Wrong) [] [])) [(.t 18)]), S 17 (.mv (.t 19)), S 20 (.ext (.t 17) 0), S 21 (.ext (.t 17) 1), S 5 (.mv (.t 20)), S 6 (.mv (.t 21))]
@[simp] noncomputable def r4 (_ : Unit) : List Stp := [S 23 (.load true 4 (.t 2)), SP 24 (.call (.c (.func (.func fn_rap_Sets) [] [])) [(.t 23)]), S 22 (.mv (.t 24)), S 25 (.ext (.t 22) 0), S 26 (.ext (.t 22) 1), S 7 (.mv (.t 25)), S 8 (.mv (.t 26))]
@[simp] noncomputable def r5 (_ : Unit) : List Stp := [S 27 (.load true 4 (.t 2)), SP 28 (.call (.c (.func (.func fn_ref13_Rap) [] [])) [(.t 27)]), S 29 (.un .not (.t 28))]
@[simp] noncomputable def r6 (_ : Unit) : List Stp := [S 30 (.mv (.t 6)), S 31 (.bin .eql (.t 30) (.c (.int .i64 1))), S 32 (.mv (.t 31)), SG 33 32 true (.mv (.t 8)), SG 34 32 true (.mv (.t 6)), SG 35 32 true (.bin .eql (.t 33) (.t 34)), S 36 (.pick (.t 32) (.t 35) (.c (.bool false))), S 37 (.mv (.t 36)), SG 38 37 true (.mv (.t 5)), SG 39 37 true (.bin .eql (.t 38) (.c (.int .i64 0))), S 40 (.pick (.t 37) (.t 39) (.c (.bool false))), S 41 (.mv (.t 40)), SGP 42 41 true (.call (.c (.func (.func fn_law13_alive) [] [])) []), S 43 (.pick (.t 41) (.t 42) (.c (.bool false))), S 4 (.mv (.t 43))]
@[simp] noncomputable def r7 (_ : Unit) : List Stp := [S 44 (.mkF (.func fn_law13_RapWrong_1) [] [(.t 2)]), S 9 (.mv (.t 44))]
@[simp] noncomputable def r8 (_ : Unit) : List Stp := [S 45 (.fAddr 3 (.t 2)), S 46 (.load false 1 (.t 45)), S 47 (.len (.t 46)), S 48 (.bin .shl (.c (.int .i64 1)) (.t 47)), S 49 (.bin .sub (.t 48) (.c (.int .i64 1))), S 10 (.mv (.t 49))]
@[simp] noncomputable def r9 (_ : Unit) : List Stp := [S 50 (.mv (.t 1)), S 51 (.conv .i64 (.t 50)), S 52 (.mv (.t 10)), S 53 (.bin .and (.t 51) (.t 52)), S 11 (.mv (.t 53))]
@[simp] noncomputable def r10 (_ : Unit) : List Stp := [S 54 (.mv (.t 6)), S 55 (.bin .eql (.t 54) (.c (.int .i64 4))), S 56 (.mv (.t 8)), S 57 (.bin .eql (.t 56) (.c (.int .i64 0))), S 58 (.eqB true (.t 55) (.t 57)), S 59 (.mv (.t 58)), SG 60 59 false (.mv (.t 9)), SG 61 59 false (.mv (.t 10)), SG 62 59 false (.call (.t 60) [(.t 61)]), SG 63 59 false (.un .not (.t 62)), S 64 (.pick (.t 59) (.c (.bool true)) (.t 63))]
@[simp] noncomputable def r11 (_ : Unit) : List Stp := [S 4 (.mv (.c (.bool false)))]
@[simp] noncomputable def r12 (_ : Unit) : List Stp := [S 65 (.mv (.t 6)), S 66 (.bin .neq (.t 65) (.c (.int .i64 0)))]
@[simp] noncomputable def r13 (_ : Unit) : List Stp := [S 67 (.mv (.t 6)), S 68 (.bin .eql (.t 67) (.c (.int .i64 4))), S 69 (.mv (.t 68)), SG 70 69 true (.mv (.t 5)), SG 71 69 true (.bin .eql (.t 70) (.c (.int .i64 0))), S 72 (.pick (.t 69) (.t 71) (.c (.bool false))), S 73 (.mv (.t 72)), SG 74 73 true (.mv (.t 9)), SG 75 73 true (.mv (.t 11)), SG 76 73 true (.call (.t 74) [(.t 75)]), S 77 (.pick (.t 73) (.t 76) (.c (.bool false))), S 78 (.mv (.t 77)), SGP 79 78 true (.call (.c (.func (.func fn_law13_alive) [] [])) []), S 80 (.pick (.t 78) (.t 79) (.c (.bool false))), S 4 (.mv (.t 80))]
@[simp] noncomputable def r14 (_ : Unit) : List Stp := [S 81 (.mv (.t 5)), S 82 (.bin .lss (.t 81) (.c (.int .i64 1))), S 83 (.mv (.t 82)), SG 84 83 false (.mv (.t 5)), SG 85 83 false (.mv (.t 10)), SG 86 83 false (.bin .gtr (.t 84) (.t 85)), S 87 (.pick (.t 83) (.c (.bool true)) (.t 86)), S 88 (.mv (.t 87)), SG 89 88 false (.mv (.t 9)), SG 90 88 false (.mv (.t 5)), SG 91 88 false (.call (.t 89) [(.t 90)]), SG 92 88 false (.un .not (.t 91)), S 93 (.pick (.t 88) (.c (.bool true)) (.t 92))]
@[simp] noncomputable def r15 (_ : Unit) : List Stp := [S 4 (.mv (.c (.bool false)))]
@[simp] noncomputable def r16 (_ : Unit) : List Stp := [S 94 (.fAddr 3 (.t 2)), S 95 (.load false 1 (.t 94)), S 96 (.len (.t 95)), S 97 (.mv (.c (.int .i64 0)))]
@[simp] noncomputable def r17 (_ : Unit) : List Stp := [S 98 (.bin .lss (.t 97) (.t 96))]
@[simp] noncomputable def r18 (_ : Unit) : List Stp := [S 99 (.mv (.t 97)), S 12 (.mv (.t 99))]
@[simp] noncomputable def r19 (_ : Unit) : List Stp := [S 100 (.mv (.t 5)), S 101 (.mv (.t 12)), S 102 (.bin .shr (.t 100) (.t 101)), S 103 (.bin .and (.t 102) (.c (.int .i64 1))), S 104 (.bin .eql (.t 103) (.c (.int .i64 1))), S 105 (.mv (.t 104)), SG 106 105 true (.mv (.t 9)), SG 107 105 true (.mv (.t 5)), SG 108 105 true (.mv (.t 12)), SG 109 105 true (.bin .shl (.c (.int .i64 1)) (.t 108)), SG 110 105 true (.bin .andNot (.t 107) (.t 109)), SG 111 105 true (.call (.t 106) [(.t 110)]), S 112 (.pick (.t 105) (.t 111) (.c (.bool false)))]
@[simp] noncomputable def r20 (_ : Unit) : List Stp := [S 4 (.mv (.c (.bool false)))]
@[simp] noncomputable def r21 (_ : Unit) : List Stp := [S 113 (.bin .add (.t 97) (.c (.int .i64 1))), S 97 (.mv (.t 113))]
@[simp] noncomputable def r22 (_ : Unit) : List Stp := [S 13 (.mv (.c (.func (.func fn_ref13_Size) [] [])))]
@[simp] noncomputable def r23 (_ : Unit) : List Stp := [S 114 (.mv (.t 9)), S 115 (.mv (.t 11)), S 116 (.call (.t 114) [(.t 115)]), S 117 (.un .not (.t 116)), S 118 (.mv (.t 117)), SG 119 118 false (.mv (.t 13)), SG 120 118 false (.mv (.t 11)), SG 121 118 false (.call (.t 119) [(.t 120)]), SG 122 118 false (.mv (.t 13)), SG 123 118 false (.mv (.t 5)), SG 124 118 false (.call (.t 122) [(.t 123)]), SG 125 118 false (.bin .gtr (.t 121) (.t 124)), S 126 (.pick (.t 118) (.c (.bool true)) (.t 125)), S 127 (.mv (.t 126)), SG 128 127 false (.mv (.t 13)), SG 129 127 false (.mv (.t 11)), SG 130 127 false (.call (.t 128) [(.t 129)]), SG 131 127 false (.mv (.t 13)), SG 132 127 false (.mv (.t 5)), SG 133 127 false (.call (.t 131) [(.t 132)]), SG 134 127 false (.bin .eql (.t 130) (.t 133)), SG 135 127 false (.mv (.t 134)), SG 136 135 true (.mv (.t 11)), SG 137 135 true (.mv (.t 5)), SG 138 135 true (.bin .geq (.t 136) (.t 137)), SG 139 127 false (.pick (.t 135) (.t 138) (.c (.bool false))), S 140 (.pick (.t 127) (.c (.bool true)) (.t 139)), S 141 (.mv (.t 140)), SGP 142 141 true (.call (.c (.func (.func fn_law13_alive) [] [])) []), S 143 (.pick (.t 141) (.t 142) (.c (.bool false))), S 4 (.mv (.t 143))]
@[simp] noncomputable def ir : IR := (.seq (.ops r0) (.seq (.seq (.ops r1) (.cond (.t 15) (.seq (.ops r2) .ret) .skip)) (.seq (.ops r3) (.seq (.ops r4) (.seq (.seq (.ops r5) (.cond (.t 29) (.seq (.ops r6) .ret) .skip)) (.seq (.ops r7) (.seq (.ops r8) (.seq (.ops r9) (.seq (.seq (.ops r10) (.cond (.t 64) (.seq (.ops r11) .ret) .skip)) (.seq (.seq (.ops r12) (.cond (.t 66) (.seq (.ops r13) .ret) .skip)) (.seq (.seq (.ops r14) (.cond (.t 93) (.seq (.ops r15) .ret) .skip)) (.seq (.seq (.ops r16) (.block 0 (.loop (.seq (.ops r17) (.seq (.cond (.t 98) .skip (.exit 0)) (.seq (.block 1 (.seq (.ops r18) (.seq (.ops r19) (.cond (.t 112) (.seq (.ops r20) .ret) .skip)))) (.ops r21))))))) (.seq (.ops r22) (.seq (.ops r23) .ret))))))))))))))
@[simp] noncomputable def rs : List RV := [.tmp 4]
theorem comp : compF Pg cfg Tryz.f9 = some (ir, rs, 144) := by kernel_rfl
theorem enter {args : List AVal} {h : Heap} {K : AEnd → Heap → Prop} (F : Nat) (hl : args.length ≤ 144) (a : AW ⟨Pg, F, 144, false, []⟩ ir (RetK rs K) (initT args) [] h) : ACalls Pg fn_law13_RapWrong args h K :=
  ACalls.of_comp follows Tryz.func9 comp hl a
theorem pure {args : List AVal} {v : AVal} (hl : args.length ≤ 144) (a : AW ⟨Pg, 0, 144, false, []⟩ ir (RetK rs fun e _ => e = .ret v) (initT args) [] nilH) : APure Pg fn_law13_RapWrong args v :=
  APure.of_nil (enter 0 hl a)
end law13_RapWrong



namespace law13_long
noncomputable def cfg : Cfg := { pure := pures, pcs := [], raw := [], cuts := [], draws := [], keep := [] }
@[simp] noncomputable def r0 (_ : Unit) : List Stp := [S 1 (.box (.t 0)), S 2 (.mv (.c (.bool false)))]
@[simp] noncomputable def r1 (_ : Unit) : List Stp := [S 3 (.fAddr 0 (.t 1)), S 4 (.fAddr 0 (.t 3)), S 5 (.load false 1 (.t 4)), S 6 (.len (.t 5)), S 7 (.fAddr 0 (.t 1)), S 8 (.fAddr 1 (.t 7)), S 9 (.load false 1 (.t 8)), S 10 (.len (.t 9)), S 11 (.fAddr 0 (.t 1)), S 12 (.fAddr 2 (.t 11)), S 13 (.load false 1 (.t 12)), S 14 (.len (.t 13)), S 15 (.fAddr 3 (.t 1)), S 16 (.load false 1 (.t 15)), S 17 (.len (.t 16)), S 18 (.mm true [(.t 6), (.t 10), (.t 14), (.t 17)]), S 19 (.bin .gtr (.t 18) (.c (.int .i64 40))), S 2 (.mv (.t 19))]
@[simp] noncomputable def ir : IR := (.seq (.ops r0) (.seq (.ops r1) .ret))
@[simp] noncomputable def rs : List RV := [.tmp 2]
theorem comp : compF Pg cfg Tryz.f12 = some (ir, rs, 20) := by kernel_rfl
theorem enter {args : List AVal} {h : Heap} {K : AEnd → Heap → Prop} (F : Nat) (hl : args.length ≤ 20) (a : AW ⟨Pg, F, 20, false, []⟩ ir (RetK rs K) (initT args) [] h) : ACalls Pg fn_law13_long args h K :=
  ACalls.of_comp follows Tryz.func12 comp hl a
theorem pure {args : List AVal} {v : AVal} (hl : args.length ≤ 20) (a : AW ⟨Pg, 0, 20, false, []⟩ ir (RetK rs fun e _ => e = .ret v) (initT args) [] nilH) : APure Pg fn_law13_long args v :=
  APure.of_nil (enter 0 hl a)
end law13_long

namespace law13_alive
noncomputable def cfg : Cfg := { pure := [12, 13, 14, 15, 16, 17, 18, 19, 21, 22, 23, 24, 25, 26, 27, 28, 29, 32, 33, 34, 36, 40, 45, 46, 47, 48, 51, 52, 53, 56, 57, 62, 64, 68, 71, 72, 77, 78, 79, 84, 87, 89, 91, 92, 93, 94, 95, 96, 97, 98, 99, 100, 106, 107, 109, 110, 111, 112, 113, 114, 115, 116, 120, 121, 126, 127, 128, 160, 161], pcs := [], raw := [], cuts := [], draws := [], keep := [] }
@[simp] noncomputable def r0 (_ : Unit) : List Stp := [S 0 (.mv (.c (.bool false)))]
@[simp] noncomputable def r1 (_ : Unit) : List Stp := [S 19 (.call (.c (.func (.func fn_law13_sample) [] [])) [(.c .nils)]), SP 20 (.call (.c (.func (.func fn_rap_Dull) [] [])) [(.t 19), (.c (.int .i64 9))]), S 18 (.mv (.t 20)), S 21 (.ext (.t 18) 0), S 22 (.ext (.t 18) 1), S 1 (.mv (.t 21)), S 2 (.mv (.t 22))]
@[simp] noncomputable def r2 (_ : Unit) : List Stp := [S 24 (.call (.c (.func (.func fn_law13_sample) [] [])) [(.c .nils)]), SP 25 (.call (.c (.func (.func fn_rap_Sets) [] [])) [(.t 24)]), S 23 (.mv (.t 25)), S 26 (.ext (.t 23) 0), S 27 (.ext (.t 23) 1), S 3 (.mv (.t 26)), S 4 (.mv (.t 27))]
@[simp] noncomputable def r3 (_ : Unit) : List Stp := [S 29 (.call (.c (.func (.func fn_law13_sample) [] [])) [(.c .nils)]), SP 30 (.call (.c (.func (.func fn_rap_Open) [] [])) [(.t 29)]), S 28 (.mv (.t 30)), S 31 (.ext (.t 28) 0), S 32 (.ext (.t 28) 1), S 33 (.ext (.t 28) 2), S 5 (.mv (.t 31)), S 6 (.mv (.t 32)), S 7 (.mv (.t 33))]
@[simp] noncomputable def r4 (_ : Unit) : List Stp := [SP 35 (.call (.c (.func (.func fn_law13_find) [] [])) [(.c (.int .i64 0)), (.c (.bool false))]), SP 36 (.call (.c (.func (.func fn_law13_find) [] [])) [(.c (.int .i64 3)), (.c (.bool false))]), S 37 (.bsl 2 [(.int .i64 0), (.bool false), (.int .i64 0), (.bool false)] [(0, 2, (.t 35)), (2, 2, (.t 36))]), S 38 (.call (.c (.func (.func fn_law13_sample) [] [])) [(.t 37)]), SP 39 (.call (.c (.func (.func fn_rap_Sound) [] [])) [(.t 38)]), S 34 (.mv (.t 39)), S 40 (.ext (.t 34) 0), S 41 (.ext (.t 34) 1), S 8 (.mv (.t 40)), S 9 (.mv (.t 41))]
@[simp] noncomputable def r5 (_ : Unit) : List Stp := [S 43 (.call (.c (.func (.func fn_law13_sample) [] [])) [(.c .nils)]), SP 44 (.call (.c (.func (.func fn_rap_Fewest) [] [])) [(.t 43)]), S 42 (.mv (.t 44)), S 45 (.ext (.t 42) 0), S 46 (.ext (.t 42) 1), S 47 (.ext (.t 42) 2), S 10 (.mv (.t 45)), S 11 (.mv (.t 46)), S 12 (.mv (.t 47))]
@[simp] noncomputable def r6 (_ : Unit) : List Stp := [S 49 (.call (.c (.func (.func fn_law13_sample) [] [])) [(.c .nils)]), SP 50 (.call (.c (.func (.func fn_rap_Next) [] [])) [(.t 49)]), S 48 (.mv (.t 50)), S 51 (.ext (.t 48) 0), S 52 (.ext (.t 48) 1), S 53 (.ext (.t 48) 2), S 13 (.mv (.t 51)), S 14 (.mv (.t 52)), S 15 (.mv (.t 53))]
@[simp] noncomputable def r7 (_ : Unit) : List Stp := [SP 55 (.call (.c (.func (.func fn_law13_find) [] [])) [(.c (.int .i64 0)), (.c (.bool true))]), SP 56 (.call (.c (.func (.func fn_law13_find) [] [])) [(.c (.int .i64 1)), (.c (.bool false))]), S 57 (.bsl 2 [(.int .i64 0), (.bool false), (.int .i64 0), (.bool false)] [(0, 2, (.t 55)), (2, 2, (.t 56))]), S 58 (.call (.c (.func (.func fn_law13_sample) [] [])) [(.t 57)]), SP 59 (.call (.c (.func (.func fn_rap_Wrong) [] [])) [(.t 58)]), S 54 (.mv (.t 59)), S 60 (.ext (.t 54) 0), S 61 (.ext (.t 54) 1), S 16 (.mv (.t 60)), S 17 (.mv (.t 61))]
@[simp] noncomputable def r8 (_ : Unit) : List Stp := [S 62 (.mv (.t 1)), S 63 (.bin .eql (.t 62) (.c (.int .i64 15))), S 64 (.mv (.t 63)), SG 65 64 true (.mv (.t 2)), SG 66 64 true (.bin .eql (.t 65) (.c (.int .i64 0))), S 67 (.pick (.t 64) (.t 66) (.c (.bool false))), S 68 (.mv (.t 67)), SG 69 68 true (.mv (.t 3)), SG 70 68 true (.bsl 4 [(.int .i64 0), (.int .i64 0), (.int .i64 0), (.int .i64 0)] [(0, 1, (.c (.int .i64 0))), (1, 1, (.c (.int .i64 1))), (2, 1, (.c (.int .i64 8))), (3, 1, (.c (.int .i64 9)))]), SG 71 68 true (.call (.c (.func (.func fn_law13_ints) [] [])) [(.t 69), (.t 70)]), S 72 (.pick (.t 68) (.t 71) (.c (.bool false))), S 73 (.mv (.t 72)), SG 74 73 true (.mv (.t 4)), SG 75 73 true (.bin .eql (.t 74) (.c (.int .i64 0))), S 76 (.pick (.t 73) (.t 75) (.c (.bool false))), S 77 (.mv (.t 76)), SG 78 77 true (.mv (.t 5)), SG 79 77 true (.bin .eql (.t 78) (.c (.int .i64 9))), S 80 (.pick (.t 77) (.t 79) (.c (.bool false))), S 81 (.mv (.t 80)), SG 82 81 true (.mv (.t 6)), SG 83 81 true (.bin .eql (.t 82) (.c (.int .i64 0))), S 84 (.pick (.t 81) (.t 83) (.c (.bool false))), S 85 (.mv (.t 84)), SG 86 85 true (.mv (.t 7)), SG 87 85 true (.bin .eql (.t 86) (.c (.int .i64 0))), S 88 (.pick (.t 85) (.t 87) (.c (.bool false))), S 89 (.mv (.t 88)), SG 90 89 true (.mv (.t 8)), SG 91 89 true (.bin .eql (.t 90) (.c (.int .i64 2))), S 92 (.pick (.t 89) (.t 91) (.c (.bool false))), S 93 (.mv (.t 92)), SG 94 93 true (.mv (.t 9)), SG 95 93 true (.bin .eql (.t 94) (.c (.int .i64 0))), S 96 (.pick (.t 93) (.t 95) (.c (.bool false))), S 97 (.mv (.t 96)), SG 98 97 true (.mv (.t 10)), SG 99 97 true (.bin .eql (.t 98) (.c (.int .i64 2))), S 100 (.pick (.t 97) (.t 99) (.c (.bool false))), S 101 (.mv (.t 100)), SG 102 101 true (.mv (.t 11)), SG 103 101 true (.bin .eql (.t 102) (.c (.int .i64 5))), S 104 (.pick (.t 101) (.t 103) (.c (.bool false))), S 105 (.mv (.t 104)), SG 106 105 true (.mv (.t 12)), SG 107 105 true (.bin .eql (.t 106) (.c (.int .i64 0))), S 108 (.pick (.t 105) (.t 107) (.c (.bool false))), S 109 (.mv (.t 108)), SG 110 109 true (.mv (.t 13)), SG 111 109 true (.bin .eql (.t 110) (.c (.int .i64 0))), S 112 (.pick (.t 109) (.t 111) (.c (.bool false))), S 113 (.mv (.t 112)), SG 114 113 true (.mv (.t 14)), SG 115 113 true (.bin .eql (.t 114) (.c (.int .i64 2))), S 116 (.pick (.t 113) (.t 115) (.c (.bool false))), S 117 (.mv (.t 116)), SG 118 117 true (.mv (.t 15)), SG 119 117 true (.bin .eql (.t 118) (.c (.int .i64 0))), S 120 (.pick (.t 117) (.t 119) (.c (.bool false))), S 121 (.mv (.t 120)), SG 122 121 true (.mv (.t 16)), SG 123 121 true (.bin .eql (.t 122) (.c (.int .i64 1))), S 124 (.pick (.t 121) (.t 123) (.c (.bool false))), S 125 (.mv (.t 124)), SG 126 125 true (.mv (.t 17)), SG 127 125 true (.bin .eql (.t 126) (.c (.int .i64 0))), S 128 (.pick (.t 125) (.t 127) (.c (.bool false))), S 0 (.mv (.t 128))]
@[simp] noncomputable def ir : IR := (.seq (.ops r0) (.seq (.ops r1) (.seq (.ops r2) (.seq (.ops r3) (.seq (.ops r4) (.seq (.ops r5) (.seq (.ops r6) (.seq (.ops r7) (.seq (.ops r8) .ret)))))))))
@[simp] noncomputable def rs : List RV := [.tmp 0]
theorem comp : compF Pg cfg Tryz.f13 = some (ir, rs, 129) := by kernel_rfl
theorem enter {args : List AVal} {h : Heap} {K : AEnd → Heap → Prop} (F : Nat) (hl : args.length ≤ 129) (a : AW ⟨Pg, F, 129, false, []⟩ ir (RetK rs K) (initT args) [] h) : ACalls Pg fn_law13_alive args h K :=
  ACalls.of_comp follows Tryz.func13 comp hl a
theorem pure {args : List AVal} {v : AVal} (hl : args.length ≤ 129) (a : AW ⟨Pg, 0, 129, false, []⟩ ir (RetK rs fun e _ => e = .ret v) (initT args) [] nilH) : APure Pg fn_law13_alive args v :=
  APure.of_nil (enter 0 hl a)
end law13_alive

namespace rap_Dull
noncomputable def cfg : Cfg := { pure := pures, pcs := [], raw := [], cuts := [], draws := [(2, [⟨1, false, [], []⟩, ⟨2, false, [], []⟩, ⟨3, false, [], []⟩, ⟨4, false, [], []⟩, ⟨5, false, [], []⟩, ⟨6, false, [], []⟩, ⟨0, false, [], []⟩, ⟨7, false, [], []⟩, ⟨8, false, [], []⟩, ⟨9, false, [], []⟩, ⟨10, false, [], []⟩, ⟨11, false, [], []⟩, ⟨12, false, [], []⟩, ⟨13, false, [], []⟩, ⟨14, false, [], []⟩])], keep := [4, 5] }
@[simp] noncomputable def r0 (_ : Unit) : List Stp := [S 2 (.box (.t 0)), S 4 (.mv (.c (.int .i64 0))), S 5 (.alloc [(.int .i64 0)])]
@[simp] noncomputable def r1 (_ : Unit) : List Stp := [S 7 (.mkF (.func fn_rap_Dull_1) [] [(.t 5)]), SN (.defer (.t 7) [])]
@[simp] noncomputable def r2 (_ : Unit) : List Stp := [S 9 (.mv (.t 1)), S 10 (.bin .geq (.t 9) (.c (.int .i64 0))), S 11 (.mv (.t 10)), SG 12 11 true (.mv (.t 1)), SG 13 11 true (.fAddr 0 (.t 2)), SG 14 11 true (.fAddr 0 (.t 13)), S 8 (.load true 4 (.t 2)), SG 15 11 true (.load false 1 (.t 14)), SG 16 11 true (.len (.t 15)), SG 17 11 true (.mm false [(.t 16), (.c (.int .i64 62))]), SG 18 11 true (.bin .shr (.t 12) (.t 17)), SG 19 11 true (.bin .eql (.t 18) (.c (.int .i64 0))), S 20 (.pick (.t 11) (.t 19) (.c (.bool false))), S 21 (.call (.c (.func (.func fn_rap_open) [] [])) [(.t 8), (.t 20)]), S 6 (.mv (.t 21))]
@[simp] noncomputable def r3 (_ : Unit) : List Stp := [S 22 (.mv (.t 6)), S 23 (.nilck Pg (.t 22)), S 24 (.fAddr 4 (.t 23)), S 25 (.load true 6 (.t 24)), S 26 (.mv (.t 1)), S 27 (.conv .u64 (.t 26)), SP 28 (.call (.c (.func (.func fn_rap_around_dull) [] [])) [(.t 25), (.t 27)]), S 29 (.conv .i64 (.t 28)), S 4 (.mv (.t 29)), SN (.store 1 (.t 5) (.c (.int .i64 0)))]
@[simp] noncomputable def ir : IR := (.seq (.ops r0) (.seq (.ops r1) (.seq (.ops r2) (.seq (.ops r3) .ret))))
@[simp] noncomputable def rs : List RV := [.tmp 4, .cell 5 false 1]
theorem comp : compF Pg cfg Tryz.f14 = some (ir, rs, 30) := by kernel_rfl
theorem enter {args : List AVal} {h : Heap} {K : AEnd → Heap → Prop} (F : Nat) (hl : args.length ≤ 30) (a : AW ⟨Pg, F, 30, false, [4, 5]⟩ ir (RetD Pg rs K) (initT args) [] h) : ACalls Pg fn_rap_Dull args h K :=
  ACalls.of_comp_defer follows Tryz.func14 comp hl a
theorem pure {args : List AVal} {v : AVal} (hl : args.length ≤ 30) (a : AW ⟨Pg, 0, 30, false, [4, 5]⟩ ir (RetD Pg rs fun e _ => e = .ret v) (initT args) [] nilH) : APure Pg fn_rap_Dull args v :=
  APure.of_nil (enter 0 hl a)
end rap_Dull

namespace ref13_Dull
noncomputable def cfg : Cfg := { pure := pures, pcs := [], raw := [], cuts := [], draws := [], keep := [] }
@[simp] noncomputable def r0 (_ : Unit) : List Stp := [S 2 (.box (.t 0)), S 4 (.mv (.c (.int .i64 0))), S 5 (.mv (.c (.int .i64 0)))]
@[simp] noncomputable def r1 (_ : Unit) : List Stp := [S 8 (.load true 4 (.t 2)), SP 9 (.call (.c (.func (.func fn_ref13_Rap) [] [])) [(.t 8)]), S 10 (.un .not (.t 9))]
@[simp] noncomputable def r2 (_ : Unit) : List Stp := [S 4 (.mv (.c (.int .i64 0))), S 5 (.mv (.c (.int .i64 1)))]
@[simp] noncomputable def r3 (_ : Unit) : List Stp := [S 11 (.mv (.t 1)), S 12 (.fAddr 0 (.t 2)), S 13 (.fAddr 0 (.t 12)), S 14 (.load false 1 (.t 13)), S 15 (.len (.t 14)), SP 16 (.call (.c (.func (.func fn_ref13_power) [] [])) [(.t 15)]), S 17 (.bin .sub (.t 16) (.c (.int .i64 1))), SP 18 (.call (.c (.func (.func fn_ref13_in) [] [])) [(.t 11), (.c (.int .i64 0)), (.t 17)]), S 19 (.un .not (.t 18))]
@[simp] noncomputable def r4 (_ : Unit) : List Stp := [S 4 (.mv (.c (.int .i64 0))), S 5 (.mv (.c (.int .i64 2)))]
@[simp] noncomputable def r5 (_ : Unit) : List Stp := [S 6 (.mv (.c (.int .i64 0)))]
@[simp] noncomputable def r6 (_ : Unit) : List Stp := [S 7 (.mv (.c (.int .i64 0)))]
@[simp] noncomputable def r7 (_ : Unit) : List Stp := [S 20 (.mv (.t 7)), S 21 (.fAddr 0 (.t 2)), S 22 (.fAddr 0 (.t 21)), S 23 (.load false 1 (.t 22)), S 24 (.len (.t 23)), S 25 (.bin .lss (.t 20) (.t 24))]
@[simp] noncomputable def r9 (_ : Unit) : List Stp := [S 28 (.load true 4 (.t 2)), S 29 (.mv (.t 1)), S 30 (.mv (.t 7)), SP 31 (.call (.c (.func (.func fn_ref13_Hears) [] [])) [(.t 28), (.t 29), (.t 30)])]
@[simp] noncomputable def r10 (_ : Unit) : List Stp := [S 32 (.mv (.t 6)), S 33 (.mv (.t 7)), SP 34 (.call (.c (.func (.func fn_ref13_power) [] [])) [(.t 33)]), S 35 (.bin .add (.t 32) (.t 34)), S 6 (.mv (.t 35))]
@[simp] noncomputable def r8 (_ : Unit) : List Stp := [S 26 (.mv (.t 7)), S 27 (.bin .add (.t 26) (.c (.int .i64 1))), S 7 (.mv (.t 27))]
@[simp] noncomputable def r11 (_ : Unit) : List Stp := [S 36 (.mv (.t 6)), S 4 (.mv (.t 36)), S 5 (.mv (.c (.int .i64 0)))]
@[simp] noncomputable def ir : IR := (.seq (.ops r0) (.seq (.seq (.ops r1) (.cond (.t 10) (.seq (.ops r2) .ret) .skip)) (.seq (.seq (.ops r3) (.cond (.t 19) (.seq (.ops r4) .ret) .skip)) (.seq (.ops r5) (.seq (.seq (.ops r6) (.block 0 (.loop (.seq (.seq (.ops r7) (.cond (.t 25) .skip (.exit 0))) (.seq (.block 1 (.seq (.ops r9) (.cond (.t 31) (.ops r10) .skip))) (.ops r8)))))) (.seq (.ops r11) .ret))))))
@[simp] noncomputable def rs : List RV := [.tmp 4, .tmp 5]
theorem comp : compF Pg cfg Tryz.f15 = some (ir, rs, 37) := by kernel_rfl
theorem enter {args : List AVal} {h : Heap} {K : AEnd → Heap → Prop} (F : Nat) (hl : args.length ≤ 37) (a : AW ⟨Pg, F, 37, false, []⟩ ir (RetK rs K) (initT args) [] h) : ACalls Pg fn_ref13_Dull args h K :=
  ACalls.of_comp follows Tryz.func15 comp hl a
theorem pure {args : List AVal} {v : AVal} (hl : args.length ≤ 37) (a : AW ⟨Pg, 0, 37, false, []⟩ ir (RetK rs fun e _ => e = .ret v) (initT args) [] nilH) : APure Pg fn_ref13_Dull args v :=
  APure.of_nil (enter 0 hl a)
end ref13_Dull

namespace rap_Sets
noncomputable def cfg : Cfg := { pure := pures, pcs := [], raw := [], cuts := [], draws := [], keep := [2, 3] }
@[simp] noncomputable def r0 (_ : Unit) : List Stp := [S 1 (.box (.t 0)), S 2 (.mv (.c .nils)), S 3 (.alloc [(.int .i64 0)])]
@[simp] noncomputable def r1 (_ : Unit) : List Stp := [S 7 (.mkF (.func fn_rap_Sets_1) [] [(.t 3)]), SN (.defer (.t 7) [])]
@[simp] noncomputable def r2 (_ : Unit) : List Stp := [S 4 (.mv (.c .nils))]
@[simp] noncomputable def r3 (_ : Unit) : List Stp := [S 8 (.load true 4 (.t 1)), S 9 (.call (.c (.func (.func fn_rap_open) [] [])) [(.t 8), (.c (.bool true))]), S 10 (.call (.c (.func (.func fn_rap_hull_can) [] [])) [(.t 9)]), S 11 (.len (.t 10)), S 12 (.mv (.c (.int .i64 0)))]
@[simp] noncomputable def r4 (_ : Unit) : List Stp := [S 13 (.bin .lss (.t 12) (.t 11))]
@[simp] noncomputable def r5 (_ : Unit) : List Stp := [S 14 (.ixS 2 (.t 10) (.t 12)), S 15 (.load true 2 (.t 14)), S 6 (.alloc [(.int .u64 0), (.int .u64 0)]), SN (.store 2 (.t 6) (.t 15))]
@[simp] noncomputable def r6 (_ : Unit) : List Stp := [S 16 (.mv (.t 4)), S 17 (.fAddr 0 (.t 6)), S 18 (.load false 1 (.t 17)), S 19 (.conv .i64 (.t 18)), S 20 (.bsl 1 [(.int .i64 0)] [(0, 1, (.t 19))]), S 21 (.app 1 8 (.t 16) (.t 20)), S 4 (.mv (.t 21))]
@[simp] noncomputable def r7 (_ : Unit) : List Stp := [S 22 (.bin .add (.t 12) (.c (.int .i64 1))), S 12 (.mv (.t 22))]
@[simp] noncomputable def r8 (_ : Unit) : List Stp := [S 23 (.mv (.t 4)), S 2 (.mv (.t 23)), SN (.store 1 (.t 3) (.c (.int .i64 0)))]
@[simp] noncomputable def ir : IR := (.seq (.ops r0) (.seq (.ops r1) (.seq (.ops r2) (.seq (.seq (.ops r3) (.block 0 (.loop (.seq (.ops r4) (.seq (.cond (.t 13) .skip (.exit 0)) (.seq (.block 1 (.seq (.ops r5) (.ops r6))) (.ops r7))))))) (.seq (.ops r8) .ret)))))
@[simp] noncomputable def rs : List RV := [.tmp 2, .cell 3 false 1]
theorem comp : compF Pg cfg Tryz.f16 = some (ir, rs, 24) := by kernel_rfl
theorem enter {args : List AVal} {h : Heap} {K : AEnd → Heap → Prop} (F : Nat) (hl : args.length ≤ 24) (a : AW ⟨Pg, F, 24, false, [2, 3]⟩ ir (RetD Pg rs K) (initT args) [] h) : ACalls Pg fn_rap_Sets args h K :=
  ACalls.of_comp_defer follows Tryz.func16 comp hl a
theorem pure {args : List AVal} {v : AVal} (hl : args.length ≤ 24) (a : AW ⟨Pg, 0, 24, false, [2, 3]⟩ ir (RetD Pg rs fun e _ => e = .ret v) (initT args) [] nilH) : APure Pg fn_rap_Sets args v :=
  APure.of_nil (enter 0 hl a)
end rap_Sets

namespace ref13_Sets
noncomputable def cfg : Cfg := { pure := pures, pcs := [], raw := [], cuts := [], draws := [(3, [⟨0, false, [], []⟩, ⟨1, false, [], []⟩, ⟨2, false, [], []⟩, ⟨3, false, [], []⟩, ⟨4, false, [], []⟩, ⟨5, false, [], []⟩, ⟨6, false, [], []⟩])], keep := [] }
@[simp] noncomputable def r0 (_ : Unit) : List Stp := [S 1 (.box (.t 0)), S 2 (.mv (.c .nils)), S 3 (.mv (.c (.int .i64 0)))]
@[simp] noncomputable def r1 (_ : Unit) : List Stp := [S 5 (.load true 4 (.t 1)), SP 6 (.call (.c (.func (.func fn_ref13_Rap) [] [])) [(.t 5)]), S 7 (.un .not (.t 6))]
@[simp] noncomputable def r2 (_ : Unit) : List Stp := [S 2 (.mv (.c .nils)), S 3 (.mv (.c (.int .i64 1)))]
@[simp] noncomputable def r3 (_ : Unit) : List Stp := [S 8 (.load true 4 (.t 1)), S 9 (.load true 4 (.t 1)), SP 10 (.call (.c (.func (.func fn_ref13_opened) [] [])) [(.t 9)]), S 11 (.load true 4 (.t 1)), SP 12 (.call (.c (.func (.func fn_ref13_every) [] [])) [(.t 11)]), SP 13 (.call (.c (.func (.func fn_ref13_heard) [] [])) [(.t 8), (.t 10), (.t 12)]), S 4 (.mv (.t 13))]
@[simp] noncomputable def r4 (_ : Unit) : List Stp := [S 14 (.mv (.t 4)), S 15 (.len (.t 14)), S 16 (.bin .eql (.t 15) (.c (.int .i64 0)))]
@[simp] noncomputable def r5 (_ : Unit) : List Stp := [S 2 (.mv (.c .nils)), S 3 (.mv (.c (.int .i64 10)))]
@[simp] noncomputable def r6 (_ : Unit) : List Stp := [S 17 (.mv (.t 4)), S 2 (.mv (.t 17)), S 3 (.mv (.c (.int .i64 0)))]
@[simp] noncomputable def ir : IR := (.seq (.ops r0) (.seq (.seq (.ops r1) (.cond (.t 7) (.seq (.ops r2) .ret) .skip)) (.seq (.ops r3) (.seq (.seq (.ops r4) (.cond (.t 16) (.seq (.ops r5) .ret) .skip)) (.seq (.ops r6) .ret)))))
@[simp] noncomputable def rs : List RV := [.tmp 2, .tmp 3]
theorem comp : compF Pg cfg Tryz.f17 = some (ir, rs, 18) := by kernel_rfl
theorem enter {args : List AVal} {h : Heap} {K : AEnd → Heap → Prop} (F : Nat) (hl : args.length ≤ 18) (a : AW ⟨Pg, F, 18, false, []⟩ ir (RetK rs K) (initT args) [] h) : ACalls Pg fn_ref13_Sets args h K :=
  ACalls.of_comp follows Tryz.func17 comp hl a
theorem pure {args : List AVal} {v : AVal} (hl : args.length ≤ 18) (a : AW ⟨Pg, 0, 18, false, []⟩ ir (RetK rs fun e _ => e = .ret v) (initT args) [] nilH) : APure Pg fn_ref13_Sets args v :=
  APure.of_nil (enter 0 hl a)
end ref13_Sets

namespace rap_Open
noncomputable def cfg : Cfg := { pure := pures, pcs := [], raw := [], cuts := [], draws := [(6, [⟨0, false, [], []⟩, ⟨1, false, [], []⟩, ⟨5, false, [], []⟩, ⟨6, false, [], []⟩, ⟨2, false, [], []⟩, ⟨7, false, [], []⟩, ⟨8, false, [], []⟩, ⟨3, true, [], []⟩, ⟨4, false, [], [7]⟩, ⟨9, false, [], []⟩, ⟨10, false, [], []⟩])], keep := [2, 3, 4] }
@[simp] noncomputable def r0 (_ : Unit) : List Stp := [S 1 (.box (.t 0)), S 2 (.mv (.c (.int .i64 0))), S 3 (.mv (.c (.int .i64 0))), S 4 (.alloc [(.int .i64 0)])]
@[simp] noncomputable def r1 (_ : Unit) : List Stp := [S 9 (.mkF (.func fn_rap_Open_1) [] [(.t 4)]), SN (.defer (.t 9) [])]
@[simp] noncomputable def r2 (_ : Unit) : List Stp := [S 5 (.mv (.c (.int .u64 0))), S 6 (.mv (.c (.int .u64 63)))]
@[simp] noncomputable def r3 (_ : Unit) : List Stp := [S 10 (.load true 4 (.t 1)), S 11 (.call (.c (.func (.func fn_rap_open) [] [])) [(.t 10), (.c (.bool true))]), S 12 (.call (.c (.func (.func fn_rap_hull_can) [] [])) [(.t 11)]), S 13 (.len (.t 12)), S 14 (.mv (.c (.int .i64 0)))]
@[simp] noncomputable def r4 (_ : Unit) : List Stp := [S 15 (.bin .lss (.t 14) (.t 13))]
@[simp] noncomputable def r5 (_ : Unit) : List Stp := [S 16 (.ixS 2 (.t 12) (.t 14)), S 17 (.load true 2 (.t 16)), S 8 (.alloc [(.int .u64 0), (.int .u64 0)]), SN (.store 2 (.t 8) (.t 17))]
@[simp] noncomputable def r6 (_ : Unit) : List Stp := [S 18 (.mv (.t 5)), S 19 (.fAddr 0 (.t 8)), S 23 (.mv (.t 6)), S 24 (.fAddr 0 (.t 8)), S 20 (.load false 1 (.t 19)), S 25 (.load false 1 (.t 24)), S 26 (.bin .and (.t 23) (.t 25)), SD (some 21) (.bsl 2 [(.int .u64 0), (.int .u64 0)] [(0, 1, (.t 18)), (1, 1, (.t 20))]) true [] [], SD (some 22) (.call (.c (.func (.func fn_rap_union) [] [])) [(.t 21)]) false [] [I 25 (.load false 1 (.t 24))], S 5 (.mv (.t 22)), S 6 (.mv (.t 26))]
@[simp] noncomputable def r7 (_ : Unit) : List Stp := [S 27 (.bin .add (.t 14) (.c (.int .i64 1))), S 14 (.mv (.t 27))]
@[simp] noncomputable def r8 (_ : Unit) : List Stp := [S 28 (.mv (.t 5)), S 29 (.conv .i64 (.t 28)), S 30 (.mv (.t 6)), S 31 (.conv .i64 (.t 30)), S 2 (.mv (.t 29)), S 3 (.mv (.t 31)), SN (.store 1 (.t 4) (.c (.int .i64 0)))]
@[simp] noncomputable def ir : IR := (.seq (.ops r0) (.seq (.ops r1) (.seq (.ops r2) (.seq (.seq (.ops r3) (.block 0 (.loop (.seq (.ops r4) (.seq (.cond (.t 15) .skip (.exit 0)) (.seq (.block 1 (.seq (.ops r5) (.ops r6))) (.ops r7))))))) (.seq (.ops r8) .ret)))))
@[simp] noncomputable def rs : List RV := [.tmp 2, .tmp 3, .cell 4 false 1]
theorem comp : compF Pg cfg Tryz.f18 = some (ir, rs, 32) := by kernel_rfl
theorem enter {args : List AVal} {h : Heap} {K : AEnd → Heap → Prop} (F : Nat) (hl : args.length ≤ 32) (a : AW ⟨Pg, F, 32, false, [2, 3, 4]⟩ ir (RetD Pg rs K) (initT args) [] h) : ACalls Pg fn_rap_Open args h K :=
  ACalls.of_comp_defer follows Tryz.func18 comp hl a
theorem pure {args : List AVal} {v : AVal} (hl : args.length ≤ 32) (a : AW ⟨Pg, 0, 32, false, [2, 3, 4]⟩ ir (RetD Pg rs fun e _ => e = .ret v) (initT args) [] nilH) : APure Pg fn_rap_Open args v :=
  APure.of_nil (enter 0 hl a)
end rap_Open

namespace ref13_Open
noncomputable def cfg : Cfg := { pure := pures, pcs := [], raw := [], cuts := [], draws := [], keep := [] }
@[simp] noncomputable def r0 (_ : Unit) : List Stp := [S 1 (.box (.t 0)), S 2 (.mv (.c (.int .i64 0))), S 3 (.mv (.c (.int .i64 0))), S 4 (.mv (.c (.int .i64 0)))]
@[simp] noncomputable def r1 (_ : Unit) : List Stp := [S 13 (.load true 4 (.t 1)), SP 14 (.call (.c (.func (.func fn_ref13_Sets) [] [])) [(.t 13)]), S 12 (.mv (.t 14)), S 15 (.ext (.t 12) 0), S 16 (.ext (.t 12) 1), S 5 (.mv (.t 15)), S 6 (.mv (.t 16))]
@[simp] noncomputable def r2 (_ : Unit) : List Stp := [S 17 (.mv (.t 6)), S 18 (.bin .neq (.t 17) (.c (.int .i64 0)))]
@[simp] noncomputable def r3 (_ : Unit) : List Stp := [S 19 (.mv (.t 6)), S 2 (.mv (.c (.int .i64 0))), S 3 (.mv (.c (.int .i64 0))), S 4 (.mv (.t 19))]
@[simp] noncomputable def r4 (_ : Unit) : List Stp := [S 7 (.mv (.c (.int .i64 0))), S 8 (.mv (.c (.int .i64 0)))]
@[simp] noncomputable def r5 (_ : Unit) : List Stp := [S 9 (.mv (.c (.int .i64 0)))]
@[simp] noncomputable def r6 (_ : Unit) : List Stp := [S 20 (.mv (.t 9)), S 21 (.fAddr 0 (.t 1)), S 22 (.fAddr 0 (.t 21)), S 23 (.load false 1 (.t 22)), S 24 (.len (.t 23)), S 25 (.bin .lss (.t 20) (.t 24))]
@[simp] noncomputable def r8 (_ : Unit) : List Stp := [S 10 (.mv (.c (.int .i64 0)))]
@[simp] noncomputable def r9 (_ : Unit) : List Stp := [S 11 (.mv (.c (.int .i64 0)))]
@[simp] noncomputable def r10 (_ : Unit) : List Stp := [S 28 (.mv (.t 11)), S 29 (.mv (.t 5)), S 30 (.len (.t 29)), S 31 (.bin .lss (.t 28) (.t 30))]
@[simp] noncomputable def r12 (_ : Unit) : List Stp := [S 34 (.mv (.t 5)), S 35 (.mv (.t 11)), S 36 (.ixS 1 (.t 34) (.t 35)), S 37 (.load false 1 (.t 36)), S 38 (.mv (.t 9)), SP 39 (.call (.c (.func (.func fn_ref13_Has) [] [])) [(.t 37), (.t 38)])]
@[simp] noncomputable def r13 (_ : Unit) : List Stp := [S 40 (.mv (.t 10)), S 41 (.bin .add (.t 40) (.c (.int .i64 1))), S 10 (.mv (.t 41))]
@[simp] noncomputable def r11 (_ : Unit) : List Stp := [S 32 (.mv (.t 11)), S 33 (.bin .add (.t 32) (.c (.int .i64 1))), S 11 (.mv (.t 33))]
@[simp] noncomputable def r14 (_ : Unit) : List Stp := [S 42 (.mv (.t 10)), S 43 (.bin .gtr (.t 42) (.c (.int .i64 0)))]
@[simp] noncomputable def r15 (_ : Unit) : List Stp := [S 44 (.mv (.t 7)), S 45 (.mv (.t 9)), SP 46 (.call (.c (.func (.func fn_ref13_power) [] [])) [(.t 45)]), S 47 (.bin .add (.t 44) (.t 46)), S 7 (.mv (.t 47))]
@[simp] noncomputable def r16 (_ : Unit) : List Stp := [S 48 (.mv (.t 10)), S 49 (.mv (.t 5)), S 50 (.len (.t 49)), S 51 (.bin .eql (.t 48) (.t 50))]
@[simp] noncomputable def r17 (_ : Unit) : List Stp := [S 52 (.mv (.t 8)), S 53 (.mv (.t 9)), SP 54 (.call (.c (.func (.func fn_ref13_power) [] [])) [(.t 53)]), S 55 (.bin .add (.t 52) (.t 54)), S 8 (.mv (.t 55))]
@[simp] noncomputable def r7 (_ : Unit) : List Stp := [S 26 (.mv (.t 9)), S 27 (.bin .add (.t 26) (.c (.int .i64 1))), S 9 (.mv (.t 27))]
@[simp] noncomputable def r18 (_ : Unit) : List Stp := [S 56 (.mv (.t 7)), S 57 (.mv (.t 8)), S 2 (.mv (.t 56)), S 3 (.mv (.t 57)), S 4 (.mv (.c (.int .i64 0)))]
@[simp] noncomputable def ir : IR := (.seq (.ops r0) (.seq (.ops r1) (.seq (.seq (.ops r2) (.cond (.t 18) (.seq (.ops r3) .ret) .skip)) (.seq (.ops r4) (.seq (.seq (.ops r5) (.block 0 (.loop (.seq (.seq (.ops r6) (.cond (.t 25) .skip (.exit 0))) (.seq (.block 1 (.seq (.ops r8) (.seq (.seq (.ops r9) (.block 2 (.loop (.seq (.seq (.ops r10) (.cond (.t 31) .skip (.exit 2))) (.seq (.block 3 (.seq (.ops r12) (.cond (.t 39) (.ops r13) .skip))) (.ops r11)))))) (.seq (.seq (.ops r14) (.cond (.t 43) (.ops r15) .skip)) (.seq (.ops r16) (.cond (.t 51) (.ops r17) .skip)))))) (.ops r7)))))) (.seq (.ops r18) .ret))))))
@[simp] noncomputable def rs : List RV := [.tmp 2, .tmp 3, .tmp 4]
theorem comp : compF Pg cfg Tryz.f19 = some (ir, rs, 58) := by kernel_rfl
theorem enter {args : List AVal} {h : Heap} {K : AEnd → Heap → Prop} (F : Nat) (hl : args.length ≤ 58) (a : AW ⟨Pg, F, 58, false, []⟩ ir (RetK rs K) (initT args) [] h) : ACalls Pg fn_ref13_Open args h K :=
  ACalls.of_comp follows Tryz.func19 comp hl a
theorem pure {args : List AVal} {v : AVal} (hl : args.length ≤ 58) (a : AW ⟨Pg, 0, 58, false, []⟩ ir (RetK rs fun e _ => e = .ret v) (initT args) [] nilH) : APure Pg fn_ref13_Open args v :=
  APure.of_nil (enter 0 hl a)
end ref13_Open

namespace law13_ints
noncomputable def cfg : Cfg := { pure := [12, 13, 14, 15, 16, 17, 18, 19, 20, 21, 22, 23, 24, 25, 26, 27, 28, 29, 32, 33, 34, 36, 40, 45, 46, 47, 48, 51, 52, 53, 56, 62, 64, 68, 71, 72, 77, 78, 79, 84, 87, 89, 91, 92, 93, 94, 95, 96, 97, 98, 99, 100, 106, 107, 109, 110, 111, 112, 113, 114, 115, 116, 120, 121, 126, 127, 128, 160, 161], pcs := [], raw := [], cuts := [], draws := [], keep := [] }
@[simp] noncomputable def r0 (_ : Unit) : List Stp := [S 4 (.mv (.c (.bool false)))]
@[simp] noncomputable def r1 (_ : Unit) : List Stp := [S 5 (.mv (.t 0)), S 6 (.mv (.t 1)), S 7 (.call (.c (.func (.func fn_ref13_Ints) [] [])) [(.t 5), (.t 6)]), S 4 (.mv (.t 7))]
@[simp] noncomputable def ir : IR := (.seq (.ops r0) (.seq (.ops r1) .ret))
@[simp] noncomputable def rs : List RV := [.tmp 4]
theorem comp : compF Pg cfg Tryz.f20 = some (ir, rs, 8) := by kernel_rfl
theorem enter {args : List AVal} {h : Heap} {K : AEnd → Heap → Prop} (F : Nat) (hl : args.length ≤ 8) (a : AW ⟨Pg, F, 8, false, []⟩ ir (RetK rs K) (initT args) [] h) : ACalls Pg fn_law13_ints args h K :=
  ACalls.of_comp follows Tryz.func20 comp hl a
theorem pure {args : List AVal} {v : AVal} (hl : args.length ≤ 8) (a : AW ⟨Pg, 0, 8, false, []⟩ ir (RetK rs fun e _ => e = .ret v) (initT args) [] nilH) : APure Pg fn_law13_ints args v :=
  APure.of_nil (enter 0 hl a)
end law13_ints

namespace rap_Sound
noncomputable def cfg : Cfg := { pure := pures, pcs := [], raw := [], cuts := [], draws := [], keep := [2, 3] }
@[simp] noncomputable def r0 (_ : Unit) : List Stp := [S 1 (.box (.t 0)), S 2 (.mv (.c (.int .i64 0))), S 3 (.alloc [(.int .i64 0)])]
@[simp] noncomputable def r1 (_ : Unit) : List Stp := [S 5 (.mkF (.func fn_rap_Sound_1) [] [(.t 3)]), SN (.defer (.t 5) [])]
@[simp] noncomputable def r2 (_ : Unit) : List Stp := [S 6 (.load true 4 (.t 1)), S 7 (.call (.c (.func (.func fn_rap_open) [] [])) [(.t 6), (.c (.bool true))]), S 8 (.call (.c (.func (.func fn_rap_hull_can) [] [])) [(.t 7)]), S 4 (.mv (.t 8))]
@[simp] noncomputable def r3 (_ : Unit) : List Stp := [S 10 (.mv (.t 4)), S 11 (.ixS 2 (.t 10) (.c (.int .i64 0))), S 12 (.fAddr 0 (.t 11)), S 13 (.load false 1 (.t 12)), S 14 (.bin .neq (.t 13) (.c (.int .u64 0))), S 9 (.mv (.t 14))]
@[simp] noncomputable def r4 (_ : Unit) : List Stp := [S 2 (.mv (.c (.int .i64 0))), SN (.store 1 (.t 3) (.c (.int .i64 0)))]
@[simp] noncomputable def r5 (_ : Unit) : List Stp := [S 16 (.mv (.t 4)), S 17 (.len (.t 16)), S 18 (.bin .eql (.t 17) (.c (.int .i64 1))), S 15 (.mv (.t 18))]
@[simp] noncomputable def r6 (_ : Unit) : List Stp := [S 2 (.mv (.c (.int .i64 2))), SN (.store 1 (.t 3) (.c (.int .i64 0)))]
@[simp] noncomputable def r7 (_ : Unit) : List Stp := [S 2 (.mv (.c (.int .i64 1))), SN (.store 1 (.t 3) (.c (.int .i64 0)))]
@[simp] noncomputable def ir : IR := (.seq (.ops r0) (.seq (.ops r1) (.seq (.seq (.ops r2) (.block 0 (.seq (.ops r3) (.cond (.t 9) (.seq (.ops r4) .ret) (.seq (.ops r5) (.cond (.t 15) (.seq (.ops r6) .ret) .skip)))))) (.seq (.ops r7) .ret))))
@[simp] noncomputable def rs : List RV := [.tmp 2, .cell 3 false 1]
theorem comp : compF Pg cfg Tryz.f21 = some (ir, rs, 19) := by kernel_rfl
theorem enter {args : List AVal} {h : Heap} {K : AEnd → Heap → Prop} (F : Nat) (hl : args.length ≤ 19) (a : AW ⟨Pg, F, 19, false, [2, 3]⟩ ir (RetD Pg rs K) (initT args) [] h) : ACalls Pg fn_rap_Sound args h K :=
  ACalls.of_comp_defer follows Tryz.func21 comp hl a
theorem pure {args : List AVal} {v : AVal} (hl : args.length ≤ 19) (a : AW ⟨Pg, 0, 19, false, [2, 3]⟩ ir (RetD Pg rs fun e _ => e = .ret v) (initT args) [] nilH) : APure Pg fn_rap_Sound args v :=
  APure.of_nil (enter 0 hl a)
end rap_Sound

namespace ref13_Sound
noncomputable def cfg : Cfg := { pure := pures, pcs := [], raw := [], cuts := [], draws := [], keep := [] }
@[simp] noncomputable def r0 (_ : Unit) : List Stp := [S 1 (.box (.t 0)), S 2 (.mv (.c (.int .i64 0))), S 3 (.mv (.c (.int .i64 0)))]
@[simp] noncomputable def r1 (_ : Unit) : List Stp := [S 7 (.load true 4 (.t 1)), SP 8 (.call (.c (.func (.func fn_ref13_Sets) [] [])) [(.t 7)]), S 6 (.mv (.t 8)), S 9 (.ext (.t 6) 0), S 10 (.ext (.t 6) 1), S 4 (.mv (.t 9)), S 5 (.mv (.t 10))]
@[simp] noncomputable def r2 (_ : Unit) : List Stp := [S 11 (.mv (.t 5)), S 12 (.bin .neq (.t 11) (.c (.int .i64 0)))]
@[simp] noncomputable def r3 (_ : Unit) : List Stp := [S 13 (.mv (.t 5)), S 2 (.mv (.c (.int .i64 0))), S 3 (.mv (.t 13))]
@[simp] noncomputable def r4 (_ : Unit) : List Stp := [S 14 (.mv (.t 4)), S 15 (.ixS 1 (.t 14) (.c (.int .i64 0))), S 16 (.load false 1 (.t 15)), S 17 (.bin .neq (.t 16) (.c (.int .i64 0)))]
@[simp] noncomputable def r5 (_ : Unit) : List Stp := [S 2 (.mv (.c (.int .i64 0))), S 3 (.mv (.c (.int .i64 0)))]
@[simp] noncomputable def r6 (_ : Unit) : List Stp := [S 18 (.mv (.t 4)), S 19 (.len (.t 18)), S 20 (.bin .eql (.t 19) (.c (.int .i64 1)))]
@[simp] noncomputable def r7 (_ : Unit) : List Stp := [S 2 (.mv (.c (.int .i64 2))), S 3 (.mv (.c (.int .i64 0)))]
@[simp] noncomputable def r8 (_ : Unit) : List Stp := [S 2 (.mv (.c (.int .i64 1))), S 3 (.mv (.c (.int .i64 0)))]
@[simp] noncomputable def ir : IR := (.seq (.ops r0) (.seq (.ops r1) (.seq (.seq (.ops r2) (.cond (.t 12) (.seq (.ops r3) .ret) .skip)) (.seq (.seq (.ops r4) (.cond (.t 17) (.seq (.ops r5) .ret) .skip)) (.seq (.seq (.ops r6) (.cond (.t 20) (.seq (.ops r7) .ret) .skip)) (.seq (.ops r8) .ret))))))
@[simp] noncomputable def rs : List RV := [.tmp 2, .tmp 3]
theorem comp : compF Pg cfg Tryz.f22 = some (ir, rs, 21) := by kernel_rfl
theorem enter {args : List AVal} {h : Heap} {K : AEnd → Heap → Prop} (F : Nat) (hl : args.length ≤ 21) (a : AW ⟨Pg, F, 21, false, []⟩ ir (RetK rs K) (initT args) [] h) : ACalls Pg fn_ref13_Sound args h K :=
  ACalls.of_comp follows Tryz.func22 comp hl a
theorem pure {args : List AVal} {v : AVal} (hl : args.length ≤ 21) (a : AW ⟨Pg, 0, 21, false, []⟩ ir (RetK rs fun e _ => e = .ret v) (initT args) [] nilH) : APure Pg fn_ref13_Sound args v :=
  APure.of_nil (enter 0 hl a)
end ref13_Sound

namespace rap_Fewest
noncomputable def cfg : Cfg := { pure := pures, pcs := [], raw := [], cuts := [], draws := [], keep := [2, 3, 4] }
@[simp] noncomputable def r0 (_ : Unit) : List Stp := [S 1 (.box (.t 0)), S 2 (.mv (.c (.int .i64 0))), S 3 (.mv (.c (.int .i64 0))), S 4 (.alloc [(.int .i64 0)])]
@[simp] noncomputable def r1 (_ : Unit) : List Stp := [S 10 (.mkF (.func fn_rap_Fewest_1) [] [(.t 4)]), SN (.defer (.t 10) [])]
@[simp] noncomputable def r2 (_ : Unit) : List Stp := [S 11 (.load true 4 (.t 1)), S 12 (.call (.c (.func (.func fn_rap_open) [] [])) [(.t 11), (.c (.bool true))]), S 5 (.mv (.t 12))]
@[simp] noncomputable def r3 (_ : Unit) : List Stp := [S 13 (.mv (.t 5)), S 14 (.call (.c (.func (.func fn_rap_hull_can) [] [])) [(.t 13)]), S 6 (.alloc [.nils]), SN (.store 1 (.t 6) (.t 14))]
@[simp] noncomputable def r4 (_ : Unit) : List Stp := [S 16 (.mv (.t 5)), SP 17 (.call (.c (.func (.func fn_rap_hull_seams) [] [])) [(.t 16)]), S 18 (.bin .shl (.c (.int .i64 1)) (.t 17)), S 19 (.call (.c (.func (.func fn_rap_upTo) [] [])) [(.t 18)]), S 20 (.mkF (.func fn_rap_Fewest_2) [] [(.t 6)]), S 21 (.build [.nilf] [(0, 1, (.t 20))]), S 22 (.call (.c (.func (.func fn_rap_best_int) [] [])) [(.t 19), (.t 21)]), S 15 (.mv (.t 22)), S 23 (.ext (.t 15) 0), S 24 (.ext (.t 15) 1), S 25 (.ext (.t 15) 2), S 7 (.mv (.t 23)), S 8 (.mv (.t 24)), S 9 (.mv (.t 25))]
@[simp] noncomputable def r5 (_ : Unit) : List Stp := [S 26 (.mv (.t 9)), S 27 (.call (.c (.func (.func fn_rap_want) [] [])) [(.t 26), (.c (.int .i64 4))])]
@[simp] noncomputable def r6 (_ : Unit) : List Stp := [S 28 (.mv (.t 8)), S 29 (.mv (.t 7)), S 2 (.mv (.t 28)), S 3 (.mv (.t 29)), SN (.store 1 (.t 4) (.c (.int .i64 0)))]
@[simp] noncomputable def ir : IR := (.seq (.ops r0) (.seq (.ops r1) (.seq (.ops r2) (.seq (.ops r3) (.seq (.ops r4) (.seq (.ops r5) (.seq (.ops r6) .ret)))))))
@[simp] noncomputable def rs : List RV := [.tmp 2, .tmp 3, .cell 4 false 1]
theorem comp : compF Pg cfg Tryz.f23 = some (ir, rs, 30) := by kernel_rfl
theorem enter {args : List AVal} {h : Heap} {K : AEnd → Heap → Prop} (F : Nat) (hl : args.length ≤ 30) (a : AW ⟨Pg, F, 30, false, [2, 3, 4]⟩ ir (RetD Pg rs K) (initT args) [] h) : ACalls Pg fn_rap_Fewest args h K :=
  ACalls.of_comp_defer follows Tryz.func23 comp hl a
theorem pure {args : List AVal} {v : AVal} (hl : args.length ≤ 30) (a : AW ⟨Pg, 0, 30, false, [2, 3, 4]⟩ ir (RetD Pg rs fun e _ => e = .ret v) (initT args) [] nilH) : APure Pg fn_rap_Fewest args v :=
  APure.of_nil (enter 0 hl a)
end rap_Fewest

namespace ref13_Fewest
noncomputable def cfg : Cfg := { pure := pures, pcs := [], raw := [], cuts := [], draws := [], keep := [] }
@[simp] noncomputable def r0 (_ : Unit) : List Stp := [S 1 (.box (.t 0)), S 2 (.mv (.c (.int .i64 0))), S 3 (.mv (.c (.int .i64 0))), S 4 (.mv (.c (.int .i64 0)))]
@[simp] noncomputable def r1 (_ : Unit) : List Stp := [S 10 (.load true 4 (.t 1)), SP 11 (.call (.c (.func (.func fn_ref13_Sets) [] [])) [(.t 10)]), S 9 (.mv (.t 11)), S 12 (.ext (.t 9) 0), S 13 (.ext (.t 9) 1), S 5 (.mv (.t 12)), S 6 (.mv (.t 13))]
@[simp] noncomputable def r2 (_ : Unit) : List Stp := [S 14 (.mv (.t 6)), S 15 (.bin .neq (.t 14) (.c (.int .i64 0)))]
@[simp] noncomputable def r3 (_ : Unit) : List Stp := [S 16 (.mv (.t 6)), S 2 (.mv (.c (.int .i64 0))), S 3 (.mv (.c (.int .i64 0))), S 4 (.mv (.t 16))]
@[simp] noncomputable def r4 (_ : Unit) : List Stp := [S 17 (.fAddr 0 (.t 1)), S 18 (.fAddr 0 (.t 17)), S 19 (.load false 1 (.t 18)), S 20 (.len (.t 19)), SP 21 (.call (.c (.func (.func fn_ref13_power) [] [])) [(.t 20)]), S 22 (.bin .sub (.t 21) (.c (.int .i64 1))), S 7 (.mv (.t 22))]
@[simp] noncomputable def r5 (_ : Unit) : List Stp := [S 8 (.mv (.c (.int .i64 0)))]
@[simp] noncomputable def r6 (_ : Unit) : List Stp := [S 23 (.mv (.t 8)), S 24 (.fAddr 0 (.t 1)), S 25 (.fAddr 0 (.t 24)), S 26 (.load false 1 (.t 25)), S 27 (.len (.t 26)), SP 28 (.call (.c (.func (.func fn_ref13_power) [] [])) [(.t 27)]), S 29 (.bin .lss (.t 23) (.t 28))]
@[simp] noncomputable def r8 (_ : Unit) : List Stp := [S 32 (.mv (.t 8)), SP 33 (.call (.c (.func (.func fn_ref13_Size) [] [])) [(.t 32)]), S 34 (.mv (.t 7)), SP 35 (.call (.c (.func (.func fn_ref13_Size) [] [])) [(.t 34)]), S 36 (.bin .lss (.t 33) (.t 35)), S 37 (.mv (.t 36)), SG 38 37 true (.load true 4 (.t 1)), SG 39 37 true (.mv (.t 5)), SG 40 37 true (.mv (.t 8)), SGP 41 37 true (.call (.c (.func (.func fn_ref13_shows) [] [])) [(.t 38), (.t 39), (.t 40)]), S 42 (.pick (.t 37) (.t 41) (.c (.bool false)))]
@[simp] noncomputable def r9 (_ : Unit) : List Stp := [S 43 (.mv (.t 8)), S 7 (.mv (.t 43))]
@[simp] noncomputable def r7 (_ : Unit) : List Stp := [S 30 (.mv (.t 8)), S 31 (.bin .add (.t 30) (.c (.int .i64 1))), S 8 (.mv (.t 31))]
@[simp] noncomputable def r10 (_ : Unit) : List Stp := [S 44 (.mv (.t 7)), SP 45 (.call (.c (.func (.func fn_ref13_Size) [] [])) [(.t 44)]), S 46 (.mv (.t 7)), S 2 (.mv (.t 45)), S 3 (.mv (.t 46)), S 4 (.mv (.c (.int .i64 0)))]
@[simp] noncomputable def ir : IR := (.seq (.ops r0) (.seq (.ops r1) (.seq (.seq (.ops r2) (.cond (.t 15) (.seq (.ops r3) .ret) .skip)) (.seq (.ops r4) (.seq (.seq (.ops r5) (.block 0 (.loop (.seq (.seq (.ops r6) (.cond (.t 29) .skip (.exit 0))) (.seq (.block 1 (.seq (.ops r8) (.cond (.t 42) (.ops r9) .skip))) (.ops r7)))))) (.seq (.ops r10) .ret))))))
@[simp] noncomputable def rs : List RV := [.tmp 2, .tmp 3, .tmp 4]
theorem comp : compF Pg cfg Tryz.f24 = some (ir, rs, 47) := by kernel_rfl
theorem enter {args : List AVal} {h : Heap} {K : AEnd → Heap → Prop} (F : Nat) (hl : args.length ≤ 47) (a : AW ⟨Pg, F, 47, false, []⟩ ir (RetK rs K) (initT args) [] h) : ACalls Pg fn_ref13_Fewest args h K :=
  ACalls.of_comp follows Tryz.func24 comp hl a
theorem pure {args : List AVal} {v : AVal} (hl : args.length ≤ 47) (a : AW ⟨Pg, 0, 47, false, []⟩ ir (RetK rs fun e _ => e = .ret v) (initT args) [] nilH) : APure Pg fn_ref13_Fewest args v :=
  APure.of_nil (enter 0 hl a)
end ref13_Fewest

namespace rap_Next
noncomputable def cfg : Cfg := { pure := pures, pcs := [], raw := [], cuts := [], draws := [], keep := [2, 3, 4] }
@[simp] noncomputable def r0 (_ : Unit) : List Stp := [S 1 (.box (.t 0)), S 2 (.mv (.c (.int .i64 0))), S 3 (.mv (.c (.int .i64 0))), S 4 (.alloc [(.int .i64 0)])]
@[simp] noncomputable def r1 (_ : Unit) : List Stp := [S 10 (.mkF (.func fn_rap_Next_1) [] [(.t 4)]), SN (.defer (.t 10) [])]
@[simp] noncomputable def r2 (_ : Unit) : List Stp := [S 11 (.load true 4 (.t 1)), S 12 (.call (.c (.func (.func fn_rap_open) [] [])) [(.t 11), (.c (.bool true))]), S 5 (.mv (.t 12))]
@[simp] noncomputable def r3 (_ : Unit) : List Stp := [S 13 (.mv (.t 5)), S 14 (.call (.c (.func (.func fn_rap_hull_can) [] [])) [(.t 13)]), S 6 (.alloc [.nils]), SN (.store 1 (.t 6) (.t 14))]
@[simp] noncomputable def r4 (_ : Unit) : List Stp := [S 15 (.load false 1 (.t 6)), S 16 (.len (.t 15)), S 17 (.bin .gtr (.t 16) (.c (.int .i64 1))), S 18 (.call (.c (.func (.func fn_rap_want) [] [])) [(.t 17), (.c (.int .i64 11))])]
@[simp] noncomputable def r5 (_ : Unit) : List Stp := [S 20 (.mv (.t 5)), SP 21 (.call (.c (.func (.func fn_rap_hull_seams) [] [])) [(.t 20)]), S 22 (.call (.c (.func (.func fn_rap_upTo) [] [])) [(.t 21)]), S 23 (.mkF (.func fn_rap_Next_2) [] [(.t 6)]), S 24 (.build [.nilf] [(0, 1, (.t 23))]), S 25 (.call (.c (.func (.func fn_rap_best_int) [] [])) [(.t 22), (.t 24)]), S 19 (.mv (.t 25)), S 26 (.ext (.t 19) 0), S 27 (.ext (.t 19) 1), S 28 (.ext (.t 19) 2), S 7 (.mv (.t 26)), S 8 (.mv (.t 27)), S 9 (.mv (.t 28))]
@[simp] noncomputable def r6 (_ : Unit) : List Stp := [S 29 (.mv (.t 9)), S 30 (.call (.c (.func (.func fn_rap_want) [] [])) [(.t 29), (.c (.int .i64 4))])]
@[simp] noncomputable def r7 (_ : Unit) : List Stp := [S 31 (.mv (.t 7)), S 32 (.mv (.t 8)), S 2 (.mv (.t 31)), S 3 (.mv (.t 32)), SN (.store 1 (.t 4) (.c (.int .i64 0)))]
@[simp] noncomputable def ir : IR := (.seq (.ops r0) (.seq (.ops r1) (.seq (.ops r2) (.seq (.ops r3) (.seq (.ops r4) (.seq (.ops r5) (.seq (.ops r6) (.seq (.ops r7) .ret))))))))
@[simp] noncomputable def rs : List RV := [.tmp 2, .tmp 3, .cell 4 false 1]
theorem comp : compF Pg cfg Tryz.f25 = some (ir, rs, 33) := by kernel_rfl
theorem enter {args : List AVal} {h : Heap} {K : AEnd → Heap → Prop} (F : Nat) (hl : args.length ≤ 33) (a : AW ⟨Pg, F, 33, false, [2, 3, 4]⟩ ir (RetD Pg rs K) (initT args) [] h) : ACalls Pg fn_rap_Next args h K :=
  ACalls.of_comp_defer follows Tryz.func25 comp hl a
theorem pure {args : List AVal} {v : AVal} (hl : args.length ≤ 33) (a : AW ⟨Pg, 0, 33, false, [2, 3, 4]⟩ ir (RetD Pg rs fun e _ => e = .ret v) (initT args) [] nilH) : APure Pg fn_rap_Next args v :=
  APure.of_nil (enter 0 hl a)
end rap_Next

namespace ref13_Next
noncomputable def cfg : Cfg := { pure := pures, pcs := [], raw := [], cuts := [], draws := [(14, [⟨1, false, [], []⟩, ⟨2, false, [], []⟩, ⟨3, false, [], []⟩, ⟨5, false, [], []⟩, ⟨0, false, [], []⟩, ⟨4, false, [], []⟩, ⟨6, false, [], []⟩])], keep := [] }
@[simp] noncomputable def r0 (_ : Unit) : List Stp := [S 1 (.box (.t 0)), S 2 (.mv (.c (.int .i64 0))), S 3 (.mv (.c (.int .i64 0))), S 4 (.mv (.c (.int .i64 0)))]
@[simp] noncomputable def r1 (_ : Unit) : List Stp := [S 13 (.load true 4 (.t 1)), SP 14 (.call (.c (.func (.func fn_ref13_Sets) [] [])) [(.t 13)]), S 12 (.mv (.t 14)), S 15 (.ext (.t 12) 0), S 16 (.ext (.t 12) 1), S 5 (.mv (.t 15)), S 6 (.mv (.t 16))]
@[simp] noncomputable def r2 (_ : Unit) : List Stp := [S 17 (.mv (.t 6)), S 18 (.bin .neq (.t 17) (.c (.int .i64 0)))]
@[simp] noncomputable def r3 (_ : Unit) : List Stp := [S 19 (.mv (.t 6)), S 2 (.mv (.c (.int .i64 0))), S 3 (.mv (.c (.int .i64 0))), S 4 (.mv (.t 19))]
@[simp] noncomputable def r4 (_ : Unit) : List Stp := [S 20 (.mv (.t 5)), S 21 (.len (.t 20)), S 22 (.bin .eql (.t 21) (.c (.int .i64 1)))]
@[simp] noncomputable def r5 (_ : Unit) : List Stp := [S 2 (.mv (.c (.int .i64 0))), S 3 (.mv (.c (.int .i64 0))), S 4 (.mv (.c (.int .i64 11)))]
@[simp] noncomputable def r6 (_ : Unit) : List Stp := [S 23 (.mv (.t 5)), S 24 (.len (.t 23)), S 7 (.mv (.c (.int .i64 0))), S 8 (.mv (.t 24))]
@[simp] noncomputable def r7 (_ : Unit) : List Stp := [S 9 (.mv (.c (.int .i64 0)))]
@[simp] noncomputable def r8 (_ : Unit) : List Stp := [S 25 (.mv (.t 9)), S 26 (.fAddr 0 (.t 1)), S 27 (.fAddr 0 (.t 26)), S 28 (.load false 1 (.t 27)), S 29 (.len (.t 28)), S 30 (.bin .lss (.t 25) (.t 29))]
@[simp] noncomputable def r10 (_ : Unit) : List Stp := [S 10 (.mv (.c (.int .i64 0)))]
@[simp] noncomputable def r11 (_ : Unit) : List Stp := [S 11 (.mv (.c (.int .i64 0)))]
@[simp] noncomputable def r12 (_ : Unit) : List Stp := [S 33 (.mv (.t 11)), S 34 (.mv (.t 5)), S 35 (.len (.t 34)), S 36 (.bin .lss (.t 33) (.t 35))]
@[simp] noncomputable def r14 (_ : Unit) : List Stp := [S 40 (.mv (.t 5)), S 41 (.mv (.t 11)), S 42 (.ixS 1 (.t 40) (.t 41)), S 44 (.mv (.t 9)), S 39 (.load true 4 (.t 1)), S 43 (.load false 1 (.t 42)), SP 45 (.call (.c (.func (.func fn_ref13_Hears) [] [])) [(.t 39), (.t 43), (.t 44)])]
@[simp] noncomputable def r15 (_ : Unit) : List Stp := [S 46 (.mv (.t 10)), S 47 (.bin .add (.t 46) (.c (.int .i64 1))), S 10 (.mv (.t 47))]
@[simp] noncomputable def r13 (_ : Unit) : List Stp := [S 37 (.mv (.t 11)), S 38 (.bin .add (.t 37) (.c (.int .i64 1))), S 11 (.mv (.t 38))]
@[simp] noncomputable def r16 (_ : Unit) : List Stp := [S 48 (.mv (.t 10)), S 49 (.mv (.t 5)), S 50 (.len (.t 49)), S 51 (.mv (.t 10)), S 52 (.bin .sub (.t 50) (.t 51)), S 53 (.mm true [(.t 48), (.t 52)]), S 54 (.mv (.t 8)), S 55 (.bin .lss (.t 53) (.t 54))]
@[simp] noncomputable def r17 (_ : Unit) : List Stp := [S 56 (.mv (.t 9)), S 57 (.mv (.t 10)), S 58 (.mv (.t 5)), S 59 (.len (.t 58)), S 60 (.mv (.t 10)), S 61 (.bin .sub (.t 59) (.t 60)), S 62 (.mm true [(.t 57), (.t 61)]), S 7 (.mv (.t 56)), S 8 (.mv (.t 62))]
@[simp] noncomputable def r9 (_ : Unit) : List Stp := [S 31 (.mv (.t 9)), S 32 (.bin .add (.t 31) (.c (.int .i64 1))), S 9 (.mv (.t 32))]
@[simp] noncomputable def r18 (_ : Unit) : List Stp := [S 63 (.mv (.t 8)), S 64 (.mv (.t 5)), S 65 (.len (.t 64)), S 66 (.bin .eql (.t 63) (.t 65))]
@[simp] noncomputable def r19 (_ : Unit) : List Stp := [S 2 (.mv (.c (.int .i64 0))), S 3 (.mv (.c (.int .i64 0))), S 4 (.mv (.c (.int .i64 4)))]
@[simp] noncomputable def r20 (_ : Unit) : List Stp := [S 67 (.mv (.t 7)), S 68 (.mv (.t 8)), S 2 (.mv (.t 67)), S 3 (.mv (.t 68)), S 4 (.mv (.c (.int .i64 0)))]
@[simp] noncomputable def ir : IR := (.seq (.ops r0) (.seq (.ops r1) (.seq (.seq (.ops r2) (.cond (.t 18) (.seq (.ops r3) .ret) .skip)) (.seq (.seq (.ops r4) (.cond (.t 22) (.seq (.ops r5) .ret) .skip)) (.seq (.ops r6) (.seq (.seq (.ops r7) (.block 0 (.loop (.seq (.seq (.ops r8) (.cond (.t 30) .skip (.exit 0))) (.seq (.block 1 (.seq (.ops r10) (.seq (.seq (.ops r11) (.block 2 (.loop (.seq (.seq (.ops r12) (.cond (.t 36) .skip (.exit 2))) (.seq (.block 3 (.seq (.ops r14) (.cond (.t 45) (.ops r15) .skip))) (.ops r13)))))) (.seq (.ops r16) (.cond (.t 55) (.ops r17) .skip))))) (.ops r9)))))) (.seq (.seq (.ops r18) (.cond (.t 66) (.seq (.ops r19) .ret) .skip)) (.seq (.ops r20) .ret))))))))
@[simp] noncomputable def rs : List RV := [.tmp 2, .tmp 3, .tmp 4]
theorem comp : compF Pg cfg Tryz.f26 = some (ir, rs, 69) := by kernel_rfl
theorem enter {args : List AVal} {h : Heap} {K : AEnd → Heap → Prop} (F : Nat) (hl : args.length ≤ 69) (a : AW ⟨Pg, F, 69, false, []⟩ ir (RetK rs K) (initT args) [] h) : ACalls Pg fn_ref13_Next args h K :=
  ACalls.of_comp follows Tryz.func26 comp hl a
theorem pure {args : List AVal} {v : AVal} (hl : args.length ≤ 69) (a : AW ⟨Pg, 0, 69, false, []⟩ ir (RetK rs fun e _ => e = .ret v) (initT args) [] nilH) : APure Pg fn_ref13_Next args v :=
  APure.of_nil (enter 0 hl a)
end ref13_Next

namespace rap_Wrong
noncomputable def cfg : Cfg := { pure := pures, pcs := [], raw := [], cuts := [], draws := [], keep := [2, 3] }
@[simp] noncomputable def r0 (_ : Unit) : List Stp := [S 1 (.box (.t 0)), S 2 (.mv (.c (.int .i64 0))), S 3 (.alloc [(.int .i64 0)])]
@[simp] noncomputable def r1 (_ : Unit) : List Stp := [S 9 (.mkF (.func fn_rap_Wrong_1) [] [(.t 3)]), SN (.defer (.t 9) [])]
@[simp] noncomputable def r2 (_ : Unit) : List Stp := [S 10 (.load true 4 (.t 1)), S 11 (.call (.c (.func (.func fn_rap_open) [] [])) [(.t 10), (.c (.bool true))]), S 4 (.alloc [.nilp]), SN (.store 1 (.t 4) (.t 11))]
@[simp] noncomputable def r3 (_ : Unit) : List Stp := [S 12 (.load false 1 (.t 4)), S 13 (.call (.c (.func (.func fn_rap_hull_sounds) [] [])) [(.t 12)]), S 5 (.alloc [.nils]), SN (.store 1 (.t 5) (.t 13))]
@[simp] noncomputable def r4 (_ : Unit) : List Stp := [S 15 (.fAddr 3 (.t 1)), S 16 (.load false 1 (.t 15)), S 17 (.len (.t 16)), S 18 (.bin .shl (.c (.int .i64 1)) (.t 17)), S 19 (.call (.c (.func (.func fn_rap_upTo) [] [])) [(.t 18)]), S 20 (.mkF (.func fn_rap_Wrong_2) [] [(.t 4), (.t 5)]), S 21 (.build [.nilf] [(0, 1, (.t 20))]), S 22 (.call (.c (.func (.func fn_rap_best_int) [] [])) [(.t 19), (.t 21)]), S 14 (.mv (.t 22)), S 23 (.ext (.t 14) 0), S 24 (.ext (.t 14) 1), S 25 (.ext (.t 14) 2), S 6 (.mv (.t 23)), S 7 (.mv (.t 24)), S 8 (.mv (.t 25))]
@[simp] noncomputable def r5 (_ : Unit) : List Stp := [S 26 (.mv (.t 8)), S 27 (.mv (.t 26)), SG 28 27 true (.mv (.t 6)), SG 29 27 true (.bin .neq (.t 28) (.c (.int .i64 0))), S 30 (.pick (.t 27) (.t 29) (.c (.bool false))), S 31 (.call (.c (.func (.func fn_rap_want) [] [])) [(.t 30), (.c (.int .i64 4))])]
@[simp] noncomputable def r6 (_ : Unit) : List Stp := [S 32 (.mv (.t 6)), S 2 (.mv (.t 32)), SN (.store 1 (.t 3) (.c (.int .i64 0)))]
@[simp] noncomputable def ir : IR := (.seq (.ops r0) (.seq (.ops r1) (.seq (.ops r2) (.seq (.ops r3) (.seq (.ops r4) (.seq (.ops r5) (.seq (.ops r6) .ret)))))))
@[simp] noncomputable def rs : List RV := [.tmp 2, .cell 3 false 1]
theorem comp : compF Pg cfg Tryz.f27 = some (ir, rs, 33) := by kernel_rfl
theorem enter {args : List AVal} {h : Heap} {K : AEnd → Heap → Prop} (F : Nat) (hl : args.length ≤ 33) (a : AW ⟨Pg, F, 33, false, [2, 3]⟩ ir (RetD Pg rs K) (initT args) [] h) : ACalls Pg fn_rap_Wrong args h K :=
  ACalls.of_comp_defer follows Tryz.func27 comp hl a
theorem pure {args : List AVal} {v : AVal} (hl : args.length ≤ 33) (a : AW ⟨Pg, 0, 33, false, [2, 3]⟩ ir (RetD Pg rs fun e _ => e = .ret v) (initT args) [] nilH) : APure Pg fn_rap_Wrong args v :=
  APure.of_nil (enter 0 hl a)
end rap_Wrong

namespace ref13_Wrong
noncomputable def cfg : Cfg := { pure := pures, pcs := [], raw := [], cuts := [], draws := [(3, [⟨0, false, [], []⟩, ⟨1, false, [], []⟩, ⟨2, false, [], []⟩, ⟨3, false, [], []⟩, ⟨4, false, [], []⟩, ⟨5, false, [], []⟩]), (9, [⟨0, false, [], []⟩, ⟨1, false, [], []⟩, ⟨2, false, [], []⟩, ⟨3, false, [], []⟩, ⟨4, false, [], []⟩, ⟨5, false, [], []⟩, ⟨7, false, [], []⟩, ⟨10, false, [], []⟩, ⟨6, false, [], []⟩, ⟨8, false, [], []⟩, ⟨9, false, [], []⟩, ⟨11, false, [], []⟩, ⟨12, false, [], []⟩, ⟨13, false, [], []⟩, ⟨14, false, [], []⟩, ⟨15, false, [], []⟩])], keep := [] }
@[simp] noncomputable def r0 (_ : Unit) : List Stp := [S 1 (.box (.t 0)), S 2 (.mv (.c (.int .i64 0))), S 3 (.mv (.c (.int .i64 0)))]
@[simp] noncomputable def r1 (_ : Unit) : List Stp := [S 7 (.load true 4 (.t 1)), SP 8 (.call (.c (.func (.func fn_ref13_Rap) [] [])) [(.t 7)]), S 9 (.un .not (.t 8))]
@[simp] noncomputable def r2 (_ : Unit) : List Stp := [S 2 (.mv (.c (.int .i64 0))), S 3 (.mv (.c (.int .i64 1)))]
@[simp] noncomputable def r3 (_ : Unit) : List Stp := [S 10 (.load true 4 (.t 1)), SP 11 (.call (.c (.func (.func fn_ref13_opened) [] [])) [(.t 10)]), S 12 (.load true 4 (.t 1)), SP 13 (.call (.c (.func (.func fn_ref13_every) [] [])) [(.t 12)]), S 4 (.mv (.t 11)), S 5 (.mv (.t 13))]
@[simp] noncomputable def r4 (_ : Unit) : List Stp := [S 14 (.load true 4 (.t 1)), S 15 (.mv (.t 4)), S 16 (.mv (.t 5)), SP 17 (.call (.c (.func (.func fn_ref13_heard) [] [])) [(.t 14), (.t 15), (.t 16)]), S 18 (.len (.t 17)), S 19 (.bin .gtr (.t 18) (.c (.int .i64 0)))]
@[simp] noncomputable def r5 (_ : Unit) : List Stp := [S 2 (.mv (.c (.int .i64 0))), S 3 (.mv (.c (.int .i64 4)))]
@[simp] noncomputable def r6 (_ : Unit) : List Stp := [S 6 (.mv (.c (.int .i64 0)))]
@[simp] noncomputable def r7 (_ : Unit) : List Stp := [S 20 (.mv (.t 6)), S 21 (.load true 4 (.t 1)), SP 22 (.call (.c (.func (.func fn_ref13_every) [] [])) [(.t 21)]), S 23 (.bin .leq (.t 20) (.t 22))]
@[simp] noncomputable def r9 (_ : Unit) : List Stp := [S 26 (.mv (.t 6)), SP 27 (.call (.c (.func (.func fn_ref13_Size) [] [])) [(.t 26)]), S 28 (.mv (.t 5)), SP 29 (.call (.c (.func (.func fn_ref13_Size) [] [])) [(.t 28)]), S 30 (.bin .lss (.t 27) (.t 29)), S 31 (.mv (.t 30)), SG 33 31 true (.mv (.t 4)), SG 36 31 true (.mv (.t 6)), SG 32 31 true (.load true 4 (.t 1)), SG 34 31 true (.load true 4 (.t 1)), SGP 35 31 true (.call (.c (.func (.func fn_ref13_every) [] [])) [(.t 34)]), SG 37 31 true (.bin .sub (.t 35) (.t 36)), SGP 38 31 true (.call (.c (.func (.func fn_ref13_heard) [] [])) [(.t 32), (.t 33), (.t 37)]), SG 39 31 true (.len (.t 38)), SG 40 31 true (.bin .gtr (.t 39) (.c (.int .i64 0))), S 41 (.pick (.t 31) (.t 40) (.c (.bool false)))]
@[simp] noncomputable def r10 (_ : Unit) : List Stp := [S 42 (.mv (.t 6)), S 5 (.mv (.t 42))]
@[simp] noncomputable def r8 (_ : Unit) : List Stp := [S 24 (.mv (.t 6)), S 25 (.bin .add (.t 24) (.c (.int .i64 1))), S 6 (.mv (.t 25))]
@[simp] noncomputable def r11 (_ : Unit) : List Stp := [S 43 (.mv (.t 5)), S 2 (.mv (.t 43)), S 3 (.mv (.c (.int .i64 0)))]
@[simp] noncomputable def ir : IR := (.seq (.ops r0) (.seq (.seq (.ops r1) (.cond (.t 9) (.seq (.ops r2) .ret) .skip)) (.seq (.ops r3) (.seq (.seq (.ops r4) (.cond (.t 19) (.seq (.ops r5) .ret) .skip)) (.seq (.seq (.ops r6) (.block 0 (.loop (.seq (.seq (.ops r7) (.cond (.t 23) .skip (.exit 0))) (.seq (.block 1 (.seq (.ops r9) (.cond (.t 41) (.ops r10) .skip))) (.ops r8)))))) (.seq (.ops r11) .ret))))))
@[simp] noncomputable def rs : List RV := [.tmp 2, .tmp 3]
theorem comp : compF Pg cfg Tryz.f28 = some (ir, rs, 44) := by kernel_rfl
theorem enter {args : List AVal} {h : Heap} {K : AEnd → Heap → Prop} (F : Nat) (hl : args.length ≤ 44) (a : AW ⟨Pg, F, 44, false, []⟩ ir (RetK rs K) (initT args) [] h) : ACalls Pg fn_ref13_Wrong args h K :=
  ACalls.of_comp follows Tryz.func28 comp hl a
theorem pure {args : List AVal} {v : AVal} (hl : args.length ≤ 44) (a : AW ⟨Pg, 0, 44, false, []⟩ ir (RetK rs fun e _ => e = .ret v) (initT args) [] nilH) : APure Pg fn_ref13_Wrong args v :=
  APure.of_nil (enter 0 hl a)
end ref13_Wrong

namespace ref13_Rap
noncomputable def cfg : Cfg := { pure := pures, pcs := [], raw := [], cuts := [], draws := [(6, [⟨0, false, [], []⟩, ⟨2, false, [], []⟩, ⟨4, false, [], []⟩, ⟨1, false, [], []⟩, ⟨3, false, [], []⟩, ⟨5, false, [], []⟩, ⟨6, false, [], []⟩, ⟨7, false, [], []⟩, ⟨8, false, [], []⟩, ⟨9, false, [], []⟩])], keep := [] }
@[simp] noncomputable def r0 (_ : Unit) : List Stp := [S 1 (.box (.t 0)), S 2 (.mv (.c (.bool false)))]
@[simp] noncomputable def r1 (_ : Unit) : List Stp := [S 4 (.fAddr 0 (.t 1)), S 5 (.load true 3 (.t 4)), SP 6 (.call (.c (.func (.func fn_ref05_Drive) [] [])) [(.t 5)]), S 7 (.un .not (.t 6)), S 8 (.mv (.t 7)), SG 9 8 false (.fAddr 3 (.t 1)), SG 10 8 false (.load false 1 (.t 9)), SG 11 8 false (.len (.t 10)), SG 12 8 false (.bin .gtr (.t 11) (.c (.int .i64 10))), S 13 (.pick (.t 8) (.c (.bool true)) (.t 12))]
@[simp] noncomputable def r2 (_ : Unit) : List Stp := [S 2 (.mv (.c (.bool false)))]
@[simp] noncomputable def r3 (_ : Unit) : List Stp := [S 3 (.mv (.c (.int .i64 0)))]
@[simp] noncomputable def r4 (_ : Unit) : List Stp := [S 14 (.mv (.t 3)), S 15 (.fAddr 3 (.t 1)), S 16 (.load false 1 (.t 15)), S 17 (.len (.t 16)), S 18 (.bin .lss (.t 14) (.t 17))]
@[simp] noncomputable def r6 (_ : Unit) : List Stp := [S 21 (.fAddr 0 (.t 1)), S 23 (.fAddr 3 (.t 1)), S 25 (.mv (.t 3)), S 22 (.load true 3 (.t 21)), S 24 (.load false 1 (.t 23)), S 26 (.ixS 2 (.t 24) (.t 25)), S 27 (.fAddr 0 (.t 26)), S 28 (.load false 1 (.t 27)), SP 29 (.call (.c (.func (.func fn_ref05_Seam) [] [])) [(.t 22), (.t 28)]), S 30 (.un .not (.t 29))]
@[simp] noncomputable def r7 (_ : Unit) : List Stp := [S 2 (.mv (.c (.bool false)))]
@[simp] noncomputable def r5 (_ : Unit) : List Stp := [S 19 (.mv (.t 3)), S 20 (.bin .add (.t 19) (.c (.int .i64 1))), S 3 (.mv (.t 20))]
@[simp] noncomputable def r8 (_ : Unit) : List Stp := [S 2 (.mv (.c (.bool true)))]
@[simp] noncomputable def ir : IR := (.seq (.ops r0) (.seq (.seq (.ops r1) (.cond (.t 13) (.seq (.ops r2) .ret) .skip)) (.seq (.seq (.ops r3) (.block 0 (.loop (.seq (.seq (.ops r4) (.cond (.t 18) .skip (.exit 0))) (.seq (.block 1 (.seq (.ops r6) (.cond (.t 30) (.seq (.ops r7) .ret) .skip))) (.ops r5)))))) (.seq (.ops r8) .ret))))
@[simp] noncomputable def rs : List RV := [.tmp 2]
theorem comp : compF Pg cfg Tryz.f29 = some (ir, rs, 31) := by kernel_rfl
theorem enter {args : List AVal} {h : Heap} {K : AEnd → Heap → Prop} (F : Nat) (hl : args.length ≤ 31) (a : AW ⟨Pg, F, 31, false, []⟩ ir (RetK rs K) (initT args) [] h) : ACalls Pg fn_ref13_Rap args h K :=
  ACalls.of_comp follows Tryz.func29 comp hl a
theorem pure {args : List AVal} {v : AVal} (hl : args.length ≤ 31) (a : AW ⟨Pg, 0, 31, false, []⟩ ir (RetK rs fun e _ => e = .ret v) (initT args) [] nilH) : APure Pg fn_ref13_Rap args v :=
  APure.of_nil (enter 0 hl a)
end ref13_Rap


namespace drive_Settle
noncomputable def cfg : Cfg := { pure := pures, pcs := [], raw := [], cuts := [], draws := [(2, [⟨2, false, [], []⟩, ⟨0, false, [], []⟩, ⟨1, false, [], []⟩, ⟨3, false, [], []⟩, ⟨4, false, [], []⟩, ⟨5, false, [], []⟩])], keep := [4, 5, 6] }
@[simp] noncomputable def r0 (_ : Unit) : List Stp := [S 2 (.box (.t 0)), S 4 (.mv (.c .nils)), S 5 (.mv (.c .nils)), S 6 (.alloc [(.int .i64 0)])]
@[simp] noncomputable def r1 (_ : Unit) : List Stp := [S 9 (.mkF (.func fn_drive_Settle_1) [] [(.t 6)]), SN (.defer (.t 9) [])]
@[simp] noncomputable def r2 (_ : Unit) : List Stp := [S 12 (.mv (.t 1)), S 10 (.load true 3 (.t 2)), S 11 (.load true 3 (.t 2)), SP 13 (.call (.c (.func (.func fn_drive_areBlows) [] [])) [(.t 11), (.t 12)]), S 14 (.call (.c (.func (.func fn_drive_open) [] [])) [(.t 10), (.t 13)]), S 7 (.mv (.t 14))]
@[simp] noncomputable def r3 (_ : Unit) : List Stp := [S 15 (.mv (.t 7)), S 16 (.call (.c (.func (.func fn_drive_hull_settler) [] [])) [(.t 15)]), S 17 (.mv (.t 1)), SP 18 (.call (.c (.func (.func fn_drive_blowsOf) [] [])) [(.t 17)]), S 19 (.call (.c (.func (.func fn_drive_settler_rest) [] [])) [(.t 16), (.t 18)]), S 8 (.alloc [(.int .i64 0), (.int .i64 0), (.int .i64 0), (.int .i64 0), (.int .i64 0), (.int .i64 0), (.int .i64 0), (.int .i64 0), (.int .i64 0), (.int .i64 0), (.int .i64 0), (.int .i64 0)]), SN (.store 12 (.t 8) (.t 19))]
@[simp] noncomputable def r4 (_ : Unit) : List Stp := [S 20 (.fAddr 0 (.t 8)), S 21 (.mv (.t 7)), SP 22 (.call (.c (.func (.func fn_drive_hull_seams) [] [])) [(.t 21)]), S 23 (.slA 6 1 (.t 20) none (some (.t 22)) none), S 24 (.call (.c (.func (.func fn_slices_Clone_int_int) [] [])) [(.t 23)]), S 25 (.fAddr 6 (.t 8)), S 26 (.mv (.t 7)), SP 27 (.call (.c (.func (.func fn_drive_hull_seams) [] [])) [(.t 26)]), S 28 (.slA 6 1 (.t 25) none (some (.t 27)) none), S 29 (.call (.c (.func (.func fn_slices_Clone_int_int) [] [])) [(.t 28)]), S 4 (.mv (.t 24)), S 5 (.mv (.t 29)), SN (.store 1 (.t 6) (.c (.int .i64 0)))]
@[simp] noncomputable def ir : IR := (.seq (.ops r0) (.seq (.ops r1) (.seq (.ops r2) (.seq (.ops r3) (.seq (.ops r4) .ret)))))
@[simp] noncomputable def rs : List RV := [.tmp 4, .tmp 5, .cell 6 false 1]
theorem comp : compF Pg cfg Tryz.f31 = some (ir, rs, 30) := by kernel_rfl
theorem enter {args : List AVal} {h : Heap} {K : AEnd → Heap → Prop} (F : Nat) (hl : args.length ≤ 30) (a : AW ⟨Pg, F, 30, false, [4, 5, 6]⟩ ir (RetD Pg rs K) (initT args) [] h) : ACalls Pg fn_drive_Settle args h K :=
  ACalls.of_comp_defer follows Tryz.func31 comp hl a
theorem pure {args : List AVal} {v : AVal} (hl : args.length ≤ 30) (a : AW ⟨Pg, 0, 30, false, [4, 5, 6]⟩ ir (RetD Pg rs fun e _ => e = .ret v) (initT args) [] nilH) : APure Pg fn_drive_Settle args v :=
  APure.of_nil (enter 0 hl a)
end drive_Settle


namespace law13_find
noncomputable def cfg : Cfg := { pure := pures, pcs := [], raw := [], cuts := [], draws := [], keep := [] }
@[simp] noncomputable def r0 (_ : Unit) : List Stp := [S 4 (.alloc [(.int .i64 0), (.bool false)])]
@[simp] noncomputable def r1 (_ : Unit) : List Stp := [S 5 (.mv (.t 0)), S 6 (.mv (.t 1)), S 7 (.build [(.int .i64 0), (.bool false)] [(0, 1, (.t 5)), (1, 1, (.t 6))]), SN (.store 2 (.t 4) (.t 7))]
@[simp] noncomputable def ir : IR := (.seq (.ops r0) (.seq (.ops r1) .ret))
@[simp] noncomputable def rs : List RV := [.cell 4 true 2]
theorem comp : compF Pg cfg Tryz.f33 = some (ir, rs, 8) := by kernel_rfl
theorem enter {args : List AVal} {h : Heap} {K : AEnd → Heap → Prop} (F : Nat) (hl : args.length ≤ 8) (a : AW ⟨Pg, F, 8, false, []⟩ ir (RetK rs K) (initT args) [] h) : ACalls Pg fn_law13_find args h K :=
  ACalls.of_comp follows Tryz.func33 comp hl a
theorem pure {args : List AVal} {v : AVal} (hl : args.length ≤ 8) (a : AW ⟨Pg, 0, 8, false, []⟩ ir (RetK rs fun e _ => e = .ret v) (initT args) [] nilH) : APure Pg fn_law13_find args v :=
  APure.of_nil (enter 0 hl a)
end law13_find


namespace law13_RapFewest_1
noncomputable def cfg : Cfg := { pure := pures, pcs := [], raw := [], cuts := [], draws := [(7, [⟨0, false, [], []⟩, ⟨2, false, [], []⟩, ⟨3, false, [], []⟩, ⟨1, false, [], []⟩, ⟨4, true, [], []⟩, ⟨5, false, [], []⟩, ⟨6, false, [], []⟩, ⟨7, false, [], []⟩])], keep := [] }
@[simp] noncomputable def r0 (_ : Unit) : List Stp := [S 3 (.mv (.c (.bool false)))]
@[simp] noncomputable def r1 (_ : Unit) : List Stp := [S 8 (.load true 4 (.t 1)), S 4 (.alloc [.nils, .nils, .nils, .nils]), SN (.store 4 (.t 4) (.t 8))]
@[simp] noncomputable def r2 (_ : Unit) : List Stp := [S 9 (.bsl 0 [] []), S 10 (.fAddr 3 (.t 1)), S 11 (.load false 1 (.t 10)), S 12 (.app 2 16 (.t 9) (.t 11)), S 13 (.fAddr 3 (.t 4)), SN (.store 1 (.t 13) (.t 12))]
@[simp] noncomputable def r3 (_ : Unit) : List Stp := [S 14 (.fAddr 0 (.t 1)), S 15 (.fAddr 0 (.t 14)), S 16 (.load false 1 (.t 15)), S 17 (.len (.t 16)), S 18 (.mv (.c (.int .i64 0)))]
@[simp] noncomputable def r4 (_ : Unit) : List Stp := [S 19 (.bin .lss (.t 18) (.t 17))]
@[simp] noncomputable def r5 (_ : Unit) : List Stp := [S 20 (.mv (.t 18)), S 5 (.mv (.t 20))]
@[simp] noncomputable def r6 (_ : Unit) : List Stp := [S 21 (.mv (.t 0)), S 22 (.mv (.t 5)), S 23 (.bin .shr (.t 21) (.t 22)), S 24 (.bin .and (.t 23) (.c (.int .i64 1))), S 25 (.bin .eql (.t 24) (.c (.int .i64 1)))]
@[simp] noncomputable def r7 (_ : Unit) : List Stp := [S 26 (.fAddr 3 (.t 4)), S 28 (.mv (.t 5)), SP 29 (.call (.c (.func (.func fn_law13_find) [] [])) [(.t 28), (.c (.bool false))]), S 27 (.load false 1 (.t 26)), SD (some 30) (.bsl 1 [(.int .i64 0), (.bool false)] [(0, 2, (.t 29))]) true [] [], S 31 (.app 2 16 (.t 27) (.t 30)), S 32 (.fAddr 3 (.t 4)), SN (.store 1 (.t 32) (.t 31))]
@[simp] noncomputable def r8 (_ : Unit) : List Stp := [S 33 (.bin .add (.t 18) (.c (.int .i64 1))), S 18 (.mv (.t 33))]
@[simp] noncomputable def r9 (_ : Unit) : List Stp := [S 35 (.load true 4 (.t 4)), SP 36 (.call (.c (.func (.func fn_rap_Sound) [] [])) [(.t 35)]), S 34 (.mv (.t 36)), S 37 (.ext (.t 34) 0), S 38 (.ext (.t 34) 1), S 6 (.mv (.t 37)), S 7 (.mv (.t 38))]
@[simp] noncomputable def r10 (_ : Unit) : List Stp := [S 39 (.mv (.t 7)), S 40 (.bin .eql (.t 39) (.c (.int .i64 0))), S 41 (.mv (.t 40)), SG 42 41 true (.mv (.t 6)), SG 43 41 true (.bin .eql (.t 42) (.c (.int .i64 2))), S 44 (.pick (.t 41) (.t 43) (.c (.bool false))), S 45 (.mv (.t 44)), SG 46 45 false (.mv (.t 7)), SG 47 45 false (.bin .eql (.t 46) (.c (.int .i64 10))), S 48 (.pick (.t 45) (.c (.bool true)) (.t 47)), S 3 (.mv (.t 48))]
@[simp] noncomputable def ir : IR := (.seq (.ops r0) (.seq (.ops r1) (.seq (.ops r2) (.seq (.seq (.ops r3) (.block 0 (.loop (.seq (.ops r4) (.seq (.cond (.t 19) .skip (.exit 0)) (.seq (.block 1 (.seq (.ops r5) (.seq (.ops r6) (.cond (.t 25) (.ops r7) .skip)))) (.ops r8))))))) (.seq (.ops r9) (.seq (.ops r10) .ret))))))
@[simp] noncomputable def rs : List RV := [.tmp 3]
theorem comp : compF Pg cfg Tryz.f35 = some (ir, rs, 49) := by kernel_rfl
theorem enter {args : List AVal} {h : Heap} {K : AEnd → Heap → Prop} (F : Nat) (hl : args.length ≤ 49) (a : AW ⟨Pg, F, 49, false, []⟩ ir (RetK rs K) (initT args) [] h) : ACalls Pg fn_law13_RapFewest_1 args h K :=
  ACalls.of_comp follows Tryz.func35 comp hl a
theorem pure {args : List AVal} {v : AVal} (hl : args.length ≤ 49) (a : AW ⟨Pg, 0, 49, false, []⟩ ir (RetK rs fun e _ => e = .ret v) (initT args) [] nilH) : APure Pg fn_law13_RapFewest_1 args v :=
  APure.of_nil (enter 0 hl a)
end law13_RapFewest_1

namespace ref13_Size
noncomputable def cfg : Cfg := { pure := pures, pcs := [], raw := [], cuts := [], draws := [], keep := [] }
@[simp] noncomputable def r0 (_ : Unit) : List Stp := [S 2 (.mv (.c (.int .i64 0)))]
@[simp] noncomputable def r1 (_ : Unit) : List Stp := [S 3 (.mv (.c (.int .i64 0)))]
@[simp] noncomputable def r2 (_ : Unit) : List Stp := [S 4 (.mv (.t 0)), S 5 (.bin .gtr (.t 4) (.c (.int .i64 0)))]
@[simp] noncomputable def r3 (_ : Unit) : List Stp := [S 6 (.mv (.t 3)), S 7 (.mv (.t 0)), S 8 (.bin .rem (.t 7) (.c (.int .i64 2))), S 9 (.bin .add (.t 6) (.t 8)), S 3 (.mv (.t 9))]
@[simp] noncomputable def r4 (_ : Unit) : List Stp := [S 10 (.mv (.t 0)), S 11 (.bin .quo (.t 10) (.c (.int .i64 2))), S 0 (.mv (.t 11))]
@[simp] noncomputable def r5 (_ : Unit) : List Stp := [S 12 (.mv (.t 3)), S 2 (.mv (.t 12))]
@[simp] noncomputable def ir : IR := (.seq (.ops r0) (.seq (.ops r1) (.seq (.block 0 (.loop (.seq (.seq (.ops r2) (.cond (.t 5) .skip (.exit 0))) (.block 1 (.seq (.ops r3) (.ops r4)))))) (.seq (.ops r5) .ret))))
@[simp] noncomputable def rs : List RV := [.tmp 2]
theorem comp : compF Pg cfg Tryz.f36 = some (ir, rs, 13) := by kernel_rfl
theorem enter {args : List AVal} {h : Heap} {K : AEnd → Heap → Prop} (F : Nat) (hl : args.length ≤ 13) (a : AW ⟨Pg, F, 13, false, []⟩ ir (RetK rs K) (initT args) [] h) : ACalls Pg fn_ref13_Size args h K :=
  ACalls.of_comp follows Tryz.func36 comp hl a
theorem pure {args : List AVal} {v : AVal} (hl : args.length ≤ 13) (a : AW ⟨Pg, 0, 13, false, []⟩ ir (RetK rs fun e _ => e = .ret v) (initT args) [] nilH) : APure Pg fn_ref13_Size args v :=
  APure.of_nil (enter 0 hl a)
end ref13_Size

namespace law13_RapNext_1
noncomputable def cfg : Cfg := { pure := [12, 13, 14, 15, 17, 18, 19, 20, 21, 22, 23, 24, 25, 26, 27, 28, 29, 32, 33, 34, 36, 40, 45, 46, 47, 48, 51, 52, 53, 56, 57, 62, 64, 68, 71, 72, 77, 78, 79, 84, 87, 89, 91, 92, 93, 94, 95, 96, 97, 98, 99, 100, 106, 107, 109, 110, 111, 112, 113, 114, 115, 116, 120, 121, 126, 127, 128, 160, 161], pcs := [], raw := [], cuts := [], draws := [], keep := [] }
@[simp] noncomputable def r0 (_ : Unit) : List Stp := [S 3 (.mv (.c (.int .i64 0)))]
@[simp] noncomputable def r1 (_ : Unit) : List Stp := [S 9 (.bsl 2 [(.bool false), (.bool false)] [(0, 1, (.c (.bool true))), (1, 1, (.c (.bool false)))]), S 10 (.len (.t 9)), S 11 (.mv (.c (.int .i64 0)))]
@[simp] noncomputable def r2 (_ : Unit) : List Stp := [S 12 (.bin .lss (.t 11) (.t 10))]
@[simp] noncomputable def r3 (_ : Unit) : List Stp := [S 13 (.ixS 1 (.t 9) (.t 11)), S 14 (.load false 1 (.t 13)), S 5 (.mv (.t 14))]
@[simp] noncomputable def r4 (_ : Unit) : List Stp := [S 15 (.load true 4 (.t 1)), S 6 (.alloc [.nils, .nils, .nils, .nils]), SN (.store 4 (.t 6) (.t 15))]
@[simp] noncomputable def r5 (_ : Unit) : List Stp := [S 16 (.bsl 0 [] []), S 17 (.fAddr 3 (.t 1)), S 18 (.load false 1 (.t 17)), S 19 (.app 2 16 (.t 16) (.t 18)), S 20 (.mv (.t 0)), S 21 (.mv (.t 5)), SP 22 (.call (.c (.func (.func fn_law13_find) [] [])) [(.t 20), (.t 21)]), S 23 (.bsl 1 [(.int .i64 0), (.bool false)] [(0, 2, (.t 22))]), S 24 (.app 2 16 (.t 19) (.t 23)), S 25 (.fAddr 3 (.t 6)), SN (.store 1 (.t 25) (.t 24))]
@[simp] noncomputable def r6 (_ : Unit) : List Stp := [S 27 (.load true 4 (.t 6)), S 28 (.call (.c (.func (.func fn_rap_Sets) [] [])) [(.t 27)]), S 26 (.mv (.t 28)), S 29 (.ext (.t 26) 0), S 30 (.ext (.t 26) 1), S 7 (.mv (.t 29)), S 8 (.mv (.t 30))]
@[simp] noncomputable def r7 (_ : Unit) : List Stp := [S 31 (.mv (.t 8)), S 32 (.bin .neq (.t 31) (.c (.int .i64 0))), S 33 (.mv (.t 32)), SG 34 33 true (.mv (.t 8)), SG 35 33 true (.bin .neq (.t 34) (.c (.int .i64 10))), S 36 (.pick (.t 33) (.t 35) (.c (.bool false)))]
@[simp] noncomputable def r8 (_ : Unit) : List Stp := [S 3 (.mv (.c (.int .i64 (-1))))]
@[simp] noncomputable def r9 (_ : Unit) : List Stp := [S 37 (.mv (.t 3)), S 38 (.mv (.t 7)), S 39 (.len (.t 38)), S 40 (.mm true [(.t 37), (.t 39)]), S 3 (.mv (.t 40))]
@[simp] noncomputable def r10 (_ : Unit) : List Stp := [S 41 (.bin .add (.t 11) (.c (.int .i64 1))), S 11 (.mv (.t 41))]
@[simp] noncomputable def r11 (_ : Unit) : List Stp := [S 42 (.mv (.t 3)), S 3 (.mv (.t 42))]
@[simp] noncomputable def ir : IR := (.seq (.ops r0) (.seq (.seq (.ops r1) (.block 0 (.loop (.seq (.ops r2) (.seq (.cond (.t 12) .skip (.exit 0)) (.seq (.block 1 (.seq (.ops r3) (.seq (.ops r4) (.seq (.ops r5) (.seq (.ops r6) (.seq (.seq (.ops r7) (.cond (.t 36) (.seq (.ops r8) .ret) .skip)) (.ops r9))))))) (.ops r10))))))) (.seq (.ops r11) .ret)))
@[simp] noncomputable def rs : List RV := [.tmp 3]
theorem comp : compF Pg cfg Tryz.f37 = some (ir, rs, 43) := by kernel_rfl
theorem enter {args : List AVal} {h : Heap} {K : AEnd → Heap → Prop} (F : Nat) (hl : args.length ≤ 43) (a : AW ⟨Pg, F, 43, false, []⟩ ir (RetK rs K) (initT args) [] h) : ACalls Pg fn_law13_RapNext_1 args h K :=
  ACalls.of_comp follows Tryz.func37 comp hl a
theorem pure {args : List AVal} {v : AVal} (hl : args.length ≤ 43) (a : AW ⟨Pg, 0, 43, false, []⟩ ir (RetK rs fun e _ => e = .ret v) (initT args) [] nilH) : APure Pg fn_law13_RapNext_1 args v :=
  APure.of_nil (enter 0 hl a)
end law13_RapNext_1

namespace law13_RapWrong_1
noncomputable def cfg : Cfg := { pure := pures, pcs := [], raw := [], cuts := [], draws := [], keep := [] }
@[simp] noncomputable def r0 (_ : Unit) : List Stp := [S 3 (.mv (.c (.bool false)))]
@[simp] noncomputable def r1 (_ : Unit) : List Stp := [S 9 (.load true 4 (.t 1)), S 4 (.alloc [.nils, .nils, .nils, .nils]), SN (.store 4 (.t 4) (.t 9))]
@[simp] noncomputable def r2 (_ : Unit) : List Stp := [S 10 (.fAddr 3 (.t 4)), SN (.store 1 (.t 10) (.c .nils))]
@[simp] noncomputable def r3 (_ : Unit) : List Stp := [S 11 (.fAddr 3 (.t 1)), S 12 (.load false 1 (.t 11)), S 13 (.len (.t 12)), S 14 (.mv (.c (.int .i64 0)))]
@[simp] noncomputable def r4 (_ : Unit) : List Stp := [S 15 (.bin .lss (.t 14) (.t 13))]
@[simp] noncomputable def r5 (_ : Unit) : List Stp := [S 16 (.mv (.t 14)), S 17 (.ixS 2 (.t 12) (.t 14)), S 18 (.load true 2 (.t 17)), S 6 (.alloc [(.int .i64 0), (.bool false)]), S 5 (.mv (.t 16)), SN (.store 2 (.t 6) (.t 18))]
@[simp] noncomputable def r6 (_ : Unit) : List Stp := [S 19 (.mv (.t 0)), S 20 (.mv (.t 5)), S 21 (.bin .shr (.t 19) (.t 20)), S 22 (.bin .and (.t 21) (.c (.int .i64 1))), S 23 (.bin .eql (.t 22) (.c (.int .i64 0)))]
@[simp] noncomputable def r7 (_ : Unit) : List Stp := [S 24 (.fAddr 3 (.t 4)), S 25 (.load false 1 (.t 24)), S 26 (.load true 2 (.t 6)), S 27 (.bsl 1 [(.int .i64 0), (.bool false)] [(0, 2, (.t 26))]), S 28 (.app 2 16 (.t 25) (.t 27)), S 29 (.fAddr 3 (.t 4)), SN (.store 1 (.t 29) (.t 28))]
@[simp] noncomputable def r8 (_ : Unit) : List Stp := [S 30 (.bin .add (.t 14) (.c (.int .i64 1))), S 14 (.mv (.t 30))]
@[simp] noncomputable def r9 (_ : Unit) : List Stp := [S 32 (.load true 4 (.t 4)), SP 33 (.call (.c (.func (.func fn_rap_Sets) [] [])) [(.t 32)]), S 31 (.mv (.t 33)), S 34 (.ext (.t 31) 0), S 35 (.ext (.t 31) 1), S 7 (.mv (.t 34)), S 8 (.mv (.t 35))]
@[simp] noncomputable def r10 (_ : Unit) : List Stp := [S 36 (.mv (.t 8)), S 37 (.bin .eql (.t 36) (.c (.int .i64 0))), S 3 (.mv (.t 37))]
@[simp] noncomputable def ir : IR := (.seq (.ops r0) (.seq (.ops r1) (.seq (.ops r2) (.seq (.seq (.ops r3) (.block 0 (.loop (.seq (.ops r4) (.seq (.cond (.t 15) .skip (.exit 0)) (.seq (.block 1 (.seq (.ops r5) (.seq (.ops r6) (.cond (.t 23) (.ops r7) .skip)))) (.ops r8))))))) (.seq (.ops r9) (.seq (.ops r10) .ret))))))
@[simp] noncomputable def rs : List RV := [.tmp 3]
theorem comp : compF Pg cfg Tryz.f38 = some (ir, rs, 38) := by kernel_rfl
theorem enter {args : List AVal} {h : Heap} {K : AEnd → Heap → Prop} (F : Nat) (hl : args.length ≤ 38) (a : AW ⟨Pg, F, 38, false, []⟩ ir (RetK rs K) (initT args) [] h) : ACalls Pg fn_law13_RapWrong_1 args h K :=
  ACalls.of_comp follows Tryz.func38 comp hl a
theorem pure {args : List AVal} {v : AVal} (hl : args.length ≤ 38) (a : AW ⟨Pg, 0, 38, false, []⟩ ir (RetK rs fun e _ => e = .ret v) (initT args) [] nilH) : APure Pg fn_law13_RapWrong_1 args v :=
  APure.of_nil (enter 0 hl a)
end law13_RapWrong_1


namespace drive_Opens
noncomputable def cfg : Cfg := { pure := pures, pcs := [], raw := [], cuts := [], draws := [(3, [⟨0, false, [], []⟩, ⟨1, false, [], []⟩, ⟨2, false, [], []⟩, ⟨3, false, [], []⟩, ⟨4, false, [], []⟩, ⟨5, false, [], []⟩, ⟨6, false, [], []⟩, ⟨7, false, [], []⟩, ⟨8, false, [], []⟩])], keep := [2, 3, 4] }
@[simp] noncomputable def r0 (_ : Unit) : List Stp := [S 1 (.box (.t 0)), S 2 (.mv (.c (.int .i64 0))), S 3 (.mv (.c (.int .i64 0))), S 4 (.alloc [(.int .i64 0)])]
@[simp] noncomputable def r1 (_ : Unit) : List Stp := [S 7 (.mkF (.func fn_drive_Opens_1) [] [(.t 4)]), SN (.defer (.t 7) [])]
@[simp] noncomputable def r2 (_ : Unit) : List Stp := [S 9 (.load true 3 (.t 1)), S 10 (.call (.c (.func (.func fn_drive_open) [] [])) [(.t 9), (.c (.bool true))]), SP 11 (.call (.c (.func (.func fn_drive_hull_times) [] [])) [(.t 10)]), S 8 (.mv (.t 11)), S 12 (.ext (.t 8) 0), S 13 (.ext (.t 8) 1), S 5 (.alloc [(.int .i64 0), (.int .i64 0), (.int .i64 0), (.int .i64 0), (.int .i64 0), (.int .i64 0)]), S 6 (.alloc [(.int .i64 0), (.int .i64 0), (.int .i64 0), (.int .i64 0), (.int .i64 0), (.int .i64 0)]), SN (.store 6 (.t 5) (.t 12)), SN (.store 6 (.t 6) (.t 13))]
@[simp] noncomputable def r3 (_ : Unit) : List Stp := [S 14 (.load true 6 (.t 6)), S 15 (.build [(.int .i64 0), (.int .i64 0), (.int .i64 0), (.int .i64 0), (.int .i64 0), (.int .i64 0), (.int .i64 0), (.int .i64 0), (.int .i64 0), (.int .i64 0), (.int .i64 0), (.int .i64 0)] [(6, 6, (.t 14))]), SP 16 (.call (.c (.func (.func fn_drive_rest_open) [] [])) [(.t 15)]), S 17 (.load true 6 (.t 5)), S 18 (.build [(.int .i64 0), (.int .i64 0), (.int .i64 0), (.int .i64 0), (.int .i64 0), (.int .i64 0), (.int .i64 0), (.int .i64 0), (.int .i64 0), (.int .i64 0), (.int .i64 0), (.int .i64 0)] [(6, 6, (.t 17))]), SP 19 (.call (.c (.func (.func fn_drive_rest_open) [] [])) [(.t 18)]), S 2 (.mv (.t 16)), S 3 (.mv (.t 19)), SN (.store 1 (.t 4) (.c (.int .i64 0)))]
@[simp] noncomputable def ir : IR := (.seq (.ops r0) (.seq (.ops r1) (.seq (.ops r2) (.seq (.nk (.ops r3)) .ret))))
@[simp] noncomputable def rs : List RV := [.tmp 2, .tmp 3, .cell 4 false 1]
theorem comp : compF Pg cfg Tryz.f40 = some (ir, rs, 20) := by kernel_rfl
theorem enter {args : List AVal} {h : Heap} {K : AEnd → Heap → Prop} (F : Nat) (hl : args.length ≤ 20) (a : AW ⟨Pg, F, 20, false, [2, 3, 4]⟩ ir (RetD Pg rs K) (initT args) [] h) : ACalls Pg fn_drive_Opens args h K :=
  ACalls.of_comp_defer follows Tryz.func40 comp hl a
theorem pure {args : List AVal} {v : AVal} (hl : args.length ≤ 20) (a : AW ⟨Pg, 0, 20, false, [2, 3, 4]⟩ ir (RetD Pg rs fun e _ => e = .ret v) (initT args) [] nilH) : APure Pg fn_drive_Opens args v :=
  APure.of_nil (enter 0 hl a)
end drive_Opens

namespace law13_sample
noncomputable def cfg : Cfg := { pure := pures, pcs := [], raw := [], cuts := [], draws := [], keep := [] }
@[simp] noncomputable def r0 (_ : Unit) : List Stp := [S 2 (.alloc [.nils, .nils, .nils, .nils])]
@[simp] noncomputable def r1 (_ : Unit) : List Stp := [S 3 (.bsl 4 [(.int .i64 0), (.int .i64 0), (.int .i64 0), (.int .i64 0)] [(0, 1, (.c (.int .i64 3))), (1, 1, (.c (.int .i64 3))), (2, 1, (.c (.int .i64 3))), (3, 1, (.c (.int .i64 3)))]), S 4 (.build [(.int .i64 0), (.int .i64 0)] [(0, 1, (.c (.int .i64 0))), (1, 1, (.c (.int .i64 1)))]), S 5 (.build [(.int .i64 0), (.int .i64 0)] [(0, 1, (.c (.int .i64 1))), (1, 1, (.c (.int .i64 2)))]), S 6 (.build [(.int .i64 0), (.int .i64 0)] [(0, 1, (.c (.int .i64 2))), (1, 1, (.c (.int .i64 3)))]), S 7 (.bsl 3 [(.int .i64 0), (.int .i64 0), (.int .i64 0), (.int .i64 0), (.int .i64 0), (.int .i64 0)] [(0, 2, (.t 4)), (2, 2, (.t 5)), (4, 2, (.t 6))]), SP 8 (.call (.c (.func (.func fn_law13_span) [] [])) [(.c (.int .i64 2)), (.c (.int .i64 3))]), SP 9 (.call (.c (.func (.func fn_law13_span) [] [])) [(.c (.int .i64 0)), (.c (.int .i64 0))]), SP 10 (.call (.c (.func (.func fn_law13_span) [] [])) [(.c (.int .i64 0)), (.c (.int .i64 0))]), SP 11 (.call (.c (.func (.func fn_law13_span) [] [])) [(.c (.int .i64 1)), (.c (.int .i64 3))]), S 12 (.bsl 4 [(.int .i64 0), (.int .i64 0), (.int .i64 0), (.int .i64 0), (.int .i64 0), (.int .i64 0), (.int .i64 0), (.int .i64 0)] [(0, 2, (.t 8)), (2, 2, (.t 9)), (4, 2, (.t 10)), (6, 2, (.t 11))]), S 13 (.build [.nils, .nils, .nils] [(0, 1, (.t 3)), (1, 1, (.t 7)), (2, 1, (.t 12))]), S 14 (.mv (.t 0)), S 15 (.build [.nils, .nils, .nils, .nils] [(0, 3, (.t 13)), (3, 1, (.t 14))]), SN (.store 4 (.t 2) (.t 15))]
@[simp] noncomputable def ir : IR := (.seq (.ops r0) (.seq (.ops r1) .ret))
@[simp] noncomputable def rs : List RV := [.cell 2 true 4]
theorem comp : compF Pg cfg Tryz.f41 = some (ir, rs, 16) := by kernel_rfl
theorem enter {args : List AVal} {h : Heap} {K : AEnd → Heap → Prop} (F : Nat) (hl : args.length ≤ 16) (a : AW ⟨Pg, F, 16, false, []⟩ ir (RetK rs K) (initT args) [] h) : ACalls Pg fn_law13_sample args h K :=
  ACalls.of_comp follows Tryz.func41 comp hl a
theorem pure {args : List AVal} {v : AVal} (hl : args.length ≤ 16) (a : AW ⟨Pg, 0, 16, false, []⟩ ir (RetK rs fun e _ => e = .ret v) (initT args) [] nilH) : APure Pg fn_law13_sample args v :=
  APure.of_nil (enter 0 hl a)
end law13_sample

namespace rap_Dull_1
noncomputable def cfg : Cfg := { pure := pures, pcs := [], raw := [], cuts := [], draws := [], keep := [] }
@[simp] noncomputable def r0 (_ : Unit) : List Stp := [S 1 (.recov), S 2 (.call (.c (.func (.func fn_rap_said) [] [])) [(.t 1), (.t 0)])]
@[simp] noncomputable def ir : IR := (.ops r0)
@[simp] noncomputable def rs : List RV := []
theorem comp : compF Pg cfg Tryz.f42 = some (ir, rs, 3) := by kernel_rfl
theorem enter {args : List AVal} {h : Heap} {K : AEnd → Heap → Prop} (F : Nat) (hl : args.length ≤ 3) (a : AW ⟨Pg, F, 3, false, []⟩ ir (RetK rs K) (initT args) [] h) : ACalls Pg fn_rap_Dull_1 args h K :=
  ACalls.of_comp follows Tryz.func42 comp hl a
theorem pure {args : List AVal} {v : AVal} (hl : args.length ≤ 3) (a : AW ⟨Pg, 0, 3, false, []⟩ ir (RetK rs fun e _ => e = .ret v) (initT args) [] nilH) : APure Pg fn_rap_Dull_1 args v :=
  APure.of_nil (enter 0 hl a)
theorem recClo : RecClo Pg fn_rap_Dull_1 fn_rap_said := ⟨_, Tryz.func42, by kernel_rfl⟩
end rap_Dull_1

namespace rap_said
noncomputable def cfg : Cfg := { pure := pures, pcs := [], raw := [], cuts := [], draws := [], keep := [] }
@[simp] noncomputable def r0 (_ : Unit) : List Stp := [S 6 (.mv (.t 0)), S 7 (.eqN .i false (.t 6))]
@[simp] noncomputable def r1 (_ : Unit) : List Stp := [S 9 (.mv (.t 0)), S 10 (.tyAs 120 true (.agg [(.int .i64 0)]) (.t 9)), S 8 (.mv (.t 10)), S 11 (.ext (.t 8) 0), S 12 (.ext (.t 8) 1), S 4 (.alloc [(.int .i64 0)]), SN (.store 1 (.t 4) (.t 11)), S 5 (.mv (.t 12))]
@[simp] noncomputable def r2 (_ : Unit) : List Stp := [S 13 (.mv (.t 5)), S 14 (.un .not (.t 13))]
@[simp] noncomputable def r3 (_ : Unit) : List Stp := [S 15 (.mv (.t 0)), SN (.panic (.t 15))]
@[simp] noncomputable def r4 (_ : Unit) : List Stp := [S 16 (.mv (.t 1)), S 17 (.fAddr 0 (.t 4)), S 18 (.load false 1 (.t 17)), S 19 (.nilck Pg (.t 16)), SN (.store 1 (.t 19) (.t 18))]
@[simp] noncomputable def ir : IR := (.seq (.seq (.ops r0) (.cond (.t 7) .ret .skip)) (.seq (.ops r1) (.seq (.seq (.ops r2) (.cond (.t 14) (.ops r3) .skip)) (.ops r4))))
@[simp] noncomputable def rs : List RV := []
theorem comp : compF Pg cfg Tryz.f43 = some (ir, rs, 20) := by kernel_rfl
theorem enter {args : List AVal} {h : Heap} {K : AEnd → Heap → Prop} (F : Nat) (hl : args.length ≤ 20) (a : AW ⟨Pg, F, 20, false, []⟩ ir (RetK rs K) (initT args) [] h) : ACalls Pg fn_rap_said args h K :=
  ACalls.of_comp follows Tryz.func43 comp hl a
theorem pure {args : List AVal} {v : AVal} (hl : args.length ≤ 20) (a : AW ⟨Pg, 0, 20, false, []⟩ ir (RetK rs fun e _ => e = .ret v) (initT args) [] nilH) : APure Pg fn_rap_said args v :=
  APure.of_nil (enter 0 hl a)
end rap_said

namespace rap_open
noncomputable def cfg : Cfg := { pure := pures, pcs := [], raw := [], cuts := [], draws := [(13, [⟨0, false, [], []⟩, ⟨1, false, [], []⟩, ⟨2, false, [], []⟩, ⟨3, false, [], []⟩, ⟨4, false, [], []⟩, ⟨5, false, [], []⟩, ⟨6, false, [], []⟩, ⟨7, false, [], []⟩]), (18, [⟨0, false, [], []⟩, ⟨1, false, [], []⟩, ⟨3, false, [], []⟩, ⟨4, false, [], []⟩, ⟨6, false, [], []⟩, ⟨7, false, [], []⟩, ⟨9, false, [], []⟩, ⟨10, false, [], []⟩, ⟨13, false, [], []⟩, ⟨18, false, [], []⟩, ⟨19, false, [], []⟩, ⟨21, false, [], []⟩, ⟨22, false, [], []⟩, ⟨25, false, [], []⟩, ⟨30, false, [], []⟩, ⟨31, false, [], []⟩, ⟨34, false, [], []⟩, ⟨35, false, [], []⟩, ⟨2, false, [], []⟩, ⟨5, false, [], []⟩, ⟨8, false, [], []⟩, ⟨11, false, [], []⟩, ⟨12, false, [], []⟩, ⟨14, false, [], []⟩, ⟨15, false, [], []⟩, ⟨20, false, [], []⟩, ⟨23, false, [], []⟩, ⟨24, false, [], []⟩, ⟨26, false, [], []⟩, ⟨27, false, [], []⟩, ⟨16, true, [], []⟩, ⟨17, false, [28], [2, 5, 20, 24, 26]⟩, ⟨28, true, [], []⟩, ⟨29, false, [], [2, 5]⟩, ⟨32, false, [], []⟩, ⟨33, false, [], [5]⟩, ⟨36, false, [], []⟩, ⟨37, false, [], []⟩])], keep := [] }
@[simp] noncomputable def r0 (_ : Unit) : List Stp := [S 2 (.box (.t 0)), S 4 (.mv (.c .nilp))]
@[simp] noncomputable def r1 (_ : Unit) : List Stp := [S 14 (.fAddr 0 (.t 2)), S 15 (.load true 3 (.t 14)), SP 16 (.call (.c (.func (.func fn_drive_Times) [] [])) [(.t 15), (.c (.int .i64 (-1)))]), S 13 (.mv (.t 16)), S 17 (.ext (.t 13) 0), S 18 (.ext (.t 13) 1), S 5 (.alloc [(.int .i64 0), (.int .i64 0)]), SN (.store 2 (.t 5) (.t 17)), S 6 (.mv (.t 18))]
@[simp] noncomputable def r2 (_ : Unit) : List Stp := [S 19 (.mv (.t 6)), S 20 (.bin .eql (.t 19) (.c (.int .i64 2))), S 21 (.mv (.t 20)), SG 22 21 true (.fAddr 3 (.t 2)), SG 23 21 true (.load false 1 (.t 22)), SG 24 21 true (.len (.t 23)), SG 25 21 true (.bin .leq (.t 24) (.c (.int .i64 10))), S 26 (.pick (.t 21) (.t 25) (.c (.bool false))), S 27 (.call (.c (.func (.func fn_rap_want) [] [])) [(.t 26), (.c (.int .i64 1))])]
@[simp] noncomputable def r3 (_ : Unit) : List Stp := [S 28 (.fAddr 3 (.t 2)), S 29 (.load false 1 (.t 28)), S 30 (.len (.t 29)), S 31 (.mv (.c (.int .i64 0)))]
@[simp] noncomputable def r4 (_ : Unit) : List Stp := [S 32 (.bin .lss (.t 31) (.t 30))]
@[simp] noncomputable def r5 (_ : Unit) : List Stp := [S 33 (.ixS 2 (.t 29) (.t 31)), S 34 (.load true 2 (.t 33)), S 8 (.alloc [(.int .i64 0), (.bool false)]), SN (.store 2 (.t 8) (.t 34))]
@[simp] noncomputable def r6 (_ : Unit) : List Stp := [S 35 (.fAddr 0 (.t 8)), S 36 (.load false 1 (.t 35)), S 37 (.fAddr 0 (.t 2)), S 38 (.fAddr 0 (.t 37)), S 39 (.load false 1 (.t 38)), S 40 (.len (.t 39)), S 41 (.bin .sub (.t 40) (.c (.int .i64 1))), SP 42 (.call (.c (.func (.func fn_rap_within) [] [])) [(.t 36), (.c (.int .i64 0)), (.t 41)]), S 43 (.call (.c (.func (.func fn_rap_want) [] [])) [(.t 42), (.c (.int .i64 1))])]
@[simp] noncomputable def r7 (_ : Unit) : List Stp := [S 44 (.bin .add (.t 31) (.c (.int .i64 1))), S 31 (.mv (.t 44))]
@[simp] noncomputable def r8 (_ : Unit) : List Stp := [S 45 (.mv (.t 1)), S 46 (.call (.c (.func (.func fn_rap_want) [] [])) [(.t 45), (.c (.int .i64 2))])]
@[simp] noncomputable def r9 (_ : Unit) : List Stp := [S 47 (.load true 4 (.t 2)), S 48 (.build [.nils, .nils, .nils, .nils, (.int .u64 0), (.int .u64 0), (.int .u64 0), (.int .u64 0), (.int .u64 0), (.int .u64 0)] [(0, 4, (.t 47))]), S 49 (.box (.t 48)), S 9 (.mv (.t 49))]
@[simp] noncomputable def r10 (_ : Unit) : List Stp := [S 50 (.fAddr 0 (.t 2)), S 51 (.fAddr 0 (.t 50)), S 52 (.load false 1 (.t 51)), S 53 (.len (.t 52)), S 54 (.mv (.c (.int .i64 0)))]
@[simp] noncomputable def r11 (_ : Unit) : List Stp := [S 55 (.bin .lss (.t 54) (.t 53))]
@[simp] noncomputable def r12 (_ : Unit) : List Stp := [S 56 (.mv (.t 54)), S 10 (.mv (.t 56))]
@[simp] noncomputable def r13 (_ : Unit) : List Stp := [S 57 (.mv (.t 9)), S 58 (.mv (.t 10)), S 59 (.mv (.t 10)), S 60 (.bin .shl (.c (.int .u64 1)) (.t 59)), S 61 (.nilck Pg (.t 57)), S 62 (.fAddr 4 (.t 61)), S 63 (.ixA 6 1 (.t 62) (.t 58)), SN (.store 1 (.t 63) (.t 60))]
@[simp] noncomputable def r14 (_ : Unit) : List Stp := [S 64 (.bin .add (.t 54) (.c (.int .i64 1))), S 54 (.mv (.t 64))]
@[simp] noncomputable def r15 (_ : Unit) : List Stp := [S 65 (.fAddr 0 (.t 2)), S 66 (.fAddr 1 (.t 65)), S 67 (.load false 1 (.t 66)), S 68 (.len (.t 67)), S 69 (.mv (.c (.int .i64 0)))]
@[simp] noncomputable def r16 (_ : Unit) : List Stp := [S 70 (.bin .lss (.t 69) (.t 68))]
@[simp] noncomputable def r17 (_ : Unit) : List Stp := [S 71 (.ixS 2 (.t 67) (.t 69)), S 72 (.load true 2 (.t 71)), S 12 (.alloc [(.int .i64 0), (.int .i64 0)]), SN (.store 2 (.t 12) (.t 72))]
@[simp] noncomputable def r18 (_ : Unit) : List Stp := [S 73 (.mv (.t 9)), S 74 (.ixA 2 1 (.t 12) (.c (.int .i64 0))), S 76 (.mv (.t 9)), S 77 (.ixA 2 1 (.t 12) (.c (.int .i64 1))), S 79 (.mv (.t 9)), S 80 (.ixA 2 1 (.t 12) (.c (.int .i64 0))), S 82 (.nilck Pg (.t 79)), S 83 (.fAddr 4 (.t 82)), S 86 (.ixA 2 1 (.t 12) (.c (.int .i64 1))), S 91 (.mv (.t 9)), S 92 (.ixA 2 1 (.t 12) (.c (.int .i64 1))), S 94 (.nilck Pg (.t 91)), S 95 (.fAddr 4 (.t 94)), S 98 (.ixA 2 1 (.t 12) (.c (.int .i64 0))), S 103 (.nilck Pg (.t 73)), S 104 (.fAddr 4 (.t 103)), S 106 (.nilck Pg (.t 76)), S 107 (.fAddr 4 (.t 106)), S 75 (.load false 1 (.t 74)), S 78 (.load false 1 (.t 77)), S 81 (.load false 1 (.t 80)), S 84 (.ixA 6 1 (.t 83) (.t 81)), S 85 (.load false 1 (.t 84)), S 87 (.load false 1 (.t 86)), S 88 (.bin .shl (.c (.int .u64 1)) (.t 87)), S 93 (.load false 1 (.t 92)), S 96 (.ixA 6 1 (.t 95) (.t 93)), S 97 (.load false 1 (.t 96)), S 99 (.load false 1 (.t 98)), S 100 (.bin .shl (.c (.int .u64 1)) (.t 99)), SD (some 89) (.bsl 2 [(.int .u64 0), (.int .u64 0)] [(0, 1, (.t 85)), (1, 1, (.t 88))]) true [] [], SD (some 90) (.call (.c (.func (.func fn_rap_union) [] [])) [(.t 89)]) false [I 101 (.bsl 2 [(.int .u64 0), (.int .u64 0)] [(0, 1, (.t 97)), (1, 1, (.t 100))])] [I 75 (.load false 1 (.t 74)), I 78 (.load false 1 (.t 77)), I 93 (.load false 1 (.t 92)), I 97 (.load false 1 (.t 96)), I 99 (.load false 1 (.t 98))], SD (some 101) (.bsl 2 [(.int .u64 0), (.int .u64 0)] [(0, 1, (.t 97)), (1, 1, (.t 100))]) true [] [], SD (some 102) (.call (.c (.func (.func fn_rap_union) [] [])) [(.t 101)]) false [] [I 75 (.load false 1 (.t 74)), I 78 (.load false 1 (.t 77))], S 105 (.ixA 6 1 (.t 104) (.t 75)), SD none (.store 1 (.t 105) (.t 90)) false [] [I 78 (.load false 1 (.t 77))], S 108 (.ixA 6 1 (.t 107) (.t 78)), SN (.store 1 (.t 108) (.t 102))]
@[simp] noncomputable def r19 (_ : Unit) : List Stp := [S 109 (.bin .add (.t 69) (.c (.int .i64 1))), S 69 (.mv (.t 109))]
@[simp] noncomputable def r20 (_ : Unit) : List Stp := [S 110 (.mv (.t 9)), S 4 (.mv (.t 110))]
@[simp] noncomputable def ir : IR := (.seq (.ops r0) (.seq (.ops r1) (.seq (.ops r2) (.seq (.seq (.ops r3) (.block 0 (.loop (.seq (.ops r4) (.seq (.cond (.t 32) .skip (.exit 0)) (.seq (.block 1 (.seq (.ops r5) (.ops r6))) (.ops r7))))))) (.seq (.ops r8) (.seq (.ops r9) (.seq (.seq (.ops r10) (.block 2 (.loop (.seq (.ops r11) (.seq (.cond (.t 55) .skip (.exit 2)) (.seq (.block 3 (.seq (.ops r12) (.ops r13))) (.ops r14))))))) (.seq (.seq (.ops r15) (.block 4 (.loop (.seq (.ops r16) (.seq (.cond (.t 70) .skip (.exit 4)) (.seq (.block 5 (.seq (.ops r17) (.ops r18))) (.ops r19))))))) (.seq (.ops r20) .ret)))))))))
@[simp] noncomputable def rs : List RV := [.tmp 4]
theorem comp : compF Pg cfg Tryz.f44 = some (ir, rs, 111) := by kernel_rfl
theorem enter {args : List AVal} {h : Heap} {K : AEnd → Heap → Prop} (F : Nat) (hl : args.length ≤ 111) (a : AW ⟨Pg, F, 111, false, []⟩ ir (RetK rs K) (initT args) [] h) : ACalls Pg fn_rap_open args h K :=
  ACalls.of_comp follows Tryz.func44 comp hl a
theorem pure {args : List AVal} {v : AVal} (hl : args.length ≤ 111) (a : AW ⟨Pg, 0, 111, false, []⟩ ir (RetK rs fun e _ => e = .ret v) (initT args) [] nilH) : APure Pg fn_rap_open args v :=
  APure.of_nil (enter 0 hl a)
end rap_open

namespace rap_around_dull
noncomputable def cfg : Cfg := { pure := pures, pcs := [], raw := [], cuts := [], draws := [], keep := [] }
@[simp] noncomputable def r0 (_ : Unit) : List Stp := [S 2 (.box (.t 0)), S 4 (.mv (.c (.int .u64 0)))]
@[simp] noncomputable def r1 (_ : Unit) : List Stp := [S 7 (.load true 6 (.t 2)), S 8 (.mv (.c (.int .i64 0)))]
@[simp] noncomputable def r2 (_ : Unit) : List Stp := [S 9 (.bin .lss (.t 8) (.c (.int .i64 6)))]
@[simp] noncomputable def r3 (_ : Unit) : List Stp := [S 10 (.mv (.t 8)), S 11 (.ixV 6 1 false (.t 7) (.t 8)), S 5 (.mv (.t 10)), S 6 (.mv (.t 11))]
@[simp] noncomputable def r4 (_ : Unit) : List Stp := [S 12 (.mv (.t 6)), S 13 (.mv (.t 1)), S 14 (.bin .and (.t 12) (.t 13)), S 15 (.bin .neq (.t 14) (.c (.int .u64 0)))]
@[simp] noncomputable def r5 (_ : Unit) : List Stp := [S 16 (.mv (.t 4)), S 17 (.mv (.t 5)), S 18 (.bin .shl (.c (.int .u64 1)) (.t 17)), S 19 (.bsl 2 [(.int .u64 0), (.int .u64 0)] [(0, 1, (.t 16)), (1, 1, (.t 18))]), S 20 (.call (.c (.func (.func fn_rap_union) [] [])) [(.t 19)]), S 4 (.mv (.t 20))]
@[simp] noncomputable def r6 (_ : Unit) : List Stp := [S 21 (.bin .add (.t 8) (.c (.int .i64 1))), S 8 (.mv (.t 21))]
@[simp] noncomputable def r7 (_ : Unit) : List Stp := [S 22 (.mv (.t 4)), S 4 (.mv (.t 22))]
@[simp] noncomputable def ir : IR := (.seq (.ops r0) (.seq (.seq (.ops r1) (.block 0 (.loop (.seq (.ops r2) (.seq (.cond (.t 9) .skip (.exit 0)) (.seq (.block 1 (.seq (.ops r3) (.seq (.ops r4) (.cond (.t 15) (.ops r5) .skip)))) (.ops r6))))))) (.seq (.ops r7) .ret)))
@[simp] noncomputable def rs : List RV := [.tmp 4]
theorem comp : compF Pg cfg Tryz.f45 = some (ir, rs, 23) := by kernel_rfl
theorem enter {args : List AVal} {h : Heap} {K : AEnd → Heap → Prop} (F : Nat) (hl : args.length ≤ 23) (a : AW ⟨Pg, F, 23, false, []⟩ ir (RetK rs K) (initT args) [] h) : ACalls Pg fn_rap_around_dull args h K :=
  ACalls.of_comp follows Tryz.func45 comp hl a
theorem pure {args : List AVal} {v : AVal} (hl : args.length ≤ 23) (a : AW ⟨Pg, 0, 23, false, []⟩ ir (RetK rs fun e _ => e = .ret v) (initT args) [] nilH) : APure Pg fn_rap_around_dull args v :=
  APure.of_nil (enter 0 hl a)
end rap_around_dull

namespace ref13_in
noncomputable def cfg : Cfg := { pure := pures, pcs := [], raw := [], cuts := [], draws := [], keep := [] }
@[simp] noncomputable def r0 (_ : Unit) : List Stp := [S 6 (.mv (.c (.bool false)))]
@[simp] noncomputable def r1 (_ : Unit) : List Stp := [S 7 (.mv (.t 1)), S 8 (.mv (.t 0)), S 9 (.bin .leq (.t 7) (.t 8)), S 10 (.mv (.t 9)), SG 11 10 true (.mv (.t 0)), SG 12 10 true (.mv (.t 2)), SG 13 10 true (.bin .leq (.t 11) (.t 12)), S 14 (.pick (.t 10) (.t 13) (.c (.bool false))), S 6 (.mv (.t 14))]
@[simp] noncomputable def ir : IR := (.seq (.ops r0) (.seq (.ops r1) .ret))
@[simp] noncomputable def rs : List RV := [.tmp 6]
theorem comp : compF Pg cfg Tryz.f46 = some (ir, rs, 15) := by kernel_rfl
theorem enter {args : List AVal} {h : Heap} {K : AEnd → Heap → Prop} (F : Nat) (hl : args.length ≤ 15) (a : AW ⟨Pg, F, 15, false, []⟩ ir (RetK rs K) (initT args) [] h) : ACalls Pg fn_ref13_in args h K :=
  ACalls.of_comp follows Tryz.func46 comp hl a
theorem pure {args : List AVal} {v : AVal} (hl : args.length ≤ 15) (a : AW ⟨Pg, 0, 15, false, []⟩ ir (RetK rs fun e _ => e = .ret v) (initT args) [] nilH) : APure Pg fn_ref13_in args v :=
  APure.of_nil (enter 0 hl a)
end ref13_in

namespace ref13_power
noncomputable def cfg : Cfg := { pure := pures, pcs := [], raw := [], cuts := [], draws := [], keep := [] }
@[simp] noncomputable def r0 (_ : Unit) : List Stp := [S 2 (.mv (.c (.int .i64 0)))]
@[simp] noncomputable def r1 (_ : Unit) : List Stp := [S 3 (.mv (.c (.int .i64 1)))]
@[simp] noncomputable def r2 (_ : Unit) : List Stp := [S 4 (.mv (.c (.int .i64 0)))]
@[simp] noncomputable def r3 (_ : Unit) : List Stp := [S 5 (.mv (.t 4)), S 6 (.mv (.t 0)), S 7 (.bin .lss (.t 5) (.t 6))]
@[simp] noncomputable def r5 (_ : Unit) : List Stp := [S 10 (.mv (.t 3)), S 11 (.bin .mul (.c (.int .i64 2)) (.t 10)), S 3 (.mv (.t 11))]
@[simp] noncomputable def r4 (_ : Unit) : List Stp := [S 8 (.mv (.t 4)), S 9 (.bin .add (.t 8) (.c (.int .i64 1))), S 4 (.mv (.t 9))]
@[simp] noncomputable def r6 (_ : Unit) : List Stp := [S 12 (.mv (.t 3)), S 2 (.mv (.t 12))]
@[simp] noncomputable def ir : IR := (.seq (.ops r0) (.seq (.ops r1) (.seq (.seq (.ops r2) (.block 0 (.loop (.seq (.seq (.ops r3) (.cond (.t 7) .skip (.exit 0))) (.seq (.block 1 (.ops r5)) (.ops r4)))))) (.seq (.ops r6) .ret))))
@[simp] noncomputable def rs : List RV := [.tmp 2]
theorem comp : compF Pg cfg Tryz.f47 = some (ir, rs, 13) := by kernel_rfl
theorem enter {args : List AVal} {h : Heap} {K : AEnd → Heap → Prop} (F : Nat) (hl : args.length ≤ 13) (a : AW ⟨Pg, F, 13, false, []⟩ ir (RetK rs K) (initT args) [] h) : ACalls Pg fn_ref13_power args h K :=
  ACalls.of_comp follows Tryz.func47 comp hl a
theorem pure {args : List AVal} {v : AVal} (hl : args.length ≤ 13) (a : AW ⟨Pg, 0, 13, false, []⟩ ir (RetK rs fun e _ => e = .ret v) (initT args) [] nilH) : APure Pg fn_ref13_power args v :=
  APure.of_nil (enter 0 hl a)
end ref13_power

namespace ref13_Hears
noncomputable def cfg : Cfg := { pure := pures, pcs := [], raw := [], cuts := [], draws := [], keep := [] }
@[simp] noncomputable def r0 (_ : Unit) : List Stp := [S 3 (.box (.t 0)), S 6 (.mv (.c (.bool false)))]
@[simp] noncomputable def r1 (_ : Unit) : List Stp := [S 9 (.mv (.t 1)), S 10 (.mv (.t 2)), SP 11 (.call (.c (.func (.func fn_ref13_Has) [] [])) [(.t 9), (.t 10)])]
@[simp] noncomputable def r2 (_ : Unit) : List Stp := [S 6 (.mv (.c (.bool true)))]
@[simp] noncomputable def r3 (_ : Unit) : List Stp := [S 7 (.mv (.c (.int .i64 0)))]
@[simp] noncomputable def r4 (_ : Unit) : List Stp := [S 12 (.mv (.t 7)), S 13 (.fAddr 0 (.t 3)), S 14 (.fAddr 1 (.t 13)), S 15 (.load false 1 (.t 14)), S 16 (.len (.t 15)), S 17 (.bin .lss (.t 12) (.t 16))]
@[simp] noncomputable def r6 (_ : Unit) : List Stp := [S 20 (.fAddr 0 (.t 3)), S 21 (.fAddr 1 (.t 20)), S 22 (.load false 1 (.t 21)), S 23 (.mv (.t 7)), S 24 (.ixS 2 (.t 22) (.t 23)), S 25 (.load true 2 (.t 24)), S 8 (.alloc [(.int .i64 0), (.int .i64 0)]), SN (.store 2 (.t 8) (.t 25))]
@[simp] noncomputable def r7 (_ : Unit) : List Stp := [S 26 (.ixA 2 1 (.t 8) (.c (.int .i64 0))), S 27 (.load false 1 (.t 26)), S 28 (.mv (.t 2)), S 29 (.bin .eql (.t 27) (.t 28)), S 30 (.mv (.t 29)), SG 31 30 true (.mv (.t 1)), SG 32 30 true (.ixA 2 1 (.t 8) (.c (.int .i64 1))), SG 33 30 true (.load false 1 (.t 32)), SGP 34 30 true (.call (.c (.func (.func fn_ref13_Has) [] [])) [(.t 31), (.t 33)]), S 35 (.pick (.t 30) (.t 34) (.c (.bool false))), S 36 (.mv (.t 35)), SG 37 36 false (.ixA 2 1 (.t 8) (.c (.int .i64 1))), SG 38 36 false (.load false 1 (.t 37)), SG 39 36 false (.mv (.t 2)), SG 40 36 false (.bin .eql (.t 38) (.t 39)), SG 41 36 false (.mv (.t 40)), SG 42 41 true (.mv (.t 1)), SG 43 41 true (.ixA 2 1 (.t 8) (.c (.int .i64 0))), SG 44 41 true (.load false 1 (.t 43)), SGP 45 41 true (.call (.c (.func (.func fn_ref13_Has) [] [])) [(.t 42), (.t 44)]), SG 46 36 false (.pick (.t 41) (.t 45) (.c (.bool false))), S 47 (.pick (.t 36) (.c (.bool true)) (.t 46))]
@[simp] noncomputable def r8 (_ : Unit) : List Stp := [S 6 (.mv (.c (.bool true)))]
@[simp] noncomputable def r5 (_ : Unit) : List Stp := [S 18 (.mv (.t 7)), S 19 (.bin .add (.t 18) (.c (.int .i64 1))), S 7 (.mv (.t 19))]
@[simp] noncomputable def r9 (_ : Unit) : List Stp := [S 6 (.mv (.c (.bool false)))]
@[simp] noncomputable def ir : IR := (.seq (.ops r0) (.seq (.seq (.ops r1) (.cond (.t 11) (.seq (.ops r2) .ret) .skip)) (.seq (.seq (.ops r3) (.block 0 (.loop (.seq (.seq (.ops r4) (.cond (.t 17) .skip (.exit 0))) (.seq (.block 1 (.seq (.ops r6) (.seq (.ops r7) (.cond (.t 47) (.seq (.ops r8) .ret) .skip)))) (.ops r5)))))) (.seq (.ops r9) .ret))))
@[simp] noncomputable def rs : List RV := [.tmp 6]
theorem comp : compF Pg cfg Tryz.f48 = some (ir, rs, 48) := by kernel_rfl
theorem enter {args : List AVal} {h : Heap} {K : AEnd → Heap → Prop} (F : Nat) (hl : args.length ≤ 48) (a : AW ⟨Pg, F, 48, false, []⟩ ir (RetK rs K) (initT args) [] h) : ACalls Pg fn_ref13_Hears args h K :=
  ACalls.of_comp follows Tryz.func48 comp hl a
theorem pure {args : List AVal} {v : AVal} (hl : args.length ≤ 48) (a : AW ⟨Pg, 0, 48, false, []⟩ ir (RetK rs fun e _ => e = .ret v) (initT args) [] nilH) : APure Pg fn_ref13_Hears args v :=
  APure.of_nil (enter 0 hl a)
end ref13_Hears

namespace rap_Sets_1
noncomputable def cfg : Cfg := { pure := pures, pcs := [], raw := [], cuts := [], draws := [], keep := [] }
@[simp] noncomputable def r0 (_ : Unit) : List Stp := [S 1 (.recov), S 2 (.call (.c (.func (.func fn_rap_said) [] [])) [(.t 1), (.t 0)])]
@[simp] noncomputable def ir : IR := (.ops r0)
@[simp] noncomputable def rs : List RV := []
theorem comp : compF Pg cfg Tryz.f49 = some (ir, rs, 3) := by kernel_rfl
theorem enter {args : List AVal} {h : Heap} {K : AEnd → Heap → Prop} (F : Nat) (hl : args.length ≤ 3) (a : AW ⟨Pg, F, 3, false, []⟩ ir (RetK rs K) (initT args) [] h) : ACalls Pg fn_rap_Sets_1 args h K :=
  ACalls.of_comp follows Tryz.func49 comp hl a
theorem pure {args : List AVal} {v : AVal} (hl : args.length ≤ 3) (a : AW ⟨Pg, 0, 3, false, []⟩ ir (RetK rs fun e _ => e = .ret v) (initT args) [] nilH) : APure Pg fn_rap_Sets_1 args v :=
  APure.of_nil (enter 0 hl a)
theorem recClo : RecClo Pg fn_rap_Sets_1 fn_rap_said := ⟨_, Tryz.func49, by kernel_rfl⟩
end rap_Sets_1

namespace rap_hull_can
noncomputable def cfg : Cfg := { pure := pures, pcs := [], raw := [], cuts := [], draws := [], keep := [] }
@[simp] noncomputable def r0 (_ : Unit) : List Stp := [S 2 (.mv (.c .nils))]
@[simp] noncomputable def r1 (_ : Unit) : List Stp := [S 4 (.mv (.t 0)), S 5 (.mv (.t 0)), S 6 (.call (.c (.func (.func fn_rap_hull_sounds) [] [])) [(.t 5)]), S 7 (.mv (.t 0)), SP 8 (.call (.c (.func (.func fn_rap_hull_every) [] [])) [(.t 7)]), S 9 (.call (.c (.func (.func fn_rap_hull_heard) [] [])) [(.t 4), (.t 6), (.t 8)]), S 3 (.mv (.t 9))]
@[simp] noncomputable def r2 (_ : Unit) : List Stp := [S 10 (.mv (.t 3)), S 11 (.len (.t 10)), S 12 (.bin .gtr (.t 11) (.c (.int .i64 0))), S 13 (.call (.c (.func (.func fn_rap_want) [] [])) [(.t 12), (.c (.int .i64 10))])]
@[simp] noncomputable def r3 (_ : Unit) : List Stp := [S 14 (.mv (.t 3)), S 2 (.mv (.t 14))]
@[simp] noncomputable def ir : IR := (.seq (.ops r0) (.seq (.ops r1) (.seq (.ops r2) (.seq (.ops r3) .ret))))
@[simp] noncomputable def rs : List RV := [.tmp 2]
theorem comp : compF Pg cfg Tryz.f50 = some (ir, rs, 15) := by kernel_rfl
theorem enter {args : List AVal} {h : Heap} {K : AEnd → Heap → Prop} (F : Nat) (hl : args.length ≤ 15) (a : AW ⟨Pg, F, 15, false, []⟩ ir (RetK rs K) (initT args) [] h) : ACalls Pg fn_rap_hull_can args h K :=
  ACalls.of_comp follows Tryz.func50 comp hl a
theorem pure {args : List AVal} {v : AVal} (hl : args.length ≤ 15) (a : AW ⟨Pg, 0, 15, false, []⟩ ir (RetK rs fun e _ => e = .ret v) (initT args) [] nilH) : APure Pg fn_rap_hull_can args v :=
  APure.of_nil (enter 0 hl a)
end rap_hull_can

end Go.Cw
end
