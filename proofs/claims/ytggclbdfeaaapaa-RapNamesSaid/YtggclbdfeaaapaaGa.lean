/-
  The program's functions in the small form.
-/
import Derived.Test.YtggclbdfeaaapaaAd
import Derived.Test.YtggclbdfeaaapaaProg
set_option linter.unusedVariables false
set_option linter.unusedSimpArgs false
set_option linter.unusedSectionVars false

/- The functions' numbers. Printed by a program of this seat's proofs. -/
section
namespace Go.Cw
open Go Go.Proofs

@[reducible] noncomputable def Pg : Program := Try.prog
theorem follows : Pg.follows .mixedOrders = true := by kernel_rfl
def fn_main_main : FuncId := 0
def fn_gosem_cut : FuncId := 1
def fn_gosem_cut_init : FuncId := 2
def fn_law13_RapNames : FuncId := 3
def fn_rap_Dull : FuncId := 4
def fn_law13_sample : FuncId := 5
def fn_rap_Sets : FuncId := 6
def fn_law13_find : FuncId := 7
def fn_rap_Sound : FuncId := 8
def fn_rap_Fewest : FuncId := 9
def fn_rap_Next : FuncId := 10
def fn_rap_Wrong : FuncId := 11
def fn_law13_alive : FuncId := 12
def fn_law13_ints : FuncId := 13
def fn_rap_Dull_1 : FuncId := 14
def fn_rap_said : FuncId := 15
def fn_rap_open : FuncId := 16
def fn_rap_around_dull : FuncId := 17
def fn_law13_span : FuncId := 18
def fn_rap_Sets_1 : FuncId := 19
def fn_rap_hull_can : FuncId := 20
def fn_rap_Sound_1 : FuncId := 21
def fn_rap_Fewest_1 : FuncId := 22
def fn_rap_best_int : FuncId := 23
def fn_rap_upTo : FuncId := 24
def fn_rap_hull_seams : FuncId := 25
def fn_rap_Fewest_2 : FuncId := 26
def fn_math_bits_OnesCount : FuncId := 27
def fn_slices_ContainsFunc_rap_sound_rap_sound : FuncId := 28
def fn_rap_Fewest_2_1 : FuncId := 29
def fn_rap_want : FuncId := 30
def fn_rap_Next_1 : FuncId := 31
def fn_rap_Next_2 : FuncId := 32
def fn_rap_set_has : FuncId := 33
def fn_rap_within : FuncId := 34
def fn_rap_Wrong_1 : FuncId := 35
def fn_rap_hull_sounds : FuncId := 36
def fn_rap_Wrong_2 : FuncId := 37
def fn_rap_hull_heard : FuncId := 38
def fn_rap_hull_every : FuncId := 39
def fn_rap_Open : FuncId := 40
def fn_ref13_Ints : FuncId := 41
def fn_drive_Times : FuncId := 42
def fn_rap_union : FuncId := 43
def fn_math_bits_OnesCount32 : FuncId := 44
def fn_math_bits_OnesCount64 : FuncId := 45
def fn_slices_IndexFunc_rap_sound_rap_sound : FuncId := 46
def fn_rap_hull_blows : FuncId := 47
def fn_drive_Settle : FuncId := 48
def fn_slices_SortFunc_rap_sound_rap_sound : FuncId := 49
def fn_rap_hull_sounds_1 : FuncId := 50
def fn_rap_hull_ears : FuncId := 51
def fn_rap_Open_1 : FuncId := 52
def fn_ref05_Ints : FuncId := 53
def fn_drive_Times_1 : FuncId := 54
def fn_drive_said : FuncId := 55
def fn_drive_open : FuncId := 56
def fn_drive_isSeam : FuncId := 57
def fn_drive_hull_times : FuncId := 58
def fn_rap_set_with : FuncId := 59
def fn_rap_hull_blows_1 : FuncId := 60
def fn_rap_hull_blows_1_1 : FuncId := 61
def fn_slices_Clone_int_int : FuncId := 62
def fn_drive_Settle_1 : FuncId := 63
def fn_drive_areBlows : FuncId := 64
def fn_drive_hull_settler : FuncId := 65
def fn_drive_settler_rest : FuncId := 66
def fn_drive_blowsOf : FuncId := 67
def fn_drive_hull_seams : FuncId := 68
def fn_slices_pdqsortCmpFunc_rap_sound : FuncId := 69
def fn_math_bits_Len : FuncId := 70
def fn_drive_want : FuncId := 71
def fn_drive_within : FuncId := 72
def fn_slices_Contains_2_int_2_int : FuncId := 73
def fn_drive_hull_ends : FuncId := 74
def fn_drive_areBlows_1 : FuncId := 75
def fn_slices_ContainsFunc_int_int : FuncId := 76
def fn_drive_hull_opened : FuncId := 77
def fn_drive_blows_with : FuncId := 78
def fn_slices_insertionSortCmpFunc_rap_sound : FuncId := 79
def fn_slices_heapSortCmpFunc_rap_sound : FuncId := 80
def fn_slices_breakPatternsCmpFunc_rap_sound : FuncId := 81
def fn_slices_choosePivotCmpFunc_rap_sound : FuncId := 82
def fn_slices_reverseRangeCmpFunc_rap_sound : FuncId := 83
def fn_slices_partialInsertionSortCmpFunc_rap_sound : FuncId := 84
def fn_slices_partitionEqualCmpFunc_rap_sound : FuncId := 85
def fn_slices_partitionCmpFunc_rap_sound : FuncId := 86
def fn_math_bits_Len32 : FuncId := 87
def fn_math_bits_Len64 : FuncId := 88
def fn_slices_Index_2_int_2_int : FuncId := 89
def fn_slices_IndexFunc_int_int : FuncId := 90
def fn_slices_siftDownCmpFunc_rap_sound : FuncId := 91
def fn_slices_nextPowerOfTwo : FuncId := 92
def fn_slices_xorshift_Next : FuncId := 93
def fn_slices_medianAdjacentCmpFunc_rap_sound : FuncId := 94
def fn_slices_medianCmpFunc_rap_sound : FuncId := 95
def fn_slices_order2CmpFunc_rap_sound : FuncId := 96
def fn_runtime_boundsError_Error : FuncId := 97
def fn_runtime_boundsError_RuntimeError : FuncId := 98
def fn_runtime_errorString_Error : FuncId := 99
def fn_runtime_errorString_RuntimeError : FuncId := 100
def fn_runtime_plainError_Error : FuncId := 101
def fn_runtime_plainError_RuntimeError : FuncId := 102
def fn_runtime_errorAddressString_Error : FuncId := 103
def fn_runtime_errorAddressString_RuntimeError : FuncId := 104
def fn_runtime_TypeAssertionError_Error : FuncId := 105
def fn_runtime_TypeAssertionError_RuntimeError : FuncId := 106
def fn_runtime_PanicNilError_Error : FuncId := 107
def fn_runtime_PanicNilError_RuntimeError : FuncId := 108
def fn_abi_Type_Align : FuncId := 109
def fn_runtime_maps_unhashableTypeError_Error : FuncId := 110
def fn_runtime_maps_unhashableTypeError_RuntimeError : FuncId := 111
def fn_drive_rest_open : FuncId := 112
def fn_rap_nothing_hears : FuncId := 113
def fn_rap_knock_hears : FuncId := 114
def fn_abi_Kind_String : FuncId := 115
def pures : List Nat := [4, 6, 7, 8, 9, 10, 11, 12, 13, 17, 18, 25, 27, 33, 34, 39, 40, 41, 42, 44, 45, 53, 57, 58, 59, 64, 67, 68, 72, 73, 74, 75, 76, 77, 78, 89, 90, 112, 113, 114]

end Go.Cw
end

/- Functions in the small form. Printed by a program of this seat's proofs. -/
section
namespace Go.Cw
open Go Go.Proofs

namespace law13_RapNames
noncomputable def cfg : Cfg := { pure := [4, 6, 7, 8, 9, 10, 11, 12, 17, 18, 25, 27, 33, 34, 39, 40, 41, 42, 44, 45, 53, 57, 58, 59, 64, 67, 68, 72, 73, 74, 75, 76, 77, 78, 89, 90, 112, 113, 114], pcs := [], raw := [], cuts := [], draws := [(4, [⟨1, false, [], []⟩, ⟨2, false, [], []⟩, ⟨0, false, [], [2]⟩, ⟨3, false, [], []⟩, ⟨4, false, [], []⟩, ⟨5, false, [], []⟩, ⟨6, false, [], []⟩, ⟨7, false, [], []⟩, ⟨8, false, [], []⟩])], keep := [] }
@[simp] noncomputable def r0 (_ : Unit) : List Stp := [S 0 (.mv (.c (.bool false)))]
@[simp] noncomputable def r1 (_ : Unit) : List Stp := [S 21 (.build [(.int .i64 0), (.int .i64 0)] [(0, 1, (.c (.int .i64 1))), (1, 1, (.c (.int .i64 3)))]), S 22 (.build [(.int .i64 0), (.int .i64 0)] [(0, 1, (.c (.int .i64 8))), (1, 1, (.c (.int .i64 12)))]), S 23 (.build [(.int .i64 0), (.int .i64 0)] [(0, 1, (.c (.int .i64 9))), (1, 1, (.c (.int .i64 15)))]), S 24 (.build [(.int .i64 0), (.int .i64 0)] [(0, 1, (.c (.int .i64 0))), (1, 1, (.c (.int .i64 0)))]), S 25 (.bsl 4 [(.int .i64 0), (.int .i64 0), (.int .i64 0), (.int .i64 0), (.int .i64 0), (.int .i64 0), (.int .i64 0), (.int .i64 0)] [(0, 2, (.t 21)), (2, 2, (.t 22)), (4, 2, (.t 23)), (6, 2, (.t 24))]), S 26 (.len (.t 25)), S 27 (.mv (.c (.int .i64 0)))]
@[simp] noncomputable def r2 (_ : Unit) : List Stp := [S 28 (.bin .lss (.t 27) (.t 26))]
@[simp] noncomputable def r3 (_ : Unit) : List Stp := [S 29 (.ixS 2 (.t 25) (.t 27)), S 30 (.load true 2 (.t 29)), S 2 (.alloc [(.int .i64 0), (.int .i64 0)]), SN (.store 2 (.t 2) (.t 30))]
@[simp] noncomputable def r4 (_ : Unit) : List Stp := [S 33 (.ixA 2 1 (.t 2) (.c (.int .i64 0))), S 34 (.load false 1 (.t 33)), SD (some 32) (.call (.c (.func (.func fn_law13_sample) [] [])) [(.c .nils)]) false [] [I 34 (.load false 1 (.t 33))], SP 35 (.call (.c (.func (.func fn_rap_Dull) [] [])) [(.t 32), (.t 34)]), S 31 (.mv (.t 35)), S 36 (.ext (.t 31) 0), S 37 (.ext (.t 31) 1), S 3 (.mv (.t 36)), S 4 (.mv (.t 37))]
@[simp] noncomputable def r5 (_ : Unit) : List Stp := [S 38 (.mv (.t 3)), S 39 (.ixA 2 1 (.t 2) (.c (.int .i64 1))), S 40 (.load false 1 (.t 39)), S 41 (.bin .neq (.t 38) (.t 40)), S 42 (.mv (.t 41)), SG 43 42 false (.mv (.t 4)), SG 44 42 false (.bin .neq (.t 43) (.c (.int .i64 0))), S 45 (.pick (.t 42) (.c (.bool true)) (.t 44))]
@[simp] noncomputable def r6 (_ : Unit) : List Stp := [S 0 (.mv (.c (.bool false)))]
@[simp] noncomputable def r7 (_ : Unit) : List Stp := [S 46 (.bin .add (.t 27) (.c (.int .i64 1))), S 27 (.mv (.t 46))]
@[simp] noncomputable def r8 (_ : Unit) : List Stp := [SP 48 (.call (.c (.func (.func fn_law13_find) [] [])) [(.c (.int .i64 0)), (.c (.bool false))]), S 49 (.bsl 1 [(.int .i64 0), (.bool false)] [(0, 2, (.t 48))]), S 50 (.call (.c (.func (.func fn_law13_sample) [] [])) [(.t 49)]), SP 51 (.call (.c (.func (.func fn_rap_Sets) [] [])) [(.t 50)]), S 47 (.mv (.t 51)), S 52 (.ext (.t 47) 0), S 53 (.ext (.t 47) 1), S 5 (.mv (.t 52)), S 6 (.mv (.t 53))]
@[simp] noncomputable def r9 (_ : Unit) : List Stp := [S 55 (.call (.c (.func (.func fn_law13_sample) [] [])) [(.c .nils)]), SP 56 (.call (.c (.func (.func fn_rap_Sound) [] [])) [(.t 55)]), S 54 (.mv (.t 56)), S 57 (.ext (.t 54) 0), S 58 (.ext (.t 54) 1), S 7 (.mv (.t 57)), S 8 (.mv (.t 58))]
@[simp] noncomputable def r10 (_ : Unit) : List Stp := [SP 60 (.call (.c (.func (.func fn_law13_find) [] [])) [(.c (.int .i64 1)), (.c (.bool true))]), S 61 (.bsl 1 [(.int .i64 0), (.bool false)] [(0, 2, (.t 60))]), S 62 (.call (.c (.func (.func fn_law13_sample) [] [])) [(.t 61)]), SP 63 (.call (.c (.func (.func fn_rap_Sound) [] [])) [(.t 62)]), S 59 (.mv (.t 63)), S 64 (.ext (.t 59) 0), S 65 (.ext (.t 59) 1), S 9 (.mv (.t 64)), S 10 (.mv (.t 65))]
@[simp] noncomputable def r11 (_ : Unit) : List Stp := [SP 67 (.call (.c (.func (.func fn_law13_find) [] [])) [(.c (.int .i64 0)), (.c (.bool false))]), S 68 (.bsl 1 [(.int .i64 0), (.bool false)] [(0, 2, (.t 67))]), S 69 (.call (.c (.func (.func fn_law13_sample) [] [])) [(.t 68)]), SP 70 (.call (.c (.func (.func fn_rap_Fewest) [] [])) [(.t 69)]), S 66 (.mv (.t 70)), S 71 (.ext (.t 66) 0), S 72 (.ext (.t 66) 1), S 73 (.ext (.t 66) 2), S 11 (.mv (.t 71)), S 12 (.mv (.t 72)), S 13 (.mv (.t 73))]
@[simp] noncomputable def r12 (_ : Unit) : List Stp := [SP 75 (.call (.c (.func (.func fn_law13_find) [] [])) [(.c (.int .i64 0)), (.c (.bool false))]), SP 76 (.call (.c (.func (.func fn_law13_find) [] [])) [(.c (.int .i64 3)), (.c (.bool false))]), S 77 (.bsl 2 [(.int .i64 0), (.bool false), (.int .i64 0), (.bool false)] [(0, 2, (.t 75)), (2, 2, (.t 76))]), S 78 (.call (.c (.func (.func fn_law13_sample) [] [])) [(.t 77)]), SP 79 (.call (.c (.func (.func fn_rap_Next) [] [])) [(.t 78)]), S 74 (.mv (.t 79)), S 80 (.ext (.t 74) 0), S 81 (.ext (.t 74) 1), S 82 (.ext (.t 74) 2), S 14 (.mv (.t 80)), S 15 (.mv (.t 81)), S 16 (.mv (.t 82))]
@[simp] noncomputable def r13 (_ : Unit) : List Stp := [S 84 (.call (.c (.func (.func fn_law13_sample) [] [])) [(.c .nils)]), SP 85 (.call (.c (.func (.func fn_rap_Wrong) [] [])) [(.t 84)]), S 83 (.mv (.t 85)), S 86 (.ext (.t 83) 0), S 87 (.ext (.t 83) 1), S 17 (.mv (.t 86)), S 18 (.mv (.t 87))]
@[simp] noncomputable def r14 (_ : Unit) : List Stp := [SP 89 (.call (.c (.func (.func fn_law13_find) [] [])) [(.c (.int .i64 0)), (.c (.bool true))]), SP 90 (.call (.c (.func (.func fn_law13_find) [] [])) [(.c (.int .i64 1)), (.c (.bool false))]), S 91 (.bsl 2 [(.int .i64 0), (.bool false), (.int .i64 0), (.bool false)] [(0, 2, (.t 89)), (2, 2, (.t 90))]), S 92 (.call (.c (.func (.func fn_law13_sample) [] [])) [(.t 91)]), SP 93 (.call (.c (.func (.func fn_rap_Sets) [] [])) [(.t 92)]), S 88 (.mv (.t 93)), S 94 (.ext (.t 88) 0), S 95 (.ext (.t 88) 1), S 19 (.mv (.t 94)), S 20 (.mv (.t 95))]
@[simp] noncomputable def r15 (_ : Unit) : List Stp := [S 96 (.mv (.c (.bool true))), SGP 97 96 true (.call (.c (.func (.func fn_law13_alive) [] [])) []), S 98 (.pick (.t 96) (.t 97) (.c (.bool false))), S 99 (.mv (.t 98)), SG 100 99 true (.mv (.t 5)), SG 101 99 true (.bsl 2 [(.int .i64 0), (.int .i64 0)] [(0, 1, (.c (.int .i64 0))), (1, 1, (.c (.int .i64 8)))]), SG 102 99 true (.call (.c (.func (.func fn_law13_ints) [] [])) [(.t 100), (.t 101)]), S 103 (.pick (.t 99) (.t 102) (.c (.bool false))), S 104 (.mv (.t 103)), SG 105 104 true (.mv (.t 6)), SG 106 104 true (.bin .eql (.t 105) (.c (.int .i64 0))), S 107 (.pick (.t 104) (.t 106) (.c (.bool false))), S 108 (.mv (.t 107)), SG 109 108 true (.mv (.t 7)), SG 110 108 true (.bin .eql (.t 109) (.c (.int .i64 1))), S 111 (.pick (.t 108) (.t 110) (.c (.bool false))), S 112 (.mv (.t 111)), SG 113 112 true (.mv (.t 8)), SG 114 112 true (.bin .eql (.t 113) (.c (.int .i64 0))), S 115 (.pick (.t 112) (.t 114) (.c (.bool false))), S 116 (.mv (.t 115)), SG 117 116 true (.mv (.t 9)), SG 118 116 true (.bin .eql (.t 117) (.c (.int .i64 0))), S 119 (.pick (.t 116) (.t 118) (.c (.bool false))), S 120 (.mv (.t 119)), SG 121 120 true (.mv (.t 10)), SG 122 120 true (.bin .eql (.t 121) (.c (.int .i64 0))), S 123 (.pick (.t 120) (.t 122) (.c (.bool false))), S 124 (.mv (.t 123)), SG 125 124 true (.mv (.t 11)), SG 126 124 true (.bin .eql (.t 125) (.c (.int .i64 1))), S 127 (.pick (.t 124) (.t 126) (.c (.bool false))), S 128 (.mv (.t 127)), SG 129 128 true (.mv (.t 12)), SG 130 128 true (.bin .eql (.t 129) (.c (.int .i64 4))), S 131 (.pick (.t 128) (.t 130) (.c (.bool false))), S 132 (.mv (.t 131)), SG 133 132 true (.mv (.t 13)), SG 134 132 true (.bin .eql (.t 133) (.c (.int .i64 0))), S 135 (.pick (.t 132) (.t 134) (.c (.bool false))), S 136 (.mv (.t 135)), SG 137 136 true (.mv (.t 16)), SG 138 136 true (.bin .eql (.t 137) (.c (.int .i64 11))), S 139 (.pick (.t 136) (.t 138) (.c (.bool false))), S 140 (.mv (.t 139)), SG 141 140 true (.mv (.t 18)), SG 142 140 true (.bin .eql (.t 141) (.c (.int .i64 4))), S 143 (.pick (.t 140) (.t 142) (.c (.bool false))), S 144 (.mv (.t 143)), SG 145 144 true (.mv (.t 20)), SG 146 144 true (.bin .eql (.t 145) (.c (.int .i64 10))), S 147 (.pick (.t 144) (.t 146) (.c (.bool false))), S 0 (.mv (.t 147))]
@[simp] noncomputable def ir : IR := (.seq (.ops r0) (.seq (.seq (.ops r1) (.block 0 (.loop (.seq (.ops r2) (.seq (.cond (.t 28) .skip (.exit 0)) (.seq (.block 1 (.seq (.ops r3) (.seq (.ops r4) (.seq (.ops r5) (.cond (.t 45) (.seq (.ops r6) .ret) .skip))))) (.ops r7))))))) (.seq (.ops r8) (.seq (.ops r9) (.seq (.ops r10) (.seq (.ops r11) (.seq (.ops r12) (.seq (.ops r13) (.seq (.ops r14) (.seq (.ops r15) .ret))))))))))
@[simp] noncomputable def rs : List RV := [.tmp 0]
theorem comp : compF Pg cfg Try.f3 = some (ir, rs, 148) := by kernel_rfl
theorem enter {args : List AVal} {h : Heap} {K : AEnd → Heap → Prop} (F : Nat) (hl : args.length ≤ 148) (a : AW ⟨Pg, F, 148, false, []⟩ ir (RetK rs K) (initT args) [] h) : ACalls Pg fn_law13_RapNames args h K :=
  ACalls.of_comp follows Try.func3 comp hl a
theorem pure {args : List AVal} {v : AVal} (hl : args.length ≤ 148) (a : AW ⟨Pg, 0, 148, false, []⟩ ir (RetK rs fun e _ => e = .ret v) (initT args) [] nilH) : APure Pg fn_law13_RapNames args v :=
  APure.of_nil (enter 0 hl a)
end law13_RapNames

namespace rap_Dull
noncomputable def cfg : Cfg := { pure := pures, pcs := [], raw := [], cuts := [], draws := [(2, [⟨1, false, [], []⟩, ⟨2, false, [], []⟩, ⟨3, false, [], []⟩, ⟨4, false, [], []⟩, ⟨5, false, [], []⟩, ⟨6, false, [], []⟩, ⟨0, false, [], []⟩, ⟨7, false, [], []⟩, ⟨8, false, [], []⟩, ⟨9, false, [], []⟩, ⟨10, false, [], []⟩, ⟨11, false, [], []⟩, ⟨12, false, [], []⟩, ⟨13, false, [], []⟩, ⟨14, false, [], []⟩])], keep := [4, 5] }
@[simp] noncomputable def r0 (_ : Unit) : List Stp := [S 2 (.box (.t 0)), S 4 (.mv (.c (.int .i64 0))), S 5 (.alloc [(.int .i64 0)])]
@[simp] noncomputable def r1 (_ : Unit) : List Stp := [S 7 (.mkF (.func fn_rap_Dull_1) [] [(.t 5)]), SN (.defer (.t 7) [])]
@[simp] noncomputable def r2 (_ : Unit) : List Stp := [S 9 (.mv (.t 1)), S 10 (.bin .geq (.t 9) (.c (.int .i64 0))), S 11 (.mv (.t 10)), SG 12 11 true (.mv (.t 1)), SG 13 11 true (.fAddr 0 (.t 2)), SG 14 11 true (.fAddr 0 (.t 13)), S 8 (.load true 4 (.t 2)), SG 15 11 true (.load false 1 (.t 14)), SG 16 11 true (.len (.t 15)), SG 17 11 true (.mm false [(.t 16), (.c (.int .i64 62))]), SG 18 11 true (.bin .shr (.t 12) (.t 17)), SG 19 11 true (.bin .eql (.t 18) (.c (.int .i64 0))), S 20 (.pick (.t 11) (.t 19) (.c (.bool false))), S 21 (.call (.c (.func (.func fn_rap_open) [] [])) [(.t 8), (.t 20)]), S 6 (.mv (.t 21))]
@[simp] noncomputable def r3 (_ : Unit) : List Stp := [S 22 (.mv (.t 6)), S 23 (.nilck Pg (.t 22)), S 24 (.fAddr 4 (.t 23)), S 25 (.load true 6 (.t 24)), S 26 (.mv (.t 1)), S 27 (.conv .u64 (.t 26)), SP 28 (.call (.c (.func (.func fn_rap_around_dull) [] [])) [(.t 25), (.t 27)]), S 29 (.conv .i64 (.t 28)), S 4 (.mv (.t 29)), SN (.store 1 (.t 5) (.c (.int .i64 0)))]
@[simp] noncomputable def ir : IR := (.seq (.ops r0) (.seq (.ops r1) (.seq (.ops r2) (.seq (.ops r3) .ret))))
@[simp] noncomputable def rs : List RV := [.tmp 4, .cell 5 false 1]
theorem comp : compF Pg cfg Try.f4 = some (ir, rs, 30) := by kernel_rfl
theorem enter {args : List AVal} {h : Heap} {K : AEnd → Heap → Prop} (F : Nat) (hl : args.length ≤ 30) (a : AW ⟨Pg, F, 30, false, [4, 5]⟩ ir (RetD Pg rs K) (initT args) [] h) : ACalls Pg fn_rap_Dull args h K :=
  ACalls.of_comp_defer follows Try.func4 comp hl a
theorem pure {args : List AVal} {v : AVal} (hl : args.length ≤ 30) (a : AW ⟨Pg, 0, 30, false, [4, 5]⟩ ir (RetD Pg rs fun e _ => e = .ret v) (initT args) [] nilH) : APure Pg fn_rap_Dull args v :=
  APure.of_nil (enter 0 hl a)
end rap_Dull

namespace law13_sample
noncomputable def cfg : Cfg := { pure := pures, pcs := [], raw := [], cuts := [], draws := [], keep := [] }
@[simp] noncomputable def r0 (_ : Unit) : List Stp := [S 2 (.alloc [.nils, .nils, .nils, .nils])]
@[simp] noncomputable def r1 (_ : Unit) : List Stp := [S 3 (.bsl 4 [(.int .i64 0), (.int .i64 0), (.int .i64 0), (.int .i64 0)] [(0, 1, (.c (.int .i64 3))), (1, 1, (.c (.int .i64 3))), (2, 1, (.c (.int .i64 3))), (3, 1, (.c (.int .i64 3)))]), S 4 (.build [(.int .i64 0), (.int .i64 0)] [(0, 1, (.c (.int .i64 0))), (1, 1, (.c (.int .i64 1)))]), S 5 (.build [(.int .i64 0), (.int .i64 0)] [(0, 1, (.c (.int .i64 1))), (1, 1, (.c (.int .i64 2)))]), S 6 (.build [(.int .i64 0), (.int .i64 0)] [(0, 1, (.c (.int .i64 2))), (1, 1, (.c (.int .i64 3)))]), S 7 (.bsl 3 [(.int .i64 0), (.int .i64 0), (.int .i64 0), (.int .i64 0), (.int .i64 0), (.int .i64 0)] [(0, 2, (.t 4)), (2, 2, (.t 5)), (4, 2, (.t 6))]), SP 8 (.call (.c (.func (.func fn_law13_span) [] [])) [(.c (.int .i64 2)), (.c (.int .i64 3))]), SP 9 (.call (.c (.func (.func fn_law13_span) [] [])) [(.c (.int .i64 0)), (.c (.int .i64 0))]), SP 10 (.call (.c (.func (.func fn_law13_span) [] [])) [(.c (.int .i64 0)), (.c (.int .i64 0))]), SP 11 (.call (.c (.func (.func fn_law13_span) [] [])) [(.c (.int .i64 1)), (.c (.int .i64 3))]), S 12 (.bsl 4 [(.int .i64 0), (.int .i64 0), (.int .i64 0), (.int .i64 0), (.int .i64 0), (.int .i64 0), (.int .i64 0), (.int .i64 0)] [(0, 2, (.t 8)), (2, 2, (.t 9)), (4, 2, (.t 10)), (6, 2, (.t 11))]), S 13 (.build [.nils, .nils, .nils] [(0, 1, (.t 3)), (1, 1, (.t 7)), (2, 1, (.t 12))]), S 14 (.mv (.t 0)), S 15 (.build [.nils, .nils, .nils, .nils] [(0, 3, (.t 13)), (3, 1, (.t 14))]), SN (.store 4 (.t 2) (.t 15))]
@[simp] noncomputable def ir : IR := (.seq (.ops r0) (.seq (.ops r1) .ret))
@[simp] noncomputable def rs : List RV := [.cell 2 true 4]
theorem comp : compF Pg cfg Try.f5 = some (ir, rs, 16) := by kernel_rfl
theorem enter {args : List AVal} {h : Heap} {K : AEnd → Heap → Prop} (F : Nat) (hl : args.length ≤ 16) (a : AW ⟨Pg, F, 16, false, []⟩ ir (RetK rs K) (initT args) [] h) : ACalls Pg fn_law13_sample args h K :=
  ACalls.of_comp follows Try.func5 comp hl a
theorem pure {args : List AVal} {v : AVal} (hl : args.length ≤ 16) (a : AW ⟨Pg, 0, 16, false, []⟩ ir (RetK rs fun e _ => e = .ret v) (initT args) [] nilH) : APure Pg fn_law13_sample args v :=
  APure.of_nil (enter 0 hl a)
end law13_sample

namespace rap_Sets
noncomputable def cfg : Cfg := { pure := pures, pcs := [], raw := [], cuts := [], draws := [], keep := [2, 3] }
@[simp] noncomputable def r0 (_ : Unit) : List Stp := [S 1 (.box (.t 0)), S 2 (.mv (.c .nils)), S 3 (.alloc [(.int .i64 0)])]
@[simp] noncomputable def r1 (_ : Unit) : List Stp := [S 7 (.mkF (.func fn_rap_Sets_1) [] [(.t 3)]), SN (.defer (.t 7) [])]
@[simp] noncomputable def r2 (_ : Unit) : List Stp := [S 4 (.mv (.c .nils))]
@[simp] noncomputable def r3 (_ : Unit) : List Stp := [S 8 (.load true 4 (.t 1)), S 9 (.call (.c (.func (.func fn_rap_open) [] [])) [(.t 8), (.c (.bool true))]), S 10 (.call (.c (.func (.func fn_rap_hull_can) [] [])) [(.t 9)]), S 11 (.len (.t 10)), S 12 (.mv (.c (.int .i64 0)))]
@[simp] noncomputable def r4 (_ : Unit) : List Stp := [S 13 (.bin .lss (.t 12) (.t 11))]
@[simp] noncomputable def r5 (_ : Unit) : List Stp := [S 14 (.ixS 2 (.t 10) (.t 12)), S 15 (.load true 2 (.t 14)), S 6 (.alloc [(.int .u64 0), (.int .u64 0)]), SN (.store 2 (.t 6) (.t 15))]
@[simp] noncomputable def r6 (_ : Unit) : List Stp := [S 16 (.mv (.t 4)), S 17 (.fAddr 0 (.t 6)), S 18 (.load false 1 (.t 17)), S 19 (.conv .i64 (.t 18)), S 20 (.bsl 1 [(.int .i64 0)] [(0, 1, (.t 19))]), S 21 (.app 1 8 (.t 16) (.t 20)), S 4 (.mv (.t 21))]
@[simp] noncomputable def r7 (_ : Unit) : List Stp := [S 22 (.bin .add (.t 12) (.c (.int .i64 1))), S 12 (.mv (.t 22))]
@[simp] noncomputable def r8 (_ : Unit) : List Stp := [S 23 (.mv (.t 4)), S 2 (.mv (.t 23)), SN (.store 1 (.t 3) (.c (.int .i64 0)))]
@[simp] noncomputable def ir : IR := (.seq (.ops r0) (.seq (.ops r1) (.seq (.ops r2) (.seq (.seq (.ops r3) (.block 0 (.loop (.seq (.ops r4) (.seq (.cond (.t 13) .skip (.exit 0)) (.seq (.block 1 (.seq (.ops r5) (.ops r6))) (.ops r7))))))) (.seq (.ops r8) .ret)))))
@[simp] noncomputable def rs : List RV := [.tmp 2, .cell 3 false 1]
theorem comp : compF Pg cfg Try.f6 = some (ir, rs, 24) := by kernel_rfl
theorem enter {args : List AVal} {h : Heap} {K : AEnd → Heap → Prop} (F : Nat) (hl : args.length ≤ 24) (a : AW ⟨Pg, F, 24, false, [2, 3]⟩ ir (RetD Pg rs K) (initT args) [] h) : ACalls Pg fn_rap_Sets args h K :=
  ACalls.of_comp_defer follows Try.func6 comp hl a
theorem pure {args : List AVal} {v : AVal} (hl : args.length ≤ 24) (a : AW ⟨Pg, 0, 24, false, [2, 3]⟩ ir (RetD Pg rs fun e _ => e = .ret v) (initT args) [] nilH) : APure Pg fn_rap_Sets args v :=
  APure.of_nil (enter 0 hl a)
end rap_Sets

namespace law13_find
noncomputable def cfg : Cfg := { pure := pures, pcs := [], raw := [], cuts := [], draws := [], keep := [] }
@[simp] noncomputable def r0 (_ : Unit) : List Stp := [S 4 (.alloc [(.int .i64 0), (.bool false)])]
@[simp] noncomputable def r1 (_ : Unit) : List Stp := [S 5 (.mv (.t 0)), S 6 (.mv (.t 1)), S 7 (.build [(.int .i64 0), (.bool false)] [(0, 1, (.t 5)), (1, 1, (.t 6))]), SN (.store 2 (.t 4) (.t 7))]
@[simp] noncomputable def ir : IR := (.seq (.ops r0) (.seq (.ops r1) .ret))
@[simp] noncomputable def rs : List RV := [.cell 4 true 2]
theorem comp : compF Pg cfg Try.f7 = some (ir, rs, 8) := by kernel_rfl
theorem enter {args : List AVal} {h : Heap} {K : AEnd → Heap → Prop} (F : Nat) (hl : args.length ≤ 8) (a : AW ⟨Pg, F, 8, false, []⟩ ir (RetK rs K) (initT args) [] h) : ACalls Pg fn_law13_find args h K :=
  ACalls.of_comp follows Try.func7 comp hl a
theorem pure {args : List AVal} {v : AVal} (hl : args.length ≤ 8) (a : AW ⟨Pg, 0, 8, false, []⟩ ir (RetK rs fun e _ => e = .ret v) (initT args) [] nilH) : APure Pg fn_law13_find args v :=
  APure.of_nil (enter 0 hl a)
end law13_find

namespace rap_Sound
noncomputable def cfg : Cfg := { pure := pures, pcs := [], raw := [], cuts := [], draws := [], keep := [2, 3] }
@[simp] noncomputable def r0 (_ : Unit) : List Stp := [S 1 (.box (.t 0)), S 2 (.mv (.c (.int .i64 0))), S 3 (.alloc [(.int .i64 0)])]
@[simp] noncomputable def r1 (_ : Unit) : List Stp := [S 5 (.mkF (.func fn_rap_Sound_1) [] [(.t 3)]), SN (.defer (.t 5) [])]
@[simp] noncomputable def r2 (_ : Unit) : List Stp := [S 6 (.load true 4 (.t 1)), S 7 (.call (.c (.func (.func fn_rap_open) [] [])) [(.t 6), (.c (.bool true))]), S 8 (.call (.c (.func (.func fn_rap_hull_can) [] [])) [(.t 7)]), S 4 (.mv (.t 8))]
@[simp] noncomputable def r3 (_ : Unit) : List Stp := [S 10 (.mv (.t 4)), S 11 (.ixS 2 (.t 10) (.c (.int .i64 0))), S 12 (.fAddr 0 (.t 11)), S 13 (.load false 1 (.t 12)), S 14 (.bin .neq (.t 13) (.c (.int .u64 0))), S 9 (.mv (.t 14))]
@[simp] noncomputable def r4 (_ : Unit) : List Stp := [S 2 (.mv (.c (.int .i64 0))), SN (.store 1 (.t 3) (.c (.int .i64 0)))]
@[simp] noncomputable def r5 (_ : Unit) : List Stp := [S 16 (.mv (.t 4)), S 17 (.len (.t 16)), S 18 (.bin .eql (.t 17) (.c (.int .i64 1))), S 15 (.mv (.t 18))]
@[simp] noncomputable def r6 (_ : Unit) : List Stp := [S 2 (.mv (.c (.int .i64 2))), SN (.store 1 (.t 3) (.c (.int .i64 0)))]
@[simp] noncomputable def r7 (_ : Unit) : List Stp := [S 2 (.mv (.c (.int .i64 1))), SN (.store 1 (.t 3) (.c (.int .i64 0)))]
@[simp] noncomputable def ir : IR := (.seq (.ops r0) (.seq (.ops r1) (.seq (.seq (.ops r2) (.block 0 (.seq (.ops r3) (.cond (.t 9) (.seq (.ops r4) .ret) (.seq (.ops r5) (.cond (.t 15) (.seq (.ops r6) .ret) .skip)))))) (.seq (.ops r7) .ret))))
@[simp] noncomputable def rs : List RV := [.tmp 2, .cell 3 false 1]
theorem comp : compF Pg cfg Try.f8 = some (ir, rs, 19) := by kernel_rfl
theorem enter {args : List AVal} {h : Heap} {K : AEnd → Heap → Prop} (F : Nat) (hl : args.length ≤ 19) (a : AW ⟨Pg, F, 19, false, [2, 3]⟩ ir (RetD Pg rs K) (initT args) [] h) : ACalls Pg fn_rap_Sound args h K :=
  ACalls.of_comp_defer follows Try.func8 comp hl a
theorem pure {args : List AVal} {v : AVal} (hl : args.length ≤ 19) (a : AW ⟨Pg, 0, 19, false, [2, 3]⟩ ir (RetD Pg rs fun e _ => e = .ret v) (initT args) [] nilH) : APure Pg fn_rap_Sound args v :=
  APure.of_nil (enter 0 hl a)
end rap_Sound

namespace rap_Fewest
noncomputable def cfg : Cfg := { pure := pures, pcs := [], raw := [], cuts := [], draws := [], keep := [2, 3, 4] }
@[simp] noncomputable def r0 (_ : Unit) : List Stp := [S 1 (.box (.t 0)), S 2 (.mv (.c (.int .i64 0))), S 3 (.mv (.c (.int .i64 0))), S 4 (.alloc [(.int .i64 0)])]
@[simp] noncomputable def r1 (_ : Unit) : List Stp := [S 10 (.mkF (.func fn_rap_Fewest_1) [] [(.t 4)]), SN (.defer (.t 10) [])]
@[simp] noncomputable def r2 (_ : Unit) : List Stp := [S 11 (.load true 4 (.t 1)), S 12 (.call (.c (.func (.func fn_rap_open) [] [])) [(.t 11), (.c (.bool true))]), S 5 (.mv (.t 12))]
@[simp] noncomputable def r3 (_ : Unit) : List Stp := [S 13 (.mv (.t 5)), S 14 (.call (.c (.func (.func fn_rap_hull_can) [] [])) [(.t 13)]), S 6 (.alloc [.nils]), SN (.store 1 (.t 6) (.t 14))]
@[simp] noncomputable def r4 (_ : Unit) : List Stp := [S 16 (.mv (.t 5)), SP 17 (.call (.c (.func (.func fn_rap_hull_seams) [] [])) [(.t 16)]), S 18 (.bin .shl (.c (.int .i64 1)) (.t 17)), S 19 (.call (.c (.func (.func fn_rap_upTo) [] [])) [(.t 18)]), S 20 (.mkF (.func fn_rap_Fewest_2) [] [(.t 6)]), S 21 (.build [.nilf] [(0, 1, (.t 20))]), S 22 (.call (.c (.func (.func fn_rap_best_int) [] [])) [(.t 19), (.t 21)]), S 15 (.mv (.t 22)), S 23 (.ext (.t 15) 0), S 24 (.ext (.t 15) 1), S 25 (.ext (.t 15) 2), S 7 (.mv (.t 23)), S 8 (.mv (.t 24)), S 9 (.mv (.t 25))]
@[simp] noncomputable def r5 (_ : Unit) : List Stp := [S 26 (.mv (.t 9)), S 27 (.call (.c (.func (.func fn_rap_want) [] [])) [(.t 26), (.c (.int .i64 4))])]
@[simp] noncomputable def r6 (_ : Unit) : List Stp := [S 28 (.mv (.t 8)), S 29 (.mv (.t 7)), S 2 (.mv (.t 28)), S 3 (.mv (.t 29)), SN (.store 1 (.t 4) (.c (.int .i64 0)))]
@[simp] noncomputable def ir : IR := (.seq (.ops r0) (.seq (.ops r1) (.seq (.ops r2) (.seq (.ops r3) (.seq (.ops r4) (.seq (.ops r5) (.seq (.ops r6) .ret)))))))
@[simp] noncomputable def rs : List RV := [.tmp 2, .tmp 3, .cell 4 false 1]
theorem comp : compF Pg cfg Try.f9 = some (ir, rs, 30) := by kernel_rfl
theorem enter {args : List AVal} {h : Heap} {K : AEnd → Heap → Prop} (F : Nat) (hl : args.length ≤ 30) (a : AW ⟨Pg, F, 30, false, [2, 3, 4]⟩ ir (RetD Pg rs K) (initT args) [] h) : ACalls Pg fn_rap_Fewest args h K :=
  ACalls.of_comp_defer follows Try.func9 comp hl a
theorem pure {args : List AVal} {v : AVal} (hl : args.length ≤ 30) (a : AW ⟨Pg, 0, 30, false, [2, 3, 4]⟩ ir (RetD Pg rs fun e _ => e = .ret v) (initT args) [] nilH) : APure Pg fn_rap_Fewest args v :=
  APure.of_nil (enter 0 hl a)
end rap_Fewest

namespace rap_Next
noncomputable def cfg : Cfg := { pure := pures, pcs := [], raw := [], cuts := [], draws := [], keep := [2, 3, 4] }
@[simp] noncomputable def r0 (_ : Unit) : List Stp := [S 1 (.box (.t 0)), S 2 (.mv (.c (.int .i64 0))), S 3 (.mv (.c (.int .i64 0))), S 4 (.alloc [(.int .i64 0)])]
@[simp] noncomputable def r1 (_ : Unit) : List Stp := [S 10 (.mkF (.func fn_rap_Next_1) [] [(.t 4)]), SN (.defer (.t 10) [])]
@[simp] noncomputable def r2 (_ : Unit) : List Stp := [S 11 (.load true 4 (.t 1)), S 12 (.call (.c (.func (.func fn_rap_open) [] [])) [(.t 11), (.c (.bool true))]), S 5 (.mv (.t 12))]
@[simp] noncomputable def r3 (_ : Unit) : List Stp := [S 13 (.mv (.t 5)), S 14 (.call (.c (.func (.func fn_rap_hull_can) [] [])) [(.t 13)]), S 6 (.alloc [.nils]), SN (.store 1 (.t 6) (.t 14))]
@[simp] noncomputable def r4 (_ : Unit) : List Stp := [S 15 (.load false 1 (.t 6)), S 16 (.len (.t 15)), S 17 (.bin .gtr (.t 16) (.c (.int .i64 1))), S 18 (.call (.c (.func (.func fn_rap_want) [] [])) [(.t 17), (.c (.int .i64 11))])]
@[simp] noncomputable def r5 (_ : Unit) : List Stp := [S 20 (.mv (.t 5)), SP 21 (.call (.c (.func (.func fn_rap_hull_seams) [] [])) [(.t 20)]), S 22 (.call (.c (.func (.func fn_rap_upTo) [] [])) [(.t 21)]), S 23 (.mkF (.func fn_rap_Next_2) [] [(.t 6)]), S 24 (.build [.nilf] [(0, 1, (.t 23))]), S 25 (.call (.c (.func (.func fn_rap_best_int) [] [])) [(.t 22), (.t 24)]), S 19 (.mv (.t 25)), S 26 (.ext (.t 19) 0), S 27 (.ext (.t 19) 1), S 28 (.ext (.t 19) 2), S 7 (.mv (.t 26)), S 8 (.mv (.t 27)), S 9 (.mv (.t 28))]
@[simp] noncomputable def r6 (_ : Unit) : List Stp := [S 29 (.mv (.t 9)), S 30 (.call (.c (.func (.func fn_rap_want) [] [])) [(.t 29), (.c (.int .i64 4))])]
@[simp] noncomputable def r7 (_ : Unit) : List Stp := [S 31 (.mv (.t 7)), S 32 (.mv (.t 8)), S 2 (.mv (.t 31)), S 3 (.mv (.t 32)), SN (.store 1 (.t 4) (.c (.int .i64 0)))]
@[simp] noncomputable def ir : IR := (.seq (.ops r0) (.seq (.ops r1) (.seq (.ops r2) (.seq (.ops r3) (.seq (.ops r4) (.seq (.ops r5) (.seq (.ops r6) (.seq (.ops r7) .ret))))))))
@[simp] noncomputable def rs : List RV := [.tmp 2, .tmp 3, .cell 4 false 1]
theorem comp : compF Pg cfg Try.f10 = some (ir, rs, 33) := by kernel_rfl
theorem enter {args : List AVal} {h : Heap} {K : AEnd → Heap → Prop} (F : Nat) (hl : args.length ≤ 33) (a : AW ⟨Pg, F, 33, false, [2, 3, 4]⟩ ir (RetD Pg rs K) (initT args) [] h) : ACalls Pg fn_rap_Next args h K :=
  ACalls.of_comp_defer follows Try.func10 comp hl a
theorem pure {args : List AVal} {v : AVal} (hl : args.length ≤ 33) (a : AW ⟨Pg, 0, 33, false, [2, 3, 4]⟩ ir (RetD Pg rs fun e _ => e = .ret v) (initT args) [] nilH) : APure Pg fn_rap_Next args v :=
  APure.of_nil (enter 0 hl a)
end rap_Next

namespace rap_Wrong
noncomputable def cfg : Cfg := { pure := pures, pcs := [], raw := [], cuts := [], draws := [], keep := [2, 3] }
@[simp] noncomputable def r0 (_ : Unit) : List Stp := [S 1 (.box (.t 0)), S 2 (.mv (.c (.int .i64 0))), S 3 (.alloc [(.int .i64 0)])]
@[simp] noncomputable def r1 (_ : Unit) : List Stp := [S 9 (.mkF (.func fn_rap_Wrong_1) [] [(.t 3)]), SN (.defer (.t 9) [])]
@[simp] noncomputable def r2 (_ : Unit) : List Stp := [S 10 (.load true 4 (.t 1)), S 11 (.call (.c (.func (.func fn_rap_open) [] [])) [(.t 10), (.c (.bool true))]), S 4 (.alloc [.nilp]), SN (.store 1 (.t 4) (.t 11))]
@[simp] noncomputable def r3 (_ : Unit) : List Stp := [S 12 (.load false 1 (.t 4)), S 13 (.call (.c (.func (.func fn_rap_hull_sounds) [] [])) [(.t 12)]), S 5 (.alloc [.nils]), SN (.store 1 (.t 5) (.t 13))]
@[simp] noncomputable def r4 (_ : Unit) : List Stp := [S 15 (.fAddr 3 (.t 1)), S 16 (.load false 1 (.t 15)), S 17 (.len (.t 16)), S 18 (.bin .shl (.c (.int .i64 1)) (.t 17)), S 19 (.call (.c (.func (.func fn_rap_upTo) [] [])) [(.t 18)]), S 20 (.mkF (.func fn_rap_Wrong_2) [] [(.t 4), (.t 5)]), S 21 (.build [.nilf] [(0, 1, (.t 20))]), S 22 (.call (.c (.func (.func fn_rap_best_int) [] [])) [(.t 19), (.t 21)]), S 14 (.mv (.t 22)), S 23 (.ext (.t 14) 0), S 24 (.ext (.t 14) 1), S 25 (.ext (.t 14) 2), S 6 (.mv (.t 23)), S 7 (.mv (.t 24)), S 8 (.mv (.t 25))]
@[simp] noncomputable def r5 (_ : Unit) : List Stp := [S 26 (.mv (.t 8)), S 27 (.mv (.t 26)), SG 28 27 true (.mv (.t 6)), SG 29 27 true (.bin .neq (.t 28) (.c (.int .i64 0))), S 30 (.pick (.t 27) (.t 29) (.c (.bool false))), S 31 (.call (.c (.func (.func fn_rap_want) [] [])) [(.t 30), (.c (.int .i64 4))])]
@[simp] noncomputable def r6 (_ : Unit) : List Stp := [S 32 (.mv (.t 6)), S 2 (.mv (.t 32)), SN (.store 1 (.t 3) (.c (.int .i64 0)))]
@[simp] noncomputable def ir : IR := (.seq (.ops r0) (.seq (.ops r1) (.seq (.ops r2) (.seq (.ops r3) (.seq (.ops r4) (.seq (.ops r5) (.seq (.ops r6) .ret)))))))
@[simp] noncomputable def rs : List RV := [.tmp 2, .cell 3 false 1]
theorem comp : compF Pg cfg Try.f11 = some (ir, rs, 33) := by kernel_rfl
theorem enter {args : List AVal} {h : Heap} {K : AEnd → Heap → Prop} (F : Nat) (hl : args.length ≤ 33) (a : AW ⟨Pg, F, 33, false, [2, 3]⟩ ir (RetD Pg rs K) (initT args) [] h) : ACalls Pg fn_rap_Wrong args h K :=
  ACalls.of_comp_defer follows Try.func11 comp hl a
theorem pure {args : List AVal} {v : AVal} (hl : args.length ≤ 33) (a : AW ⟨Pg, 0, 33, false, [2, 3]⟩ ir (RetD Pg rs fun e _ => e = .ret v) (initT args) [] nilH) : APure Pg fn_rap_Wrong args v :=
  APure.of_nil (enter 0 hl a)
end rap_Wrong

namespace law13_alive
noncomputable def cfg : Cfg := { pure := [4, 6, 7, 8, 9, 10, 11, 12, 17, 18, 25, 27, 33, 34, 39, 40, 41, 42, 44, 45, 53, 57, 58, 59, 64, 67, 68, 72, 73, 74, 75, 76, 77, 78, 89, 90, 112, 113, 114], pcs := [], raw := [], cuts := [], draws := [], keep := [] }
@[simp] noncomputable def r0 (_ : Unit) : List Stp := [S 0 (.mv (.c (.bool false)))]
@[simp] noncomputable def r1 (_ : Unit) : List Stp := [S 19 (.call (.c (.func (.func fn_law13_sample) [] [])) [(.c .nils)]), SP 20 (.call (.c (.func (.func fn_rap_Dull) [] [])) [(.t 19), (.c (.int .i64 9))]), S 18 (.mv (.t 20)), S 21 (.ext (.t 18) 0), S 22 (.ext (.t 18) 1), S 1 (.mv (.t 21)), S 2 (.mv (.t 22))]
@[simp] noncomputable def r2 (_ : Unit) : List Stp := [S 24 (.call (.c (.func (.func fn_law13_sample) [] [])) [(.c .nils)]), SP 25 (.call (.c (.func (.func fn_rap_Sets) [] [])) [(.t 24)]), S 23 (.mv (.t 25)), S 26 (.ext (.t 23) 0), S 27 (.ext (.t 23) 1), S 3 (.mv (.t 26)), S 4 (.mv (.t 27))]
@[simp] noncomputable def r3 (_ : Unit) : List Stp := [S 29 (.call (.c (.func (.func fn_law13_sample) [] [])) [(.c .nils)]), SP 30 (.call (.c (.func (.func fn_rap_Open) [] [])) [(.t 29)]), S 28 (.mv (.t 30)), S 31 (.ext (.t 28) 0), S 32 (.ext (.t 28) 1), S 33 (.ext (.t 28) 2), S 5 (.mv (.t 31)), S 6 (.mv (.t 32)), S 7 (.mv (.t 33))]
@[simp] noncomputable def r4 (_ : Unit) : List Stp := [SP 35 (.call (.c (.func (.func fn_law13_find) [] [])) [(.c (.int .i64 0)), (.c (.bool false))]), SP 36 (.call (.c (.func (.func fn_law13_find) [] [])) [(.c (.int .i64 3)), (.c (.bool false))]), S 37 (.bsl 2 [(.int .i64 0), (.bool false), (.int .i64 0), (.bool false)] [(0, 2, (.t 35)), (2, 2, (.t 36))]), S 38 (.call (.c (.func (.func fn_law13_sample) [] [])) [(.t 37)]), SP 39 (.call (.c (.func (.func fn_rap_Sound) [] [])) [(.t 38)]), S 34 (.mv (.t 39)), S 40 (.ext (.t 34) 0), S 41 (.ext (.t 34) 1), S 8 (.mv (.t 40)), S 9 (.mv (.t 41))]
@[simp] noncomputable def r5 (_ : Unit) : List Stp := [S 43 (.call (.c (.func (.func fn_law13_sample) [] [])) [(.c .nils)]), SP 44 (.call (.c (.func (.func fn_rap_Fewest) [] [])) [(.t 43)]), S 42 (.mv (.t 44)), S 45 (.ext (.t 42) 0), S 46 (.ext (.t 42) 1), S 47 (.ext (.t 42) 2), S 10 (.mv (.t 45)), S 11 (.mv (.t 46)), S 12 (.mv (.t 47))]
@[simp] noncomputable def r6 (_ : Unit) : List Stp := [S 49 (.call (.c (.func (.func fn_law13_sample) [] [])) [(.c .nils)]), SP 50 (.call (.c (.func (.func fn_rap_Next) [] [])) [(.t 49)]), S 48 (.mv (.t 50)), S 51 (.ext (.t 48) 0), S 52 (.ext (.t 48) 1), S 53 (.ext (.t 48) 2), S 13 (.mv (.t 51)), S 14 (.mv (.t 52)), S 15 (.mv (.t 53))]
@[simp] noncomputable def r7 (_ : Unit) : List Stp := [SP 55 (.call (.c (.func (.func fn_law13_find) [] [])) [(.c (.int .i64 0)), (.c (.bool true))]), SP 56 (.call (.c (.func (.func fn_law13_find) [] [])) [(.c (.int .i64 1)), (.c (.bool false))]), S 57 (.bsl 2 [(.int .i64 0), (.bool false), (.int .i64 0), (.bool false)] [(0, 2, (.t 55)), (2, 2, (.t 56))]), S 58 (.call (.c (.func (.func fn_law13_sample) [] [])) [(.t 57)]), SP 59 (.call (.c (.func (.func fn_rap_Wrong) [] [])) [(.t 58)]), S 54 (.mv (.t 59)), S 60 (.ext (.t 54) 0), S 61 (.ext (.t 54) 1), S 16 (.mv (.t 60)), S 17 (.mv (.t 61))]
@[simp] noncomputable def r8 (_ : Unit) : List Stp := [S 62 (.mv (.t 1)), S 63 (.bin .eql (.t 62) (.c (.int .i64 15))), S 64 (.mv (.t 63)), SG 65 64 true (.mv (.t 2)), SG 66 64 true (.bin .eql (.t 65) (.c (.int .i64 0))), S 67 (.pick (.t 64) (.t 66) (.c (.bool false))), S 68 (.mv (.t 67)), SG 69 68 true (.mv (.t 3)), SG 70 68 true (.bsl 4 [(.int .i64 0), (.int .i64 0), (.int .i64 0), (.int .i64 0)] [(0, 1, (.c (.int .i64 0))), (1, 1, (.c (.int .i64 1))), (2, 1, (.c (.int .i64 8))), (3, 1, (.c (.int .i64 9)))]), SG 71 68 true (.call (.c (.func (.func fn_law13_ints) [] [])) [(.t 69), (.t 70)]), S 72 (.pick (.t 68) (.t 71) (.c (.bool false))), S 73 (.mv (.t 72)), SG 74 73 true (.mv (.t 4)), SG 75 73 true (.bin .eql (.t 74) (.c (.int .i64 0))), S 76 (.pick (.t 73) (.t 75) (.c (.bool false))), S 77 (.mv (.t 76)), SG 78 77 true (.mv (.t 5)), SG 79 77 true (.bin .eql (.t 78) (.c (.int .i64 9))), S 80 (.pick (.t 77) (.t 79) (.c (.bool false))), S 81 (.mv (.t 80)), SG 82 81 true (.mv (.t 6)), SG 83 81 true (.bin .eql (.t 82) (.c (.int .i64 0))), S 84 (.pick (.t 81) (.t 83) (.c (.bool false))), S 85 (.mv (.t 84)), SG 86 85 true (.mv (.t 7)), SG 87 85 true (.bin .eql (.t 86) (.c (.int .i64 0))), S 88 (.pick (.t 85) (.t 87) (.c (.bool false))), S 89 (.mv (.t 88)), SG 90 89 true (.mv (.t 8)), SG 91 89 true (.bin .eql (.t 90) (.c (.int .i64 2))), S 92 (.pick (.t 89) (.t 91) (.c (.bool false))), S 93 (.mv (.t 92)), SG 94 93 true (.mv (.t 9)), SG 95 93 true (.bin .eql (.t 94) (.c (.int .i64 0))), S 96 (.pick (.t 93) (.t 95) (.c (.bool false))), S 97 (.mv (.t 96)), SG 98 97 true (.mv (.t 10)), SG 99 97 true (.bin .eql (.t 98) (.c (.int .i64 2))), S 100 (.pick (.t 97) (.t 99) (.c (.bool false))), S 101 (.mv (.t 100)), SG 102 101 true (.mv (.t 11)), SG 103 101 true (.bin .eql (.t 102) (.c (.int .i64 5))), S 104 (.pick (.t 101) (.t 103) (.c (.bool false))), S 105 (.mv (.t 104)), SG 106 105 true (.mv (.t 12)), SG 107 105 true (.bin .eql (.t 106) (.c (.int .i64 0))), S 108 (.pick (.t 105) (.t 107) (.c (.bool false))), S 109 (.mv (.t 108)), SG 110 109 true (.mv (.t 13)), SG 111 109 true (.bin .eql (.t 110) (.c (.int .i64 0))), S 112 (.pick (.t 109) (.t 111) (.c (.bool false))), S 113 (.mv (.t 112)), SG 114 113 true (.mv (.t 14)), SG 115 113 true (.bin .eql (.t 114) (.c (.int .i64 2))), S 116 (.pick (.t 113) (.t 115) (.c (.bool false))), S 117 (.mv (.t 116)), SG 118 117 true (.mv (.t 15)), SG 119 117 true (.bin .eql (.t 118) (.c (.int .i64 0))), S 120 (.pick (.t 117) (.t 119) (.c (.bool false))), S 121 (.mv (.t 120)), SG 122 121 true (.mv (.t 16)), SG 123 121 true (.bin .eql (.t 122) (.c (.int .i64 1))), S 124 (.pick (.t 121) (.t 123) (.c (.bool false))), S 125 (.mv (.t 124)), SG 126 125 true (.mv (.t 17)), SG 127 125 true (.bin .eql (.t 126) (.c (.int .i64 0))), S 128 (.pick (.t 125) (.t 127) (.c (.bool false))), S 0 (.mv (.t 128))]
@[simp] noncomputable def ir : IR := (.seq (.ops r0) (.seq (.ops r1) (.seq (.ops r2) (.seq (.ops r3) (.seq (.ops r4) (.seq (.ops r5) (.seq (.ops r6) (.seq (.ops r7) (.seq (.ops r8) .ret)))))))))
@[simp] noncomputable def rs : List RV := [.tmp 0]
theorem comp : compF Pg cfg Try.f12 = some (ir, rs, 129) := by kernel_rfl
theorem enter {args : List AVal} {h : Heap} {K : AEnd → Heap → Prop} (F : Nat) (hl : args.length ≤ 129) (a : AW ⟨Pg, F, 129, false, []⟩ ir (RetK rs K) (initT args) [] h) : ACalls Pg fn_law13_alive args h K :=
  ACalls.of_comp follows Try.func12 comp hl a
theorem pure {args : List AVal} {v : AVal} (hl : args.length ≤ 129) (a : AW ⟨Pg, 0, 129, false, []⟩ ir (RetK rs fun e _ => e = .ret v) (initT args) [] nilH) : APure Pg fn_law13_alive args v :=
  APure.of_nil (enter 0 hl a)
end law13_alive

namespace law13_ints
noncomputable def cfg : Cfg := { pure := pures, pcs := [], raw := [], cuts := [], draws := [], keep := [] }
@[simp] noncomputable def r0 (_ : Unit) : List Stp := [S 4 (.mv (.c (.bool false)))]
@[simp] noncomputable def r1 (_ : Unit) : List Stp := [S 5 (.mv (.t 0)), S 6 (.mv (.t 1)), SP 7 (.call (.c (.func (.func fn_ref13_Ints) [] [])) [(.t 5), (.t 6)]), S 4 (.mv (.t 7))]
@[simp] noncomputable def ir : IR := (.seq (.ops r0) (.seq (.ops r1) .ret))
@[simp] noncomputable def rs : List RV := [.tmp 4]
theorem comp : compF Pg cfg Try.f13 = some (ir, rs, 8) := by kernel_rfl
theorem enter {args : List AVal} {h : Heap} {K : AEnd → Heap → Prop} (F : Nat) (hl : args.length ≤ 8) (a : AW ⟨Pg, F, 8, false, []⟩ ir (RetK rs K) (initT args) [] h) : ACalls Pg fn_law13_ints args h K :=
  ACalls.of_comp follows Try.func13 comp hl a
theorem pure {args : List AVal} {v : AVal} (hl : args.length ≤ 8) (a : AW ⟨Pg, 0, 8, false, []⟩ ir (RetK rs fun e _ => e = .ret v) (initT args) [] nilH) : APure Pg fn_law13_ints args v :=
  APure.of_nil (enter 0 hl a)
end law13_ints

namespace rap_Dull_1
noncomputable def cfg : Cfg := { pure := pures, pcs := [], raw := [], cuts := [], draws := [], keep := [] }
@[simp] noncomputable def r0 (_ : Unit) : List Stp := [S 1 (.recov), S 2 (.call (.c (.func (.func fn_rap_said) [] [])) [(.t 1), (.t 0)])]
@[simp] noncomputable def ir : IR := (.ops r0)
@[simp] noncomputable def rs : List RV := []
theorem comp : compF Pg cfg Try.f14 = some (ir, rs, 3) := by kernel_rfl
theorem enter {args : List AVal} {h : Heap} {K : AEnd → Heap → Prop} (F : Nat) (hl : args.length ≤ 3) (a : AW ⟨Pg, F, 3, false, []⟩ ir (RetK rs K) (initT args) [] h) : ACalls Pg fn_rap_Dull_1 args h K :=
  ACalls.of_comp follows Try.func14 comp hl a
theorem pure {args : List AVal} {v : AVal} (hl : args.length ≤ 3) (a : AW ⟨Pg, 0, 3, false, []⟩ ir (RetK rs fun e _ => e = .ret v) (initT args) [] nilH) : APure Pg fn_rap_Dull_1 args v :=
  APure.of_nil (enter 0 hl a)
theorem recClo : RecClo Pg fn_rap_Dull_1 fn_rap_said := ⟨_, Try.func14, by kernel_rfl⟩
end rap_Dull_1

namespace rap_said
noncomputable def cfg : Cfg := { pure := pures, pcs := [], raw := [], cuts := [], draws := [], keep := [] }
@[simp] noncomputable def r0 (_ : Unit) : List Stp := [S 6 (.mv (.t 0)), S 7 (.eqN .i false (.t 6))]
@[simp] noncomputable def r1 (_ : Unit) : List Stp := [S 9 (.mv (.t 0)), S 10 (.tyAs 79 true (.agg [(.int .i64 0)]) (.t 9)), S 8 (.mv (.t 10)), S 11 (.ext (.t 8) 0), S 12 (.ext (.t 8) 1), S 4 (.alloc [(.int .i64 0)]), SN (.store 1 (.t 4) (.t 11)), S 5 (.mv (.t 12))]
@[simp] noncomputable def r2 (_ : Unit) : List Stp := [S 13 (.mv (.t 5)), S 14 (.un .not (.t 13))]
@[simp] noncomputable def r3 (_ : Unit) : List Stp := [S 15 (.mv (.t 0)), SN (.panic (.t 15))]
@[simp] noncomputable def r4 (_ : Unit) : List Stp := [S 16 (.mv (.t 1)), S 17 (.fAddr 0 (.t 4)), S 18 (.load false 1 (.t 17)), S 19 (.nilck Pg (.t 16)), SN (.store 1 (.t 19) (.t 18))]
@[simp] noncomputable def ir : IR := (.seq (.seq (.ops r0) (.cond (.t 7) .ret .skip)) (.seq (.ops r1) (.seq (.seq (.ops r2) (.cond (.t 14) (.ops r3) .skip)) (.ops r4))))
@[simp] noncomputable def rs : List RV := []
theorem comp : compF Pg cfg Try.f15 = some (ir, rs, 20) := by kernel_rfl
theorem enter {args : List AVal} {h : Heap} {K : AEnd → Heap → Prop} (F : Nat) (hl : args.length ≤ 20) (a : AW ⟨Pg, F, 20, false, []⟩ ir (RetK rs K) (initT args) [] h) : ACalls Pg fn_rap_said args h K :=
  ACalls.of_comp follows Try.func15 comp hl a
theorem pure {args : List AVal} {v : AVal} (hl : args.length ≤ 20) (a : AW ⟨Pg, 0, 20, false, []⟩ ir (RetK rs fun e _ => e = .ret v) (initT args) [] nilH) : APure Pg fn_rap_said args v :=
  APure.of_nil (enter 0 hl a)
end rap_said

namespace rap_open
noncomputable def cfg : Cfg := { pure := pures, pcs := [], raw := [], cuts := [], draws := [(13, [⟨0, false, [], []⟩, ⟨1, false, [], []⟩, ⟨2, false, [], []⟩, ⟨3, false, [], []⟩, ⟨4, false, [], []⟩, ⟨5, false, [], []⟩, ⟨6, false, [], []⟩, ⟨7, false, [], []⟩]), (18, [⟨0, false, [], []⟩, ⟨1, false, [], []⟩, ⟨3, false, [], []⟩, ⟨4, false, [], []⟩, ⟨6, false, [], []⟩, ⟨7, false, [], []⟩, ⟨9, false, [], []⟩, ⟨10, false, [], []⟩, ⟨13, false, [], []⟩, ⟨18, false, [], []⟩, ⟨19, false, [], []⟩, ⟨21, false, [], []⟩, ⟨22, false, [], []⟩, ⟨25, false, [], []⟩, ⟨30, false, [], []⟩, ⟨31, false, [], []⟩, ⟨34, false, [], []⟩, ⟨35, false, [], []⟩, ⟨2, false, [], []⟩, ⟨5, false, [], []⟩, ⟨8, false, [], []⟩, ⟨11, false, [], []⟩, ⟨12, false, [], []⟩, ⟨14, false, [], []⟩, ⟨15, false, [], []⟩, ⟨20, false, [], []⟩, ⟨23, false, [], []⟩, ⟨24, false, [], []⟩, ⟨26, false, [], []⟩, ⟨27, false, [], []⟩, ⟨16, true, [], []⟩, ⟨17, false, [28], [2, 5, 20, 24, 26]⟩, ⟨28, true, [], []⟩, ⟨29, false, [], [2, 5]⟩, ⟨32, false, [], []⟩, ⟨33, false, [], [5]⟩, ⟨36, false, [], []⟩, ⟨37, false, [], []⟩])], keep := [] }
@[simp] noncomputable def r0 (_ : Unit) : List Stp := [S 2 (.box (.t 0)), S 4 (.mv (.c .nilp))]
@[simp] noncomputable def r1 (_ : Unit) : List Stp := [S 14 (.fAddr 0 (.t 2)), S 15 (.load true 3 (.t 14)), SP 16 (.call (.c (.func (.func fn_drive_Times) [] [])) [(.t 15), (.c (.int .i64 (-1)))]), S 13 (.mv (.t 16)), S 17 (.ext (.t 13) 0), S 18 (.ext (.t 13) 1), S 5 (.alloc [(.int .i64 0), (.int .i64 0)]), SN (.store 2 (.t 5) (.t 17)), S 6 (.mv (.t 18))]
@[simp] noncomputable def r2 (_ : Unit) : List Stp := [S 19 (.mv (.t 6)), S 20 (.bin .eql (.t 19) (.c (.int .i64 2))), S 21 (.mv (.t 20)), SG 22 21 true (.fAddr 3 (.t 2)), SG 23 21 true (.load false 1 (.t 22)), SG 24 21 true (.len (.t 23)), SG 25 21 true (.bin .leq (.t 24) (.c (.int .i64 10))), S 26 (.pick (.t 21) (.t 25) (.c (.bool false))), S 27 (.call (.c (.func (.func fn_rap_want) [] [])) [(.t 26), (.c (.int .i64 1))])]
@[simp] noncomputable def r3 (_ : Unit) : List Stp := [S 28 (.fAddr 3 (.t 2)), S 29 (.load false 1 (.t 28)), S 30 (.len (.t 29)), S 31 (.mv (.c (.int .i64 0)))]
@[simp] noncomputable def r4 (_ : Unit) : List Stp := [S 32 (.bin .lss (.t 31) (.t 30))]
@[simp] noncomputable def r5 (_ : Unit) : List Stp := [S 33 (.ixS 2 (.t 29) (.t 31)), S 34 (.load true 2 (.t 33)), S 8 (.alloc [(.int .i64 0), (.bool false)]), SN (.store 2 (.t 8) (.t 34))]
@[simp] noncomputable def r6 (_ : Unit) : List Stp := [S 35 (.fAddr 0 (.t 8)), S 36 (.load false 1 (.t 35)), S 37 (.fAddr 0 (.t 2)), S 38 (.fAddr 0 (.t 37)), S 39 (.load false 1 (.t 38)), S 40 (.len (.t 39)), S 41 (.bin .sub (.t 40) (.c (.int .i64 1))), SP 42 (.call (.c (.func (.func fn_rap_within) [] [])) [(.t 36), (.c (.int .i64 0)), (.t 41)]), S 43 (.call (.c (.func (.func fn_rap_want) [] [])) [(.t 42), (.c (.int .i64 1))])]
@[simp] noncomputable def r7 (_ : Unit) : List Stp := [S 44 (.bin .add (.t 31) (.c (.int .i64 1))), S 31 (.mv (.t 44))]
@[simp] noncomputable def r8 (_ : Unit) : List Stp := [S 45 (.mv (.t 1)), S 46 (.call (.c (.func (.func fn_rap_want) [] [])) [(.t 45), (.c (.int .i64 2))])]
@[simp] noncomputable def r9 (_ : Unit) : List Stp := [S 47 (.load true 4 (.t 2)), S 48 (.build [.nils, .nils, .nils, .nils, (.int .u64 0), (.int .u64 0), (.int .u64 0), (.int .u64 0), (.int .u64 0), (.int .u64 0)] [(0, 4, (.t 47))]), S 49 (.box (.t 48)), S 9 (.mv (.t 49))]
@[simp] noncomputable def r10 (_ : Unit) : List Stp := [S 50 (.fAddr 0 (.t 2)), S 51 (.fAddr 0 (.t 50)), S 52 (.load false 1 (.t 51)), S 53 (.len (.t 52)), S 54 (.mv (.c (.int .i64 0)))]
@[simp] noncomputable def r11 (_ : Unit) : List Stp := [S 55 (.bin .lss (.t 54) (.t 53))]
@[simp] noncomputable def r12 (_ : Unit) : List Stp := [S 56 (.mv (.t 54)), S 10 (.mv (.t 56))]
@[simp] noncomputable def r13 (_ : Unit) : List Stp := [S 57 (.mv (.t 9)), S 58 (.mv (.t 10)), S 59 (.mv (.t 10)), S 60 (.bin .shl (.c (.int .u64 1)) (.t 59)), S 61 (.nilck Pg (.t 57)), S 62 (.fAddr 4 (.t 61)), S 63 (.ixA 6 1 (.t 62) (.t 58)), SN (.store 1 (.t 63) (.t 60))]
@[simp] noncomputable def r14 (_ : Unit) : List Stp := [S 64 (.bin .add (.t 54) (.c (.int .i64 1))), S 54 (.mv (.t 64))]
@[simp] noncomputable def r15 (_ : Unit) : List Stp := [S 65 (.fAddr 0 (.t 2)), S 66 (.fAddr 1 (.t 65)), S 67 (.load false 1 (.t 66)), S 68 (.len (.t 67)), S 69 (.mv (.c (.int .i64 0)))]
@[simp] noncomputable def r16 (_ : Unit) : List Stp := [S 70 (.bin .lss (.t 69) (.t 68))]
@[simp] noncomputable def r17 (_ : Unit) : List Stp := [S 71 (.ixS 2 (.t 67) (.t 69)), S 72 (.load true 2 (.t 71)), S 12 (.alloc [(.int .i64 0), (.int .i64 0)]), SN (.store 2 (.t 12) (.t 72))]
@[simp] noncomputable def r18 (_ : Unit) : List Stp := [S 73 (.mv (.t 9)), S 74 (.ixA 2 1 (.t 12) (.c (.int .i64 0))), S 76 (.mv (.t 9)), S 77 (.ixA 2 1 (.t 12) (.c (.int .i64 1))), S 79 (.mv (.t 9)), S 80 (.ixA 2 1 (.t 12) (.c (.int .i64 0))), S 82 (.nilck Pg (.t 79)), S 83 (.fAddr 4 (.t 82)), S 86 (.ixA 2 1 (.t 12) (.c (.int .i64 1))), S 91 (.mv (.t 9)), S 92 (.ixA 2 1 (.t 12) (.c (.int .i64 1))), S 94 (.nilck Pg (.t 91)), S 95 (.fAddr 4 (.t 94)), S 98 (.ixA 2 1 (.t 12) (.c (.int .i64 0))), S 103 (.nilck Pg (.t 73)), S 104 (.fAddr 4 (.t 103)), S 106 (.nilck Pg (.t 76)), S 107 (.fAddr 4 (.t 106)), S 75 (.load false 1 (.t 74)), S 78 (.load false 1 (.t 77)), S 81 (.load false 1 (.t 80)), S 84 (.ixA 6 1 (.t 83) (.t 81)), S 85 (.load false 1 (.t 84)), S 87 (.load false 1 (.t 86)), S 88 (.bin .shl (.c (.int .u64 1)) (.t 87)), S 93 (.load false 1 (.t 92)), S 96 (.ixA 6 1 (.t 95) (.t 93)), S 97 (.load false 1 (.t 96)), S 99 (.load false 1 (.t 98)), S 100 (.bin .shl (.c (.int .u64 1)) (.t 99)), SD (some 89) (.bsl 2 [(.int .u64 0), (.int .u64 0)] [(0, 1, (.t 85)), (1, 1, (.t 88))]) true [] [], SD (some 90) (.call (.c (.func (.func fn_rap_union) [] [])) [(.t 89)]) false [I 101 (.bsl 2 [(.int .u64 0), (.int .u64 0)] [(0, 1, (.t 97)), (1, 1, (.t 100))])] [I 75 (.load false 1 (.t 74)), I 78 (.load false 1 (.t 77)), I 93 (.load false 1 (.t 92)), I 97 (.load false 1 (.t 96)), I 99 (.load false 1 (.t 98))], SD (some 101) (.bsl 2 [(.int .u64 0), (.int .u64 0)] [(0, 1, (.t 97)), (1, 1, (.t 100))]) true [] [], SD (some 102) (.call (.c (.func (.func fn_rap_union) [] [])) [(.t 101)]) false [] [I 75 (.load false 1 (.t 74)), I 78 (.load false 1 (.t 77))], S 105 (.ixA 6 1 (.t 104) (.t 75)), SD none (.store 1 (.t 105) (.t 90)) false [] [I 78 (.load false 1 (.t 77))], S 108 (.ixA 6 1 (.t 107) (.t 78)), SN (.store 1 (.t 108) (.t 102))]
@[simp] noncomputable def r19 (_ : Unit) : List Stp := [S 109 (.bin .add (.t 69) (.c (.int .i64 1))), S 69 (.mv (.t 109))]
@[simp] noncomputable def r20 (_ : Unit) : List Stp := [S 110 (.mv (.t 9)), S 4 (.mv (.t 110))]
@[simp] noncomputable def ir : IR := (.seq (.ops r0) (.seq (.ops r1) (.seq (.ops r2) (.seq (.seq (.ops r3) (.block 0 (.loop (.seq (.ops r4) (.seq (.cond (.t 32) .skip (.exit 0)) (.seq (.block 1 (.seq (.ops r5) (.ops r6))) (.ops r7))))))) (.seq (.ops r8) (.seq (.ops r9) (.seq (.seq (.ops r10) (.block 2 (.loop (.seq (.ops r11) (.seq (.cond (.t 55) .skip (.exit 2)) (.seq (.block 3 (.seq (.ops r12) (.ops r13))) (.ops r14))))))) (.seq (.seq (.ops r15) (.block 4 (.loop (.seq (.ops r16) (.seq (.cond (.t 70) .skip (.exit 4)) (.seq (.block 5 (.seq (.ops r17) (.ops r18))) (.ops r19))))))) (.seq (.ops r20) .ret)))))))))
@[simp] noncomputable def rs : List RV := [.tmp 4]
theorem comp : compF Pg cfg Try.f16 = some (ir, rs, 111) := by kernel_rfl
theorem enter {args : List AVal} {h : Heap} {K : AEnd → Heap → Prop} (F : Nat) (hl : args.length ≤ 111) (a : AW ⟨Pg, F, 111, false, []⟩ ir (RetK rs K) (initT args) [] h) : ACalls Pg fn_rap_open args h K :=
  ACalls.of_comp follows Try.func16 comp hl a
theorem pure {args : List AVal} {v : AVal} (hl : args.length ≤ 111) (a : AW ⟨Pg, 0, 111, false, []⟩ ir (RetK rs fun e _ => e = .ret v) (initT args) [] nilH) : APure Pg fn_rap_open args v :=
  APure.of_nil (enter 0 hl a)
end rap_open

namespace rap_around_dull
noncomputable def cfg : Cfg := { pure := pures, pcs := [], raw := [], cuts := [], draws := [], keep := [] }
@[simp] noncomputable def r0 (_ : Unit) : List Stp := [S 2 (.box (.t 0)), S 4 (.mv (.c (.int .u64 0)))]
@[simp] noncomputable def r1 (_ : Unit) : List Stp := [S 7 (.load true 6 (.t 2)), S 8 (.mv (.c (.int .i64 0)))]
@[simp] noncomputable def r2 (_ : Unit) : List Stp := [S 9 (.bin .lss (.t 8) (.c (.int .i64 6)))]
@[simp] noncomputable def r3 (_ : Unit) : List Stp := [S 10 (.mv (.t 8)), S 11 (.ixV 6 1 false (.t 7) (.t 8)), S 5 (.mv (.t 10)), S 6 (.mv (.t 11))]
@[simp] noncomputable def r4 (_ : Unit) : List Stp := [S 12 (.mv (.t 6)), S 13 (.mv (.t 1)), S 14 (.bin .and (.t 12) (.t 13)), S 15 (.bin .neq (.t 14) (.c (.int .u64 0)))]
@[simp] noncomputable def r5 (_ : Unit) : List Stp := [S 16 (.mv (.t 4)), S 17 (.mv (.t 5)), S 18 (.bin .shl (.c (.int .u64 1)) (.t 17)), S 19 (.bsl 2 [(.int .u64 0), (.int .u64 0)] [(0, 1, (.t 16)), (1, 1, (.t 18))]), S 20 (.call (.c (.func (.func fn_rap_union) [] [])) [(.t 19)]), S 4 (.mv (.t 20))]
@[simp] noncomputable def r6 (_ : Unit) : List Stp := [S 21 (.bin .add (.t 8) (.c (.int .i64 1))), S 8 (.mv (.t 21))]
@[simp] noncomputable def r7 (_ : Unit) : List Stp := [S 22 (.mv (.t 4)), S 4 (.mv (.t 22))]
@[simp] noncomputable def ir : IR := (.seq (.ops r0) (.seq (.seq (.ops r1) (.block 0 (.loop (.seq (.ops r2) (.seq (.cond (.t 9) .skip (.exit 0)) (.seq (.block 1 (.seq (.ops r3) (.seq (.ops r4) (.cond (.t 15) (.ops r5) .skip)))) (.ops r6))))))) (.seq (.ops r7) .ret)))
@[simp] noncomputable def rs : List RV := [.tmp 4]
theorem comp : compF Pg cfg Try.f17 = some (ir, rs, 23) := by kernel_rfl
theorem enter {args : List AVal} {h : Heap} {K : AEnd → Heap → Prop} (F : Nat) (hl : args.length ≤ 23) (a : AW ⟨Pg, F, 23, false, []⟩ ir (RetK rs K) (initT args) [] h) : ACalls Pg fn_rap_around_dull args h K :=
  ACalls.of_comp follows Try.func17 comp hl a
theorem pure {args : List AVal} {v : AVal} (hl : args.length ≤ 23) (a : AW ⟨Pg, 0, 23, false, []⟩ ir (RetK rs fun e _ => e = .ret v) (initT args) [] nilH) : APure Pg fn_rap_around_dull args v :=
  APure.of_nil (enter 0 hl a)
end rap_around_dull

namespace law13_span
noncomputable def cfg : Cfg := { pure := pures, pcs := [], raw := [], cuts := [], draws := [], keep := [] }
@[simp] noncomputable def r0 (_ : Unit) : List Stp := [S 4 (.alloc [(.int .i64 0), (.int .i64 0)])]
@[simp] noncomputable def r1 (_ : Unit) : List Stp := [S 5 (.mv (.t 0)), S 6 (.mv (.t 1)), S 7 (.build [(.int .i64 0), (.int .i64 0)] [(0, 1, (.t 5)), (1, 1, (.t 6))]), SN (.store 2 (.t 4) (.t 7))]
@[simp] noncomputable def ir : IR := (.seq (.ops r0) (.seq (.ops r1) .ret))
@[simp] noncomputable def rs : List RV := [.cell 4 true 2]
theorem comp : compF Pg cfg Try.f18 = some (ir, rs, 8) := by kernel_rfl
theorem enter {args : List AVal} {h : Heap} {K : AEnd → Heap → Prop} (F : Nat) (hl : args.length ≤ 8) (a : AW ⟨Pg, F, 8, false, []⟩ ir (RetK rs K) (initT args) [] h) : ACalls Pg fn_law13_span args h K :=
  ACalls.of_comp follows Try.func18 comp hl a
theorem pure {args : List AVal} {v : AVal} (hl : args.length ≤ 8) (a : AW ⟨Pg, 0, 8, false, []⟩ ir (RetK rs fun e _ => e = .ret v) (initT args) [] nilH) : APure Pg fn_law13_span args v :=
  APure.of_nil (enter 0 hl a)
end law13_span

namespace rap_Sets_1
noncomputable def cfg : Cfg := { pure := pures, pcs := [], raw := [], cuts := [], draws := [], keep := [] }
@[simp] noncomputable def r0 (_ : Unit) : List Stp := [S 1 (.recov), S 2 (.call (.c (.func (.func fn_rap_said) [] [])) [(.t 1), (.t 0)])]
@[simp] noncomputable def ir : IR := (.ops r0)
@[simp] noncomputable def rs : List RV := []
theorem comp : compF Pg cfg Try.f19 = some (ir, rs, 3) := by kernel_rfl
theorem enter {args : List AVal} {h : Heap} {K : AEnd → Heap → Prop} (F : Nat) (hl : args.length ≤ 3) (a : AW ⟨Pg, F, 3, false, []⟩ ir (RetK rs K) (initT args) [] h) : ACalls Pg fn_rap_Sets_1 args h K :=
  ACalls.of_comp follows Try.func19 comp hl a
theorem pure {args : List AVal} {v : AVal} (hl : args.length ≤ 3) (a : AW ⟨Pg, 0, 3, false, []⟩ ir (RetK rs fun e _ => e = .ret v) (initT args) [] nilH) : APure Pg fn_rap_Sets_1 args v :=
  APure.of_nil (enter 0 hl a)
theorem recClo : RecClo Pg fn_rap_Sets_1 fn_rap_said := ⟨_, Try.func19, by kernel_rfl⟩
end rap_Sets_1

namespace rap_hull_can
noncomputable def cfg : Cfg := { pure := pures, pcs := [], raw := [], cuts := [], draws := [], keep := [] }
@[simp] noncomputable def r0 (_ : Unit) : List Stp := [S 2 (.mv (.c .nils))]
@[simp] noncomputable def r1 (_ : Unit) : List Stp := [S 4 (.mv (.t 0)), S 5 (.mv (.t 0)), S 6 (.call (.c (.func (.func fn_rap_hull_sounds) [] [])) [(.t 5)]), S 7 (.mv (.t 0)), SP 8 (.call (.c (.func (.func fn_rap_hull_every) [] [])) [(.t 7)]), S 9 (.call (.c (.func (.func fn_rap_hull_heard) [] [])) [(.t 4), (.t 6), (.t 8)]), S 3 (.mv (.t 9))]
@[simp] noncomputable def r2 (_ : Unit) : List Stp := [S 10 (.mv (.t 3)), S 11 (.len (.t 10)), S 12 (.bin .gtr (.t 11) (.c (.int .i64 0))), S 13 (.call (.c (.func (.func fn_rap_want) [] [])) [(.t 12), (.c (.int .i64 10))])]
@[simp] noncomputable def r3 (_ : Unit) : List Stp := [S 14 (.mv (.t 3)), S 2 (.mv (.t 14))]
@[simp] noncomputable def ir : IR := (.seq (.ops r0) (.seq (.ops r1) (.seq (.ops r2) (.seq (.ops r3) .ret))))
@[simp] noncomputable def rs : List RV := [.tmp 2]
theorem comp : compF Pg cfg Try.f20 = some (ir, rs, 15) := by kernel_rfl
theorem enter {args : List AVal} {h : Heap} {K : AEnd → Heap → Prop} (F : Nat) (hl : args.length ≤ 15) (a : AW ⟨Pg, F, 15, false, []⟩ ir (RetK rs K) (initT args) [] h) : ACalls Pg fn_rap_hull_can args h K :=
  ACalls.of_comp follows Try.func20 comp hl a
theorem pure {args : List AVal} {v : AVal} (hl : args.length ≤ 15) (a : AW ⟨Pg, 0, 15, false, []⟩ ir (RetK rs fun e _ => e = .ret v) (initT args) [] nilH) : APure Pg fn_rap_hull_can args v :=
  APure.of_nil (enter 0 hl a)
end rap_hull_can

namespace rap_Sound_1
noncomputable def cfg : Cfg := { pure := pures, pcs := [], raw := [], cuts := [], draws := [], keep := [] }
@[simp] noncomputable def r0 (_ : Unit) : List Stp := [S 1 (.recov), S 2 (.call (.c (.func (.func fn_rap_said) [] [])) [(.t 1), (.t 0)])]
@[simp] noncomputable def ir : IR := (.ops r0)
@[simp] noncomputable def rs : List RV := []
theorem comp : compF Pg cfg Try.f21 = some (ir, rs, 3) := by kernel_rfl
theorem enter {args : List AVal} {h : Heap} {K : AEnd → Heap → Prop} (F : Nat) (hl : args.length ≤ 3) (a : AW ⟨Pg, F, 3, false, []⟩ ir (RetK rs K) (initT args) [] h) : ACalls Pg fn_rap_Sound_1 args h K :=
  ACalls.of_comp follows Try.func21 comp hl a
theorem pure {args : List AVal} {v : AVal} (hl : args.length ≤ 3) (a : AW ⟨Pg, 0, 3, false, []⟩ ir (RetK rs fun e _ => e = .ret v) (initT args) [] nilH) : APure Pg fn_rap_Sound_1 args v :=
  APure.of_nil (enter 0 hl a)
theorem recClo : RecClo Pg fn_rap_Sound_1 fn_rap_said := ⟨_, Try.func21, by kernel_rfl⟩
end rap_Sound_1

namespace rap_Fewest_1
noncomputable def cfg : Cfg := { pure := pures, pcs := [], raw := [], cuts := [], draws := [], keep := [] }
@[simp] noncomputable def r0 (_ : Unit) : List Stp := [S 1 (.recov), S 2 (.call (.c (.func (.func fn_rap_said) [] [])) [(.t 1), (.t 0)])]
@[simp] noncomputable def ir : IR := (.ops r0)
@[simp] noncomputable def rs : List RV := []
theorem comp : compF Pg cfg Try.f22 = some (ir, rs, 3) := by kernel_rfl
theorem enter {args : List AVal} {h : Heap} {K : AEnd → Heap → Prop} (F : Nat) (hl : args.length ≤ 3) (a : AW ⟨Pg, F, 3, false, []⟩ ir (RetK rs K) (initT args) [] h) : ACalls Pg fn_rap_Fewest_1 args h K :=
  ACalls.of_comp follows Try.func22 comp hl a
theorem pure {args : List AVal} {v : AVal} (hl : args.length ≤ 3) (a : AW ⟨Pg, 0, 3, false, []⟩ ir (RetK rs fun e _ => e = .ret v) (initT args) [] nilH) : APure Pg fn_rap_Fewest_1 args v :=
  APure.of_nil (enter 0 hl a)
theorem recClo : RecClo Pg fn_rap_Fewest_1 fn_rap_said := ⟨_, Try.func22, by kernel_rfl⟩
end rap_Fewest_1

namespace rap_best_int
noncomputable def cfg : Cfg := { pure := pures, pcs := [], raw := [], cuts := [], draws := [], keep := [] }
@[simp] noncomputable def r0 (_ : Unit) : List Stp := [S 3 (.box (.t 1)), S 4 (.mv (.c (.int .i64 0))), S 5 (.mv (.c (.int .i64 0))), S 6 (.mv (.c (.bool false)))]
@[simp] noncomputable def r1 (_ : Unit) : List Stp := [S 11 (.mv (.t 0)), S 12 (.len (.t 11)), S 13 (.mv (.c (.int .i64 0)))]
@[simp] noncomputable def r2 (_ : Unit) : List Stp := [S 14 (.bin .lss (.t 13) (.t 12))]
@[simp] noncomputable def r3 (_ : Unit) : List Stp := [S 15 (.ixS 1 (.t 11) (.t 13)), S 16 (.load false 1 (.t 15)), S 8 (.mv (.t 16))]
@[simp] noncomputable def r4 (_ : Unit) : List Stp := [S 18 (.fAddr 0 (.t 3)), S 19 (.load false 1 (.t 18)), S 20 (.mv (.t 8)), S 21 (.call (.t 19) [(.t 20)]), S 17 (.mv (.t 21)), S 22 (.ext (.t 17) 0), S 23 (.ext (.t 17) 1), S 9 (.mv (.t 22)), S 10 (.mv (.t 23))]
@[simp] noncomputable def r5 (_ : Unit) : List Stp := [S 24 (.mv (.t 10)), S 25 (.mv (.t 24)), SG 26 25 true (.mv (.t 6)), SG 27 25 true (.un .not (.t 26)), SG 28 25 true (.mv (.t 27)), SG 29 28 false (.mv (.t 9)), SG 30 28 false (.mv (.t 5)), SG 31 28 false (.bin .lss (.t 29) (.t 30)), SG 32 25 true (.pick (.t 28) (.c (.bool true)) (.t 31)), S 33 (.pick (.t 25) (.t 32) (.c (.bool false)))]
@[simp] noncomputable def r6 (_ : Unit) : List Stp := [S 34 (.mv (.t 8)), S 35 (.mv (.t 9)), S 4 (.mv (.t 34)), S 5 (.mv (.t 35)), S 6 (.mv (.c (.bool true)))]
@[simp] noncomputable def r7 (_ : Unit) : List Stp := [S 36 (.bin .add (.t 13) (.c (.int .i64 1))), S 13 (.mv (.t 36))]
@[simp] noncomputable def r8 (_ : Unit) : List Stp := [S 37 (.mv (.t 4)), S 38 (.mv (.t 5)), S 39 (.mv (.t 6)), S 4 (.mv (.t 37)), S 5 (.mv (.t 38)), S 6 (.mv (.t 39))]
@[simp] noncomputable def ir : IR := (.seq (.ops r0) (.seq (.seq (.ops r1) (.block 0 (.loop (.seq (.ops r2) (.seq (.cond (.t 14) .skip (.exit 0)) (.seq (.block 1 (.seq (.ops r3) (.seq (.ops r4) (.seq (.ops r5) (.cond (.t 33) (.ops r6) .skip))))) (.ops r7))))))) (.seq (.ops r8) .ret)))
@[simp] noncomputable def rs : List RV := [.tmp 4, .tmp 5, .tmp 6]
theorem comp : compF Pg cfg Try.f23 = some (ir, rs, 40) := by kernel_rfl
theorem enter {args : List AVal} {h : Heap} {K : AEnd → Heap → Prop} (F : Nat) (hl : args.length ≤ 40) (a : AW ⟨Pg, F, 40, false, []⟩ ir (RetK rs K) (initT args) [] h) : ACalls Pg fn_rap_best_int args h K :=
  ACalls.of_comp follows Try.func23 comp hl a
theorem pure {args : List AVal} {v : AVal} (hl : args.length ≤ 40) (a : AW ⟨Pg, 0, 40, false, []⟩ ir (RetK rs fun e _ => e = .ret v) (initT args) [] nilH) : APure Pg fn_rap_best_int args v :=
  APure.of_nil (enter 0 hl a)
end rap_best_int

namespace rap_upTo
noncomputable def cfg : Cfg := { pure := pures, pcs := [], raw := [], cuts := [], draws := [], keep := [] }
@[simp] noncomputable def r0 (_ : Unit) : List Stp := [S 2 (.mv (.c .nils))]
@[simp] noncomputable def r1 (_ : Unit) : List Stp := [S 4 (.mv (.t 0)), S 5 (.mv (.c (.int .i64 0)))]
@[simp] noncomputable def r2 (_ : Unit) : List Stp := [S 6 (.bin .lss (.t 5) (.t 4))]
@[simp] noncomputable def r3 (_ : Unit) : List Stp := [S 7 (.mv (.t 5)), S 3 (.mv (.t 7))]
@[simp] noncomputable def r4 (_ : Unit) : List Stp := [S 8 (.mv (.t 2)), S 9 (.mv (.t 3)), S 10 (.bsl 1 [(.int .i64 0)] [(0, 1, (.t 9))]), S 11 (.app 1 8 (.t 8) (.t 10)), S 2 (.mv (.t 11))]
@[simp] noncomputable def r5 (_ : Unit) : List Stp := [S 12 (.bin .add (.t 5) (.c (.int .i64 1))), S 5 (.mv (.t 12))]
@[simp] noncomputable def r6 (_ : Unit) : List Stp := [S 13 (.mv (.t 2)), S 2 (.mv (.t 13))]
@[simp] noncomputable def ir : IR := (.seq (.ops r0) (.seq (.seq (.ops r1) (.block 0 (.loop (.seq (.ops r2) (.seq (.cond (.t 6) .skip (.exit 0)) (.seq (.block 1 (.seq (.ops r3) (.ops r4))) (.ops r5))))))) (.seq (.ops r6) .ret)))
@[simp] noncomputable def rs : List RV := [.tmp 2]
theorem comp : compF Pg cfg Try.f24 = some (ir, rs, 14) := by kernel_rfl
theorem enter {args : List AVal} {h : Heap} {K : AEnd → Heap → Prop} (F : Nat) (hl : args.length ≤ 14) (a : AW ⟨Pg, F, 14, false, []⟩ ir (RetK rs K) (initT args) [] h) : ACalls Pg fn_rap_upTo args h K :=
  ACalls.of_comp follows Try.func24 comp hl a
theorem pure {args : List AVal} {v : AVal} (hl : args.length ≤ 14) (a : AW ⟨Pg, 0, 14, false, []⟩ ir (RetK rs fun e _ => e = .ret v) (initT args) [] nilH) : APure Pg fn_rap_upTo args v :=
  APure.of_nil (enter 0 hl a)
end rap_upTo

namespace rap_hull_seams
noncomputable def cfg : Cfg := { pure := pures, pcs := [], raw := [], cuts := [], draws := [], keep := [] }
@[simp] noncomputable def r0 (_ : Unit) : List Stp := [S 2 (.mv (.c (.int .i64 0)))]
@[simp] noncomputable def r1 (_ : Unit) : List Stp := [S 3 (.mv (.t 0)), S 4 (.nilck Pg (.t 3)), S 5 (.fAddr 0 (.t 4)), S 6 (.fAddr 0 (.t 5)), S 7 (.fAddr 0 (.t 6)), S 8 (.load false 1 (.t 7)), S 9 (.len (.t 8)), S 2 (.mv (.t 9))]
@[simp] noncomputable def ir : IR := (.seq (.ops r0) (.seq (.ops r1) .ret))
@[simp] noncomputable def rs : List RV := [.tmp 2]
theorem comp : compF Pg cfg Try.f25 = some (ir, rs, 10) := by kernel_rfl
theorem enter {args : List AVal} {h : Heap} {K : AEnd → Heap → Prop} (F : Nat) (hl : args.length ≤ 10) (a : AW ⟨Pg, F, 10, false, []⟩ ir (RetK rs K) (initT args) [] h) : ACalls Pg fn_rap_hull_seams args h K :=
  ACalls.of_comp follows Try.func25 comp hl a
theorem pure {args : List AVal} {v : AVal} (hl : args.length ≤ 10) (a : AW ⟨Pg, 0, 10, false, []⟩ ir (RetK rs fun e _ => e = .ret v) (initT args) [] nilH) : APure Pg fn_rap_hull_seams args v :=
  APure.of_nil (enter 0 hl a)
end rap_hull_seams

namespace rap_Fewest_2
noncomputable def cfg : Cfg := { pure := pures, pcs := [], raw := [], cuts := [], draws := [(1, [⟨4, false, [], []⟩, ⟨0, false, [], []⟩, ⟨1, false, [], []⟩, ⟨2, false, [], []⟩, ⟨3, false, [], []⟩, ⟨5, false, [], []⟩, ⟨6, false, [], []⟩, ⟨7, false, [], []⟩, ⟨8, false, [], []⟩])], keep := [] }
@[simp] noncomputable def r0 (_ : Unit) : List Stp := [S 2 (.box (.t 0)), S 3 (.mv (.c (.int .i64 0))), S 4 (.mv (.c (.bool false)))]
@[simp] noncomputable def r1 (_ : Unit) : List Stp := [S 9 (.mkF (.func fn_rap_Fewest_2_1) [] [(.t 2)]), S 5 (.load false 1 (.t 2)), S 6 (.conv .u64 (.t 5)), SP 7 (.call (.c (.func (.func fn_math_bits_OnesCount) [] [])) [(.t 6)]), S 8 (.load false 1 (.t 1)), S 10 (.call (.c (.func (.func fn_slices_ContainsFunc_rap_sound_rap_sound) [] [])) [(.t 8), (.t 9)]), S 11 (.un .not (.t 10)), S 3 (.mv (.t 7)), S 4 (.mv (.t 11))]
@[simp] noncomputable def ir : IR := (.seq (.ops r0) (.seq (.ops r1) .ret))
@[simp] noncomputable def rs : List RV := [.tmp 3, .tmp 4]
theorem comp : compF Pg cfg Try.f26 = some (ir, rs, 12) := by kernel_rfl
theorem enter {args : List AVal} {h : Heap} {K : AEnd → Heap → Prop} (F : Nat) (hl : args.length ≤ 12) (a : AW ⟨Pg, F, 12, false, []⟩ ir (RetK rs K) (initT args) [] h) : ACalls Pg fn_rap_Fewest_2 args h K :=
  ACalls.of_comp follows Try.func26 comp hl a
theorem pure {args : List AVal} {v : AVal} (hl : args.length ≤ 12) (a : AW ⟨Pg, 0, 12, false, []⟩ ir (RetK rs fun e _ => e = .ret v) (initT args) [] nilH) : APure Pg fn_rap_Fewest_2 args v :=
  APure.of_nil (enter 0 hl a)
end rap_Fewest_2

namespace math_bits_OnesCount
noncomputable def cfg : Cfg := { pure := pures, pcs := [], raw := [], cuts := [], draws := [], keep := [] }
@[simp] noncomputable def r0 (_ : Unit) : List Stp := [S 2 (.mv (.c (.int .i64 0)))]
@[simp] noncomputable def r1 (_ : Unit) : List Stp := [S 3 (.mv (.t 0)), S 4 (.conv .u32 (.t 3)), SP 5 (.call (.c (.func (.func fn_math_bits_OnesCount32) [] [])) [(.t 4)]), S 2 (.mv (.t 5))]
@[simp] noncomputable def r2 (_ : Unit) : List Stp := [S 6 (.mv (.t 0)), SP 7 (.call (.c (.func (.func fn_math_bits_OnesCount64) [] [])) [(.t 6)]), S 2 (.mv (.t 7))]
@[simp] noncomputable def ir : IR := (.seq (.ops r0) (.seq (.cond (.c (.bool false)) (.seq (.ops r1) .ret) .skip) (.seq (.ops r2) .ret)))
@[simp] noncomputable def rs : List RV := [.tmp 2]
theorem comp : compF Pg cfg Try.f27 = some (ir, rs, 8) := by kernel_rfl
theorem enter {args : List AVal} {h : Heap} {K : AEnd → Heap → Prop} (F : Nat) (hl : args.length ≤ 8) (a : AW ⟨Pg, F, 8, false, []⟩ ir (RetK rs K) (initT args) [] h) : ACalls Pg fn_math_bits_OnesCount args h K :=
  ACalls.of_comp follows Try.func27 comp hl a
theorem pure {args : List AVal} {v : AVal} (hl : args.length ≤ 8) (a : AW ⟨Pg, 0, 8, false, []⟩ ir (RetK rs fun e _ => e = .ret v) (initT args) [] nilH) : APure Pg fn_math_bits_OnesCount args v :=
  APure.of_nil (enter 0 hl a)
end math_bits_OnesCount

namespace slices_ContainsFunc_rap_sound_rap_sound
noncomputable def cfg : Cfg := { pure := pures, pcs := [], raw := [], cuts := [], draws := [], keep := [] }
@[simp] noncomputable def r0 (_ : Unit) : List Stp := [S 4 (.mv (.c (.bool false)))]
@[simp] noncomputable def r1 (_ : Unit) : List Stp := [S 5 (.mv (.t 0)), S 6 (.mv (.t 1)), S 7 (.call (.c (.func (.func fn_slices_IndexFunc_rap_sound_rap_sound) [] [])) [(.t 5), (.t 6)]), S 8 (.bin .geq (.t 7) (.c (.int .i64 0))), S 4 (.mv (.t 8))]
@[simp] noncomputable def ir : IR := (.seq (.ops r0) (.seq (.ops r1) .ret))
@[simp] noncomputable def rs : List RV := [.tmp 4]
theorem comp : compF Pg cfg Try.f28 = some (ir, rs, 9) := by kernel_rfl
theorem enter {args : List AVal} {h : Heap} {K : AEnd → Heap → Prop} (F : Nat) (hl : args.length ≤ 9) (a : AW ⟨Pg, F, 9, false, []⟩ ir (RetK rs K) (initT args) [] h) : ACalls Pg fn_slices_ContainsFunc_rap_sound_rap_sound args h K :=
  ACalls.of_comp follows Try.func28 comp hl a
theorem pure {args : List AVal} {v : AVal} (hl : args.length ≤ 9) (a : AW ⟨Pg, 0, 9, false, []⟩ ir (RetK rs fun e _ => e = .ret v) (initT args) [] nilH) : APure Pg fn_slices_ContainsFunc_rap_sound_rap_sound args v :=
  APure.of_nil (enter 0 hl a)
end slices_ContainsFunc_rap_sound_rap_sound

namespace rap_Fewest_2_1
noncomputable def cfg : Cfg := { pure := pures, pcs := [], raw := [], cuts := [], draws := [], keep := [] }
@[simp] noncomputable def r0 (_ : Unit) : List Stp := [S 2 (.box (.t 0)), S 3 (.mv (.c (.bool false)))]
@[simp] noncomputable def r1 (_ : Unit) : List Stp := [S 4 (.fAddr 0 (.t 2)), S 5 (.load false 1 (.t 4)), S 6 (.bin .neq (.t 5) (.c (.int .u64 0))), S 7 (.mv (.t 6)), SG 8 7 true (.fAddr 1 (.t 2)), SG 9 7 true (.load false 1 (.t 8)), SG 10 7 true (.load false 1 (.t 1)), SG 11 7 true (.conv .u64 (.t 10)), SG 12 7 true (.bin .and (.t 9) (.t 11)), SG 13 7 true (.bin .eql (.t 12) (.c (.int .u64 0))), S 14 (.pick (.t 7) (.t 13) (.c (.bool false))), S 3 (.mv (.t 14))]
@[simp] noncomputable def ir : IR := (.seq (.ops r0) (.seq (.ops r1) .ret))
@[simp] noncomputable def rs : List RV := [.tmp 3]
theorem comp : compF Pg cfg Try.f29 = some (ir, rs, 15) := by kernel_rfl
theorem enter {args : List AVal} {h : Heap} {K : AEnd → Heap → Prop} (F : Nat) (hl : args.length ≤ 15) (a : AW ⟨Pg, F, 15, false, []⟩ ir (RetK rs K) (initT args) [] h) : ACalls Pg fn_rap_Fewest_2_1 args h K :=
  ACalls.of_comp follows Try.func29 comp hl a
theorem pure {args : List AVal} {v : AVal} (hl : args.length ≤ 15) (a : AW ⟨Pg, 0, 15, false, []⟩ ir (RetK rs fun e _ => e = .ret v) (initT args) [] nilH) : APure Pg fn_rap_Fewest_2_1 args v :=
  APure.of_nil (enter 0 hl a)
end rap_Fewest_2_1

namespace rap_want
noncomputable def cfg : Cfg := { pure := pures, pcs := [], raw := [], cuts := [], draws := [], keep := [] }
@[simp] noncomputable def r0 (_ : Unit) : List Stp := [S 4 (.mv (.t 0)), S 5 (.un .not (.t 4))]
@[simp] noncomputable def r1 (_ : Unit) : List Stp := [S 6 (.mv (.t 1)), S 7 (.build [(.int .i64 0)] [(0, 1, (.t 6))]), S 8 (.mkI 79 (.t 7)), SN (.panic (.t 8))]
@[simp] noncomputable def ir : IR := (.seq (.ops r0) (.cond (.t 5) (.ops r1) .skip))
@[simp] noncomputable def rs : List RV := []
theorem comp : compF Pg cfg Try.f30 = some (ir, rs, 9) := by kernel_rfl
theorem enter {args : List AVal} {h : Heap} {K : AEnd → Heap → Prop} (F : Nat) (hl : args.length ≤ 9) (a : AW ⟨Pg, F, 9, false, []⟩ ir (RetK rs K) (initT args) [] h) : ACalls Pg fn_rap_want args h K :=
  ACalls.of_comp follows Try.func30 comp hl a
theorem pure {args : List AVal} {v : AVal} (hl : args.length ≤ 9) (a : AW ⟨Pg, 0, 9, false, []⟩ ir (RetK rs fun e _ => e = .ret v) (initT args) [] nilH) : APure Pg fn_rap_want args v :=
  APure.of_nil (enter 0 hl a)
end rap_want

namespace rap_Next_1
noncomputable def cfg : Cfg := { pure := pures, pcs := [], raw := [], cuts := [], draws := [], keep := [] }
@[simp] noncomputable def r0 (_ : Unit) : List Stp := [S 1 (.recov), S 2 (.call (.c (.func (.func fn_rap_said) [] [])) [(.t 1), (.t 0)])]
@[simp] noncomputable def ir : IR := (.ops r0)
@[simp] noncomputable def rs : List RV := []
theorem comp : compF Pg cfg Try.f31 = some (ir, rs, 3) := by kernel_rfl
theorem enter {args : List AVal} {h : Heap} {K : AEnd → Heap → Prop} (F : Nat) (hl : args.length ≤ 3) (a : AW ⟨Pg, F, 3, false, []⟩ ir (RetK rs K) (initT args) [] h) : ACalls Pg fn_rap_Next_1 args h K :=
  ACalls.of_comp follows Try.func31 comp hl a
theorem pure {args : List AVal} {v : AVal} (hl : args.length ≤ 3) (a : AW ⟨Pg, 0, 3, false, []⟩ ir (RetK rs fun e _ => e = .ret v) (initT args) [] nilH) : APure Pg fn_rap_Next_1 args v :=
  APure.of_nil (enter 0 hl a)
theorem recClo : RecClo Pg fn_rap_Next_1 fn_rap_said := ⟨_, Try.func31, by kernel_rfl⟩
end rap_Next_1

namespace rap_Next_2
noncomputable def cfg : Cfg := { pure := pures, pcs := [], raw := [], cuts := [], draws := [(8, [⟨0, false, [], []⟩, ⟨3, false, [], []⟩, ⟨6, false, [], []⟩, ⟨1, false, [], []⟩, ⟨2, false, [], []⟩, ⟨4, false, [], []⟩, ⟨5, false, [], []⟩, ⟨7, false, [], []⟩, ⟨8, false, [], []⟩, ⟨9, false, [], []⟩, ⟨10, false, [], []⟩, ⟨11, false, [], []⟩, ⟨12, false, [], []⟩])], keep := [] }
@[simp] noncomputable def r0 (_ : Unit) : List Stp := [S 3 (.mv (.c (.int .i64 0))), S 4 (.mv (.c (.bool false)))]
@[simp] noncomputable def r1 (_ : Unit) : List Stp := [S 5 (.mv (.c (.int .i64 0)))]
@[simp] noncomputable def r2 (_ : Unit) : List Stp := [S 8 (.load false 1 (.t 1)), S 9 (.len (.t 8)), S 10 (.mv (.c (.int .i64 0)))]
@[simp] noncomputable def r3 (_ : Unit) : List Stp := [S 11 (.bin .lss (.t 10) (.t 9))]
@[simp] noncomputable def r4 (_ : Unit) : List Stp := [S 12 (.ixS 2 (.t 8) (.t 10)), S 13 (.load true 2 (.t 12)), S 7 (.alloc [(.int .u64 0), (.int .u64 0)]), SN (.store 2 (.t 7) (.t 13))]
@[simp] noncomputable def r5 (_ : Unit) : List Stp := [S 14 (.fAddr 1 (.t 7)), S 15 (.load false 1 (.t 14)), S 16 (.mv (.t 0)), SP 17 (.call (.c (.func (.func fn_rap_set_has) [] [])) [(.t 15), (.t 16)])]
@[simp] noncomputable def r6 (_ : Unit) : List Stp := [S 18 (.mv (.t 5)), S 19 (.bin .add (.t 18) (.c (.int .i64 1))), S 5 (.mv (.t 19))]
@[simp] noncomputable def r7 (_ : Unit) : List Stp := [S 20 (.bin .add (.t 10) (.c (.int .i64 1))), S 10 (.mv (.t 20))]
@[simp] noncomputable def r8 (_ : Unit) : List Stp := [S 21 (.mv (.t 5)), S 24 (.mv (.t 5)), S 27 (.mv (.t 5)), S 22 (.load false 1 (.t 1)), S 23 (.len (.t 22)), S 25 (.bin .sub (.t 23) (.t 24)), S 26 (.mm true [(.t 21), (.t 25)]), S 28 (.load false 1 (.t 1)), S 29 (.len (.t 28)), S 30 (.bin .sub (.t 29) (.c (.int .i64 1))), SP 31 (.call (.c (.func (.func fn_rap_within) [] [])) [(.t 27), (.c (.int .i64 1)), (.t 30)]), S 3 (.mv (.t 26)), S 4 (.mv (.t 31))]
@[simp] noncomputable def ir : IR := (.seq (.ops r0) (.seq (.ops r1) (.seq (.seq (.ops r2) (.block 0 (.loop (.seq (.ops r3) (.seq (.cond (.t 11) .skip (.exit 0)) (.seq (.block 1 (.seq (.ops r4) (.seq (.ops r5) (.cond (.t 17) (.ops r6) .skip)))) (.ops r7))))))) (.seq (.ops r8) .ret))))
@[simp] noncomputable def rs : List RV := [.tmp 3, .tmp 4]
theorem comp : compF Pg cfg Try.f32 = some (ir, rs, 32) := by kernel_rfl
theorem enter {args : List AVal} {h : Heap} {K : AEnd → Heap → Prop} (F : Nat) (hl : args.length ≤ 32) (a : AW ⟨Pg, F, 32, false, []⟩ ir (RetK rs K) (initT args) [] h) : ACalls Pg fn_rap_Next_2 args h K :=
  ACalls.of_comp follows Try.func32 comp hl a
theorem pure {args : List AVal} {v : AVal} (hl : args.length ≤ 32) (a : AW ⟨Pg, 0, 32, false, []⟩ ir (RetK rs fun e _ => e = .ret v) (initT args) [] nilH) : APure Pg fn_rap_Next_2 args v :=
  APure.of_nil (enter 0 hl a)
end rap_Next_2

namespace rap_set_has
noncomputable def cfg : Cfg := { pure := pures, pcs := [], raw := [], cuts := [], draws := [], keep := [] }
@[simp] noncomputable def r0 (_ : Unit) : List Stp := [S 4 (.mv (.c (.bool false)))]
@[simp] noncomputable def r1 (_ : Unit) : List Stp := [S 5 (.mv (.t 0)), S 6 (.mv (.t 1)), S 7 (.bin .shr (.t 5) (.t 6)), S 8 (.bin .and (.t 7) (.c (.int .u64 1))), S 9 (.bin .eql (.t 8) (.c (.int .u64 1))), S 4 (.mv (.t 9))]
@[simp] noncomputable def ir : IR := (.seq (.ops r0) (.seq (.ops r1) .ret))
@[simp] noncomputable def rs : List RV := [.tmp 4]
theorem comp : compF Pg cfg Try.f33 = some (ir, rs, 10) := by kernel_rfl
theorem enter {args : List AVal} {h : Heap} {K : AEnd → Heap → Prop} (F : Nat) (hl : args.length ≤ 10) (a : AW ⟨Pg, F, 10, false, []⟩ ir (RetK rs K) (initT args) [] h) : ACalls Pg fn_rap_set_has args h K :=
  ACalls.of_comp follows Try.func33 comp hl a
theorem pure {args : List AVal} {v : AVal} (hl : args.length ≤ 10) (a : AW ⟨Pg, 0, 10, false, []⟩ ir (RetK rs fun e _ => e = .ret v) (initT args) [] nilH) : APure Pg fn_rap_set_has args v :=
  APure.of_nil (enter 0 hl a)
end rap_set_has

namespace rap_within
noncomputable def cfg : Cfg := { pure := pures, pcs := [], raw := [], cuts := [], draws := [], keep := [] }
@[simp] noncomputable def r0 (_ : Unit) : List Stp := [S 6 (.mv (.c (.bool false)))]
@[simp] noncomputable def r1 (_ : Unit) : List Stp := [S 7 (.mv (.t 1)), S 8 (.mv (.t 0)), S 9 (.bin .leq (.t 7) (.t 8)), S 10 (.mv (.t 9)), SG 11 10 true (.mv (.t 0)), SG 12 10 true (.mv (.t 2)), SG 13 10 true (.bin .leq (.t 11) (.t 12)), S 14 (.pick (.t 10) (.t 13) (.c (.bool false))), S 6 (.mv (.t 14))]
@[simp] noncomputable def ir : IR := (.seq (.ops r0) (.seq (.ops r1) .ret))
@[simp] noncomputable def rs : List RV := [.tmp 6]
theorem comp : compF Pg cfg Try.f34 = some (ir, rs, 15) := by kernel_rfl
theorem enter {args : List AVal} {h : Heap} {K : AEnd → Heap → Prop} (F : Nat) (hl : args.length ≤ 15) (a : AW ⟨Pg, F, 15, false, []⟩ ir (RetK rs K) (initT args) [] h) : ACalls Pg fn_rap_within args h K :=
  ACalls.of_comp follows Try.func34 comp hl a
theorem pure {args : List AVal} {v : AVal} (hl : args.length ≤ 15) (a : AW ⟨Pg, 0, 15, false, []⟩ ir (RetK rs fun e _ => e = .ret v) (initT args) [] nilH) : APure Pg fn_rap_within args v :=
  APure.of_nil (enter 0 hl a)
end rap_within

namespace rap_Wrong_1
noncomputable def cfg : Cfg := { pure := pures, pcs := [], raw := [], cuts := [], draws := [], keep := [] }
@[simp] noncomputable def r0 (_ : Unit) : List Stp := [S 1 (.recov), S 2 (.call (.c (.func (.func fn_rap_said) [] [])) [(.t 1), (.t 0)])]
@[simp] noncomputable def ir : IR := (.ops r0)
@[simp] noncomputable def rs : List RV := []
theorem comp : compF Pg cfg Try.f35 = some (ir, rs, 3) := by kernel_rfl
theorem enter {args : List AVal} {h : Heap} {K : AEnd → Heap → Prop} (F : Nat) (hl : args.length ≤ 3) (a : AW ⟨Pg, F, 3, false, []⟩ ir (RetK rs K) (initT args) [] h) : ACalls Pg fn_rap_Wrong_1 args h K :=
  ACalls.of_comp follows Try.func35 comp hl a
theorem pure {args : List AVal} {v : AVal} (hl : args.length ≤ 3) (a : AW ⟨Pg, 0, 3, false, []⟩ ir (RetK rs fun e _ => e = .ret v) (initT args) [] nilH) : APure Pg fn_rap_Wrong_1 args v :=
  APure.of_nil (enter 0 hl a)
theorem recClo : RecClo Pg fn_rap_Wrong_1 fn_rap_said := ⟨_, Try.func35, by kernel_rfl⟩
end rap_Wrong_1

namespace rap_hull_sounds
noncomputable def cfg : Cfg := { pure := pures, pcs := [], raw := [], cuts := [], draws := [(14, [⟨1, false, [], []⟩, ⟨3, false, [], []⟩, ⟨0, false, [], []⟩, ⟨2, false, [], []⟩, ⟨4, false, [], [0]⟩, ⟨5, false, [], []⟩, ⟨6, false, [], []⟩])], keep := [] }
@[simp] noncomputable def r0 (_ : Unit) : List Stp := [S 1 (.box (.t 0)), S 2 (.mv (.c .nils))]
@[simp] noncomputable def r1 (_ : Unit) : List Stp := [S 15 (.mkmap), S 3 (.alloc [.nilm]), SN (.store 1 (.t 3) (.t 15))]
@[simp] noncomputable def r2 (_ : Unit) : List Stp := [S 16 (.load false 1 (.t 1)), S 17 (.nilck Pg (.t 16)), S 18 (.fAddr 4 (.t 17)), S 19 (.load true 6 (.t 18)), S 20 (.mkF (.func fn_rap_around_dull) [(.t 19)] []), S 4 (.alloc [.nilf]), SN (.store 1 (.t 4) (.t 20))]
@[simp] noncomputable def r3 (_ : Unit) : List Stp := [S 21 (.load false 1 (.t 1)), S 22 (.call (.c (.func (.func fn_rap_hull_blows) [] [])) [(.t 21)])]
@[simp] noncomputable def r4 (_ : Unit) : List Stp := [S 5 (.mv (.t 23))]
@[simp] noncomputable def r5 (_ : Unit) : List Stp := [S 25 (.load false 1 (.t 1)), S 26 (.nilck Pg (.t 25)), S 27 (.fAddr 0 (.t 26)), S 28 (.fAddr 0 (.t 27)), S 29 (.load true 3 (.t 28)), S 30 (.mv (.t 5)), S 31 (.call (.c (.func (.func fn_drive_Settle) [] [])) [(.t 29), (.t 30)]), S 24 (.mv (.t 31)), S 32 (.ext (.t 24) 0), S 33 (.ext (.t 24) 1), S 34 (.ext (.t 24) 2), S 6 (.mv (.t 32)), S 7 (.mv (.t 33)), S 8 (.mv (.t 34))]
@[simp] noncomputable def r6 (_ : Unit) : List Stp := [S 35 (.mv (.t 8)), S 36 (.bin .eql (.t 35) (.c (.int .i64 0))), S 37 (.mv (.t 8)), S 38 (.call (.c (.func (.func fn_rap_want) [] [])) [(.t 36), (.t 37)])]
@[simp] noncomputable def r7 (_ : Unit) : List Stp := [S 9 (.mv (.c (.int .u64 0)))]
@[simp] noncomputable def r8 (_ : Unit) : List Stp := [S 39 (.mv (.t 7)), S 40 (.len (.t 39)), S 41 (.mv (.c (.int .i64 0)))]
@[simp] noncomputable def r9 (_ : Unit) : List Stp := [S 42 (.bin .lss (.t 41) (.t 40))]
@[simp] noncomputable def r10 (_ : Unit) : List Stp := [S 43 (.mv (.t 41)), S 44 (.ixS 1 (.t 39) (.t 41)), S 45 (.load false 1 (.t 44)), S 10 (.mv (.t 43)), S 11 (.mv (.t 45))]
@[simp] noncomputable def r11 (_ : Unit) : List Stp := [S 46 (.mv (.t 11)), S 47 (.bin .gtr (.t 46) (.c (.int .i64 0)))]
@[simp] noncomputable def r12 (_ : Unit) : List Stp := [S 48 (.mv (.t 9)), S 49 (.mv (.t 10)), S 50 (.bin .shl (.c (.int .u64 1)) (.t 49)), S 51 (.bsl 2 [(.int .u64 0), (.int .u64 0)] [(0, 1, (.t 48)), (1, 1, (.t 50))]), S 52 (.call (.c (.func (.func fn_rap_union) [] [])) [(.t 51)]), S 9 (.mv (.t 52))]
@[simp] noncomputable def r13 (_ : Unit) : List Stp := [S 53 (.bin .add (.t 41) (.c (.int .i64 1))), S 41 (.mv (.t 53))]
@[simp] noncomputable def r14 (_ : Unit) : List Stp := [S 55 (.mv (.t 9)), S 57 (.mv (.t 9)), S 54 (.load false 1 (.t 3)), S 56 (.load false 1 (.t 4)), SD (some 58) (.call (.t 56) [(.t 57)]) false [] [I 54 (.load false 1 (.t 3))], S 59 (.build [(.int .u64 0), (.int .u64 0)] [(0, 1, (.t 55)), (1, 1, (.t 58))]), SN (.mapU (true, [.i, .i]) (.t 54) (.t 59) (.c (.bool true)))]
@[simp] noncomputable def r15 (_ : Unit) : List Stp := [S 60 (.load false 1 (.t 3)), S 61 (.lenM (.t 60)), S 62 (.mksl 16 [(.int .u64 0), (.int .u64 0)] (.c (.int .i64 0)) (.t 61)), S 12 (.mv (.t 62))]
@[simp] noncomputable def r16 (_ : Unit) : List Stp := [S 63 (.load false 1 (.t 3)), S 64 (.range (.t 63))]
@[simp] noncomputable def r17 (_ : Unit) : List Stp := [S 65 (.next (.t 64)), S 66 (.ext (.t 65) 0)]
@[simp] noncomputable def r18 (_ : Unit) : List Stp := [S 67 (.entry (.t 64)), S 68 (.ext (.t 67) 0), S 13 (.alloc [(.int .u64 0), (.int .u64 0)]), SN (.store 2 (.t 13) (.t 68))]
@[simp] noncomputable def r19 (_ : Unit) : List Stp := [S 69 (.mv (.t 12)), S 70 (.load true 2 (.t 13)), S 71 (.bsl 1 [(.int .u64 0), (.int .u64 0)] [(0, 2, (.t 70))]), S 72 (.app 2 16 (.t 69) (.t 71)), S 12 (.mv (.t 72))]
@[simp] noncomputable def r20 (_ : Unit) : List Stp := [S 73 (.mv (.t 12)), S 74 (.len (.t 73)), S 75 (.mksl 16 [(.int .u64 0), (.int .u64 0)] (.t 74) (.t 74)), S 14 (.mv (.t 75))]
@[simp] noncomputable def r21 (_ : Unit) : List Stp := [S 76 (.mv (.t 14)), S 77 (.mv (.t 12)), S 78 (.copy 2 (.t 76) (.t 77))]
@[simp] noncomputable def r22 (_ : Unit) : List Stp := [S 79 (.mv (.t 14)), S 80 (.call (.c (.func (.func fn_slices_SortFunc_rap_sound_rap_sound) [] [])) [(.t 79), (.c (.func (.func fn_rap_hull_sounds_1) [] []))])]
@[simp] noncomputable def r23 (_ : Unit) : List Stp := [S 81 (.mv (.t 14)), S 2 (.mv (.t 81))]
@[simp] noncomputable def ir : IR := (.seq (.ops r0) (.seq (.ops r1) (.seq (.ops r2) (.seq (.seq (.ops r3) (.block 0 (.rangeF (.t 22) [23] (.ops r4) (.block 1 (.seq (.ops r5) (.seq (.ops r6) (.seq (.ops r7) (.seq (.seq (.ops r8) (.block 2 (.loop (.seq (.ops r9) (.seq (.cond (.t 42) .skip (.exit 2)) (.seq (.block 3 (.seq (.ops r10) (.seq (.ops r11) (.cond (.t 47) (.ops r12) .skip)))) (.ops r13))))))) (.ops r14))))))))) (.seq (.ops r15) (.seq (.seq (.ops r16) (.block 4 (.loop (.seq (.ops r17) (.seq (.cond (.t 66) .skip (.exit 4)) (.block 5 (.seq (.ops r18) (.ops r19)))))))) (.seq (.ops r20) (.seq (.ops r21) (.seq (.ops r22) (.seq (.ops r23) .ret))))))))))
@[simp] noncomputable def rs : List RV := [.tmp 2]
theorem comp : compF Pg cfg Try.f36 = some (ir, rs, 82) := by kernel_rfl
theorem enter {args : List AVal} {h : Heap} {K : AEnd → Heap → Prop} (F : Nat) (hl : args.length ≤ 82) (a : AW ⟨Pg, F, 82, false, []⟩ ir (RetK rs K) (initT args) [] h) : ACalls Pg fn_rap_hull_sounds args h K :=
  ACalls.of_comp follows Try.func36 comp hl a
theorem pure {args : List AVal} {v : AVal} (hl : args.length ≤ 82) (a : AW ⟨Pg, 0, 82, false, []⟩ ir (RetK rs fun e _ => e = .ret v) (initT args) [] nilH) : APure Pg fn_rap_hull_sounds args v :=
  APure.of_nil (enter 0 hl a)
end rap_hull_sounds

namespace rap_Wrong_2
noncomputable def cfg : Cfg := { pure := pures, pcs := [], raw := [], cuts := [], draws := [(1, [⟨0, false, [], []⟩, ⟨1, false, [], []⟩, ⟨2, false, [], []⟩, ⟨7, false, [], []⟩, ⟨8, false, [], []⟩, ⟨3, false, [], []⟩, ⟨4, false, [], []⟩, ⟨5, false, [], []⟩, ⟨6, false, [], []⟩, ⟨9, false, [], []⟩, ⟨10, false, [], []⟩, ⟨11, false, [], []⟩, ⟨12, false, [], []⟩, ⟨13, false, [], []⟩, ⟨14, false, [], []⟩])], keep := [] }
@[simp] noncomputable def r0 (_ : Unit) : List Stp := [S 4 (.mv (.c (.int .i64 0))), S 5 (.mv (.c (.bool false)))]
@[simp] noncomputable def r1 (_ : Unit) : List Stp := [S 6 (.mv (.t 0)), S 7 (.conv .u64 (.t 6)), SP 8 (.call (.c (.func (.func fn_math_bits_OnesCount) [] [])) [(.t 7)]), S 13 (.mv (.t 0)), S 14 (.conv .u64 (.t 13)), S 9 (.load false 1 (.t 1)), S 10 (.load false 1 (.t 2)), S 11 (.load false 1 (.t 1)), SP 12 (.call (.c (.func (.func fn_rap_hull_every) [] [])) [(.t 11)]), S 15 (.bin .andNot (.t 12) (.t 14)), S 16 (.call (.c (.func (.func fn_rap_hull_heard) [] [])) [(.t 9), (.t 10), (.t 15)]), S 17 (.len (.t 16)), S 18 (.bin .gtr (.t 17) (.c (.int .i64 0))), S 4 (.mv (.t 8)), S 5 (.mv (.t 18))]
@[simp] noncomputable def ir : IR := (.seq (.ops r0) (.seq (.ops r1) .ret))
@[simp] noncomputable def rs : List RV := [.tmp 4, .tmp 5]
theorem comp : compF Pg cfg Try.f37 = some (ir, rs, 19) := by kernel_rfl
theorem enter {args : List AVal} {h : Heap} {K : AEnd → Heap → Prop} (F : Nat) (hl : args.length ≤ 19) (a : AW ⟨Pg, F, 19, false, []⟩ ir (RetK rs K) (initT args) [] h) : ACalls Pg fn_rap_Wrong_2 args h K :=
  ACalls.of_comp follows Try.func37 comp hl a
theorem pure {args : List AVal} {v : AVal} (hl : args.length ≤ 19) (a : AW ⟨Pg, 0, 19, false, []⟩ ir (RetK rs fun e _ => e = .ret v) (initT args) [] nilH) : APure Pg fn_rap_Wrong_2 args v :=
  APure.of_nil (enter 0 hl a)
end rap_Wrong_2

namespace rap_hull_heard
noncomputable def cfg : Cfg := { pure := pures, pcs := [], raw := [], cuts := [], draws := [], keep := [] }
@[simp] noncomputable def r0 (_ : Unit) : List Stp := [S 6 (.mv (.c .nils))]
@[simp] noncomputable def r1 (_ : Unit) : List Stp := [S 12 (.mv (.t 0)), S 13 (.mv (.t 2)), S 14 (.call (.c (.func (.func fn_rap_hull_ears) [] [])) [(.t 12), (.t 13)]), S 7 (.mv (.t 14))]
@[simp] noncomputable def r2 (_ : Unit) : List Stp := [S 15 (.mv (.t 1)), S 16 (.len (.t 15)), S 17 (.mv (.c (.int .i64 0)))]
@[simp] noncomputable def r3 (_ : Unit) : List Stp := [S 18 (.bin .lss (.t 17) (.t 16))]
@[simp] noncomputable def r4 (_ : Unit) : List Stp := [S 19 (.ixS 2 (.t 15) (.t 17)), S 20 (.load true 2 (.t 19)), S 9 (.alloc [(.int .u64 0), (.int .u64 0)]), SN (.store 2 (.t 9) (.t 20))]
@[simp] noncomputable def r5 (_ : Unit) : List Stp := [S 21 (.mv (.t 7)), S 22 (.len (.t 21)), S 23 (.mv (.c (.int .i64 0)))]
@[simp] noncomputable def r6 (_ : Unit) : List Stp := [S 24 (.bin .lss (.t 23) (.t 22))]
@[simp] noncomputable def r7 (_ : Unit) : List Stp := [S 25 (.ixS 1 (.t 21) (.t 23)), S 26 (.load false 1 (.t 25)), S 11 (.mv (.t 26))]
@[simp] noncomputable def r8 (_ : Unit) : List Stp := [S 27 (.mv (.t 11)), S 28 (.load true 2 (.t 9)), S 29 (.inv (.t 27) "caulkworks/rap.hears" [(.t 28)]), S 30 (.un .not (.t 29))]
@[simp] noncomputable def r9 (_ : Unit) : List Stp := [S 31 (.bin .add (.t 23) (.c (.int .i64 1))), S 23 (.mv (.t 31))]
@[simp] noncomputable def r10 (_ : Unit) : List Stp := [S 32 (.mv (.t 6)), S 33 (.load true 2 (.t 9)), S 34 (.bsl 1 [(.int .u64 0), (.int .u64 0)] [(0, 2, (.t 33))]), S 35 (.app 2 16 (.t 32) (.t 34)), S 6 (.mv (.t 35))]
@[simp] noncomputable def r11 (_ : Unit) : List Stp := [S 36 (.bin .add (.t 17) (.c (.int .i64 1))), S 17 (.mv (.t 36))]
@[simp] noncomputable def r12 (_ : Unit) : List Stp := [S 37 (.mv (.t 6)), S 6 (.mv (.t 37))]
@[simp] noncomputable def ir : IR := (.seq (.ops r0) (.seq (.ops r1) (.seq .skip (.seq (.seq (.ops r2) (.block 0 (.loop (.seq (.ops r3) (.seq (.cond (.t 18) .skip (.exit 0)) (.seq (.block 1 (.seq (.ops r4) (.seq (.seq (.ops r5) (.block 2 (.loop (.seq (.ops r6) (.seq (.cond (.t 24) .skip (.exit 2)) (.seq (.block 3 (.seq (.ops r7) (.seq (.ops r8) (.cond (.t 30) (.exit 1) .skip)))) (.ops r9))))))) (.ops r10)))) (.ops r11))))))) (.seq (.ops r12) .ret)))))
@[simp] noncomputable def rs : List RV := [.tmp 6]
theorem comp : compF Pg cfg Try.f38 = some (ir, rs, 38) := by kernel_rfl
theorem enter {args : List AVal} {h : Heap} {K : AEnd → Heap → Prop} (F : Nat) (hl : args.length ≤ 38) (a : AW ⟨Pg, F, 38, false, []⟩ ir (RetK rs K) (initT args) [] h) : ACalls Pg fn_rap_hull_heard args h K :=
  ACalls.of_comp follows Try.func38 comp hl a
theorem pure {args : List AVal} {v : AVal} (hl : args.length ≤ 38) (a : AW ⟨Pg, 0, 38, false, []⟩ ir (RetK rs fun e _ => e = .ret v) (initT args) [] nilH) : APure Pg fn_rap_hull_heard args v :=
  APure.of_nil (enter 0 hl a)
end rap_hull_heard

namespace rap_hull_every
noncomputable def cfg : Cfg := { pure := pures, pcs := [], raw := [], cuts := [], draws := [], keep := [] }
@[simp] noncomputable def r0 (_ : Unit) : List Stp := [S 2 (.mv (.c (.int .u64 0)))]
@[simp] noncomputable def r1 (_ : Unit) : List Stp := [S 3 (.mv (.t 0)), S 4 (.nilck Pg (.t 3)), S 5 (.fAddr 0 (.t 4)), S 6 (.fAddr 3 (.t 5)), S 7 (.load false 1 (.t 6)), S 8 (.len (.t 7)), S 9 (.bin .shl (.c (.int .u64 1)) (.t 8)), S 10 (.bin .sub (.t 9) (.c (.int .u64 1))), S 2 (.mv (.t 10))]
@[simp] noncomputable def ir : IR := (.seq (.ops r0) (.seq (.ops r1) .ret))
@[simp] noncomputable def rs : List RV := [.tmp 2]
theorem comp : compF Pg cfg Try.f39 = some (ir, rs, 11) := by kernel_rfl
theorem enter {args : List AVal} {h : Heap} {K : AEnd → Heap → Prop} (F : Nat) (hl : args.length ≤ 11) (a : AW ⟨Pg, F, 11, false, []⟩ ir (RetK rs K) (initT args) [] h) : ACalls Pg fn_rap_hull_every args h K :=
  ACalls.of_comp follows Try.func39 comp hl a
theorem pure {args : List AVal} {v : AVal} (hl : args.length ≤ 11) (a : AW ⟨Pg, 0, 11, false, []⟩ ir (RetK rs fun e _ => e = .ret v) (initT args) [] nilH) : APure Pg fn_rap_hull_every args v :=
  APure.of_nil (enter 0 hl a)
end rap_hull_every

namespace rap_Open
noncomputable def cfg : Cfg := { pure := pures, pcs := [], raw := [], cuts := [], draws := [(6, [⟨0, false, [], []⟩, ⟨1, false, [], []⟩, ⟨5, false, [], []⟩, ⟨6, false, [], []⟩, ⟨2, false, [], []⟩, ⟨7, false, [], []⟩, ⟨8, false, [], []⟩, ⟨3, true, [], []⟩, ⟨4, false, [], [7]⟩, ⟨9, false, [], []⟩, ⟨10, false, [], []⟩])], keep := [2, 3, 4] }
@[simp] noncomputable def r0 (_ : Unit) : List Stp := [S 1 (.box (.t 0)), S 2 (.mv (.c (.int .i64 0))), S 3 (.mv (.c (.int .i64 0))), S 4 (.alloc [(.int .i64 0)])]
@[simp] noncomputable def r1 (_ : Unit) : List Stp := [S 9 (.mkF (.func fn_rap_Open_1) [] [(.t 4)]), SN (.defer (.t 9) [])]
@[simp] noncomputable def r2 (_ : Unit) : List Stp := [S 5 (.mv (.c (.int .u64 0))), S 6 (.mv (.c (.int .u64 63)))]
@[simp] noncomputable def r3 (_ : Unit) : List Stp := [S 10 (.load true 4 (.t 1)), S 11 (.call (.c (.func (.func fn_rap_open) [] [])) [(.t 10), (.c (.bool true))]), S 12 (.call (.c (.func (.func fn_rap_hull_can) [] [])) [(.t 11)]), S 13 (.len (.t 12)), S 14 (.mv (.c (.int .i64 0)))]
@[simp] noncomputable def r4 (_ : Unit) : List Stp := [S 15 (.bin .lss (.t 14) (.t 13))]
@[simp] noncomputable def r5 (_ : Unit) : List Stp := [S 16 (.ixS 2 (.t 12) (.t 14)), S 17 (.load true 2 (.t 16)), S 8 (.alloc [(.int .u64 0), (.int .u64 0)]), SN (.store 2 (.t 8) (.t 17))]
@[simp] noncomputable def r6 (_ : Unit) : List Stp := [S 18 (.mv (.t 5)), S 19 (.fAddr 0 (.t 8)), S 23 (.mv (.t 6)), S 24 (.fAddr 0 (.t 8)), S 20 (.load false 1 (.t 19)), S 25 (.load false 1 (.t 24)), S 26 (.bin .and (.t 23) (.t 25)), SD (some 21) (.bsl 2 [(.int .u64 0), (.int .u64 0)] [(0, 1, (.t 18)), (1, 1, (.t 20))]) true [] [], SD (some 22) (.call (.c (.func (.func fn_rap_union) [] [])) [(.t 21)]) false [] [I 25 (.load false 1 (.t 24))], S 5 (.mv (.t 22)), S 6 (.mv (.t 26))]
@[simp] noncomputable def r7 (_ : Unit) : List Stp := [S 27 (.bin .add (.t 14) (.c (.int .i64 1))), S 14 (.mv (.t 27))]
@[simp] noncomputable def r8 (_ : Unit) : List Stp := [S 28 (.mv (.t 5)), S 29 (.conv .i64 (.t 28)), S 30 (.mv (.t 6)), S 31 (.conv .i64 (.t 30)), S 2 (.mv (.t 29)), S 3 (.mv (.t 31)), SN (.store 1 (.t 4) (.c (.int .i64 0)))]
@[simp] noncomputable def ir : IR := (.seq (.ops r0) (.seq (.ops r1) (.seq (.ops r2) (.seq (.seq (.ops r3) (.block 0 (.loop (.seq (.ops r4) (.seq (.cond (.t 15) .skip (.exit 0)) (.seq (.block 1 (.seq (.ops r5) (.ops r6))) (.ops r7))))))) (.seq (.ops r8) .ret)))))
@[simp] noncomputable def rs : List RV := [.tmp 2, .tmp 3, .cell 4 false 1]
theorem comp : compF Pg cfg Try.f40 = some (ir, rs, 32) := by kernel_rfl
theorem enter {args : List AVal} {h : Heap} {K : AEnd → Heap → Prop} (F : Nat) (hl : args.length ≤ 32) (a : AW ⟨Pg, F, 32, false, [2, 3, 4]⟩ ir (RetD Pg rs K) (initT args) [] h) : ACalls Pg fn_rap_Open args h K :=
  ACalls.of_comp_defer follows Try.func40 comp hl a
theorem pure {args : List AVal} {v : AVal} (hl : args.length ≤ 32) (a : AW ⟨Pg, 0, 32, false, [2, 3, 4]⟩ ir (RetD Pg rs fun e _ => e = .ret v) (initT args) [] nilH) : APure Pg fn_rap_Open args v :=
  APure.of_nil (enter 0 hl a)
end rap_Open

namespace ref13_Ints
noncomputable def cfg : Cfg := { pure := pures, pcs := [], raw := [], cuts := [], draws := [], keep := [] }
@[simp] noncomputable def r0 (_ : Unit) : List Stp := [S 4 (.mv (.c (.bool false)))]
@[simp] noncomputable def r1 (_ : Unit) : List Stp := [S 5 (.mv (.t 0)), S 6 (.mv (.t 1)), SP 7 (.call (.c (.func (.func fn_ref05_Ints) [] [])) [(.t 5), (.t 6)]), S 4 (.mv (.t 7))]
@[simp] noncomputable def ir : IR := (.seq (.ops r0) (.seq (.ops r1) .ret))
@[simp] noncomputable def rs : List RV := [.tmp 4]
theorem comp : compF Pg cfg Try.f41 = some (ir, rs, 8) := by kernel_rfl
theorem enter {args : List AVal} {h : Heap} {K : AEnd → Heap → Prop} (F : Nat) (hl : args.length ≤ 8) (a : AW ⟨Pg, F, 8, false, []⟩ ir (RetK rs K) (initT args) [] h) : ACalls Pg fn_ref13_Ints args h K :=
  ACalls.of_comp follows Try.func41 comp hl a
theorem pure {args : List AVal} {v : AVal} (hl : args.length ≤ 8) (a : AW ⟨Pg, 0, 8, false, []⟩ ir (RetK rs fun e _ => e = .ret v) (initT args) [] nilH) : APure Pg fn_ref13_Ints args v :=
  APure.of_nil (enter 0 hl a)
end ref13_Ints

namespace drive_Times
noncomputable def cfg : Cfg := { pure := pures, pcs := [], raw := [], cuts := [], draws := [(2, [⟨2, false, [], []⟩, ⟨0, false, [], []⟩, ⟨1, false, [], []⟩, ⟨3, false, [], []⟩, ⟨4, false, [9, 10], []⟩, ⟨5, false, [], []⟩, ⟨6, false, [], []⟩, ⟨7, false, [], []⟩, ⟨8, false, [], []⟩, ⟨9, true, [], []⟩, ⟨10, true, [], []⟩, ⟨11, false, [], []⟩, ⟨12, false, [], []⟩]), (3, [⟨0, false, [], []⟩, ⟨1, false, [], []⟩, ⟨3, false, [], []⟩, ⟨4, false, [], []⟩, ⟨2, false, [], []⟩, ⟨5, false, [], []⟩, ⟨6, false, [], [2, 5]⟩, ⟨7, false, [], []⟩, ⟨8, false, [], [5]⟩, ⟨9, false, [], []⟩, ⟨10, false, [], []⟩, ⟨11, false, [], []⟩])], keep := [4, 5] }
@[simp] noncomputable def r0 (_ : Unit) : List Stp := [S 2 (.box (.t 0)), S 4 (.alloc [(.int .i64 0), (.int .i64 0)]), S 5 (.alloc [(.int .i64 0)])]
@[simp] noncomputable def r1 (_ : Unit) : List Stp := [S 8 (.mkF (.func fn_drive_Times_1) [] [(.t 5)]), SN (.defer (.t 8) [])]
@[simp] noncomputable def r2 (_ : Unit) : List Stp := [S 12 (.mv (.t 1)), S 10 (.load true 3 (.t 2)), S 11 (.load true 3 (.t 2)), SP 13 (.call (.c (.func (.func fn_drive_isSeam) [] [])) [(.t 11), (.t 12)]), SD (some 14) (.call (.c (.func (.func fn_drive_open) [] [])) [(.t 10), (.t 13)]) false [I 6 (.alloc [(.int .i64 0), (.int .i64 0), (.int .i64 0), (.int .i64 0), (.int .i64 0), (.int .i64 0)]), I 7 (.alloc [(.int .i64 0), (.int .i64 0), (.int .i64 0), (.int .i64 0), (.int .i64 0), (.int .i64 0)])] [], SP 15 (.call (.c (.func (.func fn_drive_hull_times) [] [])) [(.t 14)]), S 9 (.mv (.t 15)), S 16 (.ext (.t 9) 0), S 17 (.ext (.t 9) 1), SD (some 6) (.alloc [(.int .i64 0), (.int .i64 0), (.int .i64 0), (.int .i64 0), (.int .i64 0), (.int .i64 0)]) true [] [], SD (some 7) (.alloc [(.int .i64 0), (.int .i64 0), (.int .i64 0), (.int .i64 0), (.int .i64 0), (.int .i64 0)]) true [] [], SN (.store 6 (.t 6) (.t 16)), SN (.store 6 (.t 7) (.t 17))]
@[simp] noncomputable def r3 (_ : Unit) : List Stp := [S 18 (.mv (.t 1)), S 19 (.ixA 6 1 (.t 6) (.t 18)), S 21 (.mv (.t 1)), S 22 (.ixA 6 1 (.t 7) (.t 21)), S 20 (.load false 1 (.t 19)), S 23 (.load false 1 (.t 22)), SD none (.store 2 (.t 4) (.c (.agg [(.int .i64 0), (.int .i64 0)]))) false [] [I 20 (.load false 1 (.t 19)), I 23 (.load false 1 (.t 22))], S 24 (.fAddr 0 (.t 4)), SD none (.store 1 (.t 24) (.t 20)) false [] [I 23 (.load false 1 (.t 22))], S 25 (.fAddr 1 (.t 4)), SN (.store 1 (.t 25) (.t 23)), SN (.store 1 (.t 5) (.c (.int .i64 0)))]
@[simp] noncomputable def ir : IR := (.seq (.ops r0) (.seq (.ops r1) (.seq (.ops r2) (.seq (.ops r3) .ret))))
@[simp] noncomputable def rs : List RV := [.cell 4 true 2, .cell 5 false 1]
theorem comp : compF Pg cfg Try.f42 = some (ir, rs, 26) := by kernel_rfl
theorem enter {args : List AVal} {h : Heap} {K : AEnd → Heap → Prop} (F : Nat) (hl : args.length ≤ 26) (a : AW ⟨Pg, F, 26, false, [4, 5]⟩ ir (RetD Pg rs K) (initT args) [] h) : ACalls Pg fn_drive_Times args h K :=
  ACalls.of_comp_defer follows Try.func42 comp hl a
theorem pure {args : List AVal} {v : AVal} (hl : args.length ≤ 26) (a : AW ⟨Pg, 0, 26, false, [4, 5]⟩ ir (RetD Pg rs fun e _ => e = .ret v) (initT args) [] nilH) : APure Pg fn_drive_Times args v :=
  APure.of_nil (enter 0 hl a)
end drive_Times

namespace rap_union
noncomputable def cfg : Cfg := { pure := pures, pcs := [], raw := [], cuts := [], draws := [], keep := [] }
@[simp] noncomputable def r0 (_ : Unit) : List Stp := [S 2 (.mv (.c (.int .u64 0)))]
@[simp] noncomputable def r1 (_ : Unit) : List Stp := [S 3 (.mv (.c (.func (.func fn_rap_set_with) [] [])))]
@[simp] noncomputable def r2 (_ : Unit) : List Stp := [S 6 (.mv (.t 0)), S 7 (.len (.t 6)), S 8 (.mv (.c (.int .i64 0)))]
@[simp] noncomputable def r3 (_ : Unit) : List Stp := [S 9 (.bin .lss (.t 8) (.t 7))]
@[simp] noncomputable def r4 (_ : Unit) : List Stp := [S 10 (.ixS 1 (.t 6) (.t 8)), S 11 (.load false 1 (.t 10)), S 5 (.mv (.t 11))]
@[simp] noncomputable def r5 (_ : Unit) : List Stp := [S 12 (.mv (.t 3)), S 13 (.mv (.t 2)), S 14 (.mv (.t 5)), S 15 (.call (.t 12) [(.t 13), (.t 14)]), S 2 (.mv (.t 15))]
@[simp] noncomputable def r6 (_ : Unit) : List Stp := [S 16 (.bin .add (.t 8) (.c (.int .i64 1))), S 8 (.mv (.t 16))]
@[simp] noncomputable def r7 (_ : Unit) : List Stp := [S 17 (.mv (.t 2)), S 2 (.mv (.t 17))]
@[simp] noncomputable def ir : IR := (.seq (.ops r0) (.seq (.ops r1) (.seq (.seq (.ops r2) (.block 0 (.loop (.seq (.ops r3) (.seq (.cond (.t 9) .skip (.exit 0)) (.seq (.block 1 (.seq (.ops r4) (.ops r5))) (.ops r6))))))) (.seq (.ops r7) .ret))))
@[simp] noncomputable def rs : List RV := [.tmp 2]
theorem comp : compF Pg cfg Try.f43 = some (ir, rs, 18) := by kernel_rfl
theorem enter {args : List AVal} {h : Heap} {K : AEnd → Heap → Prop} (F : Nat) (hl : args.length ≤ 18) (a : AW ⟨Pg, F, 18, false, []⟩ ir (RetK rs K) (initT args) [] h) : ACalls Pg fn_rap_union args h K :=
  ACalls.of_comp follows Try.func43 comp hl a
theorem pure {args : List AVal} {v : AVal} (hl : args.length ≤ 18) (a : AW ⟨Pg, 0, 18, false, []⟩ ir (RetK rs fun e _ => e = .ret v) (initT args) [] nilH) : APure Pg fn_rap_union args v :=
  APure.of_nil (enter 0 hl a)
end rap_union

namespace math_bits_OnesCount32
noncomputable def cfg : Cfg := { pure := pures, pcs := [], raw := [], cuts := [], draws := [(1, [⟨0, false, [], []⟩, ⟨1, false, [], []⟩, ⟨2, false, [], []⟩, ⟨3, false, [], []⟩, ⟨4, false, [], []⟩, ⟨5, false, [], []⟩, ⟨6, false, [], []⟩, ⟨7, false, [], []⟩, ⟨8, false, [], []⟩, ⟨9, false, [], []⟩, ⟨10, false, [], []⟩, ⟨11, false, [], []⟩, ⟨12, false, [], []⟩, ⟨13, false, [], []⟩, ⟨14, false, [], []⟩, ⟨15, false, [], []⟩, ⟨16, false, [], []⟩, ⟨17, false, [], []⟩, ⟨18, false, [], []⟩])], keep := [] }
@[simp] noncomputable def r0 (_ : Unit) : List Stp := [S 2 (.mv (.c (.int .i64 0)))]
@[simp] noncomputable def r1 (_ : Unit) : List Stp := [S 3 (.mv (.t 0)), S 4 (.bin .shr (.t 3) (.c (.int .u64 24))), S 5 (.ixT (.c (.str [0, 1, 1, 2, 1, 2, 2, 3, 1, 2, 2, 3, 2, 3, 3, 4, 1, 2, 2, 3, 2, 3, 3, 4, 2, 3, 3, 4, 3, 4, 4, 5, 1, 2, 2, 3, 2, 3, 3, 4, 2, 3, 3, 4, 3, 4, 4, 5, 2, 3, 3, 4, 3, 4, 4, 5, 3, 4, 4, 5, 4, 5, 5, 6, 1, 2, 2, 3, 2, 3, 3, 4, 2, 3, 3, 4, 3, 4, 4, 5, 2, 3, 3, 4, 3, 4, 4, 5, 3, 4, 4, 5, 4, 5, 5, 6, 2, 3, 3, 4, 3, 4, 4, 5, 3, 4, 4, 5, 4, 5, 5, 6, 3, 4, 4, 5, 4, 5, 5, 6, 4, 5, 5, 6, 5, 6, 6, 7, 1, 2, 2, 3, 2, 3, 3, 4, 2, 3, 3, 4, 3, 4, 4, 5, 2, 3, 3, 4, 3, 4, 4, 5, 3, 4, 4, 5, 4, 5, 5, 6, 2, 3, 3, 4, 3, 4, 4, 5, 3, 4, 4, 5, 4, 5, 5, 6, 3, 4, 4, 5, 4, 5, 5, 6, 4, 5, 5, 6, 5, 6, 6, 7, 2, 3, 3, 4, 3, 4, 4, 5, 3, 4, 4, 5, 4, 5, 5, 6, 3, 4, 4, 5, 4, 5, 5, 6, 4, 5, 5, 6, 5, 6, 6, 7, 3, 4, 4, 5, 4, 5, 5, 6, 4, 5, 5, 6, 5, 6, 6, 7, 4, 5, 5, 6, 5, 6, 6, 7, 5, 6, 6, 7, 6, 7, 7, 8])) (.t 4)), S 6 (.mv (.t 0)), S 7 (.bin .shr (.t 6) (.c (.int .u64 16))), S 8 (.bin .and (.t 7) (.c (.int .u32 255))), S 9 (.ixT (.c (.str [0, 1, 1, 2, 1, 2, 2, 3, 1, 2, 2, 3, 2, 3, 3, 4, 1, 2, 2, 3, 2, 3, 3, 4, 2, 3, 3, 4, 3, 4, 4, 5, 1, 2, 2, 3, 2, 3, 3, 4, 2, 3, 3, 4, 3, 4, 4, 5, 2, 3, 3, 4, 3, 4, 4, 5, 3, 4, 4, 5, 4, 5, 5, 6, 1, 2, 2, 3, 2, 3, 3, 4, 2, 3, 3, 4, 3, 4, 4, 5, 2, 3, 3, 4, 3, 4, 4, 5, 3, 4, 4, 5, 4, 5, 5, 6, 2, 3, 3, 4, 3, 4, 4, 5, 3, 4, 4, 5, 4, 5, 5, 6, 3, 4, 4, 5, 4, 5, 5, 6, 4, 5, 5, 6, 5, 6, 6, 7, 1, 2, 2, 3, 2, 3, 3, 4, 2, 3, 3, 4, 3, 4, 4, 5, 2, 3, 3, 4, 3, 4, 4, 5, 3, 4, 4, 5, 4, 5, 5, 6, 2, 3, 3, 4, 3, 4, 4, 5, 3, 4, 4, 5, 4, 5, 5, 6, 3, 4, 4, 5, 4, 5, 5, 6, 4, 5, 5, 6, 5, 6, 6, 7, 2, 3, 3, 4, 3, 4, 4, 5, 3, 4, 4, 5, 4, 5, 5, 6, 3, 4, 4, 5, 4, 5, 5, 6, 4, 5, 5, 6, 5, 6, 6, 7, 3, 4, 4, 5, 4, 5, 5, 6, 4, 5, 5, 6, 5, 6, 6, 7, 4, 5, 5, 6, 5, 6, 6, 7, 5, 6, 6, 7, 6, 7, 7, 8])) (.t 8)), S 10 (.bin .add (.t 5) (.t 9)), S 11 (.mv (.t 0)), S 12 (.bin .shr (.t 11) (.c (.int .u64 8))), S 13 (.bin .and (.t 12) (.c (.int .u32 255))), S 14 (.ixT (.c (.str [0, 1, 1, 2, 1, 2, 2, 3, 1, 2, 2, 3, 2, 3, 3, 4, 1, 2, 2, 3, 2, 3, 3, 4, 2, 3, 3, 4, 3, 4, 4, 5, 1, 2, 2, 3, 2, 3, 3, 4, 2, 3, 3, 4, 3, 4, 4, 5, 2, 3, 3, 4, 3, 4, 4, 5, 3, 4, 4, 5, 4, 5, 5, 6, 1, 2, 2, 3, 2, 3, 3, 4, 2, 3, 3, 4, 3, 4, 4, 5, 2, 3, 3, 4, 3, 4, 4, 5, 3, 4, 4, 5, 4, 5, 5, 6, 2, 3, 3, 4, 3, 4, 4, 5, 3, 4, 4, 5, 4, 5, 5, 6, 3, 4, 4, 5, 4, 5, 5, 6, 4, 5, 5, 6, 5, 6, 6, 7, 1, 2, 2, 3, 2, 3, 3, 4, 2, 3, 3, 4, 3, 4, 4, 5, 2, 3, 3, 4, 3, 4, 4, 5, 3, 4, 4, 5, 4, 5, 5, 6, 2, 3, 3, 4, 3, 4, 4, 5, 3, 4, 4, 5, 4, 5, 5, 6, 3, 4, 4, 5, 4, 5, 5, 6, 4, 5, 5, 6, 5, 6, 6, 7, 2, 3, 3, 4, 3, 4, 4, 5, 3, 4, 4, 5, 4, 5, 5, 6, 3, 4, 4, 5, 4, 5, 5, 6, 4, 5, 5, 6, 5, 6, 6, 7, 3, 4, 4, 5, 4, 5, 5, 6, 4, 5, 5, 6, 5, 6, 6, 7, 4, 5, 5, 6, 5, 6, 6, 7, 5, 6, 6, 7, 6, 7, 7, 8])) (.t 13)), S 15 (.bin .add (.t 10) (.t 14)), S 16 (.mv (.t 0)), S 17 (.bin .and (.t 16) (.c (.int .u32 255))), S 18 (.ixT (.c (.str [0, 1, 1, 2, 1, 2, 2, 3, 1, 2, 2, 3, 2, 3, 3, 4, 1, 2, 2, 3, 2, 3, 3, 4, 2, 3, 3, 4, 3, 4, 4, 5, 1, 2, 2, 3, 2, 3, 3, 4, 2, 3, 3, 4, 3, 4, 4, 5, 2, 3, 3, 4, 3, 4, 4, 5, 3, 4, 4, 5, 4, 5, 5, 6, 1, 2, 2, 3, 2, 3, 3, 4, 2, 3, 3, 4, 3, 4, 4, 5, 2, 3, 3, 4, 3, 4, 4, 5, 3, 4, 4, 5, 4, 5, 5, 6, 2, 3, 3, 4, 3, 4, 4, 5, 3, 4, 4, 5, 4, 5, 5, 6, 3, 4, 4, 5, 4, 5, 5, 6, 4, 5, 5, 6, 5, 6, 6, 7, 1, 2, 2, 3, 2, 3, 3, 4, 2, 3, 3, 4, 3, 4, 4, 5, 2, 3, 3, 4, 3, 4, 4, 5, 3, 4, 4, 5, 4, 5, 5, 6, 2, 3, 3, 4, 3, 4, 4, 5, 3, 4, 4, 5, 4, 5, 5, 6, 3, 4, 4, 5, 4, 5, 5, 6, 4, 5, 5, 6, 5, 6, 6, 7, 2, 3, 3, 4, 3, 4, 4, 5, 3, 4, 4, 5, 4, 5, 5, 6, 3, 4, 4, 5, 4, 5, 5, 6, 4, 5, 5, 6, 5, 6, 6, 7, 3, 4, 4, 5, 4, 5, 5, 6, 4, 5, 5, 6, 5, 6, 6, 7, 4, 5, 5, 6, 5, 6, 6, 7, 5, 6, 6, 7, 6, 7, 7, 8])) (.t 17)), S 19 (.bin .add (.t 15) (.t 18)), S 20 (.conv .i64 (.t 19)), S 2 (.mv (.t 20))]
@[simp] noncomputable def ir : IR := (.seq (.ops r0) (.seq (.ops r1) .ret))
@[simp] noncomputable def rs : List RV := [.tmp 2]
theorem comp : compF Pg cfg Try.f44 = some (ir, rs, 21) := by kernel_rfl
theorem enter {args : List AVal} {h : Heap} {K : AEnd → Heap → Prop} (F : Nat) (hl : args.length ≤ 21) (a : AW ⟨Pg, F, 21, false, []⟩ ir (RetK rs K) (initT args) [] h) : ACalls Pg fn_math_bits_OnesCount32 args h K :=
  ACalls.of_comp follows Try.func44 comp hl a
theorem pure {args : List AVal} {v : AVal} (hl : args.length ≤ 21) (a : AW ⟨Pg, 0, 21, false, []⟩ ir (RetK rs fun e _ => e = .ret v) (initT args) [] nilH) : APure Pg fn_math_bits_OnesCount32 args v :=
  APure.of_nil (enter 0 hl a)
end math_bits_OnesCount32

namespace math_bits_OnesCount64
noncomputable def cfg : Cfg := { pure := pures, pcs := [], raw := [], cuts := [], draws := [], keep := [] }
@[simp] noncomputable def r0 (_ : Unit) : List Stp := [S 2 (.mv (.c (.int .i64 0)))]
@[simp] noncomputable def r1 (_ : Unit) : List Stp := [S 3 (.mv (.t 0)), S 4 (.bin .shr (.t 3) (.c (.int .u64 1))), S 5 (.bin .and (.t 4) (.c (.int .u64 6148914691236517205))), S 6 (.mv (.t 0)), S 7 (.bin .and (.t 6) (.c (.int .u64 6148914691236517205))), S 8 (.bin .add (.t 5) (.t 7)), S 0 (.mv (.t 8))]
@[simp] noncomputable def r2 (_ : Unit) : List Stp := [S 9 (.mv (.t 0)), S 10 (.bin .shr (.t 9) (.c (.int .u64 2))), S 11 (.bin .and (.t 10) (.c (.int .u64 3689348814741910323))), S 12 (.mv (.t 0)), S 13 (.bin .and (.t 12) (.c (.int .u64 3689348814741910323))), S 14 (.bin .add (.t 11) (.t 13)), S 0 (.mv (.t 14))]
@[simp] noncomputable def r3 (_ : Unit) : List Stp := [S 15 (.mv (.t 0)), S 16 (.bin .shr (.t 15) (.c (.int .u64 4))), S 17 (.mv (.t 0)), S 18 (.bin .add (.t 16) (.t 17)), S 19 (.bin .and (.t 18) (.c (.int .u64 1085102592571150095))), S 0 (.mv (.t 19))]
@[simp] noncomputable def r4 (_ : Unit) : List Stp := [S 20 (.mv (.t 0)), S 21 (.mv (.t 0)), S 22 (.bin .shr (.t 21) (.c (.int .u64 8))), S 23 (.bin .add (.t 20) (.t 22)), S 0 (.mv (.t 23))]
@[simp] noncomputable def r5 (_ : Unit) : List Stp := [S 24 (.mv (.t 0)), S 25 (.mv (.t 0)), S 26 (.bin .shr (.t 25) (.c (.int .u64 16))), S 27 (.bin .add (.t 24) (.t 26)), S 0 (.mv (.t 27))]
@[simp] noncomputable def r6 (_ : Unit) : List Stp := [S 28 (.mv (.t 0)), S 29 (.mv (.t 0)), S 30 (.bin .shr (.t 29) (.c (.int .u64 32))), S 31 (.bin .add (.t 28) (.t 30)), S 0 (.mv (.t 31))]
@[simp] noncomputable def r7 (_ : Unit) : List Stp := [S 32 (.mv (.t 0)), S 33 (.conv .i64 (.t 32)), S 34 (.bin .and (.t 33) (.c (.int .i64 127))), S 2 (.mv (.t 34))]
@[simp] noncomputable def ir : IR := (.seq (.ops r0) (.seq (.ops r1) (.seq (.ops r2) (.seq (.ops r3) (.seq (.ops r4) (.seq (.ops r5) (.seq (.ops r6) (.seq (.ops r7) .ret))))))))
@[simp] noncomputable def rs : List RV := [.tmp 2]
theorem comp : compF Pg cfg Try.f45 = some (ir, rs, 35) := by kernel_rfl
theorem enter {args : List AVal} {h : Heap} {K : AEnd → Heap → Prop} (F : Nat) (hl : args.length ≤ 35) (a : AW ⟨Pg, F, 35, false, []⟩ ir (RetK rs K) (initT args) [] h) : ACalls Pg fn_math_bits_OnesCount64 args h K :=
  ACalls.of_comp follows Try.func45 comp hl a
theorem pure {args : List AVal} {v : AVal} (hl : args.length ≤ 35) (a : AW ⟨Pg, 0, 35, false, []⟩ ir (RetK rs fun e _ => e = .ret v) (initT args) [] nilH) : APure Pg fn_math_bits_OnesCount64 args v :=
  APure.of_nil (enter 0 hl a)
end math_bits_OnesCount64

namespace slices_IndexFunc_rap_sound_rap_sound
noncomputable def cfg : Cfg := { pure := pures, pcs := [], raw := [], cuts := [], draws := [], keep := [] }
@[simp] noncomputable def r0 (_ : Unit) : List Stp := [S 4 (.mv (.c (.int .i64 0)))]
@[simp] noncomputable def r1 (_ : Unit) : List Stp := [S 6 (.mv (.t 0)), S 7 (.len (.t 6)), S 8 (.mv (.c (.int .i64 0)))]
@[simp] noncomputable def r2 (_ : Unit) : List Stp := [S 9 (.bin .lss (.t 8) (.t 7))]
@[simp] noncomputable def r3 (_ : Unit) : List Stp := [S 10 (.mv (.t 8)), S 5 (.mv (.t 10))]
@[simp] noncomputable def r4 (_ : Unit) : List Stp := [S 11 (.mv (.t 1)), S 12 (.mv (.t 0)), S 13 (.mv (.t 5)), S 14 (.ixS 2 (.t 12) (.t 13)), S 15 (.load true 2 (.t 14)), S 16 (.call (.t 11) [(.t 15)])]
@[simp] noncomputable def r5 (_ : Unit) : List Stp := [S 17 (.mv (.t 5)), S 4 (.mv (.t 17))]
@[simp] noncomputable def r6 (_ : Unit) : List Stp := [S 18 (.bin .add (.t 8) (.c (.int .i64 1))), S 8 (.mv (.t 18))]
@[simp] noncomputable def r7 (_ : Unit) : List Stp := [S 4 (.mv (.c (.int .i64 (-1))))]
@[simp] noncomputable def ir : IR := (.seq (.ops r0) (.seq (.seq (.ops r1) (.block 0 (.loop (.seq (.ops r2) (.seq (.cond (.t 9) .skip (.exit 0)) (.seq (.block 1 (.seq (.ops r3) (.seq (.ops r4) (.cond (.t 16) (.seq (.ops r5) .ret) .skip)))) (.ops r6))))))) (.seq (.ops r7) .ret)))
@[simp] noncomputable def rs : List RV := [.tmp 4]
theorem comp : compF Pg cfg Try.f46 = some (ir, rs, 19) := by kernel_rfl
theorem enter {args : List AVal} {h : Heap} {K : AEnd → Heap → Prop} (F : Nat) (hl : args.length ≤ 19) (a : AW ⟨Pg, F, 19, false, []⟩ ir (RetK rs K) (initT args) [] h) : ACalls Pg fn_slices_IndexFunc_rap_sound_rap_sound args h K :=
  ACalls.of_comp follows Try.func46 comp hl a
theorem pure {args : List AVal} {v : AVal} (hl : args.length ≤ 19) (a : AW ⟨Pg, 0, 19, false, []⟩ ir (RetK rs fun e _ => e = .ret v) (initT args) [] nilH) : APure Pg fn_slices_IndexFunc_rap_sound_rap_sound args v :=
  APure.of_nil (enter 0 hl a)
end slices_IndexFunc_rap_sound_rap_sound

namespace rap_hull_blows
noncomputable def cfg : Cfg := { pure := pures, pcs := [], raw := [], cuts := [], draws := [], keep := [] }
@[simp] noncomputable def r0 (_ : Unit) : List Stp := [S 1 (.box (.t 0)), S 2 (.mv (.c .nilf))]
@[simp] noncomputable def r1 (_ : Unit) : List Stp := [S 3 (.mkF (.func fn_rap_hull_blows_1) [] [(.t 1)]), S 2 (.mv (.t 3))]
@[simp] noncomputable def ir : IR := (.seq (.ops r0) (.seq (.ops r1) .ret))
@[simp] noncomputable def rs : List RV := [.tmp 2]
theorem comp : compF Pg cfg Try.f47 = some (ir, rs, 4) := by kernel_rfl
theorem enter {args : List AVal} {h : Heap} {K : AEnd → Heap → Prop} (F : Nat) (hl : args.length ≤ 4) (a : AW ⟨Pg, F, 4, false, []⟩ ir (RetK rs K) (initT args) [] h) : ACalls Pg fn_rap_hull_blows args h K :=
  ACalls.of_comp follows Try.func47 comp hl a
theorem pure {args : List AVal} {v : AVal} (hl : args.length ≤ 4) (a : AW ⟨Pg, 0, 4, false, []⟩ ir (RetK rs fun e _ => e = .ret v) (initT args) [] nilH) : APure Pg fn_rap_hull_blows args v :=
  APure.of_nil (enter 0 hl a)
end rap_hull_blows

namespace drive_Settle
noncomputable def cfg : Cfg := { pure := pures, pcs := [], raw := [], cuts := [], draws := [(2, [⟨2, false, [], []⟩, ⟨0, false, [], []⟩, ⟨1, false, [], []⟩, ⟨3, false, [], []⟩, ⟨4, false, [], []⟩, ⟨5, false, [], []⟩])], keep := [4, 5, 6] }
@[simp] noncomputable def r0 (_ : Unit) : List Stp := [S 2 (.box (.t 0)), S 4 (.mv (.c .nils)), S 5 (.mv (.c .nils)), S 6 (.alloc [(.int .i64 0)])]
@[simp] noncomputable def r1 (_ : Unit) : List Stp := [S 9 (.mkF (.func fn_drive_Settle_1) [] [(.t 6)]), SN (.defer (.t 9) [])]
@[simp] noncomputable def r2 (_ : Unit) : List Stp := [S 12 (.mv (.t 1)), S 10 (.load true 3 (.t 2)), S 11 (.load true 3 (.t 2)), SP 13 (.call (.c (.func (.func fn_drive_areBlows) [] [])) [(.t 11), (.t 12)]), S 14 (.call (.c (.func (.func fn_drive_open) [] [])) [(.t 10), (.t 13)]), S 7 (.mv (.t 14))]
@[simp] noncomputable def r3 (_ : Unit) : List Stp := [S 15 (.mv (.t 7)), S 16 (.call (.c (.func (.func fn_drive_hull_settler) [] [])) [(.t 15)]), S 17 (.mv (.t 1)), SP 18 (.call (.c (.func (.func fn_drive_blowsOf) [] [])) [(.t 17)]), S 19 (.call (.c (.func (.func fn_drive_settler_rest) [] [])) [(.t 16), (.t 18)]), S 8 (.alloc [(.int .i64 0), (.int .i64 0), (.int .i64 0), (.int .i64 0), (.int .i64 0), (.int .i64 0), (.int .i64 0), (.int .i64 0), (.int .i64 0), (.int .i64 0), (.int .i64 0), (.int .i64 0)]), SN (.store 12 (.t 8) (.t 19))]
@[simp] noncomputable def r4 (_ : Unit) : List Stp := [S 20 (.fAddr 0 (.t 8)), S 21 (.mv (.t 7)), SP 22 (.call (.c (.func (.func fn_drive_hull_seams) [] [])) [(.t 21)]), S 23 (.slA 6 1 (.t 20) none (some (.t 22)) none), S 24 (.call (.c (.func (.func fn_slices_Clone_int_int) [] [])) [(.t 23)]), S 25 (.fAddr 6 (.t 8)), S 26 (.mv (.t 7)), SP 27 (.call (.c (.func (.func fn_drive_hull_seams) [] [])) [(.t 26)]), S 28 (.slA 6 1 (.t 25) none (some (.t 27)) none), S 29 (.call (.c (.func (.func fn_slices_Clone_int_int) [] [])) [(.t 28)]), S 4 (.mv (.t 24)), S 5 (.mv (.t 29)), SN (.store 1 (.t 6) (.c (.int .i64 0)))]
@[simp] noncomputable def ir : IR := (.seq (.ops r0) (.seq (.ops r1) (.seq (.ops r2) (.seq (.ops r3) (.seq (.ops r4) .ret)))))
@[simp] noncomputable def rs : List RV := [.tmp 4, .tmp 5, .cell 6 false 1]
theorem comp : compF Pg cfg Try.f48 = some (ir, rs, 30) := by kernel_rfl
theorem enter {args : List AVal} {h : Heap} {K : AEnd → Heap → Prop} (F : Nat) (hl : args.length ≤ 30) (a : AW ⟨Pg, F, 30, false, [4, 5, 6]⟩ ir (RetD Pg rs K) (initT args) [] h) : ACalls Pg fn_drive_Settle args h K :=
  ACalls.of_comp_defer follows Try.func48 comp hl a
theorem pure {args : List AVal} {v : AVal} (hl : args.length ≤ 30) (a : AW ⟨Pg, 0, 30, false, [4, 5, 6]⟩ ir (RetD Pg rs fun e _ => e = .ret v) (initT args) [] nilH) : APure Pg fn_drive_Settle args v :=
  APure.of_nil (enter 0 hl a)
end drive_Settle

namespace rap_hull_sounds_1
noncomputable def cfg : Cfg := { pure := pures, pcs := [], raw := [], cuts := [], draws := [], keep := [] }
@[simp] noncomputable def r0 (_ : Unit) : List Stp := [S 2 (.box (.t 0)), S 3 (.box (.t 1)), S 4 (.mv (.c (.int .i64 0)))]
@[simp] noncomputable def r1 (_ : Unit) : List Stp := [S 5 (.fAddr 0 (.t 2)), S 6 (.load false 1 (.t 5)), S 7 (.conv .i64 (.t 6)), S 8 (.fAddr 0 (.t 3)), S 9 (.load false 1 (.t 8)), S 10 (.conv .i64 (.t 9)), S 11 (.bin .sub (.t 7) (.t 10)), S 4 (.mv (.t 11))]
@[simp] noncomputable def ir : IR := (.seq (.ops r0) (.seq (.ops r1) .ret))
@[simp] noncomputable def rs : List RV := [.tmp 4]
theorem comp : compF Pg cfg Try.f50 = some (ir, rs, 12) := by kernel_rfl
theorem enter {args : List AVal} {h : Heap} {K : AEnd → Heap → Prop} (F : Nat) (hl : args.length ≤ 12) (a : AW ⟨Pg, F, 12, false, []⟩ ir (RetK rs K) (initT args) [] h) : ACalls Pg fn_rap_hull_sounds_1 args h K :=
  ACalls.of_comp follows Try.func50 comp hl a
theorem pure {args : List AVal} {v : AVal} (hl : args.length ≤ 12) (a : AW ⟨Pg, 0, 12, false, []⟩ ir (RetK rs fun e _ => e = .ret v) (initT args) [] nilH) : APure Pg fn_rap_hull_sounds_1 args v :=
  APure.of_nil (enter 0 hl a)
end rap_hull_sounds_1

namespace rap_hull_ears
noncomputable def cfg : Cfg := { pure := pures, pcs := [], raw := [], cuts := [], draws := [], keep := [] }
@[simp] noncomputable def r0 (_ : Unit) : List Stp := [S 4 (.mv (.c .nils))]
@[simp] noncomputable def r1 (_ : Unit) : List Stp := [S 8 (.build [] []), S 9 (.mkI 124 (.t 8)), S 10 (.bsl 1 [.nili] [(0, 1, (.t 9))]), S 5 (.mv (.t 10))]
@[simp] noncomputable def r2 (_ : Unit) : List Stp := [S 11 (.mv (.t 0)), S 12 (.nilck Pg (.t 11)), S 13 (.fAddr 0 (.t 12)), S 14 (.fAddr 3 (.t 13)), S 15 (.load false 1 (.t 14)), S 16 (.len (.t 15)), S 17 (.mv (.c (.int .i64 0)))]
@[simp] noncomputable def r3 (_ : Unit) : List Stp := [S 18 (.bin .lss (.t 17) (.t 16))]
@[simp] noncomputable def r4 (_ : Unit) : List Stp := [S 19 (.mv (.t 17)), S 20 (.ixS 2 (.t 15) (.t 17)), S 21 (.load true 2 (.t 20)), S 7 (.alloc [(.int .i64 0), (.bool false)]), S 6 (.mv (.t 19)), SN (.store 2 (.t 7) (.t 21))]
@[simp] noncomputable def r5 (_ : Unit) : List Stp := [S 22 (.mv (.t 1)), S 23 (.mv (.t 6)), S 24 (.bin .shr (.t 22) (.t 23)), S 25 (.bin .and (.t 24) (.c (.int .u64 1))), S 26 (.bin .eql (.t 25) (.c (.int .u64 1)))]
@[simp] noncomputable def r6 (_ : Unit) : List Stp := [S 27 (.mv (.t 5)), S 28 (.build [] []), S 29 (.load true 2 (.t 7)), S 30 (.build [(.int .i64 0), (.bool false)] [(0, 0, (.t 28)), (0, 2, (.t 29))]), S 31 (.mkI 126 (.t 30)), S 32 (.bsl 1 [.nili] [(0, 1, (.t 31))]), S 33 (.app 1 16 (.t 27) (.t 32)), S 5 (.mv (.t 33))]
@[simp] noncomputable def r7 (_ : Unit) : List Stp := [S 34 (.bin .add (.t 17) (.c (.int .i64 1))), S 17 (.mv (.t 34))]
@[simp] noncomputable def r8 (_ : Unit) : List Stp := [S 35 (.mv (.t 5)), S 4 (.mv (.t 35))]
@[simp] noncomputable def ir : IR := (.seq (.ops r0) (.seq (.ops r1) (.seq (.seq (.ops r2) (.block 0 (.loop (.seq (.ops r3) (.seq (.cond (.t 18) .skip (.exit 0)) (.seq (.block 1 (.seq (.ops r4) (.seq (.ops r5) (.cond (.t 26) (.ops r6) .skip)))) (.ops r7))))))) (.seq (.ops r8) .ret))))
@[simp] noncomputable def rs : List RV := [.tmp 4]
theorem comp : compF Pg cfg Try.f51 = some (ir, rs, 36) := by kernel_rfl
theorem enter {args : List AVal} {h : Heap} {K : AEnd → Heap → Prop} (F : Nat) (hl : args.length ≤ 36) (a : AW ⟨Pg, F, 36, false, []⟩ ir (RetK rs K) (initT args) [] h) : ACalls Pg fn_rap_hull_ears args h K :=
  ACalls.of_comp follows Try.func51 comp hl a
theorem pure {args : List AVal} {v : AVal} (hl : args.length ≤ 36) (a : AW ⟨Pg, 0, 36, false, []⟩ ir (RetK rs fun e _ => e = .ret v) (initT args) [] nilH) : APure Pg fn_rap_hull_ears args v :=
  APure.of_nil (enter 0 hl a)
end rap_hull_ears

namespace rap_Open_1
noncomputable def cfg : Cfg := { pure := pures, pcs := [], raw := [], cuts := [], draws := [], keep := [] }
@[simp] noncomputable def r0 (_ : Unit) : List Stp := [S 1 (.recov), S 2 (.call (.c (.func (.func fn_rap_said) [] [])) [(.t 1), (.t 0)])]
@[simp] noncomputable def ir : IR := (.ops r0)
@[simp] noncomputable def rs : List RV := []
theorem comp : compF Pg cfg Try.f52 = some (ir, rs, 3) := by kernel_rfl
theorem enter {args : List AVal} {h : Heap} {K : AEnd → Heap → Prop} (F : Nat) (hl : args.length ≤ 3) (a : AW ⟨Pg, F, 3, false, []⟩ ir (RetK rs K) (initT args) [] h) : ACalls Pg fn_rap_Open_1 args h K :=
  ACalls.of_comp follows Try.func52 comp hl a
theorem pure {args : List AVal} {v : AVal} (hl : args.length ≤ 3) (a : AW ⟨Pg, 0, 3, false, []⟩ ir (RetK rs fun e _ => e = .ret v) (initT args) [] nilH) : APure Pg fn_rap_Open_1 args v :=
  APure.of_nil (enter 0 hl a)
theorem recClo : RecClo Pg fn_rap_Open_1 fn_rap_said := ⟨_, Try.func52, by kernel_rfl⟩
end rap_Open_1

namespace ref05_Ints
noncomputable def cfg : Cfg := { pure := pures, pcs := [], raw := [], cuts := [], draws := [(6, [⟨0, false, [], []⟩, ⟨1, false, [], []⟩, ⟨2, false, [], []⟩, ⟨4, false, [], []⟩, ⟨5, false, [], []⟩, ⟨6, false, [], []⟩, ⟨3, false, [], []⟩, ⟨7, false, [], []⟩, ⟨8, false, [], []⟩])], keep := [] }
@[simp] noncomputable def r0 (_ : Unit) : List Stp := [S 4 (.mv (.c (.bool false)))]
@[simp] noncomputable def r1 (_ : Unit) : List Stp := [S 6 (.mv (.t 0)), S 7 (.len (.t 6)), S 8 (.mv (.t 1)), S 9 (.len (.t 8)), S 10 (.bin .neq (.t 7) (.t 9))]
@[simp] noncomputable def r2 (_ : Unit) : List Stp := [S 4 (.mv (.c (.bool false)))]
@[simp] noncomputable def r3 (_ : Unit) : List Stp := [S 5 (.mv (.c (.int .i64 0)))]
@[simp] noncomputable def r4 (_ : Unit) : List Stp := [S 11 (.mv (.t 5)), S 12 (.mv (.t 0)), S 13 (.len (.t 12)), S 14 (.bin .lss (.t 11) (.t 13))]
@[simp] noncomputable def r6 (_ : Unit) : List Stp := [S 17 (.mv (.t 0)), S 18 (.mv (.t 5)), S 19 (.ixS 1 (.t 17) (.t 18)), S 21 (.mv (.t 1)), S 22 (.mv (.t 5)), S 23 (.ixS 1 (.t 21) (.t 22)), S 20 (.load false 1 (.t 19)), S 24 (.load false 1 (.t 23)), S 25 (.bin .neq (.t 20) (.t 24))]
@[simp] noncomputable def r7 (_ : Unit) : List Stp := [S 4 (.mv (.c (.bool false)))]
@[simp] noncomputable def r5 (_ : Unit) : List Stp := [S 15 (.mv (.t 5)), S 16 (.bin .add (.t 15) (.c (.int .i64 1))), S 5 (.mv (.t 16))]
@[simp] noncomputable def r8 (_ : Unit) : List Stp := [S 4 (.mv (.c (.bool true)))]
@[simp] noncomputable def ir : IR := (.seq (.ops r0) (.seq (.seq (.ops r1) (.cond (.t 10) (.seq (.ops r2) .ret) .skip)) (.seq (.seq (.ops r3) (.block 0 (.loop (.seq (.seq (.ops r4) (.cond (.t 14) .skip (.exit 0))) (.seq (.block 1 (.seq (.ops r6) (.cond (.t 25) (.seq (.ops r7) .ret) .skip))) (.ops r5)))))) (.seq (.ops r8) .ret))))
@[simp] noncomputable def rs : List RV := [.tmp 4]
theorem comp : compF Pg cfg Try.f53 = some (ir, rs, 26) := by kernel_rfl
theorem enter {args : List AVal} {h : Heap} {K : AEnd → Heap → Prop} (F : Nat) (hl : args.length ≤ 26) (a : AW ⟨Pg, F, 26, false, []⟩ ir (RetK rs K) (initT args) [] h) : ACalls Pg fn_ref05_Ints args h K :=
  ACalls.of_comp follows Try.func53 comp hl a
theorem pure {args : List AVal} {v : AVal} (hl : args.length ≤ 26) (a : AW ⟨Pg, 0, 26, false, []⟩ ir (RetK rs fun e _ => e = .ret v) (initT args) [] nilH) : APure Pg fn_ref05_Ints args v :=
  APure.of_nil (enter 0 hl a)
end ref05_Ints

namespace drive_Times_1
noncomputable def cfg : Cfg := { pure := pures, pcs := [], raw := [], cuts := [], draws := [], keep := [] }
@[simp] noncomputable def r0 (_ : Unit) : List Stp := [S 1 (.recov), S 2 (.call (.c (.func (.func fn_drive_said) [] [])) [(.t 1), (.t 0)])]
@[simp] noncomputable def ir : IR := (.ops r0)
@[simp] noncomputable def rs : List RV := []
theorem comp : compF Pg cfg Try.f54 = some (ir, rs, 3) := by kernel_rfl
theorem enter {args : List AVal} {h : Heap} {K : AEnd → Heap → Prop} (F : Nat) (hl : args.length ≤ 3) (a : AW ⟨Pg, F, 3, false, []⟩ ir (RetK rs K) (initT args) [] h) : ACalls Pg fn_drive_Times_1 args h K :=
  ACalls.of_comp follows Try.func54 comp hl a
theorem pure {args : List AVal} {v : AVal} (hl : args.length ≤ 3) (a : AW ⟨Pg, 0, 3, false, []⟩ ir (RetK rs fun e _ => e = .ret v) (initT args) [] nilH) : APure Pg fn_drive_Times_1 args v :=
  APure.of_nil (enter 0 hl a)
theorem recClo : RecClo Pg fn_drive_Times_1 fn_drive_said := ⟨_, Try.func54, by kernel_rfl⟩
end drive_Times_1

namespace drive_said
noncomputable def cfg : Cfg := { pure := pures, pcs := [], raw := [], cuts := [], draws := [], keep := [] }
@[simp] noncomputable def r0 (_ : Unit) : List Stp := [S 6 (.mv (.t 0)), S 7 (.eqN .i false (.t 6))]
@[simp] noncomputable def r1 (_ : Unit) : List Stp := [S 9 (.mv (.t 0)), S 10 (.tyAs 128 true (.agg [(.int .i64 0)]) (.t 9)), S 8 (.mv (.t 10)), S 11 (.ext (.t 8) 0), S 12 (.ext (.t 8) 1), S 4 (.alloc [(.int .i64 0)]), SN (.store 1 (.t 4) (.t 11)), S 5 (.mv (.t 12))]
@[simp] noncomputable def r2 (_ : Unit) : List Stp := [S 13 (.mv (.t 5)), S 14 (.un .not (.t 13))]
@[simp] noncomputable def r3 (_ : Unit) : List Stp := [S 15 (.mv (.t 0)), SN (.panic (.t 15))]
@[simp] noncomputable def r4 (_ : Unit) : List Stp := [S 16 (.mv (.t 1)), S 17 (.fAddr 0 (.t 4)), S 18 (.load false 1 (.t 17)), S 19 (.nilck Pg (.t 16)), SN (.store 1 (.t 19) (.t 18))]
@[simp] noncomputable def ir : IR := (.seq (.seq (.ops r0) (.cond (.t 7) .ret .skip)) (.seq (.ops r1) (.seq (.seq (.ops r2) (.cond (.t 14) (.ops r3) .skip)) (.ops r4))))
@[simp] noncomputable def rs : List RV := []
theorem comp : compF Pg cfg Try.f55 = some (ir, rs, 20) := by kernel_rfl
theorem enter {args : List AVal} {h : Heap} {K : AEnd → Heap → Prop} (F : Nat) (hl : args.length ≤ 20) (a : AW ⟨Pg, F, 20, false, []⟩ ir (RetK rs K) (initT args) [] h) : ACalls Pg fn_drive_said args h K :=
  ACalls.of_comp follows Try.func55 comp hl a
theorem pure {args : List AVal} {v : AVal} (hl : args.length ≤ 20) (a : AW ⟨Pg, 0, 20, false, []⟩ ir (RetK rs fun e _ => e = .ret v) (initT args) [] nilH) : APure Pg fn_drive_said args v :=
  APure.of_nil (enter 0 hl a)
end drive_said

namespace drive_open
noncomputable def cfg : Cfg := { pure := pures, pcs := [], raw := [], cuts := [], draws := [(6, [⟨1, false, [], []⟩, ⟨0, false, [], []⟩, ⟨2, false, [], []⟩, ⟨3, false, [], []⟩, ⟨4, false, [], []⟩, ⟨6, false, [], []⟩, ⟨5, false, [], []⟩, ⟨7, false, [], []⟩, ⟨8, false, [], []⟩, ⟨9, false, [], []⟩, ⟨10, false, [], []⟩, ⟨11, false, [], []⟩, ⟨13, false, [], []⟩, ⟨12, false, [], []⟩, ⟨14, false, [], []⟩, ⟨15, false, [], []⟩, ⟨16, false, [], []⟩, ⟨17, false, [], []⟩, ⟨18, false, [], []⟩, ⟨20, false, [], []⟩, ⟨19, false, [], []⟩, ⟨21, false, [], []⟩, ⟨22, false, [], []⟩, ⟨23, false, [], []⟩, ⟨24, false, [], []⟩, ⟨25, false, [], []⟩, ⟨26, false, [], []⟩]), (7, [⟨0, false, [], []⟩, ⟨1, false, [], []⟩, ⟨3, false, [], []⟩, ⟨4, false, [], []⟩, ⟨6, false, [], []⟩, ⟨7, false, [], []⟩, ⟨9, false, [], []⟩, ⟨10, false, [], []⟩, ⟨13, false, [], []⟩, ⟨17, false, [], []⟩, ⟨18, false, [], []⟩, ⟨20, false, [], []⟩, ⟨21, false, [], []⟩, ⟨24, false, [], []⟩, ⟨28, false, [], []⟩, ⟨29, false, [], []⟩, ⟨32, false, [], []⟩, ⟨33, false, [], []⟩, ⟨2, false, [], []⟩, ⟨5, false, [], []⟩, ⟨8, false, [], []⟩, ⟨11, false, [], []⟩, ⟨12, false, [], []⟩, ⟨14, false, [], []⟩, ⟨19, false, [], []⟩, ⟨22, false, [], []⟩, ⟨23, false, [], []⟩, ⟨25, false, [], []⟩, ⟨15, true, [], []⟩, ⟨26, true, [], []⟩, ⟨16, false, [], [2, 5, 19, 23, 25]⟩, ⟨27, false, [], [2, 5]⟩, ⟨30, false, [], []⟩, ⟨31, false, [], [5]⟩, ⟨34, false, [], []⟩, ⟨35, false, [], []⟩])], keep := [] }
@[simp] noncomputable def r0 (_ : Unit) : List Stp := [S 2 (.box (.t 0)), S 4 (.mv (.c .nilp))]
@[simp] noncomputable def r1 (_ : Unit) : List Stp := [S 11 (.fAddr 0 (.t 2)), S 12 (.load false 1 (.t 11)), S 13 (.len (.t 12)), SP 14 (.call (.c (.func (.func fn_drive_within) [] [])) [(.t 13), (.c (.int .i64 1)), (.c (.int .i64 6))]), S 15 (.mv (.t 14)), SG 16 15 true (.fAddr 2 (.t 2)), SG 17 15 true (.load false 1 (.t 16)), SG 18 15 true (.len (.t 17)), SG 19 15 true (.fAddr 0 (.t 2)), SG 20 15 true (.load false 1 (.t 19)), SG 21 15 true (.len (.t 20)), SG 22 15 true (.bin .eql (.t 18) (.t 21)), S 23 (.pick (.t 15) (.t 22) (.c (.bool false))), S 24 (.call (.c (.func (.func fn_drive_want) [] [])) [(.t 23), (.c (.int .i64 1))])]
@[simp] noncomputable def r2 (_ : Unit) : List Stp := [S 25 (.load true 3 (.t 2)), S 26 (.build [.nils, .nils, .nils, .nils, .nils, .nils, .nils, .nils, .nils] [(0, 3, (.t 25))]), S 27 (.box (.t 26)), S 5 (.mv (.t 27))]
@[simp] noncomputable def r3 (_ : Unit) : List Stp := [S 28 (.fAddr 1 (.t 2)), S 29 (.load false 1 (.t 28)), S 30 (.len (.t 29)), S 31 (.mv (.c (.int .i64 0)))]
@[simp] noncomputable def r4 (_ : Unit) : List Stp := [S 32 (.bin .lss (.t 31) (.t 30))]
@[simp] noncomputable def r5 (_ : Unit) : List Stp := [S 33 (.mv (.t 31)), S 34 (.ixS 2 (.t 29) (.t 31)), S 35 (.load true 2 (.t 34)), S 7 (.alloc [(.int .i64 0), (.int .i64 0)]), S 6 (.mv (.t 33)), SN (.store 2 (.t 7) (.t 35))]
@[simp] noncomputable def r6 (_ : Unit) : List Stp := [S 37 (.ixA 2 1 (.t 7) (.c (.int .i64 0))), S 36 (.load true 3 (.t 2)), S 38 (.load false 1 (.t 37)), SP 39 (.call (.c (.func (.func fn_drive_isSeam) [] [])) [(.t 36), (.t 38)]), S 40 (.mv (.t 39)), SG 42 40 true (.ixA 2 1 (.t 7) (.c (.int .i64 1))), SG 41 40 true (.load true 3 (.t 2)), SG 43 40 true (.load false 1 (.t 42)), SGP 44 40 true (.call (.c (.func (.func fn_drive_isSeam) [] [])) [(.t 41), (.t 43)]), S 45 (.pick (.t 40) (.t 44) (.c (.bool false))), S 46 (.mv (.t 45)), SG 47 46 true (.ixA 2 1 (.t 7) (.c (.int .i64 0))), SG 49 46 true (.ixA 2 1 (.t 7) (.c (.int .i64 1))), SG 48 46 true (.load false 1 (.t 47)), SG 50 46 true (.load false 1 (.t 49)), SG 51 46 true (.bin .lss (.t 48) (.t 50)), S 52 (.pick (.t 46) (.t 51) (.c (.bool false))), S 53 (.mv (.t 52)), SG 54 53 true (.fAddr 1 (.t 2)), SG 56 53 true (.mv (.t 6)), SG 55 53 true (.load false 1 (.t 54)), SG 57 53 true (.slS 2 (.t 55) none (some (.t 56)) none), SG 58 53 true (.load true 2 (.t 7)), SGP 59 53 true (.call (.c (.func (.func fn_slices_Contains_2_int_2_int) [] [])) [(.t 57), (.t 58)]), SG 60 53 true (.un .not (.t 59)), S 61 (.pick (.t 53) (.t 60) (.c (.bool false))), S 62 (.call (.c (.func (.func fn_drive_want) [] [])) [(.t 61), (.c (.int .i64 1))])]
@[simp] noncomputable def r7 (_ : Unit) : List Stp := [S 63 (.mv (.t 5)), S 64 (.ixA 2 1 (.t 7) (.c (.int .i64 0))), S 66 (.mv (.t 5)), S 67 (.ixA 2 1 (.t 7) (.c (.int .i64 1))), S 69 (.mv (.t 5)), S 70 (.ixA 2 1 (.t 7) (.c (.int .i64 0))), S 72 (.nilck Pg (.t 69)), S 73 (.fAddr 3 (.t 72)), S 76 (.ixA 2 1 (.t 7) (.c (.int .i64 1))), S 80 (.mv (.t 5)), S 81 (.ixA 2 1 (.t 7) (.c (.int .i64 1))), S 83 (.nilck Pg (.t 80)), S 84 (.fAddr 3 (.t 83)), S 87 (.ixA 2 1 (.t 7) (.c (.int .i64 0))), S 91 (.nilck Pg (.t 63)), S 92 (.fAddr 3 (.t 91)), S 94 (.nilck Pg (.t 66)), S 95 (.fAddr 3 (.t 94)), S 65 (.load false 1 (.t 64)), S 68 (.load false 1 (.t 67)), S 71 (.load false 1 (.t 70)), S 74 (.ixA 6 1 (.t 73) (.t 71)), S 75 (.load false 1 (.t 74)), S 77 (.load false 1 (.t 76)), S 82 (.load false 1 (.t 81)), S 85 (.ixA 6 1 (.t 84) (.t 82)), S 86 (.load false 1 (.t 85)), S 88 (.load false 1 (.t 87)), SD (some 78) (.bsl 1 [(.int .i64 0)] [(0, 1, (.t 77))]) true [] [], SD (some 89) (.bsl 1 [(.int .i64 0)] [(0, 1, (.t 88))]) true [] [], SD (some 79) (.app 1 8 (.t 75) (.t 78)) false [] [I 65 (.load false 1 (.t 64)), I 68 (.load false 1 (.t 67)), I 82 (.load false 1 (.t 81)), I 86 (.load false 1 (.t 85)), I 88 (.load false 1 (.t 87))], SD (some 90) (.app 1 8 (.t 86) (.t 89)) false [] [I 65 (.load false 1 (.t 64)), I 68 (.load false 1 (.t 67))], S 93 (.ixA 6 1 (.t 92) (.t 65)), SD none (.store 1 (.t 93) (.t 79)) false [] [I 68 (.load false 1 (.t 67))], S 96 (.ixA 6 1 (.t 95) (.t 68)), SN (.store 1 (.t 96) (.t 90))]
@[simp] noncomputable def r8 (_ : Unit) : List Stp := [S 97 (.bin .add (.t 31) (.c (.int .i64 1))), S 31 (.mv (.t 97))]
@[simp] noncomputable def r9 (_ : Unit) : List Stp := [S 98 (.fAddr 0 (.t 2)), S 99 (.load false 1 (.t 98)), S 100 (.len (.t 99)), S 101 (.mv (.c (.int .i64 0)))]
@[simp] noncomputable def r10 (_ : Unit) : List Stp := [S 102 (.bin .lss (.t 101) (.t 100))]
@[simp] noncomputable def r11 (_ : Unit) : List Stp := [S 103 (.mv (.t 101)), S 104 (.ixS 1 (.t 99) (.t 101)), S 105 (.load false 1 (.t 104)), S 8 (.mv (.t 103)), S 9 (.mv (.t 105))]
@[simp] noncomputable def r12 (_ : Unit) : List Stp := [S 106 (.fAddr 2 (.t 2)), S 107 (.load false 1 (.t 106)), S 108 (.mv (.t 8)), S 109 (.ixS 2 (.t 107) (.t 108)), S 110 (.load true 2 (.t 109)), S 10 (.alloc [(.int .i64 0), (.int .i64 0)]), SN (.store 2 (.t 10) (.t 110))]
@[simp] noncomputable def r13 (_ : Unit) : List Stp := [S 111 (.mv (.t 9)), S 112 (.mv (.t 5)), S 113 (.mv (.t 8)), S 114 (.nilck Pg (.t 112)), S 115 (.fAddr 3 (.t 114)), S 116 (.ixA 6 1 (.t 115) (.t 113)), S 117 (.load false 1 (.t 116)), S 118 (.len (.t 117)), S 119 (.bin .add (.t 118) (.c (.int .i64 1))), SP 120 (.call (.c (.func (.func fn_drive_within) [] [])) [(.t 111), (.t 119), (.c (.int .i64 6))]), S 121 (.mv (.t 120)), SG 122 121 true (.fAddr 0 (.t 10)), SG 123 121 true (.load false 1 (.t 122)), SG 124 121 true (.bin .leq (.c (.int .i64 0)) (.t 123)), S 125 (.pick (.t 121) (.t 124) (.c (.bool false))), S 126 (.mv (.t 125)), SG 127 126 true (.fAddr 0 (.t 10)), SG 128 126 true (.load false 1 (.t 127)), SG 129 126 true (.fAddr 1 (.t 10)), SG 130 126 true (.load false 1 (.t 129)), SG 131 126 true (.bin .leq (.t 128) (.t 130)), S 132 (.pick (.t 126) (.t 131) (.c (.bool false))), S 133 (.mv (.t 132)), SG 134 133 true (.fAddr 1 (.t 10)), SG 135 133 true (.load false 1 (.t 134)), SG 136 133 true (.bin .leq (.t 135) (.c (.int .i64 12))), S 137 (.pick (.t 133) (.t 136) (.c (.bool false))), S 138 (.mv (.t 137)), SG 139 138 true (.fAddr 1 (.t 10)), SG 140 138 true (.load false 1 (.t 139)), SG 141 138 true (.fAddr 0 (.t 10)), SG 142 138 true (.load false 1 (.t 141)), SG 143 138 true (.bin .sub (.t 140) (.t 142)), SG 144 138 true (.bin .leq (.t 143) (.c (.int .i64 2))), S 145 (.pick (.t 138) (.t 144) (.c (.bool false))), S 146 (.call (.c (.func (.func fn_drive_want) [] [])) [(.t 145), (.c (.int .i64 1))])]
@[simp] noncomputable def r14 (_ : Unit) : List Stp := [S 147 (.bin .add (.t 101) (.c (.int .i64 1))), S 101 (.mv (.t 147))]
@[simp] noncomputable def r15 (_ : Unit) : List Stp := [S 148 (.mv (.t 1)), S 149 (.call (.c (.func (.func fn_drive_want) [] [])) [(.t 148), (.c (.int .i64 2))])]
@[simp] noncomputable def r16 (_ : Unit) : List Stp := [S 150 (.mv (.t 5)), S 4 (.mv (.t 150))]
@[simp] noncomputable def ir : IR := (.seq (.ops r0) (.seq (.ops r1) (.seq (.ops r2) (.seq (.seq (.ops r3) (.block 0 (.loop (.seq (.ops r4) (.seq (.cond (.t 32) .skip (.exit 0)) (.seq (.block 1 (.seq (.ops r5) (.seq (.ops r6) (.ops r7)))) (.ops r8))))))) (.seq (.seq (.ops r9) (.block 2 (.loop (.seq (.ops r10) (.seq (.cond (.t 102) .skip (.exit 2)) (.seq (.block 3 (.seq (.ops r11) (.seq (.ops r12) (.ops r13)))) (.ops r14))))))) (.seq (.ops r15) (.seq (.ops r16) .ret)))))))
@[simp] noncomputable def rs : List RV := [.tmp 4]
theorem comp : compF Pg cfg Try.f56 = some (ir, rs, 151) := by kernel_rfl
theorem enter {args : List AVal} {h : Heap} {K : AEnd → Heap → Prop} (F : Nat) (hl : args.length ≤ 151) (a : AW ⟨Pg, F, 151, false, []⟩ ir (RetK rs K) (initT args) [] h) : ACalls Pg fn_drive_open args h K :=
  ACalls.of_comp follows Try.func56 comp hl a
theorem pure {args : List AVal} {v : AVal} (hl : args.length ≤ 151) (a : AW ⟨Pg, 0, 151, false, []⟩ ir (RetK rs fun e _ => e = .ret v) (initT args) [] nilH) : APure Pg fn_drive_open args v :=
  APure.of_nil (enter 0 hl a)
end drive_open

namespace drive_isSeam
noncomputable def cfg : Cfg := { pure := pures, pcs := [], raw := [], cuts := [], draws := [], keep := [] }
@[simp] noncomputable def r0 (_ : Unit) : List Stp := [S 2 (.box (.t 0)), S 4 (.mv (.c (.bool false)))]
@[simp] noncomputable def r1 (_ : Unit) : List Stp := [S 5 (.mv (.t 1)), S 6 (.fAddr 0 (.t 2)), S 7 (.load false 1 (.t 6)), S 8 (.len (.t 7)), S 9 (.bin .sub (.t 8) (.c (.int .i64 1))), SP 10 (.call (.c (.func (.func fn_drive_within) [] [])) [(.t 5), (.c (.int .i64 0)), (.t 9)]), S 4 (.mv (.t 10))]
@[simp] noncomputable def ir : IR := (.seq (.ops r0) (.seq (.ops r1) .ret))
@[simp] noncomputable def rs : List RV := [.tmp 4]
theorem comp : compF Pg cfg Try.f57 = some (ir, rs, 11) := by kernel_rfl
theorem enter {args : List AVal} {h : Heap} {K : AEnd → Heap → Prop} (F : Nat) (hl : args.length ≤ 11) (a : AW ⟨Pg, F, 11, false, []⟩ ir (RetK rs K) (initT args) [] h) : ACalls Pg fn_drive_isSeam args h K :=
  ACalls.of_comp follows Try.func57 comp hl a
theorem pure {args : List AVal} {v : AVal} (hl : args.length ≤ 11) (a : AW ⟨Pg, 0, 11, false, []⟩ ir (RetK rs fun e _ => e = .ret v) (initT args) [] nilH) : APure Pg fn_drive_isSeam args v :=
  APure.of_nil (enter 0 hl a)
end drive_isSeam

namespace drive_hull_times
noncomputable def cfg : Cfg := { pure := pures, pcs := [], raw := [], cuts := [], draws := [(2, [⟨1, false, [], []⟩, ⟨2, false, [], []⟩, ⟨6, false, [], []⟩, ⟨0, false, [], []⟩, ⟨5, false, [], []⟩, ⟨3, false, [], [5]⟩, ⟨4, false, [], []⟩, ⟨7, false, [], []⟩, ⟨8, false, [], []⟩, ⟨9, false, [], []⟩, ⟨10, false, [], []⟩, ⟨11, false, [], []⟩])], keep := [] }
@[simp] noncomputable def r0 (_ : Unit) : List Stp := [S 2 (.alloc [(.int .i64 0), (.int .i64 0), (.int .i64 0), (.int .i64 0), (.int .i64 0), (.int .i64 0)]), S 3 (.alloc [(.int .i64 0), (.int .i64 0), (.int .i64 0), (.int .i64 0), (.int .i64 0), (.int .i64 0)])]
@[simp] noncomputable def r1 (_ : Unit) : List Stp := [S 5 (.mv (.t 0)), S 6 (.call (.c (.func (.func fn_drive_hull_settler) [] [])) [(.t 5)]), S 4 (.alloc [.nilp, .nilm]), SN (.store 2 (.t 4) (.t 6))]
@[simp] noncomputable def r2 (_ : Unit) : List Stp := [S 8 (.mv (.t 0)), SP 9 (.call (.c (.func (.func fn_drive_hull_ends) [] [])) [(.t 8), (.c (.bool false))]), S 13 (.mv (.t 0)), S 7 (.load true 2 (.t 4)), S 12 (.load true 2 (.t 4)), SD (some 10) (.call (.c (.func (.func fn_drive_settler_rest) [] [])) [(.t 7), (.t 9)]) false [] [I 12 (.load true 2 (.t 4))], S 11 (.fld true 6 6 (.t 10)), SP 14 (.call (.c (.func (.func fn_drive_hull_ends) [] [])) [(.t 13), (.c (.bool true))]), S 15 (.call (.c (.func (.func fn_drive_settler_rest) [] [])) [(.t 12), (.t 14)]), S 16 (.fld true 6 6 (.t 15)), SN (.store 6 (.t 2) (.t 11)), SN (.store 6 (.t 3) (.t 16))]
@[simp] noncomputable def ir : IR := (.seq (.ops r0) (.seq (.ops r1) (.seq (.ops r2) .ret)))
@[simp] noncomputable def rs : List RV := [.cell 2 true 6, .cell 3 true 6]
theorem comp : compF Pg cfg Try.f58 = some (ir, rs, 17) := by kernel_rfl
theorem enter {args : List AVal} {h : Heap} {K : AEnd → Heap → Prop} (F : Nat) (hl : args.length ≤ 17) (a : AW ⟨Pg, F, 17, false, []⟩ ir (RetK rs K) (initT args) [] h) : ACalls Pg fn_drive_hull_times args h K :=
  ACalls.of_comp follows Try.func58 comp hl a
theorem pure {args : List AVal} {v : AVal} (hl : args.length ≤ 17) (a : AW ⟨Pg, 0, 17, false, []⟩ ir (RetK rs fun e _ => e = .ret v) (initT args) [] nilH) : APure Pg fn_drive_hull_times args v :=
  APure.of_nil (enter 0 hl a)
end drive_hull_times

namespace rap_set_with
noncomputable def cfg : Cfg := { pure := pures, pcs := [], raw := [], cuts := [], draws := [], keep := [] }
@[simp] noncomputable def r0 (_ : Unit) : List Stp := [S 4 (.mv (.c (.int .u64 0)))]
@[simp] noncomputable def r1 (_ : Unit) : List Stp := [S 5 (.mv (.t 0)), S 6 (.mv (.t 1)), S 7 (.bin .or (.t 5) (.t 6)), S 4 (.mv (.t 7))]
@[simp] noncomputable def ir : IR := (.seq (.ops r0) (.seq (.ops r1) .ret))
@[simp] noncomputable def rs : List RV := [.tmp 4]
theorem comp : compF Pg cfg Try.f59 = some (ir, rs, 8) := by kernel_rfl
theorem enter {args : List AVal} {h : Heap} {K : AEnd → Heap → Prop} (F : Nat) (hl : args.length ≤ 8) (a : AW ⟨Pg, F, 8, false, []⟩ ir (RetK rs K) (initT args) [] h) : ACalls Pg fn_rap_set_with args h K :=
  ACalls.of_comp follows Try.func59 comp hl a
theorem pure {args : List AVal} {v : AVal} (hl : args.length ≤ 8) (a : AW ⟨Pg, 0, 8, false, []⟩ ir (RetK rs fun e _ => e = .ret v) (initT args) [] nilH) : APure Pg fn_rap_set_with args v :=
  APure.of_nil (enter 0 hl a)
end rap_set_with

namespace rap_hull_blows_1
noncomputable def cfg : Cfg := { pure := pures, pcs := [], raw := [], cuts := [], draws := [], keep := [] }
@[simp] noncomputable def r0 (_ : Unit) : List Stp := [S 2 (.box (.t 0))]
@[simp] noncomputable def r1 (_ : Unit) : List Stp := [S 3 (.alloc [.nilf])]
@[simp] noncomputable def r2 (_ : Unit) : List Stp := [S 4 (.mkF (.func fn_rap_hull_blows_1_1) [] [(.t 1), (.t 2), (.t 3)]), SN (.store 1 (.t 3) (.t 4))]
@[simp] noncomputable def r3 (_ : Unit) : List Stp := [S 5 (.load false 1 (.t 3)), S 6 (.call (.t 5) [(.c .nils)])]
@[simp] noncomputable def ir : IR := (.seq (.ops r0) (.seq (.ops r1) (.seq (.ops r2) (.ops r3))))
@[simp] noncomputable def rs : List RV := []
theorem comp : compF Pg cfg Try.f60 = some (ir, rs, 7) := by kernel_rfl
theorem enter {args : List AVal} {h : Heap} {K : AEnd → Heap → Prop} (F : Nat) (hl : args.length ≤ 7) (a : AW ⟨Pg, F, 7, false, []⟩ ir (RetK rs K) (initT args) [] h) : ACalls Pg fn_rap_hull_blows_1 args h K :=
  ACalls.of_comp follows Try.func60 comp hl a
theorem pure {args : List AVal} {v : AVal} (hl : args.length ≤ 7) (a : AW ⟨Pg, 0, 7, false, []⟩ ir (RetK rs fun e _ => e = .ret v) (initT args) [] nilH) : APure Pg fn_rap_hull_blows_1 args v :=
  APure.of_nil (enter 0 hl a)
end rap_hull_blows_1

namespace rap_hull_blows_1_1
noncomputable def cfg : Cfg := { pure := pures, pcs := [], raw := [], cuts := [], draws := [(7, [⟨1, false, [], []⟩, ⟨3, false, [], []⟩, ⟨0, false, [], []⟩, ⟨2, false, [4], [0]⟩, ⟨4, true, [], []⟩, ⟨5, false, [], [0]⟩, ⟨6, false, [], []⟩, ⟨7, false, [], []⟩])], keep := [] }
@[simp] noncomputable def r0 (_ : Unit) : List Stp := [S 5 (.mv (.c (.bool false)))]
@[simp] noncomputable def r1 (_ : Unit) : List Stp := [S 8 (.mv (.t 0)), S 9 (.len (.t 8)), S 10 (.load false 1 (.t 1)), SP 11 (.call (.c (.func (.func fn_rap_hull_seams) [] [])) [(.t 10)]), S 12 (.bin .eql (.t 9) (.t 11))]
@[simp] noncomputable def r2 (_ : Unit) : List Stp := [S 13 (.load false 1 (.t 2)), S 14 (.mv (.t 0)), S 15 (.call (.t 13) [(.t 14)]), S 5 (.mv (.t 15))]
@[simp] noncomputable def r3 (_ : Unit) : List Stp := [S 16 (.load false 1 (.t 1)), S 17 (.nilck Pg (.t 16)), S 18 (.fAddr 0 (.t 17)), S 19 (.fAddr 0 (.t 18)), S 20 (.fAddr 2 (.t 19)), S 21 (.load false 1 (.t 20)), S 22 (.mv (.t 0)), S 23 (.len (.t 22)), S 24 (.ixS 2 (.t 21) (.t 23)), S 25 (.load true 2 (.t 24)), S 6 (.alloc [(.int .i64 0), (.int .i64 0)]), SN (.store 2 (.t 6) (.t 25))]
@[simp] noncomputable def r4 (_ : Unit) : List Stp := [S 26 (.fAddr 0 (.t 6)), S 27 (.load false 1 (.t 26)), S 7 (.mv (.t 27))]
@[simp] noncomputable def r5 (_ : Unit) : List Stp := [S 28 (.mv (.t 7)), S 29 (.fAddr 1 (.t 6)), S 30 (.load false 1 (.t 29)), S 31 (.bin .leq (.t 28) (.t 30))]
@[simp] noncomputable def r7 (_ : Unit) : List Stp := [S 35 (.mv (.t 0)), S 37 (.mv (.t 7)), S 34 (.load false 1 (.t 3)), SD (some 36) (.call (.c (.func (.func fn_slices_Clone_int_int) [] [])) [(.t 35)]) false [I 38 (.bsl 1 [(.int .i64 0)] [(0, 1, (.t 37))])] [I 34 (.load false 1 (.t 3))], SD (some 38) (.bsl 1 [(.int .i64 0)] [(0, 1, (.t 37))]) true [] [], SD (some 39) (.app 1 8 (.t 36) (.t 38)) false [] [I 34 (.load false 1 (.t 3))], S 40 (.call (.t 34) [(.t 39)]), S 41 (.un .not (.t 40))]
@[simp] noncomputable def r8 (_ : Unit) : List Stp := [S 5 (.mv (.c (.bool false)))]
@[simp] noncomputable def r6 (_ : Unit) : List Stp := [S 32 (.mv (.t 7)), S 33 (.bin .add (.t 32) (.c (.int .i64 1))), S 7 (.mv (.t 33))]
@[simp] noncomputable def r9 (_ : Unit) : List Stp := [S 5 (.mv (.c (.bool true)))]
@[simp] noncomputable def ir : IR := (.seq (.ops r0) (.seq (.seq (.ops r1) (.cond (.t 12) (.seq (.ops r2) .ret) .skip)) (.seq (.ops r3) (.seq (.seq (.ops r4) (.block 0 (.loop (.seq (.seq (.ops r5) (.cond (.t 31) .skip (.exit 0))) (.seq (.block 1 (.seq (.ops r7) (.cond (.t 41) (.seq (.ops r8) .ret) .skip))) (.ops r6)))))) (.seq (.ops r9) .ret)))))
@[simp] noncomputable def rs : List RV := [.tmp 5]
theorem comp : compF Pg cfg Try.f61 = some (ir, rs, 42) := by kernel_rfl
theorem enter {args : List AVal} {h : Heap} {K : AEnd → Heap → Prop} (F : Nat) (hl : args.length ≤ 42) (a : AW ⟨Pg, F, 42, false, []⟩ ir (RetK rs K) (initT args) [] h) : ACalls Pg fn_rap_hull_blows_1_1 args h K :=
  ACalls.of_comp follows Try.func61 comp hl a
theorem pure {args : List AVal} {v : AVal} (hl : args.length ≤ 42) (a : AW ⟨Pg, 0, 42, false, []⟩ ir (RetK rs fun e _ => e = .ret v) (initT args) [] nilH) : APure Pg fn_rap_hull_blows_1_1 args v :=
  APure.of_nil (enter 0 hl a)
end rap_hull_blows_1_1

namespace slices_Clone_int_int
noncomputable def cfg : Cfg := { pure := pures, pcs := [], raw := [], cuts := [], draws := [], keep := [] }
@[simp] noncomputable def r0 (_ : Unit) : List Stp := [S 2 (.mv (.c .nils))]
@[simp] noncomputable def r1 (_ : Unit) : List Stp := [S 3 (.mv (.t 0)), S 4 (.eqN .s false (.t 3))]
@[simp] noncomputable def r2 (_ : Unit) : List Stp := [S 2 (.mv (.c .nils))]
@[simp] noncomputable def r3 (_ : Unit) : List Stp := [S 5 (.bsl 0 [] []), S 6 (.mv (.t 0)), S 7 (.app 1 8 (.t 5) (.t 6)), S 2 (.mv (.t 7))]
@[simp] noncomputable def ir : IR := (.seq (.ops r0) (.seq (.seq (.ops r1) (.cond (.t 4) (.seq (.ops r2) .ret) .skip)) (.seq (.ops r3) .ret)))
@[simp] noncomputable def rs : List RV := [.tmp 2]
theorem comp : compF Pg cfg Try.f62 = some (ir, rs, 8) := by kernel_rfl
theorem enter {args : List AVal} {h : Heap} {K : AEnd → Heap → Prop} (F : Nat) (hl : args.length ≤ 8) (a : AW ⟨Pg, F, 8, false, []⟩ ir (RetK rs K) (initT args) [] h) : ACalls Pg fn_slices_Clone_int_int args h K :=
  ACalls.of_comp follows Try.func62 comp hl a
theorem pure {args : List AVal} {v : AVal} (hl : args.length ≤ 8) (a : AW ⟨Pg, 0, 8, false, []⟩ ir (RetK rs fun e _ => e = .ret v) (initT args) [] nilH) : APure Pg fn_slices_Clone_int_int args v :=
  APure.of_nil (enter 0 hl a)
end slices_Clone_int_int

namespace drive_Settle_1
noncomputable def cfg : Cfg := { pure := pures, pcs := [], raw := [], cuts := [], draws := [], keep := [] }
@[simp] noncomputable def r0 (_ : Unit) : List Stp := [S 1 (.recov), S 2 (.call (.c (.func (.func fn_drive_said) [] [])) [(.t 1), (.t 0)])]
@[simp] noncomputable def ir : IR := (.ops r0)
@[simp] noncomputable def rs : List RV := []
theorem comp : compF Pg cfg Try.f63 = some (ir, rs, 3) := by kernel_rfl
theorem enter {args : List AVal} {h : Heap} {K : AEnd → Heap → Prop} (F : Nat) (hl : args.length ≤ 3) (a : AW ⟨Pg, F, 3, false, []⟩ ir (RetK rs K) (initT args) [] h) : ACalls Pg fn_drive_Settle_1 args h K :=
  ACalls.of_comp follows Try.func63 comp hl a
theorem pure {args : List AVal} {v : AVal} (hl : args.length ≤ 3) (a : AW ⟨Pg, 0, 3, false, []⟩ ir (RetK rs fun e _ => e = .ret v) (initT args) [] nilH) : APure Pg fn_drive_Settle_1 args v :=
  APure.of_nil (enter 0 hl a)
theorem recClo : RecClo Pg fn_drive_Settle_1 fn_drive_said := ⟨_, Try.func63, by kernel_rfl⟩
end drive_Settle_1

namespace drive_areBlows
noncomputable def cfg : Cfg := { pure := pures, pcs := [], raw := [], cuts := [], draws := [], keep := [] }
@[simp] noncomputable def r0 (_ : Unit) : List Stp := [S 2 (.box (.t 0)), S 4 (.mv (.c (.bool false)))]
@[simp] noncomputable def r1 (_ : Unit) : List Stp := [S 5 (.mv (.c (.func (.func fn_drive_areBlows_1) [] [])))]
@[simp] noncomputable def r2 (_ : Unit) : List Stp := [S 6 (.mv (.t 1)), S 7 (.len (.t 6)), S 8 (.fAddr 0 (.t 2)), S 9 (.load false 1 (.t 8)), S 10 (.len (.t 9)), S 11 (.bin .eql (.t 7) (.t 10)), S 12 (.mv (.t 11)), SG 13 12 true (.mv (.t 1)), SG 14 12 true (.mv (.t 5)), SGP 15 12 true (.call (.c (.func (.func fn_slices_ContainsFunc_int_int) [] [])) [(.t 13), (.t 14)]), SG 16 12 true (.un .not (.t 15)), S 17 (.pick (.t 12) (.t 16) (.c (.bool false))), S 4 (.mv (.t 17))]
@[simp] noncomputable def ir : IR := (.seq (.ops r0) (.seq (.ops r1) (.seq (.ops r2) .ret)))
@[simp] noncomputable def rs : List RV := [.tmp 4]
theorem comp : compF Pg cfg Try.f64 = some (ir, rs, 18) := by kernel_rfl
theorem enter {args : List AVal} {h : Heap} {K : AEnd → Heap → Prop} (F : Nat) (hl : args.length ≤ 18) (a : AW ⟨Pg, F, 18, false, []⟩ ir (RetK rs K) (initT args) [] h) : ACalls Pg fn_drive_areBlows args h K :=
  ACalls.of_comp follows Try.func64 comp hl a
theorem pure {args : List AVal} {v : AVal} (hl : args.length ≤ 18) (a : AW ⟨Pg, 0, 18, false, []⟩ ir (RetK rs fun e _ => e = .ret v) (initT args) [] nilH) : APure Pg fn_drive_areBlows args v :=
  APure.of_nil (enter 0 hl a)
end drive_areBlows

namespace drive_hull_settler
noncomputable def cfg : Cfg := { pure := pures, pcs := [], raw := [], cuts := [], draws := [], keep := [] }
@[simp] noncomputable def r0 (_ : Unit) : List Stp := [S 2 (.alloc [.nilp, .nilm])]
@[simp] noncomputable def r1 (_ : Unit) : List Stp := [S 3 (.mv (.t 0)), S 4 (.mkmap), S 5 (.build [.nilp, .nilm] [(0, 1, (.t 3)), (1, 1, (.t 4))]), SN (.store 2 (.t 2) (.t 5))]
@[simp] noncomputable def ir : IR := (.seq (.ops r0) (.seq (.ops r1) .ret))
@[simp] noncomputable def rs : List RV := [.cell 2 true 2]
theorem comp : compF Pg cfg Try.f65 = some (ir, rs, 6) := by kernel_rfl
theorem enter {args : List AVal} {h : Heap} {K : AEnd → Heap → Prop} (F : Nat) (hl : args.length ≤ 6) (a : AW ⟨Pg, F, 6, false, []⟩ ir (RetK rs K) (initT args) [] h) : ACalls Pg fn_drive_hull_settler args h K :=
  ACalls.of_comp follows Try.func65 comp hl a
theorem pure {args : List AVal} {v : AVal} (hl : args.length ≤ 6) (a : AW ⟨Pg, 0, 6, false, []⟩ ir (RetK rs fun e _ => e = .ret v) (initT args) [] nilH) : APure Pg fn_drive_hull_settler args v :=
  APure.of_nil (enter 0 hl a)
end drive_hull_settler

namespace drive_settler_rest
noncomputable def cfg : Cfg := { pure := pures, pcs := [], raw := [], cuts := [], draws := [(11, [⟨0, false, [], []⟩, ⟨1, false, [], []⟩, ⟨2, false, [], []⟩, ⟨4, false, [], []⟩, ⟨10, false, [], []⟩, ⟨3, false, [], []⟩, ⟨5, false, [], []⟩, ⟨6, false, [], []⟩, ⟨7, false, [], []⟩, ⟨8, false, [], []⟩, ⟨9, false, [], []⟩, ⟨11, false, [], []⟩, ⟨12, false, [], []⟩, ⟨13, false, [], []⟩, ⟨14, false, [], []⟩]), (13, [⟨0, false, [], []⟩, ⟨2, false, [], []⟩, ⟨4, false, [], []⟩, ⟨5, false, [], []⟩, ⟨7, false, [], []⟩, ⟨9, false, [], []⟩, ⟨10, false, [], []⟩, ⟨1, false, [], []⟩, ⟨3, false, [], []⟩, ⟨6, false, [], []⟩, ⟨8, false, [], []⟩, ⟨11, false, [], []⟩, ⟨12, false, [], []⟩, ⟨13, false, [], []⟩, ⟨14, false, [], []⟩, ⟨15, false, [], []⟩, ⟨16, false, [], []⟩])], keep := [] }
@[simp] noncomputable def r0 (_ : Unit) : List Stp := [S 2 (.box (.t 0)), S 3 (.box (.t 1)), S 4 (.alloc [(.int .i64 0), (.int .i64 0), (.int .i64 0), (.int .i64 0), (.int .i64 0), (.int .i64 0), (.int .i64 0), (.int .i64 0), (.int .i64 0), (.int .i64 0), (.int .i64 0), (.int .i64 0)])]
@[simp] noncomputable def r1 (_ : Unit) : List Stp := [S 12 (.fAddr 1 (.t 2)), S 13 (.load false 1 (.t 12)), S 14 (.load true 6 (.t 3)), S 15 (.build [(.int .i64 0), (.int .i64 0), (.int .i64 0), (.int .i64 0), (.int .i64 0), (.int .i64 0)] [(0, 6, (.t 14))]), S 16 (.lookup (true, [.i, .i, .i, .i, .i, .i]) true (.agg [(.int .i64 0), (.int .i64 0), (.int .i64 0), (.int .i64 0), (.int .i64 0), (.int .i64 0), (.int .i64 0), (.int .i64 0), (.int .i64 0), (.int .i64 0), (.int .i64 0), (.int .i64 0)]) (.t 13) (.t 15)), S 11 (.mv (.t 16)), S 17 (.ext (.t 11) 0), S 18 (.ext (.t 11) 1), S 5 (.alloc [(.int .i64 0), (.int .i64 0), (.int .i64 0), (.int .i64 0), (.int .i64 0), (.int .i64 0), (.int .i64 0), (.int .i64 0), (.int .i64 0), (.int .i64 0), (.int .i64 0), (.int .i64 0)]), SN (.store 12 (.t 5) (.t 17)), S 6 (.mv (.t 18))]
@[simp] noncomputable def r2 (_ : Unit) : List Stp := [S 19 (.mv (.t 6))]
@[simp] noncomputable def r3 (_ : Unit) : List Stp := [S 20 (.load true 12 (.t 5)), SN (.store 12 (.t 4) (.t 20))]
@[simp] noncomputable def r4 (_ : Unit) : List Stp := [S 21 (.load true 6 (.t 3)), S 22 (.build [(.int .i64 0), (.int .i64 0), (.int .i64 0), (.int .i64 0), (.int .i64 0), (.int .i64 0), (.int .i64 0), (.int .i64 0), (.int .i64 0), (.int .i64 0), (.int .i64 0), (.int .i64 0)] [(0, 6, (.t 21))]), S 7 (.alloc [(.int .i64 0), (.int .i64 0), (.int .i64 0), (.int .i64 0), (.int .i64 0), (.int .i64 0), (.int .i64 0), (.int .i64 0), (.int .i64 0), (.int .i64 0), (.int .i64 0), (.int .i64 0)]), SN (.store 12 (.t 7) (.t 22))]
@[simp] noncomputable def r5 (_ : Unit) : List Stp := [S 8 (.mv (.c (.bool true)))]
@[simp] noncomputable def r6 (_ : Unit) : List Stp := [S 23 (.mv (.t 8))]
@[simp] noncomputable def r7 (_ : Unit) : List Stp := [S 8 (.mv (.c (.bool false)))]
@[simp] noncomputable def r8 (_ : Unit) : List Stp := [S 24 (.fAddr 0 (.t 2)), S 25 (.load false 1 (.t 24)), SP 26 (.call (.c (.func (.func fn_drive_hull_seams) [] [])) [(.t 25)]), S 27 (.mv (.c (.int .i64 0)))]
@[simp] noncomputable def r9 (_ : Unit) : List Stp := [S 28 (.bin .lss (.t 27) (.t 26))]
@[simp] noncomputable def r10 (_ : Unit) : List Stp := [S 29 (.mv (.t 27)), S 9 (.mv (.t 29))]
@[simp] noncomputable def r11 (_ : Unit) : List Stp := [S 30 (.mv (.t 9)), S 31 (.fAddr 0 (.t 7)), S 32 (.ixA 6 1 (.t 31) (.t 30)), S 34 (.fAddr 0 (.t 2)), S 40 (.mv (.t 9)), S 33 (.load false 1 (.t 32)), S 35 (.load false 1 (.t 34)), S 36 (.nilck Pg (.t 35)), S 37 (.fAddr 0 (.t 36)), S 38 (.fAddr 0 (.t 37)), S 39 (.load false 1 (.t 38)), S 41 (.ixS 1 (.t 39) (.t 40)), S 42 (.load false 1 (.t 41)), S 43 (.bin .quo (.t 33) (.t 42)), S 10 (.mv (.t 43))]
@[simp] noncomputable def r12 (_ : Unit) : List Stp := [S 44 (.mv (.t 10)), S 45 (.bin .gtr (.t 44) (.c (.int .i64 0)))]
@[simp] noncomputable def r13 (_ : Unit) : List Stp := [S 46 (.fAddr 0 (.t 2)), S 48 (.fAddr 0 (.t 7)), S 50 (.mv (.t 9)), S 51 (.mv (.t 10)), S 53 (.fAddr 6 (.t 7)), S 55 (.mv (.t 9)), S 56 (.mv (.t 10)), S 47 (.load false 1 (.t 46)), S 49 (.load true 6 (.t 48)), SP 52 (.call (.c (.func (.func fn_drive_hull_opened) [] [])) [(.t 47), (.t 49), (.t 50), (.t 51)]), S 54 (.load true 6 (.t 53)), SP 57 (.call (.c (.func (.func fn_drive_blows_with) [] [])) [(.t 54), (.t 55), (.t 56)]), S 58 (.fAddr 0 (.t 7)), SN (.store 6 (.t 58) (.t 52)), S 59 (.fAddr 6 (.t 7)), SN (.store 6 (.t 59) (.t 57)), S 8 (.mv (.c (.bool true)))]
@[simp] noncomputable def r14 (_ : Unit) : List Stp := [S 60 (.bin .add (.t 27) (.c (.int .i64 1))), S 27 (.mv (.t 60))]
@[simp] noncomputable def r15 (_ : Unit) : List Stp := [S 61 (.fAddr 1 (.t 2)), S 62 (.load false 1 (.t 61)), S 63 (.load true 6 (.t 3)), S 64 (.build [(.int .i64 0), (.int .i64 0), (.int .i64 0), (.int .i64 0), (.int .i64 0), (.int .i64 0)] [(0, 6, (.t 63))]), S 65 (.load true 12 (.t 7)), SN (.mapU (true, [.i, .i, .i, .i, .i, .i]) (.t 62) (.t 64) (.t 65))]
@[simp] noncomputable def r16 (_ : Unit) : List Stp := [S 66 (.load true 12 (.t 7)), SN (.store 12 (.t 4) (.t 66))]
@[simp] noncomputable def ir : IR := (.seq (.ops r0) (.seq (.seq (.ops r1) (.seq (.ops r2) (.cond (.t 19) (.seq (.ops r3) .ret) .skip))) (.seq (.ops r4) (.seq (.seq (.ops r5) (.block 0 (.loop (.seq (.seq (.ops r6) (.cond (.t 23) .skip (.exit 0))) (.block 1 (.seq (.ops r7) (.seq (.ops r8) (.block 2 (.loop (.seq (.ops r9) (.seq (.cond (.t 28) .skip (.exit 2)) (.seq (.block 3 (.seq (.ops r10) (.seq (.ops r11) (.seq (.ops r12) (.cond (.t 45) (.ops r13) .skip))))) (.ops r14))))))))))))) (.seq (.ops r15) (.seq (.ops r16) .ret))))))
@[simp] noncomputable def rs : List RV := [.cell 4 true 12]
theorem comp : compF Pg cfg Try.f66 = some (ir, rs, 67) := by kernel_rfl
theorem enter {args : List AVal} {h : Heap} {K : AEnd → Heap → Prop} (F : Nat) (hl : args.length ≤ 67) (a : AW ⟨Pg, F, 67, false, []⟩ ir (RetK rs K) (initT args) [] h) : ACalls Pg fn_drive_settler_rest args h K :=
  ACalls.of_comp follows Try.func66 comp hl a
theorem pure {args : List AVal} {v : AVal} (hl : args.length ≤ 67) (a : AW ⟨Pg, 0, 67, false, []⟩ ir (RetK rs fun e _ => e = .ret v) (initT args) [] nilH) : APure Pg fn_drive_settler_rest args v :=
  APure.of_nil (enter 0 hl a)
end drive_settler_rest

namespace drive_blowsOf
noncomputable def cfg : Cfg := { pure := pures, pcs := [], raw := [], cuts := [], draws := [], keep := [] }
@[simp] noncomputable def r0 (_ : Unit) : List Stp := [S 2 (.alloc [(.int .i64 0), (.int .i64 0), (.int .i64 0), (.int .i64 0), (.int .i64 0), (.int .i64 0)])]
@[simp] noncomputable def r1 (_ : Unit) : List Stp := [S 3 (.slA 6 1 (.t 2) none none none), S 4 (.mv (.t 0)), S 5 (.copy 1 (.t 3) (.t 4))]
@[simp] noncomputable def r2 (_ : Unit) : List Stp := [S 6 (.load true 6 (.t 2)), SN (.store 6 (.t 2) (.t 6))]
@[simp] noncomputable def ir : IR := (.seq (.ops r0) (.seq (.ops r1) (.seq (.ops r2) .ret)))
@[simp] noncomputable def rs : List RV := [.cell 2 true 6]
theorem comp : compF Pg cfg Try.f67 = some (ir, rs, 7) := by kernel_rfl
theorem enter {args : List AVal} {h : Heap} {K : AEnd → Heap → Prop} (F : Nat) (hl : args.length ≤ 7) (a : AW ⟨Pg, F, 7, false, []⟩ ir (RetK rs K) (initT args) [] h) : ACalls Pg fn_drive_blowsOf args h K :=
  ACalls.of_comp follows Try.func67 comp hl a
theorem pure {args : List AVal} {v : AVal} (hl : args.length ≤ 7) (a : AW ⟨Pg, 0, 7, false, []⟩ ir (RetK rs fun e _ => e = .ret v) (initT args) [] nilH) : APure Pg fn_drive_blowsOf args v :=
  APure.of_nil (enter 0 hl a)
end drive_blowsOf

namespace drive_hull_seams
noncomputable def cfg : Cfg := { pure := pures, pcs := [], raw := [], cuts := [], draws := [], keep := [] }
@[simp] noncomputable def r0 (_ : Unit) : List Stp := [S 2 (.mv (.c (.int .i64 0)))]
@[simp] noncomputable def r1 (_ : Unit) : List Stp := [S 3 (.mv (.t 0)), S 4 (.nilck Pg (.t 3)), S 5 (.fAddr 0 (.t 4)), S 6 (.fAddr 0 (.t 5)), S 7 (.load false 1 (.t 6)), S 8 (.len (.t 7)), S 2 (.mv (.t 8))]
@[simp] noncomputable def ir : IR := (.seq (.ops r0) (.seq (.ops r1) .ret))
@[simp] noncomputable def rs : List RV := [.tmp 2]
theorem comp : compF Pg cfg Try.f68 = some (ir, rs, 9) := by kernel_rfl
theorem enter {args : List AVal} {h : Heap} {K : AEnd → Heap → Prop} (F : Nat) (hl : args.length ≤ 9) (a : AW ⟨Pg, F, 9, false, []⟩ ir (RetK rs K) (initT args) [] h) : ACalls Pg fn_drive_hull_seams args h K :=
  ACalls.of_comp follows Try.func68 comp hl a
theorem pure {args : List AVal} {v : AVal} (hl : args.length ≤ 9) (a : AW ⟨Pg, 0, 9, false, []⟩ ir (RetK rs fun e _ => e = .ret v) (initT args) [] nilH) : APure Pg fn_drive_hull_seams args v :=
  APure.of_nil (enter 0 hl a)
end drive_hull_seams

namespace drive_want
noncomputable def cfg : Cfg := { pure := pures, pcs := [], raw := [], cuts := [], draws := [], keep := [] }
@[simp] noncomputable def r0 (_ : Unit) : List Stp := [S 4 (.mv (.t 0)), S 5 (.un .not (.t 4))]
@[simp] noncomputable def r1 (_ : Unit) : List Stp := [S 6 (.mv (.t 1)), S 7 (.build [(.int .i64 0)] [(0, 1, (.t 6))]), S 8 (.mkI 128 (.t 7)), SN (.panic (.t 8))]
@[simp] noncomputable def ir : IR := (.seq (.ops r0) (.cond (.t 5) (.ops r1) .skip))
@[simp] noncomputable def rs : List RV := []
theorem comp : compF Pg cfg Try.f71 = some (ir, rs, 9) := by kernel_rfl
theorem enter {args : List AVal} {h : Heap} {K : AEnd → Heap → Prop} (F : Nat) (hl : args.length ≤ 9) (a : AW ⟨Pg, F, 9, false, []⟩ ir (RetK rs K) (initT args) [] h) : ACalls Pg fn_drive_want args h K :=
  ACalls.of_comp follows Try.func71 comp hl a
theorem pure {args : List AVal} {v : AVal} (hl : args.length ≤ 9) (a : AW ⟨Pg, 0, 9, false, []⟩ ir (RetK rs fun e _ => e = .ret v) (initT args) [] nilH) : APure Pg fn_drive_want args v :=
  APure.of_nil (enter 0 hl a)
end drive_want

namespace drive_within
noncomputable def cfg : Cfg := { pure := pures, pcs := [], raw := [], cuts := [], draws := [], keep := [] }
@[simp] noncomputable def r0 (_ : Unit) : List Stp := [S 6 (.mv (.c (.bool false)))]
@[simp] noncomputable def r1 (_ : Unit) : List Stp := [S 7 (.mv (.t 1)), S 8 (.mv (.t 0)), S 9 (.bin .leq (.t 7) (.t 8)), S 10 (.mv (.t 9)), SG 11 10 true (.mv (.t 0)), SG 12 10 true (.mv (.t 2)), SG 13 10 true (.bin .leq (.t 11) (.t 12)), S 14 (.pick (.t 10) (.t 13) (.c (.bool false))), S 6 (.mv (.t 14))]
@[simp] noncomputable def ir : IR := (.seq (.ops r0) (.seq (.ops r1) .ret))
@[simp] noncomputable def rs : List RV := [.tmp 6]
theorem comp : compF Pg cfg Try.f72 = some (ir, rs, 15) := by kernel_rfl
theorem enter {args : List AVal} {h : Heap} {K : AEnd → Heap → Prop} (F : Nat) (hl : args.length ≤ 15) (a : AW ⟨Pg, F, 15, false, []⟩ ir (RetK rs K) (initT args) [] h) : ACalls Pg fn_drive_within args h K :=
  ACalls.of_comp follows Try.func72 comp hl a
theorem pure {args : List AVal} {v : AVal} (hl : args.length ≤ 15) (a : AW ⟨Pg, 0, 15, false, []⟩ ir (RetK rs fun e _ => e = .ret v) (initT args) [] nilH) : APure Pg fn_drive_within args v :=
  APure.of_nil (enter 0 hl a)
end drive_within

namespace slices_Contains_2_int_2_int
noncomputable def cfg : Cfg := { pure := pures, pcs := [], raw := [], cuts := [], draws := [], keep := [] }
@[simp] noncomputable def r0 (_ : Unit) : List Stp := [S 3 (.box (.t 1)), S 4 (.mv (.c (.bool false)))]
@[simp] noncomputable def r1 (_ : Unit) : List Stp := [S 5 (.mv (.t 0)), S 6 (.load true 2 (.t 3)), SP 7 (.call (.c (.func (.func fn_slices_Index_2_int_2_int) [] [])) [(.t 5), (.t 6)]), S 8 (.bin .geq (.t 7) (.c (.int .i64 0))), S 4 (.mv (.t 8))]
@[simp] noncomputable def ir : IR := (.seq (.ops r0) (.seq (.ops r1) .ret))
@[simp] noncomputable def rs : List RV := [.tmp 4]
theorem comp : compF Pg cfg Try.f73 = some (ir, rs, 9) := by kernel_rfl
theorem enter {args : List AVal} {h : Heap} {K : AEnd → Heap → Prop} (F : Nat) (hl : args.length ≤ 9) (a : AW ⟨Pg, F, 9, false, []⟩ ir (RetK rs K) (initT args) [] h) : ACalls Pg fn_slices_Contains_2_int_2_int args h K :=
  ACalls.of_comp follows Try.func73 comp hl a
theorem pure {args : List AVal} {v : AVal} (hl : args.length ≤ 9) (a : AW ⟨Pg, 0, 9, false, []⟩ ir (RetK rs fun e _ => e = .ret v) (initT args) [] nilH) : APure Pg fn_slices_Contains_2_int_2_int args v :=
  APure.of_nil (enter 0 hl a)
end slices_Contains_2_int_2_int

namespace drive_hull_ends
noncomputable def cfg : Cfg := { pure := pures, pcs := [], raw := [], cuts := [], draws := [], keep := [] }
@[simp] noncomputable def r0 (_ : Unit) : List Stp := [S 4 (.alloc [(.int .i64 0), (.int .i64 0), (.int .i64 0), (.int .i64 0), (.int .i64 0), (.int .i64 0)])]
@[simp] noncomputable def r1 (_ : Unit) : List Stp := [S 7 (.mv (.t 0)), S 8 (.nilck Pg (.t 7)), S 9 (.fAddr 0 (.t 8)), S 10 (.fAddr 2 (.t 9)), S 11 (.load false 1 (.t 10)), S 12 (.len (.t 11)), S 13 (.mv (.c (.int .i64 0)))]
@[simp] noncomputable def r2 (_ : Unit) : List Stp := [S 14 (.bin .lss (.t 13) (.t 12))]
@[simp] noncomputable def r3 (_ : Unit) : List Stp := [S 15 (.mv (.t 13)), S 16 (.ixS 2 (.t 11) (.t 13)), S 17 (.load true 2 (.t 16)), S 6 (.alloc [(.int .i64 0), (.int .i64 0)]), S 5 (.mv (.t 15)), SN (.store 2 (.t 6) (.t 17))]
@[simp] noncomputable def r4 (_ : Unit) : List Stp := [S 18 (.mv (.t 5)), S 19 (.fAddr 0 (.t 6)), S 20 (.load false 1 (.t 19)), S 21 (.ixA 6 1 (.t 4) (.t 18)), SN (.store 1 (.t 21) (.t 20))]
@[simp] noncomputable def r5 (_ : Unit) : List Stp := [S 22 (.mv (.t 1))]
@[simp] noncomputable def r6 (_ : Unit) : List Stp := [S 23 (.mv (.t 5)), S 24 (.fAddr 1 (.t 6)), S 25 (.load false 1 (.t 24)), S 26 (.ixA 6 1 (.t 4) (.t 23)), SN (.store 1 (.t 26) (.t 25))]
@[simp] noncomputable def r7 (_ : Unit) : List Stp := [S 27 (.bin .add (.t 13) (.c (.int .i64 1))), S 13 (.mv (.t 27))]
@[simp] noncomputable def r8 (_ : Unit) : List Stp := [S 28 (.load true 6 (.t 4)), SN (.store 6 (.t 4) (.t 28))]
@[simp] noncomputable def ir : IR := (.seq (.ops r0) (.seq (.seq (.ops r1) (.block 0 (.loop (.seq (.ops r2) (.seq (.cond (.t 14) .skip (.exit 0)) (.seq (.block 1 (.seq (.ops r3) (.seq (.ops r4) (.seq (.ops r5) (.cond (.t 22) (.ops r6) .skip))))) (.ops r7))))))) (.seq (.ops r8) .ret)))
@[simp] noncomputable def rs : List RV := [.cell 4 true 6]
theorem comp : compF Pg cfg Try.f74 = some (ir, rs, 29) := by kernel_rfl
theorem enter {args : List AVal} {h : Heap} {K : AEnd → Heap → Prop} (F : Nat) (hl : args.length ≤ 29) (a : AW ⟨Pg, F, 29, false, []⟩ ir (RetK rs K) (initT args) [] h) : ACalls Pg fn_drive_hull_ends args h K :=
  ACalls.of_comp follows Try.func74 comp hl a
theorem pure {args : List AVal} {v : AVal} (hl : args.length ≤ 29) (a : AW ⟨Pg, 0, 29, false, []⟩ ir (RetK rs fun e _ => e = .ret v) (initT args) [] nilH) : APure Pg fn_drive_hull_ends args v :=
  APure.of_nil (enter 0 hl a)
end drive_hull_ends

namespace drive_areBlows_1
noncomputable def cfg : Cfg := { pure := pures, pcs := [], raw := [], cuts := [], draws := [], keep := [] }
@[simp] noncomputable def r0 (_ : Unit) : List Stp := [S 2 (.mv (.c (.bool false)))]
@[simp] noncomputable def r1 (_ : Unit) : List Stp := [S 3 (.mv (.t 0)), SP 4 (.call (.c (.func (.func fn_drive_within) [] [])) [(.t 3), (.c (.int .i64 0)), (.c (.int .i64 52))]), S 5 (.un .not (.t 4)), S 2 (.mv (.t 5))]
@[simp] noncomputable def ir : IR := (.seq (.ops r0) (.seq (.ops r1) .ret))
@[simp] noncomputable def rs : List RV := [.tmp 2]
theorem comp : compF Pg cfg Try.f75 = some (ir, rs, 6) := by kernel_rfl
theorem enter {args : List AVal} {h : Heap} {K : AEnd → Heap → Prop} (F : Nat) (hl : args.length ≤ 6) (a : AW ⟨Pg, F, 6, false, []⟩ ir (RetK rs K) (initT args) [] h) : ACalls Pg fn_drive_areBlows_1 args h K :=
  ACalls.of_comp follows Try.func75 comp hl a
theorem pure {args : List AVal} {v : AVal} (hl : args.length ≤ 6) (a : AW ⟨Pg, 0, 6, false, []⟩ ir (RetK rs fun e _ => e = .ret v) (initT args) [] nilH) : APure Pg fn_drive_areBlows_1 args v :=
  APure.of_nil (enter 0 hl a)
end drive_areBlows_1

namespace slices_ContainsFunc_int_int
noncomputable def cfg : Cfg := { pure := pures, pcs := [], raw := [], cuts := [], draws := [], keep := [] }
@[simp] noncomputable def r0 (_ : Unit) : List Stp := [S 4 (.mv (.c (.bool false)))]
@[simp] noncomputable def r1 (_ : Unit) : List Stp := [S 5 (.mv (.t 0)), S 6 (.mv (.t 1)), SP 7 (.call (.c (.func (.func fn_slices_IndexFunc_int_int) [] [])) [(.t 5), (.t 6)]), S 8 (.bin .geq (.t 7) (.c (.int .i64 0))), S 4 (.mv (.t 8))]
@[simp] noncomputable def ir : IR := (.seq (.ops r0) (.seq (.ops r1) .ret))
@[simp] noncomputable def rs : List RV := [.tmp 4]
theorem comp : compF Pg cfg Try.f76 = some (ir, rs, 9) := by kernel_rfl
theorem enter {args : List AVal} {h : Heap} {K : AEnd → Heap → Prop} (F : Nat) (hl : args.length ≤ 9) (a : AW ⟨Pg, F, 9, false, []⟩ ir (RetK rs K) (initT args) [] h) : ACalls Pg fn_slices_ContainsFunc_int_int args h K :=
  ACalls.of_comp follows Try.func76 comp hl a
theorem pure {args : List AVal} {v : AVal} (hl : args.length ≤ 9) (a : AW ⟨Pg, 0, 9, false, []⟩ ir (RetK rs fun e _ => e = .ret v) (initT args) [] nilH) : APure Pg fn_slices_ContainsFunc_int_int args v :=
  APure.of_nil (enter 0 hl a)
end slices_ContainsFunc_int_int

namespace drive_hull_opened
noncomputable def cfg : Cfg := { pure := pures, pcs := [], raw := [], cuts := [], draws := [(2, [⟨0, false, [], []⟩, ⟨2, false, [], []⟩, ⟨3, false, [], []⟩, ⟨4, false, [], []⟩, ⟨5, false, [], []⟩, ⟨6, false, [], []⟩, ⟨7, false, [], []⟩, ⟨8, false, [], []⟩, ⟨10, false, [], []⟩, ⟨1, false, [], []⟩, ⟨9, false, [], []⟩, ⟨11, false, [], []⟩, ⟨12, false, [], []⟩, ⟨13, false, [], []⟩, ⟨14, false, [], []⟩, ⟨15, false, [], []⟩])], keep := [] }
@[simp] noncomputable def r0 (_ : Unit) : List Stp := [S 5 (.box (.t 1)), S 8 (.alloc [(.int .i64 0), (.int .i64 0), (.int .i64 0), (.int .i64 0), (.int .i64 0), (.int .i64 0)])]
@[simp] noncomputable def r1 (_ : Unit) : List Stp := [S 9 (.mv (.c (.func (.func fn_drive_blows_with) [] [])))]
@[simp] noncomputable def r2 (_ : Unit) : List Stp := [S 12 (.mv (.t 9)), S 14 (.mv (.t 2)), S 15 (.mv (.t 3)), S 16 (.un .neg (.t 15)), S 17 (.mv (.t 0)), S 18 (.nilck Pg (.t 17)), S 19 (.fAddr 0 (.t 18)), S 20 (.fAddr 0 (.t 19)), S 22 (.mv (.t 2)), S 13 (.load true 6 (.t 5)), S 21 (.load false 1 (.t 20)), S 23 (.ixS 1 (.t 21) (.t 22)), S 24 (.load false 1 (.t 23)), S 25 (.bin .mul (.t 16) (.t 24)), S 26 (.call (.t 12) [(.t 13), (.t 14), (.t 25)]), SN (.store 6 (.t 5) (.t 26))]
@[simp] noncomputable def r3 (_ : Unit) : List Stp := [S 27 (.mv (.t 0)), S 28 (.mv (.t 2)), S 29 (.nilck Pg (.t 27)), S 30 (.fAddr 3 (.t 29)), S 31 (.ixA 6 1 (.t 30) (.t 28)), S 32 (.load false 1 (.t 31)), S 33 (.len (.t 32)), S 34 (.mv (.c (.int .i64 0)))]
@[simp] noncomputable def r4 (_ : Unit) : List Stp := [S 35 (.bin .lss (.t 34) (.t 33))]
@[simp] noncomputable def r5 (_ : Unit) : List Stp := [S 36 (.ixS 1 (.t 32) (.t 34)), S 37 (.load false 1 (.t 36)), S 11 (.mv (.t 37))]
@[simp] noncomputable def r6 (_ : Unit) : List Stp := [S 38 (.mv (.t 9)), S 39 (.load true 6 (.t 5)), S 40 (.mv (.t 11)), S 41 (.mv (.t 3)), S 42 (.call (.t 38) [(.t 39), (.t 40), (.t 41)]), SN (.store 6 (.t 5) (.t 42))]
@[simp] noncomputable def r7 (_ : Unit) : List Stp := [S 43 (.bin .add (.t 34) (.c (.int .i64 1))), S 34 (.mv (.t 43))]
@[simp] noncomputable def r8 (_ : Unit) : List Stp := [S 44 (.load true 6 (.t 5)), SN (.store 6 (.t 8) (.t 44))]
@[simp] noncomputable def ir : IR := (.seq (.ops r0) (.seq (.ops r1) (.seq (.ops r2) (.seq (.seq (.ops r3) (.block 0 (.loop (.seq (.ops r4) (.seq (.cond (.t 35) .skip (.exit 0)) (.seq (.block 1 (.seq (.ops r5) (.ops r6))) (.ops r7))))))) (.seq (.ops r8) .ret)))))
@[simp] noncomputable def rs : List RV := [.cell 8 true 6]
theorem comp : compF Pg cfg Try.f77 = some (ir, rs, 45) := by kernel_rfl
theorem enter {args : List AVal} {h : Heap} {K : AEnd → Heap → Prop} (F : Nat) (hl : args.length ≤ 45) (a : AW ⟨Pg, F, 45, false, []⟩ ir (RetK rs K) (initT args) [] h) : ACalls Pg fn_drive_hull_opened args h K :=
  ACalls.of_comp follows Try.func77 comp hl a
theorem pure {args : List AVal} {v : AVal} (hl : args.length ≤ 45) (a : AW ⟨Pg, 0, 45, false, []⟩ ir (RetK rs fun e _ => e = .ret v) (initT args) [] nilH) : APure Pg fn_drive_hull_opened args v :=
  APure.of_nil (enter 0 hl a)
end drive_hull_opened

namespace drive_blows_with
noncomputable def cfg : Cfg := { pure := pures, pcs := [], raw := [], cuts := [], draws := [], keep := [] }
@[simp] noncomputable def r0 (_ : Unit) : List Stp := [S 3 (.box (.t 0)), S 6 (.alloc [(.int .i64 0), (.int .i64 0), (.int .i64 0), (.int .i64 0), (.int .i64 0), (.int .i64 0)])]
@[simp] noncomputable def r1 (_ : Unit) : List Stp := [S 7 (.mv (.t 1)), S 8 (.ixA 6 1 (.t 3) (.t 7)), S 9 (.load false 1 (.t 8)), S 10 (.mv (.t 2)), S 11 (.bin .add (.t 9) (.t 10)), S 12 (.ixA 6 1 (.t 3) (.t 7)), SN (.store 1 (.t 12) (.t 11))]
@[simp] noncomputable def r2 (_ : Unit) : List Stp := [S 13 (.load true 6 (.t 3)), SN (.store 6 (.t 6) (.t 13))]
@[simp] noncomputable def ir : IR := (.seq (.ops r0) (.seq (.ops r1) (.seq (.ops r2) .ret)))
@[simp] noncomputable def rs : List RV := [.cell 6 true 6]
theorem comp : compF Pg cfg Try.f78 = some (ir, rs, 14) := by kernel_rfl
theorem enter {args : List AVal} {h : Heap} {K : AEnd → Heap → Prop} (F : Nat) (hl : args.length ≤ 14) (a : AW ⟨Pg, F, 14, false, []⟩ ir (RetK rs K) (initT args) [] h) : ACalls Pg fn_drive_blows_with args h K :=
  ACalls.of_comp follows Try.func78 comp hl a
theorem pure {args : List AVal} {v : AVal} (hl : args.length ≤ 14) (a : AW ⟨Pg, 0, 14, false, []⟩ ir (RetK rs fun e _ => e = .ret v) (initT args) [] nilH) : APure Pg fn_drive_blows_with args v :=
  APure.of_nil (enter 0 hl a)
end drive_blows_with

namespace slices_Index_2_int_2_int
noncomputable def cfg : Cfg := { pure := pures, pcs := [], raw := [], cuts := [], draws := [(4, [⟨1, false, [], []⟩, ⟨2, false, [], []⟩, ⟨3, false, [], []⟩, ⟨0, false, [], []⟩, ⟨4, false, [], []⟩, ⟨5, false, [], []⟩])], keep := [] }
@[simp] noncomputable def r0 (_ : Unit) : List Stp := [S 3 (.box (.t 1)), S 4 (.mv (.c (.int .i64 0)))]
@[simp] noncomputable def r1 (_ : Unit) : List Stp := [S 6 (.mv (.t 0)), S 7 (.len (.t 6)), S 8 (.mv (.c (.int .i64 0)))]
@[simp] noncomputable def r2 (_ : Unit) : List Stp := [S 9 (.bin .lss (.t 8) (.t 7))]
@[simp] noncomputable def r3 (_ : Unit) : List Stp := [S 10 (.mv (.t 8)), S 5 (.mv (.t 10))]
@[simp] noncomputable def r4 (_ : Unit) : List Stp := [S 12 (.mv (.t 0)), S 13 (.mv (.t 5)), S 14 (.ixS 2 (.t 12) (.t 13)), S 11 (.load true 2 (.t 3)), S 15 (.load true 2 (.t 14)), S 16 (.eqA false [.i, .i] (.t 11) (.t 15))]
@[simp] noncomputable def r5 (_ : Unit) : List Stp := [S 17 (.mv (.t 5)), S 4 (.mv (.t 17))]
@[simp] noncomputable def r6 (_ : Unit) : List Stp := [S 18 (.bin .add (.t 8) (.c (.int .i64 1))), S 8 (.mv (.t 18))]
@[simp] noncomputable def r7 (_ : Unit) : List Stp := [S 4 (.mv (.c (.int .i64 (-1))))]
@[simp] noncomputable def ir : IR := (.seq (.ops r0) (.seq (.seq (.ops r1) (.block 0 (.loop (.seq (.ops r2) (.seq (.cond (.t 9) .skip (.exit 0)) (.seq (.block 1 (.seq (.ops r3) (.seq (.ops r4) (.cond (.t 16) (.seq (.ops r5) .ret) .skip)))) (.ops r6))))))) (.seq (.ops r7) .ret)))
@[simp] noncomputable def rs : List RV := [.tmp 4]
theorem comp : compF Pg cfg Try.f89 = some (ir, rs, 19) := by kernel_rfl
theorem enter {args : List AVal} {h : Heap} {K : AEnd → Heap → Prop} (F : Nat) (hl : args.length ≤ 19) (a : AW ⟨Pg, F, 19, false, []⟩ ir (RetK rs K) (initT args) [] h) : ACalls Pg fn_slices_Index_2_int_2_int args h K :=
  ACalls.of_comp follows Try.func89 comp hl a
theorem pure {args : List AVal} {v : AVal} (hl : args.length ≤ 19) (a : AW ⟨Pg, 0, 19, false, []⟩ ir (RetK rs fun e _ => e = .ret v) (initT args) [] nilH) : APure Pg fn_slices_Index_2_int_2_int args v :=
  APure.of_nil (enter 0 hl a)
end slices_Index_2_int_2_int

namespace slices_IndexFunc_int_int
noncomputable def cfg : Cfg := { pure := pures, pcs := [], raw := [], cuts := [], draws := [], keep := [] }
@[simp] noncomputable def r0 (_ : Unit) : List Stp := [S 4 (.mv (.c (.int .i64 0)))]
@[simp] noncomputable def r1 (_ : Unit) : List Stp := [S 6 (.mv (.t 0)), S 7 (.len (.t 6)), S 8 (.mv (.c (.int .i64 0)))]
@[simp] noncomputable def r2 (_ : Unit) : List Stp := [S 9 (.bin .lss (.t 8) (.t 7))]
@[simp] noncomputable def r3 (_ : Unit) : List Stp := [S 10 (.mv (.t 8)), S 5 (.mv (.t 10))]
@[simp] noncomputable def r4 (_ : Unit) : List Stp := [S 11 (.mv (.t 1)), S 12 (.mv (.t 0)), S 13 (.mv (.t 5)), S 14 (.ixS 1 (.t 12) (.t 13)), S 15 (.load false 1 (.t 14)), S 16 (.call (.t 11) [(.t 15)])]
@[simp] noncomputable def r5 (_ : Unit) : List Stp := [S 17 (.mv (.t 5)), S 4 (.mv (.t 17))]
@[simp] noncomputable def r6 (_ : Unit) : List Stp := [S 18 (.bin .add (.t 8) (.c (.int .i64 1))), S 8 (.mv (.t 18))]
@[simp] noncomputable def r7 (_ : Unit) : List Stp := [S 4 (.mv (.c (.int .i64 (-1))))]
@[simp] noncomputable def ir : IR := (.seq (.ops r0) (.seq (.seq (.ops r1) (.block 0 (.loop (.seq (.ops r2) (.seq (.cond (.t 9) .skip (.exit 0)) (.seq (.block 1 (.seq (.ops r3) (.seq (.ops r4) (.cond (.t 16) (.seq (.ops r5) .ret) .skip)))) (.ops r6))))))) (.seq (.ops r7) .ret)))
@[simp] noncomputable def rs : List RV := [.tmp 4]
theorem comp : compF Pg cfg Try.f90 = some (ir, rs, 19) := by kernel_rfl
theorem enter {args : List AVal} {h : Heap} {K : AEnd → Heap → Prop} (F : Nat) (hl : args.length ≤ 19) (a : AW ⟨Pg, F, 19, false, []⟩ ir (RetK rs K) (initT args) [] h) : ACalls Pg fn_slices_IndexFunc_int_int args h K :=
  ACalls.of_comp follows Try.func90 comp hl a
theorem pure {args : List AVal} {v : AVal} (hl : args.length ≤ 19) (a : AW ⟨Pg, 0, 19, false, []⟩ ir (RetK rs fun e _ => e = .ret v) (initT args) [] nilH) : APure Pg fn_slices_IndexFunc_int_int args v :=
  APure.of_nil (enter 0 hl a)
end slices_IndexFunc_int_int

namespace rap_nothing_hears
noncomputable def cfg : Cfg := { pure := pures, pcs := [], raw := [], cuts := [], draws := [], keep := [] }
@[simp] noncomputable def r0 (_ : Unit) : List Stp := [S 2 (.box (.t 0)), S 3 (.box (.t 1)), S 4 (.mv (.c (.bool false)))]
@[simp] noncomputable def r1 (_ : Unit) : List Stp := [S 4 (.mv (.c (.bool true)))]
@[simp] noncomputable def ir : IR := (.seq (.ops r0) (.seq (.ops r1) .ret))
@[simp] noncomputable def rs : List RV := [.tmp 4]
theorem comp : compF Pg cfg Try.f113 = some (ir, rs, 5) := by kernel_rfl
theorem enter {args : List AVal} {h : Heap} {K : AEnd → Heap → Prop} (F : Nat) (hl : args.length ≤ 5) (a : AW ⟨Pg, F, 5, false, []⟩ ir (RetK rs K) (initT args) [] h) : ACalls Pg fn_rap_nothing_hears args h K :=
  ACalls.of_comp follows Try.func113 comp hl a
theorem pure {args : List AVal} {v : AVal} (hl : args.length ≤ 5) (a : AW ⟨Pg, 0, 5, false, []⟩ ir (RetK rs fun e _ => e = .ret v) (initT args) [] nilH) : APure Pg fn_rap_nothing_hears args v :=
  APure.of_nil (enter 0 hl a)
end rap_nothing_hears

-- rap_knock_hears: not covered

end Go.Cw
end
