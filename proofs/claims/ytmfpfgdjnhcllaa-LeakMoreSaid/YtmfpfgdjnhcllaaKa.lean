/-
  The program's functions in the small form.
-/
import Derived.Test.YtmfpfgdjnhcllaaAd
import Derived.Test.YtmfpfgdjnhcllaaProg
import Derived.Test.YtmfpfgdjnhcllaaAf
set_option linter.unusedVariables false
set_option linter.unusedSimpArgs false
set_option linter.unusedSectionVars false

/- The functions' numbers. Printed by a program of this seat's proofs. -/
section
namespace Go.Cw
open Go Go.Proofs

@[reducible] noncomputable def Pg : Program := Try.prog
theorem follows : Pg.follows .mixedOrders = true := by kernel_rfl
def fn_main_main : FuncId := 0
def fn_gosem_cut : FuncId := 1
def fn_gosem_cut_init : FuncId := 2
def fn_law01_LeakClashes : FuncId := 3
def fn_law01_LeakNames : FuncId := 4
def fn_law01_LeakTrue : FuncId := 5
def fn_law01_LeakEnds : FuncId := 6
def fn_law01_LeakSets : FuncId := 7
def fn_law01_LeakNext : FuncId := 8
def fn_law01_LeakClash : FuncId := 9
def fn_law01_LeakMore : FuncId := 10
def fn_law01_LeakTurned : FuncId := 11
def fn_law01_heavy : FuncId := 12
def fn_law01_alive : FuncId := 13
def fn_leak_Clash : FuncId := 14
def fn_ref01_Clash : FuncId := 15
def fn_leak_Wet : FuncId := 16
def fn_law01_sample : FuncId := 17
def fn_law01_span : FuncId := 18
def fn_leak_Rate : FuncId := 19
def fn_leak_Flow : FuncId := 20
def fn_law01_draws : FuncId := 21
def fn_law01_made : FuncId := 22
def fn_leak_Leaks : FuncId := 23
def fn_leak_Fewest : FuncId := 24
def fn_leak_Sets : FuncId := 25
def fn_ref01_Size : FuncId := 26
def fn_ref01_LeaksOf : FuncId := 27
def fn_law01_inside : FuncId := 28
def fn_leak_Total : FuncId := 29
def fn_ref01_Sum : FuncId := 30
def fn_law01_flow : FuncId := 31
def fn_law01_long : FuncId := 32
def fn_ref01_Hull : FuncId := 33
def fn_law01_wet : FuncId := 34
def fn_law01_with : FuncId := 35
def fn_leak_Next : FuncId := 36
def fn_law01_LeakNext_1 : FuncId := 37
def fn_ref01_Truths : FuncId := 38
def fn_law01_LeakClash_1 : FuncId := 39
def fn_law01_LeakMore_1 : FuncId := 40
def fn_law01_LeakTurned_1 : FuncId := 41
def fn_ref01_Ints : FuncId := 42
def fn_leak_Clash_1 : FuncId := 43
def fn_leak_said : FuncId := 44
def fn_leak_open : FuncId := 45
def fn_leak_want : FuncId := 46
def fn_leak_hull_can : FuncId := 47
def fn_leak_hull_every : FuncId := 48
def fn_math_bits_OnesCount : FuncId := 49
def fn_ref01_every : FuncId := 50
def fn_ref01_truths : FuncId := 51
def fn_leak_Wet_1 : FuncId := 52
def fn_leak_place_isPlace : FuncId := 53
def fn_leak_hull_wet : FuncId := 54
def fn_leak_Rate_1 : FuncId := 55
def fn_leak_within : FuncId := 56
def fn_leak_hull_total : FuncId := 57
def fn_leak_Flow_1 : FuncId := 58
def fn_law01_draws_1 : FuncId := 59
def fn_leak_Leaks_1 : FuncId := 60
def fn_leak_hull_truths : FuncId := 61
def fn_leak_inflow_leaks : FuncId := 62
def fn_leak_Fewest_1 : FuncId := 63
def fn_leak_best_int : FuncId := 64
def fn_leak_hull_sets : FuncId := 65
def fn_leak_Fewest_2 : FuncId := 66
def fn_leak_Sets_1 : FuncId := 67
def fn_ref01_power : FuncId := 68
def fn_leak_Total_1 : FuncId := 69
def fn_leak_isSet : FuncId := 70
def fn_ref01_Has : FuncId := 71
def fn_ref01_in : FuncId := 72
def fn_ref01_At : FuncId := 73
def fn_leak_Next_1 : FuncId := 74
def fn_leak_best_leak_place : FuncId := 75
def fn_leak_Next_2 : FuncId := 76
def fn_leak_inflow_sum : FuncId := 77
def fn_leak_hull_inflows : FuncId := 78
def fn_math_bits_OnesCount32 : FuncId := 79
def fn_math_bits_OnesCount64 : FuncId := 80
def fn_ref01_right : FuncId := 81
def fn_leak_sums : FuncId := 82
def fn_leak_hull_total_1 : FuncId := 83
def fn_slices_Collect_leak_inflow : FuncId := 84
def fn_slices_Sort_int_int : FuncId := 85
def fn_leak_set_has : FuncId := 86
def fn_leak_flows : FuncId := 87
def fn_leak_hull_conditions : FuncId := 88
def fn_leak_hull_inflows_1 : FuncId := 89
def fn_leak_hull_inflows_1_1 : FuncId := 90
def fn_ref01_wet : FuncId := 91
def fn_slices_AppendSeq_leak_inflow_leak_inflow : FuncId := 92
def fn_slices_pdqsortOrdered_int : FuncId := 93
def fn_math_bits_Len : FuncId := 94
def fn_slices_insertionSortOrdered_int : FuncId := 95
def fn_slices_heapSortOrdered_int : FuncId := 96
def fn_slices_breakPatternsOrdered_int : FuncId := 97
def fn_slices_choosePivotOrdered_int : FuncId := 98
def fn_slices_reverseRangeOrdered_int : FuncId := 99
def fn_slices_partialInsertionSortOrdered_int : FuncId := 100
def fn_cmp_Less_int : FuncId := 101
def fn_slices_partitionEqualOrdered_int : FuncId := 102
def fn_slices_partitionOrdered_int : FuncId := 103
def fn_math_bits_Len32 : FuncId := 104
def fn_math_bits_Len64 : FuncId := 105
def fn_slices_siftDownOrdered_int : FuncId := 106
def fn_slices_nextPowerOfTwo : FuncId := 107
def fn_slices_xorshift_Next : FuncId := 108
def fn_slices_medianAdjacentOrdered_int : FuncId := 109
def fn_slices_medianOrdered_int : FuncId := 110
def fn_cmp_isNaN_int : FuncId := 111
def fn_slices_order2Ordered_int : FuncId := 112
def fn_runtime_boundsError_Error : FuncId := 113
def fn_runtime_boundsError_RuntimeError : FuncId := 114
def fn_runtime_errorString_Error : FuncId := 115
def fn_runtime_errorString_RuntimeError : FuncId := 116
def fn_runtime_plainError_Error : FuncId := 117
def fn_runtime_plainError_RuntimeError : FuncId := 118
def fn_runtime_errorAddressString_Error : FuncId := 119
def fn_runtime_errorAddressString_RuntimeError : FuncId := 120
def fn_runtime_TypeAssertionError_Error : FuncId := 121
def fn_runtime_TypeAssertionError_RuntimeError : FuncId := 122
def fn_runtime_PanicNilError_Error : FuncId := 123
def fn_runtime_PanicNilError_RuntimeError : FuncId := 124
def fn_abi_Type_Align : FuncId := 125
def fn_runtime_maps_unhashableTypeError_Error : FuncId := 126
def fn_runtime_maps_unhashableTypeError_RuntimeError : FuncId := 127
def fn_leak_none_can : FuncId := 128
def fn_leak_wet_ends : FuncId := 129
def fn_leak_sounding_can : FuncId := 130
def fn_abi_Kind_String : FuncId := 131
def pures : List Nat := [12, 13, 14, 15, 16, 17, 18, 19, 20, 23, 24, 25, 26, 27, 28, 29, 30, 31, 32, 33, 34, 36, 38, 49, 50, 53, 56, 62, 68, 70, 71, 72, 73, 77, 79, 80, 81, 86, 91]

end Go.Cw
end

/- Where the library's sort lies in this program. Printed by a program of this seat's proofs. -/
section
namespace Go.Cw
open Go Go.Proofs

def sortRen : Go.Shelf.Ren where
  f := fun
    | 189 => 85
    | 125 => 94
    | 257 => 93
    | 128 => 104
    | 129 => 105
    | 294 => 95
    | 295 => 96
    | 296 => 97
    | 297 => 98
    | 298 => 99
    | 299 => 100
    | 216 => 101
    | 300 => 102
    | 301 => 103
    | 328 => 106
    | 329 => 107
    | 330 => 108
    | 331 => 109
    | 332 => 110
    | 215 => 111
    | 343 => 112
    | n => n
  t := fun
    | 28 => 46
    | 3 => 3
    | 46 => 83
    | 0 => 0
    | 51 => 127
    | 53 => 129
    | 4 => 4
    | 183 => 157
    | 182 => 156
    | 131 => 111
    | 5 => 5
    | 9 => 9
    | 218 => 162
    | 222 => 166
    | 228 => 168
    | 229 => 100
    | n => n
  g := fun n => n

theorem sortLays : Go.Proofs.Lays.n189 Pg sortRen where
  mixed := by kernel_rfl
  f125 := Eq.trans Try.func94 (congrArg some (by kernel_rfl))
  f128 := Eq.trans Try.func104 (congrArg some (by kernel_rfl))
  f129 := Eq.trans Try.func105 (congrArg some (by kernel_rfl))
  f189 := Eq.trans Try.func85 (congrArg some (by kernel_rfl))
  f215 := Eq.trans Try.func111 (congrArg some (by kernel_rfl))
  f216 := Eq.trans Try.func101 (congrArg some (by kernel_rfl))
  f257 := Eq.trans Try.func93 (congrArg some (by kernel_rfl))
  f294 := Eq.trans Try.func95 (congrArg some (by kernel_rfl))
  f295 := Eq.trans Try.func96 (congrArg some (by kernel_rfl))
  f296 := Eq.trans Try.func97 (congrArg some (by kernel_rfl))
  f297 := Eq.trans Try.func98 (congrArg some (by kernel_rfl))
  f298 := Eq.trans Try.func99 (congrArg some (by kernel_rfl))
  f299 := Eq.trans Try.func100 (congrArg some (by kernel_rfl))
  f300 := Eq.trans Try.func102 (congrArg some (by kernel_rfl))
  f301 := Eq.trans Try.func103 (congrArg some (by kernel_rfl))
  f328 := Eq.trans Try.func106 (congrArg some (by kernel_rfl))
  f329 := Eq.trans Try.func107 (congrArg some (by kernel_rfl))
  f330 := Eq.trans Try.func108 (congrArg some (by kernel_rfl))
  f331 := Eq.trans Try.func109 (congrArg some (by kernel_rfl))
  f332 := Eq.trans Try.func110 (congrArg some (by kernel_rfl))
  f343 := Eq.trans Try.func112 (congrArg some (by kernel_rfl))
  t0 := Try.underlying0
  a0 := Try.isAgg0
  z0 := Try.sizeOf0
  v0 := Try.zeroValue0
  t3 := Try.underlying3
  a3 := Try.isAgg3
  z3 := Try.sizeOf3
  v3 := Try.zeroValue3
  t4 := Try.underlying4
  a4 := Try.isAgg4
  z4 := Try.sizeOf4
  v4 := Try.zeroValue4
  t5 := Try.underlying5
  a5 := Try.isAgg5
  z5 := Try.sizeOf5
  v5 := Try.zeroValue5
  t9 := Try.underlying9
  a9 := Try.isAgg9
  z9 := Try.sizeOf9
  v9 := Try.zeroValue9
  t28 := Try.underlying46
  a28 := Try.isAgg46
  z28 := Try.sizeOf46
  v28 := Try.zeroValue46
  t46 := Try.underlying83
  a46 := Try.isAgg83
  z46 := Try.sizeOf83
  v46 := Try.zeroValue83
  t51 := Try.underlying127
  a51 := Try.isAgg127
  z51 := Try.sizeOf127
  v51 := Try.zeroValue127
  t53 := Try.underlying129
  a53 := Try.isAgg129
  z53 := Try.sizeOf129
  v53 := Try.zeroValue129
  t131 := Try.underlying111
  a131 := Try.isAgg111
  z131 := Try.sizeOf111
  v131 := Try.zeroValue111
  t182 := Try.underlying156
  a182 := Try.isAgg156
  z182 := Try.sizeOf156
  v182 := Try.zeroValue156
  t183 := Try.underlying157
  a183 := Try.isAgg157
  z183 := Try.sizeOf157
  v183 := Try.zeroValue157
  t218 := Try.underlying162
  a218 := Try.isAgg162
  z218 := Try.sizeOf162
  v218 := Try.zeroValue162
  t222 := Try.underlying166
  a222 := Try.isAgg166
  z222 := Try.sizeOf166
  v222 := Try.zeroValue166
  t228 := Try.underlying168
  a228 := Try.isAgg168
  z228 := Try.sizeOf168
  v228 := Try.zeroValue168
  t229 := Try.underlying100
  a229 := Try.isAgg100
  z229 := Try.sizeOf100
  v229 := Try.zeroValue100

theorem sortEnters : Enters Pg fn_slices_Sort_int_int := ⟨_, _, Try.func85, rfl, rfl⟩

/-- SORT. -/
theorem slices_Sort_int_int.c {r s : Nat} {cap : Cap} {l : List Int} (hl : l.length < 4611686018427387904) {K : AEnd → Heap → Prop} (k : K (.ret (.tup [])) (hpV [(r, .row (ints (sortI l)) s)])) :
    ACalls Pg fn_slices_Sort_int_int [.sl r 0 s l.length cap] (hpV [(r, .row (ints l) s)]) K := ACalls.sort sortLays sortEnters hl k

end Go.Cw
end

/- Functions in the small form. Printed by a program of this seat's proofs. -/
section
namespace Go.Cw
open Go Go.Proofs








namespace law01_LeakMore
noncomputable def cfg : Cfg := { pure := pures, pcs := [], raw := [], cuts := [], draws := [(3, [⟨0, false, [], []⟩, ⟨1, false, [], []⟩, ⟨3, false, [], []⟩, ⟨2, false, [4, 5], [3]⟩, ⟨4, true, [], []⟩, ⟨5, true, [], []⟩, ⟨6, false, [], [3]⟩, ⟨7, false, [], []⟩]), (7, [⟨0, false, [], []⟩, ⟨2, false, [], []⟩, ⟨3, false, [], []⟩, ⟨4, false, [], []⟩, ⟨5, false, [], []⟩, ⟨1, false, [], []⟩, ⟨6, false, [], []⟩, ⟨7, false, [], []⟩, ⟨8, false, [], []⟩]), (8, [⟨0, false, [], []⟩, ⟨1, false, [], []⟩, ⟨2, false, [], []⟩, ⟨3, false, [], []⟩, ⟨5, false, [], []⟩, ⟨6, false, [], []⟩, ⟨7, false, [], []⟩, ⟨4, false, [], []⟩, ⟨8, false, [], []⟩, ⟨9, false, [], []⟩, ⟨10, false, [], []⟩, ⟨11, false, [], []⟩, ⟨12, false, [], []⟩, ⟨13, false, [], []⟩])], keep := [] }
@[simp] noncomputable def r0 (_ : Unit) : List Stp := [S 5 (.box (.t 0)), S 6 (.box (.t 1)), S 10 (.mv (.c (.bool false)))]
@[simp] noncomputable def r1 (_ : Unit) : List Stp := [S 48 (.load true 2 (.t 5)), SP 49 (.call (.c (.func (.func fn_law01_long) [] [])) [(.t 48)]), S 50 (.mv (.t 49)), SG 51 50 false (.load true 2 (.t 5)), SGP 52 50 false (.call (.c (.func (.func fn_ref01_Hull) [] [])) [(.t 51)]), SG 53 50 false (.un .not (.t 52)), S 54 (.pick (.t 50) (.c (.bool true)) (.t 53)), S 55 (.mv (.t 54)), SG 56 55 false (.fAddr 1 (.t 5)), SG 57 55 false (.load false 1 (.t 56)), SG 58 55 false (.len (.t 57)), SG 59 55 false (.bin .geq (.t 58) (.c (.int .i64 8))), S 60 (.pick (.t 55) (.c (.bool true)) (.t 59))]
@[simp] noncomputable def r2 (_ : Unit) : List Stp := [SP 61 (.call (.c (.func (.func fn_law01_alive) [] [])) []), S 10 (.mv (.t 61))]
@[simp] noncomputable def r3 (_ : Unit) : List Stp := [S 62 (.load true 2 (.t 5)), S 63 (.load true 4 (.t 6)), S 65 (.load true 2 (.t 5)), SD (some 64) (.call (.c (.func (.func fn_law01_with) [] [])) [(.t 62), (.t 63)]) false [I 11 (.alloc [.nils, .nils]), I 12 (.alloc [.nils, .nils])] [I 65 (.load true 2 (.t 5))], SD (some 11) (.alloc [.nils, .nils]) true [] [], SD (some 12) (.alloc [.nils, .nils]) true [] [], SD none (.store 2 (.t 11) (.t 64)) false [] [I 65 (.load true 2 (.t 5))], SN (.store 2 (.t 12) (.t 65))]
@[simp] noncomputable def r4 (_ : Unit) : List Stp := [S 66 (.bsl 0 [] []), S 67 (.fAddr 1 (.t 5)), S 68 (.load false 1 (.t 67)), S 69 (.app 4 32 (.t 66) (.t 68)), S 70 (.fAddr 1 (.t 12)), SN (.store 1 (.t 70) (.t 69))]
@[simp] noncomputable def r5 (_ : Unit) : List Stp := [S 71 (.fAddr 1 (.t 12)), S 72 (.load false 1 (.t 71)), S 73 (.len (.t 72)), S 13 (.mv (.t 73))]
@[simp] noncomputable def r6 (_ : Unit) : List Stp := [S 74 (.mv (.t 13)), S 75 (.bin .gtr (.t 74) (.c (.int .i64 0)))]
@[simp] noncomputable def r7 (_ : Unit) : List Stp := [S 76 (.fAddr 1 (.t 12)), S 78 (.mv (.t 2)), S 79 (.conv .i64 (.t 78)), S 80 (.mv (.t 13)), S 81 (.bin .rem (.t 79) (.t 80)), S 77 (.load false 1 (.t 76)), S 82 (.ixS 4 (.t 77) (.t 81)), S 83 (.fAddr 2 (.t 82)), S 14 (.mv (.t 83))]
@[simp] noncomputable def r8 (_ : Unit) : List Stp := [S 84 (.mv (.t 14)), S 85 (.mv (.t 14)), S 86 (.nilck Pg (.t 85)), S 87 (.fAddr 1 (.t 86)), S 89 (.mv (.t 14)), S 90 (.nilck Pg (.t 89)), S 91 (.fAddr 0 (.t 90)), S 88 (.load false 1 (.t 87)), S 92 (.load false 1 (.t 91)), S 93 (.bin .add (.t 92) (.c (.int .i64 1))), S 94 (.mm false [(.t 88), (.t 93)]), S 95 (.nilck Pg (.t 84)), S 96 (.fAddr 0 (.t 95)), SN (.store 1 (.t 96) (.t 94))]
@[simp] noncomputable def r9 (_ : Unit) : List Stp := [S 97 (.mv (.t 3)), S 98 (.conv .i64 (.t 97)), S 99 (.bin .rem (.t 98) (.c (.int .i64 13))), S 100 (.mv (.t 4)), S 101 (.conv .i64 (.t 100)), S 102 (.bin .rem (.t 101) (.c (.int .i64 7))), S 103 (.bin .sub (.t 102) (.c (.int .i64 3))), S 15 (.mv (.t 99)), S 16 (.mv (.t 103))]
@[simp] noncomputable def r10 (_ : Unit) : List Stp := [S 17 (.mv (.c (.func (.func fn_law01_LeakMore_1) [] [])))]
@[simp] noncomputable def r11 (_ : Unit) : List Stp := [S 105 (.load true 2 (.t 5)), SP 106 (.call (.c (.func (.func fn_leak_Leaks) [] [])) [(.t 105)]), S 104 (.mv (.t 106)), S 107 (.ext (.t 104) 0), S 108 (.ext (.t 104) 1), S 109 (.ext (.t 104) 2), S 18 (.mv (.t 107)), S 19 (.mv (.t 108)), S 20 (.mv (.t 109))]
@[simp] noncomputable def r12 (_ : Unit) : List Stp := [S 111 (.load true 2 (.t 5)), SP 112 (.call (.c (.func (.func fn_leak_Fewest) [] [])) [(.t 111)]), S 110 (.mv (.t 112)), S 113 (.ext (.t 110) 0), S 114 (.ext (.t 110) 1), S 115 (.ext (.t 110) 2), S 21 (.mv (.t 113)), S 22 (.mv (.t 114)), S 23 (.mv (.t 115))]
@[simp] noncomputable def r13 (_ : Unit) : List Stp := [S 117 (.load true 2 (.t 5)), SP 118 (.call (.c (.func (.func fn_leak_Sets) [] [])) [(.t 117)]), S 116 (.mv (.t 118)), S 119 (.ext (.t 116) 0), S 120 (.ext (.t 116) 1), S 24 (.mv (.t 119)), S 25 (.mv (.t 120))]
@[simp] noncomputable def r14 (_ : Unit) : List Stp := [S 122 (.load true 2 (.t 5)), S 123 (.mv (.t 15)), S 124 (.mv (.t 16)), SP 125 (.call (.c (.func (.func fn_leak_Flow) [] [])) [(.t 122), (.t 123), (.t 124)]), S 121 (.mv (.t 125)), S 126 (.ext (.t 121) 0), S 127 (.ext (.t 121) 1), S 26 (.alloc [(.int .i64 0), (.int .i64 0)]), SN (.store 2 (.t 26) (.t 126)), S 27 (.mv (.t 127))]
@[simp] noncomputable def r15 (_ : Unit) : List Stp := [S 128 (.load true 2 (.t 11)), S 129 (.load true 2 (.t 12)), S 130 (.bsl 2 [.nils, .nils, .nils, .nils] [(0, 2, (.t 128)), (2, 2, (.t 129))]), S 131 (.len (.t 130)), S 132 (.mv (.c (.int .i64 0)))]
@[simp] noncomputable def r16 (_ : Unit) : List Stp := [S 133 (.bin .lss (.t 132) (.t 131))]
@[simp] noncomputable def r17 (_ : Unit) : List Stp := [S 134 (.ixS 2 (.t 130) (.t 132)), S 135 (.load true 2 (.t 134)), S 29 (.alloc [.nils, .nils]), SN (.store 2 (.t 29) (.t 135))]
@[simp] noncomputable def r18 (_ : Unit) : List Stp := [S 136 (.load true 2 (.t 29)), SP 137 (.call (.c (.func (.func fn_ref01_Hull) [] [])) [(.t 136)]), S 138 (.un .not (.t 137))]
@[simp] noncomputable def r19 (_ : Unit) : List Stp := [S 140 (.load true 2 (.t 29)), SP 141 (.call (.c (.func (.func fn_leak_Leaks) [] [])) [(.t 140)]), S 139 (.mv (.t 141)), S 142 (.ext (.t 139) 0), S 143 (.ext (.t 139) 1), S 144 (.ext (.t 139) 2), S 30 (.mv (.t 142)), S 31 (.mv (.t 143)), S 32 (.mv (.t 144))]
@[simp] noncomputable def r20 (_ : Unit) : List Stp := [S 145 (.mv (.t 32)), S 146 (.bin .neq (.t 145) (.c (.int .i64 0)))]
@[simp] noncomputable def r21 (_ : Unit) : List Stp := [S 147 (.mv (.t 32)), S 148 (.bin .neq (.t 147) (.c (.int .i64 10)))]
@[simp] noncomputable def r22 (_ : Unit) : List Stp := [S 10 (.mv (.c (.bool false)))]
@[simp] noncomputable def r23 (_ : Unit) : List Stp := [S 150 (.load true 2 (.t 29)), SP 151 (.call (.c (.func (.func fn_leak_Fewest) [] [])) [(.t 150)]), S 149 (.mv (.t 151)), S 152 (.ext (.t 149) 0), S 153 (.ext (.t 149) 1), S 154 (.ext (.t 149) 2), S 33 (.mv (.t 152)), S 34 (.mv (.t 153)), S 35 (.mv (.t 154))]
@[simp] noncomputable def r24 (_ : Unit) : List Stp := [S 156 (.load true 2 (.t 29)), SP 157 (.call (.c (.func (.func fn_leak_Sets) [] [])) [(.t 156)]), S 155 (.mv (.t 157)), S 158 (.ext (.t 155) 0), S 159 (.ext (.t 155) 1), S 36 (.mv (.t 158)), S 37 (.mv (.t 159))]
@[simp] noncomputable def r25 (_ : Unit) : List Stp := [S 161 (.load true 2 (.t 29)), S 162 (.mv (.t 15)), S 163 (.mv (.t 16)), SP 164 (.call (.c (.func (.func fn_leak_Flow) [] [])) [(.t 161), (.t 162), (.t 163)]), S 160 (.mv (.t 164)), S 165 (.ext (.t 160) 0), S 166 (.ext (.t 160) 1), S 38 (.alloc [(.int .i64 0), (.int .i64 0)]), SN (.store 2 (.t 38) (.t 165)), S 39 (.mv (.t 166))]
@[simp] noncomputable def r26 (_ : Unit) : List Stp := [S 167 (.mv (.t 20)), S 168 (.bin .neq (.t 167) (.c (.int .i64 0))), S 169 (.mv (.t 168)), SG 170 169 false (.mv (.t 23)), SG 171 169 false (.bin .neq (.t 170) (.c (.int .i64 0))), S 172 (.pick (.t 169) (.c (.bool true)) (.t 171)), S 173 (.mv (.t 172)), SG 174 173 false (.mv (.t 25)), SG 175 173 false (.bin .neq (.t 174) (.c (.int .i64 0))), S 176 (.pick (.t 173) (.c (.bool true)) (.t 175)), S 177 (.mv (.t 176)), SG 178 177 false (.mv (.t 27)), SG 179 177 false (.bin .neq (.t 178) (.c (.int .i64 0))), S 180 (.pick (.t 177) (.c (.bool true)) (.t 179)), S 181 (.mv (.t 180)), SG 182 181 false (.mv (.t 35)), SG 183 181 false (.bin .neq (.t 182) (.c (.int .i64 0))), S 184 (.pick (.t 181) (.c (.bool true)) (.t 183)), S 185 (.mv (.t 184)), SG 186 185 false (.mv (.t 37)), SG 187 185 false (.bin .neq (.t 186) (.c (.int .i64 0))), S 188 (.pick (.t 185) (.c (.bool true)) (.t 187)), S 189 (.mv (.t 188)), SG 190 189 false (.mv (.t 39)), SG 191 189 false (.bin .neq (.t 190) (.c (.int .i64 0))), S 192 (.pick (.t 189) (.c (.bool true)) (.t 191)), S 193 (.mv (.t 192)), SG 194 193 false (.mv (.t 30)), SG 195 193 false (.mv (.t 18)), SG 196 193 false (.bin .andNot (.t 194) (.t 195)), SG 197 193 false (.bin .neq (.t 196) (.c (.int .i64 0))), S 198 (.pick (.t 193) (.c (.bool true)) (.t 197)), S 199 (.mv (.t 198)), SG 200 199 false (.mv (.t 19)), SG 201 199 false (.mv (.t 31)), SG 202 199 false (.bin .andNot (.t 200) (.t 201)), SG 203 199 false (.bin .neq (.t 202) (.c (.int .i64 0))), S 204 (.pick (.t 199) (.c (.bool true)) (.t 203)), S 205 (.mv (.t 204)), SG 206 205 false (.mv (.t 33)), SG 207 205 false (.mv (.t 21)), SG 208 205 false (.bin .lss (.t 206) (.t 207)), S 209 (.pick (.t 205) (.c (.bool true)) (.t 208)), S 210 (.mv (.t 209)), SG 211 210 false (.mv (.t 17)), SG 212 210 false (.load true 2 (.t 38)), SG 213 210 false (.load true 2 (.t 26)), SG 214 210 false (.call (.t 211) [(.t 212), (.t 213)]), SG 215 210 false (.un .not (.t 214)), S 216 (.pick (.t 210) (.c (.bool true)) (.t 215))]
@[simp] noncomputable def r27 (_ : Unit) : List Stp := [S 10 (.mv (.c (.bool false)))]
@[simp] noncomputable def r28 (_ : Unit) : List Stp := [S 40 (.mv (.c (.int .i64 0)))]
@[simp] noncomputable def r29 (_ : Unit) : List Stp := [S 217 (.mv (.t 36)), S 218 (.len (.t 217)), S 219 (.mv (.c (.int .i64 0)))]
@[simp] noncomputable def r30 (_ : Unit) : List Stp := [S 220 (.bin .lss (.t 219) (.t 218))]
@[simp] noncomputable def r31 (_ : Unit) : List Stp := [S 221 (.ixS 1 (.t 217) (.t 219)), S 222 (.load false 1 (.t 221)), S 42 (.mv (.t 222))]
@[simp] noncomputable def r32 (_ : Unit) : List Stp := [S 223 (.mv (.t 40)), S 224 (.mv (.t 24)), S 225 (.len (.t 224)), S 226 (.bin .lss (.t 223) (.t 225)), S 227 (.mv (.t 226)), SG 228 227 true (.mv (.t 24)), SG 229 227 true (.mv (.t 40)), SG 230 227 true (.ixS 1 (.t 228) (.t 229)), SG 231 227 true (.load false 1 (.t 230)), SG 232 227 true (.mv (.t 42)), SG 233 227 true (.bin .lss (.t 231) (.t 232)), S 234 (.pick (.t 227) (.t 233) (.c (.bool false)))]
@[simp] noncomputable def r33 (_ : Unit) : List Stp := [S 235 (.mv (.t 40)), S 236 (.bin .add (.t 235) (.c (.int .i64 1))), S 40 (.mv (.t 236))]
@[simp] noncomputable def r34 (_ : Unit) : List Stp := [S 237 (.mv (.t 40)), S 238 (.mv (.t 24)), S 239 (.len (.t 238)), S 240 (.bin .eql (.t 237) (.t 239)), S 241 (.mv (.t 240)), SG 242 241 false (.mv (.t 24)), SG 243 241 false (.mv (.t 40)), SG 244 241 false (.ixS 1 (.t 242) (.t 243)), SG 245 241 false (.load false 1 (.t 244)), SG 246 241 false (.mv (.t 42)), SG 247 241 false (.bin .neq (.t 245) (.t 246)), S 248 (.pick (.t 241) (.c (.bool true)) (.t 247))]
@[simp] noncomputable def r35 (_ : Unit) : List Stp := [S 10 (.mv (.c (.bool false)))]
@[simp] noncomputable def r36 (_ : Unit) : List Stp := [S 249 (.bin .add (.t 219) (.c (.int .i64 1))), S 219 (.mv (.t 249))]
@[simp] noncomputable def r37 (_ : Unit) : List Stp := [S 250 (.fAddr 0 (.t 5)), S 251 (.load false 1 (.t 250)), S 252 (.len (.t 251)), S 253 (.mv (.c (.int .i64 0)))]
@[simp] noncomputable def r38 (_ : Unit) : List Stp := [S 254 (.bin .lss (.t 253) (.t 252))]
@[simp] noncomputable def r39 (_ : Unit) : List Stp := [S 255 (.mv (.t 253)), S 43 (.mv (.t 255))]
@[simp] noncomputable def r40 (_ : Unit) : List Stp := [S 257 (.load true 2 (.t 5)), S 258 (.mv (.t 43)), SP 259 (.call (.c (.func (.func fn_leak_Rate) [] [])) [(.t 257), (.t 258)]), S 256 (.mv (.t 259)), S 260 (.ext (.t 256) 0), S 261 (.ext (.t 256) 1), S 44 (.alloc [(.int .i64 0), (.int .i64 0)]), SN (.store 2 (.t 44) (.t 260)), S 45 (.mv (.t 261))]
@[simp] noncomputable def r41 (_ : Unit) : List Stp := [S 263 (.load true 2 (.t 29)), S 264 (.mv (.t 43)), SP 265 (.call (.c (.func (.func fn_leak_Rate) [] [])) [(.t 263), (.t 264)]), S 262 (.mv (.t 265)), S 266 (.ext (.t 262) 0), S 267 (.ext (.t 262) 1), S 46 (.alloc [(.int .i64 0), (.int .i64 0)]), SN (.store 2 (.t 46) (.t 266)), S 47 (.mv (.t 267))]
@[simp] noncomputable def r42 (_ : Unit) : List Stp := [S 268 (.mv (.t 45)), S 269 (.bin .neq (.t 268) (.c (.int .i64 0))), S 270 (.mv (.t 269)), SG 271 270 false (.mv (.t 47)), SG 272 270 false (.bin .neq (.t 271) (.c (.int .i64 0))), S 273 (.pick (.t 270) (.c (.bool true)) (.t 272)), S 274 (.mv (.t 273)), SG 275 274 false (.mv (.t 17)), SG 276 274 false (.load true 2 (.t 46)), SG 277 274 false (.load true 2 (.t 44)), SG 278 274 false (.call (.t 275) [(.t 276), (.t 277)]), SG 279 274 false (.un .not (.t 278)), S 280 (.pick (.t 274) (.c (.bool true)) (.t 279))]
@[simp] noncomputable def r43 (_ : Unit) : List Stp := [S 10 (.mv (.c (.bool false)))]
@[simp] noncomputable def r44 (_ : Unit) : List Stp := [S 281 (.bin .add (.t 253) (.c (.int .i64 1))), S 253 (.mv (.t 281))]
@[simp] noncomputable def r45 (_ : Unit) : List Stp := [S 282 (.bin .add (.t 132) (.c (.int .i64 1))), S 132 (.mv (.t 282))]
@[simp] noncomputable def r46 (_ : Unit) : List Stp := [SP 283 (.call (.c (.func (.func fn_law01_alive) [] [])) []), S 10 (.mv (.t 283))]
@[simp] noncomputable def ir : IR := (.seq (.ops r0) (.seq (.seq (.ops r1) (.cond (.t 60) (.seq (.ops r2) .ret) .skip)) (.seq (.ops r3) (.seq (.ops r4) (.seq (.seq (.ops r5) (.seq (.ops r6) (.cond (.t 75) (.seq (.ops r7) (.ops r8)) .skip))) (.seq (.ops r9) (.seq (.ops r10) (.seq (.ops r11) (.seq (.ops r12) (.seq (.ops r13) (.seq (.ops r14) (.seq (.seq (.ops r15) (.block 0 (.loop (.seq (.ops r16) (.seq (.cond (.t 133) .skip (.exit 0)) (.seq (.block 1 (.seq (.ops r17) (.seq (.seq (.ops r18) (.cond (.t 138) (.exit 1) .skip)) (.seq (.ops r19) (.seq (.seq (.ops r20) (.cond (.t 146) (.seq (.seq (.ops r21) (.cond (.t 148) (.seq (.ops r22) .ret) .skip)) (.exit 1)) .skip)) (.seq (.ops r23) (.seq (.ops r24) (.seq (.ops r25) (.seq (.seq (.ops r26) (.cond (.t 216) (.seq (.ops r27) .ret) .skip)) (.seq (.ops r28) (.seq (.seq (.ops r29) (.block 2 (.loop (.seq (.ops r30) (.seq (.cond (.t 220) .skip (.exit 2)) (.seq (.block 3 (.seq (.ops r31) (.seq (.block 4 (.loop (.seq (.seq (.ops r32) (.cond (.t 234) .skip (.exit 4))) (.block 5 (.ops r33))))) (.seq (.ops r34) (.cond (.t 248) (.seq (.ops r35) .ret) .skip))))) (.ops r36))))))) (.seq (.ops r37) (.block 6 (.loop (.seq (.ops r38) (.seq (.cond (.t 254) .skip (.exit 6)) (.seq (.block 7 (.seq (.ops r39) (.seq (.ops r40) (.seq (.ops r41) (.seq (.ops r42) (.cond (.t 280) (.seq (.ops r43) .ret) .skip)))))) (.ops r44)))))))))))))))))) (.ops r45))))))) (.seq (.ops r46) .ret)))))))))))))
@[simp] noncomputable def rs : List RV := [.tmp 10]
theorem comp : compF Pg cfg Try.f10 = some (ir, rs, 284) := by kernel_rfl
theorem enter {args : List AVal} {h : Heap} {K : AEnd → Heap → Prop} (F : Nat) (hl : args.length ≤ 284) (a : AW ⟨Pg, F, 284, false, []⟩ ir (RetK rs K) (initT args) [] h) : ACalls Pg fn_law01_LeakMore args h K :=
  ACalls.of_comp follows Try.func10 comp hl a
theorem pure {args : List AVal} {v : AVal} (hl : args.length ≤ 284) (a : AW ⟨Pg, 0, 284, false, []⟩ ir (RetK rs fun e _ => e = .ret v) (initT args) [] nilH) : APure Pg fn_law01_LeakMore args v :=
  APure.of_nil (enter 0 hl a)
end law01_LeakMore


namespace law01_heavy
noncomputable def cfg : Cfg := { pure := pures, pcs := [], raw := [], cuts := [], draws := [], keep := [] }
@[simp] noncomputable def r0 (_ : Unit) : List Stp := [S 3 (.box (.t 0)), S 6 (.mv (.c (.bool false)))]
@[simp] noncomputable def r1 (_ : Unit) : List Stp := [S 10 (.load true 2 (.t 3)), SP 11 (.call (.c (.func (.func fn_law01_long) [] [])) [(.t 10)]), S 12 (.mv (.t 11)), SG 13 12 false (.load true 2 (.t 3)), SGP 14 12 false (.call (.c (.func (.func fn_ref01_Hull) [] [])) [(.t 13)]), SG 15 12 false (.un .not (.t 14)), S 16 (.pick (.t 12) (.c (.bool true)) (.t 15))]
@[simp] noncomputable def r2 (_ : Unit) : List Stp := [S 17 (.load true 2 (.t 3)), SP 18 (.call (.c (.func (.func fn_law01_long) [] [])) [(.t 17)]), S 6 (.mv (.t 18))]
@[simp] noncomputable def r3 (_ : Unit) : List Stp := [S 7 (.mv (.c (.int .i64 1)))]
@[simp] noncomputable def r4 (_ : Unit) : List Stp := [S 19 (.fAddr 0 (.t 3)), S 20 (.load false 1 (.t 19)), S 21 (.len (.t 20)), S 22 (.mv (.c (.int .i64 0)))]
@[simp] noncomputable def r5 (_ : Unit) : List Stp := [S 23 (.bin .lss (.t 22) (.t 21))]
@[simp] noncomputable def r6 (_ : Unit) : List Stp := [S 24 (.ixS 3 (.t 20) (.t 22)), S 25 (.load true 3 (.t 24)), S 9 (.alloc [(.int .i64 0), (.int .i64 0), (.int .i64 0)]), SN (.store 3 (.t 9) (.t 25))]
@[simp] noncomputable def r7 (_ : Unit) : List Stp := [S 26 (.mv (.t 7)), S 27 (.fAddr 2 (.t 9)), S 28 (.load false 1 (.t 27)), S 29 (.bin .add (.t 28) (.c (.int .i64 1))), S 30 (.bin .mul (.t 26) (.t 29)), S 7 (.mv (.t 30))]
@[simp] noncomputable def r8 (_ : Unit) : List Stp := [S 31 (.bin .add (.t 22) (.c (.int .i64 1))), S 22 (.mv (.t 31))]
@[simp] noncomputable def r9 (_ : Unit) : List Stp := [S 32 (.mv (.t 7)), S 33 (.mv (.t 1)), S 34 (.bin .gtr (.t 32) (.t 33)), S 35 (.mv (.t 34)), SG 36 35 false (.fAddr 1 (.t 3)), SG 37 35 false (.load false 1 (.t 36)), SG 38 35 false (.len (.t 37)), SG 39 35 false (.mv (.t 2)), SG 40 35 false (.bin .gtr (.t 38) (.t 39)), S 41 (.pick (.t 35) (.c (.bool true)) (.t 40)), S 6 (.mv (.t 41))]
@[simp] noncomputable def ir : IR := (.seq (.ops r0) (.seq (.seq (.ops r1) (.cond (.t 16) (.seq (.ops r2) .ret) .skip)) (.seq (.ops r3) (.seq (.seq (.ops r4) (.block 0 (.loop (.seq (.ops r5) (.seq (.cond (.t 23) .skip (.exit 0)) (.seq (.block 1 (.seq (.ops r6) (.ops r7))) (.ops r8))))))) (.seq (.ops r9) .ret)))))
@[simp] noncomputable def rs : List RV := [.tmp 6]
theorem comp : compF Pg cfg Try.f12 = some (ir, rs, 42) := by kernel_rfl
theorem enter {args : List AVal} {h : Heap} {K : AEnd → Heap → Prop} (F : Nat) (hl : args.length ≤ 42) (a : AW ⟨Pg, F, 42, false, []⟩ ir (RetK rs K) (initT args) [] h) : ACalls Pg fn_law01_heavy args h K :=
  ACalls.of_comp follows Try.func12 comp hl a
theorem pure {args : List AVal} {v : AVal} (hl : args.length ≤ 42) (a : AW ⟨Pg, 0, 42, false, []⟩ ir (RetK rs fun e _ => e = .ret v) (initT args) [] nilH) : APure Pg fn_law01_heavy args v :=
  APure.of_nil (enter 0 hl a)
end law01_heavy

namespace law01_alive
noncomputable def cfg : Cfg := { pure := pures, pcs := [], raw := [], cuts := [], draws := [(10, [⟨0, false, [], []⟩, ⟨1, false, [], []⟩, ⟨2, false, [], []⟩, ⟨3, false, [], []⟩, ⟨4, false, [], []⟩, ⟨5, false, [], []⟩, ⟨6, false, [], []⟩, ⟨8, false, [], []⟩, ⟨7, false, [], []⟩, ⟨9, false, [], []⟩, ⟨10, false, [], []⟩, ⟨11, false, [], []⟩, ⟨12, false, [], []⟩, ⟨13, false, [], []⟩, ⟨14, false, [], []⟩, ⟨15, false, [], []⟩, ⟨17, false, [], []⟩, ⟨16, false, [], []⟩, ⟨18, false, [], []⟩, ⟨19, false, [], []⟩, ⟨20, false, [], []⟩, ⟨21, false, [], []⟩, ⟨22, false, [], []⟩, ⟨23, false, [], []⟩, ⟨24, false, [], []⟩, ⟨25, false, [], []⟩, ⟨26, false, [], []⟩, ⟨27, false, [], []⟩, ⟨28, false, [], []⟩, ⟨29, false, [], []⟩, ⟨30, false, [], []⟩, ⟨31, false, [], []⟩, ⟨32, false, [], []⟩, ⟨33, false, [], []⟩, ⟨34, false, [], []⟩, ⟨35, false, [], []⟩, ⟨36, false, [], []⟩, ⟨37, false, [], []⟩, ⟨38, false, [], []⟩, ⟨39, false, [], []⟩, ⟨40, false, [], []⟩, ⟨41, false, [], []⟩, ⟨42, false, [], []⟩, ⟨43, false, [], []⟩, ⟨44, false, [], []⟩, ⟨45, false, [], []⟩, ⟨46, false, [], []⟩, ⟨47, false, [], []⟩, ⟨48, false, [], []⟩, ⟨49, false, [], []⟩, ⟨50, false, [], []⟩, ⟨51, false, [], []⟩, ⟨52, false, [], []⟩, ⟨53, false, [], []⟩, ⟨54, false, [], []⟩, ⟨55, false, [], []⟩, ⟨56, false, [], []⟩, ⟨57, false, [], []⟩, ⟨59, false, [], []⟩, ⟨58, false, [], []⟩, ⟨60, false, [], []⟩, ⟨61, false, [], []⟩, ⟨62, false, [], []⟩, ⟨63, false, [], []⟩, ⟨64, false, [], []⟩, ⟨65, false, [], []⟩, ⟨66, false, [], []⟩, ⟨67, false, [], []⟩, ⟨68, false, [], []⟩, ⟨69, false, [], []⟩, ⟨70, false, [], []⟩, ⟨71, false, [], []⟩, ⟨72, false, [], []⟩, ⟨73, false, [], []⟩, ⟨74, false, [], []⟩, ⟨75, false, [], []⟩, ⟨76, false, [], []⟩, ⟨77, false, [], []⟩, ⟨78, false, [], []⟩, ⟨79, false, [], []⟩, ⟨80, false, [], []⟩, ⟨81, false, [], []⟩, ⟨82, false, [], []⟩, ⟨83, false, [], []⟩, ⟨84, false, [], []⟩, ⟨85, false, [], []⟩, ⟨86, false, [], []⟩, ⟨87, false, [], []⟩, ⟨88, false, [], []⟩, ⟨89, false, [], []⟩, ⟨90, false, [], []⟩])], keep := [] }
@[simp] noncomputable def r0 (_ : Unit) : List Stp := [S 0 (.mv (.c (.bool false)))]
@[simp] noncomputable def r1 (_ : Unit) : List Stp := [SP 24 (.call (.c (.func (.func fn_law01_sample) [] [])) [(.c (.bool false))]), SP 25 (.call (.c (.func (.func fn_leak_Wet) [] [])) [(.t 24), (.c (.int .i64 4)), (.c (.int .i64 1))]), S 23 (.mv (.t 25)), S 26 (.ext (.t 23) 0), S 27 (.ext (.t 23) 1), S 1 (.mv (.t 26)), S 2 (.mv (.t 27))]
@[simp] noncomputable def r2 (_ : Unit) : List Stp := [SP 29 (.call (.c (.func (.func fn_law01_sample) [] [])) [(.c (.bool false))]), SP 30 (.call (.c (.func (.func fn_leak_Rate) [] [])) [(.t 29), (.c (.int .i64 2))]), S 28 (.mv (.t 30)), S 31 (.ext (.t 28) 0), S 32 (.ext (.t 28) 1), S 3 (.alloc [(.int .i64 0), (.int .i64 0)]), SN (.store 2 (.t 3) (.t 31)), S 4 (.mv (.t 32))]
@[simp] noncomputable def r3 (_ : Unit) : List Stp := [SP 34 (.call (.c (.func (.func fn_law01_sample) [] [])) [(.c (.bool false))]), SP 35 (.call (.c (.func (.func fn_leak_Total) [] [])) [(.t 34), (.c (.int .i64 6))]), S 33 (.mv (.t 35)), S 36 (.ext (.t 33) 0), S 37 (.ext (.t 33) 1), S 5 (.alloc [(.int .i64 0), (.int .i64 0)]), SN (.store 2 (.t 5) (.t 36)), S 6 (.mv (.t 37))]
@[simp] noncomputable def r4 (_ : Unit) : List Stp := [SP 39 (.call (.c (.func (.func fn_law01_sample) [] [])) [(.c (.bool false))]), SP 40 (.call (.c (.func (.func fn_leak_Leaks) [] [])) [(.t 39)]), S 38 (.mv (.t 40)), S 41 (.ext (.t 38) 0), S 42 (.ext (.t 38) 1), S 43 (.ext (.t 38) 2), S 7 (.mv (.t 41)), S 8 (.mv (.t 42)), S 9 (.mv (.t 43))]
@[simp] noncomputable def r5 (_ : Unit) : List Stp := [SP 45 (.call (.c (.func (.func fn_law01_sample) [] [])) [(.c (.bool false))]), SP 46 (.call (.c (.func (.func fn_leak_Sets) [] [])) [(.t 45)]), S 44 (.mv (.t 46)), S 47 (.ext (.t 44) 0), S 48 (.ext (.t 44) 1), S 10 (.mv (.t 47)), S 11 (.mv (.t 48))]
@[simp] noncomputable def r6 (_ : Unit) : List Stp := [SP 50 (.call (.c (.func (.func fn_law01_sample) [] [])) [(.c (.bool false))]), SP 51 (.call (.c (.func (.func fn_leak_Fewest) [] [])) [(.t 50)]), S 49 (.mv (.t 51)), S 52 (.ext (.t 49) 0), S 53 (.ext (.t 49) 1), S 54 (.ext (.t 49) 2), S 12 (.mv (.t 52)), S 13 (.mv (.t 53)), S 14 (.mv (.t 54))]
@[simp] noncomputable def r7 (_ : Unit) : List Stp := [SP 56 (.call (.c (.func (.func fn_law01_sample) [] [])) [(.c (.bool false))]), SP 57 (.call (.c (.func (.func fn_leak_Flow) [] [])) [(.t 56), (.c (.int .i64 4)), (.c (.int .i64 1))]), S 55 (.mv (.t 57)), S 58 (.ext (.t 55) 0), S 59 (.ext (.t 55) 1), S 15 (.alloc [(.int .i64 0), (.int .i64 0)]), SN (.store 2 (.t 15) (.t 58)), S 16 (.mv (.t 59))]
@[simp] noncomputable def r8 (_ : Unit) : List Stp := [SP 61 (.call (.c (.func (.func fn_law01_sample) [] [])) [(.c (.bool false))]), SP 62 (.call (.c (.func (.func fn_leak_Next) [] [])) [(.t 61)]), S 60 (.mv (.t 62)), S 63 (.ext (.t 60) 0), S 64 (.ext (.t 60) 1), S 65 (.ext (.t 60) 2), S 66 (.ext (.t 60) 3), S 17 (.mv (.t 63)), S 18 (.mv (.t 64)), S 19 (.mv (.t 65)), S 20 (.mv (.t 66))]
@[simp] noncomputable def r9 (_ : Unit) : List Stp := [SP 68 (.call (.c (.func (.func fn_law01_sample) [] [])) [(.c (.bool true))]), SP 69 (.call (.c (.func (.func fn_leak_Clash) [] [])) [(.t 68)]), S 67 (.mv (.t 69)), S 70 (.ext (.t 67) 0), S 71 (.ext (.t 67) 1), S 21 (.mv (.t 70)), S 22 (.mv (.t 71))]
@[simp] noncomputable def r10 (_ : Unit) : List Stp := [S 72 (.mv (.t 1)), S 73 (.bin .eql (.t 72) (.c (.int .i64 5))), S 74 (.mv (.t 73)), SG 75 74 true (.mv (.t 2)), SG 76 74 true (.bin .eql (.t 75) (.c (.int .i64 0))), S 77 (.pick (.t 74) (.t 76) (.c (.bool false))), S 78 (.mv (.t 77)), SGP 80 78 true (.call (.c (.func (.func fn_law01_span) [] [])) [(.c (.int .i64 0)), (.c (.int .i64 3))]), SG 79 78 true (.load true 2 (.t 3)), SG 81 78 true (.eqA false [.i, .i] (.t 79) (.t 80)), S 82 (.pick (.t 78) (.t 81) (.c (.bool false))), S 83 (.mv (.t 82)), SG 84 83 true (.mv (.t 4)), SG 85 83 true (.bin .eql (.t 84) (.c (.int .i64 0))), S 86 (.pick (.t 83) (.t 85) (.c (.bool false))), S 87 (.mv (.t 86)), SGP 89 87 true (.call (.c (.func (.func fn_law01_span) [] [])) [(.c (.int .i64 2)), (.c (.int .i64 3))]), SG 88 87 true (.load true 2 (.t 5)), SG 90 87 true (.eqA false [.i, .i] (.t 88) (.t 89)), S 91 (.pick (.t 87) (.t 90) (.c (.bool false))), S 92 (.mv (.t 91)), SG 93 92 true (.mv (.t 6)), SG 94 92 true (.bin .eql (.t 93) (.c (.int .i64 0))), S 95 (.pick (.t 92) (.t 94) (.c (.bool false))), S 96 (.mv (.t 95)), SG 97 96 true (.mv (.t 7)), SG 98 96 true (.bin .eql (.t 97) (.c (.int .i64 7))), S 99 (.pick (.t 96) (.t 98) (.c (.bool false))), S 100 (.mv (.t 99)), SG 101 100 true (.mv (.t 8)), SG 102 100 true (.bin .eql (.t 101) (.c (.int .i64 1))), S 103 (.pick (.t 100) (.t 102) (.c (.bool false))), S 104 (.mv (.t 103)), SG 105 104 true (.mv (.t 9)), SG 106 104 true (.bin .eql (.t 105) (.c (.int .i64 0))), S 107 (.pick (.t 104) (.t 106) (.c (.bool false))), S 108 (.mv (.t 107)), SG 109 108 true (.mv (.t 10)), SG 110 108 true (.bsl 3 [(.int .i64 0), (.int .i64 0), (.int .i64 0)] [(0, 1, (.c (.int .i64 3))), (1, 1, (.c (.int .i64 5))), (2, 1, (.c (.int .i64 7)))]), SG 111 108 true (.call (.c (.func (.func fn_ref01_Ints) [] [])) [(.t 109), (.t 110)]), S 112 (.pick (.t 108) (.t 111) (.c (.bool false))), S 113 (.mv (.t 112)), SG 114 113 true (.mv (.t 11)), SG 115 113 true (.bin .eql (.t 114) (.c (.int .i64 0))), S 116 (.pick (.t 113) (.t 115) (.c (.bool false))), S 117 (.mv (.t 116)), SG 118 117 true (.mv (.t 12)), SG 119 117 true (.bin .eql (.t 118) (.c (.int .i64 2))), S 120 (.pick (.t 117) (.t 119) (.c (.bool false))), S 121 (.mv (.t 120)), SG 122 121 true (.mv (.t 13)), SG 123 121 true (.bin .eql (.t 122) (.c (.int .i64 3))), S 124 (.pick (.t 121) (.t 123) (.c (.bool false))), S 125 (.mv (.t 124)), SG 126 125 true (.mv (.t 14)), SG 127 125 true (.bin .eql (.t 126) (.c (.int .i64 0))), S 128 (.pick (.t 125) (.t 127) (.c (.bool false))), S 129 (.mv (.t 128)), SGP 131 129 true (.call (.c (.func (.func fn_law01_span) [] [])) [(.c (.int .i64 2)), (.c (.int .i64 4))]), SG 130 129 true (.load true 2 (.t 15)), SG 132 129 true (.eqA false [.i, .i] (.t 130) (.t 131)), S 133 (.pick (.t 129) (.t 132) (.c (.bool false))), S 134 (.mv (.t 133)), SG 135 134 true (.mv (.t 16)), SG 136 134 true (.bin .eql (.t 135) (.c (.int .i64 0))), S 137 (.pick (.t 134) (.t 136) (.c (.bool false))), S 138 (.mv (.t 137)), SG 139 138 true (.mv (.t 17)), SG 140 138 true (.bin .eql (.t 139) (.c (.int .i64 2))), S 141 (.pick (.t 138) (.t 140) (.c (.bool false))), S 142 (.mv (.t 141)), SG 143 142 true (.mv (.t 18)), SG 144 142 true (.bin .eql (.t 143) (.c (.int .i64 (-3)))), S 145 (.pick (.t 142) (.t 144) (.c (.bool false))), S 146 (.mv (.t 145)), SG 147 146 true (.mv (.t 19)), SG 148 146 true (.bin .eql (.t 147) (.c (.int .i64 2))), S 149 (.pick (.t 146) (.t 148) (.c (.bool false))), S 150 (.mv (.t 149)), SG 151 150 true (.mv (.t 20)), SG 152 150 true (.bin .eql (.t 151) (.c (.int .i64 0))), S 153 (.pick (.t 150) (.t 152) (.c (.bool false))), S 154 (.mv (.t 153)), SG 155 154 true (.mv (.t 21)), SG 156 154 true (.bin .eql (.t 155) (.c (.int .i64 5))), S 157 (.pick (.t 154) (.t 156) (.c (.bool false))), S 158 (.mv (.t 157)), SG 159 158 true (.mv (.t 22)), SG 160 158 true (.bin .eql (.t 159) (.c (.int .i64 0))), S 161 (.pick (.t 158) (.t 160) (.c (.bool false))), S 0 (.mv (.t 161))]
@[simp] noncomputable def ir : IR := (.seq (.ops r0) (.seq (.ops r1) (.seq (.ops r2) (.seq (.ops r3) (.seq (.ops r4) (.seq (.ops r5) (.seq (.ops r6) (.seq (.ops r7) (.seq (.ops r8) (.seq (.ops r9) (.seq (.ops r10) .ret)))))))))))
@[simp] noncomputable def rs : List RV := [.tmp 0]
theorem comp : compF Pg cfg Try.f13 = some (ir, rs, 162) := by kernel_rfl
theorem enter {args : List AVal} {h : Heap} {K : AEnd → Heap → Prop} (F : Nat) (hl : args.length ≤ 162) (a : AW ⟨Pg, F, 162, false, []⟩ ir (RetK rs K) (initT args) [] h) : ACalls Pg fn_law01_alive args h K :=
  ACalls.of_comp follows Try.func13 comp hl a
theorem pure {args : List AVal} {v : AVal} (hl : args.length ≤ 162) (a : AW ⟨Pg, 0, 162, false, []⟩ ir (RetK rs fun e _ => e = .ret v) (initT args) [] nilH) : APure Pg fn_law01_alive args v :=
  APure.of_nil (enter 0 hl a)
end law01_alive

namespace leak_Clash
noncomputable def cfg : Cfg := { pure := pures, pcs := [], raw := [], cuts := [], draws := [], keep := [2, 3] }
@[simp] noncomputable def r0 (_ : Unit) : List Stp := [S 1 (.box (.t 0)), S 2 (.mv (.c (.int .i64 0))), S 3 (.alloc [(.int .i64 0)])]
@[simp] noncomputable def r1 (_ : Unit) : List Stp := [S 7 (.mkF (.func fn_leak_Clash_1) [] [(.t 3)]), SN (.defer (.t 7) [])]
@[simp] noncomputable def r2 (_ : Unit) : List Stp := [S 8 (.load true 2 (.t 1)), S 9 (.call (.c (.func (.func fn_leak_open) [] [])) [(.t 8), (.c (.bool true))]), S 4 (.mv (.t 9))]
@[simp] noncomputable def r3 (_ : Unit) : List Stp := [S 10 (.mv (.t 4)), S 11 (.mv (.t 4)), S 12 (.call (.c (.func (.func fn_leak_hull_every) [] [])) [(.t 11)]), S 13 (.call (.c (.func (.func fn_leak_hull_can) [] [])) [(.t 10), (.t 12)]), S 14 (.un .not (.t 13)), S 15 (.call (.c (.func (.func fn_leak_want) [] [])) [(.t 14), (.c (.int .i64 4))])]
@[simp] noncomputable def r4 (_ : Unit) : List Stp := [S 16 (.mv (.t 4)), S 17 (.call (.c (.func (.func fn_leak_hull_every) [] [])) [(.t 16)]), S 5 (.mv (.t 17))]
@[simp] noncomputable def r5 (_ : Unit) : List Stp := [S 18 (.mv (.t 4)), S 19 (.call (.c (.func (.func fn_leak_hull_every) [] [])) [(.t 18)]), S 20 (.mv (.c (.int .u64 0)))]
@[simp] noncomputable def r6 (_ : Unit) : List Stp := [S 21 (.bin .lss (.t 20) (.t 19))]
@[simp] noncomputable def r7 (_ : Unit) : List Stp := [S 22 (.mv (.t 20)), S 6 (.mv (.t 22))]
@[simp] noncomputable def r8 (_ : Unit) : List Stp := [S 23 (.mv (.t 6)), SP 24 (.call (.c (.func (.func fn_math_bits_OnesCount) [] [])) [(.t 23)]), S 25 (.mv (.t 5)), SP 26 (.call (.c (.func (.func fn_math_bits_OnesCount) [] [])) [(.t 25)]), S 27 (.bin .lss (.t 24) (.t 26)), S 28 (.mv (.t 27)), SG 29 28 true (.mv (.t 4)), SG 30 28 true (.mv (.t 6)), SG 31 28 true (.call (.c (.func (.func fn_leak_hull_can) [] [])) [(.t 29), (.t 30)]), SG 32 28 true (.un .not (.t 31)), S 33 (.pick (.t 28) (.t 32) (.c (.bool false)))]
@[simp] noncomputable def r9 (_ : Unit) : List Stp := [S 34 (.mv (.t 6)), S 5 (.mv (.t 34))]
@[simp] noncomputable def r10 (_ : Unit) : List Stp := [S 35 (.bin .add (.t 20) (.c (.int .u64 1))), S 20 (.mv (.t 35))]
@[simp] noncomputable def r11 (_ : Unit) : List Stp := [S 36 (.mv (.t 5)), S 37 (.conv .i64 (.t 36)), S 2 (.mv (.t 37)), SN (.store 1 (.t 3) (.c (.int .i64 0)))]
@[simp] noncomputable def ir : IR := (.seq (.ops r0) (.seq (.ops r1) (.seq (.ops r2) (.seq (.ops r3) (.seq (.ops r4) (.seq (.seq (.ops r5) (.block 0 (.loop (.seq (.ops r6) (.seq (.cond (.t 21) .skip (.exit 0)) (.seq (.block 1 (.seq (.ops r7) (.seq (.ops r8) (.cond (.t 33) (.ops r9) .skip)))) (.ops r10))))))) (.seq (.ops r11) .ret)))))))
@[simp] noncomputable def rs : List RV := [.tmp 2, .cell 3 false 1]
theorem comp : compF Pg cfg Try.f14 = some (ir, rs, 38) := by kernel_rfl
theorem enter {args : List AVal} {h : Heap} {K : AEnd → Heap → Prop} (F : Nat) (hl : args.length ≤ 38) (a : AW ⟨Pg, F, 38, false, [2, 3]⟩ ir (RetD Pg rs K) (initT args) [] h) : ACalls Pg fn_leak_Clash args h K :=
  ACalls.of_comp_defer follows Try.func14 comp hl a
theorem pure {args : List AVal} {v : AVal} (hl : args.length ≤ 38) (a : AW ⟨Pg, 0, 38, false, [2, 3]⟩ ir (RetD Pg rs fun e _ => e = .ret v) (initT args) [] nilH) : APure Pg fn_leak_Clash args v :=
  APure.of_nil (enter 0 hl a)
end leak_Clash

namespace ref01_Clash
noncomputable def cfg : Cfg := { pure := pures, pcs := [], raw := [], cuts := [], draws := [], keep := [] }
@[simp] noncomputable def r0 (_ : Unit) : List Stp := [S 1 (.box (.t 0)), S 2 (.mv (.c (.int .i64 0))), S 3 (.mv (.c (.int .i64 0)))]
@[simp] noncomputable def r1 (_ : Unit) : List Stp := [S 6 (.load true 2 (.t 1)), SP 7 (.call (.c (.func (.func fn_ref01_Hull) [] [])) [(.t 6)]), S 8 (.un .not (.t 7))]
@[simp] noncomputable def r2 (_ : Unit) : List Stp := [S 2 (.mv (.c (.int .i64 0))), S 3 (.mv (.c (.int .i64 1)))]
@[simp] noncomputable def r3 (_ : Unit) : List Stp := [S 9 (.load true 2 (.t 1)), SP 10 (.call (.c (.func (.func fn_ref01_every) [] [])) [(.t 9)]), S 4 (.mv (.t 10))]
@[simp] noncomputable def r4 (_ : Unit) : List Stp := [S 11 (.load true 2 (.t 1)), SP 12 (.call (.c (.func (.func fn_ref01_Truths) [] [])) [(.t 11)]), S 13 (.len (.t 12)), S 14 (.bin .gtr (.t 13) (.c (.int .i64 0)))]
@[simp] noncomputable def r5 (_ : Unit) : List Stp := [S 2 (.mv (.c (.int .i64 0))), S 3 (.mv (.c (.int .i64 4)))]
@[simp] noncomputable def r6 (_ : Unit) : List Stp := [S 5 (.mv (.c (.int .i64 0)))]
@[simp] noncomputable def r7 (_ : Unit) : List Stp := [S 15 (.mv (.t 5)), S 16 (.load true 2 (.t 1)), SP 17 (.call (.c (.func (.func fn_ref01_every) [] [])) [(.t 16)]), S 18 (.bin .leq (.t 15) (.t 17))]
@[simp] noncomputable def r9 (_ : Unit) : List Stp := [S 21 (.mv (.t 5)), SP 22 (.call (.c (.func (.func fn_ref01_Size) [] [])) [(.t 21)]), S 23 (.mv (.t 4)), SP 24 (.call (.c (.func (.func fn_ref01_Size) [] [])) [(.t 23)]), S 25 (.bin .lss (.t 22) (.t 24)), S 26 (.mv (.t 25)), SG 27 26 true (.load true 2 (.t 1)), SG 28 26 true (.mv (.t 5)), SG 29 26 true (.call (.c (.func (.func fn_ref01_truths) [] [])) [(.t 27), (.t 28), (.c .nils), (.c .nils)]), SG 30 26 true (.len (.t 29)), SG 31 26 true (.bin .eql (.t 30) (.c (.int .i64 0))), S 32 (.pick (.t 26) (.t 31) (.c (.bool false)))]
@[simp] noncomputable def r10 (_ : Unit) : List Stp := [S 33 (.mv (.t 5)), S 4 (.mv (.t 33))]
@[simp] noncomputable def r8 (_ : Unit) : List Stp := [S 19 (.mv (.t 5)), S 20 (.bin .add (.t 19) (.c (.int .i64 1))), S 5 (.mv (.t 20))]
@[simp] noncomputable def r11 (_ : Unit) : List Stp := [S 34 (.mv (.t 4)), S 2 (.mv (.t 34)), S 3 (.mv (.c (.int .i64 0)))]
@[simp] noncomputable def ir : IR := (.seq (.ops r0) (.seq (.seq (.ops r1) (.cond (.t 8) (.seq (.ops r2) .ret) .skip)) (.seq (.ops r3) (.seq (.seq (.ops r4) (.cond (.t 14) (.seq (.ops r5) .ret) .skip)) (.seq (.seq (.ops r6) (.block 0 (.loop (.seq (.seq (.ops r7) (.cond (.t 18) .skip (.exit 0))) (.seq (.block 1 (.seq (.ops r9) (.cond (.t 32) (.ops r10) .skip))) (.ops r8)))))) (.seq (.ops r11) .ret))))))
@[simp] noncomputable def rs : List RV := [.tmp 2, .tmp 3]
theorem comp : compF Pg cfg Try.f15 = some (ir, rs, 35) := by kernel_rfl
theorem enter {args : List AVal} {h : Heap} {K : AEnd → Heap → Prop} (F : Nat) (hl : args.length ≤ 35) (a : AW ⟨Pg, F, 35, false, []⟩ ir (RetK rs K) (initT args) [] h) : ACalls Pg fn_ref01_Clash args h K :=
  ACalls.of_comp follows Try.func15 comp hl a
theorem pure {args : List AVal} {v : AVal} (hl : args.length ≤ 35) (a : AW ⟨Pg, 0, 35, false, []⟩ ir (RetK rs fun e _ => e = .ret v) (initT args) [] nilH) : APure Pg fn_ref01_Clash args v :=
  APure.of_nil (enter 0 hl a)
end ref01_Clash

namespace leak_Wet
noncomputable def cfg : Cfg := { pure := pures, pcs := [], raw := [], cuts := [], draws := [(3, [⟨0, false, [], []⟩, ⟨1, false, [], []⟩, ⟨2, false, [], []⟩, ⟨3, false, [], []⟩, ⟨4, false, [], []⟩])], keep := [6, 7] }
@[simp] noncomputable def r0 (_ : Unit) : List Stp := [S 3 (.box (.t 0)), S 6 (.mv (.c (.int .i64 0))), S 7 (.alloc [(.int .i64 0)])]
@[simp] noncomputable def r1 (_ : Unit) : List Stp := [S 10 (.mkF (.func fn_leak_Wet_1) [] [(.t 7)]), SN (.defer (.t 10) [])]
@[simp] noncomputable def r2 (_ : Unit) : List Stp := [S 11 (.mv (.t 1)), S 12 (.mv (.t 2)), S 13 (.build [(.int .i64 0), (.int .i64 0)] [(0, 1, (.t 11)), (1, 1, (.t 12))]), S 8 (.alloc [(.int .i64 0), (.int .i64 0)]), SN (.store 2 (.t 8) (.t 13))]
@[simp] noncomputable def r3 (_ : Unit) : List Stp := [S 14 (.load true 2 (.t 3)), S 15 (.load true 2 (.t 8)), SP 16 (.call (.c (.func (.func fn_leak_place_isPlace) [] [])) [(.t 15)]), S 17 (.call (.c (.func (.func fn_leak_open) [] [])) [(.t 14), (.t 16)]), S 9 (.mv (.t 17))]
@[simp] noncomputable def r4 (_ : Unit) : List Stp := [S 18 (.mv (.t 9)), S 19 (.load true 2 (.t 8)), S 20 (.call (.c (.func (.func fn_leak_hull_wet) [] [])) [(.t 18), (.t 19)]), S 21 (.conv .i64 (.t 20)), S 6 (.mv (.t 21)), SN (.store 1 (.t 7) (.c (.int .i64 0)))]
@[simp] noncomputable def ir : IR := (.seq (.ops r0) (.seq (.ops r1) (.seq (.ops r2) (.seq (.ops r3) (.seq (.ops r4) .ret)))))
@[simp] noncomputable def rs : List RV := [.tmp 6, .cell 7 false 1]
theorem comp : compF Pg cfg Try.f16 = some (ir, rs, 22) := by kernel_rfl
theorem enter {args : List AVal} {h : Heap} {K : AEnd → Heap → Prop} (F : Nat) (hl : args.length ≤ 22) (a : AW ⟨Pg, F, 22, false, [6, 7]⟩ ir (RetD Pg rs K) (initT args) [] h) : ACalls Pg fn_leak_Wet args h K :=
  ACalls.of_comp_defer follows Try.func16 comp hl a
theorem pure {args : List AVal} {v : AVal} (hl : args.length ≤ 22) (a : AW ⟨Pg, 0, 22, false, [6, 7]⟩ ir (RetD Pg rs fun e _ => e = .ret v) (initT args) [] nilH) : APure Pg fn_leak_Wet args v :=
  APure.of_nil (enter 0 hl a)
end leak_Wet

namespace law01_sample
noncomputable def cfg : Cfg := { pure := pures, pcs := [], raw := [], cuts := [], draws := [], keep := [] }
@[simp] noncomputable def r0 (_ : Unit) : List Stp := [S 2 (.alloc [.nils, .nils])]
@[simp] noncomputable def r1 (_ : Unit) : List Stp := [S 4 (.build [(.int .i64 0), (.int .i64 0), (.int .i64 0)] [(0, 1, (.c (.int .i64 2))), (1, 1, (.c (.int .i64 0))), (2, 1, (.c (.int .i64 3)))]), S 5 (.build [(.int .i64 0), (.int .i64 0), (.int .i64 0)] [(0, 1, (.c (.int .i64 5))), (1, 1, (.c (.int .i64 (-1)))), (2, 1, (.c (.int .i64 2)))]), S 6 (.build [(.int .i64 0), (.int .i64 0), (.int .i64 0)] [(0, 1, (.c (.int .i64 5))), (1, 1, (.c (.int .i64 1))), (2, 1, (.c (.int .i64 4)))]), S 7 (.bsl 3 [(.int .i64 0), (.int .i64 0), (.int .i64 0), (.int .i64 0), (.int .i64 0), (.int .i64 0), (.int .i64 0), (.int .i64 0), (.int .i64 0)] [(0, 3, (.t 4)), (3, 3, (.t 5)), (6, 3, (.t 6))]), SP 8 (.call (.c (.func (.func fn_law01_span) [] [])) [(.c (.int .i64 1)), (.c (.int .i64 2))]), S 9 (.build [(.int .i64 0), (.int .i64 0), (.int .i64 0), (.int .i64 0)] [(0, 1, (.c (.int .i64 3))), (2, 2, (.t 8))]), SP 10 (.call (.c (.func (.func fn_law01_span) [] [])) [(.c (.int .i64 4)), (.c (.int .i64 4))]), S 11 (.build [(.int .i64 0), (.int .i64 0), (.int .i64 0), (.int .i64 0)] [(0, 1, (.c (.int .i64 6))), (2, 2, (.t 10))]), S 12 (.bsl 2 [(.int .i64 0), (.int .i64 0), (.int .i64 0), (.int .i64 0), (.int .i64 0), (.int .i64 0), (.int .i64 0), (.int .i64 0)] [(0, 4, (.t 9)), (4, 4, (.t 11))]), S 13 (.build [.nils, .nils] [(0, 1, (.t 7)), (1, 1, (.t 12))]), S 3 (.alloc [.nils, .nils]), SN (.store 2 (.t 3) (.t 13))]
@[simp] noncomputable def r2 (_ : Unit) : List Stp := [S 14 (.mv (.t 0))]
@[simp] noncomputable def r3 (_ : Unit) : List Stp := [S 15 (.fAddr 1 (.t 3)), S 16 (.load false 1 (.t 15)), S 17 (.build [(.int .i64 0), (.int .i64 0), (.int .i64 0), (.int .i64 0)] [(0, 1, (.c (.int .i64 4))), (1, 1, (.c (.int .i64 (-1))))]), S 18 (.bsl 1 [(.int .i64 0), (.int .i64 0), (.int .i64 0), (.int .i64 0)] [(0, 4, (.t 17))]), S 19 (.app 4 32 (.t 16) (.t 18)), S 20 (.fAddr 1 (.t 3)), SN (.store 1 (.t 20) (.t 19))]
@[simp] noncomputable def r4 (_ : Unit) : List Stp := [S 21 (.load true 2 (.t 3)), SN (.store 2 (.t 2) (.t 21))]
@[simp] noncomputable def ir : IR := (.seq (.ops r0) (.seq (.ops r1) (.seq (.seq (.ops r2) (.cond (.t 14) (.ops r3) .skip)) (.seq (.ops r4) .ret))))
@[simp] noncomputable def rs : List RV := [.cell 2 true 2]
theorem comp : compF Pg cfg Try.f17 = some (ir, rs, 22) := by kernel_rfl
theorem enter {args : List AVal} {h : Heap} {K : AEnd → Heap → Prop} (F : Nat) (hl : args.length ≤ 22) (a : AW ⟨Pg, F, 22, false, []⟩ ir (RetK rs K) (initT args) [] h) : ACalls Pg fn_law01_sample args h K :=
  ACalls.of_comp follows Try.func17 comp hl a
theorem pure {args : List AVal} {v : AVal} (hl : args.length ≤ 22) (a : AW ⟨Pg, 0, 22, false, []⟩ ir (RetK rs fun e _ => e = .ret v) (initT args) [] nilH) : APure Pg fn_law01_sample args v :=
  APure.of_nil (enter 0 hl a)
end law01_sample

namespace law01_span
noncomputable def cfg : Cfg := { pure := pures, pcs := [], raw := [], cuts := [], draws := [], keep := [] }
@[simp] noncomputable def r0 (_ : Unit) : List Stp := [S 4 (.alloc [(.int .i64 0), (.int .i64 0)])]
@[simp] noncomputable def r1 (_ : Unit) : List Stp := [S 5 (.mv (.t 0)), S 6 (.mv (.t 1)), S 7 (.build [(.int .i64 0), (.int .i64 0)] [(0, 1, (.t 5)), (1, 1, (.t 6))]), SN (.store 2 (.t 4) (.t 7))]
@[simp] noncomputable def ir : IR := (.seq (.ops r0) (.seq (.ops r1) .ret))
@[simp] noncomputable def rs : List RV := [.cell 4 true 2]
theorem comp : compF Pg cfg Try.f18 = some (ir, rs, 8) := by kernel_rfl
theorem enter {args : List AVal} {h : Heap} {K : AEnd → Heap → Prop} (F : Nat) (hl : args.length ≤ 8) (a : AW ⟨Pg, F, 8, false, []⟩ ir (RetK rs K) (initT args) [] h) : ACalls Pg fn_law01_span args h K :=
  ACalls.of_comp follows Try.func18 comp hl a
theorem pure {args : List AVal} {v : AVal} (hl : args.length ≤ 8) (a : AW ⟨Pg, 0, 8, false, []⟩ ir (RetK rs fun e _ => e = .ret v) (initT args) [] nilH) : APure Pg fn_law01_span args v :=
  APure.of_nil (enter 0 hl a)
end law01_span

namespace leak_Rate
noncomputable def cfg : Cfg := { pure := pures, pcs := [], raw := [], cuts := [], draws := [(2, [⟨1, false, [], []⟩, ⟨2, false, [], []⟩, ⟨0, false, [], []⟩, ⟨3, false, [], []⟩, ⟨4, false, [], []⟩, ⟨5, false, [], []⟩, ⟨6, false, [], []⟩, ⟨7, false, [], []⟩, ⟨8, false, [], []⟩])], keep := [4, 5] }
@[simp] noncomputable def r0 (_ : Unit) : List Stp := [S 2 (.box (.t 0)), S 4 (.alloc [(.int .i64 0), (.int .i64 0)]), S 5 (.alloc [(.int .i64 0)])]
@[simp] noncomputable def r1 (_ : Unit) : List Stp := [S 7 (.mkF (.func fn_leak_Rate_1) [] [(.t 5)]), SN (.defer (.t 7) [])]
@[simp] noncomputable def r2 (_ : Unit) : List Stp := [S 9 (.mv (.t 1)), S 10 (.fAddr 0 (.t 2)), S 8 (.load true 2 (.t 2)), S 11 (.load false 1 (.t 10)), S 12 (.len (.t 11)), S 13 (.bin .sub (.t 12) (.c (.int .i64 1))), SP 14 (.call (.c (.func (.func fn_leak_within) [] [])) [(.t 9), (.c (.int .i64 0)), (.t 13)]), S 15 (.call (.c (.func (.func fn_leak_open) [] [])) [(.t 8), (.t 14)]), S 6 (.mv (.t 15))]
@[simp] noncomputable def r3 (_ : Unit) : List Stp := [S 16 (.mv (.t 6)), S 17 (.mv (.t 1)), S 18 (.bin .shl (.c (.int .u64 1)) (.t 17)), S 19 (.call (.c (.func (.func fn_leak_hull_total) [] [])) [(.t 16), (.t 18)]), SN (.store 2 (.t 4) (.t 19)), SN (.store 1 (.t 5) (.c (.int .i64 0)))]
@[simp] noncomputable def ir : IR := (.seq (.ops r0) (.seq (.ops r1) (.seq (.ops r2) (.seq (.ops r3) .ret))))
@[simp] noncomputable def rs : List RV := [.cell 4 true 2, .cell 5 false 1]
theorem comp : compF Pg cfg Try.f19 = some (ir, rs, 20) := by kernel_rfl
theorem enter {args : List AVal} {h : Heap} {K : AEnd → Heap → Prop} (F : Nat) (hl : args.length ≤ 20) (a : AW ⟨Pg, F, 20, false, [4, 5]⟩ ir (RetD Pg rs K) (initT args) [] h) : ACalls Pg fn_leak_Rate args h K :=
  ACalls.of_comp_defer follows Try.func19 comp hl a
theorem pure {args : List AVal} {v : AVal} (hl : args.length ≤ 20) (a : AW ⟨Pg, 0, 20, false, [4, 5]⟩ ir (RetD Pg rs fun e _ => e = .ret v) (initT args) [] nilH) : APure Pg fn_leak_Rate args v :=
  APure.of_nil (enter 0 hl a)
end leak_Rate

namespace leak_Flow
noncomputable def cfg : Cfg := { pure := pures, pcs := [], raw := [], cuts := [], draws := [(3, [⟨0, false, [], []⟩, ⟨1, false, [], []⟩, ⟨2, false, [], []⟩, ⟨3, false, [], []⟩, ⟨4, false, [], []⟩])], keep := [6, 7] }
@[simp] noncomputable def r0 (_ : Unit) : List Stp := [S 3 (.box (.t 0)), S 6 (.alloc [(.int .i64 0), (.int .i64 0)]), S 7 (.alloc [(.int .i64 0)])]
@[simp] noncomputable def r1 (_ : Unit) : List Stp := [S 10 (.mkF (.func fn_leak_Flow_1) [] [(.t 7)]), SN (.defer (.t 10) [])]
@[simp] noncomputable def r2 (_ : Unit) : List Stp := [S 11 (.mv (.t 1)), S 12 (.mv (.t 2)), S 13 (.build [(.int .i64 0), (.int .i64 0)] [(0, 1, (.t 11)), (1, 1, (.t 12))]), S 8 (.alloc [(.int .i64 0), (.int .i64 0)]), SN (.store 2 (.t 8) (.t 13))]
@[simp] noncomputable def r3 (_ : Unit) : List Stp := [S 14 (.load true 2 (.t 3)), S 15 (.load true 2 (.t 8)), SP 16 (.call (.c (.func (.func fn_leak_place_isPlace) [] [])) [(.t 15)]), S 17 (.call (.c (.func (.func fn_leak_open) [] [])) [(.t 14), (.t 16)]), S 9 (.mv (.t 17))]
@[simp] noncomputable def r4 (_ : Unit) : List Stp := [S 18 (.mv (.t 9)), S 19 (.mv (.t 9)), S 20 (.load true 2 (.t 8)), S 21 (.call (.c (.func (.func fn_leak_hull_wet) [] [])) [(.t 19), (.t 20)]), S 22 (.call (.c (.func (.func fn_leak_hull_total) [] [])) [(.t 18), (.t 21)]), SN (.store 2 (.t 6) (.t 22)), SN (.store 1 (.t 7) (.c (.int .i64 0)))]
@[simp] noncomputable def ir : IR := (.seq (.ops r0) (.seq (.ops r1) (.seq (.ops r2) (.seq (.ops r3) (.seq (.ops r4) .ret)))))
@[simp] noncomputable def rs : List RV := [.cell 6 true 2, .cell 7 false 1]
theorem comp : compF Pg cfg Try.f20 = some (ir, rs, 23) := by kernel_rfl
theorem enter {args : List AVal} {h : Heap} {K : AEnd → Heap → Prop} (F : Nat) (hl : args.length ≤ 23) (a : AW ⟨Pg, F, 23, false, [6, 7]⟩ ir (RetD Pg rs K) (initT args) [] h) : ACalls Pg fn_leak_Flow args h K :=
  ACalls.of_comp_defer follows Try.func20 comp hl a
theorem pure {args : List AVal} {v : AVal} (hl : args.length ≤ 23) (a : AW ⟨Pg, 0, 23, false, [6, 7]⟩ ir (RetD Pg rs fun e _ => e = .ret v) (initT args) [] nilH) : APure Pg fn_leak_Flow args v :=
  APure.of_nil (enter 0 hl a)
end leak_Flow

namespace law01_draws
noncomputable def cfg : Cfg := { pure := pures, pcs := [], raw := [], cuts := [], draws := [], keep := [] }
@[simp] noncomputable def r0 (_ : Unit) : List Stp := [S 1 (.box (.t 0)), S 2 (.mv (.c .nilf))]
@[simp] noncomputable def r1 (_ : Unit) : List Stp := [S 3 (.alloc [(.int .i64 0)]), SN (.store 1 (.t 3) (.c (.int .i64 0)))]
@[simp] noncomputable def r2 (_ : Unit) : List Stp := [S 4 (.mkF (.func fn_law01_draws_1) [] [(.t 3), (.t 1)]), S 2 (.mv (.t 4))]
@[simp] noncomputable def ir : IR := (.seq (.ops r0) (.seq (.ops r1) (.seq (.ops r2) .ret)))
@[simp] noncomputable def rs : List RV := [.tmp 2]
theorem comp : compF Pg cfg Try.f21 = some (ir, rs, 5) := by kernel_rfl
theorem enter {args : List AVal} {h : Heap} {K : AEnd → Heap → Prop} (F : Nat) (hl : args.length ≤ 5) (a : AW ⟨Pg, F, 5, false, []⟩ ir (RetK rs K) (initT args) [] h) : ACalls Pg fn_law01_draws args h K :=
  ACalls.of_comp follows Try.func21 comp hl a
theorem pure {args : List AVal} {v : AVal} (hl : args.length ≤ 5) (a : AW ⟨Pg, 0, 5, false, []⟩ ir (RetK rs fun e _ => e = .ret v) (initT args) [] nilH) : APure Pg fn_law01_draws args v :=
  APure.of_nil (enter 0 hl a)
end law01_draws

namespace law01_made
noncomputable def cfg : Cfg := { pure := pures, pcs := [], raw := [], cuts := [], draws := [(13, [⟨0, false, [], []⟩, ⟨2, false, [], []⟩, ⟨3, false, [], []⟩, ⟨4, false, [], []⟩, ⟨5, false, [], []⟩, ⟨9, false, [], []⟩, ⟨10, false, [], []⟩, ⟨1, false, [], []⟩, ⟨6, false, [], [1]⟩, ⟨7, false, [], []⟩, ⟨8, false, [], []⟩, ⟨11, false, [], [1]⟩, ⟨12, false, [], []⟩, ⟨13, false, [], []⟩, ⟨14, false, [], []⟩, ⟨15, false, [], []⟩, ⟨16, true, [], []⟩, ⟨17, false, [], []⟩, ⟨18, false, [], []⟩, ⟨19, false, [], []⟩])], keep := [] }
@[simp] noncomputable def r0 (_ : Unit) : List Stp := [S 2 (.alloc [.nils, .nils]), S 3 (.mv (.c .nils))]
@[simp] noncomputable def r1 (_ : Unit) : List Stp := [S 9 (.mv (.t 0)), S 10 (.call (.t 9) [(.c (.int .i64 6))]), S 11 (.bin .add (.c (.int .i64 1)) (.t 10)), S 12 (.mv (.c (.int .i64 0)))]
@[simp] noncomputable def r2 (_ : Unit) : List Stp := [S 13 (.bin .lss (.t 12) (.t 11))]
@[simp] noncomputable def r3 (_ : Unit) : List Stp := [S 14 (.mv (.t 0)), S 15 (.call (.t 14) [(.c (.int .i64 13))]), S 16 (.mv (.t 0)), S 17 (.call (.t 16) [(.c (.int .i64 3))]), S 18 (.bin .sub (.t 17) (.c (.int .i64 1))), S 19 (.mv (.t 0)), S 20 (.call (.t 19) [(.c (.int .i64 5))]), S 21 (.build [(.int .i64 0), (.int .i64 0), (.int .i64 0)] [(0, 1, (.t 15)), (1, 1, (.t 18)), (2, 1, (.t 20))]), S 4 (.alloc [(.int .i64 0), (.int .i64 0), (.int .i64 0)]), SN (.store 3 (.t 4) (.t 21))]
@[simp] noncomputable def r4 (_ : Unit) : List Stp := [S 5 (.mv (.c (.int .i64 0)))]
@[simp] noncomputable def r5 (_ : Unit) : List Stp := [S 22 (.mv (.t 0)), S 23 (.call (.t 22) [(.c (.int .i64 2))]), S 24 (.bin .eql (.t 23) (.c (.int .i64 0)))]
@[simp] noncomputable def r6 (_ : Unit) : List Stp := [S 25 (.mv (.t 0)), S 26 (.fAddr 2 (.t 4)), S 27 (.load false 1 (.t 26)), S 28 (.bin .add (.t 27) (.c (.int .i64 1))), S 29 (.call (.t 25) [(.t 28)]), S 5 (.mv (.t 29))]
@[simp] noncomputable def r7 (_ : Unit) : List Stp := [S 30 (.fAddr 0 (.t 2)), S 31 (.load false 1 (.t 30)), S 32 (.load true 3 (.t 4)), S 33 (.bsl 1 [(.int .i64 0), (.int .i64 0), (.int .i64 0)] [(0, 3, (.t 32))]), S 34 (.app 3 24 (.t 31) (.t 33)), S 35 (.mv (.t 3)), S 36 (.mv (.t 5)), S 37 (.bsl 1 [(.int .i64 0)] [(0, 1, (.t 36))]), S 38 (.app 1 8 (.t 35) (.t 37)), S 39 (.fAddr 0 (.t 2)), SN (.store 1 (.t 39) (.t 34)), S 3 (.mv (.t 38))]
@[simp] noncomputable def r8 (_ : Unit) : List Stp := [S 40 (.bin .add (.t 12) (.c (.int .i64 1))), S 12 (.mv (.t 40))]
@[simp] noncomputable def r9 (_ : Unit) : List Stp := [S 41 (.mv (.t 0)), S 42 (.call (.t 41) [(.c (.int .i64 9))]), S 43 (.mv (.c (.int .i64 0)))]
@[simp] noncomputable def r10 (_ : Unit) : List Stp := [S 44 (.bin .lss (.t 43) (.t 42))]
@[simp] noncomputable def r11 (_ : Unit) : List Stp := [S 45 (.mv (.t 0)), S 46 (.call (.t 45) [(.c (.int .i64 13))]), S 47 (.mv (.t 0)), S 48 (.call (.t 47) [(.c (.int .i64 7))]), S 49 (.bin .sub (.t 48) (.c (.int .i64 3))), S 6 (.mv (.t 46)), S 7 (.mv (.t 49))]
@[simp] noncomputable def r12 (_ : Unit) : List Stp := [S 50 (.load true 2 (.t 2)), S 51 (.mv (.t 3)), S 52 (.mv (.t 6)), S 53 (.mv (.t 7)), SP 54 (.call (.c (.func (.func fn_law01_flow) [] [])) [(.t 50), (.t 51), (.t 52), (.t 53)]), S 8 (.mv (.t 54))]
@[simp] noncomputable def r13 (_ : Unit) : List Stp := [S 55 (.fAddr 1 (.t 2)), S 57 (.mv (.t 6)), S 58 (.mv (.t 7)), S 59 (.mv (.t 8)), S 60 (.mv (.t 0)), S 64 (.mv (.t 8)), S 65 (.mv (.t 0)), S 56 (.load false 1 (.t 55)), SD (some 61) (.call (.t 60) [(.c (.int .i64 2))]) false [] [I 56 (.load false 1 (.t 55))], S 62 (.bin .sub (.t 59) (.t 61)), S 63 (.mm true [(.c (.int .i64 0)), (.t 62)]), SD (some 66) (.call (.t 65) [(.c (.int .i64 3))]) false [] [I 56 (.load false 1 (.t 55))], S 67 (.bin .add (.t 64) (.t 66)), S 68 (.mm false [(.c (.int .i64 24)), (.t 67)]), SP 69 (.call (.c (.func (.func fn_law01_span) [] [])) [(.t 63), (.t 68)]), S 70 (.build [(.int .i64 0), (.int .i64 0), (.int .i64 0), (.int .i64 0)] [(0, 1, (.t 57)), (1, 1, (.t 58)), (2, 2, (.t 69))]), SD (some 71) (.bsl 1 [(.int .i64 0), (.int .i64 0), (.int .i64 0), (.int .i64 0)] [(0, 4, (.t 70))]) true [] [], S 72 (.app 4 32 (.t 56) (.t 71)), S 73 (.fAddr 1 (.t 2)), SN (.store 1 (.t 73) (.t 72))]
@[simp] noncomputable def r14 (_ : Unit) : List Stp := [S 74 (.bin .add (.t 43) (.c (.int .i64 1))), S 43 (.mv (.t 74))]
@[simp] noncomputable def r15 (_ : Unit) : List Stp := [S 75 (.load true 2 (.t 2)), S 76 (.mv (.t 3)), SN (.store 2 (.t 2) (.t 75)), S 3 (.mv (.t 76))]
@[simp] noncomputable def ir : IR := (.seq (.ops r0) (.seq (.seq (.ops r1) (.block 0 (.loop (.seq (.ops r2) (.seq (.cond (.t 13) .skip (.exit 0)) (.seq (.block 1 (.seq (.ops r3) (.seq (.ops r4) (.seq (.seq (.ops r5) (.cond (.t 24) (.ops r6) .skip)) (.ops r7))))) (.ops r8))))))) (.seq (.seq (.ops r9) (.block 2 (.loop (.seq (.ops r10) (.seq (.cond (.t 44) .skip (.exit 2)) (.seq (.block 3 (.seq (.ops r11) (.seq (.ops r12) (.ops r13)))) (.ops r14))))))) (.seq (.ops r15) .ret))))
@[simp] noncomputable def rs : List RV := [.cell 2 true 2, .tmp 3]
theorem comp : compF Pg cfg Try.f22 = some (ir, rs, 77) := by kernel_rfl
theorem enter {args : List AVal} {h : Heap} {K : AEnd → Heap → Prop} (F : Nat) (hl : args.length ≤ 77) (a : AW ⟨Pg, F, 77, false, []⟩ ir (RetK rs K) (initT args) [] h) : ACalls Pg fn_law01_made args h K :=
  ACalls.of_comp follows Try.func22 comp hl a
theorem pure {args : List AVal} {v : AVal} (hl : args.length ≤ 77) (a : AW ⟨Pg, 0, 77, false, []⟩ ir (RetK rs fun e _ => e = .ret v) (initT args) [] nilH) : APure Pg fn_law01_made args v :=
  APure.of_nil (enter 0 hl a)
end law01_made

namespace leak_Leaks
noncomputable def cfg : Cfg := { pure := pures, pcs := [], raw := [], cuts := [], draws := [], keep := [2, 3, 4] }
@[simp] noncomputable def r0 (_ : Unit) : List Stp := [S 1 (.box (.t 0)), S 2 (.mv (.c (.int .i64 0))), S 3 (.mv (.c (.int .i64 0))), S 4 (.alloc [(.int .i64 0)])]
@[simp] noncomputable def r1 (_ : Unit) : List Stp := [S 10 (.mkF (.func fn_leak_Leaks_1) [] [(.t 4)]), SN (.defer (.t 10) [])]
@[simp] noncomputable def r2 (_ : Unit) : List Stp := [S 5 (.mv (.c (.int .u64 63))), S 6 (.mv (.c (.int .u64 0)))]
@[simp] noncomputable def r3 (_ : Unit) : List Stp := [S 11 (.load true 2 (.t 1)), S 12 (.call (.c (.func (.func fn_leak_open) [] [])) [(.t 11), (.c (.bool true))]), S 13 (.call (.c (.func (.func fn_leak_hull_truths) [] [])) [(.t 12)]), S 14 (.len (.t 13)), S 15 (.mv (.c (.int .i64 0)))]
@[simp] noncomputable def r4 (_ : Unit) : List Stp := [S 16 (.bin .lss (.t 15) (.t 14))]
@[simp] noncomputable def r5 (_ : Unit) : List Stp := [S 17 (.ixS 6 (.t 13) (.t 15)), S 18 (.load true 6 (.t 17)), S 8 (.alloc [(.int .i64 0), (.int .i64 0), (.int .i64 0), (.int .i64 0), (.int .i64 0), (.int .i64 0)]), SN (.store 6 (.t 8) (.t 18))]
@[simp] noncomputable def r6 (_ : Unit) : List Stp := [S 19 (.load true 6 (.t 8)), S 20 (.mkF (.func fn_leak_inflow_leaks) [(.t 19)] []), S 9 (.mv (.t 20))]
@[simp] noncomputable def r7 (_ : Unit) : List Stp := [S 21 (.mv (.t 5)), S 22 (.mv (.t 9)), S 23 (.call (.t 22) []), S 24 (.bin .and (.t 21) (.t 23)), S 25 (.mv (.t 6)), S 26 (.mv (.t 9)), S 27 (.call (.t 26) []), S 28 (.bin .or (.t 25) (.t 27)), S 5 (.mv (.t 24)), S 6 (.mv (.t 28))]
@[simp] noncomputable def r8 (_ : Unit) : List Stp := [S 29 (.bin .add (.t 15) (.c (.int .i64 1))), S 15 (.mv (.t 29))]
@[simp] noncomputable def r9 (_ : Unit) : List Stp := [S 30 (.mv (.t 6)), S 31 (.conv .i64 (.t 30)), S 32 (.mv (.t 5)), S 33 (.conv .i64 (.t 32)), S 2 (.mv (.t 31)), S 3 (.mv (.t 33)), SN (.store 1 (.t 4) (.c (.int .i64 0)))]
@[simp] noncomputable def ir : IR := (.seq (.ops r0) (.seq (.ops r1) (.seq (.ops r2) (.seq (.seq (.ops r3) (.block 0 (.loop (.seq (.ops r4) (.seq (.cond (.t 16) .skip (.exit 0)) (.seq (.block 1 (.seq (.ops r5) (.seq (.ops r6) (.ops r7)))) (.ops r8))))))) (.seq (.ops r9) .ret)))))
@[simp] noncomputable def rs : List RV := [.tmp 2, .tmp 3, .cell 4 false 1]
theorem comp : compF Pg cfg Try.f23 = some (ir, rs, 34) := by kernel_rfl
theorem enter {args : List AVal} {h : Heap} {K : AEnd → Heap → Prop} (F : Nat) (hl : args.length ≤ 34) (a : AW ⟨Pg, F, 34, false, [2, 3, 4]⟩ ir (RetD Pg rs K) (initT args) [] h) : ACalls Pg fn_leak_Leaks args h K :=
  ACalls.of_comp_defer follows Try.func23 comp hl a
theorem pure {args : List AVal} {v : AVal} (hl : args.length ≤ 34) (a : AW ⟨Pg, 0, 34, false, [2, 3, 4]⟩ ir (RetD Pg rs fun e _ => e = .ret v) (initT args) [] nilH) : APure Pg fn_leak_Leaks args v :=
  APure.of_nil (enter 0 hl a)
end leak_Leaks

namespace leak_Fewest
noncomputable def cfg : Cfg := { pure := pures, pcs := [], raw := [], cuts := [], draws := [], keep := [2, 3, 4] }
@[simp] noncomputable def r0 (_ : Unit) : List Stp := [S 1 (.box (.t 0)), S 2 (.mv (.c (.int .i64 0))), S 3 (.mv (.c (.int .i64 0))), S 4 (.alloc [(.int .i64 0)])]
@[simp] noncomputable def r1 (_ : Unit) : List Stp := [S 7 (.mkF (.func fn_leak_Fewest_1) [] [(.t 4)]), SN (.defer (.t 7) [])]
@[simp] noncomputable def r2 (_ : Unit) : List Stp := [S 9 (.load true 2 (.t 1)), S 10 (.call (.c (.func (.func fn_leak_open) [] [])) [(.t 9), (.c (.bool true))]), S 11 (.call (.c (.func (.func fn_leak_hull_sets) [] [])) [(.t 10)]), S 12 (.build [.nilf] [(0, 1, (.c (.func (.func fn_leak_Fewest_2) [] [])))]), S 13 (.call (.c (.func (.func fn_leak_best_int) [] [])) [(.t 11), (.t 12)]), S 8 (.mv (.t 13)), S 14 (.ext (.t 8) 0), S 15 (.ext (.t 8) 1), S 5 (.mv (.t 14)), S 6 (.mv (.t 15))]
@[simp] noncomputable def r3 (_ : Unit) : List Stp := [S 16 (.mv (.t 6)), S 17 (.mv (.t 5)), S 2 (.mv (.t 16)), S 3 (.mv (.t 17)), SN (.store 1 (.t 4) (.c (.int .i64 0)))]
@[simp] noncomputable def ir : IR := (.seq (.ops r0) (.seq (.ops r1) (.seq (.ops r2) (.seq (.ops r3) .ret))))
@[simp] noncomputable def rs : List RV := [.tmp 2, .tmp 3, .cell 4 false 1]
theorem comp : compF Pg cfg Try.f24 = some (ir, rs, 18) := by kernel_rfl
theorem enter {args : List AVal} {h : Heap} {K : AEnd → Heap → Prop} (F : Nat) (hl : args.length ≤ 18) (a : AW ⟨Pg, F, 18, false, [2, 3, 4]⟩ ir (RetD Pg rs K) (initT args) [] h) : ACalls Pg fn_leak_Fewest args h K :=
  ACalls.of_comp_defer follows Try.func24 comp hl a
theorem pure {args : List AVal} {v : AVal} (hl : args.length ≤ 18) (a : AW ⟨Pg, 0, 18, false, [2, 3, 4]⟩ ir (RetD Pg rs fun e _ => e = .ret v) (initT args) [] nilH) : APure Pg fn_leak_Fewest args v :=
  APure.of_nil (enter 0 hl a)
end leak_Fewest

namespace leak_Sets
noncomputable def cfg : Cfg := { pure := pures, pcs := [], raw := [], cuts := [], draws := [], keep := [2, 3] }
@[simp] noncomputable def r0 (_ : Unit) : List Stp := [S 1 (.box (.t 0)), S 2 (.mv (.c .nils)), S 3 (.alloc [(.int .i64 0)])]
@[simp] noncomputable def r1 (_ : Unit) : List Stp := [S 4 (.mkF (.func fn_leak_Sets_1) [] [(.t 3)]), SN (.defer (.t 4) [])]
@[simp] noncomputable def r2 (_ : Unit) : List Stp := [S 5 (.load true 2 (.t 1)), S 6 (.call (.c (.func (.func fn_leak_open) [] [])) [(.t 5), (.c (.bool true))]), S 7 (.call (.c (.func (.func fn_leak_hull_sets) [] [])) [(.t 6)]), S 2 (.mv (.t 7)), SN (.store 1 (.t 3) (.c (.int .i64 0)))]
@[simp] noncomputable def ir : IR := (.seq (.ops r0) (.seq (.ops r1) (.seq (.ops r2) .ret)))
@[simp] noncomputable def rs : List RV := [.tmp 2, .cell 3 false 1]
theorem comp : compF Pg cfg Try.f25 = some (ir, rs, 8) := by kernel_rfl
theorem enter {args : List AVal} {h : Heap} {K : AEnd → Heap → Prop} (F : Nat) (hl : args.length ≤ 8) (a : AW ⟨Pg, F, 8, false, [2, 3]⟩ ir (RetD Pg rs K) (initT args) [] h) : ACalls Pg fn_leak_Sets args h K :=
  ACalls.of_comp_defer follows Try.func25 comp hl a
theorem pure {args : List AVal} {v : AVal} (hl : args.length ≤ 8) (a : AW ⟨Pg, 0, 8, false, [2, 3]⟩ ir (RetD Pg rs fun e _ => e = .ret v) (initT args) [] nilH) : APure Pg fn_leak_Sets args v :=
  APure.of_nil (enter 0 hl a)
end leak_Sets

namespace ref01_Size
noncomputable def cfg : Cfg := { pure := pures, pcs := [], raw := [], cuts := [], draws := [], keep := [] }
@[simp] noncomputable def r0 (_ : Unit) : List Stp := [S 2 (.mv (.c (.int .i64 0)))]
@[simp] noncomputable def r1 (_ : Unit) : List Stp := [S 3 (.mv (.c (.int .i64 0)))]
@[simp] noncomputable def r2 (_ : Unit) : List Stp := [S 4 (.mv (.t 0)), S 5 (.bin .gtr (.t 4) (.c (.int .i64 0)))]
@[simp] noncomputable def r3 (_ : Unit) : List Stp := [S 6 (.mv (.t 3)), S 7 (.mv (.t 0)), S 8 (.bin .rem (.t 7) (.c (.int .i64 2))), S 9 (.bin .add (.t 6) (.t 8)), S 3 (.mv (.t 9))]
@[simp] noncomputable def r4 (_ : Unit) : List Stp := [S 10 (.mv (.t 0)), S 11 (.bin .quo (.t 10) (.c (.int .i64 2))), S 0 (.mv (.t 11))]
@[simp] noncomputable def r5 (_ : Unit) : List Stp := [S 12 (.mv (.t 3)), S 2 (.mv (.t 12))]
@[simp] noncomputable def ir : IR := (.seq (.ops r0) (.seq (.ops r1) (.seq (.block 0 (.loop (.seq (.seq (.ops r2) (.cond (.t 5) .skip (.exit 0))) (.block 1 (.seq (.ops r3) (.ops r4)))))) (.seq (.ops r5) .ret))))
@[simp] noncomputable def rs : List RV := [.tmp 2]
theorem comp : compF Pg cfg Try.f26 = some (ir, rs, 13) := by kernel_rfl
theorem enter {args : List AVal} {h : Heap} {K : AEnd → Heap → Prop} (F : Nat) (hl : args.length ≤ 13) (a : AW ⟨Pg, F, 13, false, []⟩ ir (RetK rs K) (initT args) [] h) : ACalls Pg fn_ref01_Size args h K :=
  ACalls.of_comp follows Try.func26 comp hl a
theorem pure {args : List AVal} {v : AVal} (hl : args.length ≤ 13) (a : AW ⟨Pg, 0, 13, false, []⟩ ir (RetK rs fun e _ => e = .ret v) (initT args) [] nilH) : APure Pg fn_ref01_Size args v :=
  APure.of_nil (enter 0 hl a)
end ref01_Size

namespace ref01_LeaksOf
noncomputable def cfg : Cfg := { pure := pures, pcs := [], raw := [], cuts := [], draws := [], keep := [] }
@[simp] noncomputable def r0 (_ : Unit) : List Stp := [S 2 (.mv (.c (.int .i64 0)))]
@[simp] noncomputable def r1 (_ : Unit) : List Stp := [S 3 (.mv (.c (.int .i64 0)))]
@[simp] noncomputable def r2 (_ : Unit) : List Stp := [S 4 (.mv (.c (.int .i64 0)))]
@[simp] noncomputable def r3 (_ : Unit) : List Stp := [S 5 (.mv (.t 4)), S 6 (.mv (.t 0)), S 7 (.len (.t 6)), S 8 (.bin .lss (.t 5) (.t 7))]
@[simp] noncomputable def r5 (_ : Unit) : List Stp := [S 11 (.mv (.t 0)), S 12 (.mv (.t 4)), S 13 (.ixS 1 (.t 11) (.t 12)), S 14 (.load false 1 (.t 13)), S 15 (.bin .gtr (.t 14) (.c (.int .i64 0)))]
@[simp] noncomputable def r6 (_ : Unit) : List Stp := [S 16 (.mv (.t 3)), S 17 (.mv (.t 4)), SP 18 (.call (.c (.func (.func fn_ref01_power) [] [])) [(.t 17)]), S 19 (.bin .add (.t 16) (.t 18)), S 3 (.mv (.t 19))]
@[simp] noncomputable def r4 (_ : Unit) : List Stp := [S 9 (.mv (.t 4)), S 10 (.bin .add (.t 9) (.c (.int .i64 1))), S 4 (.mv (.t 10))]
@[simp] noncomputable def r7 (_ : Unit) : List Stp := [S 20 (.mv (.t 3)), S 2 (.mv (.t 20))]
@[simp] noncomputable def ir : IR := (.seq (.ops r0) (.seq (.ops r1) (.seq (.seq (.ops r2) (.block 0 (.loop (.seq (.seq (.ops r3) (.cond (.t 8) .skip (.exit 0))) (.seq (.block 1 (.seq (.ops r5) (.cond (.t 15) (.ops r6) .skip))) (.ops r4)))))) (.seq (.ops r7) .ret))))
@[simp] noncomputable def rs : List RV := [.tmp 2]
theorem comp : compF Pg cfg Try.f27 = some (ir, rs, 21) := by kernel_rfl
theorem enter {args : List AVal} {h : Heap} {K : AEnd → Heap → Prop} (F : Nat) (hl : args.length ≤ 21) (a : AW ⟨Pg, F, 21, false, []⟩ ir (RetK rs K) (initT args) [] h) : ACalls Pg fn_ref01_LeaksOf args h K :=
  ACalls.of_comp follows Try.func27 comp hl a
theorem pure {args : List AVal} {v : AVal} (hl : args.length ≤ 21) (a : AW ⟨Pg, 0, 21, false, []⟩ ir (RetK rs fun e _ => e = .ret v) (initT args) [] nilH) : APure Pg fn_ref01_LeaksOf args v :=
  APure.of_nil (enter 0 hl a)
end ref01_LeaksOf

namespace law01_inside
noncomputable def cfg : Cfg := { pure := pures, pcs := [], raw := [], cuts := [], draws := [], keep := [] }
@[simp] noncomputable def r0 (_ : Unit) : List Stp := [S 3 (.box (.t 1)), S 4 (.mv (.c (.bool false)))]
@[simp] noncomputable def r1 (_ : Unit) : List Stp := [S 5 (.fAddr 0 (.t 3)), S 6 (.load false 1 (.t 5)), S 7 (.mv (.t 0)), S 8 (.bin .leq (.t 6) (.t 7)), S 9 (.mv (.t 8)), SG 10 9 true (.mv (.t 0)), SG 11 9 true (.fAddr 1 (.t 3)), SG 12 9 true (.load false 1 (.t 11)), SG 13 9 true (.bin .leq (.t 10) (.t 12)), S 14 (.pick (.t 9) (.t 13) (.c (.bool false))), S 4 (.mv (.t 14))]
@[simp] noncomputable def ir : IR := (.seq (.ops r0) (.seq (.ops r1) .ret))
@[simp] noncomputable def rs : List RV := [.tmp 4]
theorem comp : compF Pg cfg Try.f28 = some (ir, rs, 15) := by kernel_rfl
theorem enter {args : List AVal} {h : Heap} {K : AEnd → Heap → Prop} (F : Nat) (hl : args.length ≤ 15) (a : AW ⟨Pg, F, 15, false, []⟩ ir (RetK rs K) (initT args) [] h) : ACalls Pg fn_law01_inside args h K :=
  ACalls.of_comp follows Try.func28 comp hl a
theorem pure {args : List AVal} {v : AVal} (hl : args.length ≤ 15) (a : AW ⟨Pg, 0, 15, false, []⟩ ir (RetK rs fun e _ => e = .ret v) (initT args) [] nilH) : APure Pg fn_law01_inside args v :=
  APure.of_nil (enter 0 hl a)
end law01_inside

namespace leak_Total
noncomputable def cfg : Cfg := { pure := pures, pcs := [], raw := [], cuts := [], draws := [(2, [⟨2, false, [], []⟩, ⟨0, false, [], []⟩, ⟨1, false, [], []⟩, ⟨3, false, [], []⟩, ⟨4, false, [], []⟩, ⟨5, false, [], []⟩])], keep := [4, 5] }
@[simp] noncomputable def r0 (_ : Unit) : List Stp := [S 2 (.box (.t 0)), S 4 (.alloc [(.int .i64 0), (.int .i64 0)]), S 5 (.alloc [(.int .i64 0)])]
@[simp] noncomputable def r1 (_ : Unit) : List Stp := [S 7 (.mkF (.func fn_leak_Total_1) [] [(.t 5)]), SN (.defer (.t 7) [])]
@[simp] noncomputable def r2 (_ : Unit) : List Stp := [S 10 (.mv (.t 1)), S 8 (.load true 2 (.t 2)), S 9 (.load true 2 (.t 2)), SP 11 (.call (.c (.func (.func fn_leak_isSet) [] [])) [(.t 9), (.t 10)]), S 12 (.call (.c (.func (.func fn_leak_open) [] [])) [(.t 8), (.t 11)]), S 6 (.mv (.t 12))]
@[simp] noncomputable def r3 (_ : Unit) : List Stp := [S 13 (.mv (.t 6)), S 14 (.mv (.t 1)), S 15 (.conv .u64 (.t 14)), S 16 (.call (.c (.func (.func fn_leak_hull_total) [] [])) [(.t 13), (.t 15)]), SN (.store 2 (.t 4) (.t 16)), SN (.store 1 (.t 5) (.c (.int .i64 0)))]
@[simp] noncomputable def ir : IR := (.seq (.ops r0) (.seq (.ops r1) (.seq (.ops r2) (.seq (.ops r3) .ret))))
@[simp] noncomputable def rs : List RV := [.cell 4 true 2, .cell 5 false 1]
theorem comp : compF Pg cfg Try.f29 = some (ir, rs, 17) := by kernel_rfl
theorem enter {args : List AVal} {h : Heap} {K : AEnd → Heap → Prop} (F : Nat) (hl : args.length ≤ 17) (a : AW ⟨Pg, F, 17, false, [4, 5]⟩ ir (RetD Pg rs K) (initT args) [] h) : ACalls Pg fn_leak_Total args h K :=
  ACalls.of_comp_defer follows Try.func29 comp hl a
theorem pure {args : List AVal} {v : AVal} (hl : args.length ≤ 17) (a : AW ⟨Pg, 0, 17, false, [4, 5]⟩ ir (RetD Pg rs fun e _ => e = .ret v) (initT args) [] nilH) : APure Pg fn_leak_Total args v :=
  APure.of_nil (enter 0 hl a)
end leak_Total

namespace ref01_Sum
noncomputable def cfg : Cfg := { pure := pures, pcs := [], raw := [], cuts := [], draws := [], keep := [] }
@[simp] noncomputable def r0 (_ : Unit) : List Stp := [S 4 (.mv (.c (.int .i64 0)))]
@[simp] noncomputable def r1 (_ : Unit) : List Stp := [S 5 (.mv (.c (.int .i64 0)))]
@[simp] noncomputable def r2 (_ : Unit) : List Stp := [S 6 (.mv (.c (.int .i64 0)))]
@[simp] noncomputable def r3 (_ : Unit) : List Stp := [S 7 (.mv (.t 6)), S 8 (.mv (.t 0)), S 9 (.len (.t 8)), S 10 (.bin .lss (.t 7) (.t 9))]
@[simp] noncomputable def r5 (_ : Unit) : List Stp := [S 13 (.mv (.t 1)), S 14 (.mv (.t 6)), SP 15 (.call (.c (.func (.func fn_ref01_Has) [] [])) [(.t 13), (.t 14)])]
@[simp] noncomputable def r6 (_ : Unit) : List Stp := [S 16 (.mv (.t 5)), S 17 (.mv (.t 0)), S 18 (.mv (.t 6)), S 19 (.ixS 1 (.t 17) (.t 18)), S 20 (.load false 1 (.t 19)), S 21 (.bin .add (.t 16) (.t 20)), S 5 (.mv (.t 21))]
@[simp] noncomputable def r4 (_ : Unit) : List Stp := [S 11 (.mv (.t 6)), S 12 (.bin .add (.t 11) (.c (.int .i64 1))), S 6 (.mv (.t 12))]
@[simp] noncomputable def r7 (_ : Unit) : List Stp := [S 22 (.mv (.t 5)), S 4 (.mv (.t 22))]
@[simp] noncomputable def ir : IR := (.seq (.ops r0) (.seq (.ops r1) (.seq (.seq (.ops r2) (.block 0 (.loop (.seq (.seq (.ops r3) (.cond (.t 10) .skip (.exit 0))) (.seq (.block 1 (.seq (.ops r5) (.cond (.t 15) (.ops r6) .skip))) (.ops r4)))))) (.seq (.ops r7) .ret))))
@[simp] noncomputable def rs : List RV := [.tmp 4]
theorem comp : compF Pg cfg Try.f30 = some (ir, rs, 23) := by kernel_rfl
theorem enter {args : List AVal} {h : Heap} {K : AEnd → Heap → Prop} (F : Nat) (hl : args.length ≤ 23) (a : AW ⟨Pg, F, 23, false, []⟩ ir (RetK rs K) (initT args) [] h) : ACalls Pg fn_ref01_Sum args h K :=
  ACalls.of_comp follows Try.func30 comp hl a
theorem pure {args : List AVal} {v : AVal} (hl : args.length ≤ 23) (a : AW ⟨Pg, 0, 23, false, []⟩ ir (RetK rs fun e _ => e = .ret v) (initT args) [] nilH) : APure Pg fn_ref01_Sum args v :=
  APure.of_nil (enter 0 hl a)
end ref01_Sum

namespace law01_flow
noncomputable def cfg : Cfg := { pure := pures, pcs := [], raw := [], cuts := [], draws := [], keep := [] }
@[simp] noncomputable def r0 (_ : Unit) : List Stp := [S 4 (.box (.t 0)), S 8 (.mv (.c (.int .i64 0)))]
@[simp] noncomputable def r1 (_ : Unit) : List Stp := [S 11 (.fAddr 0 (.t 4)), S 12 (.load false 1 (.t 11)), S 13 (.len (.t 12)), S 14 (.mv (.c (.int .i64 0)))]
@[simp] noncomputable def r2 (_ : Unit) : List Stp := [S 15 (.bin .lss (.t 14) (.t 13))]
@[simp] noncomputable def r3 (_ : Unit) : List Stp := [S 16 (.mv (.t 14)), S 17 (.ixS 3 (.t 12) (.t 14)), S 18 (.load true 3 (.t 17)), S 10 (.alloc [(.int .i64 0), (.int .i64 0), (.int .i64 0)]), S 9 (.mv (.t 16)), SN (.store 3 (.t 10) (.t 18))]
@[simp] noncomputable def r4 (_ : Unit) : List Stp := [S 19 (.load true 3 (.t 10)), S 20 (.mv (.t 2)), S 21 (.mv (.t 3)), SP 22 (.call (.c (.func (.func fn_law01_wet) [] [])) [(.t 19), (.t 20), (.t 21)])]
@[simp] noncomputable def r5 (_ : Unit) : List Stp := [S 23 (.mv (.t 8)), S 24 (.mv (.t 1)), S 25 (.mv (.t 9)), S 26 (.ixS 1 (.t 24) (.t 25)), S 27 (.load false 1 (.t 26)), S 28 (.bin .add (.t 23) (.t 27)), S 8 (.mv (.t 28))]
@[simp] noncomputable def r6 (_ : Unit) : List Stp := [S 29 (.bin .add (.t 14) (.c (.int .i64 1))), S 14 (.mv (.t 29))]
@[simp] noncomputable def r7 (_ : Unit) : List Stp := [S 30 (.mv (.t 8)), S 8 (.mv (.t 30))]
@[simp] noncomputable def ir : IR := (.seq (.ops r0) (.seq (.seq (.ops r1) (.block 0 (.loop (.seq (.ops r2) (.seq (.cond (.t 15) .skip (.exit 0)) (.seq (.block 1 (.seq (.ops r3) (.seq (.ops r4) (.cond (.t 22) (.ops r5) .skip)))) (.ops r6))))))) (.seq (.ops r7) .ret)))
@[simp] noncomputable def rs : List RV := [.tmp 8]
theorem comp : compF Pg cfg Try.f31 = some (ir, rs, 31) := by kernel_rfl
theorem enter {args : List AVal} {h : Heap} {K : AEnd → Heap → Prop} (F : Nat) (hl : args.length ≤ 31) (a : AW ⟨Pg, F, 31, false, []⟩ ir (RetK rs K) (initT args) [] h) : ACalls Pg fn_law01_flow args h K :=
  ACalls.of_comp follows Try.func31 comp hl a
theorem pure {args : List AVal} {v : AVal} (hl : args.length ≤ 31) (a : AW ⟨Pg, 0, 31, false, []⟩ ir (RetK rs fun e _ => e = .ret v) (initT args) [] nilH) : APure Pg fn_law01_flow args v :=
  APure.of_nil (enter 0 hl a)
end law01_flow

namespace law01_long
noncomputable def cfg : Cfg := { pure := pures, pcs := [], raw := [], cuts := [], draws := [], keep := [] }
@[simp] noncomputable def r0 (_ : Unit) : List Stp := [S 1 (.box (.t 0)), S 2 (.mv (.c (.bool false)))]
@[simp] noncomputable def r1 (_ : Unit) : List Stp := [S 3 (.fAddr 0 (.t 1)), S 4 (.load false 1 (.t 3)), S 5 (.len (.t 4)), S 6 (.fAddr 1 (.t 1)), S 7 (.load false 1 (.t 6)), S 8 (.len (.t 7)), S 9 (.mm true [(.t 5), (.t 8)]), S 10 (.bin .gtr (.t 9) (.c (.int .i64 40))), S 2 (.mv (.t 10))]
@[simp] noncomputable def ir : IR := (.seq (.ops r0) (.seq (.ops r1) .ret))
@[simp] noncomputable def rs : List RV := [.tmp 2]
theorem comp : compF Pg cfg Try.f32 = some (ir, rs, 11) := by kernel_rfl
theorem enter {args : List AVal} {h : Heap} {K : AEnd → Heap → Prop} (F : Nat) (hl : args.length ≤ 11) (a : AW ⟨Pg, F, 11, false, []⟩ ir (RetK rs K) (initT args) [] h) : ACalls Pg fn_law01_long args h K :=
  ACalls.of_comp follows Try.func32 comp hl a
theorem pure {args : List AVal} {v : AVal} (hl : args.length ≤ 11) (a : AW ⟨Pg, 0, 11, false, []⟩ ir (RetK rs fun e _ => e = .ret v) (initT args) [] nilH) : APure Pg fn_law01_long args v :=
  APure.of_nil (enter 0 hl a)
end law01_long

namespace ref01_Hull
noncomputable def cfg : Cfg := { pure := pures, pcs := [], raw := [], cuts := [], draws := [], keep := [] }
@[simp] noncomputable def r0 (_ : Unit) : List Stp := [S 1 (.box (.t 0)), S 2 (.mv (.c (.bool false)))]
@[simp] noncomputable def r1 (_ : Unit) : List Stp := [S 7 (.fAddr 0 (.t 1)), S 8 (.load false 1 (.t 7)), S 9 (.len (.t 8)), SP 10 (.call (.c (.func (.func fn_ref01_in) [] [])) [(.t 9), (.c (.int .i64 1)), (.c (.int .i64 6))]), S 11 (.un .not (.t 10)), S 12 (.mv (.t 11)), SG 13 12 false (.fAddr 1 (.t 1)), SG 14 12 false (.load false 1 (.t 13)), SG 15 12 false (.len (.t 14)), SG 16 12 false (.bin .gtr (.t 15) (.c (.int .i64 8))), S 17 (.pick (.t 12) (.c (.bool true)) (.t 16))]
@[simp] noncomputable def r2 (_ : Unit) : List Stp := [S 2 (.mv (.c (.bool false)))]
@[simp] noncomputable def r3 (_ : Unit) : List Stp := [S 3 (.mv (.c (.int .i64 0)))]
@[simp] noncomputable def r4 (_ : Unit) : List Stp := [S 18 (.mv (.t 3)), S 19 (.fAddr 0 (.t 1)), S 20 (.load false 1 (.t 19)), S 21 (.len (.t 20)), S 22 (.bin .lss (.t 18) (.t 21))]
@[simp] noncomputable def r6 (_ : Unit) : List Stp := [S 25 (.fAddr 0 (.t 1)), S 26 (.load false 1 (.t 25)), S 27 (.mv (.t 3)), S 28 (.ixS 3 (.t 26) (.t 27)), S 29 (.load true 3 (.t 28)), S 4 (.alloc [(.int .i64 0), (.int .i64 0), (.int .i64 0)]), SN (.store 3 (.t 4) (.t 29))]
@[simp] noncomputable def r7 (_ : Unit) : List Stp := [S 30 (.fAddr 0 (.t 4)), S 31 (.load false 1 (.t 30)), SP 32 (.call (.c (.func (.func fn_ref01_in) [] [])) [(.t 31), (.c (.int .i64 0)), (.c (.int .i64 12))]), S 33 (.un .not (.t 32)), S 34 (.mv (.t 33)), SG 35 34 false (.fAddr 1 (.t 4)), SG 36 34 false (.load false 1 (.t 35)), SGP 37 34 false (.call (.c (.func (.func fn_ref01_in) [] [])) [(.t 36), (.c (.int .i64 (-1))), (.c (.int .i64 1))]), SG 38 34 false (.un .not (.t 37)), S 39 (.pick (.t 34) (.c (.bool true)) (.t 38)), S 40 (.mv (.t 39)), SG 41 40 false (.fAddr 2 (.t 4)), SG 42 40 false (.load false 1 (.t 41)), SGP 43 40 false (.call (.c (.func (.func fn_ref01_in) [] [])) [(.t 42), (.c (.int .i64 0)), (.c (.int .i64 4))]), SG 44 40 false (.un .not (.t 43)), S 45 (.pick (.t 40) (.c (.bool true)) (.t 44))]
@[simp] noncomputable def r8 (_ : Unit) : List Stp := [S 2 (.mv (.c (.bool false)))]
@[simp] noncomputable def r5 (_ : Unit) : List Stp := [S 23 (.mv (.t 3)), S 24 (.bin .add (.t 23) (.c (.int .i64 1))), S 3 (.mv (.t 24))]
@[simp] noncomputable def r9 (_ : Unit) : List Stp := [S 5 (.mv (.c (.int .i64 0)))]
@[simp] noncomputable def r10 (_ : Unit) : List Stp := [S 46 (.mv (.t 5)), S 47 (.fAddr 1 (.t 1)), S 48 (.load false 1 (.t 47)), S 49 (.len (.t 48)), S 50 (.bin .lss (.t 46) (.t 49))]
@[simp] noncomputable def r12 (_ : Unit) : List Stp := [S 53 (.fAddr 1 (.t 1)), S 54 (.load false 1 (.t 53)), S 55 (.mv (.t 5)), S 56 (.ixS 4 (.t 54) (.t 55)), S 57 (.load true 4 (.t 56)), S 6 (.alloc [(.int .i64 0), (.int .i64 0), (.int .i64 0), (.int .i64 0)]), SN (.store 4 (.t 6) (.t 57))]
@[simp] noncomputable def r13 (_ : Unit) : List Stp := [S 58 (.fAddr 0 (.t 6)), S 59 (.load false 1 (.t 58)), S 60 (.fAddr 1 (.t 6)), S 61 (.load false 1 (.t 60)), SP 62 (.call (.c (.func (.func fn_ref01_At) [] [])) [(.t 59), (.t 61)]), S 63 (.un .not (.t 62)), S 64 (.mv (.t 63)), SG 65 64 false (.fAddr 2 (.t 6)), SG 66 64 false (.fAddr 0 (.t 65)), SG 67 64 false (.load false 1 (.t 66)), SG 68 64 false (.bin .lss (.t 67) (.c (.int .i64 0))), S 69 (.pick (.t 64) (.c (.bool true)) (.t 68)), S 70 (.mv (.t 69)), SG 71 70 false (.fAddr 2 (.t 6)), SG 72 70 false (.fAddr 0 (.t 71)), SG 73 70 false (.load false 1 (.t 72)), SG 74 70 false (.fAddr 2 (.t 6)), SG 75 70 false (.fAddr 1 (.t 74)), SG 76 70 false (.load false 1 (.t 75)), SG 77 70 false (.bin .gtr (.t 73) (.t 76)), S 78 (.pick (.t 70) (.c (.bool true)) (.t 77)), S 79 (.mv (.t 78)), SG 80 79 false (.fAddr 2 (.t 6)), SG 81 79 false (.fAddr 1 (.t 80)), SG 82 79 false (.load false 1 (.t 81)), SG 83 79 false (.bin .gtr (.t 82) (.c (.int .i64 24))), S 84 (.pick (.t 79) (.c (.bool true)) (.t 83))]
@[simp] noncomputable def r14 (_ : Unit) : List Stp := [S 2 (.mv (.c (.bool false)))]
@[simp] noncomputable def r11 (_ : Unit) : List Stp := [S 51 (.mv (.t 5)), S 52 (.bin .add (.t 51) (.c (.int .i64 1))), S 5 (.mv (.t 52))]
@[simp] noncomputable def r15 (_ : Unit) : List Stp := [S 2 (.mv (.c (.bool true)))]
@[simp] noncomputable def ir : IR := (.seq (.ops r0) (.seq (.seq (.ops r1) (.cond (.t 17) (.seq (.ops r2) .ret) .skip)) (.seq (.seq (.ops r3) (.block 0 (.loop (.seq (.seq (.ops r4) (.cond (.t 22) .skip (.exit 0))) (.seq (.block 1 (.seq (.ops r6) (.seq (.ops r7) (.cond (.t 45) (.seq (.ops r8) .ret) .skip)))) (.ops r5)))))) (.seq (.seq (.ops r9) (.block 2 (.loop (.seq (.seq (.ops r10) (.cond (.t 50) .skip (.exit 2))) (.seq (.block 3 (.seq (.ops r12) (.seq (.ops r13) (.cond (.t 84) (.seq (.ops r14) .ret) .skip)))) (.ops r11)))))) (.seq (.ops r15) .ret)))))
@[simp] noncomputable def rs : List RV := [.tmp 2]
theorem comp : compF Pg cfg Try.f33 = some (ir, rs, 85) := by kernel_rfl
theorem enter {args : List AVal} {h : Heap} {K : AEnd → Heap → Prop} (F : Nat) (hl : args.length ≤ 85) (a : AW ⟨Pg, F, 85, false, []⟩ ir (RetK rs K) (initT args) [] h) : ACalls Pg fn_ref01_Hull args h K :=
  ACalls.of_comp follows Try.func33 comp hl a
theorem pure {args : List AVal} {v : AVal} (hl : args.length ≤ 85) (a : AW ⟨Pg, 0, 85, false, []⟩ ir (RetK rs fun e _ => e = .ret v) (initT args) [] nilH) : APure Pg fn_ref01_Hull args v :=
  APure.of_nil (enter 0 hl a)
end ref01_Hull

namespace law01_wet
noncomputable def cfg : Cfg := { pure := pures, pcs := [], raw := [], cuts := [], draws := [], keep := [] }
@[simp] noncomputable def r0 (_ : Unit) : List Stp := [S 3 (.box (.t 0)), S 6 (.mv (.c (.bool false)))]
@[simp] noncomputable def r1 (_ : Unit) : List Stp := [S 7 (.fAddr 0 (.t 3)), S 8 (.load false 1 (.t 7)), S 9 (.mv (.t 1)), S 10 (.fAddr 1 (.t 3)), S 11 (.load false 1 (.t 10)), S 12 (.mv (.t 2)), S 13 (.bin .mul (.t 11) (.t 12)), S 14 (.bin .add (.t 9) (.t 13)), S 15 (.bin .leq (.t 8) (.t 14)), S 6 (.mv (.t 15))]
@[simp] noncomputable def ir : IR := (.seq (.ops r0) (.seq (.ops r1) .ret))
@[simp] noncomputable def rs : List RV := [.tmp 6]
theorem comp : compF Pg cfg Try.f34 = some (ir, rs, 16) := by kernel_rfl
theorem enter {args : List AVal} {h : Heap} {K : AEnd → Heap → Prop} (F : Nat) (hl : args.length ≤ 16) (a : AW ⟨Pg, F, 16, false, []⟩ ir (RetK rs K) (initT args) [] h) : ACalls Pg fn_law01_wet args h K :=
  ACalls.of_comp follows Try.func34 comp hl a
theorem pure {args : List AVal} {v : AVal} (hl : args.length ≤ 16) (a : AW ⟨Pg, 0, 16, false, []⟩ ir (RetK rs fun e _ => e = .ret v) (initT args) [] nilH) : APure Pg fn_law01_wet args v :=
  APure.of_nil (enter 0 hl a)
end law01_wet

namespace law01_with
noncomputable def cfg : Cfg := { pure := pures, pcs := [], raw := [], cuts := [], draws := [(1, [⟨1, false, [], []⟩, ⟨2, false, [], []⟩, ⟨4, false, [], []⟩, ⟨0, true, [], []⟩, ⟨5, true, [], []⟩, ⟨3, false, [], [4]⟩, ⟨6, false, [], []⟩, ⟨7, false, [], []⟩, ⟨8, false, [], []⟩])], keep := [] }
@[simp] noncomputable def r0 (_ : Unit) : List Stp := [S 2 (.box (.t 0)), S 3 (.box (.t 1)), S 4 (.alloc [.nils, .nils])]
@[simp] noncomputable def r1 (_ : Unit) : List Stp := [S 6 (.fAddr 1 (.t 2)), S 7 (.load false 1 (.t 6)), S 9 (.load true 4 (.t 3)), SD (some 5) (.bsl 0 [] []) true [] [], SD (some 10) (.bsl 1 [(.int .i64 0), (.int .i64 0), (.int .i64 0), (.int .i64 0)] [(0, 4, (.t 9))]) true [] [], SD (some 8) (.app 4 32 (.t 5) (.t 7)) false [] [I 9 (.load true 4 (.t 3))], S 11 (.app 4 32 (.t 8) (.t 10)), S 12 (.fAddr 1 (.t 2)), SN (.store 1 (.t 12) (.t 11))]
@[simp] noncomputable def r2 (_ : Unit) : List Stp := [S 13 (.load true 2 (.t 2)), SN (.store 2 (.t 4) (.t 13))]
@[simp] noncomputable def ir : IR := (.seq (.ops r0) (.seq (.ops r1) (.seq (.ops r2) .ret)))
@[simp] noncomputable def rs : List RV := [.cell 4 true 2]
theorem comp : compF Pg cfg Try.f35 = some (ir, rs, 14) := by kernel_rfl
theorem enter {args : List AVal} {h : Heap} {K : AEnd → Heap → Prop} (F : Nat) (hl : args.length ≤ 14) (a : AW ⟨Pg, F, 14, false, []⟩ ir (RetK rs K) (initT args) [] h) : ACalls Pg fn_law01_with args h K :=
  ACalls.of_comp follows Try.func35 comp hl a
theorem pure {args : List AVal} {v : AVal} (hl : args.length ≤ 14) (a : AW ⟨Pg, 0, 14, false, []⟩ ir (RetK rs fun e _ => e = .ret v) (initT args) [] nilH) : APure Pg fn_law01_with args v :=
  APure.of_nil (enter 0 hl a)
end law01_with

namespace leak_Next
noncomputable def cfg : Cfg := { pure := pures, pcs := [], raw := [], cuts := [], draws := [(15, [⟨0, false, [], []⟩, ⟨2, false, [], []⟩, ⟨4, false, [], []⟩, ⟨1, false, [], []⟩, ⟨5, false, [], []⟩, ⟨3, false, [], []⟩, ⟨6, false, [], []⟩, ⟨7, false, [], []⟩, ⟨8, false, [], []⟩])], keep := [2, 3, 4, 5] }
@[simp] noncomputable def r0 (_ : Unit) : List Stp := [S 1 (.box (.t 0)), S 2 (.mv (.c (.int .i64 0))), S 3 (.mv (.c (.int .i64 0))), S 4 (.mv (.c (.int .i64 0))), S 5 (.alloc [(.int .i64 0)])]
@[simp] noncomputable def r1 (_ : Unit) : List Stp := [S 14 (.mkF (.func fn_leak_Next_1) [] [(.t 5)]), SN (.defer (.t 14) [])]
@[simp] noncomputable def r2 (_ : Unit) : List Stp := [S 15 (.load true 2 (.t 1)), S 16 (.call (.c (.func (.func fn_leak_open) [] [])) [(.t 15), (.c (.bool true))]), S 6 (.alloc [.nilp]), SN (.store 1 (.t 6) (.t 16))]
@[simp] noncomputable def r3 (_ : Unit) : List Stp := [S 17 (.load false 1 (.t 6)), S 18 (.call (.c (.func (.func fn_leak_hull_truths) [] [])) [(.t 17)]), S 7 (.alloc [.nils]), SN (.store 1 (.t 7) (.t 18))]
@[simp] noncomputable def r4 (_ : Unit) : List Stp := [S 8 (.mv (.c .nils))]
@[simp] noncomputable def r5 (_ : Unit) : List Stp := [S 19 (.mv (.c (.int .i64 0)))]
@[simp] noncomputable def r6 (_ : Unit) : List Stp := [S 20 (.bin .lss (.t 19) (.c (.int .i64 13)))]
@[simp] noncomputable def r7 (_ : Unit) : List Stp := [S 21 (.mv (.t 19)), S 9 (.mv (.t 21))]
@[simp] noncomputable def r8 (_ : Unit) : List Stp := [S 10 (.mv (.c (.int .i64 (-3))))]
@[simp] noncomputable def r9 (_ : Unit) : List Stp := [S 22 (.mv (.t 10)), S 23 (.bin .leq (.t 22) (.c (.int .i64 3)))]
@[simp] noncomputable def r11 (_ : Unit) : List Stp := [S 26 (.mv (.t 8)), S 27 (.mv (.t 9)), S 28 (.mv (.t 10)), S 29 (.build [(.int .i64 0), (.int .i64 0)] [(0, 1, (.t 27)), (1, 1, (.t 28))]), S 30 (.bsl 1 [(.int .i64 0), (.int .i64 0)] [(0, 2, (.t 29))]), S 31 (.app 2 16 (.t 26) (.t 30)), S 8 (.mv (.t 31))]
@[simp] noncomputable def r10 (_ : Unit) : List Stp := [S 24 (.mv (.t 10)), S 25 (.bin .add (.t 24) (.c (.int .i64 1))), S 10 (.mv (.t 25))]
@[simp] noncomputable def r12 (_ : Unit) : List Stp := [S 32 (.bin .add (.t 19) (.c (.int .i64 1))), S 19 (.mv (.t 32))]
@[simp] noncomputable def r13 (_ : Unit) : List Stp := [S 33 (.mkmap), S 11 (.alloc [.nilm]), SN (.store 1 (.t 11) (.t 33))]
@[simp] noncomputable def r14 (_ : Unit) : List Stp := [S 35 (.mv (.t 8)), S 36 (.mkF (.func fn_leak_Next_2) [] [(.t 6), (.t 11), (.t 7)]), S 37 (.build [.nilf] [(0, 1, (.t 36))]), S 38 (.call (.c (.func (.func fn_leak_best_leak_place) [] [])) [(.t 35), (.t 37)]), S 34 (.mv (.t 38)), S 39 (.ext (.t 34) 0), S 40 (.ext (.t 34) 1), S 12 (.alloc [(.int .i64 0), (.int .i64 0)]), SN (.store 2 (.t 12) (.t 39)), S 13 (.mv (.t 40))]
@[simp] noncomputable def r15 (_ : Unit) : List Stp := [S 41 (.fAddr 0 (.t 12)), S 43 (.fAddr 1 (.t 12)), S 45 (.mv (.t 13)), S 42 (.load false 1 (.t 41)), S 2 (.mv (.t 42)), S 44 (.load false 1 (.t 43)), S 3 (.mv (.t 44)), S 4 (.mv (.t 45)), SN (.store 1 (.t 5) (.c (.int .i64 0)))]
@[simp] noncomputable def ir : IR := (.seq (.ops r0) (.seq (.ops r1) (.seq (.ops r2) (.seq (.ops r3) (.seq (.ops r4) (.seq (.seq (.ops r5) (.block 0 (.loop (.seq (.ops r6) (.seq (.cond (.t 20) .skip (.exit 0)) (.seq (.block 1 (.seq (.ops r7) (.seq (.ops r8) (.block 2 (.loop (.seq (.seq (.ops r9) (.cond (.t 23) .skip (.exit 2))) (.seq (.block 3 (.ops r11)) (.ops r10)))))))) (.ops r12))))))) (.seq (.ops r13) (.seq (.ops r14) (.seq (.nk (.ops r15)) .ret)))))))))
@[simp] noncomputable def rs : List RV := [.tmp 2, .tmp 3, .tmp 4, .cell 5 false 1]
theorem comp : compF Pg cfg Try.f36 = some (ir, rs, 46) := by kernel_rfl
theorem enter {args : List AVal} {h : Heap} {K : AEnd → Heap → Prop} (F : Nat) (hl : args.length ≤ 46) (a : AW ⟨Pg, F, 46, false, [2, 3, 4, 5]⟩ ir (RetD Pg rs K) (initT args) [] h) : ACalls Pg fn_leak_Next args h K :=
  ACalls.of_comp_defer follows Try.func36 comp hl a
theorem pure {args : List AVal} {v : AVal} (hl : args.length ≤ 46) (a : AW ⟨Pg, 0, 46, false, [2, 3, 4, 5]⟩ ir (RetD Pg rs fun e _ => e = .ret v) (initT args) [] nilH) : APure Pg fn_leak_Next args v :=
  APure.of_nil (enter 0 hl a)
end leak_Next


namespace ref01_Truths
noncomputable def cfg : Cfg := { pure := pures, pcs := [], raw := [], cuts := [], draws := [(1, [⟨0, false, [], []⟩, ⟨1, false, [], []⟩, ⟨2, false, [], []⟩, ⟨3, false, [], []⟩, ⟨4, false, [], []⟩])], keep := [] }
@[simp] noncomputable def r0 (_ : Unit) : List Stp := [S 1 (.box (.t 0)), S 2 (.mv (.c .nils))]
@[simp] noncomputable def r1 (_ : Unit) : List Stp := [S 3 (.load true 2 (.t 1)), S 4 (.load true 2 (.t 1)), SP 5 (.call (.c (.func (.func fn_ref01_every) [] [])) [(.t 4)]), S 6 (.call (.c (.func (.func fn_ref01_truths) [] [])) [(.t 3), (.t 5), (.c .nils), (.c .nils)]), S 2 (.mv (.t 6))]
@[simp] noncomputable def ir : IR := (.seq (.ops r0) (.seq (.ops r1) .ret))
@[simp] noncomputable def rs : List RV := [.tmp 2]
theorem comp : compF Pg cfg Try.f38 = some (ir, rs, 7) := by kernel_rfl
theorem enter {args : List AVal} {h : Heap} {K : AEnd → Heap → Prop} (F : Nat) (hl : args.length ≤ 7) (a : AW ⟨Pg, F, 7, false, []⟩ ir (RetK rs K) (initT args) [] h) : ACalls Pg fn_ref01_Truths args h K :=
  ACalls.of_comp follows Try.func38 comp hl a
theorem pure {args : List AVal} {v : AVal} (hl : args.length ≤ 7) (a : AW ⟨Pg, 0, 7, false, []⟩ ir (RetK rs fun e _ => e = .ret v) (initT args) [] nilH) : APure Pg fn_ref01_Truths args v :=
  APure.of_nil (enter 0 hl a)
end ref01_Truths


namespace law01_LeakMore_1
noncomputable def cfg : Cfg := { pure := pures, pcs := [], raw := [], cuts := [], draws := [], keep := [] }
@[simp] noncomputable def r0 (_ : Unit) : List Stp := [S 2 (.box (.t 0)), S 3 (.box (.t 1)), S 4 (.mv (.c (.bool false)))]
@[simp] noncomputable def r1 (_ : Unit) : List Stp := [S 5 (.fAddr 0 (.t 2)), S 6 (.load false 1 (.t 5)), S 7 (.fAddr 0 (.t 3)), S 8 (.load false 1 (.t 7)), S 9 (.bin .geq (.t 6) (.t 8)), S 10 (.mv (.t 9)), SG 11 10 true (.fAddr 1 (.t 2)), SG 12 10 true (.load false 1 (.t 11)), SG 13 10 true (.fAddr 1 (.t 3)), SG 14 10 true (.load false 1 (.t 13)), SG 15 10 true (.bin .leq (.t 12) (.t 14)), S 16 (.pick (.t 10) (.t 15) (.c (.bool false))), S 4 (.mv (.t 16))]
@[simp] noncomputable def ir : IR := (.seq (.ops r0) (.seq (.ops r1) .ret))
@[simp] noncomputable def rs : List RV := [.tmp 4]
theorem comp : compF Pg cfg Try.f40 = some (ir, rs, 17) := by kernel_rfl
theorem enter {args : List AVal} {h : Heap} {K : AEnd → Heap → Prop} (F : Nat) (hl : args.length ≤ 17) (a : AW ⟨Pg, F, 17, false, []⟩ ir (RetK rs K) (initT args) [] h) : ACalls Pg fn_law01_LeakMore_1 args h K :=
  ACalls.of_comp follows Try.func40 comp hl a
theorem pure {args : List AVal} {v : AVal} (hl : args.length ≤ 17) (a : AW ⟨Pg, 0, 17, false, []⟩ ir (RetK rs fun e _ => e = .ret v) (initT args) [] nilH) : APure Pg fn_law01_LeakMore_1 args v :=
  APure.of_nil (enter 0 hl a)
end law01_LeakMore_1


namespace ref01_Ints
noncomputable def cfg : Cfg := { pure := pures, pcs := [], raw := [], cuts := [], draws := [(6, [⟨0, false, [], []⟩, ⟨1, false, [], []⟩, ⟨2, false, [], []⟩, ⟨4, false, [], []⟩, ⟨5, false, [], []⟩, ⟨6, false, [], []⟩, ⟨3, false, [], []⟩, ⟨7, false, [], []⟩, ⟨8, false, [], []⟩])], keep := [] }
@[simp] noncomputable def r0 (_ : Unit) : List Stp := [S 4 (.mv (.c (.bool false)))]
@[simp] noncomputable def r1 (_ : Unit) : List Stp := [S 6 (.mv (.t 0)), S 7 (.len (.t 6)), S 8 (.mv (.t 1)), S 9 (.len (.t 8)), S 10 (.bin .neq (.t 7) (.t 9))]
@[simp] noncomputable def r2 (_ : Unit) : List Stp := [S 4 (.mv (.c (.bool false)))]
@[simp] noncomputable def r3 (_ : Unit) : List Stp := [S 5 (.mv (.c (.int .i64 0)))]
@[simp] noncomputable def r4 (_ : Unit) : List Stp := [S 11 (.mv (.t 5)), S 12 (.mv (.t 0)), S 13 (.len (.t 12)), S 14 (.bin .lss (.t 11) (.t 13))]
@[simp] noncomputable def r6 (_ : Unit) : List Stp := [S 17 (.mv (.t 0)), S 18 (.mv (.t 5)), S 19 (.ixS 1 (.t 17) (.t 18)), S 21 (.mv (.t 1)), S 22 (.mv (.t 5)), S 23 (.ixS 1 (.t 21) (.t 22)), S 20 (.load false 1 (.t 19)), S 24 (.load false 1 (.t 23)), S 25 (.bin .neq (.t 20) (.t 24))]
@[simp] noncomputable def r7 (_ : Unit) : List Stp := [S 4 (.mv (.c (.bool false)))]
@[simp] noncomputable def r5 (_ : Unit) : List Stp := [S 15 (.mv (.t 5)), S 16 (.bin .add (.t 15) (.c (.int .i64 1))), S 5 (.mv (.t 16))]
@[simp] noncomputable def r8 (_ : Unit) : List Stp := [S 4 (.mv (.c (.bool true)))]
@[simp] noncomputable def ir : IR := (.seq (.ops r0) (.seq (.seq (.ops r1) (.cond (.t 10) (.seq (.ops r2) .ret) .skip)) (.seq (.seq (.ops r3) (.block 0 (.loop (.seq (.seq (.ops r4) (.cond (.t 14) .skip (.exit 0))) (.seq (.block 1 (.seq (.ops r6) (.cond (.t 25) (.seq (.ops r7) .ret) .skip))) (.ops r5)))))) (.seq (.ops r8) .ret))))
@[simp] noncomputable def rs : List RV := [.tmp 4]
theorem comp : compF Pg cfg Try.f42 = some (ir, rs, 26) := by kernel_rfl
theorem enter {args : List AVal} {h : Heap} {K : AEnd → Heap → Prop} (F : Nat) (hl : args.length ≤ 26) (a : AW ⟨Pg, F, 26, false, []⟩ ir (RetK rs K) (initT args) [] h) : ACalls Pg fn_ref01_Ints args h K :=
  ACalls.of_comp follows Try.func42 comp hl a
theorem pure {args : List AVal} {v : AVal} (hl : args.length ≤ 26) (a : AW ⟨Pg, 0, 26, false, []⟩ ir (RetK rs fun e _ => e = .ret v) (initT args) [] nilH) : APure Pg fn_ref01_Ints args v :=
  APure.of_nil (enter 0 hl a)
end ref01_Ints

namespace leak_Clash_1
noncomputable def cfg : Cfg := { pure := pures, pcs := [], raw := [], cuts := [], draws := [], keep := [] }
@[simp] noncomputable def r0 (_ : Unit) : List Stp := [S 1 (.recov), S 2 (.call (.c (.func (.func fn_leak_said) [] [])) [(.t 1), (.t 0)])]
@[simp] noncomputable def ir : IR := (.ops r0)
@[simp] noncomputable def rs : List RV := []
theorem comp : compF Pg cfg Try.f43 = some (ir, rs, 3) := by kernel_rfl
theorem enter {args : List AVal} {h : Heap} {K : AEnd → Heap → Prop} (F : Nat) (hl : args.length ≤ 3) (a : AW ⟨Pg, F, 3, false, []⟩ ir (RetK rs K) (initT args) [] h) : ACalls Pg fn_leak_Clash_1 args h K :=
  ACalls.of_comp follows Try.func43 comp hl a
theorem pure {args : List AVal} {v : AVal} (hl : args.length ≤ 3) (a : AW ⟨Pg, 0, 3, false, []⟩ ir (RetK rs fun e _ => e = .ret v) (initT args) [] nilH) : APure Pg fn_leak_Clash_1 args v :=
  APure.of_nil (enter 0 hl a)
theorem recClo : RecClo Pg fn_leak_Clash_1 fn_leak_said := ⟨_, Try.func43, by kernel_rfl⟩
end leak_Clash_1

namespace leak_said
noncomputable def cfg : Cfg := { pure := pures, pcs := [], raw := [], cuts := [], draws := [], keep := [] }
@[simp] noncomputable def r0 (_ : Unit) : List Stp := [S 6 (.mv (.t 0)), S 7 (.eqN .i false (.t 6))]
@[simp] noncomputable def r1 (_ : Unit) : List Stp := [S 9 (.mv (.t 0)), S 10 (.tyAs 118 true (.agg [(.int .i64 0)]) (.t 9)), S 8 (.mv (.t 10)), S 11 (.ext (.t 8) 0), S 12 (.ext (.t 8) 1), S 4 (.alloc [(.int .i64 0)]), SN (.store 1 (.t 4) (.t 11)), S 5 (.mv (.t 12))]
@[simp] noncomputable def r2 (_ : Unit) : List Stp := [S 13 (.mv (.t 5)), S 14 (.un .not (.t 13))]
@[simp] noncomputable def r3 (_ : Unit) : List Stp := [S 15 (.mv (.t 0)), SN (.panic (.t 15))]
@[simp] noncomputable def r4 (_ : Unit) : List Stp := [S 16 (.mv (.t 1)), S 17 (.fAddr 0 (.t 4)), S 18 (.load false 1 (.t 17)), S 19 (.nilck Pg (.t 16)), SN (.store 1 (.t 19) (.t 18))]
@[simp] noncomputable def ir : IR := (.seq (.seq (.ops r0) (.cond (.t 7) .ret .skip)) (.seq (.ops r1) (.seq (.seq (.ops r2) (.cond (.t 14) (.ops r3) .skip)) (.ops r4))))
@[simp] noncomputable def rs : List RV := []
theorem comp : compF Pg cfg Try.f44 = some (ir, rs, 20) := by kernel_rfl
theorem enter {args : List AVal} {h : Heap} {K : AEnd → Heap → Prop} (F : Nat) (hl : args.length ≤ 20) (a : AW ⟨Pg, F, 20, false, []⟩ ir (RetK rs K) (initT args) [] h) : ACalls Pg fn_leak_said args h K :=
  ACalls.of_comp follows Try.func44 comp hl a
theorem pure {args : List AVal} {v : AVal} (hl : args.length ≤ 20) (a : AW ⟨Pg, 0, 20, false, []⟩ ir (RetK rs fun e _ => e = .ret v) (initT args) [] nilH) : APure Pg fn_leak_said args v :=
  APure.of_nil (enter 0 hl a)
end leak_said

namespace leak_open
noncomputable def cfg : Cfg := { pure := pures, pcs := [], raw := [], cuts := [], draws := [(7, [⟨0, false, [], []⟩, ⟨1, false, [], []⟩, ⟨2, false, [], []⟩, ⟨3, false, [], []⟩, ⟨5, false, [], []⟩, ⟨4, false, [], []⟩, ⟨6, false, [], []⟩, ⟨7, true, [], []⟩, ⟨8, false, [], []⟩, ⟨9, false, [], []⟩, ⟨10, false, [], []⟩, ⟨11, false, [], []⟩])], keep := [] }
@[simp] noncomputable def r0 (_ : Unit) : List Stp := [S 2 (.box (.t 0)), S 4 (.mv (.c .nilp))]
@[simp] noncomputable def r1 (_ : Unit) : List Stp := [S 10 (.fAddr 0 (.t 2)), S 11 (.load false 1 (.t 10)), S 12 (.len (.t 11)), SP 13 (.call (.c (.func (.func fn_leak_within) [] [])) [(.t 12), (.c (.int .i64 1)), (.c (.int .i64 6))]), S 14 (.mv (.t 13)), SG 15 14 true (.fAddr 1 (.t 2)), SG 16 14 true (.load false 1 (.t 15)), SG 17 14 true (.len (.t 16)), SG 18 14 true (.bin .leq (.t 17) (.c (.int .i64 8))), S 19 (.pick (.t 14) (.t 18) (.c (.bool false))), S 20 (.call (.c (.func (.func fn_leak_want) [] [])) [(.t 19), (.c (.int .i64 1))])]
@[simp] noncomputable def r2 (_ : Unit) : List Stp := [S 21 (.load true 2 (.t 2)), S 22 (.mkmap), S 23 (.build [.nils, .nils, .nils, .nilm] [(0, 2, (.t 21)), (3, 1, (.t 22))]), S 24 (.box (.t 23)), S 5 (.mv (.t 24))]
@[simp] noncomputable def r3 (_ : Unit) : List Stp := [S 25 (.fAddr 0 (.t 2)), S 26 (.load false 1 (.t 25)), S 27 (.len (.t 26)), S 28 (.mv (.c (.int .i64 0)))]
@[simp] noncomputable def r4 (_ : Unit) : List Stp := [S 29 (.bin .lss (.t 28) (.t 27))]
@[simp] noncomputable def r5 (_ : Unit) : List Stp := [S 30 (.ixS 3 (.t 26) (.t 28)), S 31 (.load true 3 (.t 30)), S 7 (.alloc [(.int .i64 0), (.int .i64 0), (.int .i64 0)]), SN (.store 3 (.t 7) (.t 31))]
@[simp] noncomputable def r6 (_ : Unit) : List Stp := [S 32 (.fAddr 0 (.t 7)), S 33 (.load false 1 (.t 32)), SP 34 (.call (.c (.func (.func fn_leak_within) [] [])) [(.t 33), (.c (.int .i64 0)), (.c (.int .i64 12))]), S 35 (.mv (.t 34)), SG 36 35 true (.fAddr 1 (.t 7)), SG 37 35 true (.load false 1 (.t 36)), SGP 38 35 true (.call (.c (.func (.func fn_leak_within) [] [])) [(.t 37), (.c (.int .i64 (-1))), (.c (.int .i64 1))]), S 39 (.pick (.t 35) (.t 38) (.c (.bool false))), S 40 (.mv (.t 39)), SG 41 40 true (.fAddr 2 (.t 7)), SG 42 40 true (.load false 1 (.t 41)), SGP 43 40 true (.call (.c (.func (.func fn_leak_within) [] [])) [(.t 42), (.c (.int .i64 0)), (.c (.int .i64 4))]), S 44 (.pick (.t 40) (.t 43) (.c (.bool false))), S 45 (.call (.c (.func (.func fn_leak_want) [] [])) [(.t 44), (.c (.int .i64 1))])]
@[simp] noncomputable def r7 (_ : Unit) : List Stp := [S 46 (.mv (.t 5)), S 47 (.mv (.t 5)), S 48 (.nilck Pg (.t 47)), S 49 (.fAddr 2 (.t 48)), S 51 (.fAddr 2 (.t 7)), S 50 (.load false 1 (.t 49)), S 52 (.load false 1 (.t 51)), SD (some 53) (.bsl 1 [(.int .i64 0)] [(0, 1, (.t 52))]) true [] [], S 54 (.app 1 8 (.t 50) (.t 53)), S 55 (.nilck Pg (.t 46)), S 56 (.fAddr 2 (.t 55)), SN (.store 1 (.t 56) (.t 54))]
@[simp] noncomputable def r8 (_ : Unit) : List Stp := [S 57 (.bin .add (.t 28) (.c (.int .i64 1))), S 28 (.mv (.t 57))]
@[simp] noncomputable def r9 (_ : Unit) : List Stp := [S 58 (.fAddr 1 (.t 2)), S 59 (.load false 1 (.t 58)), S 60 (.len (.t 59)), S 61 (.mv (.c (.int .i64 0)))]
@[simp] noncomputable def r10 (_ : Unit) : List Stp := [S 62 (.bin .lss (.t 61) (.t 60))]
@[simp] noncomputable def r11 (_ : Unit) : List Stp := [S 63 (.ixS 4 (.t 59) (.t 61)), S 64 (.load true 4 (.t 63)), S 9 (.alloc [(.int .i64 0), (.int .i64 0), (.int .i64 0), (.int .i64 0)]), SN (.store 4 (.t 9) (.t 64))]
@[simp] noncomputable def r12 (_ : Unit) : List Stp := [S 65 (.fAddr 0 (.t 9)), S 66 (.load false 1 (.t 65)), S 67 (.fAddr 1 (.t 9)), S 68 (.load false 1 (.t 67)), S 69 (.build [(.int .i64 0), (.int .i64 0)] [(0, 1, (.t 66)), (1, 1, (.t 68))]), SP 70 (.call (.c (.func (.func fn_leak_place_isPlace) [] [])) [(.t 69)]), S 71 (.mv (.t 70)), SG 72 71 true (.fAddr 2 (.t 9)), SG 73 71 true (.fAddr 0 (.t 72)), SG 74 71 true (.load false 1 (.t 73)), SG 75 71 true (.fAddr 2 (.t 9)), SG 76 71 true (.fAddr 1 (.t 75)), SG 77 71 true (.load false 1 (.t 76)), SGP 78 71 true (.call (.c (.func (.func fn_leak_within) [] [])) [(.t 74), (.c (.int .i64 0)), (.t 77)]), S 79 (.pick (.t 71) (.t 78) (.c (.bool false))), S 80 (.mv (.t 79)), SG 81 80 true (.fAddr 2 (.t 9)), SG 82 80 true (.fAddr 1 (.t 81)), SG 83 80 true (.load false 1 (.t 82)), SG 84 80 true (.bin .leq (.t 83) (.c (.int .i64 24))), S 85 (.pick (.t 80) (.t 84) (.c (.bool false))), S 86 (.call (.c (.func (.func fn_leak_want) [] [])) [(.t 85), (.c (.int .i64 1))])]
@[simp] noncomputable def r13 (_ : Unit) : List Stp := [S 87 (.bin .add (.t 61) (.c (.int .i64 1))), S 61 (.mv (.t 87))]
@[simp] noncomputable def r14 (_ : Unit) : List Stp := [S 88 (.mv (.t 1)), S 89 (.call (.c (.func (.func fn_leak_want) [] [])) [(.t 88), (.c (.int .i64 2))])]
@[simp] noncomputable def r15 (_ : Unit) : List Stp := [S 90 (.mv (.t 5)), S 4 (.mv (.t 90))]
@[simp] noncomputable def ir : IR := (.seq (.ops r0) (.seq (.ops r1) (.seq (.ops r2) (.seq (.seq (.ops r3) (.block 0 (.loop (.seq (.ops r4) (.seq (.cond (.t 29) .skip (.exit 0)) (.seq (.block 1 (.seq (.ops r5) (.seq (.ops r6) (.ops r7)))) (.ops r8))))))) (.seq (.seq (.ops r9) (.block 2 (.loop (.seq (.ops r10) (.seq (.cond (.t 62) .skip (.exit 2)) (.seq (.block 3 (.seq (.ops r11) (.ops r12))) (.ops r13))))))) (.seq (.ops r14) (.seq (.ops r15) .ret)))))))
@[simp] noncomputable def rs : List RV := [.tmp 4]
theorem comp : compF Pg cfg Try.f45 = some (ir, rs, 91) := by kernel_rfl
theorem enter {args : List AVal} {h : Heap} {K : AEnd → Heap → Prop} (F : Nat) (hl : args.length ≤ 91) (a : AW ⟨Pg, F, 91, false, []⟩ ir (RetK rs K) (initT args) [] h) : ACalls Pg fn_leak_open args h K :=
  ACalls.of_comp follows Try.func45 comp hl a
theorem pure {args : List AVal} {v : AVal} (hl : args.length ≤ 91) (a : AW ⟨Pg, 0, 91, false, []⟩ ir (RetK rs fun e _ => e = .ret v) (initT args) [] nilH) : APure Pg fn_leak_open args v :=
  APure.of_nil (enter 0 hl a)
end leak_open

end Go.Cw
end
