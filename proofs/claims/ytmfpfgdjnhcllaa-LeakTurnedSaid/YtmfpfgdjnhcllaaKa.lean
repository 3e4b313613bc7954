/-
  The program's functions in the small form.
-/
import Derived.Test.YtmfpfgdjnhcllaaAd
import Derived.Test.YtmfpfgdjnhcllaaProg
import Derived.Test.YtmfpfgdjnhcllaaAf
set_option linter.unusedVariables false
set_option linter.unusedSimpArgs false
set_option linter.unusedSectionVars false

/- The functions' numbers. Printed by a program of this seat's proofs. -/
section
namespace Go.Cw
open Go Go.Proofs

@[reducible] noncomputable def Pg : Program := Try.prog
theorem follows : Pg.follows .mixedOrders = true := by kernel_rfl
def fn_main_main : FuncId := 0
def fn_gosem_cut : FuncId := 1
def fn_gosem_cut_init : FuncId := 2
def fn_law01_LeakClashes : FuncId := 3
def fn_law01_LeakNames : FuncId := 4
def fn_law01_LeakTrue : FuncId := 5
def fn_law01_LeakEnds : FuncId := 6
def fn_law01_LeakSets : FuncId := 7
def fn_law01_LeakNext : FuncId := 8
def fn_law01_LeakClash : FuncId := 9
def fn_law01_LeakMore : FuncId := 10
def fn_law01_LeakTurned : FuncId := 11
def fn_law01_heavy : FuncId := 12
def fn_law01_alive : FuncId := 13
def fn_leak_Clash : FuncId := 14
def fn_ref01_Clash : FuncId := 15
def fn_leak_Wet : FuncId := 16
def fn_law01_sample : FuncId := 17
def fn_law01_span : FuncId := 18
def fn_leak_Rate : FuncId := 19
def fn_leak_Flow : FuncId := 20
def fn_law01_draws : FuncId := 21
def fn_law01_made : FuncId := 22
def fn_leak_Leaks : FuncId := 23
def fn_leak_Fewest : FuncId := 24
def fn_leak_Sets : FuncId := 25
def fn_ref01_Size : FuncId := 26
def fn_ref01_LeaksOf : FuncId := 27
def fn_law01_inside : FuncId := 28
def fn_leak_Total : FuncId := 29
def fn_ref01_Sum : FuncId := 30
def fn_law01_flow : FuncId := 31
def fn_law01_long : FuncId := 32
def fn_ref01_Hull : FuncId := 33
def fn_law01_wet : FuncId := 34
def fn_law01_with : FuncId := 35
def fn_leak_Next : FuncId := 36
def fn_law01_LeakNext_1 : FuncId := 37
def fn_ref01_Truths : FuncId := 38
def fn_law01_LeakClash_1 : FuncId := 39
def fn_law01_LeakMore_1 : FuncId := 40
def fn_law01_LeakTurned_1 : FuncId := 41
def fn_ref01_Ints : FuncId := 42
def fn_leak_Clash_1 : FuncId := 43
def fn_leak_said : FuncId := 44
def fn_leak_open : FuncId := 45
def fn_leak_want : FuncId := 46
def fn_leak_hull_can : FuncId := 47
def fn_leak_hull_every : FuncId := 48
def fn_math_bits_OnesCount : FuncId := 49
def fn_ref01_every : FuncId := 50
def fn_ref01_truths : FuncId := 51
def fn_leak_Wet_1 : FuncId := 52
def fn_leak_place_isPlace : FuncId := 53
def fn_leak_hull_wet : FuncId := 54
def fn_leak_Rate_1 : FuncId := 55
def fn_leak_within : FuncId := 56
def fn_leak_hull_total : FuncId := 57
def fn_leak_Flow_1 : FuncId := 58
def fn_law01_draws_1 : FuncId := 59
def fn_leak_Leaks_1 : FuncId := 60
def fn_leak_hull_truths : FuncId := 61
def fn_leak_inflow_leaks : FuncId := 62
def fn_leak_Fewest_1 : FuncId := 63
def fn_leak_best_int : FuncId := 64
def fn_leak_hull_sets : FuncId := 65
def fn_leak_Fewest_2 : FuncId := 66
def fn_leak_Sets_1 : FuncId := 67
def fn_ref01_power : FuncId := 68
def fn_leak_Total_1 : FuncId := 69
def fn_leak_isSet : FuncId := 70
def fn_ref01_Has : FuncId := 71
def fn_ref01_in : FuncId := 72
def fn_ref01_At : FuncId := 73
def fn_leak_Next_1 : FuncId := 74
def fn_leak_best_leak_place : FuncId := 75
def fn_leak_Next_2 : FuncId := 76
def fn_leak_inflow_sum : FuncId := 77
def fn_leak_hull_inflows : FuncId := 78
def fn_math_bits_OnesCount32 : FuncId := 79
def fn_math_bits_OnesCount64 : FuncId := 80
def fn_ref01_right : FuncId := 81
def fn_leak_sums : FuncId := 82
def fn_leak_hull_total_1 : FuncId := 83
def fn_slices_Collect_leak_inflow : FuncId := 84
def fn_slices_Sort_int_int : FuncId := 85
def fn_leak_set_has : FuncId := 86
def fn_leak_flows : FuncId := 87
def fn_leak_hull_conditions : FuncId := 88
def fn_leak_hull_inflows_1 : FuncId := 89
def fn_leak_hull_inflows_1_1 : FuncId := 90
def fn_ref01_wet : FuncId := 91
def fn_slices_AppendSeq_leak_inflow_leak_inflow : FuncId := 92
def fn_slices_pdqsortOrdered_int : FuncId := 93
def fn_math_bits_Len : FuncId := 94
def fn_slices_insertionSortOrdered_int : FuncId := 95
def fn_slices_heapSortOrdered_int : FuncId := 96
def fn_slices_breakPatternsOrdered_int : FuncId := 97
def fn_slices_choosePivotOrdered_int : FuncId := 98
def fn_slices_reverseRangeOrdered_int : FuncId := 99
def fn_slices_partialInsertionSortOrdered_int : FuncId := 100
def fn_cmp_Less_int : FuncId := 101
def fn_slices_partitionEqualOrdered_int : FuncId := 102
def fn_slices_partitionOrdered_int : FuncId := 103
def fn_math_bits_Len32 : FuncId := 104
def fn_math_bits_Len64 : FuncId := 105
def fn_slices_siftDownOrdered_int : FuncId := 106
def fn_slices_nextPowerOfTwo : FuncId := 107
def fn_slices_xorshift_Next : FuncId := 108
def fn_slices_medianAdjacentOrdered_int : FuncId := 109
def fn_slices_medianOrdered_int : FuncId := 110
def fn_cmp_isNaN_int : FuncId := 111
def fn_slices_order2Ordered_int : FuncId := 112
def fn_runtime_boundsError_Error : FuncId := 113
def fn_runtime_boundsError_RuntimeError : FuncId := 114
def fn_runtime_errorString_Error : FuncId := 115
def fn_runtime_errorString_RuntimeError : FuncId := 116
def fn_runtime_plainError_Error : FuncId := 117
def fn_runtime_plainError_RuntimeError : FuncId := 118
def fn_runtime_errorAddressString_Error : FuncId := 119
def fn_runtime_errorAddressString_RuntimeError : FuncId := 120
def fn_runtime_TypeAssertionError_Error : FuncId := 121
def fn_runtime_TypeAssertionError_RuntimeError : FuncId := 122
def fn_runtime_PanicNilError_Error : FuncId := 123
def fn_runtime_PanicNilError_RuntimeError : FuncId := 124
def fn_abi_Type_Align : FuncId := 125
def fn_runtime_maps_unhashableTypeError_Error : FuncId := 126
def fn_runtime_maps_unhashableTypeError_RuntimeError : FuncId := 127
def fn_leak_none_can : FuncId := 128
def fn_leak_wet_ends : FuncId := 129
def fn_leak_sounding_can : FuncId := 130
def fn_abi_Kind_String : FuncId := 131
def pures : List Nat := [12, 13, 14, 15, 16, 17, 18, 19, 20, 23, 24, 25, 26, 27, 28, 29, 30, 31, 32, 33, 34, 36, 38, 49, 50, 53, 56, 62, 68, 70, 71, 72, 73, 77, 79, 80, 81, 86, 91]

end Go.Cw
end

/- Where the library's sort lies in this program. Printed by a program of this seat's proofs. -/
section
namespace Go.Cw
open Go Go.Proofs

def sortRen : Go.Shelf.Ren where
  f := fun
    | 189 => 85
    | 125 => 94
    | 257 => 93
    | 128 => 104
    | 129 => 105
    | 294 => 95
    | 295 => 96
    | 296 => 97
    | 297 => 98
    | 298 => 99
    | 299 => 100
    | 216 => 101
    | 300 => 102
    | 301 => 103
    | 328 => 106
    | 329 => 107
    | 330 => 108
    | 331 => 109
    | 332 => 110
    | 215 => 111
    | 343 => 112
    | n => n
  t := fun
    | 28 => 46
    | 3 => 3
    | 46 => 83
    | 0 => 0
    | 51 => 127
    | 53 => 129
    | 4 => 4
    | 183 => 157
    | 182 => 156
    | 131 => 111
    | 5 => 5
    | 9 => 9
    | 218 => 162
    | 222 => 166
    | 228 => 168
    | 229 => 100
    | n => n
  g := fun n => n

theorem sortLays : Go.Proofs.Lays.n189 Pg sortRen where
  mixed := by kernel_rfl
  f125 := Eq.trans Try.func94 (congrArg some (by kernel_rfl))
  f128 := Eq.trans Try.func104 (congrArg some (by kernel_rfl))
  f129 := Eq.trans Try.func105 (congrArg some (by kernel_rfl))
  f189 := Eq.trans Try.func85 (congrArg some (by kernel_rfl))
  f215 := Eq.trans Try.func111 (congrArg some (by kernel_rfl))
  f216 := Eq.trans Try.func101 (congrArg some (by kernel_rfl))
  f257 := Eq.trans Try.func93 (congrArg some (by kernel_rfl))
  f294 := Eq.trans Try.func95 (congrArg some (by kernel_rfl))
  f295 := Eq.trans Try.func96 (congrArg some (by kernel_rfl))
  f296 := Eq.trans Try.func97 (congrArg some (by kernel_rfl))
  f297 := Eq.trans Try.func98 (congrArg some (by kernel_rfl))
  f298 := Eq.trans Try.func99 (congrArg some (by kernel_rfl))
  f299 := Eq.trans Try.func100 (congrArg some (by kernel_rfl))
  f300 := Eq.trans Try.func102 (congrArg some (by kernel_rfl))
  f301 := Eq.trans Try.func103 (congrArg some (by kernel_rfl))
  f328 := Eq.trans Try.func106 (congrArg some (by kernel_rfl))
  f329 := Eq.trans Try.func107 (congrArg some (by kernel_rfl))
  f330 := Eq.trans Try.func108 (congrArg some (by kernel_rfl))
  f331 := Eq.trans Try.func109 (congrArg some (by kernel_rfl))
  f332 := Eq.trans Try.func110 (congrArg some (by kernel_rfl))
  f343 := Eq.trans Try.func112 (congrArg some (by kernel_rfl))
  t0 := Try.underlying0
  a0 := Try.isAgg0
  z0 := Try.sizeOf0
  v0 := Try.zeroValue0
  t3 := Try.underlying3
  a3 := Try.isAgg3
  z3 := Try.sizeOf3
  v3 := Try.zeroValue3
  t4 := Try.underlying4
  a4 := Try.isAgg4
  z4 := Try.sizeOf4
  v4 := Try.zeroValue4
  t5 := Try.underlying5
  a5 := Try.isAgg5
  z5 := Try.sizeOf5
  v5 := Try.zeroValue5
  t9 := Try.underlying9
  a9 := Try.isAgg9
  z9 := Try.sizeOf9
  v9 := Try.zeroValue9
  t28 := Try.underlying46
  a28 := Try.isAgg46
  z28 := Try.sizeOf46
  v28 := Try.zeroValue46
  t46 := Try.underlying83
  a46 := Try.isAgg83
  z46 := Try.sizeOf83
  v46 := Try.zeroValue83
  t51 := Try.underlying127
  a51 := Try.isAgg127
  z51 := Try.sizeOf127
  v51 := Try.zeroValue127
  t53 := Try.underlying129
  a53 := Try.isAgg129
  z53 := Try.sizeOf129
  v53 := Try.zeroValue129
  t131 := Try.underlying111
  a131 := Try.isAgg111
  z131 := Try.sizeOf111
  v131 := Try.zeroValue111
  t182 := Try.underlying156
  a182 := Try.isAgg156
  z182 := Try.sizeOf156
  v182 := Try.zeroValue156
  t183 := Try.underlying157
  a183 := Try.isAgg157
  z183 := Try.sizeOf157
  v183 := Try.zeroValue157
  t218 := Try.underlying162
  a218 := Try.isAgg162
  z218 := Try.sizeOf162
  v218 := Try.zeroValue162
  t222 := Try.underlying166
  a222 := Try.isAgg166
  z222 := Try.sizeOf166
  v222 := Try.zeroValue166
  t228 := Try.underlying168
  a228 := Try.isAgg168
  z228 := Try.sizeOf168
  v228 := Try.zeroValue168
  t229 := Try.underlying100
  a229 := Try.isAgg100
  z229 := Try.sizeOf100
  v229 := Try.zeroValue100

theorem sortEnters : Enters Pg fn_slices_Sort_int_int := ⟨_, _, Try.func85, rfl, rfl⟩

/-- SORT. -/
theorem slices_Sort_int_int.c {r s : Nat} {cap : Cap} {l : List Int} (hl : l.length < 4611686018427387904) {K : AEnd → Heap → Prop} (k : K (.ret (.tup [])) (hpV [(r, .row (ints (sortI l)) s)])) :
    ACalls Pg fn_slices_Sort_int_int [.sl r 0 s l.length cap] (hpV [(r, .row (ints l) s)]) K := ACalls.sort sortLays sortEnters hl k

end Go.Cw
end

/- Functions in the small form. Printed by a program of this seat's proofs. -/
section
namespace Go.Cw
open Go Go.Proofs









namespace law01_LeakTurned
noncomputable def cfg : Cfg := { pure := [12, 13, 14, 15, 16, 17, 18, 19, 20, 23, 24, 26, 27, 28, 29, 30, 31, 32, 33, 34, 36, 38, 49, 50, 53, 56, 62, 68, 70, 71, 72, 73, 77, 79, 80, 81, 86, 91], pcs := [], raw := [], cuts := [], draws := [(8, [⟨0, false, [], []⟩, ⟨2, false, [], []⟩, ⟨6, false, [], []⟩, ⟨1, false, [], []⟩, ⟨3, false, [], []⟩, ⟨4, false, [], []⟩, ⟨5, false, [], []⟩, ⟨7, false, [], []⟩, ⟨8, false, [], []⟩, ⟨9, false, [], []⟩, ⟨10, true, [], []⟩, ⟨11, false, [], []⟩, ⟨12, false, [], []⟩, ⟨13, false, [], []⟩]), (15, [⟨0, false, [], []⟩, ⟨2, false, [], []⟩, ⟨4, false, [], []⟩, ⟨8, false, [], []⟩, ⟨1, false, [], []⟩, ⟨3, false, [], []⟩, ⟨5, false, [], []⟩, ⟨6, false, [], []⟩, ⟨7, false, [], []⟩, ⟨9, false, [], []⟩, ⟨10, false, [], []⟩, ⟨11, false, [], []⟩, ⟨12, true, [], []⟩, ⟨13, false, [], []⟩, ⟨14, false, [], []⟩, ⟨15, false, [], []⟩]), (20, [⟨1, false, [], []⟩, ⟨5, false, [], []⟩, ⟨2, false, [], []⟩, ⟨6, false, [], []⟩, ⟨0, true, [], []⟩, ⟨4, true, [], []⟩, ⟨3, false, [], [6]⟩, ⟨7, false, [], []⟩, ⟨8, false, [], []⟩, ⟨9, false, [], []⟩]), (73, [⟨0, false, [], []⟩, ⟨1, false, [], []⟩, ⟨2, false, [], []⟩, ⟨4, false, [], []⟩, ⟨6, false, [], []⟩, ⟨3, false, [], []⟩, ⟨5, false, [], []⟩, ⟨7, false, [], []⟩, ⟨8, false, [], []⟩, ⟨9, false, [], []⟩]), (79, [⟨0, false, [], []⟩, ⟨1, false, [], []⟩, ⟨2, false, [], []⟩, ⟨4, false, [], []⟩, ⟨6, false, [], []⟩, ⟨3, false, [], []⟩, ⟨5, false, [], []⟩, ⟨7, false, [], []⟩, ⟨8, false, [], []⟩, ⟨9, false, [], []⟩])], keep := [] }
@[simp] noncomputable def r0 (_ : Unit) : List Stp := [S 3 (.box (.t 0)), S 6 (.mv (.c (.bool false)))]
@[simp] noncomputable def r1 (_ : Unit) : List Stp := [S 67 (.load true 2 (.t 3)), SP 68 (.call (.c (.func (.func fn_law01_long) [] [])) [(.t 67)]), S 69 (.mv (.t 68)), SG 70 69 false (.load true 2 (.t 3)), SGP 71 69 false (.call (.c (.func (.func fn_ref01_Hull) [] [])) [(.t 70)]), SG 72 69 false (.un .not (.t 71)), S 73 (.pick (.t 69) (.c (.bool true)) (.t 72))]
@[simp] noncomputable def r2 (_ : Unit) : List Stp := [SP 74 (.call (.c (.func (.func fn_law01_alive) [] [])) []), S 6 (.mv (.t 74))]
@[simp] noncomputable def r3 (_ : Unit) : List Stp := [S 75 (.fAddr 0 (.t 3)), S 76 (.load false 1 (.t 75)), S 77 (.len (.t 76)), S 7 (.alloc [(.int .i64 0)]), SN (.store 1 (.t 7) (.t 77))]
@[simp] noncomputable def r4 (_ : Unit) : List Stp := [S 78 (.build [.nils, .nils] []), S 79 (.build [.nils, .nils] []), S 8 (.alloc [.nils, .nils]), S 9 (.alloc [.nils, .nils]), SN (.store 2 (.t 8) (.t 78)), SN (.store 2 (.t 9) (.t 79))]
@[simp] noncomputable def r5 (_ : Unit) : List Stp := [S 80 (.fAddr 0 (.t 3)), S 81 (.load false 1 (.t 80)), S 82 (.len (.t 81)), S 83 (.mv (.c (.int .i64 0)))]
@[simp] noncomputable def r6 (_ : Unit) : List Stp := [S 84 (.bin .lss (.t 83) (.t 82))]
@[simp] noncomputable def r7 (_ : Unit) : List Stp := [S 85 (.mv (.t 83)), S 86 (.ixS 3 (.t 81) (.t 83)), S 87 (.load true 3 (.t 86)), S 11 (.alloc [(.int .i64 0), (.int .i64 0), (.int .i64 0)]), S 10 (.mv (.t 85)), SN (.store 3 (.t 11) (.t 87))]
@[simp] noncomputable def r8 (_ : Unit) : List Stp := [S 88 (.fAddr 0 (.t 9)), S 90 (.fAddr 0 (.t 3)), S 94 (.mv (.t 10)), S 89 (.load false 1 (.t 88)), S 91 (.load false 1 (.t 90)), S 92 (.load false 1 (.t 7)), S 93 (.bin .sub (.t 92) (.c (.int .i64 1))), S 95 (.bin .sub (.t 93) (.t 94)), S 96 (.ixS 3 (.t 91) (.t 95)), S 97 (.load true 3 (.t 96)), SD (some 98) (.bsl 1 [(.int .i64 0), (.int .i64 0), (.int .i64 0)] [(0, 3, (.t 97))]) true [] [], S 99 (.app 3 24 (.t 89) (.t 98)), S 100 (.fAddr 0 (.t 9)), SN (.store 1 (.t 100) (.t 99))]
@[simp] noncomputable def r9 (_ : Unit) : List Stp := [S 101 (.fAddr 1 (.t 11)), S 102 (.load false 1 (.t 101)), S 103 (.un .neg (.t 102)), S 104 (.fAddr 1 (.t 11)), SN (.store 1 (.t 104) (.t 103))]
@[simp] noncomputable def r10 (_ : Unit) : List Stp := [S 105 (.fAddr 0 (.t 8)), S 106 (.load false 1 (.t 105)), S 107 (.load true 3 (.t 11)), S 108 (.bsl 1 [(.int .i64 0), (.int .i64 0), (.int .i64 0)] [(0, 3, (.t 107))]), S 109 (.app 3 24 (.t 106) (.t 108)), S 110 (.fAddr 0 (.t 8)), SN (.store 1 (.t 110) (.t 109))]
@[simp] noncomputable def r11 (_ : Unit) : List Stp := [S 111 (.bin .add (.t 83) (.c (.int .i64 1))), S 83 (.mv (.t 111))]
@[simp] noncomputable def r12 (_ : Unit) : List Stp := [S 112 (.fAddr 1 (.t 3)), S 113 (.load false 1 (.t 112)), S 114 (.len (.t 113)), S 115 (.mv (.c (.int .i64 0)))]
@[simp] noncomputable def r13 (_ : Unit) : List Stp := [S 116 (.bin .lss (.t 115) (.t 114))]
@[simp] noncomputable def r14 (_ : Unit) : List Stp := [S 117 (.mv (.t 115)), S 118 (.ixS 4 (.t 113) (.t 115)), S 119 (.load true 4 (.t 118)), S 13 (.alloc [(.int .i64 0), (.int .i64 0), (.int .i64 0), (.int .i64 0)]), S 12 (.mv (.t 117)), SN (.store 4 (.t 13) (.t 119))]
@[simp] noncomputable def r15 (_ : Unit) : List Stp := [S 120 (.fAddr 1 (.t 9)), S 122 (.fAddr 1 (.t 3)), S 124 (.fAddr 1 (.t 3)), S 128 (.mv (.t 12)), S 121 (.load false 1 (.t 120)), S 123 (.load false 1 (.t 122)), S 125 (.load false 1 (.t 124)), S 126 (.len (.t 125)), S 127 (.bin .sub (.t 126) (.c (.int .i64 1))), S 129 (.bin .sub (.t 127) (.t 128)), S 130 (.ixS 4 (.t 123) (.t 129)), S 131 (.load true 4 (.t 130)), SD (some 132) (.bsl 1 [(.int .i64 0), (.int .i64 0), (.int .i64 0), (.int .i64 0)] [(0, 4, (.t 131))]) true [] [], S 133 (.app 4 32 (.t 121) (.t 132)), S 134 (.fAddr 1 (.t 9)), SN (.store 1 (.t 134) (.t 133))]
@[simp] noncomputable def r16 (_ : Unit) : List Stp := [S 135 (.fAddr 1 (.t 13)), S 136 (.load false 1 (.t 135)), S 137 (.un .neg (.t 136)), S 138 (.fAddr 1 (.t 13)), SN (.store 1 (.t 138) (.t 137))]
@[simp] noncomputable def r17 (_ : Unit) : List Stp := [S 139 (.fAddr 1 (.t 8)), S 140 (.load false 1 (.t 139)), S 141 (.load true 4 (.t 13)), S 142 (.bsl 1 [(.int .i64 0), (.int .i64 0), (.int .i64 0), (.int .i64 0)] [(0, 4, (.t 141))]), S 143 (.app 4 32 (.t 140) (.t 142)), S 144 (.fAddr 1 (.t 8)), SN (.store 1 (.t 144) (.t 143))]
@[simp] noncomputable def r18 (_ : Unit) : List Stp := [S 145 (.bin .add (.t 115) (.c (.int .i64 1))), S 115 (.mv (.t 145))]
@[simp] noncomputable def r19 (_ : Unit) : List Stp := [S 146 (.mkF (.func fn_law01_LeakTurned_1) [] [(.t 7)]), S 14 (.mv (.t 146))]
@[simp] noncomputable def r20 (_ : Unit) : List Stp := [S 148 (.fAddr 0 (.t 3)), S 152 (.fAddr 1 (.t 3)), S 149 (.load false 1 (.t 148)), S 153 (.load false 1 (.t 152)), SD (some 147) (.bsl 0 [] []) true [] [], SD (some 151) (.bsl 0 [] []) true [] [], SD (some 150) (.app 3 24 (.t 147) (.t 149)) false [] [I 153 (.load false 1 (.t 152))], S 154 (.app 4 32 (.t 151) (.t 153)), S 15 (.mv (.t 150)), S 16 (.mv (.t 154))]
@[simp] noncomputable def r21 (_ : Unit) : List Stp := [S 155 (.mv (.t 1)), S 156 (.conv .i64 (.t 155)), S 157 (.bin .rem (.t 156) (.c (.int .i64 13))), S 158 (.mv (.t 2)), S 159 (.conv .i64 (.t 158)), S 160 (.bin .rem (.t 159) (.c (.int .i64 7))), S 161 (.bin .sub (.t 160) (.c (.int .i64 3))), S 17 (.mv (.t 157)), S 18 (.mv (.t 161))]
@[simp] noncomputable def r22 (_ : Unit) : List Stp := [S 163 (.load true 2 (.t 3)), S 164 (.mv (.t 17)), S 165 (.mv (.t 18)), SP 166 (.call (.c (.func (.func fn_leak_Flow) [] [])) [(.t 163), (.t 164), (.t 165)]), S 162 (.mv (.t 166)), S 167 (.ext (.t 162) 0), S 168 (.ext (.t 162) 1), S 19 (.alloc [(.int .i64 0), (.int .i64 0)]), SN (.store 2 (.t 19) (.t 167)), S 20 (.mv (.t 168))]
@[simp] noncomputable def r23 (_ : Unit) : List Stp := [S 170 (.load true 2 (.t 8)), S 171 (.mv (.t 17)), S 172 (.mv (.t 18)), S 173 (.un .neg (.t 172)), SP 174 (.call (.c (.func (.func fn_leak_Flow) [] [])) [(.t 170), (.t 171), (.t 173)]), S 169 (.mv (.t 174)), S 175 (.ext (.t 169) 0), S 176 (.ext (.t 169) 1), S 21 (.alloc [(.int .i64 0), (.int .i64 0)]), SN (.store 2 (.t 21) (.t 175)), S 22 (.mv (.t 176))]
@[simp] noncomputable def r24 (_ : Unit) : List Stp := [S 178 (.load true 2 (.t 9)), S 179 (.mv (.t 17)), S 180 (.mv (.t 18)), SP 181 (.call (.c (.func (.func fn_leak_Flow) [] [])) [(.t 178), (.t 179), (.t 180)]), S 177 (.mv (.t 181)), S 182 (.ext (.t 177) 0), S 183 (.ext (.t 177) 1), S 23 (.alloc [(.int .i64 0), (.int .i64 0)]), SN (.store 2 (.t 23) (.t 182)), S 24 (.mv (.t 183))]
@[simp] noncomputable def r25 (_ : Unit) : List Stp := [S 185 (.load true 2 (.t 3)), S 186 (.mv (.t 17)), S 187 (.mv (.t 18)), SP 188 (.call (.c (.func (.func fn_leak_Wet) [] [])) [(.t 185), (.t 186), (.t 187)]), S 184 (.mv (.t 188)), S 189 (.ext (.t 184) 0), S 190 (.ext (.t 184) 1), S 25 (.mv (.t 189)), S 26 (.mv (.t 190))]
@[simp] noncomputable def r26 (_ : Unit) : List Stp := [S 192 (.load true 2 (.t 8)), S 193 (.mv (.t 17)), S 194 (.mv (.t 18)), S 195 (.un .neg (.t 194)), SP 196 (.call (.c (.func (.func fn_leak_Wet) [] [])) [(.t 192), (.t 193), (.t 195)]), S 191 (.mv (.t 196)), S 197 (.ext (.t 191) 0), S 198 (.ext (.t 191) 1), S 27 (.mv (.t 197)), S 28 (.mv (.t 198))]
@[simp] noncomputable def r27 (_ : Unit) : List Stp := [S 200 (.load true 2 (.t 9)), S 201 (.mv (.t 17)), S 202 (.mv (.t 18)), SP 203 (.call (.c (.func (.func fn_leak_Wet) [] [])) [(.t 200), (.t 201), (.t 202)]), S 199 (.mv (.t 203)), S 204 (.ext (.t 199) 0), S 205 (.ext (.t 199) 1), S 29 (.mv (.t 204)), S 30 (.mv (.t 205))]
@[simp] noncomputable def r28 (_ : Unit) : List Stp := [S 207 (.load true 2 (.t 3)), SP 208 (.call (.c (.func (.func fn_leak_Leaks) [] [])) [(.t 207)]), S 206 (.mv (.t 208)), S 209 (.ext (.t 206) 0), S 210 (.ext (.t 206) 1), S 211 (.ext (.t 206) 2), S 31 (.mv (.t 209)), S 32 (.mv (.t 210)), S 33 (.mv (.t 211))]
@[simp] noncomputable def r29 (_ : Unit) : List Stp := [S 213 (.load true 2 (.t 8)), SP 214 (.call (.c (.func (.func fn_leak_Leaks) [] [])) [(.t 213)]), S 212 (.mv (.t 214)), S 215 (.ext (.t 212) 0), S 216 (.ext (.t 212) 1), S 217 (.ext (.t 212) 2), S 34 (.mv (.t 215)), S 35 (.mv (.t 216)), S 36 (.mv (.t 217))]
@[simp] noncomputable def r30 (_ : Unit) : List Stp := [S 219 (.load true 2 (.t 9)), SP 220 (.call (.c (.func (.func fn_leak_Leaks) [] [])) [(.t 219)]), S 218 (.mv (.t 220)), S 221 (.ext (.t 218) 0), S 222 (.ext (.t 218) 1), S 223 (.ext (.t 218) 2), S 37 (.mv (.t 221)), S 38 (.mv (.t 222)), S 39 (.mv (.t 223))]
@[simp] noncomputable def r31 (_ : Unit) : List Stp := [S 224 (.load true 2 (.t 19)), S 225 (.load true 2 (.t 21)), S 226 (.eqA true [.i, .i] (.t 224) (.t 225)), S 227 (.mv (.t 226)), SG 228 227 false (.mv (.t 20)), SG 229 227 false (.mv (.t 22)), SG 230 227 false (.bin .neq (.t 228) (.t 229)), S 231 (.pick (.t 227) (.c (.bool true)) (.t 230)), S 232 (.mv (.t 231)), SG 233 232 false (.load true 2 (.t 19)), SG 234 232 false (.load true 2 (.t 23)), SG 235 232 false (.eqA true [.i, .i] (.t 233) (.t 234)), S 236 (.pick (.t 232) (.c (.bool true)) (.t 235)), S 237 (.mv (.t 236)), SG 238 237 false (.mv (.t 20)), SG 239 237 false (.mv (.t 24)), SG 240 237 false (.bin .neq (.t 238) (.t 239)), S 241 (.pick (.t 237) (.c (.bool true)) (.t 240)), S 242 (.mv (.t 241)), SG 243 242 false (.mv (.t 25)), SG 244 242 false (.mv (.t 27)), SG 245 242 false (.bin .neq (.t 243) (.t 244)), S 246 (.pick (.t 242) (.c (.bool true)) (.t 245)), S 247 (.mv (.t 246)), SG 248 247 false (.mv (.t 26)), SG 249 247 false (.bin .neq (.t 248) (.c (.int .i64 0))), S 250 (.pick (.t 247) (.c (.bool true)) (.t 249)), S 251 (.mv (.t 250)), SG 252 251 false (.mv (.t 28)), SG 253 251 false (.bin .neq (.t 252) (.c (.int .i64 0))), S 254 (.pick (.t 251) (.c (.bool true)) (.t 253)), S 255 (.mv (.t 254)), SG 256 255 false (.mv (.t 29)), SG 257 255 false (.mv (.t 14)), SG 258 255 false (.mv (.t 25)), SG 259 255 false (.call (.t 257) [(.t 258)]), SG 260 255 false (.bin .neq (.t 256) (.t 259)), S 261 (.pick (.t 255) (.c (.bool true)) (.t 260)), S 262 (.mv (.t 261)), SG 263 262 false (.mv (.t 30)), SG 264 262 false (.bin .neq (.t 263) (.c (.int .i64 0))), S 265 (.pick (.t 262) (.c (.bool true)) (.t 264)), S 266 (.mv (.t 265)), SG 267 266 false (.mv (.t 31)), SG 268 266 false (.mv (.t 34)), SG 269 266 false (.bin .neq (.t 267) (.t 268)), S 270 (.pick (.t 266) (.c (.bool true)) (.t 269)), S 271 (.mv (.t 270)), SG 272 271 false (.mv (.t 32)), SG 273 271 false (.mv (.t 35)), SG 274 271 false (.bin .neq (.t 272) (.t 273)), S 275 (.pick (.t 271) (.c (.bool true)) (.t 274)), S 276 (.mv (.t 275)), SG 277 276 false (.mv (.t 33)), SG 278 276 false (.mv (.t 20)), SG 279 276 false (.bin .neq (.t 277) (.t 278)), S 280 (.pick (.t 276) (.c (.bool true)) (.t 279)), S 281 (.mv (.t 280)), SG 282 281 false (.mv (.t 36)), SG 283 281 false (.mv (.t 20)), SG 284 281 false (.bin .neq (.t 282) (.t 283)), S 285 (.pick (.t 281) (.c (.bool true)) (.t 284)), S 286 (.mv (.t 285)), SG 287 286 false (.mv (.t 37)), SG 288 286 false (.mv (.t 14)), SG 289 286 false (.mv (.t 31)), SG 290 286 false (.call (.t 288) [(.t 289)]), SG 291 286 false (.bin .neq (.t 287) (.t 290)), S 292 (.pick (.t 286) (.c (.bool true)) (.t 291)), S 293 (.mv (.t 292)), SG 294 293 false (.mv (.t 38)), SG 295 293 false (.mv (.t 14)), SG 296 293 false (.mv (.t 32)), SG 297 293 false (.call (.t 295) [(.t 296)]), SG 298 293 false (.bin .neq (.t 294) (.t 297)), S 299 (.pick (.t 293) (.c (.bool true)) (.t 298)), S 300 (.mv (.t 299)), SG 301 300 false (.mv (.t 39)), SG 302 300 false (.mv (.t 20)), SG 303 300 false (.bin .neq (.t 301) (.t 302)), S 304 (.pick (.t 300) (.c (.bool true)) (.t 303))]
@[simp] noncomputable def r32 (_ : Unit) : List Stp := [S 6 (.mv (.c (.bool false)))]
@[simp] noncomputable def r33 (_ : Unit) : List Stp := [S 306 (.load true 2 (.t 3)), S 307 (.call (.c (.func (.func fn_leak_Sets) [] [])) [(.t 306)]), S 305 (.mv (.t 307)), S 308 (.ext (.t 305) 0), S 309 (.ext (.t 305) 1), S 40 (.mv (.t 308)), S 41 (.mv (.t 309))]
@[simp] noncomputable def r34 (_ : Unit) : List Stp := [S 311 (.load true 2 (.t 8)), S 312 (.call (.c (.func (.func fn_leak_Sets) [] [])) [(.t 311)]), S 310 (.mv (.t 312)), S 313 (.ext (.t 310) 0), S 314 (.ext (.t 310) 1), S 42 (.mv (.t 313)), S 43 (.mv (.t 314))]
@[simp] noncomputable def r35 (_ : Unit) : List Stp := [S 316 (.load true 2 (.t 9)), S 317 (.call (.c (.func (.func fn_leak_Sets) [] [])) [(.t 316)]), S 315 (.mv (.t 317)), S 318 (.ext (.t 315) 0), S 319 (.ext (.t 315) 1), S 44 (.mv (.t 318)), S 45 (.mv (.t 319))]
@[simp] noncomputable def r36 (_ : Unit) : List Stp := [S 321 (.load true 2 (.t 3)), SP 322 (.call (.c (.func (.func fn_leak_Clash) [] [])) [(.t 321)]), S 320 (.mv (.t 322)), S 323 (.ext (.t 320) 0), S 324 (.ext (.t 320) 1), S 46 (.mv (.t 323)), S 47 (.mv (.t 324))]
@[simp] noncomputable def r37 (_ : Unit) : List Stp := [S 326 (.load true 2 (.t 9)), SP 327 (.call (.c (.func (.func fn_leak_Clash) [] [])) [(.t 326)]), S 325 (.mv (.t 327)), S 328 (.ext (.t 325) 0), S 329 (.ext (.t 325) 1), S 48 (.mv (.t 328)), S 49 (.mv (.t 329))]
@[simp] noncomputable def r38 (_ : Unit) : List Stp := [S 330 (.mv (.t 40)), S 331 (.mv (.t 42)), S 332 (.call (.c (.func (.func fn_ref01_Ints) [] [])) [(.t 330), (.t 331)]), S 333 (.un .not (.t 332)), S 334 (.mv (.t 333)), SG 335 334 false (.mv (.t 41)), SG 336 334 false (.mv (.t 43)), SG 337 334 false (.bin .neq (.t 335) (.t 336)), S 338 (.pick (.t 334) (.c (.bool true)) (.t 337)), S 339 (.mv (.t 338)), SG 340 339 false (.mv (.t 40)), SG 341 339 false (.len (.t 340)), SG 342 339 false (.mv (.t 44)), SG 343 339 false (.len (.t 342)), SG 344 339 false (.bin .neq (.t 341) (.t 343)), S 345 (.pick (.t 339) (.c (.bool true)) (.t 344)), S 346 (.mv (.t 345)), SG 347 346 false (.mv (.t 41)), SG 348 346 false (.mv (.t 45)), SG 349 346 false (.bin .neq (.t 347) (.t 348)), S 350 (.pick (.t 346) (.c (.bool true)) (.t 349)), S 351 (.mv (.t 350)), SG 352 351 false (.mv (.t 47)), SG 353 351 false (.mv (.t 49)), SG 354 351 false (.bin .neq (.t 352) (.t 353)), S 355 (.pick (.t 351) (.c (.bool true)) (.t 354))]
@[simp] noncomputable def r39 (_ : Unit) : List Stp := [S 6 (.mv (.c (.bool false)))]
@[simp] noncomputable def r40 (_ : Unit) : List Stp := [S 356 (.mv (.t 44)), S 357 (.len (.t 356)), S 358 (.mv (.c (.int .i64 0)))]
@[simp] noncomputable def r41 (_ : Unit) : List Stp := [S 359 (.bin .lss (.t 358) (.t 357))]
@[simp] noncomputable def r42 (_ : Unit) : List Stp := [S 360 (.ixS 1 (.t 356) (.t 358)), S 361 (.load false 1 (.t 360)), S 51 (.mv (.t 361))]
@[simp] noncomputable def r43 (_ : Unit) : List Stp := [S 52 (.mv (.c (.bool false)))]
@[simp] noncomputable def r44 (_ : Unit) : List Stp := [S 362 (.mv (.t 40)), S 363 (.len (.t 362)), S 364 (.mv (.c (.int .i64 0)))]
@[simp] noncomputable def r45 (_ : Unit) : List Stp := [S 365 (.bin .lss (.t 364) (.t 363))]
@[simp] noncomputable def r46 (_ : Unit) : List Stp := [S 366 (.ixS 1 (.t 362) (.t 364)), S 367 (.load false 1 (.t 366)), S 54 (.mv (.t 367))]
@[simp] noncomputable def r47 (_ : Unit) : List Stp := [S 368 (.mv (.t 52)), S 369 (.mv (.t 368)), SG 370 369 false (.mv (.t 14)), SG 371 369 false (.mv (.t 54)), SG 372 369 false (.call (.t 370) [(.t 371)]), SG 373 369 false (.mv (.t 51)), SG 374 369 false (.bin .eql (.t 372) (.t 373)), S 375 (.pick (.t 369) (.c (.bool true)) (.t 374)), S 52 (.mv (.t 375))]
@[simp] noncomputable def r48 (_ : Unit) : List Stp := [S 376 (.bin .add (.t 364) (.c (.int .i64 1))), S 364 (.mv (.t 376))]
@[simp] noncomputable def r49 (_ : Unit) : List Stp := [S 377 (.mv (.t 52)), S 378 (.un .not (.t 377))]
@[simp] noncomputable def r50 (_ : Unit) : List Stp := [S 6 (.mv (.c (.bool false)))]
@[simp] noncomputable def r51 (_ : Unit) : List Stp := [S 379 (.bin .add (.t 358) (.c (.int .i64 1))), S 358 (.mv (.t 379))]
@[simp] noncomputable def r52 (_ : Unit) : List Stp := [S 380 (.load false 1 (.t 7)), S 381 (.mv (.c (.int .i64 0)))]
@[simp] noncomputable def r53 (_ : Unit) : List Stp := [S 382 (.bin .lss (.t 381) (.t 380))]
@[simp] noncomputable def r54 (_ : Unit) : List Stp := [S 383 (.mv (.t 381)), S 55 (.mv (.t 383))]
@[simp] noncomputable def r55 (_ : Unit) : List Stp := [S 385 (.load true 2 (.t 3)), S 386 (.mv (.t 55)), SP 387 (.call (.c (.func (.func fn_leak_Rate) [] [])) [(.t 385), (.t 386)]), S 384 (.mv (.t 387)), S 388 (.ext (.t 384) 0), S 389 (.ext (.t 384) 1), S 56 (.alloc [(.int .i64 0), (.int .i64 0)]), SN (.store 2 (.t 56) (.t 388)), S 57 (.mv (.t 389))]
@[simp] noncomputable def r56 (_ : Unit) : List Stp := [S 391 (.load true 2 (.t 8)), S 392 (.mv (.t 55)), SP 393 (.call (.c (.func (.func fn_leak_Rate) [] [])) [(.t 391), (.t 392)]), S 390 (.mv (.t 393)), S 394 (.ext (.t 390) 0), S 395 (.ext (.t 390) 1), S 58 (.alloc [(.int .i64 0), (.int .i64 0)]), SN (.store 2 (.t 58) (.t 394)), S 59 (.mv (.t 395))]
@[simp] noncomputable def r57 (_ : Unit) : List Stp := [S 397 (.load true 2 (.t 9)), S 398 (.load false 1 (.t 7)), S 399 (.bin .sub (.t 398) (.c (.int .i64 1))), S 400 (.mv (.t 55)), S 401 (.bin .sub (.t 399) (.t 400)), SP 402 (.call (.c (.func (.func fn_leak_Rate) [] [])) [(.t 397), (.t 401)]), S 396 (.mv (.t 402)), S 403 (.ext (.t 396) 0), S 404 (.ext (.t 396) 1), S 60 (.alloc [(.int .i64 0), (.int .i64 0)]), SN (.store 2 (.t 60) (.t 403)), S 61 (.mv (.t 404))]
@[simp] noncomputable def r58 (_ : Unit) : List Stp := [S 405 (.load true 2 (.t 56)), S 406 (.load true 2 (.t 58)), S 407 (.eqA true [.i, .i] (.t 405) (.t 406)), S 408 (.mv (.t 407)), SG 409 408 false (.load true 2 (.t 56)), SG 410 408 false (.load true 2 (.t 60)), SG 411 408 false (.eqA true [.i, .i] (.t 409) (.t 410)), S 412 (.pick (.t 408) (.c (.bool true)) (.t 411)), S 413 (.mv (.t 412)), SG 414 413 false (.mv (.t 57)), SG 415 413 false (.mv (.t 59)), SG 416 413 false (.bin .neq (.t 414) (.t 415)), S 417 (.pick (.t 413) (.c (.bool true)) (.t 416)), S 418 (.mv (.t 417)), SG 419 418 false (.mv (.t 57)), SG 420 418 false (.mv (.t 61)), SG 421 418 false (.bin .neq (.t 419) (.t 420)), S 422 (.pick (.t 418) (.c (.bool true)) (.t 421))]
@[simp] noncomputable def r59 (_ : Unit) : List Stp := [S 6 (.mv (.c (.bool false)))]
@[simp] noncomputable def r60 (_ : Unit) : List Stp := [S 423 (.bin .add (.t 381) (.c (.int .i64 1))), S 381 (.mv (.t 423))]
@[simp] noncomputable def r61 (_ : Unit) : List Stp := [S 424 (.bsl 0 [] []), S 425 (.mv (.t 40)), S 426 (.app 1 8 (.t 424) (.t 425)), S 62 (.mv (.t 426))]
@[simp] noncomputable def r62 (_ : Unit) : List Stp := [S 427 (.mv (.t 40)), S 428 (.len (.t 427)), S 429 (.mv (.c (.int .i64 0)))]
@[simp] noncomputable def r63 (_ : Unit) : List Stp := [S 430 (.bin .lss (.t 429) (.t 428))]
@[simp] noncomputable def r64 (_ : Unit) : List Stp := [S 431 (.mv (.t 429)), S 63 (.mv (.t 431))]
@[simp] noncomputable def r65 (_ : Unit) : List Stp := [S 432 (.mv (.t 40)), S 433 (.mv (.t 63)), S 434 (.ixS 1 (.t 432) (.t 433)), SN (.store 1 (.t 434) (.c (.int .i64 (-9))))]
@[simp] noncomputable def r66 (_ : Unit) : List Stp := [S 435 (.bin .add (.t 429) (.c (.int .i64 1))), S 429 (.mv (.t 435))]
@[simp] noncomputable def r67 (_ : Unit) : List Stp := [S 437 (.load true 2 (.t 3)), S 438 (.call (.c (.func (.func fn_leak_Sets) [] [])) [(.t 437)]), S 436 (.mv (.t 438)), S 439 (.ext (.t 436) 0), S 440 (.ext (.t 436) 1), S 64 (.mv (.t 439)), S 45 (.mv (.t 440))]
@[simp] noncomputable def r68 (_ : Unit) : List Stp := [S 441 (.mv (.t 45)), S 442 (.mv (.t 41)), S 443 (.bin .neq (.t 441) (.t 442)), S 444 (.mv (.t 443)), SG 445 444 false (.mv (.t 64)), SG 446 444 false (.mv (.t 62)), SG 447 444 false (.call (.c (.func (.func fn_ref01_Ints) [] [])) [(.t 445), (.t 446)]), SG 448 444 false (.un .not (.t 447)), S 449 (.pick (.t 444) (.c (.bool true)) (.t 448))]
@[simp] noncomputable def r69 (_ : Unit) : List Stp := [S 6 (.mv (.c (.bool false)))]
@[simp] noncomputable def r70 (_ : Unit) : List Stp := [S 450 (.mv (.t 15)), S 451 (.len (.t 450)), S 452 (.mv (.c (.int .i64 0)))]
@[simp] noncomputable def r71 (_ : Unit) : List Stp := [S 453 (.bin .lss (.t 452) (.t 451))]
@[simp] noncomputable def r72 (_ : Unit) : List Stp := [S 454 (.mv (.t 452)), S 65 (.mv (.t 454))]
@[simp] noncomputable def r73 (_ : Unit) : List Stp := [S 455 (.mv (.t 15)), S 456 (.mv (.t 65)), S 457 (.ixS 3 (.t 455) (.t 456)), S 459 (.fAddr 0 (.t 3)), S 461 (.mv (.t 65)), S 458 (.load true 3 (.t 457)), S 460 (.load false 1 (.t 459)), S 462 (.ixS 3 (.t 460) (.t 461)), S 463 (.load true 3 (.t 462)), S 464 (.eqA true [.i, .i, .i] (.t 458) (.t 463))]
@[simp] noncomputable def r74 (_ : Unit) : List Stp := [S 6 (.mv (.c (.bool false)))]
@[simp] noncomputable def r75 (_ : Unit) : List Stp := [S 465 (.bin .add (.t 452) (.c (.int .i64 1))), S 452 (.mv (.t 465))]
@[simp] noncomputable def r76 (_ : Unit) : List Stp := [S 466 (.mv (.t 16)), S 467 (.len (.t 466)), S 468 (.mv (.c (.int .i64 0)))]
@[simp] noncomputable def r77 (_ : Unit) : List Stp := [S 469 (.bin .lss (.t 468) (.t 467))]
@[simp] noncomputable def r78 (_ : Unit) : List Stp := [S 470 (.mv (.t 468)), S 66 (.mv (.t 470))]
@[simp] noncomputable def r79 (_ : Unit) : List Stp := [S 471 (.mv (.t 16)), S 472 (.mv (.t 66)), S 473 (.ixS 4 (.t 471) (.t 472)), S 475 (.fAddr 1 (.t 3)), S 477 (.mv (.t 66)), S 474 (.load true 4 (.t 473)), S 476 (.load false 1 (.t 475)), S 478 (.ixS 4 (.t 476) (.t 477)), S 479 (.load true 4 (.t 478)), S 480 (.eqA true [.i, .i, .i, .i] (.t 474) (.t 479))]
@[simp] noncomputable def r80 (_ : Unit) : List Stp := [S 6 (.mv (.c (.bool false)))]
@[simp] noncomputable def r81 (_ : Unit) : List Stp := [S 481 (.bin .add (.t 468) (.c (.int .i64 1))), S 468 (.mv (.t 481))]
@[simp] noncomputable def r82 (_ : Unit) : List Stp := [SP 482 (.call (.c (.func (.func fn_law01_alive) [] [])) []), S 6 (.mv (.t 482))]
@[simp] noncomputable def ir : IR := (.seq (.ops r0) (.seq (.seq (.ops r1) (.cond (.t 73) (.seq (.ops r2) .ret) .skip)) (.seq (.ops r3) (.seq (.ops r4) (.seq (.seq (.ops r5) (.block 0 (.loop (.seq (.ops r6) (.seq (.cond (.t 84) .skip (.exit 0)) (.seq (.block 1 (.seq (.ops r7) (.seq (.ops r8) (.seq (.ops r9) (.ops r10))))) (.ops r11))))))) (.seq (.seq (.ops r12) (.block 2 (.loop (.seq (.ops r13) (.seq (.cond (.t 116) .skip (.exit 2)) (.seq (.block 3 (.seq (.ops r14) (.seq (.ops r15) (.seq (.ops r16) (.ops r17))))) (.ops r18))))))) (.seq (.ops r19) (.seq (.ops r20) (.seq (.ops r21) (.seq (.ops r22) (.seq (.ops r23) (.seq (.ops r24) (.seq (.ops r25) (.seq (.ops r26) (.seq (.ops r27) (.seq (.ops r28) (.seq (.ops r29) (.seq (.ops r30) (.seq (.seq (.ops r31) (.cond (.t 304) (.seq (.ops r32) .ret) .skip)) (.seq (.ops r33) (.seq (.ops r34) (.seq (.ops r35) (.seq (.ops r36) (.seq (.ops r37) (.seq (.seq (.ops r38) (.cond (.t 355) (.seq (.ops r39) .ret) .skip)) (.seq (.seq (.ops r40) (.block 4 (.loop (.seq (.ops r41) (.seq (.cond (.t 359) .skip (.exit 4)) (.seq (.block 5 (.seq (.ops r42) (.seq (.ops r43) (.seq (.seq (.ops r44) (.block 6 (.loop (.seq (.ops r45) (.seq (.cond (.t 365) .skip (.exit 6)) (.seq (.block 7 (.seq (.ops r46) (.ops r47))) (.ops r48))))))) (.seq (.ops r49) (.cond (.t 378) (.seq (.ops r50) .ret) .skip)))))) (.ops r51))))))) (.seq (.seq (.ops r52) (.block 8 (.loop (.seq (.ops r53) (.seq (.cond (.t 382) .skip (.exit 8)) (.seq (.block 9 (.seq (.ops r54) (.seq (.ops r55) (.seq (.ops r56) (.seq (.ops r57) (.seq (.ops r58) (.cond (.t 422) (.seq (.ops r59) .ret) .skip))))))) (.ops r60))))))) (.seq (.ops r61) (.seq (.seq (.ops r62) (.block 10 (.loop (.seq (.ops r63) (.seq (.cond (.t 430) .skip (.exit 10)) (.seq (.block 11 (.seq (.ops r64) (.ops r65))) (.ops r66))))))) (.seq (.ops r67) (.seq (.seq (.ops r68) (.cond (.t 449) (.seq (.ops r69) .ret) .skip)) (.seq (.seq (.ops r70) (.block 12 (.loop (.seq (.ops r71) (.seq (.cond (.t 453) .skip (.exit 12)) (.seq (.block 13 (.seq (.ops r72) (.seq (.ops r73) (.cond (.t 464) (.seq (.ops r74) .ret) .skip)))) (.ops r75))))))) (.seq (.seq (.ops r76) (.block 14 (.loop (.seq (.ops r77) (.seq (.cond (.t 469) .skip (.exit 14)) (.seq (.block 15 (.seq (.ops r78) (.seq (.ops r79) (.cond (.t 480) (.seq (.ops r80) .ret) .skip)))) (.ops r81))))))) (.seq (.ops r82) .ret))))))))))))))))))))))))))))))))))
@[simp] noncomputable def rs : List RV := [.tmp 6]
theorem comp : compF Pg cfg Try.f11 = some (ir, rs, 483) := by kernel_rfl
theorem enter {args : List AVal} {h : Heap} {K : AEnd → Heap → Prop} (F : Nat) (hl : args.length ≤ 483) (a : AW ⟨Pg, F, 483, false, []⟩ ir (RetK rs K) (initT args) [] h) : ACalls Pg fn_law01_LeakTurned args h K :=
  ACalls.of_comp follows Try.func11 comp hl a
theorem pure {args : List AVal} {v : AVal} (hl : args.length ≤ 483) (a : AW ⟨Pg, 0, 483, false, []⟩ ir (RetK rs fun e _ => e = .ret v) (initT args) [] nilH) : APure Pg fn_law01_LeakTurned args v :=
  APure.of_nil (enter 0 hl a)
end law01_LeakTurned

namespace law01_heavy
noncomputable def cfg : Cfg := { pure := pures, pcs := [], raw := [], cuts := [], draws := [], keep := [] }
@[simp] noncomputable def r0 (_ : Unit) : List Stp := [S 3 (.box (.t 0)), S 6 (.mv (.c (.bool false)))]
@[simp] noncomputable def r1 (_ : Unit) : List Stp := [S 10 (.load true 2 (.t 3)), SP 11 (.call (.c (.func (.func fn_law01_long) [] [])) [(.t 10)]), S 12 (.mv (.t 11)), SG 13 12 false (.load true 2 (.t 3)), SGP 14 12 false (.call (.c (.func (.func fn_ref01_Hull) [] [])) [(.t 13)]), SG 15 12 false (.un .not (.t 14)), S 16 (.pick (.t 12) (.c (.bool true)) (.t 15))]
@[simp] noncomputable def r2 (_ : Unit) : List Stp := [S 17 (.load true 2 (.t 3)), SP 18 (.call (.c (.func (.func fn_law01_long) [] [])) [(.t 17)]), S 6 (.mv (.t 18))]
@[simp] noncomputable def r3 (_ : Unit) : List Stp := [S 7 (.mv (.c (.int .i64 1)))]
@[simp] noncomputable def r4 (_ : Unit) : List Stp := [S 19 (.fAddr 0 (.t 3)), S 20 (.load false 1 (.t 19)), S 21 (.len (.t 20)), S 22 (.mv (.c (.int .i64 0)))]
@[simp] noncomputable def r5 (_ : Unit) : List Stp := [S 23 (.bin .lss (.t 22) (.t 21))]
@[simp] noncomputable def r6 (_ : Unit) : List Stp := [S 24 (.ixS 3 (.t 20) (.t 22)), S 25 (.load true 3 (.t 24)), S 9 (.alloc [(.int .i64 0), (.int .i64 0), (.int .i64 0)]), SN (.store 3 (.t 9) (.t 25))]
@[simp] noncomputable def r7 (_ : Unit) : List Stp := [S 26 (.mv (.t 7)), S 27 (.fAddr 2 (.t 9)), S 28 (.load false 1 (.t 27)), S 29 (.bin .add (.t 28) (.c (.int .i64 1))), S 30 (.bin .mul (.t 26) (.t 29)), S 7 (.mv (.t 30))]
@[simp] noncomputable def r8 (_ : Unit) : List Stp := [S 31 (.bin .add (.t 22) (.c (.int .i64 1))), S 22 (.mv (.t 31))]
@[simp] noncomputable def r9 (_ : Unit) : List Stp := [S 32 (.mv (.t 7)), S 33 (.mv (.t 1)), S 34 (.bin .gtr (.t 32) (.t 33)), S 35 (.mv (.t 34)), SG 36 35 false (.fAddr 1 (.t 3)), SG 37 35 false (.load false 1 (.t 36)), SG 38 35 false (.len (.t 37)), SG 39 35 false (.mv (.t 2)), SG 40 35 false (.bin .gtr (.t 38) (.t 39)), S 41 (.pick (.t 35) (.c (.bool true)) (.t 40)), S 6 (.mv (.t 41))]
@[simp] noncomputable def ir : IR := (.seq (.ops r0) (.seq (.seq (.ops r1) (.cond (.t 16) (.seq (.ops r2) .ret) .skip)) (.seq (.ops r3) (.seq (.seq (.ops r4) (.block 0 (.loop (.seq (.ops r5) (.seq (.cond (.t 23) .skip (.exit 0)) (.seq (.block 1 (.seq (.ops r6) (.ops r7))) (.ops r8))))))) (.seq (.ops r9) .ret)))))
@[simp] noncomputable def rs : List RV := [.tmp 6]
theorem comp : compF Pg cfg Try.f12 = some (ir, rs, 42) := by kernel_rfl
theorem enter {args : List AVal} {h : Heap} {K : AEnd → Heap → Prop} (F : Nat) (hl : args.length ≤ 42) (a : AW ⟨Pg, F, 42, false, []⟩ ir (RetK rs K) (initT args) [] h) : ACalls Pg fn_law01_heavy args h K :=
  ACalls.of_comp follows Try.func12 comp hl a
theorem pure {args : List AVal} {v : AVal} (hl : args.length ≤ 42) (a : AW ⟨Pg, 0, 42, false, []⟩ ir (RetK rs fun e _ => e = .ret v) (initT args) [] nilH) : APure Pg fn_law01_heavy args v :=
  APure.of_nil (enter 0 hl a)
end law01_heavy

namespace law01_alive
noncomputable def cfg : Cfg := { pure := pures, pcs := [], raw := [], cuts := [], draws := [(10, [⟨0, false, [], []⟩, ⟨1, false, [], []⟩, ⟨2, false, [], []⟩, ⟨3, false, [], []⟩, ⟨4, false, [], []⟩, ⟨5, false, [], []⟩, ⟨6, false, [], []⟩, ⟨8, false, [], []⟩, ⟨7, false, [], []⟩, ⟨9, false, [], []⟩, ⟨10, false, [], []⟩, ⟨11, false, [], []⟩, ⟨12, false, [], []⟩, ⟨13, false, [], []⟩, ⟨14, false, [], []⟩, ⟨15, false, [], []⟩, ⟨17, false, [], []⟩, ⟨16, false, [], []⟩, ⟨18, false, [], []⟩, ⟨19, false, [], []⟩, ⟨20, false, [], []⟩, ⟨21, false, [], []⟩, ⟨22, false, [], []⟩, ⟨23, false, [], []⟩, ⟨24, false, [], []⟩, ⟨25, false, [], []⟩, ⟨26, false, [], []⟩, ⟨27, false, [], []⟩, ⟨28, false, [], []⟩, ⟨29, false, [], []⟩, ⟨30, false, [], []⟩, ⟨31, false, [], []⟩, ⟨32, false, [], []⟩, ⟨33, false, [], []⟩, ⟨34, false, [], []⟩, ⟨35, false, [], []⟩, ⟨36, false, [], []⟩, ⟨37, false, [], []⟩, ⟨38, false, [], []⟩, ⟨39, false, [], []⟩, ⟨40, false, [], []⟩, ⟨41, false, [], []⟩, ⟨42, false, [], []⟩, ⟨43, false, [], []⟩, ⟨44, false, [], []⟩, ⟨45, false, [], []⟩, ⟨46, false, [], []⟩, ⟨47, false, [], []⟩, ⟨48, false, [], []⟩, ⟨49, false, [], []⟩, ⟨50, false, [], []⟩, ⟨51, false, [], []⟩, ⟨52, false, [], []⟩, ⟨53, false, [], []⟩, ⟨54, false, [], []⟩, ⟨55, false, [], []⟩, ⟨56, false, [], []⟩, ⟨57, false, [], []⟩, ⟨59, false, [], []⟩, ⟨58, false, [], []⟩, ⟨60, false, [], []⟩, ⟨61, false, [], []⟩, ⟨62, false, [], []⟩, ⟨63, false, [], []⟩, ⟨64, false, [], []⟩, ⟨65, false, [], []⟩, ⟨66, false, [], []⟩, ⟨67, false, [], []⟩, ⟨68, false, [], []⟩, ⟨69, false, [], []⟩, ⟨70, false, [], []⟩, ⟨71, false, [], []⟩, ⟨72, false, [], []⟩, ⟨73, false, [], []⟩, ⟨74, false, [], []⟩, ⟨75, false, [], []⟩, ⟨76, false, [], []⟩, ⟨77, false, [], []⟩, ⟨78, false, [], []⟩, ⟨79, false, [], []⟩, ⟨80, false, [], []⟩, ⟨81, false, [], []⟩, ⟨82, false, [], []⟩, ⟨83, false, [], []⟩, ⟨84, false, [], []⟩, ⟨85, false, [], []⟩, ⟨86, false, [], []⟩, ⟨87, false, [], []⟩, ⟨88, false, [], []⟩, ⟨89, false, [], []⟩, ⟨90, false, [], []⟩])], keep := [] }
@[simp] noncomputable def r0 (_ : Unit) : List Stp := [S 0 (.mv (.c (.bool false)))]
@[simp] noncomputable def r1 (_ : Unit) : List Stp := [SP 24 (.call (.c (.func (.func fn_law01_sample) [] [])) [(.c (.bool false))]), SP 25 (.call (.c (.func (.func fn_leak_Wet) [] [])) [(.t 24), (.c (.int .i64 4)), (.c (.int .i64 1))]), S 23 (.mv (.t 25)), S 26 (.ext (.t 23) 0), S 27 (.ext (.t 23) 1), S 1 (.mv (.t 26)), S 2 (.mv (.t 27))]
@[simp] noncomputable def r2 (_ : Unit) : List Stp := [SP 29 (.call (.c (.func (.func fn_law01_sample) [] [])) [(.c (.bool false))]), SP 30 (.call (.c (.func (.func fn_leak_Rate) [] [])) [(.t 29), (.c (.int .i64 2))]), S 28 (.mv (.t 30)), S 31 (.ext (.t 28) 0), S 32 (.ext (.t 28) 1), S 3 (.alloc [(.int .i64 0), (.int .i64 0)]), SN (.store 2 (.t 3) (.t 31)), S 4 (.mv (.t 32))]
@[simp] noncomputable def r3 (_ : Unit) : List Stp := [SP 34 (.call (.c (.func (.func fn_law01_sample) [] [])) [(.c (.bool false))]), SP 35 (.call (.c (.func (.func fn_leak_Total) [] [])) [(.t 34), (.c (.int .i64 6))]), S 33 (.mv (.t 35)), S 36 (.ext (.t 33) 0), S 37 (.ext (.t 33) 1), S 5 (.alloc [(.int .i64 0), (.int .i64 0)]), SN (.store 2 (.t 5) (.t 36)), S 6 (.mv (.t 37))]
@[simp] noncomputable def r4 (_ : Unit) : List Stp := [SP 39 (.call (.c (.func (.func fn_law01_sample) [] [])) [(.c (.bool false))]), SP 40 (.call (.c (.func (.func fn_leak_Leaks) [] [])) [(.t 39)]), S 38 (.mv (.t 40)), S 41 (.ext (.t 38) 0), S 42 (.ext (.t 38) 1), S 43 (.ext (.t 38) 2), S 7 (.mv (.t 41)), S 8 (.mv (.t 42)), S 9 (.mv (.t 43))]
@[simp] noncomputable def r5 (_ : Unit) : List Stp := [SP 45 (.call (.c (.func (.func fn_law01_sample) [] [])) [(.c (.bool false))]), SP 46 (.call (.c (.func (.func fn_leak_Sets) [] [])) [(.t 45)]), S 44 (.mv (.t 46)), S 47 (.ext (.t 44) 0), S 48 (.ext (.t 44) 1), S 10 (.mv (.t 47)), S 11 (.mv (.t 48))]
@[simp] noncomputable def r6 (_ : Unit) : List Stp := [SP 50 (.call (.c (.func (.func fn_law01_sample) [] [])) [(.c (.bool false))]), SP 51 (.call (.c (.func (.func fn_leak_Fewest) [] [])) [(.t 50)]), S 49 (.mv (.t 51)), S 52 (.ext (.t 49) 0), S 53 (.ext (.t 49) 1), S 54 (.ext (.t 49) 2), S 12 (.mv (.t 52)), S 13 (.mv (.t 53)), S 14 (.mv (.t 54))]
@[simp] noncomputable def r7 (_ : Unit) : List Stp := [SP 56 (.call (.c (.func (.func fn_law01_sample) [] [])) [(.c (.bool false))]), SP 57 (.call (.c (.func (.func fn_leak_Flow) [] [])) [(.t 56), (.c (.int .i64 4)), (.c (.int .i64 1))]), S 55 (.mv (.t 57)), S 58 (.ext (.t 55) 0), S 59 (.ext (.t 55) 1), S 15 (.alloc [(.int .i64 0), (.int .i64 0)]), SN (.store 2 (.t 15) (.t 58)), S 16 (.mv (.t 59))]
@[simp] noncomputable def r8 (_ : Unit) : List Stp := [SP 61 (.call (.c (.func (.func fn_law01_sample) [] [])) [(.c (.bool false))]), SP 62 (.call (.c (.func (.func fn_leak_Next) [] [])) [(.t 61)]), S 60 (.mv (.t 62)), S 63 (.ext (.t 60) 0), S 64 (.ext (.t 60) 1), S 65 (.ext (.t 60) 2), S 66 (.ext (.t 60) 3), S 17 (.mv (.t 63)), S 18 (.mv (.t 64)), S 19 (.mv (.t 65)), S 20 (.mv (.t 66))]
@[simp] noncomputable def r9 (_ : Unit) : List Stp := [SP 68 (.call (.c (.func (.func fn_law01_sample) [] [])) [(.c (.bool true))]), SP 69 (.call (.c (.func (.func fn_leak_Clash) [] [])) [(.t 68)]), S 67 (.mv (.t 69)), S 70 (.ext (.t 67) 0), S 71 (.ext (.t 67) 1), S 21 (.mv (.t 70)), S 22 (.mv (.t 71))]
@[simp] noncomputable def r10 (_ : Unit) : List Stp := [S 72 (.mv (.t 1)), S 73 (.bin .eql (.t 72) (.c (.int .i64 5))), S 74 (.mv (.t 73)), SG 75 74 true (.mv (.t 2)), SG 76 74 true (.bin .eql (.t 75) (.c (.int .i64 0))), S 77 (.pick (.t 74) (.t 76) (.c (.bool false))), S 78 (.mv (.t 77)), SGP 80 78 true (.call (.c (.func (.func fn_law01_span) [] [])) [(.c (.int .i64 0)), (.c (.int .i64 3))]), SG 79 78 true (.load true 2 (.t 3)), SG 81 78 true (.eqA false [.i, .i] (.t 79) (.t 80)), S 82 (.pick (.t 78) (.t 81) (.c (.bool false))), S 83 (.mv (.t 82)), SG 84 83 true (.mv (.t 4)), SG 85 83 true (.bin .eql (.t 84) (.c (.int .i64 0))), S 86 (.pick (.t 83) (.t 85) (.c (.bool false))), S 87 (.mv (.t 86)), SGP 89 87 true (.call (.c (.func (.func fn_law01_span) [] [])) [(.c (.int .i64 2)), (.c (.int .i64 3))]), SG 88 87 true (.load true 2 (.t 5)), SG 90 87 true (.eqA false [.i, .i] (.t 88) (.t 89)), S 91 (.pick (.t 87) (.t 90) (.c (.bool false))), S 92 (.mv (.t 91)), SG 93 92 true (.mv (.t 6)), SG 94 92 true (.bin .eql (.t 93) (.c (.int .i64 0))), S 95 (.pick (.t 92) (.t 94) (.c (.bool false))), S 96 (.mv (.t 95)), SG 97 96 true (.mv (.t 7)), SG 98 96 true (.bin .eql (.t 97) (.c (.int .i64 7))), S 99 (.pick (.t 96) (.t 98) (.c (.bool false))), S 100 (.mv (.t 99)), SG 101 100 true (.mv (.t 8)), SG 102 100 true (.bin .eql (.t 101) (.c (.int .i64 1))), S 103 (.pick (.t 100) (.t 102) (.c (.bool false))), S 104 (.mv (.t 103)), SG 105 104 true (.mv (.t 9)), SG 106 104 true (.bin .eql (.t 105) (.c (.int .i64 0))), S 107 (.pick (.t 104) (.t 106) (.c (.bool false))), S 108 (.mv (.t 107)), SG 109 108 true (.mv (.t 10)), SG 110 108 true (.bsl 3 [(.int .i64 0), (.int .i64 0), (.int .i64 0)] [(0, 1, (.c (.int .i64 3))), (1, 1, (.c (.int .i64 5))), (2, 1, (.c (.int .i64 7)))]), SG 111 108 true (.call (.c (.func (.func fn_ref01_Ints) [] [])) [(.t 109), (.t 110)]), S 112 (.pick (.t 108) (.t 111) (.c (.bool false))), S 113 (.mv (.t 112)), SG 114 113 true (.mv (.t 11)), SG 115 113 true (.bin .eql (.t 114) (.c (.int .i64 0))), S 116 (.pick (.t 113) (.t 115) (.c (.bool false))), S 117 (.mv (.t 116)), SG 118 117 true (.mv (.t 12)), SG 119 117 true (.bin .eql (.t 118) (.c (.int .i64 2))), S 120 (.pick (.t 117) (.t 119) (.c (.bool false))), S 121 (.mv (.t 120)), SG 122 121 true (.mv (.t 13)), SG 123 121 true (.bin .eql (.t 122) (.c (.int .i64 3))), S 124 (.pick (.t 121) (.t 123) (.c (.bool false))), S 125 (.mv (.t 124)), SG 126 125 true (.mv (.t 14)), SG 127 125 true (.bin .eql (.t 126) (.c (.int .i64 0))), S 128 (.pick (.t 125) (.t 127) (.c (.bool false))), S 129 (.mv (.t 128)), SGP 131 129 true (.call (.c (.func (.func fn_law01_span) [] [])) [(.c (.int .i64 2)), (.c (.int .i64 4))]), SG 130 129 true (.load true 2 (.t 15)), SG 132 129 true (.eqA false [.i, .i] (.t 130) (.t 131)), S 133 (.pick (.t 129) (.t 132) (.c (.bool false))), S 134 (.mv (.t 133)), SG 135 134 true (.mv (.t 16)), SG 136 134 true (.bin .eql (.t 135) (.c (.int .i64 0))), S 137 (.pick (.t 134) (.t 136) (.c (.bool false))), S 138 (.mv (.t 137)), SG 139 138 true (.mv (.t 17)), SG 140 138 true (.bin .eql (.t 139) (.c (.int .i64 2))), S 141 (.pick (.t 138) (.t 140) (.c (.bool false))), S 142 (.mv (.t 141)), SG 143 142 true (.mv (.t 18)), SG 144 142 true (.bin .eql (.t 143) (.c (.int .i64 (-3)))), S 145 (.pick (.t 142) (.t 144) (.c (.bool false))), S 146 (.mv (.t 145)), SG 147 146 true (.mv (.t 19)), SG 148 146 true (.bin .eql (.t 147) (.c (.int .i64 2))), S 149 (.pick (.t 146) (.t 148) (.c (.bool false))), S 150 (.mv (.t 149)), SG 151 150 true (.mv (.t 20)), SG 152 150 true (.bin .eql (.t 151) (.c (.int .i64 0))), S 153 (.pick (.t 150) (.t 152) (.c (.bool false))), S 154 (.mv (.t 153)), SG 155 154 true (.mv (.t 21)), SG 156 154 true (.bin .eql (.t 155) (.c (.int .i64 5))), S 157 (.pick (.t 154) (.t 156) (.c (.bool false))), S 158 (.mv (.t 157)), SG 159 158 true (.mv (.t 22)), SG 160 158 true (.bin .eql (.t 159) (.c (.int .i64 0))), S 161 (.pick (.t 158) (.t 160) (.c (.bool false))), S 0 (.mv (.t 161))]
@[simp] noncomputable def ir : IR := (.seq (.ops r0) (.seq (.ops r1) (.seq (.ops r2) (.seq (.ops r3) (.seq (.ops r4) (.seq (.ops r5) (.seq (.ops r6) (.seq (.ops r7) (.seq (.ops r8) (.seq (.ops r9) (.seq (.ops r10) .ret)))))))))))
@[simp] noncomputable def rs : List RV := [.tmp 0]
theorem comp : compF Pg cfg Try.f13 = some (ir, rs, 162) := by kernel_rfl
theorem enter {args : List AVal} {h : Heap} {K : AEnd → Heap → Prop} (F : Nat) (hl : args.length ≤ 162) (a : AW ⟨Pg, F, 162, false, []⟩ ir (RetK rs K) (initT args) [] h) : ACalls Pg fn_law01_alive args h K :=
  ACalls.of_comp follows Try.func13 comp hl a
theorem pure {args : List AVal} {v : AVal} (hl : args.length ≤ 162) (a : AW ⟨Pg, 0, 162, false, []⟩ ir (RetK rs fun e _ => e = .ret v) (initT args) [] nilH) : APure Pg fn_law01_alive args v :=
  APure.of_nil (enter 0 hl a)
end law01_alive

namespace leak_Clash
noncomputable def cfg : Cfg := { pure := pures, pcs := [], raw := [], cuts := [], draws := [], keep := [2, 3] }
@[simp] noncomputable def r0 (_ : Unit) : List Stp := [S 1 (.box (.t 0)), S 2 (.mv (.c (.int .i64 0))), S 3 (.alloc [(.int .i64 0)])]
@[simp] noncomputable def r1 (_ : Unit) : List Stp := [S 7 (.mkF (.func fn_leak_Clash_1) [] [(.t 3)]), SN (.defer (.t 7) [])]
@[simp] noncomputable def r2 (_ : Unit) : List Stp := [S 8 (.load true 2 (.t 1)), S 9 (.call (.c (.func (.func fn_leak_open) [] [])) [(.t 8), (.c (.bool true))]), S 4 (.mv (.t 9))]
@[simp] noncomputable def r3 (_ : Unit) : List Stp := [S 10 (.mv (.t 4)), S 11 (.mv (.t 4)), S 12 (.call (.c (.func (.func fn_leak_hull_every) [] [])) [(.t 11)]), S 13 (.call (.c (.func (.func fn_leak_hull_can) [] [])) [(.t 10), (.t 12)]), S 14 (.un .not (.t 13)), S 15 (.call (.c (.func (.func fn_leak_want) [] [])) [(.t 14), (.c (.int .i64 4))])]
@[simp] noncomputable def r4 (_ : Unit) : List Stp := [S 16 (.mv (.t 4)), S 17 (.call (.c (.func (.func fn_leak_hull_every) [] [])) [(.t 16)]), S 5 (.mv (.t 17))]
@[simp] noncomputable def r5 (_ : Unit) : List Stp := [S 18 (.mv (.t 4)), S 19 (.call (.c (.func (.func fn_leak_hull_every) [] [])) [(.t 18)]), S 20 (.mv (.c (.int .u64 0)))]
@[simp] noncomputable def r6 (_ : Unit) : List Stp := [S 21 (.bin .lss (.t 20) (.t 19))]
@[simp] noncomputable def r7 (_ : Unit) : List Stp := [S 22 (.mv (.t 20)), S 6 (.mv (.t 22))]
@[simp] noncomputable def r8 (_ : Unit) : List Stp := [S 23 (.mv (.t 6)), SP 24 (.call (.c (.func (.func fn_math_bits_OnesCount) [] [])) [(.t 23)]), S 25 (.mv (.t 5)), SP 26 (.call (.c (.func (.func fn_math_bits_OnesCount) [] [])) [(.t 25)]), S 27 (.bin .lss (.t 24) (.t 26)), S 28 (.mv (.t 27)), SG 29 28 true (.mv (.t 4)), SG 30 28 true (.mv (.t 6)), SG 31 28 true (.call (.c (.func (.func fn_leak_hull_can) [] [])) [(.t 29), (.t 30)]), SG 32 28 true (.un .not (.t 31)), S 33 (.pick (.t 28) (.t 32) (.c (.bool false)))]
@[simp] noncomputable def r9 (_ : Unit) : List Stp := [S 34 (.mv (.t 6)), S 5 (.mv (.t 34))]
@[simp] noncomputable def r10 (_ : Unit) : List Stp := [S 35 (.bin .add (.t 20) (.c (.int .u64 1))), S 20 (.mv (.t 35))]
@[simp] noncomputable def r11 (_ : Unit) : List Stp := [S 36 (.mv (.t 5)), S 37 (.conv .i64 (.t 36)), S 2 (.mv (.t 37)), SN (.store 1 (.t 3) (.c (.int .i64 0)))]
@[simp] noncomputable def ir : IR := (.seq (.ops r0) (.seq (.ops r1) (.seq (.ops r2) (.seq (.ops r3) (.seq (.ops r4) (.seq (.seq (.ops r5) (.block 0 (.loop (.seq (.ops r6) (.seq (.cond (.t 21) .skip (.exit 0)) (.seq (.block 1 (.seq (.ops r7) (.seq (.ops r8) (.cond (.t 33) (.ops r9) .skip)))) (.ops r10))))))) (.seq (.ops r11) .ret)))))))
@[simp] noncomputable def rs : List RV := [.tmp 2, .cell 3 false 1]
theorem comp : compF Pg cfg Try.f14 = some (ir, rs, 38) := by kernel_rfl
theorem enter {args : List AVal} {h : Heap} {K : AEnd → Heap → Prop} (F : Nat) (hl : args.length ≤ 38) (a : AW ⟨Pg, F, 38, false, [2, 3]⟩ ir (RetD Pg rs K) (initT args) [] h) : ACalls Pg fn_leak_Clash args h K :=
  ACalls.of_comp_defer follows Try.func14 comp hl a
theorem pure {args : List AVal} {v : AVal} (hl : args.length ≤ 38) (a : AW ⟨Pg, 0, 38, false, [2, 3]⟩ ir (RetD Pg rs fun e _ => e = .ret v) (initT args) [] nilH) : APure Pg fn_leak_Clash args v :=
  APure.of_nil (enter 0 hl a)
end leak_Clash

namespace ref01_Clash
noncomputable def cfg : Cfg := { pure := pures, pcs := [], raw := [], cuts := [], draws := [], keep := [] }
@[simp] noncomputable def r0 (_ : Unit) : List Stp := [S 1 (.box (.t 0)), S 2 (.mv (.c (.int .i64 0))), S 3 (.mv (.c (.int .i64 0)))]
@[simp] noncomputable def r1 (_ : Unit) : List Stp := [S 6 (.load true 2 (.t 1)), SP 7 (.call (.c (.func (.func fn_ref01_Hull) [] [])) [(.t 6)]), S 8 (.un .not (.t 7))]
@[simp] noncomputable def r2 (_ : Unit) : List Stp := [S 2 (.mv (.c (.int .i64 0))), S 3 (.mv (.c (.int .i64 1)))]
@[simp] noncomputable def r3 (_ : Unit) : List Stp := [S 9 (.load true 2 (.t 1)), SP 10 (.call (.c (.func (.func fn_ref01_every) [] [])) [(.t 9)]), S 4 (.mv (.t 10))]
@[simp] noncomputable def r4 (_ : Unit) : List Stp := [S 11 (.load true 2 (.t 1)), SP 12 (.call (.c (.func (.func fn_ref01_Truths) [] [])) [(.t 11)]), S 13 (.len (.t 12)), S 14 (.bin .gtr (.t 13) (.c (.int .i64 0)))]
@[simp] noncomputable def r5 (_ : Unit) : List Stp := [S 2 (.mv (.c (.int .i64 0))), S 3 (.mv (.c (.int .i64 4)))]
@[simp] noncomputable def r6 (_ : Unit) : List Stp := [S 5 (.mv (.c (.int .i64 0)))]
@[simp] noncomputable def r7 (_ : Unit) : List Stp := [S 15 (.mv (.t 5)), S 16 (.load true 2 (.t 1)), SP 17 (.call (.c (.func (.func fn_ref01_every) [] [])) [(.t 16)]), S 18 (.bin .leq (.t 15) (.t 17))]
@[simp] noncomputable def r9 (_ : Unit) : List Stp := [S 21 (.mv (.t 5)), SP 22 (.call (.c (.func (.func fn_ref01_Size) [] [])) [(.t 21)]), S 23 (.mv (.t 4)), SP 24 (.call (.c (.func (.func fn_ref01_Size) [] [])) [(.t 23)]), S 25 (.bin .lss (.t 22) (.t 24)), S 26 (.mv (.t 25)), SG 27 26 true (.load true 2 (.t 1)), SG 28 26 true (.mv (.t 5)), SG 29 26 true (.call (.c (.func (.func fn_ref01_truths) [] [])) [(.t 27), (.t 28), (.c .nils), (.c .nils)]), SG 30 26 true (.len (.t 29)), SG 31 26 true (.bin .eql (.t 30) (.c (.int .i64 0))), S 32 (.pick (.t 26) (.t 31) (.c (.bool false)))]
@[simp] noncomputable def r10 (_ : Unit) : List Stp := [S 33 (.mv (.t 5)), S 4 (.mv (.t 33))]
@[simp] noncomputable def r8 (_ : Unit) : List Stp := [S 19 (.mv (.t 5)), S 20 (.bin .add (.t 19) (.c (.int .i64 1))), S 5 (.mv (.t 20))]
@[simp] noncomputable def r11 (_ : Unit) : List Stp := [S 34 (.mv (.t 4)), S 2 (.mv (.t 34)), S 3 (.mv (.c (.int .i64 0)))]
@[simp] noncomputable def ir : IR := (.seq (.ops r0) (.seq (.seq (.ops r1) (.cond (.t 8) (.seq (.ops r2) .ret) .skip)) (.seq (.ops r3) (.seq (.seq (.ops r4) (.cond (.t 14) (.seq (.ops r5) .ret) .skip)) (.seq (.seq (.ops r6) (.block 0 (.loop (.seq (.seq (.ops r7) (.cond (.t 18) .skip (.exit 0))) (.seq (.block 1 (.seq (.ops r9) (.cond (.t 32) (.ops r10) .skip))) (.ops r8)))))) (.seq (.ops r11) .ret))))))
@[simp] noncomputable def rs : List RV := [.tmp 2, .tmp 3]
theorem comp : compF Pg cfg Try.f15 = some (ir, rs, 35) := by kernel_rfl
theorem enter {args : List AVal} {h : Heap} {K : AEnd → Heap → Prop} (F : Nat) (hl : args.length ≤ 35) (a : AW ⟨Pg, F, 35, false, []⟩ ir (RetK rs K) (initT args) [] h) : ACalls Pg fn_ref01_Clash args h K :=
  ACalls.of_comp follows Try.func15 comp hl a
theorem pure {args : List AVal} {v : AVal} (hl : args.length ≤ 35) (a : AW ⟨Pg, 0, 35, false, []⟩ ir (RetK rs fun e _ => e = .ret v) (initT args) [] nilH) : APure Pg fn_ref01_Clash args v :=
  APure.of_nil (enter 0 hl a)
end ref01_Clash

namespace leak_Wet
noncomputable def cfg : Cfg := { pure := pures, pcs := [], raw := [], cuts := [], draws := [(3, [⟨0, false, [], []⟩, ⟨1, false, [], []⟩, ⟨2, false, [], []⟩, ⟨3, false, [], []⟩, ⟨4, false, [], []⟩])], keep := [6, 7] }
@[simp] noncomputable def r0 (_ : Unit) : List Stp := [S 3 (.box (.t 0)), S 6 (.mv (.c (.int .i64 0))), S 7 (.alloc [(.int .i64 0)])]
@[simp] noncomputable def r1 (_ : Unit) : List Stp := [S 10 (.mkF (.func fn_leak_Wet_1) [] [(.t 7)]), SN (.defer (.t 10) [])]
@[simp] noncomputable def r2 (_ : Unit) : List Stp := [S 11 (.mv (.t 1)), S 12 (.mv (.t 2)), S 13 (.build [(.int .i64 0), (.int .i64 0)] [(0, 1, (.t 11)), (1, 1, (.t 12))]), S 8 (.alloc [(.int .i64 0), (.int .i64 0)]), SN (.store 2 (.t 8) (.t 13))]
@[simp] noncomputable def r3 (_ : Unit) : List Stp := [S 14 (.load true 2 (.t 3)), S 15 (.load true 2 (.t 8)), SP 16 (.call (.c (.func (.func fn_leak_place_isPlace) [] [])) [(.t 15)]), S 17 (.call (.c (.func (.func fn_leak_open) [] [])) [(.t 14), (.t 16)]), S 9 (.mv (.t 17))]
@[simp] noncomputable def r4 (_ : Unit) : List Stp := [S 18 (.mv (.t 9)), S 19 (.load true 2 (.t 8)), S 20 (.call (.c (.func (.func fn_leak_hull_wet) [] [])) [(.t 18), (.t 19)]), S 21 (.conv .i64 (.t 20)), S 6 (.mv (.t 21)), SN (.store 1 (.t 7) (.c (.int .i64 0)))]
@[simp] noncomputable def ir : IR := (.seq (.ops r0) (.seq (.ops r1) (.seq (.ops r2) (.seq (.ops r3) (.seq (.ops r4) .ret)))))
@[simp] noncomputable def rs : List RV := [.tmp 6, .cell 7 false 1]
theorem comp : compF Pg cfg Try.f16 = some (ir, rs, 22) := by kernel_rfl
theorem enter {args : List AVal} {h : Heap} {K : AEnd → Heap → Prop} (F : Nat) (hl : args.length ≤ 22) (a : AW ⟨Pg, F, 22, false, [6, 7]⟩ ir (RetD Pg rs K) (initT args) [] h) : ACalls Pg fn_leak_Wet args h K :=
  ACalls.of_comp_defer follows Try.func16 comp hl a
theorem pure {args : List AVal} {v : AVal} (hl : args.length ≤ 22) (a : AW ⟨Pg, 0, 22, false, [6, 7]⟩ ir (RetD Pg rs fun e _ => e = .ret v) (initT args) [] nilH) : APure Pg fn_leak_Wet args v :=
  APure.of_nil (enter 0 hl a)
end leak_Wet

namespace law01_sample
noncomputable def cfg : Cfg := { pure := pures, pcs := [], raw := [], cuts := [], draws := [], keep := [] }
@[simp] noncomputable def r0 (_ : Unit) : List Stp := [S 2 (.alloc [.nils, .nils])]
@[simp] noncomputable def r1 (_ : Unit) : List Stp := [S 4 (.build [(.int .i64 0), (.int .i64 0), (.int .i64 0)] [(0, 1, (.c (.int .i64 2))), (1, 1, (.c (.int .i64 0))), (2, 1, (.c (.int .i64 3)))]), S 5 (.build [(.int .i64 0), (.int .i64 0), (.int .i64 0)] [(0, 1, (.c (.int .i64 5))), (1, 1, (.c (.int .i64 (-1)))), (2, 1, (.c (.int .i64 2)))]), S 6 (.build [(.int .i64 0), (.int .i64 0), (.int .i64 0)] [(0, 1, (.c (.int .i64 5))), (1, 1, (.c (.int .i64 1))), (2, 1, (.c (.int .i64 4)))]), S 7 (.bsl 3 [(.int .i64 0), (.int .i64 0), (.int .i64 0), (.int .i64 0), (.int .i64 0), (.int .i64 0), (.int .i64 0), (.int .i64 0), (.int .i64 0)] [(0, 3, (.t 4)), (3, 3, (.t 5)), (6, 3, (.t 6))]), SP 8 (.call (.c (.func (.func fn_law01_span) [] [])) [(.c (.int .i64 1)), (.c (.int .i64 2))]), S 9 (.build [(.int .i64 0), (.int .i64 0), (.int .i64 0), (.int .i64 0)] [(0, 1, (.c (.int .i64 3))), (2, 2, (.t 8))]), SP 10 (.call (.c (.func (.func fn_law01_span) [] [])) [(.c (.int .i64 4)), (.c (.int .i64 4))]), S 11 (.build [(.int .i64 0), (.int .i64 0), (.int .i64 0), (.int .i64 0)] [(0, 1, (.c (.int .i64 6))), (2, 2, (.t 10))]), S 12 (.bsl 2 [(.int .i64 0), (.int .i64 0), (.int .i64 0), (.int .i64 0), (.int .i64 0), (.int .i64 0), (.int .i64 0), (.int .i64 0)] [(0, 4, (.t 9)), (4, 4, (.t 11))]), S 13 (.build [.nils, .nils] [(0, 1, (.t 7)), (1, 1, (.t 12))]), S 3 (.alloc [.nils, .nils]), SN (.store 2 (.t 3) (.t 13))]
@[simp] noncomputable def r2 (_ : Unit) : List Stp := [S 14 (.mv (.t 0))]
@[simp] noncomputable def r3 (_ : Unit) : List Stp := [S 15 (.fAddr 1 (.t 3)), S 16 (.load false 1 (.t 15)), S 17 (.build [(.int .i64 0), (.int .i64 0), (.int .i64 0), (.int .i64 0)] [(0, 1, (.c (.int .i64 4))), (1, 1, (.c (.int .i64 (-1))))]), S 18 (.bsl 1 [(.int .i64 0), (.int .i64 0), (.int .i64 0), (.int .i64 0)] [(0, 4, (.t 17))]), S 19 (.app 4 32 (.t 16) (.t 18)), S 20 (.fAddr 1 (.t 3)), SN (.store 1 (.t 20) (.t 19))]
@[simp] noncomputable def r4 (_ : Unit) : List Stp := [S 21 (.load true 2 (.t 3)), SN (.store 2 (.t 2) (.t 21))]
@[simp] noncomputable def ir : IR := (.seq (.ops r0) (.seq (.ops r1) (.seq (.seq (.ops r2) (.cond (.t 14) (.ops r3) .skip)) (.seq (.ops r4) .ret))))
@[simp] noncomputable def rs : List RV := [.cell 2 true 2]
theorem comp : compF Pg cfg Try.f17 = some (ir, rs, 22) := by kernel_rfl
theorem enter {args : List AVal} {h : Heap} {K : AEnd → Heap → Prop} (F : Nat) (hl : args.length ≤ 22) (a : AW ⟨Pg, F, 22, false, []⟩ ir (RetK rs K) (initT args) [] h) : ACalls Pg fn_law01_sample args h K :=
  ACalls.of_comp follows Try.func17 comp hl a
theorem pure {args : List AVal} {v : AVal} (hl : args.length ≤ 22) (a : AW ⟨Pg, 0, 22, false, []⟩ ir (RetK rs fun e _ => e = .ret v) (initT args) [] nilH) : APure Pg fn_law01_sample args v :=
  APure.of_nil (enter 0 hl a)
end law01_sample

namespace law01_span
noncomputable def cfg : Cfg := { pure := pures, pcs := [], raw := [], cuts := [], draws := [], keep := [] }
@[simp] noncomputable def r0 (_ : Unit) : List Stp := [S 4 (.alloc [(.int .i64 0), (.int .i64 0)])]
@[simp] noncomputable def r1 (_ : Unit) : List Stp := [S 5 (.mv (.t 0)), S 6 (.mv (.t 1)), S 7 (.build [(.int .i64 0), (.int .i64 0)] [(0, 1, (.t 5)), (1, 1, (.t 6))]), SN (.store 2 (.t 4) (.t 7))]
@[simp] noncomputable def ir : IR := (.seq (.ops r0) (.seq (.ops r1) .ret))
@[simp] noncomputable def rs : List RV := [.cell 4 true 2]
theorem comp : compF Pg cfg Try.f18 = some (ir, rs, 8) := by kernel_rfl
theorem enter {args : List AVal} {h : Heap} {K : AEnd → Heap → Prop} (F : Nat) (hl : args.length ≤ 8) (a : AW ⟨Pg, F, 8, false, []⟩ ir (RetK rs K) (initT args) [] h) : ACalls Pg fn_law01_span args h K :=
  ACalls.of_comp follows Try.func18 comp hl a
theorem pure {args : List AVal} {v : AVal} (hl : args.length ≤ 8) (a : AW ⟨Pg, 0, 8, false, []⟩ ir (RetK rs fun e _ => e = .ret v) (initT args) [] nilH) : APure Pg fn_law01_span args v :=
  APure.of_nil (enter 0 hl a)
end law01_span

namespace leak_Rate
noncomputable def cfg : Cfg := { pure := pures, pcs := [], raw := [], cuts := [], draws := [(2, [⟨1, false, [], []⟩, ⟨2, false, [], []⟩, ⟨0, false, [], []⟩, ⟨3, false, [], []⟩, ⟨4, false, [], []⟩, ⟨5, false, [], []⟩, ⟨6, false, [], []⟩, ⟨7, false, [], []⟩, ⟨8, false, [], []⟩])], keep := [4, 5] }
@[simp] noncomputable def r0 (_ : Unit) : List Stp := [S 2 (.box (.t 0)), S 4 (.alloc [(.int .i64 0), (.int .i64 0)]), S 5 (.alloc [(.int .i64 0)])]
@[simp] noncomputable def r1 (_ : Unit) : List Stp := [S 7 (.mkF (.func fn_leak_Rate_1) [] [(.t 5)]), SN (.defer (.t 7) [])]
@[simp] noncomputable def r2 (_ : Unit) : List Stp := [S 9 (.mv (.t 1)), S 10 (.fAddr 0 (.t 2)), S 8 (.load true 2 (.t 2)), S 11 (.load false 1 (.t 10)), S 12 (.len (.t 11)), S 13 (.bin .sub (.t 12) (.c (.int .i64 1))), SP 14 (.call (.c (.func (.func fn_leak_within) [] [])) [(.t 9), (.c (.int .i64 0)), (.t 13)]), S 15 (.call (.c (.func (.func fn_leak_open) [] [])) [(.t 8), (.t 14)]), S 6 (.mv (.t 15))]
@[simp] noncomputable def r3 (_ : Unit) : List Stp := [S 16 (.mv (.t 6)), S 17 (.mv (.t 1)), S 18 (.bin .shl (.c (.int .u64 1)) (.t 17)), S 19 (.call (.c (.func (.func fn_leak_hull_total) [] [])) [(.t 16), (.t 18)]), SN (.store 2 (.t 4) (.t 19)), SN (.store 1 (.t 5) (.c (.int .i64 0)))]
@[simp] noncomputable def ir : IR := (.seq (.ops r0) (.seq (.ops r1) (.seq (.ops r2) (.seq (.ops r3) .ret))))
@[simp] noncomputable def rs : List RV := [.cell 4 true 2, .cell 5 false 1]
theorem comp : compF Pg cfg Try.f19 = some (ir, rs, 20) := by kernel_rfl
theorem enter {args : List AVal} {h : Heap} {K : AEnd → Heap → Prop} (F : Nat) (hl : args.length ≤ 20) (a : AW ⟨Pg, F, 20, false, [4, 5]⟩ ir (RetD Pg rs K) (initT args) [] h) : ACalls Pg fn_leak_Rate args h K :=
  ACalls.of_comp_defer follows Try.func19 comp hl a
theorem pure {args : List AVal} {v : AVal} (hl : args.length ≤ 20) (a : AW ⟨Pg, 0, 20, false, [4, 5]⟩ ir (RetD Pg rs fun e _ => e = .ret v) (initT args) [] nilH) : APure Pg fn_leak_Rate args v :=
  APure.of_nil (enter 0 hl a)
end leak_Rate

namespace leak_Flow
noncomputable def cfg : Cfg := { pure := pures, pcs := [], raw := [], cuts := [], draws := [(3, [⟨0, false, [], []⟩, ⟨1, false, [], []⟩, ⟨2, false, [], []⟩, ⟨3, false, [], []⟩, ⟨4, false, [], []⟩])], keep := [6, 7] }
@[simp] noncomputable def r0 (_ : Unit) : List Stp := [S 3 (.box (.t 0)), S 6 (.alloc [(.int .i64 0), (.int .i64 0)]), S 7 (.alloc [(.int .i64 0)])]
@[simp] noncomputable def r1 (_ : Unit) : List Stp := [S 10 (.mkF (.func fn_leak_Flow_1) [] [(.t 7)]), SN (.defer (.t 10) [])]
@[simp] noncomputable def r2 (_ : Unit) : List Stp := [S 11 (.mv (.t 1)), S 12 (.mv (.t 2)), S 13 (.build [(.int .i64 0), (.int .i64 0)] [(0, 1, (.t 11)), (1, 1, (.t 12))]), S 8 (.alloc [(.int .i64 0), (.int .i64 0)]), SN (.store 2 (.t 8) (.t 13))]
@[simp] noncomputable def r3 (_ : Unit) : List Stp := [S 14 (.load true 2 (.t 3)), S 15 (.load true 2 (.t 8)), SP 16 (.call (.c (.func (.func fn_leak_place_isPlace) [] [])) [(.t 15)]), S 17 (.call (.c (.func (.func fn_leak_open) [] [])) [(.t 14), (.t 16)]), S 9 (.mv (.t 17))]
@[simp] noncomputable def r4 (_ : Unit) : List Stp := [S 18 (.mv (.t 9)), S 19 (.mv (.t 9)), S 20 (.load true 2 (.t 8)), S 21 (.call (.c (.func (.func fn_leak_hull_wet) [] [])) [(.t 19), (.t 20)]), S 22 (.call (.c (.func (.func fn_leak_hull_total) [] [])) [(.t 18), (.t 21)]), SN (.store 2 (.t 6) (.t 22)), SN (.store 1 (.t 7) (.c (.int .i64 0)))]
@[simp] noncomputable def ir : IR := (.seq (.ops r0) (.seq (.ops r1) (.seq (.ops r2) (.seq (.ops r3) (.seq (.ops r4) .ret)))))
@[simp] noncomputable def rs : List RV := [.cell 6 true 2, .cell 7 false 1]
theorem comp : compF Pg cfg Try.f20 = some (ir, rs, 23) := by kernel_rfl
theorem enter {args : List AVal} {h : Heap} {K : AEnd → Heap → Prop} (F : Nat) (hl : args.length ≤ 23) (a : AW ⟨Pg, F, 23, false, [6, 7]⟩ ir (RetD Pg rs K) (initT args) [] h) : ACalls Pg fn_leak_Flow args h K :=
  ACalls.of_comp_defer follows Try.func20 comp hl a
theorem pure {args : List AVal} {v : AVal} (hl : args.length ≤ 23) (a : AW ⟨Pg, 0, 23, false, [6, 7]⟩ ir (RetD Pg rs fun e _ => e = .ret v) (initT args) [] nilH) : APure Pg fn_leak_Flow args v :=
  APure.of_nil (enter 0 hl a)
end leak_Flow

namespace law01_draws
noncomputable def cfg : Cfg := { pure := pures, pcs := [], raw := [], cuts := [], draws := [], keep := [] }
@[simp] noncomputable def r0 (_ : Unit) : List Stp := [S 1 (.box (.t 0)), S 2 (.mv (.c .nilf))]
@[simp] noncomputable def r1 (_ : Unit) : List Stp := [S 3 (.alloc [(.int .i64 0)]), SN (.store 1 (.t 3) (.c (.int .i64 0)))]
@[simp] noncomputable def r2 (_ : Unit) : List Stp := [S 4 (.mkF (.func fn_law01_draws_1) [] [(.t 3), (.t 1)]), S 2 (.mv (.t 4))]
@[simp] noncomputable def ir : IR := (.seq (.ops r0) (.seq (.ops r1) (.seq (.ops r2) .ret)))
@[simp] noncomputable def rs : List RV := [.tmp 2]
theorem comp : compF Pg cfg Try.f21 = some (ir, rs, 5) := by kernel_rfl
theorem enter {args : List AVal} {h : Heap} {K : AEnd → Heap → Prop} (F : Nat) (hl : args.length ≤ 5) (a : AW ⟨Pg, F, 5, false, []⟩ ir (RetK rs K) (initT args) [] h) : ACalls Pg fn_law01_draws args h K :=
  ACalls.of_comp follows Try.func21 comp hl a
theorem pure {args : List AVal} {v : AVal} (hl : args.length ≤ 5) (a : AW ⟨Pg, 0, 5, false, []⟩ ir (RetK rs fun e _ => e = .ret v) (initT args) [] nilH) : APure Pg fn_law01_draws args v :=
  APure.of_nil (enter 0 hl a)
end law01_draws

namespace law01_made
noncomputable def cfg : Cfg := { pure := pures, pcs := [], raw := [], cuts := [], draws := [(13, [⟨0, false, [], []⟩, ⟨2, false, [], []⟩, ⟨3, false, [], []⟩, ⟨4, false, [], []⟩, ⟨5, false, [], []⟩, ⟨9, false, [], []⟩, ⟨10, false, [], []⟩, ⟨1, false, [], []⟩, ⟨6, false, [], [1]⟩, ⟨7, false, [], []⟩, ⟨8, false, [], []⟩, ⟨11, false, [], [1]⟩, ⟨12, false, [], []⟩, ⟨13, false, [], []⟩, ⟨14, false, [], []⟩, ⟨15, false, [], []⟩, ⟨16, true, [], []⟩, ⟨17, false, [], []⟩, ⟨18, false, [], []⟩, ⟨19, false, [], []⟩])], keep := [] }
@[simp] noncomputable def r0 (_ : Unit) : List Stp := [S 2 (.alloc [.nils, .nils]), S 3 (.mv (.c .nils))]
@[simp] noncomputable def r1 (_ : Unit) : List Stp := [S 9 (.mv (.t 0)), S 10 (.call (.t 9) [(.c (.int .i64 6))]), S 11 (.bin .add (.c (.int .i64 1)) (.t 10)), S 12 (.mv (.c (.int .i64 0)))]
@[simp] noncomputable def r2 (_ : Unit) : List Stp := [S 13 (.bin .lss (.t 12) (.t 11))]
@[simp] noncomputable def r3 (_ : Unit) : List Stp := [S 14 (.mv (.t 0)), S 15 (.call (.t 14) [(.c (.int .i64 13))]), S 16 (.mv (.t 0)), S 17 (.call (.t 16) [(.c (.int .i64 3))]), S 18 (.bin .sub (.t 17) (.c (.int .i64 1))), S 19 (.mv (.t 0)), S 20 (.call (.t 19) [(.c (.int .i64 5))]), S 21 (.build [(.int .i64 0), (.int .i64 0), (.int .i64 0)] [(0, 1, (.t 15)), (1, 1, (.t 18)), (2, 1, (.t 20))]), S 4 (.alloc [(.int .i64 0), (.int .i64 0), (.int .i64 0)]), SN (.store 3 (.t 4) (.t 21))]
@[simp] noncomputable def r4 (_ : Unit) : List Stp := [S 5 (.mv (.c (.int .i64 0)))]
@[simp] noncomputable def r5 (_ : Unit) : List Stp := [S 22 (.mv (.t 0)), S 23 (.call (.t 22) [(.c (.int .i64 2))]), S 24 (.bin .eql (.t 23) (.c (.int .i64 0)))]
@[simp] noncomputable def r6 (_ : Unit) : List Stp := [S 25 (.mv (.t 0)), S 26 (.fAddr 2 (.t 4)), S 27 (.load false 1 (.t 26)), S 28 (.bin .add (.t 27) (.c (.int .i64 1))), S 29 (.call (.t 25) [(.t 28)]), S 5 (.mv (.t 29))]
@[simp] noncomputable def r7 (_ : Unit) : List Stp := [S 30 (.fAddr 0 (.t 2)), S 31 (.load false 1 (.t 30)), S 32 (.load true 3 (.t 4)), S 33 (.bsl 1 [(.int .i64 0), (.int .i64 0), (.int .i64 0)] [(0, 3, (.t 32))]), S 34 (.app 3 24 (.t 31) (.t 33)), S 35 (.mv (.t 3)), S 36 (.mv (.t 5)), S 37 (.bsl 1 [(.int .i64 0)] [(0, 1, (.t 36))]), S 38 (.app 1 8 (.t 35) (.t 37)), S 39 (.fAddr 0 (.t 2)), SN (.store 1 (.t 39) (.t 34)), S 3 (.mv (.t 38))]
@[simp] noncomputable def r8 (_ : Unit) : List Stp := [S 40 (.bin .add (.t 12) (.c (.int .i64 1))), S 12 (.mv (.t 40))]
@[simp] noncomputable def r9 (_ : Unit) : List Stp := [S 41 (.mv (.t 0)), S 42 (.call (.t 41) [(.c (.int .i64 9))]), S 43 (.mv (.c (.int .i64 0)))]
@[simp] noncomputable def r10 (_ : Unit) : List Stp := [S 44 (.bin .lss (.t 43) (.t 42))]
@[simp] noncomputable def r11 (_ : Unit) : List Stp := [S 45 (.mv (.t 0)), S 46 (.call (.t 45) [(.c (.int .i64 13))]), S 47 (.mv (.t 0)), S 48 (.call (.t 47) [(.c (.int .i64 7))]), S 49 (.bin .sub (.t 48) (.c (.int .i64 3))), S 6 (.mv (.t 46)), S 7 (.mv (.t 49))]
@[simp] noncomputable def r12 (_ : Unit) : List Stp := [S 50 (.load true 2 (.t 2)), S 51 (.mv (.t 3)), S 52 (.mv (.t 6)), S 53 (.mv (.t 7)), SP 54 (.call (.c (.func (.func fn_law01_flow) [] [])) [(.t 50), (.t 51), (.t 52), (.t 53)]), S 8 (.mv (.t 54))]
@[simp] noncomputable def r13 (_ : Unit) : List Stp := [S 55 (.fAddr 1 (.t 2)), S 57 (.mv (.t 6)), S 58 (.mv (.t 7)), S 59 (.mv (.t 8)), S 60 (.mv (.t 0)), S 64 (.mv (.t 8)), S 65 (.mv (.t 0)), S 56 (.load false 1 (.t 55)), SD (some 61) (.call (.t 60) [(.c (.int .i64 2))]) false [] [I 56 (.load false 1 (.t 55))], S 62 (.bin .sub (.t 59) (.t 61)), S 63 (.mm true [(.c (.int .i64 0)), (.t 62)]), SD (some 66) (.call (.t 65) [(.c (.int .i64 3))]) false [] [I 56 (.load false 1 (.t 55))], S 67 (.bin .add (.t 64) (.t 66)), S 68 (.mm false [(.c (.int .i64 24)), (.t 67)]), SP 69 (.call (.c (.func (.func fn_law01_span) [] [])) [(.t 63), (.t 68)]), S 70 (.build [(.int .i64 0), (.int .i64 0), (.int .i64 0), (.int .i64 0)] [(0, 1, (.t 57)), (1, 1, (.t 58)), (2, 2, (.t 69))]), SD (some 71) (.bsl 1 [(.int .i64 0), (.int .i64 0), (.int .i64 0), (.int .i64 0)] [(0, 4, (.t 70))]) true [] [], S 72 (.app 4 32 (.t 56) (.t 71)), S 73 (.fAddr 1 (.t 2)), SN (.store 1 (.t 73) (.t 72))]
@[simp] noncomputable def r14 (_ : Unit) : List Stp := [S 74 (.bin .add (.t 43) (.c (.int .i64 1))), S 43 (.mv (.t 74))]
@[simp] noncomputable def r15 (_ : Unit) : List Stp := [S 75 (.load true 2 (.t 2)), S 76 (.mv (.t 3)), SN (.store 2 (.t 2) (.t 75)), S 3 (.mv (.t 76))]
@[simp] noncomputable def ir : IR := (.seq (.ops r0) (.seq (.seq (.ops r1) (.block 0 (.loop (.seq (.ops r2) (.seq (.cond (.t 13) .skip (.exit 0)) (.seq (.block 1 (.seq (.ops r3) (.seq (.ops r4) (.seq (.seq (.ops r5) (.cond (.t 24) (.ops r6) .skip)) (.ops r7))))) (.ops r8))))))) (.seq (.seq (.ops r9) (.block 2 (.loop (.seq (.ops r10) (.seq (.cond (.t 44) .skip (.exit 2)) (.seq (.block 3 (.seq (.ops r11) (.seq (.ops r12) (.ops r13)))) (.ops r14))))))) (.seq (.ops r15) .ret))))
@[simp] noncomputable def rs : List RV := [.cell 2 true 2, .tmp 3]
theorem comp : compF Pg cfg Try.f22 = some (ir, rs, 77) := by kernel_rfl
theorem enter {args : List AVal} {h : Heap} {K : AEnd → Heap → Prop} (F : Nat) (hl : args.length ≤ 77) (a : AW ⟨Pg, F, 77, false, []⟩ ir (RetK rs K) (initT args) [] h) : ACalls Pg fn_law01_made args h K :=
  ACalls.of_comp follows Try.func22 comp hl a
theorem pure {args : List AVal} {v : AVal} (hl : args.length ≤ 77) (a : AW ⟨Pg, 0, 77, false, []⟩ ir (RetK rs fun e _ => e = .ret v) (initT args) [] nilH) : APure Pg fn_law01_made args v :=
  APure.of_nil (enter 0 hl a)
end law01_made

namespace leak_Leaks
noncomputable def cfg : Cfg := { pure := pures, pcs := [], raw := [], cuts := [], draws := [], keep := [2, 3, 4] }
@[simp] noncomputable def r0 (_ : Unit) : List Stp := [S 1 (.box (.t 0)), S 2 (.mv (.c (.int .i64 0))), S 3 (.mv (.c (.int .i64 0))), S 4 (.alloc [(.int .i64 0)])]
@[simp] noncomputable def r1 (_ : Unit) : List Stp := [S 10 (.mkF (.func fn_leak_Leaks_1) [] [(.t 4)]), SN (.defer (.t 10) [])]
@[simp] noncomputable def r2 (_ : Unit) : List Stp := [S 5 (.mv (.c (.int .u64 63))), S 6 (.mv (.c (.int .u64 0)))]
@[simp] noncomputable def r3 (_ : Unit) : List Stp := [S 11 (.load true 2 (.t 1)), S 12 (.call (.c (.func (.func fn_leak_open) [] [])) [(.t 11), (.c (.bool true))]), S 13 (.call (.c (.func (.func fn_leak_hull_truths) [] [])) [(.t 12)]), S 14 (.len (.t 13)), S 15 (.mv (.c (.int .i64 0)))]
@[simp] noncomputable def r4 (_ : Unit) : List Stp := [S 16 (.bin .lss (.t 15) (.t 14))]
@[simp] noncomputable def r5 (_ : Unit) : List Stp := [S 17 (.ixS 6 (.t 13) (.t 15)), S 18 (.load true 6 (.t 17)), S 8 (.alloc [(.int .i64 0), (.int .i64 0), (.int .i64 0), (.int .i64 0), (.int .i64 0), (.int .i64 0)]), SN (.store 6 (.t 8) (.t 18))]
@[simp] noncomputable def r6 (_ : Unit) : List Stp := [S 19 (.load true 6 (.t 8)), S 20 (.mkF (.func fn_leak_inflow_leaks) [(.t 19)] []), S 9 (.mv (.t 20))]
@[simp] noncomputable def r7 (_ : Unit) : List Stp := [S 21 (.mv (.t 5)), S 22 (.mv (.t 9)), S 23 (.call (.t 22) []), S 24 (.bin .and (.t 21) (.t 23)), S 25 (.mv (.t 6)), S 26 (.mv (.t 9)), S 27 (.call (.t 26) []), S 28 (.bin .or (.t 25) (.t 27)), S 5 (.mv (.t 24)), S 6 (.mv (.t 28))]
@[simp] noncomputable def r8 (_ : Unit) : List Stp := [S 29 (.bin .add (.t 15) (.c (.int .i64 1))), S 15 (.mv (.t 29))]
@[simp] noncomputable def r9 (_ : Unit) : List Stp := [S 30 (.mv (.t 6)), S 31 (.conv .i64 (.t 30)), S 32 (.mv (.t 5)), S 33 (.conv .i64 (.t 32)), S 2 (.mv (.t 31)), S 3 (.mv (.t 33)), SN (.store 1 (.t 4) (.c (.int .i64 0)))]
@[simp] noncomputable def ir : IR := (.seq (.ops r0) (.seq (.ops r1) (.seq (.ops r2) (.seq (.seq (.ops r3) (.block 0 (.loop (.seq (.ops r4) (.seq (.cond (.t 16) .skip (.exit 0)) (.seq (.block 1 (.seq (.ops r5) (.seq (.ops r6) (.ops r7)))) (.ops r8))))))) (.seq (.ops r9) .ret)))))
@[simp] noncomputable def rs : List RV := [.tmp 2, .tmp 3, .cell 4 false 1]
theorem comp : compF Pg cfg Try.f23 = some (ir, rs, 34) := by kernel_rfl
theorem enter {args : List AVal} {h : Heap} {K : AEnd → Heap → Prop} (F : Nat) (hl : args.length ≤ 34) (a : AW ⟨Pg, F, 34, false, [2, 3, 4]⟩ ir (RetD Pg rs K) (initT args) [] h) : ACalls Pg fn_leak_Leaks args h K :=
  ACalls.of_comp_defer follows Try.func23 comp hl a
theorem pure {args : List AVal} {v : AVal} (hl : args.length ≤ 34) (a : AW ⟨Pg, 0, 34, false, [2, 3, 4]⟩ ir (RetD Pg rs fun e _ => e = .ret v) (initT args) [] nilH) : APure Pg fn_leak_Leaks args v :=
  APure.of_nil (enter 0 hl a)
end leak_Leaks

namespace leak_Fewest
noncomputable def cfg : Cfg := { pure := pures, pcs := [], raw := [], cuts := [], draws := [], keep := [2, 3, 4] }
@[simp] noncomputable def r0 (_ : Unit) : List Stp := [S 1 (.box (.t 0)), S 2 (.mv (.c (.int .i64 0))), S 3 (.mv (.c (.int .i64 0))), S 4 (.alloc [(.int .i64 0)])]
@[simp] noncomputable def r1 (_ : Unit) : List Stp := [S 7 (.mkF (.func fn_leak_Fewest_1) [] [(.t 4)]), SN (.defer (.t 7) [])]
@[simp] noncomputable def r2 (_ : Unit) : List Stp := [S 9 (.load true 2 (.t 1)), S 10 (.call (.c (.func (.func fn_leak_open) [] [])) [(.t 9), (.c (.bool true))]), S 11 (.call (.c (.func (.func fn_leak_hull_sets) [] [])) [(.t 10)]), S 12 (.build [.nilf] [(0, 1, (.c (.func (.func fn_leak_Fewest_2) [] [])))]), S 13 (.call (.c (.func (.func fn_leak_best_int) [] [])) [(.t 11), (.t 12)]), S 8 (.mv (.t 13)), S 14 (.ext (.t 8) 0), S 15 (.ext (.t 8) 1), S 5 (.mv (.t 14)), S 6 (.mv (.t 15))]
@[simp] noncomputable def r3 (_ : Unit) : List Stp := [S 16 (.mv (.t 6)), S 17 (.mv (.t 5)), S 2 (.mv (.t 16)), S 3 (.mv (.t 17)), SN (.store 1 (.t 4) (.c (.int .i64 0)))]
@[simp] noncomputable def ir : IR := (.seq (.ops r0) (.seq (.ops r1) (.seq (.ops r2) (.seq (.ops r3) .ret))))
@[simp] noncomputable def rs : List RV := [.tmp 2, .tmp 3, .cell 4 false 1]
theorem comp : compF Pg cfg Try.f24 = some (ir, rs, 18) := by kernel_rfl
theorem enter {args : List AVal} {h : Heap} {K : AEnd → Heap → Prop} (F : Nat) (hl : args.length ≤ 18) (a : AW ⟨Pg, F, 18, false, [2, 3, 4]⟩ ir (RetD Pg rs K) (initT args) [] h) : ACalls Pg fn_leak_Fewest args h K :=
  ACalls.of_comp_defer follows Try.func24 comp hl a
theorem pure {args : List AVal} {v : AVal} (hl : args.length ≤ 18) (a : AW ⟨Pg, 0, 18, false, [2, 3, 4]⟩ ir (RetD Pg rs fun e _ => e = .ret v) (initT args) [] nilH) : APure Pg fn_leak_Fewest args v :=
  APure.of_nil (enter 0 hl a)
end leak_Fewest

namespace leak_Sets
noncomputable def cfg : Cfg := { pure := pures, pcs := [], raw := [], cuts := [], draws := [], keep := [2, 3] }
@[simp] noncomputable def r0 (_ : Unit) : List Stp := [S 1 (.box (.t 0)), S 2 (.mv (.c .nils)), S 3 (.alloc [(.int .i64 0)])]
@[simp] noncomputable def r1 (_ : Unit) : List Stp := [S 4 (.mkF (.func fn_leak_Sets_1) [] [(.t 3)]), SN (.defer (.t 4) [])]
@[simp] noncomputable def r2 (_ : Unit) : List Stp := [S 5 (.load true 2 (.t 1)), S 6 (.call (.c (.func (.func fn_leak_open) [] [])) [(.t 5), (.c (.bool true))]), S 7 (.call (.c (.func (.func fn_leak_hull_sets) [] [])) [(.t 6)]), S 2 (.mv (.t 7)), SN (.store 1 (.t 3) (.c (.int .i64 0)))]
@[simp] noncomputable def ir : IR := (.seq (.ops r0) (.seq (.ops r1) (.seq (.ops r2) .ret)))
@[simp] noncomputable def rs : List RV := [.tmp 2, .cell 3 false 1]
theorem comp : compF Pg cfg Try.f25 = some (ir, rs, 8) := by kernel_rfl
theorem enter {args : List AVal} {h : Heap} {K : AEnd → Heap → Prop} (F : Nat) (hl : args.length ≤ 8) (a : AW ⟨Pg, F, 8, false, [2, 3]⟩ ir (RetD Pg rs K) (initT args) [] h) : ACalls Pg fn_leak_Sets args h K :=
  ACalls.of_comp_defer follows Try.func25 comp hl a
theorem pure {args : List AVal} {v : AVal} (hl : args.length ≤ 8) (a : AW ⟨Pg, 0, 8, false, [2, 3]⟩ ir (RetD Pg rs fun e _ => e = .ret v) (initT args) [] nilH) : APure Pg fn_leak_Sets args v :=
  APure.of_nil (enter 0 hl a)
end leak_Sets

namespace ref01_Size
noncomputable def cfg : Cfg := { pure := pures, pcs := [], raw := [], cuts := [], draws := [], keep := [] }
@[simp] noncomputable def r0 (_ : Unit) : List Stp := [S 2 (.mv (.c (.int .i64 0)))]
@[simp] noncomputable def r1 (_ : Unit) : List Stp := [S 3 (.mv (.c (.int .i64 0)))]
@[simp] noncomputable def r2 (_ : Unit) : List Stp := [S 4 (.mv (.t 0)), S 5 (.bin .gtr (.t 4) (.c (.int .i64 0)))]
@[simp] noncomputable def r3 (_ : Unit) : List Stp := [S 6 (.mv (.t 3)), S 7 (.mv (.t 0)), S 8 (.bin .rem (.t 7) (.c (.int .i64 2))), S 9 (.bin .add (.t 6) (.t 8)), S 3 (.mv (.t 9))]
@[simp] noncomputable def r4 (_ : Unit) : List Stp := [S 10 (.mv (.t 0)), S 11 (.bin .quo (.t 10) (.c (.int .i64 2))), S 0 (.mv (.t 11))]
@[simp] noncomputable def r5 (_ : Unit) : List Stp := [S 12 (.mv (.t 3)), S 2 (.mv (.t 12))]
@[simp] noncomputable def ir : IR := (.seq (.ops r0) (.seq (.ops r1) (.seq (.block 0 (.loop (.seq (.seq (.ops r2) (.cond (.t 5) .skip (.exit 0))) (.block 1 (.seq (.ops r3) (.ops r4)))))) (.seq (.ops r5) .ret))))
@[simp] noncomputable def rs : List RV := [.tmp 2]
theorem comp : compF Pg cfg Try.f26 = some (ir, rs, 13) := by kernel_rfl
theorem enter {args : List AVal} {h : Heap} {K : AEnd → Heap → Prop} (F : Nat) (hl : args.length ≤ 13) (a : AW ⟨Pg, F, 13, false, []⟩ ir (RetK rs K) (initT args) [] h) : ACalls Pg fn_ref01_Size args h K :=
  ACalls.of_comp follows Try.func26 comp hl a
theorem pure {args : List AVal} {v : AVal} (hl : args.length ≤ 13) (a : AW ⟨Pg, 0, 13, false, []⟩ ir (RetK rs fun e _ => e = .ret v) (initT args) [] nilH) : APure Pg fn_ref01_Size args v :=
  APure.of_nil (enter 0 hl a)
end ref01_Size

namespace ref01_LeaksOf
noncomputable def cfg : Cfg := { pure := pures, pcs := [], raw := [], cuts := [], draws := [], keep := [] }
@[simp] noncomputable def r0 (_ : Unit) : List Stp := [S 2 (.mv (.c (.int .i64 0)))]
@[simp] noncomputable def r1 (_ : Unit) : List Stp := [S 3 (.mv (.c (.int .i64 0)))]
@[simp] noncomputable def r2 (_ : Unit) : List Stp := [S 4 (.mv (.c (.int .i64 0)))]
@[simp] noncomputable def r3 (_ : Unit) : List Stp := [S 5 (.mv (.t 4)), S 6 (.mv (.t 0)), S 7 (.len (.t 6)), S 8 (.bin .lss (.t 5) (.t 7))]
@[simp] noncomputable def r5 (_ : Unit) : List Stp := [S 11 (.mv (.t 0)), S 12 (.mv (.t 4)), S 13 (.ixS 1 (.t 11) (.t 12)), S 14 (.load false 1 (.t 13)), S 15 (.bin .gtr (.t 14) (.c (.int .i64 0)))]
@[simp] noncomputable def r6 (_ : Unit) : List Stp := [S 16 (.mv (.t 3)), S 17 (.mv (.t 4)), SP 18 (.call (.c (.func (.func fn_ref01_power) [] [])) [(.t 17)]), S 19 (.bin .add (.t 16) (.t 18)), S 3 (.mv (.t 19))]
@[simp] noncomputable def r4 (_ : Unit) : List Stp := [S 9 (.mv (.t 4)), S 10 (.bin .add (.t 9) (.c (.int .i64 1))), S 4 (.mv (.t 10))]
@[simp] noncomputable def r7 (_ : Unit) : List Stp := [S 20 (.mv (.t 3)), S 2 (.mv (.t 20))]
@[simp] noncomputable def ir : IR := (.seq (.ops r0) (.seq (.ops r1) (.seq (.seq (.ops r2) (.block 0 (.loop (.seq (.seq (.ops r3) (.cond (.t 8) .skip (.exit 0))) (.seq (.block 1 (.seq (.ops r5) (.cond (.t 15) (.ops r6) .skip))) (.ops r4)))))) (.seq (.ops r7) .ret))))
@[simp] noncomputable def rs : List RV := [.tmp 2]
theorem comp : compF Pg cfg Try.f27 = some (ir, rs, 21) := by kernel_rfl
theorem enter {args : List AVal} {h : Heap} {K : AEnd → Heap → Prop} (F : Nat) (hl : args.length ≤ 21) (a : AW ⟨Pg, F, 21, false, []⟩ ir (RetK rs K) (initT args) [] h) : ACalls Pg fn_ref01_LeaksOf args h K :=
  ACalls.of_comp follows Try.func27 comp hl a
theorem pure {args : List AVal} {v : AVal} (hl : args.length ≤ 21) (a : AW ⟨Pg, 0, 21, false, []⟩ ir (RetK rs fun e _ => e = .ret v) (initT args) [] nilH) : APure Pg fn_ref01_LeaksOf args v :=
  APure.of_nil (enter 0 hl a)
end ref01_LeaksOf

namespace law01_inside
noncomputable def cfg : Cfg := { pure := pures, pcs := [], raw := [], cuts := [], draws := [], keep := [] }
@[simp] noncomputable def r0 (_ : Unit) : List Stp := [S 3 (.box (.t 1)), S 4 (.mv (.c (.bool false)))]
@[simp] noncomputable def r1 (_ : Unit) : List Stp := [S 5 (.fAddr 0 (.t 3)), S 6 (.load false 1 (.t 5)), S 7 (.mv (.t 0)), S 8 (.bin .leq (.t 6) (.t 7)), S 9 (.mv (.t 8)), SG 10 9 true (.mv (.t 0)), SG 11 9 true (.fAddr 1 (.t 3)), SG 12 9 true (.load false 1 (.t 11)), SG 13 9 true (.bin .leq (.t 10) (.t 12)), S 14 (.pick (.t 9) (.t 13) (.c (.bool false))), S 4 (.mv (.t 14))]
@[simp] noncomputable def ir : IR := (.seq (.ops r0) (.seq (.ops r1) .ret))
@[simp] noncomputable def rs : List RV := [.tmp 4]
theorem comp : compF Pg cfg Try.f28 = some (ir, rs, 15) := by kernel_rfl
theorem enter {args : List AVal} {h : Heap} {K : AEnd → Heap → Prop} (F : Nat) (hl : args.length ≤ 15) (a : AW ⟨Pg, F, 15, false, []⟩ ir (RetK rs K) (initT args) [] h) : ACalls Pg fn_law01_inside args h K :=
  ACalls.of_comp follows Try.func28 comp hl a
theorem pure {args : List AVal} {v : AVal} (hl : args.length ≤ 15) (a : AW ⟨Pg, 0, 15, false, []⟩ ir (RetK rs fun e _ => e = .ret v) (initT args) [] nilH) : APure Pg fn_law01_inside args v :=
  APure.of_nil (enter 0 hl a)
end law01_inside

namespace leak_Total
noncomputable def cfg : Cfg := { pure := pures, pcs := [], raw := [], cuts := [], draws := [(2, [⟨2, false, [], []⟩, ⟨0, false, [], []⟩, ⟨1, false, [], []⟩, ⟨3, false, [], []⟩, ⟨4, false, [], []⟩, ⟨5, false, [], []⟩])], keep := [4, 5] }
@[simp] noncomputable def r0 (_ : Unit) : List Stp := [S 2 (.box (.t 0)), S 4 (.alloc [(.int .i64 0), (.int .i64 0)]), S 5 (.alloc [(.int .i64 0)])]
@[simp] noncomputable def r1 (_ : Unit) : List Stp := [S 7 (.mkF (.func fn_leak_Total_1) [] [(.t 5)]), SN (.defer (.t 7) [])]
@[simp] noncomputable def r2 (_ : Unit) : List Stp := [S 10 (.mv (.t 1)), S 8 (.load true 2 (.t 2)), S 9 (.load true 2 (.t 2)), SP 11 (.call (.c (.func (.func fn_leak_isSet) [] [])) [(.t 9), (.t 10)]), S 12 (.call (.c (.func (.func fn_leak_open) [] [])) [(.t 8), (.t 11)]), S 6 (.mv (.t 12))]
@[simp] noncomputable def r3 (_ : Unit) : List Stp := [S 13 (.mv (.t 6)), S 14 (.mv (.t 1)), S 15 (.conv .u64 (.t 14)), S 16 (.call (.c (.func (.func fn_leak_hull_total) [] [])) [(.t 13), (.t 15)]), SN (.store 2 (.t 4) (.t 16)), SN (.store 1 (.t 5) (.c (.int .i64 0)))]
@[simp] noncomputable def ir : IR := (.seq (.ops r0) (.seq (.ops r1) (.seq (.ops r2) (.seq (.ops r3) .ret))))
@[simp] noncomputable def rs : List RV := [.cell 4 true 2, .cell 5 false 1]
theorem comp : compF Pg cfg Try.f29 = some (ir, rs, 17) := by kernel_rfl
theorem enter {args : List AVal} {h : Heap} {K : AEnd → Heap → Prop} (F : Nat) (hl : args.length ≤ 17) (a : AW ⟨Pg, F, 17, false, [4, 5]⟩ ir (RetD Pg rs K) (initT args) [] h) : ACalls Pg fn_leak_Total args h K :=
  ACalls.of_comp_defer follows Try.func29 comp hl a
theorem pure {args : List AVal} {v : AVal} (hl : args.length ≤ 17) (a : AW ⟨Pg, 0, 17, false, [4, 5]⟩ ir (RetD Pg rs fun e _ => e = .ret v) (initT args) [] nilH) : APure Pg fn_leak_Total args v :=
  APure.of_nil (enter 0 hl a)
end leak_Total

namespace ref01_Sum
noncomputable def cfg : Cfg := { pure := pures, pcs := [], raw := [], cuts := [], draws := [], keep := [] }
@[simp] noncomputable def r0 (_ : Unit) : List Stp := [S 4 (.mv (.c (.int .i64 0)))]
@[simp] noncomputable def r1 (_ : Unit) : List Stp := [S 5 (.mv (.c (.int .i64 0)))]
@[simp] noncomputable def r2 (_ : Unit) : List Stp := [S 6 (.mv (.c (.int .i64 0)))]
@[simp] noncomputable def r3 (_ : Unit) : List Stp := [S 7 (.mv (.t 6)), S 8 (.mv (.t 0)), S 9 (.len (.t 8)), S 10 (.bin .lss (.t 7) (.t 9))]
@[simp] noncomputable def r5 (_ : Unit) : List Stp := [S 13 (.mv (.t 1)), S 14 (.mv (.t 6)), SP 15 (.call (.c (.func (.func fn_ref01_Has) [] [])) [(.t 13), (.t 14)])]
@[simp] noncomputable def r6 (_ : Unit) : List Stp := [S 16 (.mv (.t 5)), S 17 (.mv (.t 0)), S 18 (.mv (.t 6)), S 19 (.ixS 1 (.t 17) (.t 18)), S 20 (.load false 1 (.t 19)), S 21 (.bin .add (.t 16) (.t 20)), S 5 (.mv (.t 21))]
@[simp] noncomputable def r4 (_ : Unit) : List Stp := [S 11 (.mv (.t 6)), S 12 (.bin .add (.t 11) (.c (.int .i64 1))), S 6 (.mv (.t 12))]
@[simp] noncomputable def r7 (_ : Unit) : List Stp := [S 22 (.mv (.t 5)), S 4 (.mv (.t 22))]
@[simp] noncomputable def ir : IR := (.seq (.ops r0) (.seq (.ops r1) (.seq (.seq (.ops r2) (.block 0 (.loop (.seq (.seq (.ops r3) (.cond (.t 10) .skip (.exit 0))) (.seq (.block 1 (.seq (.ops r5) (.cond (.t 15) (.ops r6) .skip))) (.ops r4)))))) (.seq (.ops r7) .ret))))
@[simp] noncomputable def rs : List RV := [.tmp 4]
theorem comp : compF Pg cfg Try.f30 = some (ir, rs, 23) := by kernel_rfl
theorem enter {args : List AVal} {h : Heap} {K : AEnd → Heap → Prop} (F : Nat) (hl : args.length ≤ 23) (a : AW ⟨Pg, F, 23, false, []⟩ ir (RetK rs K) (initT args) [] h) : ACalls Pg fn_ref01_Sum args h K :=
  ACalls.of_comp follows Try.func30 comp hl a
theorem pure {args : List AVal} {v : AVal} (hl : args.length ≤ 23) (a : AW ⟨Pg, 0, 23, false, []⟩ ir (RetK rs fun e _ => e = .ret v) (initT args) [] nilH) : APure Pg fn_ref01_Sum args v :=
  APure.of_nil (enter 0 hl a)
end ref01_Sum

namespace law01_flow
noncomputable def cfg : Cfg := { pure := pures, pcs := [], raw := [], cuts := [], draws := [], keep := [] }
@[simp] noncomputable def r0 (_ : Unit) : List Stp := [S 4 (.box (.t 0)), S 8 (.mv (.c (.int .i64 0)))]
@[simp] noncomputable def r1 (_ : Unit) : List Stp := [S 11 (.fAddr 0 (.t 4)), S 12 (.load false 1 (.t 11)), S 13 (.len (.t 12)), S 14 (.mv (.c (.int .i64 0)))]
@[simp] noncomputable def r2 (_ : Unit) : List Stp := [S 15 (.bin .lss (.t 14) (.t 13))]
@[simp] noncomputable def r3 (_ : Unit) : List Stp := [S 16 (.mv (.t 14)), S 17 (.ixS 3 (.t 12) (.t 14)), S 18 (.load true 3 (.t 17)), S 10 (.alloc [(.int .i64 0), (.int .i64 0), (.int .i64 0)]), S 9 (.mv (.t 16)), SN (.store 3 (.t 10) (.t 18))]
@[simp] noncomputable def r4 (_ : Unit) : List Stp := [S 19 (.load true 3 (.t 10)), S 20 (.mv (.t 2)), S 21 (.mv (.t 3)), SP 22 (.call (.c (.func (.func fn_law01_wet) [] [])) [(.t 19), (.t 20), (.t 21)])]
@[simp] noncomputable def r5 (_ : Unit) : List Stp := [S 23 (.mv (.t 8)), S 24 (.mv (.t 1)), S 25 (.mv (.t 9)), S 26 (.ixS 1 (.t 24) (.t 25)), S 27 (.load false 1 (.t 26)), S 28 (.bin .add (.t 23) (.t 27)), S 8 (.mv (.t 28))]
@[simp] noncomputable def r6 (_ : Unit) : List Stp := [S 29 (.bin .add (.t 14) (.c (.int .i64 1))), S 14 (.mv (.t 29))]
@[simp] noncomputable def r7 (_ : Unit) : List Stp := [S 30 (.mv (.t 8)), S 8 (.mv (.t 30))]
@[simp] noncomputable def ir : IR := (.seq (.ops r0) (.seq (.seq (.ops r1) (.block 0 (.loop (.seq (.ops r2) (.seq (.cond (.t 15) .skip (.exit 0)) (.seq (.block 1 (.seq (.ops r3) (.seq (.ops r4) (.cond (.t 22) (.ops r5) .skip)))) (.ops r6))))))) (.seq (.ops r7) .ret)))
@[simp] noncomputable def rs : List RV := [.tmp 8]
theorem comp : compF Pg cfg Try.f31 = some (ir, rs, 31) := by kernel_rfl
theorem enter {args : List AVal} {h : Heap} {K : AEnd → Heap → Prop} (F : Nat) (hl : args.length ≤ 31) (a : AW ⟨Pg, F, 31, false, []⟩ ir (RetK rs K) (initT args) [] h) : ACalls Pg fn_law01_flow args h K :=
  ACalls.of_comp follows Try.func31 comp hl a
theorem pure {args : List AVal} {v : AVal} (hl : args.length ≤ 31) (a : AW ⟨Pg, 0, 31, false, []⟩ ir (RetK rs fun e _ => e = .ret v) (initT args) [] nilH) : APure Pg fn_law01_flow args v :=
  APure.of_nil (enter 0 hl a)
end law01_flow

namespace law01_long
noncomputable def cfg : Cfg := { pure := pures, pcs := [], raw := [], cuts := [], draws := [], keep := [] }
@[simp] noncomputable def r0 (_ : Unit) : List Stp := [S 1 (.box (.t 0)), S 2 (.mv (.c (.bool false)))]
@[simp] noncomputable def r1 (_ : Unit) : List Stp := [S 3 (.fAddr 0 (.t 1)), S 4 (.load false 1 (.t 3)), S 5 (.len (.t 4)), S 6 (.fAddr 1 (.t 1)), S 7 (.load false 1 (.t 6)), S 8 (.len (.t 7)), S 9 (.mm true [(.t 5), (.t 8)]), S 10 (.bin .gtr (.t 9) (.c (.int .i64 40))), S 2 (.mv (.t 10))]
@[simp] noncomputable def ir : IR := (.seq (.ops r0) (.seq (.ops r1) .ret))
@[simp] noncomputable def rs : List RV := [.tmp 2]
theorem comp : compF Pg cfg Try.f32 = some (ir, rs, 11) := by kernel_rfl
theorem enter {args : List AVal} {h : Heap} {K : AEnd → Heap → Prop} (F : Nat) (hl : args.length ≤ 11) (a : AW ⟨Pg, F, 11, false, []⟩ ir (RetK rs K) (initT args) [] h) : ACalls Pg fn_law01_long args h K :=
  ACalls.of_comp follows Try.func32 comp hl a
theorem pure {args : List AVal} {v : AVal} (hl : args.length ≤ 11) (a : AW ⟨Pg, 0, 11, false, []⟩ ir (RetK rs fun e _ => e = .ret v) (initT args) [] nilH) : APure Pg fn_law01_long args v :=
  APure.of_nil (enter 0 hl a)
end law01_long

namespace ref01_Hull
noncomputable def cfg : Cfg := { pure := pures, pcs := [], raw := [], cuts := [], draws := [], keep := [] }
@[simp] noncomputable def r0 (_ : Unit) : List Stp := [S 1 (.box (.t 0)), S 2 (.mv (.c (.bool false)))]
@[simp] noncomputable def r1 (_ : Unit) : List Stp := [S 7 (.fAddr 0 (.t 1)), S 8 (.load false 1 (.t 7)), S 9 (.len (.t 8)), SP 10 (.call (.c (.func (.func fn_ref01_in) [] [])) [(.t 9), (.c (.int .i64 1)), (.c (.int .i64 6))]), S 11 (.un .not (.t 10)), S 12 (.mv (.t 11)), SG 13 12 false (.fAddr 1 (.t 1)), SG 14 12 false (.load false 1 (.t 13)), SG 15 12 false (.len (.t 14)), SG 16 12 false (.bin .gtr (.t 15) (.c (.int .i64 8))), S 17 (.pick (.t 12) (.c (.bool true)) (.t 16))]
@[simp] noncomputable def r2 (_ : Unit) : List Stp := [S 2 (.mv (.c (.bool false)))]
@[simp] noncomputable def r3 (_ : Unit) : List Stp := [S 3 (.mv (.c (.int .i64 0)))]
@[simp] noncomputable def r4 (_ : Unit) : List Stp := [S 18 (.mv (.t 3)), S 19 (.fAddr 0 (.t 1)), S 20 (.load false 1 (.t 19)), S 21 (.len (.t 20)), S 22 (.bin .lss (.t 18) (.t 21))]
@[simp] noncomputable def r6 (_ : Unit) : List Stp := [S 25 (.fAddr 0 (.t 1)), S 26 (.load false 1 (.t 25)), S 27 (.mv (.t 3)), S 28 (.ixS 3 (.t 26) (.t 27)), S 29 (.load true 3 (.t 28)), S 4 (.alloc [(.int .i64 0), (.int .i64 0), (.int .i64 0)]), SN (.store 3 (.t 4) (.t 29))]
@[simp] noncomputable def r7 (_ : Unit) : List Stp := [S 30 (.fAddr 0 (.t 4)), S 31 (.load false 1 (.t 30)), SP 32 (.call (.c (.func (.func fn_ref01_in) [] [])) [(.t 31), (.c (.int .i64 0)), (.c (.int .i64 12))]), S 33 (.un .not (.t 32)), S 34 (.mv (.t 33)), SG 35 34 false (.fAddr 1 (.t 4)), SG 36 34 false (.load false 1 (.t 35)), SGP 37 34 false (.call (.c (.func (.func fn_ref01_in) [] [])) [(.t 36), (.c (.int .i64 (-1))), (.c (.int .i64 1))]), SG 38 34 false (.un .not (.t 37)), S 39 (.pick (.t 34) (.c (.bool true)) (.t 38)), S 40 (.mv (.t 39)), SG 41 40 false (.fAddr 2 (.t 4)), SG 42 40 false (.load false 1 (.t 41)), SGP 43 40 false (.call (.c (.func (.func fn_ref01_in) [] [])) [(.t 42), (.c (.int .i64 0)), (.c (.int .i64 4))]), SG 44 40 false (.un .not (.t 43)), S 45 (.pick (.t 40) (.c (.bool true)) (.t 44))]
@[simp] noncomputable def r8 (_ : Unit) : List Stp := [S 2 (.mv (.c (.bool false)))]
@[simp] noncomputable def r5 (_ : Unit) : List Stp := [S 23 (.mv (.t 3)), S 24 (.bin .add (.t 23) (.c (.int .i64 1))), S 3 (.mv (.t 24))]
@[simp] noncomputable def r9 (_ : Unit) : List Stp := [S 5 (.mv (.c (.int .i64 0)))]
@[simp] noncomputable def r10 (_ : Unit) : List Stp := [S 46 (.mv (.t 5)), S 47 (.fAddr 1 (.t 1)), S 48 (.load false 1 (.t 47)), S 49 (.len (.t 48)), S 50 (.bin .lss (.t 46) (.t 49))]
@[simp] noncomputable def r12 (_ : Unit) : List Stp := [S 53 (.fAddr 1 (.t 1)), S 54 (.load false 1 (.t 53)), S 55 (.mv (.t 5)), S 56 (.ixS 4 (.t 54) (.t 55)), S 57 (.load true 4 (.t 56)), S 6 (.alloc [(.int .i64 0), (.int .i64 0), (.int .i64 0), (.int .i64 0)]), SN (.store 4 (.t 6) (.t 57))]
@[simp] noncomputable def r13 (_ : Unit) : List Stp := [S 58 (.fAddr 0 (.t 6)), S 59 (.load false 1 (.t 58)), S 60 (.fAddr 1 (.t 6)), S 61 (.load false 1 (.t 60)), SP 62 (.call (.c (.func (.func fn_ref01_At) [] [])) [(.t 59), (.t 61)]), S 63 (.un .not (.t 62)), S 64 (.mv (.t 63)), SG 65 64 false (.fAddr 2 (.t 6)), SG 66 64 false (.fAddr 0 (.t 65)), SG 67 64 false (.load false 1 (.t 66)), SG 68 64 false (.bin .lss (.t 67) (.c (.int .i64 0))), S 69 (.pick (.t 64) (.c (.bool true)) (.t 68)), S 70 (.mv (.t 69)), SG 71 70 false (.fAddr 2 (.t 6)), SG 72 70 false (.fAddr 0 (.t 71)), SG 73 70 false (.load false 1 (.t 72)), SG 74 70 false (.fAddr 2 (.t 6)), SG 75 70 false (.fAddr 1 (.t 74)), SG 76 70 false (.load false 1 (.t 75)), SG 77 70 false (.bin .gtr (.t 73) (.t 76)), S 78 (.pick (.t 70) (.c (.bool true)) (.t 77)), S 79 (.mv (.t 78)), SG 80 79 false (.fAddr 2 (.t 6)), SG 81 79 false (.fAddr 1 (.t 80)), SG 82 79 false (.load false 1 (.t 81)), SG 83 79 false (.bin .gtr (.t 82) (.c (.int .i64 24))), S 84 (.pick (.t 79) (.c (.bool true)) (.t 83))]
@[simp] noncomputable def r14 (_ : Unit) : List Stp := [S 2 (.mv (.c (.bool false)))]
@[simp] noncomputable def r11 (_ : Unit) : List Stp := [S 51 (.mv (.t 5)), S 52 (.bin .add (.t 51) (.c (.int .i64 1))), S 5 (.mv (.t 52))]
@[simp] noncomputable def r15 (_ : Unit) : List Stp := [S 2 (.mv (.c (.bool true)))]
@[simp] noncomputable def ir : IR := (.seq (.ops r0) (.seq (.seq (.ops r1) (.cond (.t 17) (.seq (.ops r2) .ret) .skip)) (.seq (.seq (.ops r3) (.block 0 (.loop (.seq (.seq (.ops r4) (.cond (.t 22) .skip (.exit 0))) (.seq (.block 1 (.seq (.ops r6) (.seq (.ops r7) (.cond (.t 45) (.seq (.ops r8) .ret) .skip)))) (.ops r5)))))) (.seq (.seq (.ops r9) (.block 2 (.loop (.seq (.seq (.ops r10) (.cond (.t 50) .skip (.exit 2))) (.seq (.block 3 (.seq (.ops r12) (.seq (.ops r13) (.cond (.t 84) (.seq (.ops r14) .ret) .skip)))) (.ops r11)))))) (.seq (.ops r15) .ret)))))
@[simp] noncomputable def rs : List RV := [.tmp 2]
theorem comp : compF Pg cfg Try.f33 = some (ir, rs, 85) := by kernel_rfl
theorem enter {args : List AVal} {h : Heap} {K : AEnd → Heap → Prop} (F : Nat) (hl : args.length ≤ 85) (a : AW ⟨Pg, F, 85, false, []⟩ ir (RetK rs K) (initT args) [] h) : ACalls Pg fn_ref01_Hull args h K :=
  ACalls.of_comp follows Try.func33 comp hl a
theorem pure {args : List AVal} {v : AVal} (hl : args.length ≤ 85) (a : AW ⟨Pg, 0, 85, false, []⟩ ir (RetK rs fun e _ => e = .ret v) (initT args) [] nilH) : APure Pg fn_ref01_Hull args v :=
  APure.of_nil (enter 0 hl a)
end ref01_Hull

namespace law01_wet
noncomputable def cfg : Cfg := { pure := pures, pcs := [], raw := [], cuts := [], draws := [], keep := [] }
@[simp] noncomputable def r0 (_ : Unit) : List Stp := [S 3 (.box (.t 0)), S 6 (.mv (.c (.bool false)))]
@[simp] noncomputable def r1 (_ : Unit) : List Stp := [S 7 (.fAddr 0 (.t 3)), S 8 (.load false 1 (.t 7)), S 9 (.mv (.t 1)), S 10 (.fAddr 1 (.t 3)), S 11 (.load false 1 (.t 10)), S 12 (.mv (.t 2)), S 13 (.bin .mul (.t 11) (.t 12)), S 14 (.bin .add (.t 9) (.t 13)), S 15 (.bin .leq (.t 8) (.t 14)), S 6 (.mv (.t 15))]
@[simp] noncomputable def ir : IR := (.seq (.ops r0) (.seq (.ops r1) .ret))
@[simp] noncomputable def rs : List RV := [.tmp 6]
theorem comp : compF Pg cfg Try.f34 = some (ir, rs, 16) := by kernel_rfl
theorem enter {args : List AVal} {h : Heap} {K : AEnd → Heap → Prop} (F : Nat) (hl : args.length ≤ 16) (a : AW ⟨Pg, F, 16, false, []⟩ ir (RetK rs K) (initT args) [] h) : ACalls Pg fn_law01_wet args h K :=
  ACalls.of_comp follows Try.func34 comp hl a
theorem pure {args : List AVal} {v : AVal} (hl : args.length ≤ 16) (a : AW ⟨Pg, 0, 16, false, []⟩ ir (RetK rs fun e _ => e = .ret v) (initT args) [] nilH) : APure Pg fn_law01_wet args v :=
  APure.of_nil (enter 0 hl a)
end law01_wet

namespace law01_with
noncomputable def cfg : Cfg := { pure := pures, pcs := [], raw := [], cuts := [], draws := [(1, [⟨1, false, [], []⟩, ⟨2, false, [], []⟩, ⟨4, false, [], []⟩, ⟨0, true, [], []⟩, ⟨5, true, [], []⟩, ⟨3, false, [], [4]⟩, ⟨6, false, [], []⟩, ⟨7, false, [], []⟩, ⟨8, false, [], []⟩])], keep := [] }
@[simp] noncomputable def r0 (_ : Unit) : List Stp := [S 2 (.box (.t 0)), S 3 (.box (.t 1)), S 4 (.alloc [.nils, .nils])]
@[simp] noncomputable def r1 (_ : Unit) : List Stp := [S 6 (.fAddr 1 (.t 2)), S 7 (.load false 1 (.t 6)), S 9 (.load true 4 (.t 3)), SD (some 5) (.bsl 0 [] []) true [] [], SD (some 10) (.bsl 1 [(.int .i64 0), (.int .i64 0), (.int .i64 0), (.int .i64 0)] [(0, 4, (.t 9))]) true [] [], SD (some 8) (.app 4 32 (.t 5) (.t 7)) false [] [I 9 (.load true 4 (.t 3))], S 11 (.app 4 32 (.t 8) (.t 10)), S 12 (.fAddr 1 (.t 2)), SN (.store 1 (.t 12) (.t 11))]
@[simp] noncomputable def r2 (_ : Unit) : List Stp := [S 13 (.load true 2 (.t 2)), SN (.store 2 (.t 4) (.t 13))]
@[simp] noncomputable def ir : IR := (.seq (.ops r0) (.seq (.ops r1) (.seq (.ops r2) .ret)))
@[simp] noncomputable def rs : List RV := [.cell 4 true 2]
theorem comp : compF Pg cfg Try.f35 = some (ir, rs, 14) := by kernel_rfl
theorem enter {args : List AVal} {h : Heap} {K : AEnd → Heap → Prop} (F : Nat) (hl : args.length ≤ 14) (a : AW ⟨Pg, F, 14, false, []⟩ ir (RetK rs K) (initT args) [] h) : ACalls Pg fn_law01_with args h K :=
  ACalls.of_comp follows Try.func35 comp hl a
theorem pure {args : List AVal} {v : AVal} (hl : args.length ≤ 14) (a : AW ⟨Pg, 0, 14, false, []⟩ ir (RetK rs fun e _ => e = .ret v) (initT args) [] nilH) : APure Pg fn_law01_with args v :=
  APure.of_nil (enter 0 hl a)
end law01_with

namespace leak_Next
noncomputable def cfg : Cfg := { pure := pures, pcs := [], raw := [], cuts := [], draws := [(15, [⟨0, false, [], []⟩, ⟨2, false, [], []⟩, ⟨4, false, [], []⟩, ⟨1, false, [], []⟩, ⟨5, false, [], []⟩, ⟨3, false, [], []⟩, ⟨6, false, [], []⟩, ⟨7, false, [], []⟩, ⟨8, false, [], []⟩])], keep := [2, 3, 4, 5] }
@[simp] noncomputable def r0 (_ : Unit) : List Stp := [S 1 (.box (.t 0)), S 2 (.mv (.c (.int .i64 0))), S 3 (.mv (.c (.int .i64 0))), S 4 (.mv (.c (.int .i64 0))), S 5 (.alloc [(.int .i64 0)])]
@[simp] noncomputable def r1 (_ : Unit) : List Stp := [S 14 (.mkF (.func fn_leak_Next_1) [] [(.t 5)]), SN (.defer (.t 14) [])]
@[simp] noncomputable def r2 (_ : Unit) : List Stp := [S 15 (.load true 2 (.t 1)), S 16 (.call (.c (.func (.func fn_leak_open) [] [])) [(.t 15), (.c (.bool true))]), S 6 (.alloc [.nilp]), SN (.store 1 (.t 6) (.t 16))]
@[simp] noncomputable def r3 (_ : Unit) : List Stp := [S 17 (.load false 1 (.t 6)), S 18 (.call (.c (.func (.func fn_leak_hull_truths) [] [])) [(.t 17)]), S 7 (.alloc [.nils]), SN (.store 1 (.t 7) (.t 18))]
@[simp] noncomputable def r4 (_ : Unit) : List Stp := [S 8 (.mv (.c .nils))]
@[simp] noncomputable def r5 (_ : Unit) : List Stp := [S 19 (.mv (.c (.int .i64 0)))]
@[simp] noncomputable def r6 (_ : Unit) : List Stp := [S 20 (.bin .lss (.t 19) (.c (.int .i64 13)))]
@[simp] noncomputable def r7 (_ : Unit) : List Stp := [S 21 (.mv (.t 19)), S 9 (.mv (.t 21))]
@[simp] noncomputable def r8 (_ : Unit) : List Stp := [S 10 (.mv (.c (.int .i64 (-3))))]
@[simp] noncomputable def r9 (_ : Unit) : List Stp := [S 22 (.mv (.t 10)), S 23 (.bin .leq (.t 22) (.c (.int .i64 3)))]
@[simp] noncomputable def r11 (_ : Unit) : List Stp := [S 26 (.mv (.t 8)), S 27 (.mv (.t 9)), S 28 (.mv (.t 10)), S 29 (.build [(.int .i64 0), (.int .i64 0)] [(0, 1, (.t 27)), (1, 1, (.t 28))]), S 30 (.bsl 1 [(.int .i64 0), (.int .i64 0)] [(0, 2, (.t 29))]), S 31 (.app 2 16 (.t 26) (.t 30)), S 8 (.mv (.t 31))]
@[simp] noncomputable def r10 (_ : Unit) : List Stp := [S 24 (.mv (.t 10)), S 25 (.bin .add (.t 24) (.c (.int .i64 1))), S 10 (.mv (.t 25))]
@[simp] noncomputable def r12 (_ : Unit) : List Stp := [S 32 (.bin .add (.t 19) (.c (.int .i64 1))), S 19 (.mv (.t 32))]
@[simp] noncomputable def r13 (_ : Unit) : List Stp := [S 33 (.mkmap), S 11 (.alloc [.nilm]), SN (.store 1 (.t 11) (.t 33))]
@[simp] noncomputable def r14 (_ : Unit) : List Stp := [S 35 (.mv (.t 8)), S 36 (.mkF (.func fn_leak_Next_2) [] [(.t 6), (.t 11), (.t 7)]), S 37 (.build [.nilf] [(0, 1, (.t 36))]), S 38 (.call (.c (.func (.func fn_leak_best_leak_place) [] [])) [(.t 35), (.t 37)]), S 34 (.mv (.t 38)), S 39 (.ext (.t 34) 0), S 40 (.ext (.t 34) 1), S 12 (.alloc [(.int .i64 0), (.int .i64 0)]), SN (.store 2 (.t 12) (.t 39)), S 13 (.mv (.t 40))]
@[simp] noncomputable def r15 (_ : Unit) : List Stp := [S 41 (.fAddr 0 (.t 12)), S 43 (.fAddr 1 (.t 12)), S 45 (.mv (.t 13)), S 42 (.load false 1 (.t 41)), S 2 (.mv (.t 42)), S 44 (.load false 1 (.t 43)), S 3 (.mv (.t 44)), S 4 (.mv (.t 45)), SN (.store 1 (.t 5) (.c (.int .i64 0)))]
@[simp] noncomputable def ir : IR := (.seq (.ops r0) (.seq (.ops r1) (.seq (.ops r2) (.seq (.ops r3) (.seq (.ops r4) (.seq (.seq (.ops r5) (.block 0 (.loop (.seq (.ops r6) (.seq (.cond (.t 20) .skip (.exit 0)) (.seq (.block 1 (.seq (.ops r7) (.seq (.ops r8) (.block 2 (.loop (.seq (.seq (.ops r9) (.cond (.t 23) .skip (.exit 2))) (.seq (.block 3 (.ops r11)) (.ops r10)))))))) (.ops r12))))))) (.seq (.ops r13) (.seq (.ops r14) (.seq (.nk (.ops r15)) .ret)))))))))
@[simp] noncomputable def rs : List RV := [.tmp 2, .tmp 3, .tmp 4, .cell 5 false 1]
theorem comp : compF Pg cfg Try.f36 = some (ir, rs, 46) := by kernel_rfl
theorem enter {args : List AVal} {h : Heap} {K : AEnd → Heap → Prop} (F : Nat) (hl : args.length ≤ 46) (a : AW ⟨Pg, F, 46, false, [2, 3, 4, 5]⟩ ir (RetD Pg rs K) (initT args) [] h) : ACalls Pg fn_leak_Next args h K :=
  ACalls.of_comp_defer follows Try.func36 comp hl a
theorem pure {args : List AVal} {v : AVal} (hl : args.length ≤ 46) (a : AW ⟨Pg, 0, 46, false, [2, 3, 4, 5]⟩ ir (RetD Pg rs fun e _ => e = .ret v) (initT args) [] nilH) : APure Pg fn_leak_Next args v :=
  APure.of_nil (enter 0 hl a)
end leak_Next


namespace ref01_Truths
noncomputable def cfg : Cfg := { pure := pures, pcs := [], raw := [], cuts := [], draws := [(1, [⟨0, false, [], []⟩, ⟨1, false, [], []⟩, ⟨2, false, [], []⟩, ⟨3, false, [], []⟩, ⟨4, false, [], []⟩])], keep := [] }
@[simp] noncomputable def r0 (_ : Unit) : List Stp := [S 1 (.box (.t 0)), S 2 (.mv (.c .nils))]
@[simp] noncomputable def r1 (_ : Unit) : List Stp := [S 3 (.load true 2 (.t 1)), S 4 (.load true 2 (.t 1)), SP 5 (.call (.c (.func (.func fn_ref01_every) [] [])) [(.t 4)]), S 6 (.call (.c (.func (.func fn_ref01_truths) [] [])) [(.t 3), (.t 5), (.c .nils), (.c .nils)]), S 2 (.mv (.t 6))]
@[simp] noncomputable def ir : IR := (.seq (.ops r0) (.seq (.ops r1) .ret))
@[simp] noncomputable def rs : List RV := [.tmp 2]
theorem comp : compF Pg cfg Try.f38 = some (ir, rs, 7) := by kernel_rfl
theorem enter {args : List AVal} {h : Heap} {K : AEnd → Heap → Prop} (F : Nat) (hl : args.length ≤ 7) (a : AW ⟨Pg, F, 7, false, []⟩ ir (RetK rs K) (initT args) [] h) : ACalls Pg fn_ref01_Truths args h K :=
  ACalls.of_comp follows Try.func38 comp hl a
theorem pure {args : List AVal} {v : AVal} (hl : args.length ≤ 7) (a : AW ⟨Pg, 0, 7, false, []⟩ ir (RetK rs fun e _ => e = .ret v) (initT args) [] nilH) : APure Pg fn_ref01_Truths args v :=
  APure.of_nil (enter 0 hl a)
end ref01_Truths



namespace law01_LeakTurned_1
noncomputable def cfg : Cfg := { pure := pures, pcs := [], raw := [], cuts := [], draws := [(4, [⟨0, false, [], []⟩, ⟨1, false, [], []⟩, ⟨2, false, [], []⟩, ⟨3, false, [], []⟩, ⟨4, false, [], []⟩, ⟨7, false, [], []⟩, ⟨5, false, [], []⟩, ⟨6, false, [], []⟩, ⟨8, false, [], []⟩, ⟨9, false, [], []⟩, ⟨10, false, [], []⟩, ⟨11, false, [], []⟩])], keep := [] }
@[simp] noncomputable def r0 (_ : Unit) : List Stp := [S 3 (.mv (.c (.int .i64 0)))]
@[simp] noncomputable def r1 (_ : Unit) : List Stp := [S 5 (.load false 1 (.t 1)), S 6 (.mv (.c (.int .i64 0)))]
@[simp] noncomputable def r2 (_ : Unit) : List Stp := [S 7 (.bin .lss (.t 6) (.t 5))]
@[simp] noncomputable def r3 (_ : Unit) : List Stp := [S 8 (.mv (.t 6)), S 4 (.mv (.t 8))]
@[simp] noncomputable def r4 (_ : Unit) : List Stp := [S 9 (.mv (.t 3)), S 10 (.mv (.t 0)), S 11 (.mv (.t 4)), S 12 (.bin .shr (.t 10) (.t 11)), S 13 (.bin .and (.t 12) (.c (.int .i64 1))), S 16 (.mv (.t 4)), S 14 (.load false 1 (.t 1)), S 15 (.bin .sub (.t 14) (.c (.int .i64 1))), S 17 (.bin .sub (.t 15) (.t 16)), S 18 (.bin .shl (.t 13) (.t 17)), S 19 (.bin .or (.t 9) (.t 18)), S 3 (.mv (.t 19))]
@[simp] noncomputable def r5 (_ : Unit) : List Stp := [S 20 (.bin .add (.t 6) (.c (.int .i64 1))), S 6 (.mv (.t 20))]
@[simp] noncomputable def r6 (_ : Unit) : List Stp := [S 21 (.mv (.t 3)), S 3 (.mv (.t 21))]
@[simp] noncomputable def ir : IR := (.seq (.ops r0) (.seq (.seq (.ops r1) (.block 0 (.loop (.seq (.ops r2) (.seq (.cond (.t 7) .skip (.exit 0)) (.seq (.block 1 (.seq (.ops r3) (.ops r4))) (.ops r5))))))) (.seq (.ops r6) .ret)))
@[simp] noncomputable def rs : List RV := [.tmp 3]
theorem comp : compF Pg cfg Try.f41 = some (ir, rs, 22) := by kernel_rfl
theorem enter {args : List AVal} {h : Heap} {K : AEnd → Heap → Prop} (F : Nat) (hl : args.length ≤ 22) (a : AW ⟨Pg, F, 22, false, []⟩ ir (RetK rs K) (initT args) [] h) : ACalls Pg fn_law01_LeakTurned_1 args h K :=
  ACalls.of_comp follows Try.func41 comp hl a
theorem pure {args : List AVal} {v : AVal} (hl : args.length ≤ 22) (a : AW ⟨Pg, 0, 22, false, []⟩ ir (RetK rs fun e _ => e = .ret v) (initT args) [] nilH) : APure Pg fn_law01_LeakTurned_1 args v :=
  APure.of_nil (enter 0 hl a)
end law01_LeakTurned_1

namespace ref01_Ints
noncomputable def cfg : Cfg := { pure := pures, pcs := [], raw := [], cuts := [], draws := [(6, [⟨0, false, [], []⟩, ⟨1, false, [], []⟩, ⟨2, false, [], []⟩, ⟨4, false, [], []⟩, ⟨5, false, [], []⟩, ⟨6, false, [], []⟩, ⟨3, false, [], []⟩, ⟨7, false, [], []⟩, ⟨8, false, [], []⟩])], keep := [] }
@[simp] noncomputable def r0 (_ : Unit) : List Stp := [S 4 (.mv (.c (.bool false)))]
@[simp] noncomputable def r1 (_ : Unit) : List Stp := [S 6 (.mv (.t 0)), S 7 (.len (.t 6)), S 8 (.mv (.t 1)), S 9 (.len (.t 8)), S 10 (.bin .neq (.t 7) (.t 9))]
@[simp] noncomputable def r2 (_ : Unit) : List Stp := [S 4 (.mv (.c (.bool false)))]
@[simp] noncomputable def r3 (_ : Unit) : List Stp := [S 5 (.mv (.c (.int .i64 0)))]
@[simp] noncomputable def r4 (_ : Unit) : List Stp := [S 11 (.mv (.t 5)), S 12 (.mv (.t 0)), S 13 (.len (.t 12)), S 14 (.bin .lss (.t 11) (.t 13))]
@[simp] noncomputable def r6 (_ : Unit) : List Stp := [S 17 (.mv (.t 0)), S 18 (.mv (.t 5)), S 19 (.ixS 1 (.t 17) (.t 18)), S 21 (.mv (.t 1)), S 22 (.mv (.t 5)), S 23 (.ixS 1 (.t 21) (.t 22)), S 20 (.load false 1 (.t 19)), S 24 (.load false 1 (.t 23)), S 25 (.bin .neq (.t 20) (.t 24))]
@[simp] noncomputable def r7 (_ : Unit) : List Stp := [S 4 (.mv (.c (.bool false)))]
@[simp] noncomputable def r5 (_ : Unit) : List Stp := [S 15 (.mv (.t 5)), S 16 (.bin .add (.t 15) (.c (.int .i64 1))), S 5 (.mv (.t 16))]
@[simp] noncomputable def r8 (_ : Unit) : List Stp := [S 4 (.mv (.c (.bool true)))]
@[simp] noncomputable def ir : IR := (.seq (.ops r0) (.seq (.seq (.ops r1) (.cond (.t 10) (.seq (.ops r2) .ret) .skip)) (.seq (.seq (.ops r3) (.block 0 (.loop (.seq (.seq (.ops r4) (.cond (.t 14) .skip (.exit 0))) (.seq (.block 1 (.seq (.ops r6) (.cond (.t 25) (.seq (.ops r7) .ret) .skip))) (.ops r5)))))) (.seq (.ops r8) .ret))))
@[simp] noncomputable def rs : List RV := [.tmp 4]
theorem comp : compF Pg cfg Try.f42 = some (ir, rs, 26) := by kernel_rfl
theorem enter {args : List AVal} {h : Heap} {K : AEnd → Heap → Prop} (F : Nat) (hl : args.length ≤ 26) (a : AW ⟨Pg, F, 26, false, []⟩ ir (RetK rs K) (initT args) [] h) : ACalls Pg fn_ref01_Ints args h K :=
  ACalls.of_comp follows Try.func42 comp hl a
theorem pure {args : List AVal} {v : AVal} (hl : args.length ≤ 26) (a : AW ⟨Pg, 0, 26, false, []⟩ ir (RetK rs fun e _ => e = .ret v) (initT args) [] nilH) : APure Pg fn_ref01_Ints args v :=
  APure.of_nil (enter 0 hl a)
end ref01_Ints

namespace leak_Clash_1
noncomputable def cfg : Cfg := { pure := pures, pcs := [], raw := [], cuts := [], draws := [], keep := [] }
@[simp] noncomputable def r0 (_ : Unit) : List Stp := [S 1 (.recov), S 2 (.call (.c (.func (.func fn_leak_said) [] [])) [(.t 1), (.t 0)])]
@[simp] noncomputable def ir : IR := (.ops r0)
@[simp] noncomputable def rs : List RV := []
theorem comp : compF Pg cfg Try.f43 = some (ir, rs, 3) := by kernel_rfl
theorem enter {args : List AVal} {h : Heap} {K : AEnd → Heap → Prop} (F : Nat) (hl : args.length ≤ 3) (a : AW ⟨Pg, F, 3, false, []⟩ ir (RetK rs K) (initT args) [] h) : ACalls Pg fn_leak_Clash_1 args h K :=
  ACalls.of_comp follows Try.func43 comp hl a
theorem pure {args : List AVal} {v : AVal} (hl : args.length ≤ 3) (a : AW ⟨Pg, 0, 3, false, []⟩ ir (RetK rs fun e _ => e = .ret v) (initT args) [] nilH) : APure Pg fn_leak_Clash_1 args v :=
  APure.of_nil (enter 0 hl a)
theorem recClo : RecClo Pg fn_leak_Clash_1 fn_leak_said := ⟨_, Try.func43, by kernel_rfl⟩
end leak_Clash_1

namespace leak_said
noncomputable def cfg : Cfg := { pure := pures, pcs := [], raw := [], cuts := [], draws := [], keep := [] }
@[simp] noncomputable def r0 (_ : Unit) : List Stp := [S 6 (.mv (.t 0)), S 7 (.eqN .i false (.t 6))]
@[simp] noncomputable def r1 (_ : Unit) : List Stp := [S 9 (.mv (.t 0)), S 10 (.tyAs 118 true (.agg [(.int .i64 0)]) (.t 9)), S 8 (.mv (.t 10)), S 11 (.ext (.t 8) 0), S 12 (.ext (.t 8) 1), S 4 (.alloc [(.int .i64 0)]), SN (.store 1 (.t 4) (.t 11)), S 5 (.mv (.t 12))]
@[simp] noncomputable def r2 (_ : Unit) : List Stp := [S 13 (.mv (.t 5)), S 14 (.un .not (.t 13))]
@[simp] noncomputable def r3 (_ : Unit) : List Stp := [S 15 (.mv (.t 0)), SN (.panic (.t 15))]
@[simp] noncomputable def r4 (_ : Unit) : List Stp := [S 16 (.mv (.t 1)), S 17 (.fAddr 0 (.t 4)), S 18 (.load false 1 (.t 17)), S 19 (.nilck Pg (.t 16)), SN (.store 1 (.t 19) (.t 18))]
@[simp] noncomputable def ir : IR := (.seq (.seq (.ops r0) (.cond (.t 7) .ret .skip)) (.seq (.ops r1) (.seq (.seq (.ops r2) (.cond (.t 14) (.ops r3) .skip)) (.ops r4))))
@[simp] noncomputable def rs : List RV := []
theorem comp : compF Pg cfg Try.f44 = some (ir, rs, 20) := by kernel_rfl
theorem enter {args : List AVal} {h : Heap} {K : AEnd → Heap → Prop} (F : Nat) (hl : args.length ≤ 20) (a : AW ⟨Pg, F, 20, false, []⟩ ir (RetK rs K) (initT args) [] h) : ACalls Pg fn_leak_said args h K :=
  ACalls.of_comp follows Try.func44 comp hl a
theorem pure {args : List AVal} {v : AVal} (hl : args.length ≤ 20) (a : AW ⟨Pg, 0, 20, false, []⟩ ir (RetK rs fun e _ => e = .ret v) (initT args) [] nilH) : APure Pg fn_leak_said args v :=
  APure.of_nil (enter 0 hl a)
end leak_said

namespace leak_open
noncomputable def cfg : Cfg := { pure := pures, pcs := [], raw := [], cuts := [], draws := [(7, [⟨0, false, [], []⟩, ⟨1, false, [], []⟩, ⟨2, false, [], []⟩, ⟨3, false, [], []⟩, ⟨5, false, [], []⟩, ⟨4, false, [], []⟩, ⟨6, false, [], []⟩, ⟨7, true, [], []⟩, ⟨8, false, [], []⟩, ⟨9, false, [], []⟩, ⟨10, false, [], []⟩, ⟨11, false, [], []⟩])], keep := [] }
@[simp] noncomputable def r0 (_ : Unit) : List Stp := [S 2 (.box (.t 0)), S 4 (.mv (.c .nilp))]
@[simp] noncomputable def r1 (_ : Unit) : List Stp := [S 10 (.fAddr 0 (.t 2)), S 11 (.load false 1 (.t 10)), S 12 (.len (.t 11)), SP 13 (.call (.c (.func (.func fn_leak_within) [] [])) [(.t 12), (.c (.int .i64 1)), (.c (.int .i64 6))]), S 14 (.mv (.t 13)), SG 15 14 true (.fAddr 1 (.t 2)), SG 16 14 true (.load false 1 (.t 15)), SG 17 14 true (.len (.t 16)), SG 18 14 true (.bin .leq (.t 17) (.c (.int .i64 8))), S 19 (.pick (.t 14) (.t 18) (.c (.bool false))), S 20 (.call (.c (.func (.func fn_leak_want) [] [])) [(.t 19), (.c (.int .i64 1))])]
@[simp] noncomputable def r2 (_ : Unit) : List Stp := [S 21 (.load true 2 (.t 2)), S 22 (.mkmap), S 23 (.build [.nils, .nils, .nils, .nilm] [(0, 2, (.t 21)), (3, 1, (.t 22))]), S 24 (.box (.t 23)), S 5 (.mv (.t 24))]
@[simp] noncomputable def r3 (_ : Unit) : List Stp := [S 25 (.fAddr 0 (.t 2)), S 26 (.load false 1 (.t 25)), S 27 (.len (.t 26)), S 28 (.mv (.c (.int .i64 0)))]
@[simp] noncomputable def r4 (_ : Unit) : List Stp := [S 29 (.bin .lss (.t 28) (.t 27))]
@[simp] noncomputable def r5 (_ : Unit) : List Stp := [S 30 (.ixS 3 (.t 26) (.t 28)), S 31 (.load true 3 (.t 30)), S 7 (.alloc [(.int .i64 0), (.int .i64 0), (.int .i64 0)]), SN (.store 3 (.t 7) (.t 31))]
@[simp] noncomputable def r6 (_ : Unit) : List Stp := [S 32 (.fAddr 0 (.t 7)), S 33 (.load false 1 (.t 32)), SP 34 (.call (.c (.func (.func fn_leak_within) [] [])) [(.t 33), (.c (.int .i64 0)), (.c (.int .i64 12))]), S 35 (.mv (.t 34)), SG 36 35 true (.fAddr 1 (.t 7)), SG 37 35 true (.load false 1 (.t 36)), SGP 38 35 true (.call (.c (.func (.func fn_leak_within) [] [])) [(.t 37), (.c (.int .i64 (-1))), (.c (.int .i64 1))]), S 39 (.pick (.t 35) (.t 38) (.c (.bool false))), S 40 (.mv (.t 39)), SG 41 40 true (.fAddr 2 (.t 7)), SG 42 40 true (.load false 1 (.t 41)), SGP 43 40 true (.call (.c (.func (.func fn_leak_within) [] [])) [(.t 42), (.c (.int .i64 0)), (.c (.int .i64 4))]), S 44 (.pick (.t 40) (.t 43) (.c (.bool false))), S 45 (.call (.c (.func (.func fn_leak_want) [] [])) [(.t 44), (.c (.int .i64 1))])]
@[simp] noncomputable def r7 (_ : Unit) : List Stp := [S 46 (.mv (.t 5)), S 47 (.mv (.t 5)), S 48 (.nilck Pg (.t 47)), S 49 (.fAddr 2 (.t 48)), S 51 (.fAddr 2 (.t 7)), S 50 (.load false 1 (.t 49)), S 52 (.load false 1 (.t 51)), SD (some 53) (.bsl 1 [(.int .i64 0)] [(0, 1, (.t 52))]) true [] [], S 54 (.app 1 8 (.t 50) (.t 53)), S 55 (.nilck Pg (.t 46)), S 56 (.fAddr 2 (.t 55)), SN (.store 1 (.t 56) (.t 54))]
@[simp] noncomputable def r8 (_ : Unit) : List Stp := [S 57 (.bin .add (.t 28) (.c (.int .i64 1))), S 28 (.mv (.t 57))]
@[simp] noncomputable def r9 (_ : Unit) : List Stp := [S 58 (.fAddr 1 (.t 2)), S 59 (.load false 1 (.t 58)), S 60 (.len (.t 59)), S 61 (.mv (.c (.int .i64 0)))]
@[simp] noncomputable def r10 (_ : Unit) : List Stp := [S 62 (.bin .lss (.t 61) (.t 60))]
@[simp] noncomputable def r11 (_ : Unit) : List Stp := [S 63 (.ixS 4 (.t 59) (.t 61)), S 64 (.load true 4 (.t 63)), S 9 (.alloc [(.int .i64 0), (.int .i64 0), (.int .i64 0), (.int .i64 0)]), SN (.store 4 (.t 9) (.t 64))]
@[simp] noncomputable def r12 (_ : Unit) : List Stp := [S 65 (.fAddr 0 (.t 9)), S 66 (.load false 1 (.t 65)), S 67 (.fAddr 1 (.t 9)), S 68 (.load false 1 (.t 67)), S 69 (.build [(.int .i64 0), (.int .i64 0)] [(0, 1, (.t 66)), (1, 1, (.t 68))]), SP 70 (.call (.c (.func (.func fn_leak_place_isPlace) [] [])) [(.t 69)]), S 71 (.mv (.t 70)), SG 72 71 true (.fAddr 2 (.t 9)), SG 73 71 true (.fAddr 0 (.t 72)), SG 74 71 true (.load false 1 (.t 73)), SG 75 71 true (.fAddr 2 (.t 9)), SG 76 71 true (.fAddr 1 (.t 75)), SG 77 71 true (.load false 1 (.t 76)), SGP 78 71 true (.call (.c (.func (.func fn_leak_within) [] [])) [(.t 74), (.c (.int .i64 0)), (.t 77)]), S 79 (.pick (.t 71) (.t 78) (.c (.bool false))), S 80 (.mv (.t 79)), SG 81 80 true (.fAddr 2 (.t 9)), SG 82 80 true (.fAddr 1 (.t 81)), SG 83 80 true (.load false 1 (.t 82)), SG 84 80 true (.bin .leq (.t 83) (.c (.int .i64 24))), S 85 (.pick (.t 80) (.t 84) (.c (.bool false))), S 86 (.call (.c (.func (.func fn_leak_want) [] [])) [(.t 85), (.c (.int .i64 1))])]
@[simp] noncomputable def r13 (_ : Unit) : List Stp := [S 87 (.bin .add (.t 61) (.c (.int .i64 1))), S 61 (.mv (.t 87))]
@[simp] noncomputable def r14 (_ : Unit) : List Stp := [S 88 (.mv (.t 1)), S 89 (.call (.c (.func (.func fn_leak_want) [] [])) [(.t 88), (.c (.int .i64 2))])]
@[simp] noncomputable def r15 (_ : Unit) : List Stp := [S 90 (.mv (.t 5)), S 4 (.mv (.t 90))]
@[simp] noncomputable def ir : IR := (.seq (.ops r0) (.seq (.ops r1) (.seq (.ops r2) (.seq (.seq (.ops r3) (.block 0 (.loop (.seq (.ops r4) (.seq (.cond (.t 29) .skip (.exit 0)) (.seq (.block 1 (.seq (.ops r5) (.seq (.ops r6) (.ops r7)))) (.ops r8))))))) (.seq (.seq (.ops r9) (.block 2 (.loop (.seq (.ops r10) (.seq (.cond (.t 62) .skip (.exit 2)) (.seq (.block 3 (.seq (.ops r11) (.ops r12))) (.ops r13))))))) (.seq (.ops r14) (.seq (.ops r15) .ret)))))))
@[simp] noncomputable def rs : List RV := [.tmp 4]
theorem comp : compF Pg cfg Try.f45 = some (ir, rs, 91) := by kernel_rfl
theorem enter {args : List AVal} {h : Heap} {K : AEnd → Heap → Prop} (F : Nat) (hl : args.length ≤ 91) (a : AW ⟨Pg, F, 91, false, []⟩ ir (RetK rs K) (initT args) [] h) : ACalls Pg fn_leak_open args h K :=
  ACalls.of_comp follows Try.func45 comp hl a
theorem pure {args : List AVal} {v : AVal} (hl : args.length ≤ 91) (a : AW ⟨Pg, 0, 91, false, []⟩ ir (RetK rs fun e _ => e = .ret v) (initT args) [] nilH) : APure Pg fn_leak_open args v :=
  APure.of_nil (enter 0 hl a)
end leak_open

end Go.Cw
end
