/-
  The program's functions in the small form.
-/
import Derived.Test.YtmfpfgdjnhcllaaGreatAd
import Derived.Test.YtmfpfgdjnhcllaaGreatProg
import Derived.Test.YtmfpfgdjnhcllaaGreatAf
set_option linter.unusedVariables false
set_option linter.unusedSimpArgs false
set_option linter.unusedSectionVars false

/- The functions' numbers. Printed by a program of this seat's proofs. -/
section
namespace Go.Cw
open Go Go.Proofs

@[reducible] noncomputable def Pg : Program := Tryz.prog
theorem follows : Pg.follows .mixedOrders = true := by kernel_rfl
def fn_main_main : FuncId := 0
def fn_gosem_cut : FuncId := 1
def fn_gosem_cut_init : FuncId := 2
def fn_law01_LeakTells : FuncId := 3
def fn_law01_heavy : FuncId := 4
def fn_law01_alive : FuncId := 5
def fn_leak_Wet : FuncId := 6
def fn_ref01_Wet : FuncId := 7
def fn_leak_Rate : FuncId := 8
def fn_ref01_Rate : FuncId := 9
def fn_leak_Total : FuncId := 10
def fn_ref01_Total : FuncId := 11
def fn_leak_Leaks : FuncId := 12
def fn_ref01_Leaks : FuncId := 13
def fn_leak_Sets : FuncId := 14
def fn_ref01_Sets : FuncId := 15
def fn_ref01_Ints : FuncId := 16
def fn_leak_Fewest : FuncId := 17
def fn_ref01_Fewest : FuncId := 18
def fn_leak_Flow : FuncId := 19
def fn_ref01_Flow : FuncId := 20
def fn_leak_Next : FuncId := 21
def fn_ref01_Next : FuncId := 22
def fn_law01_long : FuncId := 23
def fn_ref01_Hull : FuncId := 24
def fn_law01_sample : FuncId := 25
def fn_leak_Clash : FuncId := 26
def fn_law01_span : FuncId := 27
def fn_leak_Wet_1 : FuncId := 28
def fn_leak_said : FuncId := 29
def fn_leak_open : FuncId := 30
def fn_leak_place_isPlace : FuncId := 31
def fn_leak_hull_wet : FuncId := 32
def fn_ref01_At : FuncId := 33
def fn_ref01_wet : FuncId := 34
def fn_leak_Rate_1 : FuncId := 35
def fn_leak_within : FuncId := 36
def fn_leak_hull_total : FuncId := 37
def fn_ref01_told : FuncId := 38
def fn_ref01_Seam : FuncId := 39
def fn_ref01_sums : FuncId := 40
def fn_ref01_power : FuncId := 41
def fn_leak_Total_1 : FuncId := 42
def fn_leak_isSet : FuncId := 43
def fn_ref01_Set : FuncId := 44
def fn_leak_Leaks_1 : FuncId := 45
def fn_leak_hull_truths : FuncId := 46
def fn_leak_inflow_leaks : FuncId := 47
def fn_leak_Sets_1 : FuncId := 48
def fn_leak_hull_sets : FuncId := 49
def fn_ref01_LeaksOf : FuncId := 50
def fn_leak_Fewest_1 : FuncId := 51
def fn_leak_best_int : FuncId := 52
def fn_leak_Fewest_2 : FuncId := 53
def fn_math_bits_OnesCount : FuncId := 54
def fn_ref01_Size : FuncId := 55
def fn_leak_Flow_1 : FuncId := 56
def fn_leak_Next_1 : FuncId := 57
def fn_leak_best_leak_place : FuncId := 58
def fn_leak_Next_2 : FuncId := 59
def fn_leak_inflow_sum : FuncId := 60
def fn_ref01_left : FuncId := 61
def fn_ref01_in : FuncId := 62
def fn_leak_Clash_1 : FuncId := 63
def fn_leak_want : FuncId := 64
def fn_leak_hull_can : FuncId := 65
def fn_leak_hull_every : FuncId := 66
def fn_leak_sums : FuncId := 67
def fn_leak_hull_total_1 : FuncId := 68
def fn_ref01_Truths : FuncId := 69
def fn_ref01_Sum : FuncId := 70
def fn_slices_Collect_leak_inflow : FuncId := 71
def fn_leak_hull_inflows : FuncId := 72
def fn_slices_Sort_int_int : FuncId := 73
def fn_math_bits_OnesCount32 : FuncId := 74
def fn_math_bits_OnesCount64 : FuncId := 75
def fn_leak_set_has : FuncId := 76
def fn_leak_flows : FuncId := 77
def fn_ref01_truths : FuncId := 78
def fn_ref01_every : FuncId := 79
def fn_ref01_Has : FuncId := 80
def fn_slices_AppendSeq_leak_inflow_leak_inflow : FuncId := 81
def fn_leak_hull_conditions : FuncId := 82
def fn_leak_hull_inflows_1 : FuncId := 83
def fn_leak_hull_inflows_1_1 : FuncId := 84
def fn_slices_pdqsortOrdered_int : FuncId := 85
def fn_math_bits_Len : FuncId := 86
def fn_ref01_right : FuncId := 87
def fn_slices_insertionSortOrdered_int : FuncId := 88
def fn_slices_heapSortOrdered_int : FuncId := 89
def fn_slices_breakPatternsOrdered_int : FuncId := 90
def fn_slices_choosePivotOrdered_int : FuncId := 91
def fn_slices_reverseRangeOrdered_int : FuncId := 92
def fn_slices_partialInsertionSortOrdered_int : FuncId := 93
def fn_cmp_Less_int : FuncId := 94
def fn_slices_partitionEqualOrdered_int : FuncId := 95
def fn_slices_partitionOrdered_int : FuncId := 96
def fn_math_bits_Len32 : FuncId := 97
def fn_math_bits_Len64 : FuncId := 98
def fn_slices_siftDownOrdered_int : FuncId := 99
def fn_slices_nextPowerOfTwo : FuncId := 100
def fn_slices_xorshift_Next : FuncId := 101
def fn_slices_medianAdjacentOrdered_int : FuncId := 102
def fn_slices_medianOrdered_int : FuncId := 103
def fn_cmp_isNaN_int : FuncId := 104
def fn_slices_order2Ordered_int : FuncId := 105
def fn_runtime_boundsError_Error : FuncId := 106
def fn_runtime_boundsError_RuntimeError : FuncId := 107
def fn_runtime_errorString_Error : FuncId := 108
def fn_runtime_errorString_RuntimeError : FuncId := 109
def fn_runtime_plainError_Error : FuncId := 110
def fn_runtime_plainError_RuntimeError : FuncId := 111
def fn_runtime_errorAddressString_Error : FuncId := 112
def fn_runtime_errorAddressString_RuntimeError : FuncId := 113
def fn_runtime_TypeAssertionError_Error : FuncId := 114
def fn_runtime_TypeAssertionError_RuntimeError : FuncId := 115
def fn_runtime_PanicNilError_Error : FuncId := 116
def fn_runtime_PanicNilError_RuntimeError : FuncId := 117
def fn_abi_Type_Align : FuncId := 118
def fn_runtime_maps_unhashableTypeError_Error : FuncId := 119
def fn_runtime_maps_unhashableTypeError_RuntimeError : FuncId := 120
def fn_leak_none_can : FuncId := 121
def fn_leak_wet_ends : FuncId := 122
def fn_leak_sounding_can : FuncId := 123
def fn_abi_Kind_String : FuncId := 124
def pures : List Nat := [4, 5, 6, 7, 8, 9, 10, 11, 12, 13, 14, 15, 17, 18, 19, 20, 21, 22, 23, 24, 25, 26, 27, 31, 33, 34, 36, 38, 39, 40, 41, 43, 44, 47, 50, 54, 55, 60, 61, 62, 69, 70, 74, 75, 76, 79, 80, 87]

end Go.Cw
end

/- Where the library's sort lies in this program. Printed by a program of this seat's proofs. -/
section
namespace Go.Cw
open Go Go.Proofs

def sortRen : Go.Shelf.Ren where
  f := fun
    | 189 => 73
    | 125 => 86
    | 257 => 85
    | 128 => 97
    | 129 => 98
    | 294 => 88
    | 295 => 89
    | 296 => 90
    | 297 => 91
    | 298 => 92
    | 299 => 93
    | 216 => 94
    | 300 => 95
    | 301 => 96
    | 328 => 99
    | 329 => 100
    | 330 => 101
    | 331 => 102
    | 332 => 103
    | 215 => 104
    | 343 => 105
    | n => n
  t := fun
    | 28 => 37
    | 3 => 3
    | 46 => 57
    | 0 => 0
    | 51 => 117
    | 53 => 119
    | 4 => 4
    | 183 => 142
    | 182 => 141
    | 131 => 86
    | 5 => 5
    | 9 => 9
    | 218 => 147
    | 222 => 151
    | 228 => 153
    | 229 => 77
    | n => n
  g := fun n => n

theorem sortLays : Go.Proofs.Lays.n189 Pg sortRen where
  mixed := by kernel_rfl
  f125 := Eq.trans Tryz.func86 (congrArg some (by kernel_rfl))
  f128 := Eq.trans Tryz.func97 (congrArg some (by kernel_rfl))
  f129 := Eq.trans Tryz.func98 (congrArg some (by kernel_rfl))
  f189 := Eq.trans Tryz.func73 (congrArg some (by kernel_rfl))
  f215 := Eq.trans Tryz.func104 (congrArg some (by kernel_rfl))
  f216 := Eq.trans Tryz.func94 (congrArg some (by kernel_rfl))
  f257 := Eq.trans Tryz.func85 (congrArg some (by kernel_rfl))
  f294 := Eq.trans Tryz.func88 (congrArg some (by kernel_rfl))
  f295 := Eq.trans Tryz.func89 (congrArg some (by kernel_rfl))
  f296 := Eq.trans Tryz.func90 (congrArg some (by kernel_rfl))
  f297 := Eq.trans Tryz.func91 (congrArg some (by kernel_rfl))
  f298 := Eq.trans Tryz.func92 (congrArg some (by kernel_rfl))
  f299 := Eq.trans Tryz.func93 (congrArg some (by kernel_rfl))
  f300 := Eq.trans Tryz.func95 (congrArg some (by kernel_rfl))
  f301 := Eq.trans Tryz.func96 (congrArg some (by kernel_rfl))
  f328 := Eq.trans Tryz.func99 (congrArg some (by kernel_rfl))
  f329 := Eq.trans Tryz.func100 (congrArg some (by kernel_rfl))
  f330 := Eq.trans Tryz.func101 (congrArg some (by kernel_rfl))
  f331 := Eq.trans Tryz.func102 (congrArg some (by kernel_rfl))
  f332 := Eq.trans Tryz.func103 (congrArg some (by kernel_rfl))
  f343 := Eq.trans Tryz.func105 (congrArg some (by kernel_rfl))
  t0 := Tryz.underlying0
  a0 := Tryz.isAgg0
  z0 := Tryz.sizeOf0
  v0 := Tryz.zeroValue0
  t3 := Tryz.underlying3
  a3 := Tryz.isAgg3
  z3 := Tryz.sizeOf3
  v3 := Tryz.zeroValue3
  t4 := Tryz.underlying4
  a4 := Tryz.isAgg4
  z4 := Tryz.sizeOf4
  v4 := Tryz.zeroValue4
  t5 := Tryz.underlying5
  a5 := Tryz.isAgg5
  z5 := Tryz.sizeOf5
  v5 := Tryz.zeroValue5
  t9 := Tryz.underlying9
  a9 := Tryz.isAgg9
  z9 := Tryz.sizeOf9
  v9 := Tryz.zeroValue9
  t28 := Tryz.underlying37
  a28 := Tryz.isAgg37
  z28 := Tryz.sizeOf37
  v28 := Tryz.zeroValue37
  t46 := Tryz.underlying57
  a46 := Tryz.isAgg57
  z46 := Tryz.sizeOf57
  v46 := Tryz.zeroValue57
  t51 := Tryz.underlying117
  a51 := Tryz.isAgg117
  z51 := Tryz.sizeOf117
  v51 := Tryz.zeroValue117
  t53 := Tryz.underlying119
  a53 := Tryz.isAgg119
  z53 := Tryz.sizeOf119
  v53 := Tryz.zeroValue119
  t131 := Tryz.underlying86
  a131 := Tryz.isAgg86
  z131 := Tryz.sizeOf86
  v131 := Tryz.zeroValue86
  t182 := Tryz.underlying141
  a182 := Tryz.isAgg141
  z182 := Tryz.sizeOf141
  v182 := Tryz.zeroValue141
  t183 := Tryz.underlying142
  a183 := Tryz.isAgg142
  z183 := Tryz.sizeOf142
  v183 := Tryz.zeroValue142
  t218 := Tryz.underlying147
  a218 := Tryz.isAgg147
  z218 := Tryz.sizeOf147
  v218 := Tryz.zeroValue147
  t222 := Tryz.underlying151
  a222 := Tryz.isAgg151
  z222 := Tryz.sizeOf151
  v222 := Tryz.zeroValue151
  t228 := Tryz.underlying153
  a228 := Tryz.isAgg153
  z228 := Tryz.sizeOf153
  v228 := Tryz.zeroValue153
  t229 := Tryz.underlying77
  a229 := Tryz.isAgg77
  z229 := Tryz.sizeOf77
  v229 := Tryz.zeroValue77

theorem sortEnters : Enters Pg fn_slices_Sort_int_int := ⟨_, _, Tryz.func73, rfl, rfl⟩

/-- SORT. -/
theorem slices_Sort_int_int.c {r s : Nat} {cap : Cap} {l : List Int} (hl : l.length < 4611686018427387904) {K : AEnd → Heap → Prop} (k : K (.ret (.tup [])) (hpV [(r, .row (ints (sortI l)) s)])) :
    ACalls Pg fn_slices_Sort_int_int [.sl r 0 s l.length cap] (hpV [(r, .row (ints l) s)]) K := ACalls.sort sortLays sortEnters hl k

end Go.Cw
end

/- Functions in the small form. Printed by a program of this seat's proofs. -/
section
namespace Go.Cw
open Go Go.Proofs

namespace law01_LeakTells
noncomputable def cfg : Cfg := { pure := pures, pcs := [], raw := [], cuts := [], draws := [], keep := [] }
@[simp] noncomputable def r0 (_ : Unit) : List Stp := [S 5 (.box (.t 0)), S 10 (.mv (.c (.bool false)))]
@[simp] noncomputable def r1 (_ : Unit) : List Stp := [S 51 (.load true 2 (.t 5)), SP 52 (.call (.c (.func (.func fn_law01_heavy) [] [])) [(.t 51), (.c (.int .i64 3000)), (.c (.int .i64 8))])]
@[simp] noncomputable def r2 (_ : Unit) : List Stp := [SP 53 (.call (.c (.func (.func fn_law01_alive) [] [])) []), S 10 (.mv (.t 53))]
@[simp] noncomputable def r3 (_ : Unit) : List Stp := [S 55 (.load true 2 (.t 5)), S 56 (.mv (.t 3)), S 57 (.mv (.t 4)), SP 58 (.call (.c (.func (.func fn_leak_Wet) [] [])) [(.t 55), (.t 56), (.t 57)]), S 54 (.mv (.t 58)), S 59 (.ext (.t 54) 0), S 60 (.ext (.t 54) 1), S 11 (.mv (.t 59)), S 12 (.mv (.t 60))]
@[simp] noncomputable def r4 (_ : Unit) : List Stp := [S 62 (.load true 2 (.t 5)), S 63 (.mv (.t 3)), S 64 (.mv (.t 4)), SP 65 (.call (.c (.func (.func fn_ref01_Wet) [] [])) [(.t 62), (.t 63), (.t 64)]), S 61 (.mv (.t 65)), S 66 (.ext (.t 61) 0), S 67 (.ext (.t 61) 1), S 13 (.mv (.t 66)), S 14 (.mv (.t 67))]
@[simp] noncomputable def r5 (_ : Unit) : List Stp := [S 69 (.load true 2 (.t 5)), S 70 (.mv (.t 1)), SP 71 (.call (.c (.func (.func fn_leak_Rate) [] [])) [(.t 69), (.t 70)]), S 68 (.mv (.t 71)), S 72 (.ext (.t 68) 0), S 73 (.ext (.t 68) 1), S 15 (.alloc [(.int .i64 0), (.int .i64 0)]), SN (.store 2 (.t 15) (.t 72)), S 16 (.mv (.t 73))]
@[simp] noncomputable def r6 (_ : Unit) : List Stp := [S 75 (.load true 2 (.t 5)), S 76 (.mv (.t 1)), SP 77 (.call (.c (.func (.func fn_ref01_Rate) [] [])) [(.t 75), (.t 76)]), S 74 (.mv (.t 77)), S 78 (.ext (.t 74) 0), S 79 (.ext (.t 74) 1), S 17 (.alloc [(.int .i64 0), (.int .i64 0)]), SN (.store 2 (.t 17) (.t 78)), S 18 (.mv (.t 79))]
@[simp] noncomputable def r7 (_ : Unit) : List Stp := [S 81 (.load true 2 (.t 5)), S 82 (.mv (.t 2)), SP 83 (.call (.c (.func (.func fn_leak_Total) [] [])) [(.t 81), (.t 82)]), S 80 (.mv (.t 83)), S 84 (.ext (.t 80) 0), S 85 (.ext (.t 80) 1), S 19 (.alloc [(.int .i64 0), (.int .i64 0)]), SN (.store 2 (.t 19) (.t 84)), S 20 (.mv (.t 85))]
@[simp] noncomputable def r8 (_ : Unit) : List Stp := [S 87 (.load true 2 (.t 5)), S 88 (.mv (.t 2)), SP 89 (.call (.c (.func (.func fn_ref01_Total) [] [])) [(.t 87), (.t 88)]), S 86 (.mv (.t 89)), S 90 (.ext (.t 86) 0), S 91 (.ext (.t 86) 1), S 21 (.alloc [(.int .i64 0), (.int .i64 0)]), SN (.store 2 (.t 21) (.t 90)), S 22 (.mv (.t 91))]
@[simp] noncomputable def r9 (_ : Unit) : List Stp := [S 93 (.load true 2 (.t 5)), SP 94 (.call (.c (.func (.func fn_leak_Leaks) [] [])) [(.t 93)]), S 92 (.mv (.t 94)), S 95 (.ext (.t 92) 0), S 96 (.ext (.t 92) 1), S 97 (.ext (.t 92) 2), S 23 (.mv (.t 95)), S 24 (.mv (.t 96)), S 25 (.mv (.t 97))]
@[simp] noncomputable def r10 (_ : Unit) : List Stp := [S 99 (.load true 2 (.t 5)), SP 100 (.call (.c (.func (.func fn_ref01_Leaks) [] [])) [(.t 99)]), S 98 (.mv (.t 100)), S 101 (.ext (.t 98) 0), S 102 (.ext (.t 98) 1), S 103 (.ext (.t 98) 2), S 26 (.mv (.t 101)), S 27 (.mv (.t 102)), S 28 (.mv (.t 103))]
@[simp] noncomputable def r11 (_ : Unit) : List Stp := [S 105 (.load true 2 (.t 5)), SP 106 (.call (.c (.func (.func fn_leak_Sets) [] [])) [(.t 105)]), S 104 (.mv (.t 106)), S 107 (.ext (.t 104) 0), S 108 (.ext (.t 104) 1), S 29 (.mv (.t 107)), S 30 (.mv (.t 108))]
@[simp] noncomputable def r12 (_ : Unit) : List Stp := [S 110 (.load true 2 (.t 5)), SP 111 (.call (.c (.func (.func fn_ref01_Sets) [] [])) [(.t 110)]), S 109 (.mv (.t 111)), S 112 (.ext (.t 109) 0), S 113 (.ext (.t 109) 1), S 31 (.mv (.t 112)), S 32 (.mv (.t 113))]
@[simp] noncomputable def r13 (_ : Unit) : List Stp := [S 114 (.mv (.t 11)), S 115 (.mv (.t 13)), S 116 (.bin .neq (.t 114) (.t 115)), S 117 (.mv (.t 116)), SG 118 117 false (.mv (.t 12)), SG 119 117 false (.mv (.t 14)), SG 120 117 false (.bin .neq (.t 118) (.t 119)), S 121 (.pick (.t 117) (.c (.bool true)) (.t 120)), S 122 (.mv (.t 121)), SG 123 122 false (.load true 2 (.t 15)), SG 124 122 false (.load true 2 (.t 17)), SG 125 122 false (.eqA true [.i, .i] (.t 123) (.t 124)), S 126 (.pick (.t 122) (.c (.bool true)) (.t 125)), S 127 (.mv (.t 126)), SG 128 127 false (.mv (.t 16)), SG 129 127 false (.mv (.t 18)), SG 130 127 false (.bin .neq (.t 128) (.t 129)), S 131 (.pick (.t 127) (.c (.bool true)) (.t 130)), S 132 (.mv (.t 131)), SG 133 132 false (.load true 2 (.t 19)), SG 134 132 false (.load true 2 (.t 21)), SG 135 132 false (.eqA true [.i, .i] (.t 133) (.t 134)), S 136 (.pick (.t 132) (.c (.bool true)) (.t 135)), S 137 (.mv (.t 136)), SG 138 137 false (.mv (.t 20)), SG 139 137 false (.mv (.t 22)), SG 140 137 false (.bin .neq (.t 138) (.t 139)), S 141 (.pick (.t 137) (.c (.bool true)) (.t 140)), S 142 (.mv (.t 141)), SG 143 142 false (.mv (.t 23)), SG 144 142 false (.mv (.t 26)), SG 145 142 false (.bin .neq (.t 143) (.t 144)), S 146 (.pick (.t 142) (.c (.bool true)) (.t 145)), S 147 (.mv (.t 146)), SG 148 147 false (.mv (.t 24)), SG 149 147 false (.mv (.t 27)), SG 150 147 false (.bin .neq (.t 148) (.t 149)), S 151 (.pick (.t 147) (.c (.bool true)) (.t 150)), S 152 (.mv (.t 151)), SG 153 152 false (.mv (.t 25)), SG 154 152 false (.mv (.t 28)), SG 155 152 false (.bin .neq (.t 153) (.t 154)), S 156 (.pick (.t 152) (.c (.bool true)) (.t 155)), S 157 (.mv (.t 156)), SG 158 157 false (.mv (.t 29)), SG 159 157 false (.mv (.t 31)), SG 160 157 false (.call (.c (.func (.func fn_ref01_Ints) [] [])) [(.t 158), (.t 159)]), SG 161 157 false (.un .not (.t 160)), S 162 (.pick (.t 157) (.c (.bool true)) (.t 161)), S 163 (.mv (.t 162)), SG 164 163 false (.mv (.t 30)), SG 165 163 false (.mv (.t 32)), SG 166 163 false (.bin .neq (.t 164) (.t 165)), S 167 (.pick (.t 163) (.c (.bool true)) (.t 166))]
@[simp] noncomputable def r14 (_ : Unit) : List Stp := [S 10 (.mv (.c (.bool false)))]
@[simp] noncomputable def r15 (_ : Unit) : List Stp := [S 169 (.load true 2 (.t 5)), SP 170 (.call (.c (.func (.func fn_leak_Fewest) [] [])) [(.t 169)]), S 168 (.mv (.t 170)), S 171 (.ext (.t 168) 0), S 172 (.ext (.t 168) 1), S 173 (.ext (.t 168) 2), S 33 (.mv (.t 171)), S 34 (.mv (.t 172)), S 35 (.mv (.t 173))]
@[simp] noncomputable def r16 (_ : Unit) : List Stp := [S 175 (.load true 2 (.t 5)), SP 176 (.call (.c (.func (.func fn_ref01_Fewest) [] [])) [(.t 175)]), S 174 (.mv (.t 176)), S 177 (.ext (.t 174) 0), S 178 (.ext (.t 174) 1), S 179 (.ext (.t 174) 2), S 36 (.mv (.t 177)), S 37 (.mv (.t 178)), S 38 (.mv (.t 179))]
@[simp] noncomputable def r17 (_ : Unit) : List Stp := [S 181 (.load true 2 (.t 5)), S 182 (.mv (.t 3)), S 183 (.mv (.t 4)), SP 184 (.call (.c (.func (.func fn_leak_Flow) [] [])) [(.t 181), (.t 182), (.t 183)]), S 180 (.mv (.t 184)), S 185 (.ext (.t 180) 0), S 186 (.ext (.t 180) 1), S 39 (.alloc [(.int .i64 0), (.int .i64 0)]), SN (.store 2 (.t 39) (.t 185)), S 40 (.mv (.t 186))]
@[simp] noncomputable def r18 (_ : Unit) : List Stp := [S 188 (.load true 2 (.t 5)), S 189 (.mv (.t 3)), S 190 (.mv (.t 4)), SP 191 (.call (.c (.func (.func fn_ref01_Flow) [] [])) [(.t 188), (.t 189), (.t 190)]), S 187 (.mv (.t 191)), S 192 (.ext (.t 187) 0), S 193 (.ext (.t 187) 1), S 41 (.alloc [(.int .i64 0), (.int .i64 0)]), SN (.store 2 (.t 41) (.t 192)), S 42 (.mv (.t 193))]
@[simp] noncomputable def r19 (_ : Unit) : List Stp := [S 195 (.load true 2 (.t 5)), SP 196 (.call (.c (.func (.func fn_leak_Next) [] [])) [(.t 195)]), S 194 (.mv (.t 196)), S 197 (.ext (.t 194) 0), S 198 (.ext (.t 194) 1), S 199 (.ext (.t 194) 2), S 200 (.ext (.t 194) 3), S 43 (.mv (.t 197)), S 44 (.mv (.t 198)), S 45 (.mv (.t 199)), S 46 (.mv (.t 200))]
@[simp] noncomputable def r20 (_ : Unit) : List Stp := [S 202 (.load true 2 (.t 5)), SP 203 (.call (.c (.func (.func fn_ref01_Next) [] [])) [(.t 202)]), S 201 (.mv (.t 203)), S 204 (.ext (.t 201) 0), S 205 (.ext (.t 201) 1), S 206 (.ext (.t 201) 2), S 207 (.ext (.t 201) 3), S 47 (.mv (.t 204)), S 48 (.mv (.t 205)), S 49 (.mv (.t 206)), S 50 (.mv (.t 207))]
@[simp] noncomputable def r21 (_ : Unit) : List Stp := [S 208 (.mv (.t 33)), S 209 (.mv (.t 36)), S 210 (.bin .eql (.t 208) (.t 209)), S 211 (.mv (.t 210)), SG 212 211 true (.mv (.t 34)), SG 213 211 true (.mv (.t 37)), SG 214 211 true (.bin .eql (.t 212) (.t 213)), S 215 (.pick (.t 211) (.t 214) (.c (.bool false))), S 216 (.mv (.t 215)), SG 217 216 true (.mv (.t 35)), SG 218 216 true (.mv (.t 38)), SG 219 216 true (.bin .eql (.t 217) (.t 218)), S 220 (.pick (.t 216) (.t 219) (.c (.bool false))), S 221 (.mv (.t 220)), SG 222 221 true (.load true 2 (.t 39)), SG 223 221 true (.load true 2 (.t 41)), SG 224 221 true (.eqA false [.i, .i] (.t 222) (.t 223)), S 225 (.pick (.t 221) (.t 224) (.c (.bool false))), S 226 (.mv (.t 225)), SG 227 226 true (.mv (.t 40)), SG 228 226 true (.mv (.t 42)), SG 229 226 true (.bin .eql (.t 227) (.t 228)), S 230 (.pick (.t 226) (.t 229) (.c (.bool false))), S 231 (.mv (.t 230)), SG 232 231 true (.mv (.t 43)), SG 233 231 true (.mv (.t 47)), SG 234 231 true (.bin .eql (.t 232) (.t 233)), S 235 (.pick (.t 231) (.t 234) (.c (.bool false))), S 236 (.mv (.t 235)), SG 237 236 true (.mv (.t 44)), SG 238 236 true (.mv (.t 48)), SG 239 236 true (.bin .eql (.t 237) (.t 238)), S 240 (.pick (.t 236) (.t 239) (.c (.bool false))), S 241 (.mv (.t 240)), SG 242 241 true (.mv (.t 45)), SG 243 241 true (.mv (.t 49)), SG 244 241 true (.bin .eql (.t 242) (.t 243)), S 245 (.pick (.t 241) (.t 244) (.c (.bool false))), S 246 (.mv (.t 245)), SG 247 246 true (.mv (.t 46)), SG 248 246 true (.mv (.t 50)), SG 249 246 true (.bin .eql (.t 247) (.t 248)), S 250 (.pick (.t 246) (.t 249) (.c (.bool false))), S 251 (.mv (.t 250)), SGP 252 251 true (.call (.c (.func (.func fn_law01_alive) [] [])) []), S 253 (.pick (.t 251) (.t 252) (.c (.bool false))), S 10 (.mv (.t 253))]
@[simp] noncomputable def ir : IR := (.seq (.ops r0) (.seq (.seq (.ops r1) (.cond (.t 52) (.seq (.ops r2) .ret) .skip)) (.seq (.ops r3) (.seq (.ops r4) (.seq (.ops r5) (.seq (.ops r6) (.seq (.ops r7) (.seq (.ops r8) (.seq (.ops r9) (.seq (.ops r10) (.seq (.ops r11) (.seq (.ops r12) (.seq (.seq (.ops r13) (.cond (.t 167) (.seq (.ops r14) .ret) .skip)) (.seq (.ops r15) (.seq (.ops r16) (.seq (.ops r17) (.seq (.ops r18) (.seq (.ops r19) (.seq (.ops r20) (.seq (.ops r21) .ret))))))))))))))))))))
@[simp] noncomputable def rs : List RV := [.tmp 10]
theorem comp : compF Pg cfg Tryz.f3 = some (ir, rs, 254) := by kernel_rfl
theorem enter {args : List AVal} {h : Heap} {K : AEnd → Heap → Prop} (F : Nat) (hl : args.length ≤ 254) (a : AW ⟨Pg, F, 254, false, []⟩ ir (RetK rs K) (initT args) [] h) : ACalls Pg fn_law01_LeakTells args h K :=
  ACalls.of_comp follows Tryz.func3 comp hl a
theorem pure {args : List AVal} {v : AVal} (hl : args.length ≤ 254) (a : AW ⟨Pg, 0, 254, false, []⟩ ir (RetK rs fun e _ => e = .ret v) (initT args) [] nilH) : APure Pg fn_law01_LeakTells args v :=
  APure.of_nil (enter 0 hl a)
end law01_LeakTells

namespace law01_heavy
noncomputable def cfg : Cfg := { pure := pures, pcs := [], raw := [], cuts := [], draws := [], keep := [] }
@[simp] noncomputable def r0 (_ : Unit) : List Stp := [S 3 (.box (.t 0)), S 6 (.mv (.c (.bool false)))]
@[simp] noncomputable def r1 (_ : Unit) : List Stp := [S 10 (.load true 2 (.t 3)), SP 11 (.call (.c (.func (.func fn_law01_long) [] [])) [(.t 10)]), S 12 (.mv (.t 11)), SG 13 12 false (.load true 2 (.t 3)), SGP 14 12 false (.call (.c (.func (.func fn_ref01_Hull) [] [])) [(.t 13)]), SG 15 12 false (.un .not (.t 14)), S 16 (.pick (.t 12) (.c (.bool true)) (.t 15))]
@[simp] noncomputable def r2 (_ : Unit) : List Stp := [S 17 (.load true 2 (.t 3)), SP 18 (.call (.c (.func (.func fn_law01_long) [] [])) [(.t 17)]), S 6 (.mv (.t 18))]
@[simp] noncomputable def r3 (_ : Unit) : List Stp := [S 7 (.mv (.c (.int .i64 1)))]
@[simp] noncomputable def r4 (_ : Unit) : List Stp := [S 19 (.fAddr 0 (.t 3)), S 20 (.load false 1 (.t 19)), S 21 (.len (.t 20)), S 22 (.mv (.c (.int .i64 0)))]
@[simp] noncomputable def r5 (_ : Unit) : List Stp := [S 23 (.bin .lss (.t 22) (.t 21))]
@[simp] noncomputable def r6 (_ : Unit) : List Stp := [S 24 (.ixS 3 (.t 20) (.t 22)), S 25 (.load true 3 (.t 24)), S 9 (.alloc [(.int .i64 0), (.int .i64 0), (.int .i64 0)]), SN (.store 3 (.t 9) (.t 25))]
@[simp] noncomputable def r7 (_ : Unit) : List Stp := [S 26 (.mv (.t 7)), S 27 (.fAddr 2 (.t 9)), S 28 (.load false 1 (.t 27)), S 29 (.bin .add (.t 28) (.c (.int .i64 1))), S 30 (.bin .mul (.t 26) (.t 29)), S 7 (.mv (.t 30))]
@[simp] noncomputable def r8 (_ : Unit) : List Stp := [S 31 (.bin .add (.t 22) (.c (.int .i64 1))), S 22 (.mv (.t 31))]
@[simp] noncomputable def r9 (_ : Unit) : List Stp := [S 32 (.mv (.t 7)), S 33 (.mv (.t 1)), S 34 (.bin .gtr (.t 32) (.t 33)), S 35 (.mv (.t 34)), SG 36 35 false (.fAddr 1 (.t 3)), SG 37 35 false (.load false 1 (.t 36)), SG 38 35 false (.len (.t 37)), SG 39 35 false (.mv (.t 2)), SG 40 35 false (.bin .gtr (.t 38) (.t 39)), S 41 (.pick (.t 35) (.c (.bool true)) (.t 40)), S 6 (.mv (.t 41))]
@[simp] noncomputable def ir : IR := (.seq (.ops r0) (.seq (.seq (.ops r1) (.cond (.t 16) (.seq (.ops r2) .ret) .skip)) (.seq (.ops r3) (.seq (.seq (.ops r4) (.block 0 (.loop (.seq (.ops r5) (.seq (.cond (.t 23) .skip (.exit 0)) (.seq (.block 1 (.seq (.ops r6) (.ops r7))) (.ops r8))))))) (.seq (.ops r9) .ret)))))
@[simp] noncomputable def rs : List RV := [.tmp 6]
theorem comp : compF Pg cfg Tryz.f4 = some (ir, rs, 42) := by kernel_rfl
theorem enter {args : List AVal} {h : Heap} {K : AEnd → Heap → Prop} (F : Nat) (hl : args.length ≤ 42) (a : AW ⟨Pg, F, 42, false, []⟩ ir (RetK rs K) (initT args) [] h) : ACalls Pg fn_law01_heavy args h K :=
  ACalls.of_comp follows Tryz.func4 comp hl a
theorem pure {args : List AVal} {v : AVal} (hl : args.length ≤ 42) (a : AW ⟨Pg, 0, 42, false, []⟩ ir (RetK rs fun e _ => e = .ret v) (initT args) [] nilH) : APure Pg fn_law01_heavy args v :=
  APure.of_nil (enter 0 hl a)
end law01_heavy

namespace law01_alive
noncomputable def cfg : Cfg := { pure := pures, pcs := [], raw := [], cuts := [], draws := [(10, [⟨0, false, [], []⟩, ⟨1, false, [], []⟩, ⟨2, false, [], []⟩, ⟨3, false, [], []⟩, ⟨4, false, [], []⟩, ⟨5, false, [], []⟩, ⟨6, false, [], []⟩, ⟨8, false, [], []⟩, ⟨7, false, [], []⟩, ⟨9, false, [], []⟩, ⟨10, false, [], []⟩, ⟨11, false, [], []⟩, ⟨12, false, [], []⟩, ⟨13, false, [], []⟩, ⟨14, false, [], []⟩, ⟨15, false, [], []⟩, ⟨17, false, [], []⟩, ⟨16, false, [], []⟩, ⟨18, false, [], []⟩, ⟨19, false, [], []⟩, ⟨20, false, [], []⟩, ⟨21, false, [], []⟩, ⟨22, false, [], []⟩, ⟨23, false, [], []⟩, ⟨24, false, [], []⟩, ⟨25, false, [], []⟩, ⟨26, false, [], []⟩, ⟨27, false, [], []⟩, ⟨28, false, [], []⟩, ⟨29, false, [], []⟩, ⟨30, false, [], []⟩, ⟨31, false, [], []⟩, ⟨32, false, [], []⟩, ⟨33, false, [], []⟩, ⟨34, false, [], []⟩, ⟨35, false, [], []⟩, ⟨36, false, [], []⟩, ⟨37, false, [], []⟩, ⟨38, false, [], []⟩, ⟨39, false, [], []⟩, ⟨40, false, [], []⟩, ⟨41, false, [], []⟩, ⟨42, false, [], []⟩, ⟨43, false, [], []⟩, ⟨44, false, [], []⟩, ⟨45, false, [], []⟩, ⟨46, false, [], []⟩, ⟨47, false, [], []⟩, ⟨48, false, [], []⟩, ⟨49, false, [], []⟩, ⟨50, false, [], []⟩, ⟨51, false, [], []⟩, ⟨52, false, [], []⟩, ⟨53, false, [], []⟩, ⟨54, false, [], []⟩, ⟨55, false, [], []⟩, ⟨56, false, [], []⟩, ⟨57, false, [], []⟩, ⟨59, false, [], []⟩, ⟨58, false, [], []⟩, ⟨60, false, [], []⟩, ⟨61, false, [], []⟩, ⟨62, false, [], []⟩, ⟨63, false, [], []⟩, ⟨64, false, [], []⟩, ⟨65, false, [], []⟩, ⟨66, false, [], []⟩, ⟨67, false, [], []⟩, ⟨68, false, [], []⟩, ⟨69, false, [], []⟩, ⟨70, false, [], []⟩, ⟨71, false, [], []⟩, ⟨72, false, [], []⟩, ⟨73, false, [], []⟩, ⟨74, false, [], []⟩, ⟨75, false, [], []⟩, ⟨76, false, [], []⟩, ⟨77, false, [], []⟩, ⟨78, false, [], []⟩, ⟨79, false, [], []⟩, ⟨80, false, [], []⟩, ⟨81, false, [], []⟩, ⟨82, false, [], []⟩, ⟨83, false, [], []⟩, ⟨84, false, [], []⟩, ⟨85, false, [], []⟩, ⟨86, false, [], []⟩, ⟨87, false, [], []⟩, ⟨88, false, [], []⟩, ⟨89, false, [], []⟩, ⟨90, false, [], []⟩])], keep := [] }
@[simp] noncomputable def r0 (_ : Unit) : List Stp := [S 0 (.mv (.c (.bool false)))]
@[simp] noncomputable def r1 (_ : Unit) : List Stp := [SP 24 (.call (.c (.func (.func fn_law01_sample) [] [])) [(.c (.bool false))]), SP 25 (.call (.c (.func (.func fn_leak_Wet) [] [])) [(.t 24), (.c (.int .i64 4)), (.c (.int .i64 1))]), S 23 (.mv (.t 25)), S 26 (.ext (.t 23) 0), S 27 (.ext (.t 23) 1), S 1 (.mv (.t 26)), S 2 (.mv (.t 27))]
@[simp] noncomputable def r2 (_ : Unit) : List Stp := [SP 29 (.call (.c (.func (.func fn_law01_sample) [] [])) [(.c (.bool false))]), SP 30 (.call (.c (.func (.func fn_leak_Rate) [] [])) [(.t 29), (.c (.int .i64 2))]), S 28 (.mv (.t 30)), S 31 (.ext (.t 28) 0), S 32 (.ext (.t 28) 1), S 3 (.alloc [(.int .i64 0), (.int .i64 0)]), SN (.store 2 (.t 3) (.t 31)), S 4 (.mv (.t 32))]
@[simp] noncomputable def r3 (_ : Unit) : List Stp := [SP 34 (.call (.c (.func (.func fn_law01_sample) [] [])) [(.c (.bool false))]), SP 35 (.call (.c (.func (.func fn_leak_Total) [] [])) [(.t 34), (.c (.int .i64 6))]), S 33 (.mv (.t 35)), S 36 (.ext (.t 33) 0), S 37 (.ext (.t 33) 1), S 5 (.alloc [(.int .i64 0), (.int .i64 0)]), SN (.store 2 (.t 5) (.t 36)), S 6 (.mv (.t 37))]
@[simp] noncomputable def r4 (_ : Unit) : List Stp := [SP 39 (.call (.c (.func (.func fn_law01_sample) [] [])) [(.c (.bool false))]), SP 40 (.call (.c (.func (.func fn_leak_Leaks) [] [])) [(.t 39)]), S 38 (.mv (.t 40)), S 41 (.ext (.t 38) 0), S 42 (.ext (.t 38) 1), S 43 (.ext (.t 38) 2), S 7 (.mv (.t 41)), S 8 (.mv (.t 42)), S 9 (.mv (.t 43))]
@[simp] noncomputable def r5 (_ : Unit) : List Stp := [SP 45 (.call (.c (.func (.func fn_law01_sample) [] [])) [(.c (.bool false))]), SP 46 (.call (.c (.func (.func fn_leak_Sets) [] [])) [(.t 45)]), S 44 (.mv (.t 46)), S 47 (.ext (.t 44) 0), S 48 (.ext (.t 44) 1), S 10 (.mv (.t 47)), S 11 (.mv (.t 48))]
@[simp] noncomputable def r6 (_ : Unit) : List Stp := [SP 50 (.call (.c (.func (.func fn_law01_sample) [] [])) [(.c (.bool false))]), SP 51 (.call (.c (.func (.func fn_leak_Fewest) [] [])) [(.t 50)]), S 49 (.mv (.t 51)), S 52 (.ext (.t 49) 0), S 53 (.ext (.t 49) 1), S 54 (.ext (.t 49) 2), S 12 (.mv (.t 52)), S 13 (.mv (.t 53)), S 14 (.mv (.t 54))]
@[simp] noncomputable def r7 (_ : Unit) : List Stp := [SP 56 (.call (.c (.func (.func fn_law01_sample) [] [])) [(.c (.bool false))]), SP 57 (.call (.c (.func (.func fn_leak_Flow) [] [])) [(.t 56), (.c (.int .i64 4)), (.c (.int .i64 1))]), S 55 (.mv (.t 57)), S 58 (.ext (.t 55) 0), S 59 (.ext (.t 55) 1), S 15 (.alloc [(.int .i64 0), (.int .i64 0)]), SN (.store 2 (.t 15) (.t 58)), S 16 (.mv (.t 59))]
@[simp] noncomputable def r8 (_ : Unit) : List Stp := [SP 61 (.call (.c (.func (.func fn_law01_sample) [] [])) [(.c (.bool false))]), SP 62 (.call (.c (.func (.func fn_leak_Next) [] [])) [(.t 61)]), S 60 (.mv (.t 62)), S 63 (.ext (.t 60) 0), S 64 (.ext (.t 60) 1), S 65 (.ext (.t 60) 2), S 66 (.ext (.t 60) 3), S 17 (.mv (.t 63)), S 18 (.mv (.t 64)), S 19 (.mv (.t 65)), S 20 (.mv (.t 66))]
@[simp] noncomputable def r9 (_ : Unit) : List Stp := [SP 68 (.call (.c (.func (.func fn_law01_sample) [] [])) [(.c (.bool true))]), SP 69 (.call (.c (.func (.func fn_leak_Clash) [] [])) [(.t 68)]), S 67 (.mv (.t 69)), S 70 (.ext (.t 67) 0), S 71 (.ext (.t 67) 1), S 21 (.mv (.t 70)), S 22 (.mv (.t 71))]
@[simp] noncomputable def r10 (_ : Unit) : List Stp := [S 72 (.mv (.t 1)), S 73 (.bin .eql (.t 72) (.c (.int .i64 5))), S 74 (.mv (.t 73)), SG 75 74 true (.mv (.t 2)), SG 76 74 true (.bin .eql (.t 75) (.c (.int .i64 0))), S 77 (.pick (.t 74) (.t 76) (.c (.bool false))), S 78 (.mv (.t 77)), SGP 80 78 true (.call (.c (.func (.func fn_law01_span) [] [])) [(.c (.int .i64 0)), (.c (.int .i64 3))]), SG 79 78 true (.load true 2 (.t 3)), SG 81 78 true (.eqA false [.i, .i] (.t 79) (.t 80)), S 82 (.pick (.t 78) (.t 81) (.c (.bool false))), S 83 (.mv (.t 82)), SG 84 83 true (.mv (.t 4)), SG 85 83 true (.bin .eql (.t 84) (.c (.int .i64 0))), S 86 (.pick (.t 83) (.t 85) (.c (.bool false))), S 87 (.mv (.t 86)), SGP 89 87 true (.call (.c (.func (.func fn_law01_span) [] [])) [(.c (.int .i64 2)), (.c (.int .i64 3))]), SG 88 87 true (.load true 2 (.t 5)), SG 90 87 true (.eqA false [.i, .i] (.t 88) (.t 89)), S 91 (.pick (.t 87) (.t 90) (.c (.bool false))), S 92 (.mv (.t 91)), SG 93 92 true (.mv (.t 6)), SG 94 92 true (.bin .eql (.t 93) (.c (.int .i64 0))), S 95 (.pick (.t 92) (.t 94) (.c (.bool false))), S 96 (.mv (.t 95)), SG 97 96 true (.mv (.t 7)), SG 98 96 true (.bin .eql (.t 97) (.c (.int .i64 7))), S 99 (.pick (.t 96) (.t 98) (.c (.bool false))), S 100 (.mv (.t 99)), SG 101 100 true (.mv (.t 8)), SG 102 100 true (.bin .eql (.t 101) (.c (.int .i64 1))), S 103 (.pick (.t 100) (.t 102) (.c (.bool false))), S 104 (.mv (.t 103)), SG 105 104 true (.mv (.t 9)), SG 106 104 true (.bin .eql (.t 105) (.c (.int .i64 0))), S 107 (.pick (.t 104) (.t 106) (.c (.bool false))), S 108 (.mv (.t 107)), SG 109 108 true (.mv (.t 10)), SG 110 108 true (.bsl 3 [(.int .i64 0), (.int .i64 0), (.int .i64 0)] [(0, 1, (.c (.int .i64 3))), (1, 1, (.c (.int .i64 5))), (2, 1, (.c (.int .i64 7)))]), SG 111 108 true (.call (.c (.func (.func fn_ref01_Ints) [] [])) [(.t 109), (.t 110)]), S 112 (.pick (.t 108) (.t 111) (.c (.bool false))), S 113 (.mv (.t 112)), SG 114 113 true (.mv (.t 11)), SG 115 113 true (.bin .eql (.t 114) (.c (.int .i64 0))), S 116 (.pick (.t 113) (.t 115) (.c (.bool false))), S 117 (.mv (.t 116)), SG 118 117 true (.mv (.t 12)), SG 119 117 true (.bin .eql (.t 118) (.c (.int .i64 2))), S 120 (.pick (.t 117) (.t 119) (.c (.bool false))), S 121 (.mv (.t 120)), SG 122 121 true (.mv (.t 13)), SG 123 121 true (.bin .eql (.t 122) (.c (.int .i64 3))), S 124 (.pick (.t 121) (.t 123) (.c (.bool false))), S 125 (.mv (.t 124)), SG 126 125 true (.mv (.t 14)), SG 127 125 true (.bin .eql (.t 126) (.c (.int .i64 0))), S 128 (.pick (.t 125) (.t 127) (.c (.bool false))), S 129 (.mv (.t 128)), SGP 131 129 true (.call (.c (.func (.func fn_law01_span) [] [])) [(.c (.int .i64 2)), (.c (.int .i64 4))]), SG 130 129 true (.load true 2 (.t 15)), SG 132 129 true (.eqA false [.i, .i] (.t 130) (.t 131)), S 133 (.pick (.t 129) (.t 132) (.c (.bool false))), S 134 (.mv (.t 133)), SG 135 134 true (.mv (.t 16)), SG 136 134 true (.bin .eql (.t 135) (.c (.int .i64 0))), S 137 (.pick (.t 134) (.t 136) (.c (.bool false))), S 138 (.mv (.t 137)), SG 139 138 true (.mv (.t 17)), SG 140 138 true (.bin .eql (.t 139) (.c (.int .i64 2))), S 141 (.pick (.t 138) (.t 140) (.c (.bool false))), S 142 (.mv (.t 141)), SG 143 142 true (.mv (.t 18)), SG 144 142 true (.bin .eql (.t 143) (.c (.int .i64 (-3)))), S 145 (.pick (.t 142) (.t 144) (.c (.bool false))), S 146 (.mv (.t 145)), SG 147 146 true (.mv (.t 19)), SG 148 146 true (.bin .eql (.t 147) (.c (.int .i64 2))), S 149 (.pick (.t 146) (.t 148) (.c (.bool false))), S 150 (.mv (.t 149)), SG 151 150 true (.mv (.t 20)), SG 152 150 true (.bin .eql (.t 151) (.c (.int .i64 0))), S 153 (.pick (.t 150) (.t 152) (.c (.bool false))), S 154 (.mv (.t 153)), SG 155 154 true (.mv (.t 21)), SG 156 154 true (.bin .eql (.t 155) (.c (.int .i64 5))), S 157 (.pick (.t 154) (.t 156) (.c (.bool false))), S 158 (.mv (.t 157)), SG 159 158 true (.mv (.t 22)), SG 160 158 true (.bin .eql (.t 159) (.c (.int .i64 0))), S 161 (.pick (.t 158) (.t 160) (.c (.bool false))), S 0 (.mv (.t 161))]
@[simp] noncomputable def ir : IR := (.seq (.ops r0) (.seq (.ops r1) (.seq (.ops r2) (.seq (.ops r3) (.seq (.ops r4) (.seq (.ops r5) (.seq (.ops r6) (.seq (.ops r7) (.seq (.ops r8) (.seq (.ops r9) (.seq (.ops r10) .ret)))))))))))
@[simp] noncomputable def rs : List RV := [.tmp 0]
theorem comp : compF Pg cfg Tryz.f5 = some (ir, rs, 162) := by kernel_rfl
theorem enter {args : List AVal} {h : Heap} {K : AEnd → Heap → Prop} (F : Nat) (hl : args.length ≤ 162) (a : AW ⟨Pg, F, 162, false, []⟩ ir (RetK rs K) (initT args) [] h) : ACalls Pg fn_law01_alive args h K :=
  ACalls.of_comp follows Tryz.func5 comp hl a
theorem pure {args : List AVal} {v : AVal} (hl : args.length ≤ 162) (a : AW ⟨Pg, 0, 162, false, []⟩ ir (RetK rs fun e _ => e = .ret v) (initT args) [] nilH) : APure Pg fn_law01_alive args v :=
  APure.of_nil (enter 0 hl a)
end law01_alive

namespace leak_Wet
noncomputable def cfg : Cfg := { pure := pures, pcs := [], raw := [], cuts := [], draws := [(3, [⟨0, false, [], []⟩, ⟨1, false, [], []⟩, ⟨2, false, [], []⟩, ⟨3, false, [], []⟩, ⟨4, false, [], []⟩])], keep := [6, 7] }
@[simp] noncomputable def r0 (_ : Unit) : List Stp := [S 3 (.box (.t 0)), S 6 (.mv (.c (.int .i64 0))), S 7 (.alloc [(.int .i64 0)])]
@[simp] noncomputable def r1 (_ : Unit) : List Stp := [S 10 (.mkF (.func fn_leak_Wet_1) [] [(.t 7)]), SN (.defer (.t 10) [])]
@[simp] noncomputable def r2 (_ : Unit) : List Stp := [S 11 (.mv (.t 1)), S 12 (.mv (.t 2)), S 13 (.build [(.int .i64 0), (.int .i64 0)] [(0, 1, (.t 11)), (1, 1, (.t 12))]), S 8 (.alloc [(.int .i64 0), (.int .i64 0)]), SN (.store 2 (.t 8) (.t 13))]
@[simp] noncomputable def r3 (_ : Unit) : List Stp := [S 14 (.load true 2 (.t 3)), S 15 (.load true 2 (.t 8)), SP 16 (.call (.c (.func (.func fn_leak_place_isPlace) [] [])) [(.t 15)]), S 17 (.call (.c (.func (.func fn_leak_open) [] [])) [(.t 14), (.t 16)]), S 9 (.mv (.t 17))]
@[simp] noncomputable def r4 (_ : Unit) : List Stp := [S 18 (.mv (.t 9)), S 19 (.load true 2 (.t 8)), S 20 (.call (.c (.func (.func fn_leak_hull_wet) [] [])) [(.t 18), (.t 19)]), S 21 (.conv .i64 (.t 20)), S 6 (.mv (.t 21)), SN (.store 1 (.t 7) (.c (.int .i64 0)))]
@[simp] noncomputable def ir : IR := (.seq (.ops r0) (.seq (.ops r1) (.seq (.ops r2) (.seq (.ops r3) (.seq (.ops r4) .ret)))))
@[simp] noncomputable def rs : List RV := [.tmp 6, .cell 7 false 1]
theorem comp : compF Pg cfg Tryz.f6 = some (ir, rs, 22) := by kernel_rfl
theorem enter {args : List AVal} {h : Heap} {K : AEnd → Heap → Prop} (F : Nat) (hl : args.length ≤ 22) (a : AW ⟨Pg, F, 22, false, [6, 7]⟩ ir (RetD Pg rs K) (initT args) [] h) : ACalls Pg fn_leak_Wet args h K :=
  ACalls.of_comp_defer follows Tryz.func6 comp hl a
theorem pure {args : List AVal} {v : AVal} (hl : args.length ≤ 22) (a : AW ⟨Pg, 0, 22, false, [6, 7]⟩ ir (RetD Pg rs fun e _ => e = .ret v) (initT args) [] nilH) : APure Pg fn_leak_Wet args v :=
  APure.of_nil (enter 0 hl a)
end leak_Wet

namespace ref01_Wet
noncomputable def cfg : Cfg := { pure := pures, pcs := [], raw := [], cuts := [], draws := [], keep := [] }
@[simp] noncomputable def r0 (_ : Unit) : List Stp := [S 3 (.box (.t 0)), S 6 (.mv (.c (.int .i64 0))), S 7 (.mv (.c (.int .i64 0)))]
@[simp] noncomputable def r1 (_ : Unit) : List Stp := [S 8 (.load true 2 (.t 3)), SP 9 (.call (.c (.func (.func fn_ref01_Hull) [] [])) [(.t 8)]), S 10 (.un .not (.t 9))]
@[simp] noncomputable def r2 (_ : Unit) : List Stp := [S 6 (.mv (.c (.int .i64 0))), S 7 (.mv (.c (.int .i64 1)))]
@[simp] noncomputable def r3 (_ : Unit) : List Stp := [S 11 (.mv (.t 1)), S 12 (.mv (.t 2)), SP 13 (.call (.c (.func (.func fn_ref01_At) [] [])) [(.t 11), (.t 12)]), S 14 (.un .not (.t 13))]
@[simp] noncomputable def r4 (_ : Unit) : List Stp := [S 6 (.mv (.c (.int .i64 0))), S 7 (.mv (.c (.int .i64 2)))]
@[simp] noncomputable def r5 (_ : Unit) : List Stp := [S 15 (.load true 2 (.t 3)), S 16 (.mv (.t 1)), S 17 (.mv (.t 2)), SP 18 (.call (.c (.func (.func fn_ref01_wet) [] [])) [(.t 15), (.t 16), (.t 17)]), S 6 (.mv (.t 18)), S 7 (.mv (.c (.int .i64 0)))]
@[simp] noncomputable def ir : IR := (.seq (.ops r0) (.seq (.seq (.ops r1) (.cond (.t 10) (.seq (.ops r2) .ret) .skip)) (.seq (.seq (.ops r3) (.cond (.t 14) (.seq (.ops r4) .ret) .skip)) (.seq (.ops r5) .ret))))
@[simp] noncomputable def rs : List RV := [.tmp 6, .tmp 7]
theorem comp : compF Pg cfg Tryz.f7 = some (ir, rs, 19) := by kernel_rfl
theorem enter {args : List AVal} {h : Heap} {K : AEnd → Heap → Prop} (F : Nat) (hl : args.length ≤ 19) (a : AW ⟨Pg, F, 19, false, []⟩ ir (RetK rs K) (initT args) [] h) : ACalls Pg fn_ref01_Wet args h K :=
  ACalls.of_comp follows Tryz.func7 comp hl a
theorem pure {args : List AVal} {v : AVal} (hl : args.length ≤ 19) (a : AW ⟨Pg, 0, 19, false, []⟩ ir (RetK rs fun e _ => e = .ret v) (initT args) [] nilH) : APure Pg fn_ref01_Wet args v :=
  APure.of_nil (enter 0 hl a)
end ref01_Wet

namespace leak_Rate
noncomputable def cfg : Cfg := { pure := pures, pcs := [], raw := [], cuts := [], draws := [(2, [⟨1, false, [], []⟩, ⟨2, false, [], []⟩, ⟨0, false, [], []⟩, ⟨3, false, [], []⟩, ⟨4, false, [], []⟩, ⟨5, false, [], []⟩, ⟨6, false, [], []⟩, ⟨7, false, [], []⟩, ⟨8, false, [], []⟩])], keep := [4, 5] }
@[simp] noncomputable def r0 (_ : Unit) : List Stp := [S 2 (.box (.t 0)), S 4 (.alloc [(.int .i64 0), (.int .i64 0)]), S 5 (.alloc [(.int .i64 0)])]
@[simp] noncomputable def r1 (_ : Unit) : List Stp := [S 7 (.mkF (.func fn_leak_Rate_1) [] [(.t 5)]), SN (.defer (.t 7) [])]
@[simp] noncomputable def r2 (_ : Unit) : List Stp := [S 9 (.mv (.t 1)), S 10 (.fAddr 0 (.t 2)), S 8 (.load true 2 (.t 2)), S 11 (.load false 1 (.t 10)), S 12 (.len (.t 11)), S 13 (.bin .sub (.t 12) (.c (.int .i64 1))), SP 14 (.call (.c (.func (.func fn_leak_within) [] [])) [(.t 9), (.c (.int .i64 0)), (.t 13)]), S 15 (.call (.c (.func (.func fn_leak_open) [] [])) [(.t 8), (.t 14)]), S 6 (.mv (.t 15))]
@[simp] noncomputable def r3 (_ : Unit) : List Stp := [S 16 (.mv (.t 6)), S 17 (.mv (.t 1)), S 18 (.bin .shl (.c (.int .u64 1)) (.t 17)), S 19 (.call (.c (.func (.func fn_leak_hull_total) [] [])) [(.t 16), (.t 18)]), SN (.store 2 (.t 4) (.t 19)), SN (.store 1 (.t 5) (.c (.int .i64 0)))]
@[simp] noncomputable def ir : IR := (.seq (.ops r0) (.seq (.ops r1) (.seq (.ops r2) (.seq (.ops r3) .ret))))
@[simp] noncomputable def rs : List RV := [.cell 4 true 2, .cell 5 false 1]
theorem comp : compF Pg cfg Tryz.f8 = some (ir, rs, 20) := by kernel_rfl
theorem enter {args : List AVal} {h : Heap} {K : AEnd → Heap → Prop} (F : Nat) (hl : args.length ≤ 20) (a : AW ⟨Pg, F, 20, false, [4, 5]⟩ ir (RetD Pg rs K) (initT args) [] h) : ACalls Pg fn_leak_Rate args h K :=
  ACalls.of_comp_defer follows Tryz.func8 comp hl a
theorem pure {args : List AVal} {v : AVal} (hl : args.length ≤ 20) (a : AW ⟨Pg, 0, 20, false, [4, 5]⟩ ir (RetD Pg rs fun e _ => e = .ret v) (initT args) [] nilH) : APure Pg fn_leak_Rate args v :=
  APure.of_nil (enter 0 hl a)
end leak_Rate

namespace ref01_Rate
noncomputable def cfg : Cfg := { pure := pures, pcs := [], raw := [], cuts := [], draws := [(1, [⟨2, false, [], []⟩, ⟨0, false, [], []⟩, ⟨1, false, [], []⟩, ⟨3, false, [], []⟩, ⟨4, false, [], []⟩, ⟨5, false, [], []⟩, ⟨6, false, [], []⟩, ⟨7, false, [], []⟩, ⟨8, false, [], []⟩, ⟨9, false, [], []⟩])], keep := [] }
@[simp] noncomputable def r0 (_ : Unit) : List Stp := [S 2 (.box (.t 0)), S 4 (.alloc [(.int .i64 0), (.int .i64 0)]), S 5 (.mv (.c (.int .i64 0)))]
@[simp] noncomputable def r1 (_ : Unit) : List Stp := [S 11 (.mv (.t 1)), S 9 (.load true 2 (.t 2)), S 10 (.load true 2 (.t 2)), SP 12 (.call (.c (.func (.func fn_ref01_Seam) [] [])) [(.t 10), (.t 11)]), SP 13 (.call (.c (.func (.func fn_ref01_told) [] [])) [(.t 9), (.t 12)]), S 8 (.mv (.t 13)), S 14 (.ext (.t 8) 0), S 15 (.ext (.t 8) 1), S 6 (.mv (.t 14)), S 7 (.mv (.t 15))]
@[simp] noncomputable def r2 (_ : Unit) : List Stp := [S 16 (.mv (.t 7)), S 17 (.bin .neq (.t 16) (.c (.int .i64 0)))]
@[simp] noncomputable def r3 (_ : Unit) : List Stp := [S 18 (.build [(.int .i64 0), (.int .i64 0)] []), S 19 (.mv (.t 7)), SN (.store 2 (.t 4) (.t 18)), S 5 (.mv (.t 19))]
@[simp] noncomputable def r4 (_ : Unit) : List Stp := [S 20 (.mv (.t 6)), S 21 (.mv (.t 1)), SP 22 (.call (.c (.func (.func fn_ref01_power) [] [])) [(.t 21)]), SP 23 (.call (.c (.func (.func fn_ref01_sums) [] [])) [(.t 20), (.t 22)]), SN (.store 2 (.t 4) (.t 23)), S 5 (.mv (.c (.int .i64 0)))]
@[simp] noncomputable def ir : IR := (.seq (.ops r0) (.seq (.ops r1) (.seq (.seq (.ops r2) (.cond (.t 17) (.seq (.ops r3) .ret) .skip)) (.seq (.ops r4) .ret))))
@[simp] noncomputable def rs : List RV := [.cell 4 true 2, .tmp 5]
theorem comp : compF Pg cfg Tryz.f9 = some (ir, rs, 24) := by kernel_rfl
theorem enter {args : List AVal} {h : Heap} {K : AEnd → Heap → Prop} (F : Nat) (hl : args.length ≤ 24) (a : AW ⟨Pg, F, 24, false, []⟩ ir (RetK rs K) (initT args) [] h) : ACalls Pg fn_ref01_Rate args h K :=
  ACalls.of_comp follows Tryz.func9 comp hl a
theorem pure {args : List AVal} {v : AVal} (hl : args.length ≤ 24) (a : AW ⟨Pg, 0, 24, false, []⟩ ir (RetK rs fun e _ => e = .ret v) (initT args) [] nilH) : APure Pg fn_ref01_Rate args v :=
  APure.of_nil (enter 0 hl a)
end ref01_Rate

namespace leak_Total
noncomputable def cfg : Cfg := { pure := pures, pcs := [], raw := [], cuts := [], draws := [(2, [⟨2, false, [], []⟩, ⟨0, false, [], []⟩, ⟨1, false, [], []⟩, ⟨3, false, [], []⟩, ⟨4, false, [], []⟩, ⟨5, false, [], []⟩])], keep := [4, 5] }
@[simp] noncomputable def r0 (_ : Unit) : List Stp := [S 2 (.box (.t 0)), S 4 (.alloc [(.int .i64 0), (.int .i64 0)]), S 5 (.alloc [(.int .i64 0)])]
@[simp] noncomputable def r1 (_ : Unit) : List Stp := [S 7 (.mkF (.func fn_leak_Total_1) [] [(.t 5)]), SN (.defer (.t 7) [])]
@[simp] noncomputable def r2 (_ : Unit) : List Stp := [S 10 (.mv (.t 1)), S 8 (.load true 2 (.t 2)), S 9 (.load true 2 (.t 2)), SP 11 (.call (.c (.func (.func fn_leak_isSet) [] [])) [(.t 9), (.t 10)]), S 12 (.call (.c (.func (.func fn_leak_open) [] [])) [(.t 8), (.t 11)]), S 6 (.mv (.t 12))]
@[simp] noncomputable def r3 (_ : Unit) : List Stp := [S 13 (.mv (.t 6)), S 14 (.mv (.t 1)), S 15 (.conv .u64 (.t 14)), S 16 (.call (.c (.func (.func fn_leak_hull_total) [] [])) [(.t 13), (.t 15)]), SN (.store 2 (.t 4) (.t 16)), SN (.store 1 (.t 5) (.c (.int .i64 0)))]
@[simp] noncomputable def ir : IR := (.seq (.ops r0) (.seq (.ops r1) (.seq (.ops r2) (.seq (.ops r3) .ret))))
@[simp] noncomputable def rs : List RV := [.cell 4 true 2, .cell 5 false 1]
theorem comp : compF Pg cfg Tryz.f10 = some (ir, rs, 17) := by kernel_rfl
theorem enter {args : List AVal} {h : Heap} {K : AEnd → Heap → Prop} (F : Nat) (hl : args.length ≤ 17) (a : AW ⟨Pg, F, 17, false, [4, 5]⟩ ir (RetD Pg rs K) (initT args) [] h) : ACalls Pg fn_leak_Total args h K :=
  ACalls.of_comp_defer follows Tryz.func10 comp hl a
theorem pure {args : List AVal} {v : AVal} (hl : args.length ≤ 17) (a : AW ⟨Pg, 0, 17, false, [4, 5]⟩ ir (RetD Pg rs fun e _ => e = .ret v) (initT args) [] nilH) : APure Pg fn_leak_Total args v :=
  APure.of_nil (enter 0 hl a)
end leak_Total

namespace ref01_Total
noncomputable def cfg : Cfg := { pure := pures, pcs := [], raw := [], cuts := [], draws := [(1, [⟨2, false, [], []⟩, ⟨0, false, [], []⟩, ⟨1, false, [], []⟩, ⟨3, false, [], []⟩, ⟨4, false, [], []⟩, ⟨5, false, [], []⟩, ⟨6, false, [], []⟩, ⟨7, false, [], []⟩, ⟨8, false, [], []⟩, ⟨9, false, [], []⟩])], keep := [] }
@[simp] noncomputable def r0 (_ : Unit) : List Stp := [S 2 (.box (.t 0)), S 4 (.alloc [(.int .i64 0), (.int .i64 0)]), S 5 (.mv (.c (.int .i64 0)))]
@[simp] noncomputable def r1 (_ : Unit) : List Stp := [S 11 (.mv (.t 1)), S 9 (.load true 2 (.t 2)), S 10 (.load true 2 (.t 2)), SP 12 (.call (.c (.func (.func fn_ref01_Set) [] [])) [(.t 10), (.t 11)]), SP 13 (.call (.c (.func (.func fn_ref01_told) [] [])) [(.t 9), (.t 12)]), S 8 (.mv (.t 13)), S 14 (.ext (.t 8) 0), S 15 (.ext (.t 8) 1), S 6 (.mv (.t 14)), S 7 (.mv (.t 15))]
@[simp] noncomputable def r2 (_ : Unit) : List Stp := [S 16 (.mv (.t 7)), S 17 (.bin .neq (.t 16) (.c (.int .i64 0)))]
@[simp] noncomputable def r3 (_ : Unit) : List Stp := [S 18 (.build [(.int .i64 0), (.int .i64 0)] []), S 19 (.mv (.t 7)), SN (.store 2 (.t 4) (.t 18)), S 5 (.mv (.t 19))]
@[simp] noncomputable def r4 (_ : Unit) : List Stp := [S 20 (.mv (.t 6)), S 21 (.mv (.t 1)), SP 22 (.call (.c (.func (.func fn_ref01_sums) [] [])) [(.t 20), (.t 21)]), SN (.store 2 (.t 4) (.t 22)), S 5 (.mv (.c (.int .i64 0)))]
@[simp] noncomputable def ir : IR := (.seq (.ops r0) (.seq (.ops r1) (.seq (.seq (.ops r2) (.cond (.t 17) (.seq (.ops r3) .ret) .skip)) (.seq (.ops r4) .ret))))
@[simp] noncomputable def rs : List RV := [.cell 4 true 2, .tmp 5]
theorem comp : compF Pg cfg Tryz.f11 = some (ir, rs, 23) := by kernel_rfl
theorem enter {args : List AVal} {h : Heap} {K : AEnd → Heap → Prop} (F : Nat) (hl : args.length ≤ 23) (a : AW ⟨Pg, F, 23, false, []⟩ ir (RetK rs K) (initT args) [] h) : ACalls Pg fn_ref01_Total args h K :=
  ACalls.of_comp follows Tryz.func11 comp hl a
theorem pure {args : List AVal} {v : AVal} (hl : args.length ≤ 23) (a : AW ⟨Pg, 0, 23, false, []⟩ ir (RetK rs fun e _ => e = .ret v) (initT args) [] nilH) : APure Pg fn_ref01_Total args v :=
  APure.of_nil (enter 0 hl a)
end ref01_Total

namespace leak_Leaks
noncomputable def cfg : Cfg := { pure := pures, pcs := [], raw := [], cuts := [], draws := [], keep := [2, 3, 4] }
@[simp] noncomputable def r0 (_ : Unit) : List Stp := [S 1 (.box (.t 0)), S 2 (.mv (.c (.int .i64 0))), S 3 (.mv (.c (.int .i64 0))), S 4 (.alloc [(.int .i64 0)])]
@[simp] noncomputable def r1 (_ : Unit) : List Stp := [S 10 (.mkF (.func fn_leak_Leaks_1) [] [(.t 4)]), SN (.defer (.t 10) [])]
@[simp] noncomputable def r2 (_ : Unit) : List Stp := [S 5 (.mv (.c (.int .u64 63))), S 6 (.mv (.c (.int .u64 0)))]
@[simp] noncomputable def r3 (_ : Unit) : List Stp := [S 11 (.load true 2 (.t 1)), S 12 (.call (.c (.func (.func fn_leak_open) [] [])) [(.t 11), (.c (.bool true))]), S 13 (.call (.c (.func (.func fn_leak_hull_truths) [] [])) [(.t 12)]), S 14 (.len (.t 13)), S 15 (.mv (.c (.int .i64 0)))]
@[simp] noncomputable def r4 (_ : Unit) : List Stp := [S 16 (.bin .lss (.t 15) (.t 14))]
@[simp] noncomputable def r5 (_ : Unit) : List Stp := [S 17 (.ixS 6 (.t 13) (.t 15)), S 18 (.load true 6 (.t 17)), S 8 (.alloc [(.int .i64 0), (.int .i64 0), (.int .i64 0), (.int .i64 0), (.int .i64 0), (.int .i64 0)]), SN (.store 6 (.t 8) (.t 18))]
@[simp] noncomputable def r6 (_ : Unit) : List Stp := [S 19 (.load true 6 (.t 8)), S 20 (.mkF (.func fn_leak_inflow_leaks) [(.t 19)] []), S 9 (.mv (.t 20))]
@[simp] noncomputable def r7 (_ : Unit) : List Stp := [S 21 (.mv (.t 5)), S 22 (.mv (.t 9)), S 23 (.call (.t 22) []), S 24 (.bin .and (.t 21) (.t 23)), S 25 (.mv (.t 6)), S 26 (.mv (.t 9)), S 27 (.call (.t 26) []), S 28 (.bin .or (.t 25) (.t 27)), S 5 (.mv (.t 24)), S 6 (.mv (.t 28))]
@[simp] noncomputable def r8 (_ : Unit) : List Stp := [S 29 (.bin .add (.t 15) (.c (.int .i64 1))), S 15 (.mv (.t 29))]
@[simp] noncomputable def r9 (_ : Unit) : List Stp := [S 30 (.mv (.t 6)), S 31 (.conv .i64 (.t 30)), S 32 (.mv (.t 5)), S 33 (.conv .i64 (.t 32)), S 2 (.mv (.t 31)), S 3 (.mv (.t 33)), SN (.store 1 (.t 4) (.c (.int .i64 0)))]
@[simp] noncomputable def ir : IR := (.seq (.ops r0) (.seq (.ops r1) (.seq (.ops r2) (.seq (.seq (.ops r3) (.block 0 (.loop (.seq (.ops r4) (.seq (.cond (.t 16) .skip (.exit 0)) (.seq (.block 1 (.seq (.ops r5) (.seq (.ops r6) (.ops r7)))) (.ops r8))))))) (.seq (.ops r9) .ret)))))
@[simp] noncomputable def rs : List RV := [.tmp 2, .tmp 3, .cell 4 false 1]
theorem comp : compF Pg cfg Tryz.f12 = some (ir, rs, 34) := by kernel_rfl
theorem enter {args : List AVal} {h : Heap} {K : AEnd → Heap → Prop} (F : Nat) (hl : args.length ≤ 34) (a : AW ⟨Pg, F, 34, false, [2, 3, 4]⟩ ir (RetD Pg rs K) (initT args) [] h) : ACalls Pg fn_leak_Leaks args h K :=
  ACalls.of_comp_defer follows Tryz.func12 comp hl a
theorem pure {args : List AVal} {v : AVal} (hl : args.length ≤ 34) (a : AW ⟨Pg, 0, 34, false, [2, 3, 4]⟩ ir (RetD Pg rs fun e _ => e = .ret v) (initT args) [] nilH) : APure Pg fn_leak_Leaks args v :=
  APure.of_nil (enter 0 hl a)
end leak_Leaks

namespace ref01_Leaks
noncomputable def cfg : Cfg := { pure := pures, pcs := [], raw := [], cuts := [], draws := [], keep := [] }
@[simp] noncomputable def r0 (_ : Unit) : List Stp := [S 1 (.box (.t 0)), S 2 (.mv (.c (.int .i64 0))), S 3 (.mv (.c (.int .i64 0))), S 4 (.mv (.c (.int .i64 0)))]
@[simp] noncomputable def r1 (_ : Unit) : List Stp := [S 13 (.load true 2 (.t 1)), SP 14 (.call (.c (.func (.func fn_ref01_told) [] [])) [(.t 13), (.c (.bool true))]), S 12 (.mv (.t 14)), S 15 (.ext (.t 12) 0), S 16 (.ext (.t 12) 1), S 5 (.mv (.t 15)), S 6 (.mv (.t 16))]
@[simp] noncomputable def r2 (_ : Unit) : List Stp := [S 17 (.mv (.t 6)), S 18 (.bin .neq (.t 17) (.c (.int .i64 0)))]
@[simp] noncomputable def r3 (_ : Unit) : List Stp := [S 19 (.mv (.t 6)), S 2 (.mv (.c (.int .i64 0))), S 3 (.mv (.c (.int .i64 0))), S 4 (.mv (.t 19))]
@[simp] noncomputable def r4 (_ : Unit) : List Stp := [S 7 (.mv (.c (.int .i64 0))), S 8 (.mv (.c (.int .i64 0)))]
@[simp] noncomputable def r5 (_ : Unit) : List Stp := [S 9 (.mv (.c (.int .i64 0)))]
@[simp] noncomputable def r6 (_ : Unit) : List Stp := [S 20 (.mv (.t 9)), S 21 (.fAddr 0 (.t 1)), S 22 (.load false 1 (.t 21)), S 23 (.len (.t 22)), S 24 (.bin .lss (.t 20) (.t 23))]
@[simp] noncomputable def r8 (_ : Unit) : List Stp := [S 10 (.mv (.c (.int .i64 0)))]
@[simp] noncomputable def r9 (_ : Unit) : List Stp := [S 11 (.mv (.c (.int .i64 0)))]
@[simp] noncomputable def r10 (_ : Unit) : List Stp := [S 27 (.mv (.t 11)), S 28 (.mv (.t 5)), S 29 (.len (.t 28)), S 30 (.bin .lss (.t 27) (.t 29))]
@[simp] noncomputable def r12 (_ : Unit) : List Stp := [S 33 (.mv (.t 5)), S 34 (.mv (.t 11)), S 35 (.ixS 1 (.t 33) (.t 34)), S 36 (.load false 1 (.t 35)), S 37 (.mv (.t 9)), S 38 (.ixS 1 (.t 36) (.t 37)), S 39 (.load false 1 (.t 38)), S 40 (.bin .gtr (.t 39) (.c (.int .i64 0)))]
@[simp] noncomputable def r13 (_ : Unit) : List Stp := [S 41 (.mv (.t 10)), S 42 (.bin .add (.t 41) (.c (.int .i64 1))), S 10 (.mv (.t 42))]
@[simp] noncomputable def r11 (_ : Unit) : List Stp := [S 31 (.mv (.t 11)), S 32 (.bin .add (.t 31) (.c (.int .i64 1))), S 11 (.mv (.t 32))]
@[simp] noncomputable def r14 (_ : Unit) : List Stp := [S 43 (.mv (.t 10)), S 44 (.bin .gtr (.t 43) (.c (.int .i64 0)))]
@[simp] noncomputable def r15 (_ : Unit) : List Stp := [S 45 (.mv (.t 7)), S 46 (.mv (.t 9)), SP 47 (.call (.c (.func (.func fn_ref01_power) [] [])) [(.t 46)]), S 48 (.bin .add (.t 45) (.t 47)), S 7 (.mv (.t 48))]
@[simp] noncomputable def r16 (_ : Unit) : List Stp := [S 49 (.mv (.t 10)), S 50 (.mv (.t 5)), S 51 (.len (.t 50)), S 52 (.bin .eql (.t 49) (.t 51))]
@[simp] noncomputable def r17 (_ : Unit) : List Stp := [S 53 (.mv (.t 8)), S 54 (.mv (.t 9)), SP 55 (.call (.c (.func (.func fn_ref01_power) [] [])) [(.t 54)]), S 56 (.bin .add (.t 53) (.t 55)), S 8 (.mv (.t 56))]
@[simp] noncomputable def r7 (_ : Unit) : List Stp := [S 25 (.mv (.t 9)), S 26 (.bin .add (.t 25) (.c (.int .i64 1))), S 9 (.mv (.t 26))]
@[simp] noncomputable def r18 (_ : Unit) : List Stp := [S 57 (.mv (.t 7)), S 58 (.mv (.t 8)), S 2 (.mv (.t 57)), S 3 (.mv (.t 58)), S 4 (.mv (.c (.int .i64 0)))]
@[simp] noncomputable def ir : IR := (.seq (.ops r0) (.seq (.ops r1) (.seq (.seq (.ops r2) (.cond (.t 18) (.seq (.ops r3) .ret) .skip)) (.seq (.ops r4) (.seq (.seq (.ops r5) (.block 0 (.loop (.seq (.seq (.ops r6) (.cond (.t 24) .skip (.exit 0))) (.seq (.block 1 (.seq (.ops r8) (.seq (.seq (.ops r9) (.block 2 (.loop (.seq (.seq (.ops r10) (.cond (.t 30) .skip (.exit 2))) (.seq (.block 3 (.seq (.ops r12) (.cond (.t 40) (.ops r13) .skip))) (.ops r11)))))) (.seq (.seq (.ops r14) (.cond (.t 44) (.ops r15) .skip)) (.seq (.ops r16) (.cond (.t 52) (.ops r17) .skip)))))) (.ops r7)))))) (.seq (.ops r18) .ret))))))
@[simp] noncomputable def rs : List RV := [.tmp 2, .tmp 3, .tmp 4]
theorem comp : compF Pg cfg Tryz.f13 = some (ir, rs, 59) := by kernel_rfl
theorem enter {args : List AVal} {h : Heap} {K : AEnd → Heap → Prop} (F : Nat) (hl : args.length ≤ 59) (a : AW ⟨Pg, F, 59, false, []⟩ ir (RetK rs K) (initT args) [] h) : ACalls Pg fn_ref01_Leaks args h K :=
  ACalls.of_comp follows Tryz.func13 comp hl a
theorem pure {args : List AVal} {v : AVal} (hl : args.length ≤ 59) (a : AW ⟨Pg, 0, 59, false, []⟩ ir (RetK rs fun e _ => e = .ret v) (initT args) [] nilH) : APure Pg fn_ref01_Leaks args v :=
  APure.of_nil (enter 0 hl a)
end ref01_Leaks

namespace leak_Sets
noncomputable def cfg : Cfg := { pure := pures, pcs := [], raw := [], cuts := [], draws := [], keep := [2, 3] }
@[simp] noncomputable def r0 (_ : Unit) : List Stp := [S 1 (.box (.t 0)), S 2 (.mv (.c .nils)), S 3 (.alloc [(.int .i64 0)])]
@[simp] noncomputable def r1 (_ : Unit) : List Stp := [S 4 (.mkF (.func fn_leak_Sets_1) [] [(.t 3)]), SN (.defer (.t 4) [])]
@[simp] noncomputable def r2 (_ : Unit) : List Stp := [S 5 (.load true 2 (.t 1)), S 6 (.call (.c (.func (.func fn_leak_open) [] [])) [(.t 5), (.c (.bool true))]), S 7 (.call (.c (.func (.func fn_leak_hull_sets) [] [])) [(.t 6)]), S 2 (.mv (.t 7)), SN (.store 1 (.t 3) (.c (.int .i64 0)))]
@[simp] noncomputable def ir : IR := (.seq (.ops r0) (.seq (.ops r1) (.seq (.ops r2) .ret)))
@[simp] noncomputable def rs : List RV := [.tmp 2, .cell 3 false 1]
theorem comp : compF Pg cfg Tryz.f14 = some (ir, rs, 8) := by kernel_rfl
theorem enter {args : List AVal} {h : Heap} {K : AEnd → Heap → Prop} (F : Nat) (hl : args.length ≤ 8) (a : AW ⟨Pg, F, 8, false, [2, 3]⟩ ir (RetD Pg rs K) (initT args) [] h) : ACalls Pg fn_leak_Sets args h K :=
  ACalls.of_comp_defer follows Tryz.func14 comp hl a
theorem pure {args : List AVal} {v : AVal} (hl : args.length ≤ 8) (a : AW ⟨Pg, 0, 8, false, [2, 3]⟩ ir (RetD Pg rs fun e _ => e = .ret v) (initT args) [] nilH) : APure Pg fn_leak_Sets args v :=
  APure.of_nil (enter 0 hl a)
end leak_Sets

namespace ref01_Sets
noncomputable def cfg : Cfg := { pure := pures, pcs := [], raw := [], cuts := [], draws := [], keep := [] }
@[simp] noncomputable def r0 (_ : Unit) : List Stp := [S 1 (.box (.t 0)), S 2 (.mv (.c .nils)), S 3 (.mv (.c (.int .i64 0)))]
@[simp] noncomputable def r1 (_ : Unit) : List Stp := [S 11 (.load true 2 (.t 1)), SP 12 (.call (.c (.func (.func fn_ref01_told) [] [])) [(.t 11), (.c (.bool true))]), S 10 (.mv (.t 12)), S 13 (.ext (.t 10) 0), S 14 (.ext (.t 10) 1), S 4 (.mv (.t 13)), S 5 (.mv (.t 14))]
@[simp] noncomputable def r2 (_ : Unit) : List Stp := [S 15 (.mv (.t 5)), S 16 (.bin .neq (.t 15) (.c (.int .i64 0)))]
@[simp] noncomputable def r3 (_ : Unit) : List Stp := [S 17 (.mv (.t 5)), S 2 (.mv (.c .nils)), S 3 (.mv (.t 17))]
@[simp] noncomputable def r4 (_ : Unit) : List Stp := [S 6 (.mv (.c .nils))]
@[simp] noncomputable def r5 (_ : Unit) : List Stp := [S 7 (.mv (.c (.int .i64 0)))]
@[simp] noncomputable def r6 (_ : Unit) : List Stp := [S 18 (.mv (.t 7)), S 19 (.fAddr 0 (.t 1)), S 20 (.load false 1 (.t 19)), S 21 (.len (.t 20)), SP 22 (.call (.c (.func (.func fn_ref01_power) [] [])) [(.t 21)]), S 23 (.bin .lss (.t 18) (.t 22))]
@[simp] noncomputable def r8 (_ : Unit) : List Stp := [S 8 (.mv (.c (.bool false)))]
@[simp] noncomputable def r9 (_ : Unit) : List Stp := [S 9 (.mv (.c (.int .i64 0)))]
@[simp] noncomputable def r10 (_ : Unit) : List Stp := [S 26 (.mv (.t 9)), S 27 (.mv (.t 4)), S 28 (.len (.t 27)), S 29 (.bin .lss (.t 26) (.t 28))]
@[simp] noncomputable def r12 (_ : Unit) : List Stp := [S 32 (.mv (.t 8)), S 33 (.mv (.t 32)), SG 34 33 false (.mv (.t 4)), SG 35 33 false (.mv (.t 9)), SG 36 33 false (.ixS 1 (.t 34) (.t 35)), SG 37 33 false (.load false 1 (.t 36)), SGP 38 33 false (.call (.c (.func (.func fn_ref01_LeaksOf) [] [])) [(.t 37)]), SG 39 33 false (.mv (.t 7)), SG 40 33 false (.bin .eql (.t 38) (.t 39)), S 41 (.pick (.t 33) (.c (.bool true)) (.t 40)), S 8 (.mv (.t 41))]
@[simp] noncomputable def r11 (_ : Unit) : List Stp := [S 30 (.mv (.t 9)), S 31 (.bin .add (.t 30) (.c (.int .i64 1))), S 9 (.mv (.t 31))]
@[simp] noncomputable def r13 (_ : Unit) : List Stp := [S 42 (.mv (.t 8))]
@[simp] noncomputable def r14 (_ : Unit) : List Stp := [S 43 (.mv (.t 6)), S 44 (.mv (.t 7)), S 45 (.bsl 1 [(.int .i64 0)] [(0, 1, (.t 44))]), S 46 (.app 1 8 (.t 43) (.t 45)), S 6 (.mv (.t 46))]
@[simp] noncomputable def r7 (_ : Unit) : List Stp := [S 24 (.mv (.t 7)), S 25 (.bin .add (.t 24) (.c (.int .i64 1))), S 7 (.mv (.t 25))]
@[simp] noncomputable def r15 (_ : Unit) : List Stp := [S 47 (.mv (.t 6)), S 2 (.mv (.t 47)), S 3 (.mv (.c (.int .i64 0)))]
@[simp] noncomputable def ir : IR := (.seq (.ops r0) (.seq (.ops r1) (.seq (.seq (.ops r2) (.cond (.t 16) (.seq (.ops r3) .ret) .skip)) (.seq (.ops r4) (.seq (.seq (.ops r5) (.block 0 (.loop (.seq (.seq (.ops r6) (.cond (.t 23) .skip (.exit 0))) (.seq (.block 1 (.seq (.ops r8) (.seq (.seq (.ops r9) (.block 2 (.loop (.seq (.seq (.ops r10) (.cond (.t 29) .skip (.exit 2))) (.seq (.block 3 (.ops r12)) (.ops r11)))))) (.seq (.ops r13) (.cond (.t 42) (.ops r14) .skip))))) (.ops r7)))))) (.seq (.ops r15) .ret))))))
@[simp] noncomputable def rs : List RV := [.tmp 2, .tmp 3]
theorem comp : compF Pg cfg Tryz.f15 = some (ir, rs, 48) := by kernel_rfl
theorem enter {args : List AVal} {h : Heap} {K : AEnd → Heap → Prop} (F : Nat) (hl : args.length ≤ 48) (a : AW ⟨Pg, F, 48, false, []⟩ ir (RetK rs K) (initT args) [] h) : ACalls Pg fn_ref01_Sets args h K :=
  ACalls.of_comp follows Tryz.func15 comp hl a
theorem pure {args : List AVal} {v : AVal} (hl : args.length ≤ 48) (a : AW ⟨Pg, 0, 48, false, []⟩ ir (RetK rs fun e _ => e = .ret v) (initT args) [] nilH) : APure Pg fn_ref01_Sets args v :=
  APure.of_nil (enter 0 hl a)
end ref01_Sets

namespace ref01_Ints
noncomputable def cfg : Cfg := { pure := pures, pcs := [], raw := [], cuts := [], draws := [(6, [⟨0, false, [], []⟩, ⟨1, false, [], []⟩, ⟨2, false, [], []⟩, ⟨4, false, [], []⟩, ⟨5, false, [], []⟩, ⟨6, false, [], []⟩, ⟨3, false, [], []⟩, ⟨7, false, [], []⟩, ⟨8, false, [], []⟩])], keep := [] }
@[simp] noncomputable def r0 (_ : Unit) : List Stp := [S 4 (.mv (.c (.bool false)))]
@[simp] noncomputable def r1 (_ : Unit) : List Stp := [S 6 (.mv (.t 0)), S 7 (.len (.t 6)), S 8 (.mv (.t 1)), S 9 (.len (.t 8)), S 10 (.bin .neq (.t 7) (.t 9))]
@[simp] noncomputable def r2 (_ : Unit) : List Stp := [S 4 (.mv (.c (.bool false)))]
@[simp] noncomputable def r3 (_ : Unit) : List Stp := [S 5 (.mv (.c (.int .i64 0)))]
@[simp] noncomputable def r4 (_ : Unit) : List Stp := [S 11 (.mv (.t 5)), S 12 (.mv (.t 0)), S 13 (.len (.t 12)), S 14 (.bin .lss (.t 11) (.t 13))]
@[simp] noncomputable def r6 (_ : Unit) : List Stp := [S 17 (.mv (.t 0)), S 18 (.mv (.t 5)), S 19 (.ixS 1 (.t 17) (.t 18)), S 21 (.mv (.t 1)), S 22 (.mv (.t 5)), S 23 (.ixS 1 (.t 21) (.t 22)), S 20 (.load false 1 (.t 19)), S 24 (.load false 1 (.t 23)), S 25 (.bin .neq (.t 20) (.t 24))]
@[simp] noncomputable def r7 (_ : Unit) : List Stp := [S 4 (.mv (.c (.bool false)))]
@[simp] noncomputable def r5 (_ : Unit) : List Stp := [S 15 (.mv (.t 5)), S 16 (.bin .add (.t 15) (.c (.int .i64 1))), S 5 (.mv (.t 16))]
@[simp] noncomputable def r8 (_ : Unit) : List Stp := [S 4 (.mv (.c (.bool true)))]
@[simp] noncomputable def ir : IR := (.seq (.ops r0) (.seq (.seq (.ops r1) (.cond (.t 10) (.seq (.ops r2) .ret) .skip)) (.seq (.seq (.ops r3) (.block 0 (.loop (.seq (.seq (.ops r4) (.cond (.t 14) .skip (.exit 0))) (.seq (.block 1 (.seq (.ops r6) (.cond (.t 25) (.seq (.ops r7) .ret) .skip))) (.ops r5)))))) (.seq (.ops r8) .ret))))
@[simp] noncomputable def rs : List RV := [.tmp 4]
theorem comp : compF Pg cfg Tryz.f16 = some (ir, rs, 26) := by kernel_rfl
theorem enter {args : List AVal} {h : Heap} {K : AEnd → Heap → Prop} (F : Nat) (hl : args.length ≤ 26) (a : AW ⟨Pg, F, 26, false, []⟩ ir (RetK rs K) (initT args) [] h) : ACalls Pg fn_ref01_Ints args h K :=
  ACalls.of_comp follows Tryz.func16 comp hl a
theorem pure {args : List AVal} {v : AVal} (hl : args.length ≤ 26) (a : AW ⟨Pg, 0, 26, false, []⟩ ir (RetK rs fun e _ => e = .ret v) (initT args) [] nilH) : APure Pg fn_ref01_Ints args v :=
  APure.of_nil (enter 0 hl a)
end ref01_Ints

namespace leak_Fewest
noncomputable def cfg : Cfg := { pure := pures, pcs := [], raw := [], cuts := [], draws := [], keep := [2, 3, 4] }
@[simp] noncomputable def r0 (_ : Unit) : List Stp := [S 1 (.box (.t 0)), S 2 (.mv (.c (.int .i64 0))), S 3 (.mv (.c (.int .i64 0))), S 4 (.alloc [(.int .i64 0)])]
@[simp] noncomputable def r1 (_ : Unit) : List Stp := [S 7 (.mkF (.func fn_leak_Fewest_1) [] [(.t 4)]), SN (.defer (.t 7) [])]
@[simp] noncomputable def r2 (_ : Unit) : List Stp := [S 9 (.load true 2 (.t 1)), S 10 (.call (.c (.func (.func fn_leak_open) [] [])) [(.t 9), (.c (.bool true))]), S 11 (.call (.c (.func (.func fn_leak_hull_sets) [] [])) [(.t 10)]), S 12 (.build [.nilf] [(0, 1, (.c (.func (.func fn_leak_Fewest_2) [] [])))]), S 13 (.call (.c (.func (.func fn_leak_best_int) [] [])) [(.t 11), (.t 12)]), S 8 (.mv (.t 13)), S 14 (.ext (.t 8) 0), S 15 (.ext (.t 8) 1), S 5 (.mv (.t 14)), S 6 (.mv (.t 15))]
@[simp] noncomputable def r3 (_ : Unit) : List Stp := [S 16 (.mv (.t 6)), S 17 (.mv (.t 5)), S 2 (.mv (.t 16)), S 3 (.mv (.t 17)), SN (.store 1 (.t 4) (.c (.int .i64 0)))]
@[simp] noncomputable def ir : IR := (.seq (.ops r0) (.seq (.ops r1) (.seq (.ops r2) (.seq (.ops r3) .ret))))
@[simp] noncomputable def rs : List RV := [.tmp 2, .tmp 3, .cell 4 false 1]
theorem comp : compF Pg cfg Tryz.f17 = some (ir, rs, 18) := by kernel_rfl
theorem enter {args : List AVal} {h : Heap} {K : AEnd → Heap → Prop} (F : Nat) (hl : args.length ≤ 18) (a : AW ⟨Pg, F, 18, false, [2, 3, 4]⟩ ir (RetD Pg rs K) (initT args) [] h) : ACalls Pg fn_leak_Fewest args h K :=
  ACalls.of_comp_defer follows Tryz.func17 comp hl a
theorem pure {args : List AVal} {v : AVal} (hl : args.length ≤ 18) (a : AW ⟨Pg, 0, 18, false, [2, 3, 4]⟩ ir (RetD Pg rs fun e _ => e = .ret v) (initT args) [] nilH) : APure Pg fn_leak_Fewest args v :=
  APure.of_nil (enter 0 hl a)
end leak_Fewest

namespace ref01_Fewest
noncomputable def cfg : Cfg := { pure := pures, pcs := [], raw := [], cuts := [], draws := [], keep := [] }
@[simp] noncomputable def r0 (_ : Unit) : List Stp := [S 1 (.box (.t 0)), S 2 (.mv (.c (.int .i64 0))), S 3 (.mv (.c (.int .i64 0))), S 4 (.mv (.c (.int .i64 0)))]
@[simp] noncomputable def r1 (_ : Unit) : List Stp := [S 10 (.load true 2 (.t 1)), SP 11 (.call (.c (.func (.func fn_ref01_Sets) [] [])) [(.t 10)]), S 9 (.mv (.t 11)), S 12 (.ext (.t 9) 0), S 13 (.ext (.t 9) 1), S 5 (.mv (.t 12)), S 6 (.mv (.t 13))]
@[simp] noncomputable def r2 (_ : Unit) : List Stp := [S 14 (.mv (.t 6)), S 15 (.bin .neq (.t 14) (.c (.int .i64 0)))]
@[simp] noncomputable def r3 (_ : Unit) : List Stp := [S 16 (.mv (.t 6)), S 2 (.mv (.c (.int .i64 0))), S 3 (.mv (.c (.int .i64 0))), S 4 (.mv (.t 16))]
@[simp] noncomputable def r4 (_ : Unit) : List Stp := [S 17 (.mv (.t 5)), S 18 (.ixS 1 (.t 17) (.c (.int .i64 0))), S 19 (.load false 1 (.t 18)), S 7 (.mv (.t 19))]
@[simp] noncomputable def r5 (_ : Unit) : List Stp := [S 8 (.mv (.c (.int .i64 0)))]
@[simp] noncomputable def r6 (_ : Unit) : List Stp := [S 20 (.mv (.t 8)), S 21 (.mv (.t 5)), S 22 (.len (.t 21)), S 23 (.bin .lss (.t 20) (.t 22))]
@[simp] noncomputable def r8 (_ : Unit) : List Stp := [S 26 (.mv (.t 5)), S 27 (.mv (.t 8)), S 28 (.ixS 1 (.t 26) (.t 27)), S 29 (.load false 1 (.t 28)), SP 30 (.call (.c (.func (.func fn_ref01_Size) [] [])) [(.t 29)]), S 31 (.mv (.t 7)), SP 32 (.call (.c (.func (.func fn_ref01_Size) [] [])) [(.t 31)]), S 33 (.bin .lss (.t 30) (.t 32))]
@[simp] noncomputable def r9 (_ : Unit) : List Stp := [S 34 (.mv (.t 5)), S 35 (.mv (.t 8)), S 36 (.ixS 1 (.t 34) (.t 35)), S 37 (.load false 1 (.t 36)), S 7 (.mv (.t 37))]
@[simp] noncomputable def r7 (_ : Unit) : List Stp := [S 24 (.mv (.t 8)), S 25 (.bin .add (.t 24) (.c (.int .i64 1))), S 8 (.mv (.t 25))]
@[simp] noncomputable def r10 (_ : Unit) : List Stp := [S 38 (.mv (.t 7)), SP 39 (.call (.c (.func (.func fn_ref01_Size) [] [])) [(.t 38)]), S 40 (.mv (.t 7)), S 2 (.mv (.t 39)), S 3 (.mv (.t 40)), S 4 (.mv (.c (.int .i64 0)))]
@[simp] noncomputable def ir : IR := (.seq (.ops r0) (.seq (.ops r1) (.seq (.seq (.ops r2) (.cond (.t 15) (.seq (.ops r3) .ret) .skip)) (.seq (.ops r4) (.seq (.seq (.ops r5) (.block 0 (.loop (.seq (.seq (.ops r6) (.cond (.t 23) .skip (.exit 0))) (.seq (.block 1 (.seq (.ops r8) (.cond (.t 33) (.ops r9) .skip))) (.ops r7)))))) (.seq (.ops r10) .ret))))))
@[simp] noncomputable def rs : List RV := [.tmp 2, .tmp 3, .tmp 4]
theorem comp : compF Pg cfg Tryz.f18 = some (ir, rs, 41) := by kernel_rfl
theorem enter {args : List AVal} {h : Heap} {K : AEnd → Heap → Prop} (F : Nat) (hl : args.length ≤ 41) (a : AW ⟨Pg, F, 41, false, []⟩ ir (RetK rs K) (initT args) [] h) : ACalls Pg fn_ref01_Fewest args h K :=
  ACalls.of_comp follows Tryz.func18 comp hl a
theorem pure {args : List AVal} {v : AVal} (hl : args.length ≤ 41) (a : AW ⟨Pg, 0, 41, false, []⟩ ir (RetK rs fun e _ => e = .ret v) (initT args) [] nilH) : APure Pg fn_ref01_Fewest args v :=
  APure.of_nil (enter 0 hl a)
end ref01_Fewest

namespace leak_Flow
noncomputable def cfg : Cfg := { pure := pures, pcs := [], raw := [], cuts := [], draws := [(3, [⟨0, false, [], []⟩, ⟨1, false, [], []⟩, ⟨2, false, [], []⟩, ⟨3, false, [], []⟩, ⟨4, false, [], []⟩])], keep := [6, 7] }
@[simp] noncomputable def r0 (_ : Unit) : List Stp := [S 3 (.box (.t 0)), S 6 (.alloc [(.int .i64 0), (.int .i64 0)]), S 7 (.alloc [(.int .i64 0)])]
@[simp] noncomputable def r1 (_ : Unit) : List Stp := [S 10 (.mkF (.func fn_leak_Flow_1) [] [(.t 7)]), SN (.defer (.t 10) [])]
@[simp] noncomputable def r2 (_ : Unit) : List Stp := [S 11 (.mv (.t 1)), S 12 (.mv (.t 2)), S 13 (.build [(.int .i64 0), (.int .i64 0)] [(0, 1, (.t 11)), (1, 1, (.t 12))]), S 8 (.alloc [(.int .i64 0), (.int .i64 0)]), SN (.store 2 (.t 8) (.t 13))]
@[simp] noncomputable def r3 (_ : Unit) : List Stp := [S 14 (.load true 2 (.t 3)), S 15 (.load true 2 (.t 8)), SP 16 (.call (.c (.func (.func fn_leak_place_isPlace) [] [])) [(.t 15)]), S 17 (.call (.c (.func (.func fn_leak_open) [] [])) [(.t 14), (.t 16)]), S 9 (.mv (.t 17))]
@[simp] noncomputable def r4 (_ : Unit) : List Stp := [S 18 (.mv (.t 9)), S 19 (.mv (.t 9)), S 20 (.load true 2 (.t 8)), S 21 (.call (.c (.func (.func fn_leak_hull_wet) [] [])) [(.t 19), (.t 20)]), S 22 (.call (.c (.func (.func fn_leak_hull_total) [] [])) [(.t 18), (.t 21)]), SN (.store 2 (.t 6) (.t 22)), SN (.store 1 (.t 7) (.c (.int .i64 0)))]
@[simp] noncomputable def ir : IR := (.seq (.ops r0) (.seq (.ops r1) (.seq (.ops r2) (.seq (.ops r3) (.seq (.ops r4) .ret)))))
@[simp] noncomputable def rs : List RV := [.cell 6 true 2, .cell 7 false 1]
theorem comp : compF Pg cfg Tryz.f19 = some (ir, rs, 23) := by kernel_rfl
theorem enter {args : List AVal} {h : Heap} {K : AEnd → Heap → Prop} (F : Nat) (hl : args.length ≤ 23) (a : AW ⟨Pg, F, 23, false, [6, 7]⟩ ir (RetD Pg rs K) (initT args) [] h) : ACalls Pg fn_leak_Flow args h K :=
  ACalls.of_comp_defer follows Tryz.func19 comp hl a
theorem pure {args : List AVal} {v : AVal} (hl : args.length ≤ 23) (a : AW ⟨Pg, 0, 23, false, [6, 7]⟩ ir (RetD Pg rs fun e _ => e = .ret v) (initT args) [] nilH) : APure Pg fn_leak_Flow args v :=
  APure.of_nil (enter 0 hl a)
end leak_Flow

namespace ref01_Flow
noncomputable def cfg : Cfg := { pure := pures, pcs := [], raw := [], cuts := [], draws := [(1, [⟨1, false, [], []⟩, ⟨2, false, [], []⟩, ⟨3, false, [], []⟩, ⟨0, false, [], []⟩, ⟨4, false, [], []⟩, ⟨5, false, [], []⟩, ⟨6, false, [], []⟩, ⟨7, false, [], []⟩, ⟨8, false, [], []⟩, ⟨9, false, [], []⟩])], keep := [] }
@[simp] noncomputable def r0 (_ : Unit) : List Stp := [S 3 (.box (.t 0)), S 6 (.alloc [(.int .i64 0), (.int .i64 0)]), S 7 (.mv (.c (.int .i64 0)))]
@[simp] noncomputable def r1 (_ : Unit) : List Stp := [S 12 (.mv (.t 1)), S 13 (.mv (.t 2)), SP 14 (.call (.c (.func (.func fn_ref01_At) [] [])) [(.t 12), (.t 13)]), S 11 (.load true 2 (.t 3)), SP 15 (.call (.c (.func (.func fn_ref01_told) [] [])) [(.t 11), (.t 14)]), S 10 (.mv (.t 15)), S 16 (.ext (.t 10) 0), S 17 (.ext (.t 10) 1), S 8 (.mv (.t 16)), S 9 (.mv (.t 17))]
@[simp] noncomputable def r2 (_ : Unit) : List Stp := [S 18 (.mv (.t 9)), S 19 (.bin .neq (.t 18) (.c (.int .i64 0)))]
@[simp] noncomputable def r3 (_ : Unit) : List Stp := [S 20 (.build [(.int .i64 0), (.int .i64 0)] []), S 21 (.mv (.t 9)), SN (.store 2 (.t 6) (.t 20)), S 7 (.mv (.t 21))]
@[simp] noncomputable def r4 (_ : Unit) : List Stp := [S 22 (.mv (.t 8)), S 23 (.load true 2 (.t 3)), S 24 (.mv (.t 1)), S 25 (.mv (.t 2)), SP 26 (.call (.c (.func (.func fn_ref01_wet) [] [])) [(.t 23), (.t 24), (.t 25)]), SP 27 (.call (.c (.func (.func fn_ref01_sums) [] [])) [(.t 22), (.t 26)]), SN (.store 2 (.t 6) (.t 27)), S 7 (.mv (.c (.int .i64 0)))]
@[simp] noncomputable def ir : IR := (.seq (.ops r0) (.seq (.ops r1) (.seq (.seq (.ops r2) (.cond (.t 19) (.seq (.ops r3) .ret) .skip)) (.seq (.ops r4) .ret))))
@[simp] noncomputable def rs : List RV := [.cell 6 true 2, .tmp 7]
theorem comp : compF Pg cfg Tryz.f20 = some (ir, rs, 28) := by kernel_rfl
theorem enter {args : List AVal} {h : Heap} {K : AEnd → Heap → Prop} (F : Nat) (hl : args.length ≤ 28) (a : AW ⟨Pg, F, 28, false, []⟩ ir (RetK rs K) (initT args) [] h) : ACalls Pg fn_ref01_Flow args h K :=
  ACalls.of_comp follows Tryz.func20 comp hl a
theorem pure {args : List AVal} {v : AVal} (hl : args.length ≤ 28) (a : AW ⟨Pg, 0, 28, false, []⟩ ir (RetK rs fun e _ => e = .ret v) (initT args) [] nilH) : APure Pg fn_ref01_Flow args v :=
  APure.of_nil (enter 0 hl a)
end ref01_Flow

namespace leak_Next
noncomputable def cfg : Cfg := { pure := pures, pcs := [], raw := [], cuts := [], draws := [(15, [⟨0, false, [], []⟩, ⟨2, false, [], []⟩, ⟨4, false, [], []⟩, ⟨1, false, [], []⟩, ⟨5, false, [], []⟩, ⟨3, false, [], []⟩, ⟨6, false, [], []⟩, ⟨7, false, [], []⟩, ⟨8, false, [], []⟩])], keep := [2, 3, 4, 5] }
@[simp] noncomputable def r0 (_ : Unit) : List Stp := [S 1 (.box (.t 0)), S 2 (.mv (.c (.int .i64 0))), S 3 (.mv (.c (.int .i64 0))), S 4 (.mv (.c (.int .i64 0))), S 5 (.alloc [(.int .i64 0)])]
@[simp] noncomputable def r1 (_ : Unit) : List Stp := [S 14 (.mkF (.func fn_leak_Next_1) [] [(.t 5)]), SN (.defer (.t 14) [])]
@[simp] noncomputable def r2 (_ : Unit) : List Stp := [S 15 (.load true 2 (.t 1)), S 16 (.call (.c (.func (.func fn_leak_open) [] [])) [(.t 15), (.c (.bool true))]), S 6 (.alloc [.nilp]), SN (.store 1 (.t 6) (.t 16))]
@[simp] noncomputable def r3 (_ : Unit) : List Stp := [S 17 (.load false 1 (.t 6)), S 18 (.call (.c (.func (.func fn_leak_hull_truths) [] [])) [(.t 17)]), S 7 (.alloc [.nils]), SN (.store 1 (.t 7) (.t 18))]
@[simp] noncomputable def r4 (_ : Unit) : List Stp := [S 8 (.mv (.c .nils))]
@[simp] noncomputable def r5 (_ : Unit) : List Stp := [S 19 (.mv (.c (.int .i64 0)))]
@[simp] noncomputable def r6 (_ : Unit) : List Stp := [S 20 (.bin .lss (.t 19) (.c (.int .i64 13)))]
@[simp] noncomputable def r7 (_ : Unit) : List Stp := [S 21 (.mv (.t 19)), S 9 (.mv (.t 21))]
@[simp] noncomputable def r8 (_ : Unit) : List Stp := [S 10 (.mv (.c (.int .i64 (-3))))]
@[simp] noncomputable def r9 (_ : Unit) : List Stp := [S 22 (.mv (.t 10)), S 23 (.bin .leq (.t 22) (.c (.int .i64 3)))]
@[simp] noncomputable def r11 (_ : Unit) : List Stp := [S 26 (.mv (.t 8)), S 27 (.mv (.t 9)), S 28 (.mv (.t 10)), S 29 (.build [(.int .i64 0), (.int .i64 0)] [(0, 1, (.t 27)), (1, 1, (.t 28))]), S 30 (.bsl 1 [(.int .i64 0), (.int .i64 0)] [(0, 2, (.t 29))]), S 31 (.app 2 16 (.t 26) (.t 30)), S 8 (.mv (.t 31))]
@[simp] noncomputable def r10 (_ : Unit) : List Stp := [S 24 (.mv (.t 10)), S 25 (.bin .add (.t 24) (.c (.int .i64 1))), S 10 (.mv (.t 25))]
@[simp] noncomputable def r12 (_ : Unit) : List Stp := [S 32 (.bin .add (.t 19) (.c (.int .i64 1))), S 19 (.mv (.t 32))]
@[simp] noncomputable def r13 (_ : Unit) : List Stp := [S 33 (.mkmap), S 11 (.alloc [.nilm]), SN (.store 1 (.t 11) (.t 33))]
@[simp] noncomputable def r14 (_ : Unit) : List Stp := [S 35 (.mv (.t 8)), S 36 (.mkF (.func fn_leak_Next_2) [] [(.t 6), (.t 11), (.t 7)]), S 37 (.build [.nilf] [(0, 1, (.t 36))]), S 38 (.call (.c (.func (.func fn_leak_best_leak_place) [] [])) [(.t 35), (.t 37)]), S 34 (.mv (.t 38)), S 39 (.ext (.t 34) 0), S 40 (.ext (.t 34) 1), S 12 (.alloc [(.int .i64 0), (.int .i64 0)]), SN (.store 2 (.t 12) (.t 39)), S 13 (.mv (.t 40))]
@[simp] noncomputable def r15 (_ : Unit) : List Stp := [S 41 (.fAddr 0 (.t 12)), S 43 (.fAddr 1 (.t 12)), S 45 (.mv (.t 13)), S 42 (.load false 1 (.t 41)), S 2 (.mv (.t 42)), S 44 (.load false 1 (.t 43)), S 3 (.mv (.t 44)), S 4 (.mv (.t 45)), SN (.store 1 (.t 5) (.c (.int .i64 0)))]
@[simp] noncomputable def ir : IR := (.seq (.ops r0) (.seq (.ops r1) (.seq (.ops r2) (.seq (.ops r3) (.seq (.ops r4) (.seq (.seq (.ops r5) (.block 0 (.loop (.seq (.ops r6) (.seq (.cond (.t 20) .skip (.exit 0)) (.seq (.block 1 (.seq (.ops r7) (.seq (.ops r8) (.block 2 (.loop (.seq (.seq (.ops r9) (.cond (.t 23) .skip (.exit 2))) (.seq (.block 3 (.ops r11)) (.ops r10)))))))) (.ops r12))))))) (.seq (.ops r13) (.seq (.ops r14) (.seq (.nk (.ops r15)) .ret)))))))))
@[simp] noncomputable def rs : List RV := [.tmp 2, .tmp 3, .tmp 4, .cell 5 false 1]
theorem comp : compF Pg cfg Tryz.f21 = some (ir, rs, 46) := by kernel_rfl
theorem enter {args : List AVal} {h : Heap} {K : AEnd → Heap → Prop} (F : Nat) (hl : args.length ≤ 46) (a : AW ⟨Pg, F, 46, false, [2, 3, 4, 5]⟩ ir (RetD Pg rs K) (initT args) [] h) : ACalls Pg fn_leak_Next args h K :=
  ACalls.of_comp_defer follows Tryz.func21 comp hl a
theorem pure {args : List AVal} {v : AVal} (hl : args.length ≤ 46) (a : AW ⟨Pg, 0, 46, false, [2, 3, 4, 5]⟩ ir (RetD Pg rs fun e _ => e = .ret v) (initT args) [] nilH) : APure Pg fn_leak_Next args v :=
  APure.of_nil (enter 0 hl a)
end leak_Next

namespace ref01_Next
noncomputable def cfg : Cfg := { pure := pures, pcs := [], raw := [], cuts := [], draws := [(16, [⟨0, false, [], []⟩, ⟨1, false, [], []⟩, ⟨2, false, [], []⟩, ⟨3, false, [], []⟩, ⟨4, false, [], []⟩, ⟨6, false, [], []⟩, ⟨7, false, [], []⟩, ⟨5, false, [], []⟩, ⟨8, false, [], []⟩])], keep := [] }
@[simp] noncomputable def r0 (_ : Unit) : List Stp := [S 1 (.box (.t 0)), S 2 (.mv (.c (.int .i64 0))), S 3 (.mv (.c (.int .i64 0))), S 4 (.mv (.c (.int .i64 0))), S 5 (.mv (.c (.int .i64 0)))]
@[simp] noncomputable def r1 (_ : Unit) : List Stp := [S 16 (.load true 2 (.t 1)), SP 17 (.call (.c (.func (.func fn_ref01_told) [] [])) [(.t 16), (.c (.bool true))]), S 15 (.mv (.t 17)), S 18 (.ext (.t 15) 0), S 19 (.ext (.t 15) 1), S 6 (.mv (.t 18)), S 7 (.mv (.t 19))]
@[simp] noncomputable def r2 (_ : Unit) : List Stp := [S 20 (.mv (.t 7)), S 21 (.bin .neq (.t 20) (.c (.int .i64 0)))]
@[simp] noncomputable def r3 (_ : Unit) : List Stp := [S 22 (.mv (.t 7)), S 2 (.mv (.c (.int .i64 0))), S 3 (.mv (.c (.int .i64 0))), S 4 (.mv (.c (.int .i64 0))), S 5 (.mv (.t 22))]
@[simp] noncomputable def r4 (_ : Unit) : List Stp := [S 23 (.mv (.t 6)), S 24 (.len (.t 23)), S 25 (.bin .add (.t 24) (.c (.int .i64 1))), S 8 (.mv (.c (.int .i64 0))), S 9 (.mv (.c (.int .i64 0))), S 10 (.mv (.t 25))]
@[simp] noncomputable def r5 (_ : Unit) : List Stp := [S 26 (.fAddr 0 (.t 1)), S 27 (.load false 1 (.t 26)), S 28 (.len (.t 27)), SP 29 (.call (.c (.func (.func fn_ref01_power) [] [])) [(.t 28)]), S 30 (.mksl 8 [(.int .i64 0)] (.t 29) (.t 29)), S 11 (.mv (.t 30))]
@[simp] noncomputable def r6 (_ : Unit) : List Stp := [S 12 (.mv (.c (.int .i64 0)))]
@[simp] noncomputable def r7 (_ : Unit) : List Stp := [S 31 (.mv (.t 12)), S 32 (.bin .leq (.t 31) (.c (.int .i64 12)))]
@[simp] noncomputable def r9 (_ : Unit) : List Stp := [S 13 (.mv (.c (.int .i64 (-3))))]
@[simp] noncomputable def r10 (_ : Unit) : List Stp := [S 35 (.mv (.t 13)), S 36 (.bin .leq (.t 35) (.c (.int .i64 3)))]
@[simp] noncomputable def r12 (_ : Unit) : List Stp := [S 39 (.load true 2 (.t 1)), S 40 (.mv (.t 12)), S 41 (.mv (.t 13)), SP 42 (.call (.c (.func (.func fn_ref01_wet) [] [])) [(.t 39), (.t 40), (.t 41)]), S 14 (.mv (.t 42))]
@[simp] noncomputable def r13 (_ : Unit) : List Stp := [S 43 (.mv (.t 11)), S 44 (.mv (.t 14)), S 45 (.ixS 1 (.t 43) (.t 44)), S 46 (.load false 1 (.t 45)), S 47 (.bin .eql (.t 46) (.c (.int .i64 0)))]
@[simp] noncomputable def r14 (_ : Unit) : List Stp := [S 48 (.mv (.t 11)), S 49 (.mv (.t 14)), S 50 (.mv (.t 6)), S 51 (.mv (.t 14)), SP 52 (.call (.c (.func (.func fn_ref01_left) [] [])) [(.t 50), (.t 51)]), S 53 (.ixS 1 (.t 48) (.t 49)), SN (.store 1 (.t 53) (.t 52))]
@[simp] noncomputable def r15 (_ : Unit) : List Stp := [S 54 (.mv (.t 11)), S 55 (.mv (.t 14)), S 56 (.ixS 1 (.t 54) (.t 55)), S 57 (.load false 1 (.t 56)), S 58 (.mv (.t 10)), S 59 (.bin .lss (.t 57) (.t 58))]
@[simp] noncomputable def r16 (_ : Unit) : List Stp := [S 60 (.mv (.t 12)), S 61 (.mv (.t 13)), S 62 (.mv (.t 11)), S 63 (.mv (.t 14)), S 64 (.ixS 1 (.t 62) (.t 63)), S 8 (.mv (.t 60)), S 9 (.mv (.t 61)), S 65 (.load false 1 (.t 64)), S 10 (.mv (.t 65))]
@[simp] noncomputable def r11 (_ : Unit) : List Stp := [S 37 (.mv (.t 13)), S 38 (.bin .add (.t 37) (.c (.int .i64 1))), S 13 (.mv (.t 38))]
@[simp] noncomputable def r8 (_ : Unit) : List Stp := [S 33 (.mv (.t 12)), S 34 (.bin .add (.t 33) (.c (.int .i64 1))), S 12 (.mv (.t 34))]
@[simp] noncomputable def r17 (_ : Unit) : List Stp := [S 66 (.mv (.t 8)), S 67 (.mv (.t 9)), S 68 (.mv (.t 10)), S 2 (.mv (.t 66)), S 3 (.mv (.t 67)), S 4 (.mv (.t 68)), S 5 (.mv (.c (.int .i64 0)))]
@[simp] noncomputable def ir : IR := (.seq (.ops r0) (.seq (.ops r1) (.seq (.seq (.ops r2) (.cond (.t 21) (.seq (.ops r3) .ret) .skip)) (.seq (.ops r4) (.seq (.ops r5) (.seq (.seq (.ops r6) (.block 0 (.loop (.seq (.seq (.ops r7) (.cond (.t 32) .skip (.exit 0))) (.seq (.block 1 (.seq (.ops r9) (.block 2 (.loop (.seq (.seq (.ops r10) (.cond (.t 36) .skip (.exit 2))) (.seq (.block 3 (.seq (.ops r12) (.seq (.seq (.ops r13) (.cond (.t 47) (.ops r14) .skip)) (.seq (.ops r15) (.cond (.t 59) (.ops r16) .skip))))) (.ops r11))))))) (.ops r8)))))) (.seq (.ops r17) .ret)))))))
@[simp] noncomputable def rs : List RV := [.tmp 2, .tmp 3, .tmp 4, .tmp 5]
theorem comp : compF Pg cfg Tryz.f22 = some (ir, rs, 69) := by kernel_rfl
theorem enter {args : List AVal} {h : Heap} {K : AEnd → Heap → Prop} (F : Nat) (hl : args.length ≤ 69) (a : AW ⟨Pg, F, 69, false, []⟩ ir (RetK rs K) (initT args) [] h) : ACalls Pg fn_ref01_Next args h K :=
  ACalls.of_comp follows Tryz.func22 comp hl a
theorem pure {args : List AVal} {v : AVal} (hl : args.length ≤ 69) (a : AW ⟨Pg, 0, 69, false, []⟩ ir (RetK rs fun e _ => e = .ret v) (initT args) [] nilH) : APure Pg fn_ref01_Next args v :=
  APure.of_nil (enter 0 hl a)
end ref01_Next

namespace law01_long
noncomputable def cfg : Cfg := { pure := pures, pcs := [], raw := [], cuts := [], draws := [], keep := [] }
@[simp] noncomputable def r0 (_ : Unit) : List Stp := [S 1 (.box (.t 0)), S 2 (.mv (.c (.bool false)))]
@[simp] noncomputable def r1 (_ : Unit) : List Stp := [S 3 (.fAddr 0 (.t 1)), S 4 (.load false 1 (.t 3)), S 5 (.len (.t 4)), S 6 (.fAddr 1 (.t 1)), S 7 (.load false 1 (.t 6)), S 8 (.len (.t 7)), S 9 (.mm true [(.t 5), (.t 8)]), S 10 (.bin .gtr (.t 9) (.c (.int .i64 40))), S 2 (.mv (.t 10))]
@[simp] noncomputable def ir : IR := (.seq (.ops r0) (.seq (.ops r1) .ret))
@[simp] noncomputable def rs : List RV := [.tmp 2]
theorem comp : compF Pg cfg Tryz.f23 = some (ir, rs, 11) := by kernel_rfl
theorem enter {args : List AVal} {h : Heap} {K : AEnd → Heap → Prop} (F : Nat) (hl : args.length ≤ 11) (a : AW ⟨Pg, F, 11, false, []⟩ ir (RetK rs K) (initT args) [] h) : ACalls Pg fn_law01_long args h K :=
  ACalls.of_comp follows Tryz.func23 comp hl a
theorem pure {args : List AVal} {v : AVal} (hl : args.length ≤ 11) (a : AW ⟨Pg, 0, 11, false, []⟩ ir (RetK rs fun e _ => e = .ret v) (initT args) [] nilH) : APure Pg fn_law01_long args v :=
  APure.of_nil (enter 0 hl a)
end law01_long

namespace ref01_Hull
noncomputable def cfg : Cfg := { pure := pures, pcs := [], raw := [], cuts := [], draws := [], keep := [] }
@[simp] noncomputable def r0 (_ : Unit) : List Stp := [S 1 (.box (.t 0)), S 2 (.mv (.c (.bool false)))]
@[simp] noncomputable def r1 (_ : Unit) : List Stp := [S 7 (.fAddr 0 (.t 1)), S 8 (.load false 1 (.t 7)), S 9 (.len (.t 8)), SP 10 (.call (.c (.func (.func fn_ref01_in) [] [])) [(.t 9), (.c (.int .i64 1)), (.c (.int .i64 6))]), S 11 (.un .not (.t 10)), S 12 (.mv (.t 11)), SG 13 12 false (.fAddr 1 (.t 1)), SG 14 12 false (.load false 1 (.t 13)), SG 15 12 false (.len (.t 14)), SG 16 12 false (.bin .gtr (.t 15) (.c (.int .i64 8))), S 17 (.pick (.t 12) (.c (.bool true)) (.t 16))]
@[simp] noncomputable def r2 (_ : Unit) : List Stp := [S 2 (.mv (.c (.bool false)))]
@[simp] noncomputable def r3 (_ : Unit) : List Stp := [S 3 (.mv (.c (.int .i64 0)))]
@[simp] noncomputable def r4 (_ : Unit) : List Stp := [S 18 (.mv (.t 3)), S 19 (.fAddr 0 (.t 1)), S 20 (.load false 1 (.t 19)), S 21 (.len (.t 20)), S 22 (.bin .lss (.t 18) (.t 21))]
@[simp] noncomputable def r6 (_ : Unit) : List Stp := [S 25 (.fAddr 0 (.t 1)), S 26 (.load false 1 (.t 25)), S 27 (.mv (.t 3)), S 28 (.ixS 3 (.t 26) (.t 27)), S 29 (.load true 3 (.t 28)), S 4 (.alloc [(.int .i64 0), (.int .i64 0), (.int .i64 0)]), SN (.store 3 (.t 4) (.t 29))]
@[simp] noncomputable def r7 (_ : Unit) : List Stp := [S 30 (.fAddr 0 (.t 4)), S 31 (.load false 1 (.t 30)), SP 32 (.call (.c (.func (.func fn_ref01_in) [] [])) [(.t 31), (.c (.int .i64 0)), (.c (.int .i64 12))]), S 33 (.un .not (.t 32)), S 34 (.mv (.t 33)), SG 35 34 false (.fAddr 1 (.t 4)), SG 36 34 false (.load false 1 (.t 35)), SGP 37 34 false (.call (.c (.func (.func fn_ref01_in) [] [])) [(.t 36), (.c (.int .i64 (-1))), (.c (.int .i64 1))]), SG 38 34 false (.un .not (.t 37)), S 39 (.pick (.t 34) (.c (.bool true)) (.t 38)), S 40 (.mv (.t 39)), SG 41 40 false (.fAddr 2 (.t 4)), SG 42 40 false (.load false 1 (.t 41)), SGP 43 40 false (.call (.c (.func (.func fn_ref01_in) [] [])) [(.t 42), (.c (.int .i64 0)), (.c (.int .i64 4))]), SG 44 40 false (.un .not (.t 43)), S 45 (.pick (.t 40) (.c (.bool true)) (.t 44))]
@[simp] noncomputable def r8 (_ : Unit) : List Stp := [S 2 (.mv (.c (.bool false)))]
@[simp] noncomputable def r5 (_ : Unit) : List Stp := [S 23 (.mv (.t 3)), S 24 (.bin .add (.t 23) (.c (.int .i64 1))), S 3 (.mv (.t 24))]
@[simp] noncomputable def r9 (_ : Unit) : List Stp := [S 5 (.mv (.c (.int .i64 0)))]
@[simp] noncomputable def r10 (_ : Unit) : List Stp := [S 46 (.mv (.t 5)), S 47 (.fAddr 1 (.t 1)), S 48 (.load false 1 (.t 47)), S 49 (.len (.t 48)), S 50 (.bin .lss (.t 46) (.t 49))]
@[simp] noncomputable def r12 (_ : Unit) : List Stp := [S 53 (.fAddr 1 (.t 1)), S 54 (.load false 1 (.t 53)), S 55 (.mv (.t 5)), S 56 (.ixS 4 (.t 54) (.t 55)), S 57 (.load true 4 (.t 56)), S 6 (.alloc [(.int .i64 0), (.int .i64 0), (.int .i64 0), (.int .i64 0)]), SN (.store 4 (.t 6) (.t 57))]
@[simp] noncomputable def r13 (_ : Unit) : List Stp := [S 58 (.fAddr 0 (.t 6)), S 59 (.load false 1 (.t 58)), S 60 (.fAddr 1 (.t 6)), S 61 (.load false 1 (.t 60)), SP 62 (.call (.c (.func (.func fn_ref01_At) [] [])) [(.t 59), (.t 61)]), S 63 (.un .not (.t 62)), S 64 (.mv (.t 63)), SG 65 64 false (.fAddr 2 (.t 6)), SG 66 64 false (.fAddr 0 (.t 65)), SG 67 64 false (.load false 1 (.t 66)), SG 68 64 false (.bin .lss (.t 67) (.c (.int .i64 0))), S 69 (.pick (.t 64) (.c (.bool true)) (.t 68)), S 70 (.mv (.t 69)), SG 71 70 false (.fAddr 2 (.t 6)), SG 72 70 false (.fAddr 0 (.t 71)), SG 73 70 false (.load false 1 (.t 72)), SG 74 70 false (.fAddr 2 (.t 6)), SG 75 70 false (.fAddr 1 (.t 74)), SG 76 70 false (.load false 1 (.t 75)), SG 77 70 false (.bin .gtr (.t 73) (.t 76)), S 78 (.pick (.t 70) (.c (.bool true)) (.t 77)), S 79 (.mv (.t 78)), SG 80 79 false (.fAddr 2 (.t 6)), SG 81 79 false (.fAddr 1 (.t 80)), SG 82 79 false (.load false 1 (.t 81)), SG 83 79 false (.bin .gtr (.t 82) (.c (.int .i64 24))), S 84 (.pick (.t 79) (.c (.bool true)) (.t 83))]
@[simp] noncomputable def r14 (_ : Unit) : List Stp := [S 2 (.mv (.c (.bool false)))]
@[simp] noncomputable def r11 (_ : Unit) : List Stp := [S 51 (.mv (.t 5)), S 52 (.bin .add (.t 51) (.c (.int .i64 1))), S 5 (.mv (.t 52))]
@[simp] noncomputable def r15 (_ : Unit) : List Stp := [S 2 (.mv (.c (.bool true)))]
@[simp] noncomputable def ir : IR := (.seq (.ops r0) (.seq (.seq (.ops r1) (.cond (.t 17) (.seq (.ops r2) .ret) .skip)) (.seq (.seq (.ops r3) (.block 0 (.loop (.seq (.seq (.ops r4) (.cond (.t 22) .skip (.exit 0))) (.seq (.block 1 (.seq (.ops r6) (.seq (.ops r7) (.cond (.t 45) (.seq (.ops r8) .ret) .skip)))) (.ops r5)))))) (.seq (.seq (.ops r9) (.block 2 (.loop (.seq (.seq (.ops r10) (.cond (.t 50) .skip (.exit 2))) (.seq (.block 3 (.seq (.ops r12) (.seq (.ops r13) (.cond (.t 84) (.seq (.ops r14) .ret) .skip)))) (.ops r11)))))) (.seq (.ops r15) .ret)))))
@[simp] noncomputable def rs : List RV := [.tmp 2]
theorem comp : compF Pg cfg Tryz.f24 = some (ir, rs, 85) := by kernel_rfl
theorem enter {args : List AVal} {h : Heap} {K : AEnd → Heap → Prop} (F : Nat) (hl : args.length ≤ 85) (a : AW ⟨Pg, F, 85, false, []⟩ ir (RetK rs K) (initT args) [] h) : ACalls Pg fn_ref01_Hull args h K :=
  ACalls.of_comp follows Tryz.func24 comp hl a
theorem pure {args : List AVal} {v : AVal} (hl : args.length ≤ 85) (a : AW ⟨Pg, 0, 85, false, []⟩ ir (RetK rs fun e _ => e = .ret v) (initT args) [] nilH) : APure Pg fn_ref01_Hull args v :=
  APure.of_nil (enter 0 hl a)
end ref01_Hull

namespace law01_sample
noncomputable def cfg : Cfg := { pure := pures, pcs := [], raw := [], cuts := [], draws := [], keep := [] }
@[simp] noncomputable def r0 (_ : Unit) : List Stp := [S 2 (.alloc [.nils, .nils])]
@[simp] noncomputable def r1 (_ : Unit) : List Stp := [S 4 (.build [(.int .i64 0), (.int .i64 0), (.int .i64 0)] [(0, 1, (.c (.int .i64 2))), (1, 1, (.c (.int .i64 0))), (2, 1, (.c (.int .i64 3)))]), S 5 (.build [(.int .i64 0), (.int .i64 0), (.int .i64 0)] [(0, 1, (.c (.int .i64 5))), (1, 1, (.c (.int .i64 (-1)))), (2, 1, (.c (.int .i64 2)))]), S 6 (.build [(.int .i64 0), (.int .i64 0), (.int .i64 0)] [(0, 1, (.c (.int .i64 5))), (1, 1, (.c (.int .i64 1))), (2, 1, (.c (.int .i64 4)))]), S 7 (.bsl 3 [(.int .i64 0), (.int .i64 0), (.int .i64 0), (.int .i64 0), (.int .i64 0), (.int .i64 0), (.int .i64 0), (.int .i64 0), (.int .i64 0)] [(0, 3, (.t 4)), (3, 3, (.t 5)), (6, 3, (.t 6))]), SP 8 (.call (.c (.func (.func fn_law01_span) [] [])) [(.c (.int .i64 1)), (.c (.int .i64 2))]), S 9 (.build [(.int .i64 0), (.int .i64 0), (.int .i64 0), (.int .i64 0)] [(0, 1, (.c (.int .i64 3))), (2, 2, (.t 8))]), SP 10 (.call (.c (.func (.func fn_law01_span) [] [])) [(.c (.int .i64 4)), (.c (.int .i64 4))]), S 11 (.build [(.int .i64 0), (.int .i64 0), (.int .i64 0), (.int .i64 0)] [(0, 1, (.c (.int .i64 6))), (2, 2, (.t 10))]), S 12 (.bsl 2 [(.int .i64 0), (.int .i64 0), (.int .i64 0), (.int .i64 0), (.int .i64 0), (.int .i64 0), (.int .i64 0), (.int .i64 0)] [(0, 4, (.t 9)), (4, 4, (.t 11))]), S 13 (.build [.nils, .nils] [(0, 1, (.t 7)), (1, 1, (.t 12))]), S 3 (.alloc [.nils, .nils]), SN (.store 2 (.t 3) (.t 13))]
@[simp] noncomputable def r2 (_ : Unit) : List Stp := [S 14 (.mv (.t 0))]
@[simp] noncomputable def r3 (_ : Unit) : List Stp := [S 15 (.fAddr 1 (.t 3)), S 16 (.load false 1 (.t 15)), S 17 (.build [(.int .i64 0), (.int .i64 0), (.int .i64 0), (.int .i64 0)] [(0, 1, (.c (.int .i64 4))), (1, 1, (.c (.int .i64 (-1))))]), S 18 (.bsl 1 [(.int .i64 0), (.int .i64 0), (.int .i64 0), (.int .i64 0)] [(0, 4, (.t 17))]), S 19 (.app 4 32 (.t 16) (.t 18)), S 20 (.fAddr 1 (.t 3)), SN (.store 1 (.t 20) (.t 19))]
@[simp] noncomputable def r4 (_ : Unit) : List Stp := [S 21 (.load true 2 (.t 3)), SN (.store 2 (.t 2) (.t 21))]
@[simp] noncomputable def ir : IR := (.seq (.ops r0) (.seq (.ops r1) (.seq (.seq (.ops r2) (.cond (.t 14) (.ops r3) .skip)) (.seq (.ops r4) .ret))))
@[simp] noncomputable def rs : List RV := [.cell 2 true 2]
theorem comp : compF Pg cfg Tryz.f25 = some (ir, rs, 22) := by kernel_rfl
theorem enter {args : List AVal} {h : Heap} {K : AEnd → Heap → Prop} (F : Nat) (hl : args.length ≤ 22) (a : AW ⟨Pg, F, 22, false, []⟩ ir (RetK rs K) (initT args) [] h) : ACalls Pg fn_law01_sample args h K :=
  ACalls.of_comp follows Tryz.func25 comp hl a
theorem pure {args : List AVal} {v : AVal} (hl : args.length ≤ 22) (a : AW ⟨Pg, 0, 22, false, []⟩ ir (RetK rs fun e _ => e = .ret v) (initT args) [] nilH) : APure Pg fn_law01_sample args v :=
  APure.of_nil (enter 0 hl a)
end law01_sample

namespace leak_Clash
noncomputable def cfg : Cfg := { pure := pures, pcs := [], raw := [], cuts := [], draws := [], keep := [2, 3] }
@[simp] noncomputable def r0 (_ : Unit) : List Stp := [S 1 (.box (.t 0)), S 2 (.mv (.c (.int .i64 0))), S 3 (.alloc [(.int .i64 0)])]
@[simp] noncomputable def r1 (_ : Unit) : List Stp := [S 7 (.mkF (.func fn_leak_Clash_1) [] [(.t 3)]), SN (.defer (.t 7) [])]
@[simp] noncomputable def r2 (_ : Unit) : List Stp := [S 8 (.load true 2 (.t 1)), S 9 (.call (.c (.func (.func fn_leak_open) [] [])) [(.t 8), (.c (.bool true))]), S 4 (.mv (.t 9))]
@[simp] noncomputable def r3 (_ : Unit) : List Stp := [S 10 (.mv (.t 4)), S 11 (.mv (.t 4)), S 12 (.call (.c (.func (.func fn_leak_hull_every) [] [])) [(.t 11)]), S 13 (.call (.c (.func (.func fn_leak_hull_can) [] [])) [(.t 10), (.t 12)]), S 14 (.un .not (.t 13)), S 15 (.call (.c (.func (.func fn_leak_want) [] [])) [(.t 14), (.c (.int .i64 4))])]
@[simp] noncomputable def r4 (_ : Unit) : List Stp := [S 16 (.mv (.t 4)), S 17 (.call (.c (.func (.func fn_leak_hull_every) [] [])) [(.t 16)]), S 5 (.mv (.t 17))]
@[simp] noncomputable def r5 (_ : Unit) : List Stp := [S 18 (.mv (.t 4)), S 19 (.call (.c (.func (.func fn_leak_hull_every) [] [])) [(.t 18)]), S 20 (.mv (.c (.int .u64 0)))]
@[simp] noncomputable def r6 (_ : Unit) : List Stp := [S 21 (.bin .lss (.t 20) (.t 19))]
@[simp] noncomputable def r7 (_ : Unit) : List Stp := [S 22 (.mv (.t 20)), S 6 (.mv (.t 22))]
@[simp] noncomputable def r8 (_ : Unit) : List Stp := [S 23 (.mv (.t 6)), SP 24 (.call (.c (.func (.func fn_math_bits_OnesCount) [] [])) [(.t 23)]), S 25 (.mv (.t 5)), SP 26 (.call (.c (.func (.func fn_math_bits_OnesCount) [] [])) [(.t 25)]), S 27 (.bin .lss (.t 24) (.t 26)), S 28 (.mv (.t 27)), SG 29 28 true (.mv (.t 4)), SG 30 28 true (.mv (.t 6)), SG 31 28 true (.call (.c (.func (.func fn_leak_hull_can) [] [])) [(.t 29), (.t 30)]), SG 32 28 true (.un .not (.t 31)), S 33 (.pick (.t 28) (.t 32) (.c (.bool false)))]
@[simp] noncomputable def r9 (_ : Unit) : List Stp := [S 34 (.mv (.t 6)), S 5 (.mv (.t 34))]
@[simp] noncomputable def r10 (_ : Unit) : List Stp := [S 35 (.bin .add (.t 20) (.c (.int .u64 1))), S 20 (.mv (.t 35))]
@[simp] noncomputable def r11 (_ : Unit) : List Stp := [S 36 (.mv (.t 5)), S 37 (.conv .i64 (.t 36)), S 2 (.mv (.t 37)), SN (.store 1 (.t 3) (.c (.int .i64 0)))]
@[simp] noncomputable def ir : IR := (.seq (.ops r0) (.seq (.ops r1) (.seq (.ops r2) (.seq (.ops r3) (.seq (.ops r4) (.seq (.seq (.ops r5) (.block 0 (.loop (.seq (.ops r6) (.seq (.cond (.t 21) .skip (.exit 0)) (.seq (.block 1 (.seq (.ops r7) (.seq (.ops r8) (.cond (.t 33) (.ops r9) .skip)))) (.ops r10))))))) (.seq (.ops r11) .ret)))))))
@[simp] noncomputable def rs : List RV := [.tmp 2, .cell 3 false 1]
theorem comp : compF Pg cfg Tryz.f26 = some (ir, rs, 38) := by kernel_rfl
theorem enter {args : List AVal} {h : Heap} {K : AEnd → Heap → Prop} (F : Nat) (hl : args.length ≤ 38) (a : AW ⟨Pg, F, 38, false, [2, 3]⟩ ir (RetD Pg rs K) (initT args) [] h) : ACalls Pg fn_leak_Clash args h K :=
  ACalls.of_comp_defer follows Tryz.func26 comp hl a
theorem pure {args : List AVal} {v : AVal} (hl : args.length ≤ 38) (a : AW ⟨Pg, 0, 38, false, [2, 3]⟩ ir (RetD Pg rs fun e _ => e = .ret v) (initT args) [] nilH) : APure Pg fn_leak_Clash args v :=
  APure.of_nil (enter 0 hl a)
end leak_Clash

namespace law01_span
noncomputable def cfg : Cfg := { pure := pures, pcs := [], raw := [], cuts := [], draws := [], keep := [] }
@[simp] noncomputable def r0 (_ : Unit) : List Stp := [S 4 (.alloc [(.int .i64 0), (.int .i64 0)])]
@[simp] noncomputable def r1 (_ : Unit) : List Stp := [S 5 (.mv (.t 0)), S 6 (.mv (.t 1)), S 7 (.build [(.int .i64 0), (.int .i64 0)] [(0, 1, (.t 5)), (1, 1, (.t 6))]), SN (.store 2 (.t 4) (.t 7))]
@[simp] noncomputable def ir : IR := (.seq (.ops r0) (.seq (.ops r1) .ret))
@[simp] noncomputable def rs : List RV := [.cell 4 true 2]
theorem comp : compF Pg cfg Tryz.f27 = some (ir, rs, 8) := by kernel_rfl
theorem enter {args : List AVal} {h : Heap} {K : AEnd → Heap → Prop} (F : Nat) (hl : args.length ≤ 8) (a : AW ⟨Pg, F, 8, false, []⟩ ir (RetK rs K) (initT args) [] h) : ACalls Pg fn_law01_span args h K :=
  ACalls.of_comp follows Tryz.func27 comp hl a
theorem pure {args : List AVal} {v : AVal} (hl : args.length ≤ 8) (a : AW ⟨Pg, 0, 8, false, []⟩ ir (RetK rs fun e _ => e = .ret v) (initT args) [] nilH) : APure Pg fn_law01_span args v :=
  APure.of_nil (enter 0 hl a)
end law01_span

namespace leak_Wet_1
noncomputable def cfg : Cfg := { pure := pures, pcs := [], raw := [], cuts := [], draws := [], keep := [] }
@[simp] noncomputable def r0 (_ : Unit) : List Stp := [S 1 (.recov), S 2 (.call (.c (.func (.func fn_leak_said) [] [])) [(.t 1), (.t 0)])]
@[simp] noncomputable def ir : IR := (.ops r0)
@[simp] noncomputable def rs : List RV := []
theorem comp : compF Pg cfg Tryz.f28 = some (ir, rs, 3) := by kernel_rfl
theorem enter {args : List AVal} {h : Heap} {K : AEnd → Heap → Prop} (F : Nat) (hl : args.length ≤ 3) (a : AW ⟨Pg, F, 3, false, []⟩ ir (RetK rs K) (initT args) [] h) : ACalls Pg fn_leak_Wet_1 args h K :=
  ACalls.of_comp follows Tryz.func28 comp hl a
theorem pure {args : List AVal} {v : AVal} (hl : args.length ≤ 3) (a : AW ⟨Pg, 0, 3, false, []⟩ ir (RetK rs fun e _ => e = .ret v) (initT args) [] nilH) : APure Pg fn_leak_Wet_1 args v :=
  APure.of_nil (enter 0 hl a)
theorem recClo : RecClo Pg fn_leak_Wet_1 fn_leak_said := ⟨_, Tryz.func28, by kernel_rfl⟩
end leak_Wet_1

namespace leak_said
noncomputable def cfg : Cfg := { pure := pures, pcs := [], raw := [], cuts := [], draws := [], keep := [] }
@[simp] noncomputable def r0 (_ : Unit) : List Stp := [S 6 (.mv (.t 0)), S 7 (.eqN .i false (.t 6))]
@[simp] noncomputable def r1 (_ : Unit) : List Stp := [S 9 (.mv (.t 0)), S 10 (.tyAs 99 true (.agg [(.int .i64 0)]) (.t 9)), S 8 (.mv (.t 10)), S 11 (.ext (.t 8) 0), S 12 (.ext (.t 8) 1), S 4 (.alloc [(.int .i64 0)]), SN (.store 1 (.t 4) (.t 11)), S 5 (.mv (.t 12))]
@[simp] noncomputable def r2 (_ : Unit) : List Stp := [S 13 (.mv (.t 5)), S 14 (.un .not (.t 13))]
@[simp] noncomputable def r3 (_ : Unit) : List Stp := [S 15 (.mv (.t 0)), SN (.panic (.t 15))]
@[simp] noncomputable def r4 (_ : Unit) : List Stp := [S 16 (.mv (.t 1)), S 17 (.fAddr 0 (.t 4)), S 18 (.load false 1 (.t 17)), S 19 (.nilck Pg (.t 16)), SN (.store 1 (.t 19) (.t 18))]
@[simp] noncomputable def ir : IR := (.seq (.seq (.ops r0) (.cond (.t 7) .ret .skip)) (.seq (.ops r1) (.seq (.seq (.ops r2) (.cond (.t 14) (.ops r3) .skip)) (.ops r4))))
@[simp] noncomputable def rs : List RV := []
theorem comp : compF Pg cfg Tryz.f29 = some (ir, rs, 20) := by kernel_rfl
theorem enter {args : List AVal} {h : Heap} {K : AEnd → Heap → Prop} (F : Nat) (hl : args.length ≤ 20) (a : AW ⟨Pg, F, 20, false, []⟩ ir (RetK rs K) (initT args) [] h) : ACalls Pg fn_leak_said args h K :=
  ACalls.of_comp follows Tryz.func29 comp hl a
theorem pure {args : List AVal} {v : AVal} (hl : args.length ≤ 20) (a : AW ⟨Pg, 0, 20, false, []⟩ ir (RetK rs fun e _ => e = .ret v) (initT args) [] nilH) : APure Pg fn_leak_said args v :=
  APure.of_nil (enter 0 hl a)
end leak_said

namespace leak_open
noncomputable def cfg : Cfg := { pure := pures, pcs := [], raw := [], cuts := [], draws := [(7, [⟨0, false, [], []⟩, ⟨1, false, [], []⟩, ⟨2, false, [], []⟩, ⟨3, false, [], []⟩, ⟨5, false, [], []⟩, ⟨4, false, [], []⟩, ⟨6, false, [], []⟩, ⟨7, true, [], []⟩, ⟨8, false, [], []⟩, ⟨9, false, [], []⟩, ⟨10, false, [], []⟩, ⟨11, false, [], []⟩])], keep := [] }
@[simp] noncomputable def r0 (_ : Unit) : List Stp := [S 2 (.box (.t 0)), S 4 (.mv (.c .nilp))]
@[simp] noncomputable def r1 (_ : Unit) : List Stp := [S 10 (.fAddr 0 (.t 2)), S 11 (.load false 1 (.t 10)), S 12 (.len (.t 11)), SP 13 (.call (.c (.func (.func fn_leak_within) [] [])) [(.t 12), (.c (.int .i64 1)), (.c (.int .i64 6))]), S 14 (.mv (.t 13)), SG 15 14 true (.fAddr 1 (.t 2)), SG 16 14 true (.load false 1 (.t 15)), SG 17 14 true (.len (.t 16)), SG 18 14 true (.bin .leq (.t 17) (.c (.int .i64 8))), S 19 (.pick (.t 14) (.t 18) (.c (.bool false))), S 20 (.call (.c (.func (.func fn_leak_want) [] [])) [(.t 19), (.c (.int .i64 1))])]
@[simp] noncomputable def r2 (_ : Unit) : List Stp := [S 21 (.load true 2 (.t 2)), S 22 (.mkmap), S 23 (.build [.nils, .nils, .nils, .nilm] [(0, 2, (.t 21)), (3, 1, (.t 22))]), S 24 (.box (.t 23)), S 5 (.mv (.t 24))]
@[simp] noncomputable def r3 (_ : Unit) : List Stp := [S 25 (.fAddr 0 (.t 2)), S 26 (.load false 1 (.t 25)), S 27 (.len (.t 26)), S 28 (.mv (.c (.int .i64 0)))]
@[simp] noncomputable def r4 (_ : Unit) : List Stp := [S 29 (.bin .lss (.t 28) (.t 27))]
@[simp] noncomputable def r5 (_ : Unit) : List Stp := [S 30 (.ixS 3 (.t 26) (.t 28)), S 31 (.load true 3 (.t 30)), S 7 (.alloc [(.int .i64 0), (.int .i64 0), (.int .i64 0)]), SN (.store 3 (.t 7) (.t 31))]
@[simp] noncomputable def r6 (_ : Unit) : List Stp := [S 32 (.fAddr 0 (.t 7)), S 33 (.load false 1 (.t 32)), SP 34 (.call (.c (.func (.func fn_leak_within) [] [])) [(.t 33), (.c (.int .i64 0)), (.c (.int .i64 12))]), S 35 (.mv (.t 34)), SG 36 35 true (.fAddr 1 (.t 7)), SG 37 35 true (.load false 1 (.t 36)), SGP 38 35 true (.call (.c (.func (.func fn_leak_within) [] [])) [(.t 37), (.c (.int .i64 (-1))), (.c (.int .i64 1))]), S 39 (.pick (.t 35) (.t 38) (.c (.bool false))), S 40 (.mv (.t 39)), SG 41 40 true (.fAddr 2 (.t 7)), SG 42 40 true (.load false 1 (.t 41)), SGP 43 40 true (.call (.c (.func (.func fn_leak_within) [] [])) [(.t 42), (.c (.int .i64 0)), (.c (.int .i64 4))]), S 44 (.pick (.t 40) (.t 43) (.c (.bool false))), S 45 (.call (.c (.func (.func fn_leak_want) [] [])) [(.t 44), (.c (.int .i64 1))])]
@[simp] noncomputable def r7 (_ : Unit) : List Stp := [S 46 (.mv (.t 5)), S 47 (.mv (.t 5)), S 48 (.nilck Pg (.t 47)), S 49 (.fAddr 2 (.t 48)), S 51 (.fAddr 2 (.t 7)), S 50 (.load false 1 (.t 49)), S 52 (.load false 1 (.t 51)), SD (some 53) (.bsl 1 [(.int .i64 0)] [(0, 1, (.t 52))]) true [] [], S 54 (.app 1 8 (.t 50) (.t 53)), S 55 (.nilck Pg (.t 46)), S 56 (.fAddr 2 (.t 55)), SN (.store 1 (.t 56) (.t 54))]
@[simp] noncomputable def r8 (_ : Unit) : List Stp := [S 57 (.bin .add (.t 28) (.c (.int .i64 1))), S 28 (.mv (.t 57))]
@[simp] noncomputable def r9 (_ : Unit) : List Stp := [S 58 (.fAddr 1 (.t 2)), S 59 (.load false 1 (.t 58)), S 60 (.len (.t 59)), S 61 (.mv (.c (.int .i64 0)))]
@[simp] noncomputable def r10 (_ : Unit) : List Stp := [S 62 (.bin .lss (.t 61) (.t 60))]
@[simp] noncomputable def r11 (_ : Unit) : List Stp := [S 63 (.ixS 4 (.t 59) (.t 61)), S 64 (.load true 4 (.t 63)), S 9 (.alloc [(.int .i64 0), (.int .i64 0), (.int .i64 0), (.int .i64 0)]), SN (.store 4 (.t 9) (.t 64))]
@[simp] noncomputable def r12 (_ : Unit) : List Stp := [S 65 (.fAddr 0 (.t 9)), S 66 (.load false 1 (.t 65)), S 67 (.fAddr 1 (.t 9)), S 68 (.load false 1 (.t 67)), S 69 (.build [(.int .i64 0), (.int .i64 0)] [(0, 1, (.t 66)), (1, 1, (.t 68))]), SP 70 (.call (.c (.func (.func fn_leak_place_isPlace) [] [])) [(.t 69)]), S 71 (.mv (.t 70)), SG 72 71 true (.fAddr 2 (.t 9)), SG 73 71 true (.fAddr 0 (.t 72)), SG 74 71 true (.load false 1 (.t 73)), SG 75 71 true (.fAddr 2 (.t 9)), SG 76 71 true (.fAddr 1 (.t 75)), SG 77 71 true (.load false 1 (.t 76)), SGP 78 71 true (.call (.c (.func (.func fn_leak_within) [] [])) [(.t 74), (.c (.int .i64 0)), (.t 77)]), S 79 (.pick (.t 71) (.t 78) (.c (.bool false))), S 80 (.mv (.t 79)), SG 81 80 true (.fAddr 2 (.t 9)), SG 82 80 true (.fAddr 1 (.t 81)), SG 83 80 true (.load false 1 (.t 82)), SG 84 80 true (.bin .leq (.t 83) (.c (.int .i64 24))), S 85 (.pick (.t 80) (.t 84) (.c (.bool false))), S 86 (.call (.c (.func (.func fn_leak_want) [] [])) [(.t 85), (.c (.int .i64 1))])]
@[simp] noncomputable def r13 (_ : Unit) : List Stp := [S 87 (.bin .add (.t 61) (.c (.int .i64 1))), S 61 (.mv (.t 87))]
@[simp] noncomputable def r14 (_ : Unit) : List Stp := [S 88 (.mv (.t 1)), S 89 (.call (.c (.func (.func fn_leak_want) [] [])) [(.t 88), (.c (.int .i64 2))])]
@[simp] noncomputable def r15 (_ : Unit) : List Stp := [S 90 (.mv (.t 5)), S 4 (.mv (.t 90))]
@[simp] noncomputable def ir : IR := (.seq (.ops r0) (.seq (.ops r1) (.seq (.ops r2) (.seq (.seq (.ops r3) (.block 0 (.loop (.seq (.ops r4) (.seq (.cond (.t 29) .skip (.exit 0)) (.seq (.block 1 (.seq (.ops r5) (.seq (.ops r6) (.ops r7)))) (.ops r8))))))) (.seq (.seq (.ops r9) (.block 2 (.loop (.seq (.ops r10) (.seq (.cond (.t 62) .skip (.exit 2)) (.seq (.block 3 (.seq (.ops r11) (.ops r12))) (.ops r13))))))) (.seq (.ops r14) (.seq (.ops r15) .ret)))))))
@[simp] noncomputable def rs : List RV := [.tmp 4]
theorem comp : compF Pg cfg Tryz.f30 = some (ir, rs, 91) := by kernel_rfl
theorem enter {args : List AVal} {h : Heap} {K : AEnd → Heap → Prop} (F : Nat) (hl : args.length ≤ 91) (a : AW ⟨Pg, F, 91, false, []⟩ ir (RetK rs K) (initT args) [] h) : ACalls Pg fn_leak_open args h K :=
  ACalls.of_comp follows Tryz.func30 comp hl a
theorem pure {args : List AVal} {v : AVal} (hl : args.length ≤ 91) (a : AW ⟨Pg, 0, 91, false, []⟩ ir (RetK rs fun e _ => e = .ret v) (initT args) [] nilH) : APure Pg fn_leak_open args v :=
  APure.of_nil (enter 0 hl a)
end leak_open

namespace leak_place_isPlace
noncomputable def cfg : Cfg := { pure := pures, pcs := [], raw := [], cuts := [], draws := [], keep := [] }
@[simp] noncomputable def r0 (_ : Unit) : List Stp := [S 1 (.box (.t 0)), S 2 (.mv (.c (.bool false)))]
@[simp] noncomputable def r1 (_ : Unit) : List Stp := [S 3 (.fAddr 0 (.t 1)), S 4 (.load false 1 (.t 3)), SP 5 (.call (.c (.func (.func fn_leak_within) [] [])) [(.t 4), (.c (.int .i64 0)), (.c (.int .i64 12))]), S 6 (.mv (.t 5)), SG 7 6 true (.fAddr 1 (.t 1)), SG 8 6 true (.load false 1 (.t 7)), SGP 9 6 true (.call (.c (.func (.func fn_leak_within) [] [])) [(.t 8), (.c (.int .i64 (-3))), (.c (.int .i64 3))]), S 10 (.pick (.t 6) (.t 9) (.c (.bool false))), S 2 (.mv (.t 10))]
@[simp] noncomputable def ir : IR := (.seq (.ops r0) (.seq (.ops r1) .ret))
@[simp] noncomputable def rs : List RV := [.tmp 2]
theorem comp : compF Pg cfg Tryz.f31 = some (ir, rs, 11) := by kernel_rfl
theorem enter {args : List AVal} {h : Heap} {K : AEnd → Heap → Prop} (F : Nat) (hl : args.length ≤ 11) (a : AW ⟨Pg, F, 11, false, []⟩ ir (RetK rs K) (initT args) [] h) : ACalls Pg fn_leak_place_isPlace args h K :=
  ACalls.of_comp follows Tryz.func31 comp hl a
theorem pure {args : List AVal} {v : AVal} (hl : args.length ≤ 11) (a : AW ⟨Pg, 0, 11, false, []⟩ ir (RetK rs fun e _ => e = .ret v) (initT args) [] nilH) : APure Pg fn_leak_place_isPlace args v :=
  APure.of_nil (enter 0 hl a)
end leak_place_isPlace

namespace leak_hull_wet
noncomputable def cfg : Cfg := { pure := pures, pcs := [], raw := [], cuts := [], draws := [(1, [⟨0, false, [], []⟩, ⟨1, false, [], []⟩, ⟨2, false, [], []⟩, ⟨3, false, [], []⟩, ⟨4, false, [], []⟩, ⟨5, false, [], []⟩, ⟨6, false, [], []⟩, ⟨7, false, [], []⟩, ⟨8, false, [], []⟩, ⟨9, false, [], []⟩, ⟨10, false, [], []⟩]), (11, [⟨0, false, [], []⟩, ⟨1, false, [], []⟩, ⟨2, false, [], []⟩, ⟨5, false, [], []⟩, ⟨3, false, [], []⟩, ⟨4, false, [], []⟩, ⟨6, false, [], []⟩])], keep := [] }
@[simp] noncomputable def r0 (_ : Unit) : List Stp := [S 3 (.box (.t 1)), S 4 (.mv (.c (.int .u64 0)))]
@[simp] noncomputable def r1 (_ : Unit) : List Stp := [S 11 (.mv (.t 0)), S 12 (.nilck Pg (.t 11)), S 13 (.fAddr 3 (.t 12)), S 14 (.load false 1 (.t 13)), S 15 (.load true 2 (.t 3)), S 16 (.lookup (true, [.i, .i]) true (.int .u64 0) (.t 14) (.t 15)), S 10 (.mv (.t 16)), S 17 (.ext (.t 10) 0), S 18 (.ext (.t 10) 1), S 5 (.mv (.t 17)), S 6 (.mv (.t 18))]
@[simp] noncomputable def r2 (_ : Unit) : List Stp := [S 19 (.mv (.t 6))]
@[simp] noncomputable def r3 (_ : Unit) : List Stp := [S 20 (.mv (.t 5)), S 4 (.mv (.t 20))]
@[simp] noncomputable def r4 (_ : Unit) : List Stp := [S 7 (.mv (.c (.int .u64 0)))]
@[simp] noncomputable def r5 (_ : Unit) : List Stp := [S 21 (.mv (.t 0)), S 22 (.nilck Pg (.t 21)), S 23 (.fAddr 0 (.t 22)), S 24 (.fAddr 0 (.t 23)), S 25 (.load false 1 (.t 24)), S 26 (.len (.t 25)), S 27 (.mv (.c (.int .i64 0)))]
@[simp] noncomputable def r6 (_ : Unit) : List Stp := [S 28 (.bin .lss (.t 27) (.t 26))]
@[simp] noncomputable def r7 (_ : Unit) : List Stp := [S 29 (.mv (.t 27)), S 30 (.ixS 3 (.t 25) (.t 27)), S 31 (.load true 3 (.t 30)), S 9 (.alloc [(.int .i64 0), (.int .i64 0), (.int .i64 0)]), S 8 (.mv (.t 29)), SN (.store 3 (.t 9) (.t 31))]
@[simp] noncomputable def r8 (_ : Unit) : List Stp := [S 32 (.fAddr 0 (.t 9)), S 33 (.load false 1 (.t 32)), S 34 (.fAddr 0 (.t 3)), S 35 (.load false 1 (.t 34)), S 36 (.fAddr 1 (.t 9)), S 37 (.load false 1 (.t 36)), S 38 (.fAddr 1 (.t 3)), S 39 (.load false 1 (.t 38)), S 40 (.bin .mul (.t 37) (.t 39)), S 41 (.bin .add (.t 35) (.t 40)), S 42 (.bin .leq (.t 33) (.t 41))]
@[simp] noncomputable def r9 (_ : Unit) : List Stp := [S 43 (.mv (.t 7)), S 44 (.mv (.t 8)), S 45 (.bin .shl (.c (.int .u64 1)) (.t 44)), S 46 (.bin .or (.t 43) (.t 45)), S 7 (.mv (.t 46))]
@[simp] noncomputable def r10 (_ : Unit) : List Stp := [S 47 (.bin .add (.t 27) (.c (.int .i64 1))), S 27 (.mv (.t 47))]
@[simp] noncomputable def r11 (_ : Unit) : List Stp := [S 48 (.mv (.t 0)), S 49 (.nilck Pg (.t 48)), S 50 (.fAddr 3 (.t 49)), S 53 (.mv (.t 7)), S 51 (.load false 1 (.t 50)), S 52 (.load true 2 (.t 3)), SN (.mapU (true, [.i, .i]) (.t 51) (.t 52) (.t 53))]
@[simp] noncomputable def r12 (_ : Unit) : List Stp := [S 54 (.mv (.t 7)), S 4 (.mv (.t 54))]
@[simp] noncomputable def ir : IR := (.seq (.ops r0) (.seq (.seq (.ops r1) (.seq (.ops r2) (.cond (.t 19) (.seq (.ops r3) .ret) .skip))) (.seq (.ops r4) (.seq (.seq (.ops r5) (.block 0 (.loop (.seq (.ops r6) (.seq (.cond (.t 28) .skip (.exit 0)) (.seq (.block 1 (.seq (.ops r7) (.seq (.ops r8) (.cond (.t 42) (.ops r9) .skip)))) (.ops r10))))))) (.seq (.ops r11) (.seq (.ops r12) .ret))))))
@[simp] noncomputable def rs : List RV := [.tmp 4]
theorem comp : compF Pg cfg Tryz.f32 = some (ir, rs, 55) := by kernel_rfl
theorem enter {args : List AVal} {h : Heap} {K : AEnd → Heap → Prop} (F : Nat) (hl : args.length ≤ 55) (a : AW ⟨Pg, F, 55, false, []⟩ ir (RetK rs K) (initT args) [] h) : ACalls Pg fn_leak_hull_wet args h K :=
  ACalls.of_comp follows Tryz.func32 comp hl a
theorem pure {args : List AVal} {v : AVal} (hl : args.length ≤ 55) (a : AW ⟨Pg, 0, 55, false, []⟩ ir (RetK rs fun e _ => e = .ret v) (initT args) [] nilH) : APure Pg fn_leak_hull_wet args v :=
  APure.of_nil (enter 0 hl a)
end leak_hull_wet

namespace ref01_At
noncomputable def cfg : Cfg := { pure := pures, pcs := [], raw := [], cuts := [], draws := [], keep := [] }
@[simp] noncomputable def r0 (_ : Unit) : List Stp := [S 4 (.mv (.c (.bool false)))]
@[simp] noncomputable def r1 (_ : Unit) : List Stp := [S 5 (.mv (.t 0)), SP 6 (.call (.c (.func (.func fn_ref01_in) [] [])) [(.t 5), (.c (.int .i64 0)), (.c (.int .i64 12))]), S 7 (.mv (.t 6)), SG 8 7 true (.mv (.t 1)), SGP 9 7 true (.call (.c (.func (.func fn_ref01_in) [] [])) [(.t 8), (.c (.int .i64 (-3))), (.c (.int .i64 3))]), S 10 (.pick (.t 7) (.t 9) (.c (.bool false))), S 4 (.mv (.t 10))]
@[simp] noncomputable def ir : IR := (.seq (.ops r0) (.seq (.ops r1) .ret))
@[simp] noncomputable def rs : List RV := [.tmp 4]
theorem comp : compF Pg cfg Tryz.f33 = some (ir, rs, 11) := by kernel_rfl
theorem enter {args : List AVal} {h : Heap} {K : AEnd → Heap → Prop} (F : Nat) (hl : args.length ≤ 11) (a : AW ⟨Pg, F, 11, false, []⟩ ir (RetK rs K) (initT args) [] h) : ACalls Pg fn_ref01_At args h K :=
  ACalls.of_comp follows Tryz.func33 comp hl a
theorem pure {args : List AVal} {v : AVal} (hl : args.length ≤ 11) (a : AW ⟨Pg, 0, 11, false, []⟩ ir (RetK rs fun e _ => e = .ret v) (initT args) [] nilH) : APure Pg fn_ref01_At args v :=
  APure.of_nil (enter 0 hl a)
end ref01_At

namespace ref01_wet
noncomputable def cfg : Cfg := { pure := pures, pcs := [], raw := [], cuts := [], draws := [(5, [⟨0, false, [], []⟩, ⟨2, false, [], []⟩, ⟨6, false, [], []⟩, ⟨7, false, [], []⟩, ⟨9, false, [], []⟩, ⟨13, false, [], []⟩, ⟨1, false, [], []⟩, ⟨3, false, [], []⟩, ⟨4, false, [], []⟩, ⟨5, false, [], []⟩, ⟨8, false, [], []⟩, ⟨10, false, [], []⟩, ⟨11, false, [], []⟩, ⟨12, false, [], []⟩, ⟨14, false, [], []⟩, ⟨15, false, [], []⟩, ⟨16, false, [], []⟩])], keep := [] }
@[simp] noncomputable def r0 (_ : Unit) : List Stp := [S 3 (.box (.t 0)), S 6 (.mv (.c (.int .i64 0)))]
@[simp] noncomputable def r1 (_ : Unit) : List Stp := [S 7 (.mv (.c (.int .i64 0)))]
@[simp] noncomputable def r2 (_ : Unit) : List Stp := [S 8 (.mv (.c (.int .i64 0)))]
@[simp] noncomputable def r3 (_ : Unit) : List Stp := [S 9 (.mv (.t 8)), S 10 (.fAddr 0 (.t 3)), S 11 (.load false 1 (.t 10)), S 12 (.len (.t 11)), S 13 (.bin .lss (.t 9) (.t 12))]
@[simp] noncomputable def r5 (_ : Unit) : List Stp := [S 16 (.fAddr 0 (.t 3)), S 18 (.mv (.t 8)), S 22 (.mv (.t 1)), S 23 (.fAddr 0 (.t 3)), S 25 (.mv (.t 8)), S 29 (.mv (.t 2)), S 17 (.load false 1 (.t 16)), S 19 (.ixS 3 (.t 17) (.t 18)), S 20 (.fAddr 0 (.t 19)), S 21 (.load false 1 (.t 20)), S 24 (.load false 1 (.t 23)), S 26 (.ixS 3 (.t 24) (.t 25)), S 27 (.fAddr 1 (.t 26)), S 28 (.load false 1 (.t 27)), S 30 (.bin .mul (.t 28) (.t 29)), S 31 (.bin .add (.t 22) (.t 30)), S 32 (.bin .leq (.t 21) (.t 31))]
@[simp] noncomputable def r6 (_ : Unit) : List Stp := [S 33 (.mv (.t 7)), S 34 (.mv (.t 8)), SP 35 (.call (.c (.func (.func fn_ref01_power) [] [])) [(.t 34)]), S 36 (.bin .add (.t 33) (.t 35)), S 7 (.mv (.t 36))]
@[simp] noncomputable def r4 (_ : Unit) : List Stp := [S 14 (.mv (.t 8)), S 15 (.bin .add (.t 14) (.c (.int .i64 1))), S 8 (.mv (.t 15))]
@[simp] noncomputable def r7 (_ : Unit) : List Stp := [S 37 (.mv (.t 7)), S 6 (.mv (.t 37))]
@[simp] noncomputable def ir : IR := (.seq (.ops r0) (.seq (.ops r1) (.seq (.seq (.ops r2) (.block 0 (.loop (.seq (.seq (.ops r3) (.cond (.t 13) .skip (.exit 0))) (.seq (.block 1 (.seq (.ops r5) (.cond (.t 32) (.ops r6) .skip))) (.ops r4)))))) (.seq (.ops r7) .ret))))
@[simp] noncomputable def rs : List RV := [.tmp 6]
theorem comp : compF Pg cfg Tryz.f34 = some (ir, rs, 38) := by kernel_rfl
theorem enter {args : List AVal} {h : Heap} {K : AEnd → Heap → Prop} (F : Nat) (hl : args.length ≤ 38) (a : AW ⟨Pg, F, 38, false, []⟩ ir (RetK rs K) (initT args) [] h) : ACalls Pg fn_ref01_wet args h K :=
  ACalls.of_comp follows Tryz.func34 comp hl a
theorem pure {args : List AVal} {v : AVal} (hl : args.length ≤ 38) (a : AW ⟨Pg, 0, 38, false, []⟩ ir (RetK rs fun e _ => e = .ret v) (initT args) [] nilH) : APure Pg fn_ref01_wet args v :=
  APure.of_nil (enter 0 hl a)
end ref01_wet

namespace leak_Rate_1
noncomputable def cfg : Cfg := { pure := pures, pcs := [], raw := [], cuts := [], draws := [], keep := [] }
@[simp] noncomputable def r0 (_ : Unit) : List Stp := [S 1 (.recov), S 2 (.call (.c (.func (.func fn_leak_said) [] [])) [(.t 1), (.t 0)])]
@[simp] noncomputable def ir : IR := (.ops r0)
@[simp] noncomputable def rs : List RV := []
theorem comp : compF Pg cfg Tryz.f35 = some (ir, rs, 3) := by kernel_rfl
theorem enter {args : List AVal} {h : Heap} {K : AEnd → Heap → Prop} (F : Nat) (hl : args.length ≤ 3) (a : AW ⟨Pg, F, 3, false, []⟩ ir (RetK rs K) (initT args) [] h) : ACalls Pg fn_leak_Rate_1 args h K :=
  ACalls.of_comp follows Tryz.func35 comp hl a
theorem pure {args : List AVal} {v : AVal} (hl : args.length ≤ 3) (a : AW ⟨Pg, 0, 3, false, []⟩ ir (RetK rs fun e _ => e = .ret v) (initT args) [] nilH) : APure Pg fn_leak_Rate_1 args v :=
  APure.of_nil (enter 0 hl a)
theorem recClo : RecClo Pg fn_leak_Rate_1 fn_leak_said := ⟨_, Tryz.func35, by kernel_rfl⟩
end leak_Rate_1

namespace leak_within
noncomputable def cfg : Cfg := { pure := pures, pcs := [], raw := [], cuts := [], draws := [], keep := [] }
@[simp] noncomputable def r0 (_ : Unit) : List Stp := [S 6 (.mv (.c (.bool false)))]
@[simp] noncomputable def r1 (_ : Unit) : List Stp := [S 7 (.mv (.t 1)), S 8 (.mv (.t 0)), S 9 (.bin .leq (.t 7) (.t 8)), S 10 (.mv (.t 9)), SG 11 10 true (.mv (.t 0)), SG 12 10 true (.mv (.t 2)), SG 13 10 true (.bin .leq (.t 11) (.t 12)), S 14 (.pick (.t 10) (.t 13) (.c (.bool false))), S 6 (.mv (.t 14))]
@[simp] noncomputable def ir : IR := (.seq (.ops r0) (.seq (.ops r1) .ret))
@[simp] noncomputable def rs : List RV := [.tmp 6]
theorem comp : compF Pg cfg Tryz.f36 = some (ir, rs, 15) := by kernel_rfl
theorem enter {args : List AVal} {h : Heap} {K : AEnd → Heap → Prop} (F : Nat) (hl : args.length ≤ 15) (a : AW ⟨Pg, F, 15, false, []⟩ ir (RetK rs K) (initT args) [] h) : ACalls Pg fn_leak_within args h K :=
  ACalls.of_comp follows Tryz.func36 comp hl a
theorem pure {args : List AVal} {v : AVal} (hl : args.length ≤ 15) (a : AW ⟨Pg, 0, 15, false, []⟩ ir (RetK rs fun e _ => e = .ret v) (initT args) [] nilH) : APure Pg fn_leak_within args v :=
  APure.of_nil (enter 0 hl a)
end leak_within

namespace leak_hull_total
noncomputable def cfg : Cfg := { pure := pures, pcs := [], raw := [], cuts := [], draws := [], keep := [] }
@[simp] noncomputable def r0 (_ : Unit) : List Stp := [S 3 (.box (.t 1)), S 4 (.alloc [(.int .i64 0), (.int .i64 0)])]
@[simp] noncomputable def r1 (_ : Unit) : List Stp := [S 5 (.alloc [.nilf]), SN (.store 1 (.t 5) (.c (.func (.func fn_leak_inflow_sum) [] [])))]
@[simp] noncomputable def r2 (_ : Unit) : List Stp := [S 6 (.mv (.t 0)), S 7 (.call (.c (.func (.func fn_leak_hull_truths) [] [])) [(.t 6)]), S 8 (.mkF (.func fn_leak_hull_total_1) [] [(.t 5), (.t 3)]), S 9 (.call (.c (.func (.func fn_leak_sums) [] [])) [(.t 7), (.t 8)]), SN (.store 2 (.t 4) (.t 9))]
@[simp] noncomputable def ir : IR := (.seq (.ops r0) (.seq (.ops r1) (.seq (.ops r2) .ret)))
@[simp] noncomputable def rs : List RV := [.cell 4 true 2]
theorem comp : compF Pg cfg Tryz.f37 = some (ir, rs, 10) := by kernel_rfl
theorem enter {args : List AVal} {h : Heap} {K : AEnd → Heap → Prop} (F : Nat) (hl : args.length ≤ 10) (a : AW ⟨Pg, F, 10, false, []⟩ ir (RetK rs K) (initT args) [] h) : ACalls Pg fn_leak_hull_total args h K :=
  ACalls.of_comp follows Tryz.func37 comp hl a
theorem pure {args : List AVal} {v : AVal} (hl : args.length ≤ 10) (a : AW ⟨Pg, 0, 10, false, []⟩ ir (RetK rs fun e _ => e = .ret v) (initT args) [] nilH) : APure Pg fn_leak_hull_total args v :=
  APure.of_nil (enter 0 hl a)
end leak_hull_total

namespace ref01_told
noncomputable def cfg : Cfg := { pure := pures, pcs := [], raw := [], cuts := [], draws := [], keep := [] }
@[simp] noncomputable def r0 (_ : Unit) : List Stp := [S 2 (.box (.t 0)), S 4 (.mv (.c .nils)), S 5 (.mv (.c (.int .i64 0)))]
@[simp] noncomputable def r1 (_ : Unit) : List Stp := [S 7 (.load true 2 (.t 2)), SP 8 (.call (.c (.func (.func fn_ref01_Hull) [] [])) [(.t 7)]), S 9 (.un .not (.t 8))]
@[simp] noncomputable def r2 (_ : Unit) : List Stp := [S 4 (.mv (.c .nils)), S 5 (.mv (.c (.int .i64 1)))]
@[simp] noncomputable def r3 (_ : Unit) : List Stp := [S 10 (.mv (.t 1)), S 11 (.un .not (.t 10))]
@[simp] noncomputable def r4 (_ : Unit) : List Stp := [S 4 (.mv (.c .nils)), S 5 (.mv (.c (.int .i64 2)))]
@[simp] noncomputable def r5 (_ : Unit) : List Stp := [S 12 (.load true 2 (.t 2)), SP 13 (.call (.c (.func (.func fn_ref01_Truths) [] [])) [(.t 12)]), S 6 (.mv (.t 13))]
@[simp] noncomputable def r6 (_ : Unit) : List Stp := [S 14 (.mv (.t 6)), S 15 (.len (.t 14)), S 16 (.bin .eql (.t 15) (.c (.int .i64 0)))]
@[simp] noncomputable def r7 (_ : Unit) : List Stp := [S 4 (.mv (.c .nils)), S 5 (.mv (.c (.int .i64 10)))]
@[simp] noncomputable def r8 (_ : Unit) : List Stp := [S 17 (.mv (.t 6)), S 4 (.mv (.t 17)), S 5 (.mv (.c (.int .i64 0)))]
@[simp] noncomputable def ir : IR := (.seq (.ops r0) (.seq (.seq (.ops r1) (.cond (.t 9) (.seq (.ops r2) .ret) .skip)) (.seq (.seq (.ops r3) (.cond (.t 11) (.seq (.ops r4) .ret) .skip)) (.seq (.ops r5) (.seq (.seq (.ops r6) (.cond (.t 16) (.seq (.ops r7) .ret) .skip)) (.seq (.ops r8) .ret))))))
@[simp] noncomputable def rs : List RV := [.tmp 4, .tmp 5]
theorem comp : compF Pg cfg Tryz.f38 = some (ir, rs, 18) := by kernel_rfl
theorem enter {args : List AVal} {h : Heap} {K : AEnd → Heap → Prop} (F : Nat) (hl : args.length ≤ 18) (a : AW ⟨Pg, F, 18, false, []⟩ ir (RetK rs K) (initT args) [] h) : ACalls Pg fn_ref01_told args h K :=
  ACalls.of_comp follows Tryz.func38 comp hl a
theorem pure {args : List AVal} {v : AVal} (hl : args.length ≤ 18) (a : AW ⟨Pg, 0, 18, false, []⟩ ir (RetK rs fun e _ => e = .ret v) (initT args) [] nilH) : APure Pg fn_ref01_told args v :=
  APure.of_nil (enter 0 hl a)
end ref01_told

namespace ref01_Seam
noncomputable def cfg : Cfg := { pure := pures, pcs := [], raw := [], cuts := [], draws := [], keep := [] }
@[simp] noncomputable def r0 (_ : Unit) : List Stp := [S 2 (.box (.t 0)), S 4 (.mv (.c (.bool false)))]
@[simp] noncomputable def r1 (_ : Unit) : List Stp := [S 5 (.mv (.t 1)), S 6 (.fAddr 0 (.t 2)), S 7 (.load false 1 (.t 6)), S 8 (.len (.t 7)), S 9 (.bin .sub (.t 8) (.c (.int .i64 1))), SP 10 (.call (.c (.func (.func fn_ref01_in) [] [])) [(.t 5), (.c (.int .i64 0)), (.t 9)]), S 4 (.mv (.t 10))]
@[simp] noncomputable def ir : IR := (.seq (.ops r0) (.seq (.ops r1) .ret))
@[simp] noncomputable def rs : List RV := [.tmp 4]
theorem comp : compF Pg cfg Tryz.f39 = some (ir, rs, 11) := by kernel_rfl
theorem enter {args : List AVal} {h : Heap} {K : AEnd → Heap → Prop} (F : Nat) (hl : args.length ≤ 11) (a : AW ⟨Pg, F, 11, false, []⟩ ir (RetK rs K) (initT args) [] h) : ACalls Pg fn_ref01_Seam args h K :=
  ACalls.of_comp follows Tryz.func39 comp hl a
theorem pure {args : List AVal} {v : AVal} (hl : args.length ≤ 11) (a : AW ⟨Pg, 0, 11, false, []⟩ ir (RetK rs fun e _ => e = .ret v) (initT args) [] nilH) : APure Pg fn_ref01_Seam args v :=
  APure.of_nil (enter 0 hl a)
end ref01_Seam

namespace ref01_sums
noncomputable def cfg : Cfg := { pure := pures, pcs := [], raw := [], cuts := [], draws := [(1, [⟨0, false, [], []⟩, ⟨1, false, [], []⟩, ⟨3, false, [], []⟩, ⟨5, false, [], []⟩, ⟨6, false, [], []⟩, ⟨8, false, [], []⟩, ⟨2, false, [], []⟩, ⟨4, false, [], []⟩, ⟨7, false, [], []⟩, ⟨9, false, [], []⟩, ⟨10, false, [], []⟩, ⟨11, true, [], []⟩, ⟨12, false, [], []⟩])], keep := [] }
@[simp] noncomputable def r0 (_ : Unit) : List Stp := [S 4 (.alloc [(.int .i64 0), (.int .i64 0)])]
@[simp] noncomputable def r1 (_ : Unit) : List Stp := [S 8 (.mv (.t 0)), S 9 (.ixS 1 (.t 8) (.c (.int .i64 0))), S 11 (.mv (.t 1)), S 13 (.mv (.t 0)), S 14 (.ixS 1 (.t 13) (.c (.int .i64 0))), S 16 (.mv (.t 1)), S 10 (.load false 1 (.t 9)), SP 12 (.call (.c (.func (.func fn_ref01_Sum) [] [])) [(.t 10), (.t 11)]), S 15 (.load false 1 (.t 14)), SP 17 (.call (.c (.func (.func fn_ref01_Sum) [] [])) [(.t 15), (.t 16)]), S 18 (.build [(.int .i64 0), (.int .i64 0)] [(0, 1, (.t 12)), (1, 1, (.t 17))]), SD (some 5) (.alloc [(.int .i64 0), (.int .i64 0)]) true [] [], SN (.store 2 (.t 5) (.t 18))]
@[simp] noncomputable def r2 (_ : Unit) : List Stp := [S 6 (.mv (.c (.int .i64 0)))]
@[simp] noncomputable def r3 (_ : Unit) : List Stp := [S 19 (.mv (.t 6)), S 20 (.mv (.t 0)), S 21 (.len (.t 20)), S 22 (.bin .lss (.t 19) (.t 21))]
@[simp] noncomputable def r5 (_ : Unit) : List Stp := [S 25 (.mv (.t 0)), S 26 (.mv (.t 6)), S 27 (.ixS 1 (.t 25) (.t 26)), S 28 (.load false 1 (.t 27)), S 29 (.mv (.t 1)), SP 30 (.call (.c (.func (.func fn_ref01_Sum) [] [])) [(.t 28), (.t 29)]), S 7 (.mv (.t 30))]
@[simp] noncomputable def r6 (_ : Unit) : List Stp := [S 31 (.fAddr 0 (.t 5)), S 32 (.load false 1 (.t 31)), S 33 (.mv (.t 7)), S 34 (.mm false [(.t 32), (.t 33)]), S 35 (.fAddr 1 (.t 5)), S 36 (.load false 1 (.t 35)), S 37 (.mv (.t 7)), S 38 (.mm true [(.t 36), (.t 37)]), S 39 (.build [(.int .i64 0), (.int .i64 0)] [(0, 1, (.t 34)), (1, 1, (.t 38))]), SN (.store 2 (.t 5) (.t 39))]
@[simp] noncomputable def r4 (_ : Unit) : List Stp := [S 23 (.mv (.t 6)), S 24 (.bin .add (.t 23) (.c (.int .i64 1))), S 6 (.mv (.t 24))]
@[simp] noncomputable def r7 (_ : Unit) : List Stp := [S 40 (.load true 2 (.t 5)), SN (.store 2 (.t 4) (.t 40))]
@[simp] noncomputable def ir : IR := (.seq (.ops r0) (.seq (.ops r1) (.seq (.seq (.ops r2) (.block 0 (.loop (.seq (.seq (.ops r3) (.cond (.t 22) .skip (.exit 0))) (.seq (.block 1 (.seq (.ops r5) (.ops r6))) (.ops r4)))))) (.seq (.ops r7) .ret))))
@[simp] noncomputable def rs : List RV := [.cell 4 true 2]
theorem comp : compF Pg cfg Tryz.f40 = some (ir, rs, 41) := by kernel_rfl
theorem enter {args : List AVal} {h : Heap} {K : AEnd → Heap → Prop} (F : Nat) (hl : args.length ≤ 41) (a : AW ⟨Pg, F, 41, false, []⟩ ir (RetK rs K) (initT args) [] h) : ACalls Pg fn_ref01_sums args h K :=
  ACalls.of_comp follows Tryz.func40 comp hl a
theorem pure {args : List AVal} {v : AVal} (hl : args.length ≤ 41) (a : AW ⟨Pg, 0, 41, false, []⟩ ir (RetK rs fun e _ => e = .ret v) (initT args) [] nilH) : APure Pg fn_ref01_sums args v :=
  APure.of_nil (enter 0 hl a)
end ref01_sums

namespace ref01_power
noncomputable def cfg : Cfg := { pure := pures, pcs := [], raw := [], cuts := [], draws := [], keep := [] }
@[simp] noncomputable def r0 (_ : Unit) : List Stp := [S 2 (.mv (.c (.int .i64 0)))]
@[simp] noncomputable def r1 (_ : Unit) : List Stp := [S 3 (.mv (.c (.int .i64 1)))]
@[simp] noncomputable def r2 (_ : Unit) : List Stp := [S 4 (.mv (.c (.int .i64 0)))]
@[simp] noncomputable def r3 (_ : Unit) : List Stp := [S 5 (.mv (.t 4)), S 6 (.mv (.t 0)), S 7 (.bin .lss (.t 5) (.t 6))]
@[simp] noncomputable def r5 (_ : Unit) : List Stp := [S 10 (.mv (.t 3)), S 11 (.bin .mul (.c (.int .i64 2)) (.t 10)), S 3 (.mv (.t 11))]
@[simp] noncomputable def r4 (_ : Unit) : List Stp := [S 8 (.mv (.t 4)), S 9 (.bin .add (.t 8) (.c (.int .i64 1))), S 4 (.mv (.t 9))]
@[simp] noncomputable def r6 (_ : Unit) : List Stp := [S 12 (.mv (.t 3)), S 2 (.mv (.t 12))]
@[simp] noncomputable def ir : IR := (.seq (.ops r0) (.seq (.ops r1) (.seq (.seq (.ops r2) (.block 0 (.loop (.seq (.seq (.ops r3) (.cond (.t 7) .skip (.exit 0))) (.seq (.block 1 (.ops r5)) (.ops r4)))))) (.seq (.ops r6) .ret))))
@[simp] noncomputable def rs : List RV := [.tmp 2]
theorem comp : compF Pg cfg Tryz.f41 = some (ir, rs, 13) := by kernel_rfl
theorem enter {args : List AVal} {h : Heap} {K : AEnd → Heap → Prop} (F : Nat) (hl : args.length ≤ 13) (a : AW ⟨Pg, F, 13, false, []⟩ ir (RetK rs K) (initT args) [] h) : ACalls Pg fn_ref01_power args h K :=
  ACalls.of_comp follows Tryz.func41 comp hl a
theorem pure {args : List AVal} {v : AVal} (hl : args.length ≤ 13) (a : AW ⟨Pg, 0, 13, false, []⟩ ir (RetK rs fun e _ => e = .ret v) (initT args) [] nilH) : APure Pg fn_ref01_power args v :=
  APure.of_nil (enter 0 hl a)
end ref01_power

namespace leak_Total_1
noncomputable def cfg : Cfg := { pure := pures, pcs := [], raw := [], cuts := [], draws := [], keep := [] }
@[simp] noncomputable def r0 (_ : Unit) : List Stp := [S 1 (.recov), S 2 (.call (.c (.func (.func fn_leak_said) [] [])) [(.t 1), (.t 0)])]
@[simp] noncomputable def ir : IR := (.ops r0)
@[simp] noncomputable def rs : List RV := []
theorem comp : compF Pg cfg Tryz.f42 = some (ir, rs, 3) := by kernel_rfl
theorem enter {args : List AVal} {h : Heap} {K : AEnd → Heap → Prop} (F : Nat) (hl : args.length ≤ 3) (a : AW ⟨Pg, F, 3, false, []⟩ ir (RetK rs K) (initT args) [] h) : ACalls Pg fn_leak_Total_1 args h K :=
  ACalls.of_comp follows Tryz.func42 comp hl a
theorem pure {args : List AVal} {v : AVal} (hl : args.length ≤ 3) (a : AW ⟨Pg, 0, 3, false, []⟩ ir (RetK rs fun e _ => e = .ret v) (initT args) [] nilH) : APure Pg fn_leak_Total_1 args v :=
  APure.of_nil (enter 0 hl a)
theorem recClo : RecClo Pg fn_leak_Total_1 fn_leak_said := ⟨_, Tryz.func42, by kernel_rfl⟩
end leak_Total_1

namespace leak_isSet
noncomputable def cfg : Cfg := { pure := pures, pcs := [], raw := [], cuts := [], draws := [], keep := [] }
@[simp] noncomputable def r0 (_ : Unit) : List Stp := [S 2 (.box (.t 0)), S 4 (.mv (.c (.bool false)))]
@[simp] noncomputable def r1 (_ : Unit) : List Stp := [S 5 (.mv (.t 1)), S 6 (.bin .geq (.t 5) (.c (.int .i64 0))), S 7 (.mv (.t 6)), SG 8 7 true (.mv (.t 1)), SG 9 7 true (.fAddr 0 (.t 2)), SG 10 7 true (.load false 1 (.t 9)), SG 11 7 true (.len (.t 10)), SG 12 7 true (.mm false [(.t 11), (.c (.int .i64 62))]), SG 13 7 true (.bin .shr (.t 8) (.t 12)), SG 14 7 true (.bin .eql (.t 13) (.c (.int .i64 0))), S 15 (.pick (.t 7) (.t 14) (.c (.bool false))), S 4 (.mv (.t 15))]
@[simp] noncomputable def ir : IR := (.seq (.ops r0) (.seq (.ops r1) .ret))
@[simp] noncomputable def rs : List RV := [.tmp 4]
theorem comp : compF Pg cfg Tryz.f43 = some (ir, rs, 16) := by kernel_rfl
theorem enter {args : List AVal} {h : Heap} {K : AEnd → Heap → Prop} (F : Nat) (hl : args.length ≤ 16) (a : AW ⟨Pg, F, 16, false, []⟩ ir (RetK rs K) (initT args) [] h) : ACalls Pg fn_leak_isSet args h K :=
  ACalls.of_comp follows Tryz.func43 comp hl a
theorem pure {args : List AVal} {v : AVal} (hl : args.length ≤ 16) (a : AW ⟨Pg, 0, 16, false, []⟩ ir (RetK rs fun e _ => e = .ret v) (initT args) [] nilH) : APure Pg fn_leak_isSet args v :=
  APure.of_nil (enter 0 hl a)
end leak_isSet

namespace ref01_Set
noncomputable def cfg : Cfg := { pure := pures, pcs := [], raw := [], cuts := [], draws := [], keep := [] }
@[simp] noncomputable def r0 (_ : Unit) : List Stp := [S 2 (.box (.t 0)), S 4 (.mv (.c (.bool false)))]
@[simp] noncomputable def r1 (_ : Unit) : List Stp := [S 5 (.mv (.t 1)), S 6 (.fAddr 0 (.t 2)), S 7 (.load false 1 (.t 6)), S 8 (.len (.t 7)), SP 9 (.call (.c (.func (.func fn_ref01_power) [] [])) [(.t 8)]), S 10 (.bin .sub (.t 9) (.c (.int .i64 1))), SP 11 (.call (.c (.func (.func fn_ref01_in) [] [])) [(.t 5), (.c (.int .i64 0)), (.t 10)]), S 4 (.mv (.t 11))]
@[simp] noncomputable def ir : IR := (.seq (.ops r0) (.seq (.ops r1) .ret))
@[simp] noncomputable def rs : List RV := [.tmp 4]
theorem comp : compF Pg cfg Tryz.f44 = some (ir, rs, 12) := by kernel_rfl
theorem enter {args : List AVal} {h : Heap} {K : AEnd → Heap → Prop} (F : Nat) (hl : args.length ≤ 12) (a : AW ⟨Pg, F, 12, false, []⟩ ir (RetK rs K) (initT args) [] h) : ACalls Pg fn_ref01_Set args h K :=
  ACalls.of_comp follows Tryz.func44 comp hl a
theorem pure {args : List AVal} {v : AVal} (hl : args.length ≤ 12) (a : AW ⟨Pg, 0, 12, false, []⟩ ir (RetK rs fun e _ => e = .ret v) (initT args) [] nilH) : APure Pg fn_ref01_Set args v :=
  APure.of_nil (enter 0 hl a)
end ref01_Set

namespace leak_Leaks_1
noncomputable def cfg : Cfg := { pure := pures, pcs := [], raw := [], cuts := [], draws := [], keep := [] }
@[simp] noncomputable def r0 (_ : Unit) : List Stp := [S 1 (.recov), S 2 (.call (.c (.func (.func fn_leak_said) [] [])) [(.t 1), (.t 0)])]
@[simp] noncomputable def ir : IR := (.ops r0)
@[simp] noncomputable def rs : List RV := []
theorem comp : compF Pg cfg Tryz.f45 = some (ir, rs, 3) := by kernel_rfl
theorem enter {args : List AVal} {h : Heap} {K : AEnd → Heap → Prop} (F : Nat) (hl : args.length ≤ 3) (a : AW ⟨Pg, F, 3, false, []⟩ ir (RetK rs K) (initT args) [] h) : ACalls Pg fn_leak_Leaks_1 args h K :=
  ACalls.of_comp follows Tryz.func45 comp hl a
theorem pure {args : List AVal} {v : AVal} (hl : args.length ≤ 3) (a : AW ⟨Pg, 0, 3, false, []⟩ ir (RetK rs fun e _ => e = .ret v) (initT args) [] nilH) : APure Pg fn_leak_Leaks_1 args v :=
  APure.of_nil (enter 0 hl a)
theorem recClo : RecClo Pg fn_leak_Leaks_1 fn_leak_said := ⟨_, Tryz.func45, by kernel_rfl⟩
end leak_Leaks_1

namespace leak_hull_truths
noncomputable def cfg : Cfg := { pure := pures, pcs := [], raw := [], cuts := [], draws := [], keep := [] }
@[simp] noncomputable def r0 (_ : Unit) : List Stp := [S 2 (.mv (.c .nils))]
@[simp] noncomputable def r1 (_ : Unit) : List Stp := [S 4 (.mv (.t 0)), S 5 (.mv (.t 0)), S 6 (.call (.c (.func (.func fn_leak_hull_every) [] [])) [(.t 5)]), S 7 (.call (.c (.func (.func fn_leak_hull_inflows) [] [])) [(.t 4), (.t 6)]), S 8 (.call (.c (.func (.func fn_slices_Collect_leak_inflow) [] [])) [(.t 7)]), S 3 (.mv (.t 8))]
@[simp] noncomputable def r2 (_ : Unit) : List Stp := [S 9 (.mv (.t 3)), S 10 (.len (.t 9)), S 11 (.bin .gtr (.t 10) (.c (.int .i64 0))), S 12 (.call (.c (.func (.func fn_leak_want) [] [])) [(.t 11), (.c (.int .i64 10))])]
@[simp] noncomputable def r3 (_ : Unit) : List Stp := [S 13 (.mv (.t 3)), S 2 (.mv (.t 13))]
@[simp] noncomputable def ir : IR := (.seq (.ops r0) (.seq (.ops r1) (.seq (.ops r2) (.seq (.ops r3) .ret))))
@[simp] noncomputable def rs : List RV := [.tmp 2]
theorem comp : compF Pg cfg Tryz.f46 = some (ir, rs, 14) := by kernel_rfl
theorem enter {args : List AVal} {h : Heap} {K : AEnd → Heap → Prop} (F : Nat) (hl : args.length ≤ 14) (a : AW ⟨Pg, F, 14, false, []⟩ ir (RetK rs K) (initT args) [] h) : ACalls Pg fn_leak_hull_truths args h K :=
  ACalls.of_comp follows Tryz.func46 comp hl a
theorem pure {args : List AVal} {v : AVal} (hl : args.length ≤ 14) (a : AW ⟨Pg, 0, 14, false, []⟩ ir (RetK rs fun e _ => e = .ret v) (initT args) [] nilH) : APure Pg fn_leak_hull_truths args v :=
  APure.of_nil (enter 0 hl a)
end leak_hull_truths

namespace leak_inflow_leaks
noncomputable def cfg : Cfg := { pure := pures, pcs := [], raw := [], cuts := [], draws := [], keep := [] }
@[simp] noncomputable def r0 (_ : Unit) : List Stp := [S 1 (.box (.t 0)), S 2 (.mv (.c (.int .u64 0)))]
@[simp] noncomputable def r1 (_ : Unit) : List Stp := [S 5 (.load true 6 (.t 1)), S 6 (.mv (.c (.int .i64 0)))]
@[simp] noncomputable def r2 (_ : Unit) : List Stp := [S 7 (.bin .lss (.t 6) (.c (.int .i64 6)))]
@[simp] noncomputable def r3 (_ : Unit) : List Stp := [S 8 (.mv (.t 6)), S 9 (.ixV 6 1 false (.t 5) (.t 6)), S 3 (.mv (.t 8)), S 4 (.mv (.t 9))]
@[simp] noncomputable def r4 (_ : Unit) : List Stp := [S 10 (.mv (.t 4)), S 11 (.bin .gtr (.t 10) (.c (.int .i64 0)))]
@[simp] noncomputable def r5 (_ : Unit) : List Stp := [S 12 (.mv (.t 2)), S 13 (.mv (.t 3)), S 14 (.bin .shl (.c (.int .u64 1)) (.t 13)), S 15 (.bin .or (.t 12) (.t 14)), S 2 (.mv (.t 15))]
@[simp] noncomputable def r6 (_ : Unit) : List Stp := [S 16 (.bin .add (.t 6) (.c (.int .i64 1))), S 6 (.mv (.t 16))]
@[simp] noncomputable def r7 (_ : Unit) : List Stp := [S 17 (.mv (.t 2)), S 2 (.mv (.t 17))]
@[simp] noncomputable def ir : IR := (.seq (.ops r0) (.seq (.seq (.ops r1) (.block 0 (.loop (.seq (.ops r2) (.seq (.cond (.t 7) .skip (.exit 0)) (.seq (.block 1 (.seq (.ops r3) (.seq (.ops r4) (.cond (.t 11) (.ops r5) .skip)))) (.ops r6))))))) (.seq (.ops r7) .ret)))
@[simp] noncomputable def rs : List RV := [.tmp 2]
theorem comp : compF Pg cfg Tryz.f47 = some (ir, rs, 18) := by kernel_rfl
theorem enter {args : List AVal} {h : Heap} {K : AEnd → Heap → Prop} (F : Nat) (hl : args.length ≤ 18) (a : AW ⟨Pg, F, 18, false, []⟩ ir (RetK rs K) (initT args) [] h) : ACalls Pg fn_leak_inflow_leaks args h K :=
  ACalls.of_comp follows Tryz.func47 comp hl a
theorem pure {args : List AVal} {v : AVal} (hl : args.length ≤ 18) (a : AW ⟨Pg, 0, 18, false, []⟩ ir (RetK rs fun e _ => e = .ret v) (initT args) [] nilH) : APure Pg fn_leak_inflow_leaks args v :=
  APure.of_nil (enter 0 hl a)
end leak_inflow_leaks

namespace leak_Sets_1
noncomputable def cfg : Cfg := { pure := pures, pcs := [], raw := [], cuts := [], draws := [], keep := [] }
@[simp] noncomputable def r0 (_ : Unit) : List Stp := [S 1 (.recov), S 2 (.call (.c (.func (.func fn_leak_said) [] [])) [(.t 1), (.t 0)])]
@[simp] noncomputable def ir : IR := (.ops r0)
@[simp] noncomputable def rs : List RV := []
theorem comp : compF Pg cfg Tryz.f48 = some (ir, rs, 3) := by kernel_rfl
theorem enter {args : List AVal} {h : Heap} {K : AEnd → Heap → Prop} (F : Nat) (hl : args.length ≤ 3) (a : AW ⟨Pg, F, 3, false, []⟩ ir (RetK rs K) (initT args) [] h) : ACalls Pg fn_leak_Sets_1 args h K :=
  ACalls.of_comp follows Tryz.func48 comp hl a
theorem pure {args : List AVal} {v : AVal} (hl : args.length ≤ 3) (a : AW ⟨Pg, 0, 3, false, []⟩ ir (RetK rs fun e _ => e = .ret v) (initT args) [] nilH) : APure Pg fn_leak_Sets_1 args v :=
  APure.of_nil (enter 0 hl a)
theorem recClo : RecClo Pg fn_leak_Sets_1 fn_leak_said := ⟨_, Tryz.func48, by kernel_rfl⟩
end leak_Sets_1

namespace leak_hull_sets
noncomputable def cfg : Cfg := { pure := pures, pcs := [], raw := [], cuts := [], draws := [], keep := [] }
@[simp] noncomputable def r0 (_ : Unit) : List Stp := [S 2 (.mv (.c .nils))]
@[simp] noncomputable def r1 (_ : Unit) : List Stp := [S 9 (.mkmap), S 3 (.mv (.t 9))]
@[simp] noncomputable def r2 (_ : Unit) : List Stp := [S 10 (.mv (.t 0)), S 11 (.call (.c (.func (.func fn_leak_hull_truths) [] [])) [(.t 10)]), S 12 (.len (.t 11)), S 13 (.mv (.c (.int .i64 0)))]
@[simp] noncomputable def r3 (_ : Unit) : List Stp := [S 14 (.bin .lss (.t 13) (.t 12))]
@[simp] noncomputable def r4 (_ : Unit) : List Stp := [S 15 (.ixS 6 (.t 11) (.t 13)), S 16 (.load true 6 (.t 15)), S 5 (.alloc [(.int .i64 0), (.int .i64 0), (.int .i64 0), (.int .i64 0), (.int .i64 0), (.int .i64 0)]), SN (.store 6 (.t 5) (.t 16))]
@[simp] noncomputable def r5 (_ : Unit) : List Stp := [S 17 (.mv (.t 3)), S 18 (.load true 6 (.t 5)), SP 19 (.call (.c (.func (.func fn_leak_inflow_leaks) [] [])) [(.t 18)]), SN (.mapU (false, [.i]) (.t 17) (.t 19) (.c (.bool true)))]
@[simp] noncomputable def r6 (_ : Unit) : List Stp := [S 20 (.bin .add (.t 13) (.c (.int .i64 1))), S 13 (.mv (.t 20))]
@[simp] noncomputable def r7 (_ : Unit) : List Stp := [S 21 (.mv (.t 3)), S 22 (.lenM (.t 21)), S 23 (.mksl 8 [(.int .i64 0)] (.c (.int .i64 0)) (.t 22)), S 6 (.mv (.t 23))]
@[simp] noncomputable def r8 (_ : Unit) : List Stp := [S 24 (.mv (.t 3)), S 25 (.range (.t 24))]
@[simp] noncomputable def r9 (_ : Unit) : List Stp := [S 26 (.next (.t 25)), S 27 (.ext (.t 26) 0)]
@[simp] noncomputable def r10 (_ : Unit) : List Stp := [S 28 (.entry (.t 25)), S 29 (.ext (.t 28) 0), S 7 (.mv (.t 29))]
@[simp] noncomputable def r11 (_ : Unit) : List Stp := [S 30 (.mv (.t 6)), S 31 (.mv (.t 7)), S 32 (.conv .i64 (.t 31)), S 33 (.bsl 1 [(.int .i64 0)] [(0, 1, (.t 32))]), S 34 (.app 1 8 (.t 30) (.t 33)), S 6 (.mv (.t 34))]
@[simp] noncomputable def r12 (_ : Unit) : List Stp := [S 35 (.mv (.t 6)), S 36 (.len (.t 35)), S 37 (.mksl 8 [(.int .i64 0)] (.t 36) (.t 36)), S 8 (.mv (.t 37))]
@[simp] noncomputable def r13 (_ : Unit) : List Stp := [S 38 (.mv (.t 8)), S 39 (.mv (.t 6)), S 40 (.copy 1 (.t 38) (.t 39))]
@[simp] noncomputable def r14 (_ : Unit) : List Stp := [S 41 (.mv (.t 8)), S 42 (.call (.c (.func (.func fn_slices_Sort_int_int) [] [])) [(.t 41)])]
@[simp] noncomputable def r15 (_ : Unit) : List Stp := [S 43 (.mv (.t 8)), S 2 (.mv (.t 43))]
@[simp] noncomputable def ir : IR := (.seq (.ops r0) (.seq (.ops r1) (.seq (.seq (.ops r2) (.block 0 (.loop (.seq (.ops r3) (.seq (.cond (.t 14) .skip (.exit 0)) (.seq (.block 1 (.seq (.ops r4) (.ops r5))) (.ops r6))))))) (.seq (.ops r7) (.seq (.seq (.ops r8) (.block 2 (.loop (.seq (.ops r9) (.seq (.cond (.t 27) .skip (.exit 2)) (.block 3 (.seq (.ops r10) (.ops r11)))))))) (.seq (.ops r12) (.seq (.ops r13) (.seq (.ops r14) (.seq (.ops r15) .ret)))))))))
@[simp] noncomputable def rs : List RV := [.tmp 2]
theorem comp : compF Pg cfg Tryz.f49 = some (ir, rs, 44) := by kernel_rfl
theorem enter {args : List AVal} {h : Heap} {K : AEnd → Heap → Prop} (F : Nat) (hl : args.length ≤ 44) (a : AW ⟨Pg, F, 44, false, []⟩ ir (RetK rs K) (initT args) [] h) : ACalls Pg fn_leak_hull_sets args h K :=
  ACalls.of_comp follows Tryz.func49 comp hl a
theorem pure {args : List AVal} {v : AVal} (hl : args.length ≤ 44) (a : AW ⟨Pg, 0, 44, false, []⟩ ir (RetK rs fun e _ => e = .ret v) (initT args) [] nilH) : APure Pg fn_leak_hull_sets args v :=
  APure.of_nil (enter 0 hl a)
end leak_hull_sets

namespace ref01_LeaksOf
noncomputable def cfg : Cfg := { pure := pures, pcs := [], raw := [], cuts := [], draws := [], keep := [] }
@[simp] noncomputable def r0 (_ : Unit) : List Stp := [S 2 (.mv (.c (.int .i64 0)))]
@[simp] noncomputable def r1 (_ : Unit) : List Stp := [S 3 (.mv (.c (.int .i64 0)))]
@[simp] noncomputable def r2 (_ : Unit) : List Stp := [S 4 (.mv (.c (.int .i64 0)))]
@[simp] noncomputable def r3 (_ : Unit) : List Stp := [S 5 (.mv (.t 4)), S 6 (.mv (.t 0)), S 7 (.len (.t 6)), S 8 (.bin .lss (.t 5) (.t 7))]
@[simp] noncomputable def r5 (_ : Unit) : List Stp := [S 11 (.mv (.t 0)), S 12 (.mv (.t 4)), S 13 (.ixS 1 (.t 11) (.t 12)), S 14 (.load false 1 (.t 13)), S 15 (.bin .gtr (.t 14) (.c (.int .i64 0)))]
@[simp] noncomputable def r6 (_ : Unit) : List Stp := [S 16 (.mv (.t 3)), S 17 (.mv (.t 4)), SP 18 (.call (.c (.func (.func fn_ref01_power) [] [])) [(.t 17)]), S 19 (.bin .add (.t 16) (.t 18)), S 3 (.mv (.t 19))]
@[simp] noncomputable def r4 (_ : Unit) : List Stp := [S 9 (.mv (.t 4)), S 10 (.bin .add (.t 9) (.c (.int .i64 1))), S 4 (.mv (.t 10))]
@[simp] noncomputable def r7 (_ : Unit) : List Stp := [S 20 (.mv (.t 3)), S 2 (.mv (.t 20))]
@[simp] noncomputable def ir : IR := (.seq (.ops r0) (.seq (.ops r1) (.seq (.seq (.ops r2) (.block 0 (.loop (.seq (.seq (.ops r3) (.cond (.t 8) .skip (.exit 0))) (.seq (.block 1 (.seq (.ops r5) (.cond (.t 15) (.ops r6) .skip))) (.ops r4)))))) (.seq (.ops r7) .ret))))
@[simp] noncomputable def rs : List RV := [.tmp 2]
theorem comp : compF Pg cfg Tryz.f50 = some (ir, rs, 21) := by kernel_rfl
theorem enter {args : List AVal} {h : Heap} {K : AEnd → Heap → Prop} (F : Nat) (hl : args.length ≤ 21) (a : AW ⟨Pg, F, 21, false, []⟩ ir (RetK rs K) (initT args) [] h) : ACalls Pg fn_ref01_LeaksOf args h K :=
  ACalls.of_comp follows Tryz.func50 comp hl a
theorem pure {args : List AVal} {v : AVal} (hl : args.length ≤ 21) (a : AW ⟨Pg, 0, 21, false, []⟩ ir (RetK rs fun e _ => e = .ret v) (initT args) [] nilH) : APure Pg fn_ref01_LeaksOf args v :=
  APure.of_nil (enter 0 hl a)
end ref01_LeaksOf

namespace leak_Fewest_1
noncomputable def cfg : Cfg := { pure := pures, pcs := [], raw := [], cuts := [], draws := [], keep := [] }
@[simp] noncomputable def r0 (_ : Unit) : List Stp := [S 1 (.recov), S 2 (.call (.c (.func (.func fn_leak_said) [] [])) [(.t 1), (.t 0)])]
@[simp] noncomputable def ir : IR := (.ops r0)
@[simp] noncomputable def rs : List RV := []
theorem comp : compF Pg cfg Tryz.f51 = some (ir, rs, 3) := by kernel_rfl
theorem enter {args : List AVal} {h : Heap} {K : AEnd → Heap → Prop} (F : Nat) (hl : args.length ≤ 3) (a : AW ⟨Pg, F, 3, false, []⟩ ir (RetK rs K) (initT args) [] h) : ACalls Pg fn_leak_Fewest_1 args h K :=
  ACalls.of_comp follows Tryz.func51 comp hl a
theorem pure {args : List AVal} {v : AVal} (hl : args.length ≤ 3) (a : AW ⟨Pg, 0, 3, false, []⟩ ir (RetK rs fun e _ => e = .ret v) (initT args) [] nilH) : APure Pg fn_leak_Fewest_1 args v :=
  APure.of_nil (enter 0 hl a)
theorem recClo : RecClo Pg fn_leak_Fewest_1 fn_leak_said := ⟨_, Tryz.func51, by kernel_rfl⟩
end leak_Fewest_1

namespace leak_best_int
noncomputable def cfg : Cfg := { pure := pures, pcs := [], raw := [], cuts := [], draws := [], keep := [] }
@[simp] noncomputable def r0 (_ : Unit) : List Stp := [S 3 (.box (.t 1)), S 4 (.mv (.c (.int .i64 0))), S 5 (.mv (.c (.int .i64 0)))]
@[simp] noncomputable def r1 (_ : Unit) : List Stp := [S 9 (.mv (.t 0)), S 10 (.len (.t 9)), S 11 (.mv (.c (.int .i64 0)))]
@[simp] noncomputable def r2 (_ : Unit) : List Stp := [S 12 (.bin .lss (.t 11) (.t 10))]
@[simp] noncomputable def r3 (_ : Unit) : List Stp := [S 13 (.mv (.t 11)), S 14 (.ixS 1 (.t 9) (.t 11)), S 15 (.load false 1 (.t 14)), S 6 (.mv (.t 13)), S 7 (.mv (.t 15))]
@[simp] noncomputable def r4 (_ : Unit) : List Stp := [S 16 (.fAddr 0 (.t 3)), S 17 (.load false 1 (.t 16)), S 18 (.mv (.t 7)), S 19 (.call (.t 17) [(.t 18)]), S 8 (.mv (.t 19))]
@[simp] noncomputable def r5 (_ : Unit) : List Stp := [S 20 (.mv (.t 6)), S 21 (.bin .eql (.t 20) (.c (.int .i64 0))), S 22 (.mv (.t 21)), SG 23 22 false (.mv (.t 8)), SG 24 22 false (.mv (.t 5)), SG 25 22 false (.bin .lss (.t 23) (.t 24)), S 26 (.pick (.t 22) (.c (.bool true)) (.t 25))]
@[simp] noncomputable def r6 (_ : Unit) : List Stp := [S 27 (.mv (.t 7)), S 28 (.mv (.t 8)), S 4 (.mv (.t 27)), S 5 (.mv (.t 28))]
@[simp] noncomputable def r7 (_ : Unit) : List Stp := [S 29 (.bin .add (.t 11) (.c (.int .i64 1))), S 11 (.mv (.t 29))]
@[simp] noncomputable def r8 (_ : Unit) : List Stp := [S 30 (.mv (.t 4)), S 31 (.mv (.t 5)), S 4 (.mv (.t 30)), S 5 (.mv (.t 31))]
@[simp] noncomputable def ir : IR := (.seq (.ops r0) (.seq (.seq (.ops r1) (.block 0 (.loop (.seq (.ops r2) (.seq (.cond (.t 12) .skip (.exit 0)) (.seq (.block 1 (.seq (.ops r3) (.seq (.ops r4) (.seq (.ops r5) (.cond (.t 26) (.ops r6) .skip))))) (.ops r7))))))) (.seq (.ops r8) .ret)))
@[simp] noncomputable def rs : List RV := [.tmp 4, .tmp 5]
theorem comp : compF Pg cfg Tryz.f52 = some (ir, rs, 32) := by kernel_rfl
theorem enter {args : List AVal} {h : Heap} {K : AEnd → Heap → Prop} (F : Nat) (hl : args.length ≤ 32) (a : AW ⟨Pg, F, 32, false, []⟩ ir (RetK rs K) (initT args) [] h) : ACalls Pg fn_leak_best_int args h K :=
  ACalls.of_comp follows Tryz.func52 comp hl a
theorem pure {args : List AVal} {v : AVal} (hl : args.length ≤ 32) (a : AW ⟨Pg, 0, 32, false, []⟩ ir (RetK rs fun e _ => e = .ret v) (initT args) [] nilH) : APure Pg fn_leak_best_int args v :=
  APure.of_nil (enter 0 hl a)
end leak_best_int

namespace leak_Fewest_2
noncomputable def cfg : Cfg := { pure := pures, pcs := [], raw := [], cuts := [], draws := [], keep := [] }
@[simp] noncomputable def r0 (_ : Unit) : List Stp := [S 2 (.mv (.c (.int .i64 0)))]
@[simp] noncomputable def r1 (_ : Unit) : List Stp := [S 3 (.mv (.t 0)), S 4 (.conv .u64 (.t 3)), SP 5 (.call (.c (.func (.func fn_math_bits_OnesCount) [] [])) [(.t 4)]), S 2 (.mv (.t 5))]
@[simp] noncomputable def ir : IR := (.seq (.ops r0) (.seq (.ops r1) .ret))
@[simp] noncomputable def rs : List RV := [.tmp 2]
theorem comp : compF Pg cfg Tryz.f53 = some (ir, rs, 6) := by kernel_rfl
theorem enter {args : List AVal} {h : Heap} {K : AEnd → Heap → Prop} (F : Nat) (hl : args.length ≤ 6) (a : AW ⟨Pg, F, 6, false, []⟩ ir (RetK rs K) (initT args) [] h) : ACalls Pg fn_leak_Fewest_2 args h K :=
  ACalls.of_comp follows Tryz.func53 comp hl a
theorem pure {args : List AVal} {v : AVal} (hl : args.length ≤ 6) (a : AW ⟨Pg, 0, 6, false, []⟩ ir (RetK rs fun e _ => e = .ret v) (initT args) [] nilH) : APure Pg fn_leak_Fewest_2 args v :=
  APure.of_nil (enter 0 hl a)
end leak_Fewest_2

namespace math_bits_OnesCount
noncomputable def cfg : Cfg := { pure := pures, pcs := [], raw := [], cuts := [], draws := [], keep := [] }
@[simp] noncomputable def r0 (_ : Unit) : List Stp := [S 2 (.mv (.c (.int .i64 0)))]
@[simp] noncomputable def r1 (_ : Unit) : List Stp := [S 3 (.mv (.t 0)), S 4 (.conv .u32 (.t 3)), SP 5 (.call (.c (.func (.func fn_math_bits_OnesCount32) [] [])) [(.t 4)]), S 2 (.mv (.t 5))]
@[simp] noncomputable def r2 (_ : Unit) : List Stp := [S 6 (.mv (.t 0)), SP 7 (.call (.c (.func (.func fn_math_bits_OnesCount64) [] [])) [(.t 6)]), S 2 (.mv (.t 7))]
@[simp] noncomputable def ir : IR := (.seq (.ops r0) (.seq (.cond (.c (.bool false)) (.seq (.ops r1) .ret) .skip) (.seq (.ops r2) .ret)))
@[simp] noncomputable def rs : List RV := [.tmp 2]
theorem comp : compF Pg cfg Tryz.f54 = some (ir, rs, 8) := by kernel_rfl
theorem enter {args : List AVal} {h : Heap} {K : AEnd → Heap → Prop} (F : Nat) (hl : args.length ≤ 8) (a : AW ⟨Pg, F, 8, false, []⟩ ir (RetK rs K) (initT args) [] h) : ACalls Pg fn_math_bits_OnesCount args h K :=
  ACalls.of_comp follows Tryz.func54 comp hl a
theorem pure {args : List AVal} {v : AVal} (hl : args.length ≤ 8) (a : AW ⟨Pg, 0, 8, false, []⟩ ir (RetK rs fun e _ => e = .ret v) (initT args) [] nilH) : APure Pg fn_math_bits_OnesCount args v :=
  APure.of_nil (enter 0 hl a)
end math_bits_OnesCount

namespace ref01_Size
noncomputable def cfg : Cfg := { pure := pures, pcs := [], raw := [], cuts := [], draws := [], keep := [] }
@[simp] noncomputable def r0 (_ : Unit) : List Stp := [S 2 (.mv (.c (.int .i64 0)))]
@[simp] noncomputable def r1 (_ : Unit) : List Stp := [S 3 (.mv (.c (.int .i64 0)))]
@[simp] noncomputable def r2 (_ : Unit) : List Stp := [S 4 (.mv (.t 0)), S 5 (.bin .gtr (.t 4) (.c (.int .i64 0)))]
@[simp] noncomputable def r3 (_ : Unit) : List Stp := [S 6 (.mv (.t 3)), S 7 (.mv (.t 0)), S 8 (.bin .rem (.t 7) (.c (.int .i64 2))), S 9 (.bin .add (.t 6) (.t 8)), S 3 (.mv (.t 9))]
@[simp] noncomputable def r4 (_ : Unit) : List Stp := [S 10 (.mv (.t 0)), S 11 (.bin .quo (.t 10) (.c (.int .i64 2))), S 0 (.mv (.t 11))]
@[simp] noncomputable def r5 (_ : Unit) : List Stp := [S 12 (.mv (.t 3)), S 2 (.mv (.t 12))]
@[simp] noncomputable def ir : IR := (.seq (.ops r0) (.seq (.ops r1) (.seq (.block 0 (.loop (.seq (.seq (.ops r2) (.cond (.t 5) .skip (.exit 0))) (.block 1 (.seq (.ops r3) (.ops r4)))))) (.seq (.ops r5) .ret))))
@[simp] noncomputable def rs : List RV := [.tmp 2]
theorem comp : compF Pg cfg Tryz.f55 = some (ir, rs, 13) := by kernel_rfl
theorem enter {args : List AVal} {h : Heap} {K : AEnd → Heap → Prop} (F : Nat) (hl : args.length ≤ 13) (a : AW ⟨Pg, F, 13, false, []⟩ ir (RetK rs K) (initT args) [] h) : ACalls Pg fn_ref01_Size args h K :=
  ACalls.of_comp follows Tryz.func55 comp hl a
theorem pure {args : List AVal} {v : AVal} (hl : args.length ≤ 13) (a : AW ⟨Pg, 0, 13, false, []⟩ ir (RetK rs fun e _ => e = .ret v) (initT args) [] nilH) : APure Pg fn_ref01_Size args v :=
  APure.of_nil (enter 0 hl a)
end ref01_Size

namespace leak_Flow_1
noncomputable def cfg : Cfg := { pure := pures, pcs := [], raw := [], cuts := [], draws := [], keep := [] }
@[simp] noncomputable def r0 (_ : Unit) : List Stp := [S 1 (.recov), S 2 (.call (.c (.func (.func fn_leak_said) [] [])) [(.t 1), (.t 0)])]
@[simp] noncomputable def ir : IR := (.ops r0)
@[simp] noncomputable def rs : List RV := []
theorem comp : compF Pg cfg Tryz.f56 = some (ir, rs, 3) := by kernel_rfl
theorem enter {args : List AVal} {h : Heap} {K : AEnd → Heap → Prop} (F : Nat) (hl : args.length ≤ 3) (a : AW ⟨Pg, F, 3, false, []⟩ ir (RetK rs K) (initT args) [] h) : ACalls Pg fn_leak_Flow_1 args h K :=
  ACalls.of_comp follows Tryz.func56 comp hl a
theorem pure {args : List AVal} {v : AVal} (hl : args.length ≤ 3) (a : AW ⟨Pg, 0, 3, false, []⟩ ir (RetK rs fun e _ => e = .ret v) (initT args) [] nilH) : APure Pg fn_leak_Flow_1 args v :=
  APure.of_nil (enter 0 hl a)
theorem recClo : RecClo Pg fn_leak_Flow_1 fn_leak_said := ⟨_, Tryz.func56, by kernel_rfl⟩
end leak_Flow_1

namespace leak_Next_1
noncomputable def cfg : Cfg := { pure := pures, pcs := [], raw := [], cuts := [], draws := [], keep := [] }
@[simp] noncomputable def r0 (_ : Unit) : List Stp := [S 1 (.recov), S 2 (.call (.c (.func (.func fn_leak_said) [] [])) [(.t 1), (.t 0)])]
@[simp] noncomputable def ir : IR := (.ops r0)
@[simp] noncomputable def rs : List RV := []
theorem comp : compF Pg cfg Tryz.f57 = some (ir, rs, 3) := by kernel_rfl
theorem enter {args : List AVal} {h : Heap} {K : AEnd → Heap → Prop} (F : Nat) (hl : args.length ≤ 3) (a : AW ⟨Pg, F, 3, false, []⟩ ir (RetK rs K) (initT args) [] h) : ACalls Pg fn_leak_Next_1 args h K :=
  ACalls.of_comp follows Tryz.func57 comp hl a
theorem pure {args : List AVal} {v : AVal} (hl : args.length ≤ 3) (a : AW ⟨Pg, 0, 3, false, []⟩ ir (RetK rs fun e _ => e = .ret v) (initT args) [] nilH) : APure Pg fn_leak_Next_1 args v :=
  APure.of_nil (enter 0 hl a)
theorem recClo : RecClo Pg fn_leak_Next_1 fn_leak_said := ⟨_, Tryz.func57, by kernel_rfl⟩
end leak_Next_1

namespace leak_best_leak_place
noncomputable def cfg : Cfg := { pure := pures, pcs := [], raw := [], cuts := [], draws := [], keep := [] }
@[simp] noncomputable def r0 (_ : Unit) : List Stp := [S 3 (.box (.t 1)), S 4 (.alloc [(.int .i64 0), (.int .i64 0)]), S 5 (.mv (.c (.int .i64 0)))]
@[simp] noncomputable def r1 (_ : Unit) : List Stp := [S 9 (.mv (.t 0)), S 10 (.len (.t 9)), S 11 (.mv (.c (.int .i64 0)))]
@[simp] noncomputable def r2 (_ : Unit) : List Stp := [S 12 (.bin .lss (.t 11) (.t 10))]
@[simp] noncomputable def r3 (_ : Unit) : List Stp := [S 13 (.mv (.t 11)), S 14 (.ixS 2 (.t 9) (.t 11)), S 15 (.load true 2 (.t 14)), S 7 (.alloc [(.int .i64 0), (.int .i64 0)]), S 6 (.mv (.t 13)), SN (.store 2 (.t 7) (.t 15))]
@[simp] noncomputable def r4 (_ : Unit) : List Stp := [S 16 (.fAddr 0 (.t 3)), S 17 (.load false 1 (.t 16)), S 18 (.load true 2 (.t 7)), S 19 (.call (.t 17) [(.t 18)]), S 8 (.mv (.t 19))]
@[simp] noncomputable def r5 (_ : Unit) : List Stp := [S 20 (.mv (.t 6)), S 21 (.bin .eql (.t 20) (.c (.int .i64 0))), S 22 (.mv (.t 21)), SG 23 22 false (.mv (.t 8)), SG 24 22 false (.mv (.t 5)), SG 25 22 false (.bin .lss (.t 23) (.t 24)), S 26 (.pick (.t 22) (.c (.bool true)) (.t 25))]
@[simp] noncomputable def r6 (_ : Unit) : List Stp := [S 27 (.load true 2 (.t 7)), S 28 (.mv (.t 8)), SN (.store 2 (.t 4) (.t 27)), S 5 (.mv (.t 28))]
@[simp] noncomputable def r7 (_ : Unit) : List Stp := [S 29 (.bin .add (.t 11) (.c (.int .i64 1))), S 11 (.mv (.t 29))]
@[simp] noncomputable def r8 (_ : Unit) : List Stp := [S 30 (.load true 2 (.t 4)), S 31 (.mv (.t 5)), SN (.store 2 (.t 4) (.t 30)), S 5 (.mv (.t 31))]
@[simp] noncomputable def ir : IR := (.seq (.ops r0) (.seq (.seq (.ops r1) (.block 0 (.loop (.seq (.ops r2) (.seq (.cond (.t 12) .skip (.exit 0)) (.seq (.block 1 (.seq (.ops r3) (.seq (.ops r4) (.seq (.ops r5) (.cond (.t 26) (.ops r6) .skip))))) (.ops r7))))))) (.seq (.ops r8) .ret)))
@[simp] noncomputable def rs : List RV := [.cell 4 true 2, .tmp 5]
theorem comp : compF Pg cfg Tryz.f58 = some (ir, rs, 32) := by kernel_rfl
theorem enter {args : List AVal} {h : Heap} {K : AEnd → Heap → Prop} (F : Nat) (hl : args.length ≤ 32) (a : AW ⟨Pg, F, 32, false, []⟩ ir (RetK rs K) (initT args) [] h) : ACalls Pg fn_leak_best_leak_place args h K :=
  ACalls.of_comp follows Tryz.func58 comp hl a
theorem pure {args : List AVal} {v : AVal} (hl : args.length ≤ 32) (a : AW ⟨Pg, 0, 32, false, []⟩ ir (RetK rs fun e _ => e = .ret v) (initT args) [] nilH) : APure Pg fn_leak_best_leak_place args v :=
  APure.of_nil (enter 0 hl a)
end leak_best_leak_place

namespace leak_Next_2
noncomputable def cfg : Cfg := { pure := pures, pcs := [], raw := [], cuts := [], draws := [], keep := [] }
@[simp] noncomputable def r0 (_ : Unit) : List Stp := [S 4 (.box (.t 0)), S 5 (.mv (.c (.int .i64 0)))]
@[simp] noncomputable def r1 (_ : Unit) : List Stp := [S 14 (.load false 1 (.t 1)), S 15 (.load true 2 (.t 4)), S 16 (.call (.c (.func (.func fn_leak_hull_wet) [] [])) [(.t 14), (.t 15)]), S 6 (.mv (.t 16))]
@[simp] noncomputable def r2 (_ : Unit) : List Stp := [S 18 (.load false 1 (.t 2)), S 19 (.mv (.t 6)), S 20 (.lookup (false, [.i]) true (.int .i64 0) (.t 18) (.t 19)), S 17 (.mv (.t 20)), S 21 (.ext (.t 17) 0), S 22 (.ext (.t 17) 1), S 7 (.mv (.t 21)), S 8 (.mv (.t 22))]
@[simp] noncomputable def r3 (_ : Unit) : List Stp := [S 23 (.mv (.t 8))]
@[simp] noncomputable def r4 (_ : Unit) : List Stp := [S 24 (.mv (.t 7)), S 5 (.mv (.t 24))]
@[simp] noncomputable def r5 (_ : Unit) : List Stp := [S 25 (.mkmap), S 9 (.mv (.t 25))]
@[simp] noncomputable def r6 (_ : Unit) : List Stp := [S 26 (.load false 1 (.t 3)), S 27 (.len (.t 26)), S 28 (.mv (.c (.int .i64 0)))]
@[simp] noncomputable def r7 (_ : Unit) : List Stp := [S 29 (.bin .lss (.t 28) (.t 27))]
@[simp] noncomputable def r8 (_ : Unit) : List Stp := [S 30 (.ixS 6 (.t 26) (.t 28)), S 31 (.load true 6 (.t 30)), S 11 (.alloc [(.int .i64 0), (.int .i64 0), (.int .i64 0), (.int .i64 0), (.int .i64 0), (.int .i64 0)]), SN (.store 6 (.t 11) (.t 31))]
@[simp] noncomputable def r9 (_ : Unit) : List Stp := [S 32 (.mv (.t 9)), S 33 (.load true 6 (.t 11)), S 34 (.mv (.t 6)), SP 35 (.call (.c (.func (.func fn_leak_inflow_sum) [] [])) [(.t 33), (.t 34)]), S 36 (.lookup (false, [.i]) false (.int .i64 0) (.t 32) (.t 35)), S 37 (.bin .add (.t 36) (.c (.int .i64 1))), SN (.mapU (false, [.i]) (.t 32) (.t 35) (.t 37))]
@[simp] noncomputable def r10 (_ : Unit) : List Stp := [S 38 (.bin .add (.t 28) (.c (.int .i64 1))), S 28 (.mv (.t 38))]
@[simp] noncomputable def r11 (_ : Unit) : List Stp := [S 39 (.mv (.t 9)), S 40 (.range (.t 39))]
@[simp] noncomputable def r12 (_ : Unit) : List Stp := [S 41 (.next (.t 40)), S 42 (.ext (.t 41) 0)]
@[simp] noncomputable def r13 (_ : Unit) : List Stp := [S 43 (.entry (.t 40)), S 44 (.ext (.t 43) 1), S 13 (.mv (.t 44))]
@[simp] noncomputable def r14 (_ : Unit) : List Stp := [S 45 (.load false 1 (.t 2)), S 46 (.mv (.t 6)), S 47 (.load false 1 (.t 2)), S 48 (.mv (.t 6)), S 49 (.lookup (false, [.i]) false (.int .i64 0) (.t 47) (.t 48)), S 50 (.mv (.t 13)), S 51 (.mm true [(.t 49), (.t 50)]), SN (.mapU (false, [.i]) (.t 45) (.t 46) (.t 51))]
@[simp] noncomputable def r15 (_ : Unit) : List Stp := [S 52 (.load false 1 (.t 2)), S 53 (.mv (.t 6)), S 54 (.lookup (false, [.i]) false (.int .i64 0) (.t 52) (.t 53)), S 5 (.mv (.t 54))]
@[simp] noncomputable def ir : IR := (.seq (.ops r0) (.seq (.ops r1) (.seq (.seq (.ops r2) (.seq (.ops r3) (.cond (.t 23) (.seq (.ops r4) .ret) .skip))) (.seq (.ops r5) (.seq (.seq (.ops r6) (.block 0 (.loop (.seq (.ops r7) (.seq (.cond (.t 29) .skip (.exit 0)) (.seq (.block 1 (.seq (.ops r8) (.ops r9))) (.ops r10))))))) (.seq (.seq (.ops r11) (.block 2 (.loop (.seq (.ops r12) (.seq (.cond (.t 42) .skip (.exit 2)) (.block 3 (.seq (.ops r13) (.ops r14)))))))) (.seq (.ops r15) .ret)))))))
@[simp] noncomputable def rs : List RV := [.tmp 5]
theorem comp : compF Pg cfg Tryz.f59 = some (ir, rs, 55) := by kernel_rfl
theorem enter {args : List AVal} {h : Heap} {K : AEnd → Heap → Prop} (F : Nat) (hl : args.length ≤ 55) (a : AW ⟨Pg, F, 55, false, []⟩ ir (RetK rs K) (initT args) [] h) : ACalls Pg fn_leak_Next_2 args h K :=
  ACalls.of_comp follows Tryz.func59 comp hl a
theorem pure {args : List AVal} {v : AVal} (hl : args.length ≤ 55) (a : AW ⟨Pg, 0, 55, false, []⟩ ir (RetK rs fun e _ => e = .ret v) (initT args) [] nilH) : APure Pg fn_leak_Next_2 args v :=
  APure.of_nil (enter 0 hl a)
end leak_Next_2

namespace leak_inflow_sum
noncomputable def cfg : Cfg := { pure := pures, pcs := [], raw := [], cuts := [], draws := [], keep := [] }
@[simp] noncomputable def r0 (_ : Unit) : List Stp := [S 2 (.box (.t 0)), S 4 (.mv (.c (.int .i64 0)))]
@[simp] noncomputable def r1 (_ : Unit) : List Stp := [S 7 (.load true 6 (.t 2)), S 8 (.mv (.c (.int .i64 0)))]
@[simp] noncomputable def r2 (_ : Unit) : List Stp := [S 9 (.bin .lss (.t 8) (.c (.int .i64 6)))]
@[simp] noncomputable def r3 (_ : Unit) : List Stp := [S 10 (.mv (.t 8)), S 11 (.ixV 6 1 false (.t 7) (.t 8)), S 5 (.mv (.t 10)), S 6 (.mv (.t 11))]
@[simp] noncomputable def r4 (_ : Unit) : List Stp := [S 12 (.mv (.t 1)), S 13 (.mv (.t 5)), SP 14 (.call (.c (.func (.func fn_leak_set_has) [] [])) [(.t 12), (.t 13)])]
@[simp] noncomputable def r5 (_ : Unit) : List Stp := [S 15 (.mv (.t 4)), S 16 (.mv (.t 6)), S 17 (.bsl 2 [(.int .i64 0), (.int .i64 0)] [(0, 1, (.t 15)), (1, 1, (.t 16))]), S 18 (.call (.c (.func (.func fn_leak_flows) [] [])) [(.t 17)]), S 4 (.mv (.t 18))]
@[simp] noncomputable def r6 (_ : Unit) : List Stp := [S 19 (.bin .add (.t 8) (.c (.int .i64 1))), S 8 (.mv (.t 19))]
@[simp] noncomputable def r7 (_ : Unit) : List Stp := [S 20 (.mv (.t 4)), S 4 (.mv (.t 20))]
@[simp] noncomputable def ir : IR := (.seq (.ops r0) (.seq (.seq (.ops r1) (.block 0 (.loop (.seq (.ops r2) (.seq (.cond (.t 9) .skip (.exit 0)) (.seq (.block 1 (.seq (.ops r3) (.seq (.ops r4) (.cond (.t 14) (.ops r5) .skip)))) (.ops r6))))))) (.seq (.ops r7) .ret)))
@[simp] noncomputable def rs : List RV := [.tmp 4]
theorem comp : compF Pg cfg Tryz.f60 = some (ir, rs, 21) := by kernel_rfl
theorem enter {args : List AVal} {h : Heap} {K : AEnd → Heap → Prop} (F : Nat) (hl : args.length ≤ 21) (a : AW ⟨Pg, F, 21, false, []⟩ ir (RetK rs K) (initT args) [] h) : ACalls Pg fn_leak_inflow_sum args h K :=
  ACalls.of_comp follows Tryz.func60 comp hl a
theorem pure {args : List AVal} {v : AVal} (hl : args.length ≤ 21) (a : AW ⟨Pg, 0, 21, false, []⟩ ir (RetK rs fun e _ => e = .ret v) (initT args) [] nilH) : APure Pg fn_leak_inflow_sum args v :=
  APure.of_nil (enter 0 hl a)
end leak_inflow_sum

namespace ref01_left
noncomputable def cfg : Cfg := { pure := pures, pcs := [], raw := [], cuts := [], draws := [], keep := [] }
@[simp] noncomputable def r0 (_ : Unit) : List Stp := [S 4 (.mv (.c (.int .i64 0)))]
@[simp] noncomputable def r1 (_ : Unit) : List Stp := [S 5 (.mv (.c (.int .i64 0)))]
@[simp] noncomputable def r2 (_ : Unit) : List Stp := [S 6 (.mv (.c (.int .i64 0)))]
@[simp] noncomputable def r3 (_ : Unit) : List Stp := [S 9 (.mv (.t 6)), S 10 (.bin .leq (.t 9) (.c (.int .i64 24)))]
@[simp] noncomputable def r5 (_ : Unit) : List Stp := [S 7 (.mv (.c (.int .i64 0)))]
@[simp] noncomputable def r6 (_ : Unit) : List Stp := [S 8 (.mv (.c (.int .i64 0)))]
@[simp] noncomputable def r7 (_ : Unit) : List Stp := [S 13 (.mv (.t 8)), S 14 (.mv (.t 0)), S 15 (.len (.t 14)), S 16 (.bin .lss (.t 13) (.t 15))]
@[simp] noncomputable def r9 (_ : Unit) : List Stp := [S 19 (.mv (.t 0)), S 20 (.mv (.t 8)), S 21 (.ixS 1 (.t 19) (.t 20)), S 22 (.load false 1 (.t 21)), S 23 (.mv (.t 1)), SP 24 (.call (.c (.func (.func fn_ref01_Sum) [] [])) [(.t 22), (.t 23)]), S 25 (.mv (.t 6)), S 26 (.bin .eql (.t 24) (.t 25))]
@[simp] noncomputable def r10 (_ : Unit) : List Stp := [S 27 (.mv (.t 7)), S 28 (.bin .add (.t 27) (.c (.int .i64 1))), S 7 (.mv (.t 28))]
@[simp] noncomputable def r8 (_ : Unit) : List Stp := [S 17 (.mv (.t 8)), S 18 (.bin .add (.t 17) (.c (.int .i64 1))), S 8 (.mv (.t 18))]
@[simp] noncomputable def r11 (_ : Unit) : List Stp := [S 29 (.mv (.t 5)), S 30 (.mv (.t 7)), S 31 (.mm true [(.t 29), (.t 30)]), S 5 (.mv (.t 31))]
@[simp] noncomputable def r4 (_ : Unit) : List Stp := [S 11 (.mv (.t 6)), S 12 (.bin .add (.t 11) (.c (.int .i64 1))), S 6 (.mv (.t 12))]
@[simp] noncomputable def r12 (_ : Unit) : List Stp := [S 32 (.mv (.t 5)), S 4 (.mv (.t 32))]
@[simp] noncomputable def ir : IR := (.seq (.ops r0) (.seq (.ops r1) (.seq (.seq (.ops r2) (.block 0 (.loop (.seq (.seq (.ops r3) (.cond (.t 10) .skip (.exit 0))) (.seq (.block 1 (.seq (.ops r5) (.seq (.seq (.ops r6) (.block 2 (.loop (.seq (.seq (.ops r7) (.cond (.t 16) .skip (.exit 2))) (.seq (.block 3 (.seq (.ops r9) (.cond (.t 26) (.ops r10) .skip))) (.ops r8)))))) (.ops r11)))) (.ops r4)))))) (.seq (.ops r12) .ret))))
@[simp] noncomputable def rs : List RV := [.tmp 4]
theorem comp : compF Pg cfg Tryz.f61 = some (ir, rs, 33) := by kernel_rfl
theorem enter {args : List AVal} {h : Heap} {K : AEnd → Heap → Prop} (F : Nat) (hl : args.length ≤ 33) (a : AW ⟨Pg, F, 33, false, []⟩ ir (RetK rs K) (initT args) [] h) : ACalls Pg fn_ref01_left args h K :=
  ACalls.of_comp follows Tryz.func61 comp hl a
theorem pure {args : List AVal} {v : AVal} (hl : args.length ≤ 33) (a : AW ⟨Pg, 0, 33, false, []⟩ ir (RetK rs fun e _ => e = .ret v) (initT args) [] nilH) : APure Pg fn_ref01_left args v :=
  APure.of_nil (enter 0 hl a)
end ref01_left

namespace ref01_in
noncomputable def cfg : Cfg := { pure := pures, pcs := [], raw := [], cuts := [], draws := [], keep := [] }
@[simp] noncomputable def r0 (_ : Unit) : List Stp := [S 6 (.mv (.c (.bool false)))]
@[simp] noncomputable def r1 (_ : Unit) : List Stp := [S 7 (.mv (.t 1)), S 8 (.mv (.t 0)), S 9 (.bin .leq (.t 7) (.t 8)), S 10 (.mv (.t 9)), SG 11 10 true (.mv (.t 0)), SG 12 10 true (.mv (.t 2)), SG 13 10 true (.bin .leq (.t 11) (.t 12)), S 14 (.pick (.t 10) (.t 13) (.c (.bool false))), S 6 (.mv (.t 14))]
@[simp] noncomputable def ir : IR := (.seq (.ops r0) (.seq (.ops r1) .ret))
@[simp] noncomputable def rs : List RV := [.tmp 6]
theorem comp : compF Pg cfg Tryz.f62 = some (ir, rs, 15) := by kernel_rfl
theorem enter {args : List AVal} {h : Heap} {K : AEnd → Heap → Prop} (F : Nat) (hl : args.length ≤ 15) (a : AW ⟨Pg, F, 15, false, []⟩ ir (RetK rs K) (initT args) [] h) : ACalls Pg fn_ref01_in args h K :=
  ACalls.of_comp follows Tryz.func62 comp hl a
theorem pure {args : List AVal} {v : AVal} (hl : args.length ≤ 15) (a : AW ⟨Pg, 0, 15, false, []⟩ ir (RetK rs fun e _ => e = .ret v) (initT args) [] nilH) : APure Pg fn_ref01_in args v :=
  APure.of_nil (enter 0 hl a)
end ref01_in

namespace leak_Clash_1
noncomputable def cfg : Cfg := { pure := pures, pcs := [], raw := [], cuts := [], draws := [], keep := [] }
@[simp] noncomputable def r0 (_ : Unit) : List Stp := [S 1 (.recov), S 2 (.call (.c (.func (.func fn_leak_said) [] [])) [(.t 1), (.t 0)])]
@[simp] noncomputable def ir : IR := (.ops r0)
@[simp] noncomputable def rs : List RV := []
theorem comp : compF Pg cfg Tryz.f63 = some (ir, rs, 3) := by kernel_rfl
theorem enter {args : List AVal} {h : Heap} {K : AEnd → Heap → Prop} (F : Nat) (hl : args.length ≤ 3) (a : AW ⟨Pg, F, 3, false, []⟩ ir (RetK rs K) (initT args) [] h) : ACalls Pg fn_leak_Clash_1 args h K :=
  ACalls.of_comp follows Tryz.func63 comp hl a
theorem pure {args : List AVal} {v : AVal} (hl : args.length ≤ 3) (a : AW ⟨Pg, 0, 3, false, []⟩ ir (RetK rs fun e _ => e = .ret v) (initT args) [] nilH) : APure Pg fn_leak_Clash_1 args v :=
  APure.of_nil (enter 0 hl a)
theorem recClo : RecClo Pg fn_leak_Clash_1 fn_leak_said := ⟨_, Tryz.func63, by kernel_rfl⟩
end leak_Clash_1

namespace leak_want
noncomputable def cfg : Cfg := { pure := pures, pcs := [], raw := [], cuts := [], draws := [], keep := [] }
@[simp] noncomputable def r0 (_ : Unit) : List Stp := [S 4 (.mv (.t 0)), S 5 (.un .not (.t 4))]
@[simp] noncomputable def r1 (_ : Unit) : List Stp := [S 6 (.mv (.t 1)), S 7 (.build [(.int .i64 0)] [(0, 1, (.t 6))]), S 8 (.mkI 99 (.t 7)), SN (.panic (.t 8))]
@[simp] noncomputable def ir : IR := (.seq (.ops r0) (.cond (.t 5) (.ops r1) .skip))
@[simp] noncomputable def rs : List RV := []
theorem comp : compF Pg cfg Tryz.f64 = some (ir, rs, 9) := by kernel_rfl
theorem enter {args : List AVal} {h : Heap} {K : AEnd → Heap → Prop} (F : Nat) (hl : args.length ≤ 9) (a : AW ⟨Pg, F, 9, false, []⟩ ir (RetK rs K) (initT args) [] h) : ACalls Pg fn_leak_want args h K :=
  ACalls.of_comp follows Tryz.func64 comp hl a
theorem pure {args : List AVal} {v : AVal} (hl : args.length ≤ 9) (a : AW ⟨Pg, 0, 9, false, []⟩ ir (RetK rs fun e _ => e = .ret v) (initT args) [] nilH) : APure Pg fn_leak_want args v :=
  APure.of_nil (enter 0 hl a)
end leak_want

namespace leak_hull_can
noncomputable def cfg : Cfg := { pure := pures, pcs := [], raw := [], cuts := [], draws := [], keep := [] }
@[simp] noncomputable def r0 (_ : Unit) : List Stp := [S 4 (.alloc [(.bool false)])]
@[simp] noncomputable def r1 (_ : Unit) : List Stp := [S 5 (.mv (.t 0)), S 6 (.mv (.t 1)), S 7 (.call (.c (.func (.func fn_leak_hull_inflows) [] [])) [(.t 5), (.t 6)])]
@[simp] noncomputable def r2 (_ : Unit) : List Stp := [SN (.store 1 (.t 4) (.c (.bool true)))]
@[simp] noncomputable def r3 (_ : Unit) : List Stp := [SN (.store 1 (.t 4) (.c (.bool false)))]
@[simp] noncomputable def ir : IR := (.seq (.ops r0) (.seq (.seq (.ops r1) (.block 0 (.rangeF (.t 7) [8] .skip (.block 1 (.seq (.ops r2) .ret))))) (.seq (.ops r3) .ret)))
@[simp] noncomputable def rs : List RV := [.cell 4 false 1]
theorem comp : compF Pg cfg Tryz.f65 = some (ir, rs, 9) := by kernel_rfl
theorem enter {args : List AVal} {h : Heap} {K : AEnd → Heap → Prop} (F : Nat) (hl : args.length ≤ 9) (a : AW ⟨Pg, F, 9, false, []⟩ ir (RetK rs K) (initT args) [] h) : ACalls Pg fn_leak_hull_can args h K :=
  ACalls.of_comp follows Tryz.func65 comp hl a
theorem pure {args : List AVal} {v : AVal} (hl : args.length ≤ 9) (a : AW ⟨Pg, 0, 9, false, []⟩ ir (RetK rs fun e _ => e = .ret v) (initT args) [] nilH) : APure Pg fn_leak_hull_can args v :=
  APure.of_nil (enter 0 hl a)
end leak_hull_can

namespace leak_hull_every
noncomputable def cfg : Cfg := { pure := pures, pcs := [], raw := [], cuts := [], draws := [], keep := [] }
@[simp] noncomputable def r0 (_ : Unit) : List Stp := [S 2 (.mv (.c (.int .u64 0)))]
@[simp] noncomputable def r1 (_ : Unit) : List Stp := [S 3 (.mv (.t 0)), S 4 (.nilck Pg (.t 3)), S 5 (.fAddr 0 (.t 4)), S 6 (.fAddr 1 (.t 5)), S 7 (.load false 1 (.t 6)), S 8 (.len (.t 7)), S 9 (.bin .shl (.c (.int .u64 1)) (.t 8)), S 10 (.bin .sub (.t 9) (.c (.int .u64 1))), S 2 (.mv (.t 10))]
@[simp] noncomputable def ir : IR := (.seq (.ops r0) (.seq (.ops r1) .ret))
@[simp] noncomputable def rs : List RV := [.tmp 2]
theorem comp : compF Pg cfg Tryz.f66 = some (ir, rs, 11) := by kernel_rfl
theorem enter {args : List AVal} {h : Heap} {K : AEnd → Heap → Prop} (F : Nat) (hl : args.length ≤ 11) (a : AW ⟨Pg, F, 11, false, []⟩ ir (RetK rs K) (initT args) [] h) : ACalls Pg fn_leak_hull_every args h K :=
  ACalls.of_comp follows Tryz.func66 comp hl a
theorem pure {args : List AVal} {v : AVal} (hl : args.length ≤ 11) (a : AW ⟨Pg, 0, 11, false, []⟩ ir (RetK rs fun e _ => e = .ret v) (initT args) [] nilH) : APure Pg fn_leak_hull_every args v :=
  APure.of_nil (enter 0 hl a)
end leak_hull_every

namespace leak_sums
noncomputable def cfg : Cfg := { pure := pures, pcs := [], raw := [], cuts := [], draws := [(1, [⟨0, false, [], []⟩, ⟨1, false, [], []⟩, ⟨2, false, [], []⟩, ⟨5, false, [], []⟩, ⟨6, false, [], []⟩, ⟨7, false, [], []⟩, ⟨3, false, [], []⟩, ⟨8, false, [], []⟩, ⟨4, false, [11], [8]⟩, ⟨9, false, [11], []⟩, ⟨10, false, [], []⟩, ⟨11, true, [], []⟩, ⟨12, false, [], []⟩]), (5, [⟨0, false, [], []⟩, ⟨2, false, [], []⟩, ⟨6, false, [], []⟩, ⟨8, false, [], []⟩, ⟨1, false, [], []⟩, ⟨3, false, [], []⟩, ⟨7, false, [], []⟩, ⟨9, false, [], []⟩, ⟨4, false, [], [1, 7, 9]⟩, ⟨5, false, [], []⟩, ⟨10, false, [], [1, 7]⟩, ⟨11, false, [], []⟩, ⟨12, false, [], []⟩, ⟨13, false, [], []⟩])], keep := [] }
@[simp] noncomputable def r0 (_ : Unit) : List Stp := [S 4 (.alloc [(.int .i64 0), (.int .i64 0)])]
@[simp] noncomputable def r1 (_ : Unit) : List Stp := [S 8 (.mv (.t 1)), S 9 (.mv (.t 0)), S 10 (.ixS 6 (.t 9) (.c (.int .i64 0))), S 13 (.mv (.t 1)), S 14 (.mv (.t 0)), S 15 (.ixS 6 (.t 14) (.c (.int .i64 0))), S 11 (.load true 6 (.t 10)), S 16 (.load true 6 (.t 15)), SD (some 12) (.call (.t 8) [(.t 11)]) false [I 5 (.alloc [(.int .i64 0), (.int .i64 0)])] [I 16 (.load true 6 (.t 15))], SD (some 17) (.call (.t 13) [(.t 16)]) false [I 5 (.alloc [(.int .i64 0), (.int .i64 0)])] [], S 18 (.build [(.int .i64 0), (.int .i64 0)] [(0, 1, (.t 12)), (1, 1, (.t 17))]), SD (some 5) (.alloc [(.int .i64 0), (.int .i64 0)]) true [] [], SN (.store 2 (.t 5) (.t 18))]
@[simp] noncomputable def r2 (_ : Unit) : List Stp := [S 19 (.mv (.t 0)), S 20 (.len (.t 19)), S 21 (.mv (.c (.int .i64 0)))]
@[simp] noncomputable def r3 (_ : Unit) : List Stp := [S 22 (.bin .lss (.t 21) (.t 20))]
@[simp] noncomputable def r4 (_ : Unit) : List Stp := [S 23 (.ixS 6 (.t 19) (.t 21)), S 24 (.load true 6 (.t 23)), S 7 (.alloc [(.int .i64 0), (.int .i64 0), (.int .i64 0), (.int .i64 0), (.int .i64 0), (.int .i64 0)]), SN (.store 6 (.t 7) (.t 24))]
@[simp] noncomputable def r5 (_ : Unit) : List Stp := [S 25 (.fAddr 0 (.t 5)), S 27 (.mv (.t 1)), S 31 (.fAddr 1 (.t 5)), S 33 (.mv (.t 1)), S 26 (.load false 1 (.t 25)), S 28 (.load true 6 (.t 7)), S 32 (.load false 1 (.t 31)), S 34 (.load true 6 (.t 7)), SD (some 29) (.call (.t 27) [(.t 28)]) false [] [I 26 (.load false 1 (.t 25)), I 32 (.load false 1 (.t 31)), I 34 (.load true 6 (.t 7))], S 30 (.mm false [(.t 26), (.t 29)]), SD (some 35) (.call (.t 33) [(.t 34)]) false [] [I 26 (.load false 1 (.t 25)), I 32 (.load false 1 (.t 31))], S 36 (.mm true [(.t 32), (.t 35)]), S 37 (.build [(.int .i64 0), (.int .i64 0)] [(0, 1, (.t 30)), (1, 1, (.t 36))]), SN (.store 2 (.t 5) (.t 37))]
@[simp] noncomputable def r6 (_ : Unit) : List Stp := [S 38 (.bin .add (.t 21) (.c (.int .i64 1))), S 21 (.mv (.t 38))]
@[simp] noncomputable def r7 (_ : Unit) : List Stp := [S 39 (.load true 2 (.t 5)), SN (.store 2 (.t 4) (.t 39))]
@[simp] noncomputable def ir : IR := (.seq (.ops r0) (.seq (.ops r1) (.seq (.seq (.ops r2) (.block 0 (.loop (.seq (.ops r3) (.seq (.cond (.t 22) .skip (.exit 0)) (.seq (.block 1 (.seq (.ops r4) (.ops r5))) (.ops r6))))))) (.seq (.ops r7) .ret))))
@[simp] noncomputable def rs : List RV := [.cell 4 true 2]
theorem comp : compF Pg cfg Tryz.f67 = some (ir, rs, 40) := by kernel_rfl
theorem enter {args : List AVal} {h : Heap} {K : AEnd → Heap → Prop} (F : Nat) (hl : args.length ≤ 40) (a : AW ⟨Pg, F, 40, false, []⟩ ir (RetK rs K) (initT args) [] h) : ACalls Pg fn_leak_sums args h K :=
  ACalls.of_comp follows Tryz.func67 comp hl a
theorem pure {args : List AVal} {v : AVal} (hl : args.length ≤ 40) (a : AW ⟨Pg, 0, 40, false, []⟩ ir (RetK rs fun e _ => e = .ret v) (initT args) [] nilH) : APure Pg fn_leak_sums args v :=
  APure.of_nil (enter 0 hl a)
end leak_sums

namespace leak_hull_total_1
noncomputable def cfg : Cfg := { pure := pures, pcs := [], raw := [], cuts := [], draws := [], keep := [] }
@[simp] noncomputable def r0 (_ : Unit) : List Stp := [S 3 (.box (.t 0)), S 4 (.mv (.c (.int .i64 0)))]
@[simp] noncomputable def r1 (_ : Unit) : List Stp := [S 5 (.load false 1 (.t 1)), S 6 (.load true 6 (.t 3)), S 7 (.load false 1 (.t 2)), S 8 (.call (.t 5) [(.t 6), (.t 7)]), S 4 (.mv (.t 8))]
@[simp] noncomputable def ir : IR := (.seq (.ops r0) (.seq (.ops r1) .ret))
@[simp] noncomputable def rs : List RV := [.tmp 4]
theorem comp : compF Pg cfg Tryz.f68 = some (ir, rs, 9) := by kernel_rfl
theorem enter {args : List AVal} {h : Heap} {K : AEnd → Heap → Prop} (F : Nat) (hl : args.length ≤ 9) (a : AW ⟨Pg, F, 9, false, []⟩ ir (RetK rs K) (initT args) [] h) : ACalls Pg fn_leak_hull_total_1 args h K :=
  ACalls.of_comp follows Tryz.func68 comp hl a
theorem pure {args : List AVal} {v : AVal} (hl : args.length ≤ 9) (a : AW ⟨Pg, 0, 9, false, []⟩ ir (RetK rs fun e _ => e = .ret v) (initT args) [] nilH) : APure Pg fn_leak_hull_total_1 args v :=
  APure.of_nil (enter 0 hl a)
end leak_hull_total_1

namespace ref01_Truths
noncomputable def cfg : Cfg := { pure := pures, pcs := [], raw := [], cuts := [], draws := [(1, [⟨0, false, [], []⟩, ⟨1, false, [], []⟩, ⟨2, false, [], []⟩, ⟨3, false, [], []⟩, ⟨4, false, [], []⟩])], keep := [] }
@[simp] noncomputable def r0 (_ : Unit) : List Stp := [S 1 (.box (.t 0)), S 2 (.mv (.c .nils))]
@[simp] noncomputable def r1 (_ : Unit) : List Stp := [S 3 (.load true 2 (.t 1)), S 4 (.load true 2 (.t 1)), SP 5 (.call (.c (.func (.func fn_ref01_every) [] [])) [(.t 4)]), S 6 (.call (.c (.func (.func fn_ref01_truths) [] [])) [(.t 3), (.t 5), (.c .nils), (.c .nils)]), S 2 (.mv (.t 6))]
@[simp] noncomputable def ir : IR := (.seq (.ops r0) (.seq (.ops r1) .ret))
@[simp] noncomputable def rs : List RV := [.tmp 2]
theorem comp : compF Pg cfg Tryz.f69 = some (ir, rs, 7) := by kernel_rfl
theorem enter {args : List AVal} {h : Heap} {K : AEnd → Heap → Prop} (F : Nat) (hl : args.length ≤ 7) (a : AW ⟨Pg, F, 7, false, []⟩ ir (RetK rs K) (initT args) [] h) : ACalls Pg fn_ref01_Truths args h K :=
  ACalls.of_comp follows Tryz.func69 comp hl a
theorem pure {args : List AVal} {v : AVal} (hl : args.length ≤ 7) (a : AW ⟨Pg, 0, 7, false, []⟩ ir (RetK rs fun e _ => e = .ret v) (initT args) [] nilH) : APure Pg fn_ref01_Truths args v :=
  APure.of_nil (enter 0 hl a)
end ref01_Truths

namespace ref01_Sum
noncomputable def cfg : Cfg := { pure := pures, pcs := [], raw := [], cuts := [], draws := [], keep := [] }
@[simp] noncomputable def r0 (_ : Unit) : List Stp := [S 4 (.mv (.c (.int .i64 0)))]
@[simp] noncomputable def r1 (_ : Unit) : List Stp := [S 5 (.mv (.c (.int .i64 0)))]
@[simp] noncomputable def r2 (_ : Unit) : List Stp := [S 6 (.mv (.c (.int .i64 0)))]
@[simp] noncomputable def r3 (_ : Unit) : List Stp := [S 7 (.mv (.t 6)), S 8 (.mv (.t 0)), S 9 (.len (.t 8)), S 10 (.bin .lss (.t 7) (.t 9))]
@[simp] noncomputable def r5 (_ : Unit) : List Stp := [S 13 (.mv (.t 1)), S 14 (.mv (.t 6)), SP 15 (.call (.c (.func (.func fn_ref01_Has) [] [])) [(.t 13), (.t 14)])]
@[simp] noncomputable def r6 (_ : Unit) : List Stp := [S 16 (.mv (.t 5)), S 17 (.mv (.t 0)), S 18 (.mv (.t 6)), S 19 (.ixS 1 (.t 17) (.t 18)), S 20 (.load false 1 (.t 19)), S 21 (.bin .add (.t 16) (.t 20)), S 5 (.mv (.t 21))]
@[simp] noncomputable def r4 (_ : Unit) : List Stp := [S 11 (.mv (.t 6)), S 12 (.bin .add (.t 11) (.c (.int .i64 1))), S 6 (.mv (.t 12))]
@[simp] noncomputable def r7 (_ : Unit) : List Stp := [S 22 (.mv (.t 5)), S 4 (.mv (.t 22))]
@[simp] noncomputable def ir : IR := (.seq (.ops r0) (.seq (.ops r1) (.seq (.seq (.ops r2) (.block 0 (.loop (.seq (.seq (.ops r3) (.cond (.t 10) .skip (.exit 0))) (.seq (.block 1 (.seq (.ops r5) (.cond (.t 15) (.ops r6) .skip))) (.ops r4)))))) (.seq (.ops r7) .ret))))
@[simp] noncomputable def rs : List RV := [.tmp 4]
theorem comp : compF Pg cfg Tryz.f70 = some (ir, rs, 23) := by kernel_rfl
theorem enter {args : List AVal} {h : Heap} {K : AEnd → Heap → Prop} (F : Nat) (hl : args.length ≤ 23) (a : AW ⟨Pg, F, 23, false, []⟩ ir (RetK rs K) (initT args) [] h) : ACalls Pg fn_ref01_Sum args h K :=
  ACalls.of_comp follows Tryz.func70 comp hl a
theorem pure {args : List AVal} {v : AVal} (hl : args.length ≤ 23) (a : AW ⟨Pg, 0, 23, false, []⟩ ir (RetK rs fun e _ => e = .ret v) (initT args) [] nilH) : APure Pg fn_ref01_Sum args v :=
  APure.of_nil (enter 0 hl a)
end ref01_Sum

namespace slices_Collect_leak_inflow
noncomputable def cfg : Cfg := { pure := pures, pcs := [], raw := [], cuts := [], draws := [], keep := [] }
@[simp] noncomputable def r0 (_ : Unit) : List Stp := [S 2 (.mv (.c .nils))]
@[simp] noncomputable def r1 (_ : Unit) : List Stp := [S 3 (.mv (.t 0)), S 4 (.call (.c (.func (.func fn_slices_AppendSeq_leak_inflow_leak_inflow) [] [])) [(.c .nils), (.t 3)]), S 2 (.mv (.t 4))]
@[simp] noncomputable def ir : IR := (.seq (.ops r0) (.seq (.ops r1) .ret))
@[simp] noncomputable def rs : List RV := [.tmp 2]
theorem comp : compF Pg cfg Tryz.f71 = some (ir, rs, 5) := by kernel_rfl
theorem enter {args : List AVal} {h : Heap} {K : AEnd → Heap → Prop} (F : Nat) (hl : args.length ≤ 5) (a : AW ⟨Pg, F, 5, false, []⟩ ir (RetK rs K) (initT args) [] h) : ACalls Pg fn_slices_Collect_leak_inflow args h K :=
  ACalls.of_comp follows Tryz.func71 comp hl a
theorem pure {args : List AVal} {v : AVal} (hl : args.length ≤ 5) (a : AW ⟨Pg, 0, 5, false, []⟩ ir (RetK rs fun e _ => e = .ret v) (initT args) [] nilH) : APure Pg fn_slices_Collect_leak_inflow args v :=
  APure.of_nil (enter 0 hl a)
end slices_Collect_leak_inflow

namespace leak_hull_inflows
noncomputable def cfg : Cfg := { pure := pures, pcs := [], raw := [], cuts := [], draws := [], keep := [] }
@[simp] noncomputable def r0 (_ : Unit) : List Stp := [S 2 (.box (.t 0)), S 4 (.mv (.c .nilf))]
@[simp] noncomputable def r1 (_ : Unit) : List Stp := [S 6 (.load false 1 (.t 2)), S 7 (.mv (.t 1)), S 8 (.call (.c (.func (.func fn_leak_hull_conditions) [] [])) [(.t 6), (.t 7)]), S 5 (.alloc [.nils]), SN (.store 1 (.t 5) (.t 8))]
@[simp] noncomputable def r2 (_ : Unit) : List Stp := [S 9 (.mkF (.func fn_leak_hull_inflows_1) [] [(.t 2), (.t 5)]), S 4 (.mv (.t 9))]
@[simp] noncomputable def ir : IR := (.seq (.ops r0) (.seq (.ops r1) (.seq (.ops r2) .ret)))
@[simp] noncomputable def rs : List RV := [.tmp 4]
theorem comp : compF Pg cfg Tryz.f72 = some (ir, rs, 10) := by kernel_rfl
theorem enter {args : List AVal} {h : Heap} {K : AEnd → Heap → Prop} (F : Nat) (hl : args.length ≤ 10) (a : AW ⟨Pg, F, 10, false, []⟩ ir (RetK rs K) (initT args) [] h) : ACalls Pg fn_leak_hull_inflows args h K :=
  ACalls.of_comp follows Tryz.func72 comp hl a
theorem pure {args : List AVal} {v : AVal} (hl : args.length ≤ 10) (a : AW ⟨Pg, 0, 10, false, []⟩ ir (RetK rs fun e _ => e = .ret v) (initT args) [] nilH) : APure Pg fn_leak_hull_inflows args v :=
  APure.of_nil (enter 0 hl a)
end leak_hull_inflows

namespace slices_Sort_int_int
noncomputable def cfg : Cfg := { pure := pures, pcs := [], raw := [], cuts := [], draws := [], keep := [] }
@[simp] noncomputable def r0 (_ : Unit) : List Stp := [S 3 (.mv (.t 0)), S 4 (.len (.t 3)), S 2 (.mv (.t 4))]
@[simp] noncomputable def r1 (_ : Unit) : List Stp := [S 5 (.mv (.t 0)), S 6 (.mv (.t 2)), S 7 (.mv (.t 2)), S 8 (.conv .u64 (.t 7)), S 9 (.call (.c (.func (.func fn_math_bits_Len) [] [])) [(.t 8)]), S 10 (.call (.c (.func (.func fn_slices_pdqsortOrdered_int) [] [])) [(.t 5), (.c (.int .i64 0)), (.t 6), (.t 9)])]
@[simp] noncomputable def ir : IR := (.seq (.ops r0) (.ops r1))
@[simp] noncomputable def rs : List RV := []
theorem comp : compF Pg cfg Tryz.f73 = some (ir, rs, 11) := by kernel_rfl
theorem enter {args : List AVal} {h : Heap} {K : AEnd → Heap → Prop} (F : Nat) (hl : args.length ≤ 11) (a : AW ⟨Pg, F, 11, false, []⟩ ir (RetK rs K) (initT args) [] h) : ACalls Pg fn_slices_Sort_int_int args h K :=
  ACalls.of_comp follows Tryz.func73 comp hl a
theorem pure {args : List AVal} {v : AVal} (hl : args.length ≤ 11) (a : AW ⟨Pg, 0, 11, false, []⟩ ir (RetK rs fun e _ => e = .ret v) (initT args) [] nilH) : APure Pg fn_slices_Sort_int_int args v :=
  APure.of_nil (enter 0 hl a)
end slices_Sort_int_int

namespace math_bits_OnesCount32
noncomputable def cfg : Cfg := { pure := pures, pcs := [], raw := [], cuts := [], draws := [(1, [⟨0, false, [], []⟩, ⟨1, false, [], []⟩, ⟨2, false, [], []⟩, ⟨3, false, [], []⟩, ⟨4, false, [], []⟩, ⟨5, false, [], []⟩, ⟨6, false, [], []⟩, ⟨7, false, [], []⟩, ⟨8, false, [], []⟩, ⟨9, false, [], []⟩, ⟨10, false, [], []⟩, ⟨11, false, [], []⟩, ⟨12, false, [], []⟩, ⟨13, false, [], []⟩, ⟨14, false, [], []⟩, ⟨15, false, [], []⟩, ⟨16, false, [], []⟩, ⟨17, false, [], []⟩, ⟨18, false, [], []⟩])], keep := [] }
@[simp] noncomputable def r0 (_ : Unit) : List Stp := [S 2 (.mv (.c (.int .i64 0)))]
@[simp] noncomputable def r1 (_ : Unit) : List Stp := [S 3 (.mv (.t 0)), S 4 (.bin .shr (.t 3) (.c (.int .u64 24))), S 5 (.ixT (.c (.str [0, 1, 1, 2, 1, 2, 2, 3, 1, 2, 2, 3, 2, 3, 3, 4, 1, 2, 2, 3, 2, 3, 3, 4, 2, 3, 3, 4, 3, 4, 4, 5, 1, 2, 2, 3, 2, 3, 3, 4, 2, 3, 3, 4, 3, 4, 4, 5, 2, 3, 3, 4, 3, 4, 4, 5, 3, 4, 4, 5, 4, 5, 5, 6, 1, 2, 2, 3, 2, 3, 3, 4, 2, 3, 3, 4, 3, 4, 4, 5, 2, 3, 3, 4, 3, 4, 4, 5, 3, 4, 4, 5, 4, 5, 5, 6, 2, 3, 3, 4, 3, 4, 4, 5, 3, 4, 4, 5, 4, 5, 5, 6, 3, 4, 4, 5, 4, 5, 5, 6, 4, 5, 5, 6, 5, 6, 6, 7, 1, 2, 2, 3, 2, 3, 3, 4, 2, 3, 3, 4, 3, 4, 4, 5, 2, 3, 3, 4, 3, 4, 4, 5, 3, 4, 4, 5, 4, 5, 5, 6, 2, 3, 3, 4, 3, 4, 4, 5, 3, 4, 4, 5, 4, 5, 5, 6, 3, 4, 4, 5, 4, 5, 5, 6, 4, 5, 5, 6, 5, 6, 6, 7, 2, 3, 3, 4, 3, 4, 4, 5, 3, 4, 4, 5, 4, 5, 5, 6, 3, 4, 4, 5, 4, 5, 5, 6, 4, 5, 5, 6, 5, 6, 6, 7, 3, 4, 4, 5, 4, 5, 5, 6, 4, 5, 5, 6, 5, 6, 6, 7, 4, 5, 5, 6, 5, 6, 6, 7, 5, 6, 6, 7, 6, 7, 7, 8])) (.t 4)), S 6 (.mv (.t 0)), S 7 (.bin .shr (.t 6) (.c (.int .u64 16))), S 8 (.bin .and (.t 7) (.c (.int .u32 255))), S 9 (.ixT (.c (.str [0, 1, 1, 2, 1, 2, 2, 3, 1, 2, 2, 3, 2, 3, 3, 4, 1, 2, 2, 3, 2, 3, 3, 4, 2, 3, 3, 4, 3, 4, 4, 5, 1, 2, 2, 3, 2, 3, 3, 4, 2, 3, 3, 4, 3, 4, 4, 5, 2, 3, 3, 4, 3, 4, 4, 5, 3, 4, 4, 5, 4, 5, 5, 6, 1, 2, 2, 3, 2, 3, 3, 4, 2, 3, 3, 4, 3, 4, 4, 5, 2, 3, 3, 4, 3, 4, 4, 5, 3, 4, 4, 5, 4, 5, 5, 6, 2, 3, 3, 4, 3, 4, 4, 5, 3, 4, 4, 5, 4, 5, 5, 6, 3, 4, 4, 5, 4, 5, 5, 6, 4, 5, 5, 6, 5, 6, 6, 7, 1, 2, 2, 3, 2, 3, 3, 4, 2, 3, 3, 4, 3, 4, 4, 5, 2, 3, 3, 4, 3, 4, 4, 5, 3, 4, 4, 5, 4, 5, 5, 6, 2, 3, 3, 4, 3, 4, 4, 5, 3, 4, 4, 5, 4, 5, 5, 6, 3, 4, 4, 5, 4, 5, 5, 6, 4, 5, 5, 6, 5, 6, 6, 7, 2, 3, 3, 4, 3, 4, 4, 5, 3, 4, 4, 5, 4, 5, 5, 6, 3, 4, 4, 5, 4, 5, 5, 6, 4, 5, 5, 6, 5, 6, 6, 7, 3, 4, 4, 5, 4, 5, 5, 6, 4, 5, 5, 6, 5, 6, 6, 7, 4, 5, 5, 6, 5, 6, 6, 7, 5, 6, 6, 7, 6, 7, 7, 8])) (.t 8)), S 10 (.bin .add (.t 5) (.t 9)), S 11 (.mv (.t 0)), S 12 (.bin .shr (.t 11) (.c (.int .u64 8))), S 13 (.bin .and (.t 12) (.c (.int .u32 255))), S 14 (.ixT (.c (.str [0, 1, 1, 2, 1, 2, 2, 3, 1, 2, 2, 3, 2, 3, 3, 4, 1, 2, 2, 3, 2, 3, 3, 4, 2, 3, 3, 4, 3, 4, 4, 5, 1, 2, 2, 3, 2, 3, 3, 4, 2, 3, 3, 4, 3, 4, 4, 5, 2, 3, 3, 4, 3, 4, 4, 5, 3, 4, 4, 5, 4, 5, 5, 6, 1, 2, 2, 3, 2, 3, 3, 4, 2, 3, 3, 4, 3, 4, 4, 5, 2, 3, 3, 4, 3, 4, 4, 5, 3, 4, 4, 5, 4, 5, 5, 6, 2, 3, 3, 4, 3, 4, 4, 5, 3, 4, 4, 5, 4, 5, 5, 6, 3, 4, 4, 5, 4, 5, 5, 6, 4, 5, 5, 6, 5, 6, 6, 7, 1, 2, 2, 3, 2, 3, 3, 4, 2, 3, 3, 4, 3, 4, 4, 5, 2, 3, 3, 4, 3, 4, 4, 5, 3, 4, 4, 5, 4, 5, 5, 6, 2, 3, 3, 4, 3, 4, 4, 5, 3, 4, 4, 5, 4, 5, 5, 6, 3, 4, 4, 5, 4, 5, 5, 6, 4, 5, 5, 6, 5, 6, 6, 7, 2, 3, 3, 4, 3, 4, 4, 5, 3, 4, 4, 5, 4, 5, 5, 6, 3, 4, 4, 5, 4, 5, 5, 6, 4, 5, 5, 6, 5, 6, 6, 7, 3, 4, 4, 5, 4, 5, 5, 6, 4, 5, 5, 6, 5, 6, 6, 7, 4, 5, 5, 6, 5, 6, 6, 7, 5, 6, 6, 7, 6, 7, 7, 8])) (.t 13)), S 15 (.bin .add (.t 10) (.t 14)), S 16 (.mv (.t 0)), S 17 (.bin .and (.t 16) (.c (.int .u32 255))), S 18 (.ixT (.c (.str [0, 1, 1, 2, 1, 2, 2, 3, 1, 2, 2, 3, 2, 3, 3, 4, 1, 2, 2, 3, 2, 3, 3, 4, 2, 3, 3, 4, 3, 4, 4, 5, 1, 2, 2, 3, 2, 3, 3, 4, 2, 3, 3, 4, 3, 4, 4, 5, 2, 3, 3, 4, 3, 4, 4, 5, 3, 4, 4, 5, 4, 5, 5, 6, 1, 2, 2, 3, 2, 3, 3, 4, 2, 3, 3, 4, 3, 4, 4, 5, 2, 3, 3, 4, 3, 4, 4, 5, 3, 4, 4, 5, 4, 5, 5, 6, 2, 3, 3, 4, 3, 4, 4, 5, 3, 4, 4, 5, 4, 5, 5, 6, 3, 4, 4, 5, 4, 5, 5, 6, 4, 5, 5, 6, 5, 6, 6, 7, 1, 2, 2, 3, 2, 3, 3, 4, 2, 3, 3, 4, 3, 4, 4, 5, 2, 3, 3, 4, 3, 4, 4, 5, 3, 4, 4, 5, 4, 5, 5, 6, 2, 3, 3, 4, 3, 4, 4, 5, 3, 4, 4, 5, 4, 5, 5, 6, 3, 4, 4, 5, 4, 5, 5, 6, 4, 5, 5, 6, 5, 6, 6, 7, 2, 3, 3, 4, 3, 4, 4, 5, 3, 4, 4, 5, 4, 5, 5, 6, 3, 4, 4, 5, 4, 5, 5, 6, 4, 5, 5, 6, 5, 6, 6, 7, 3, 4, 4, 5, 4, 5, 5, 6, 4, 5, 5, 6, 5, 6, 6, 7, 4, 5, 5, 6, 5, 6, 6, 7, 5, 6, 6, 7, 6, 7, 7, 8])) (.t 17)), S 19 (.bin .add (.t 15) (.t 18)), S 20 (.conv .i64 (.t 19)), S 2 (.mv (.t 20))]
@[simp] noncomputable def ir : IR := (.seq (.ops r0) (.seq (.ops r1) .ret))
@[simp] noncomputable def rs : List RV := [.tmp 2]
theorem comp : compF Pg cfg Tryz.f74 = some (ir, rs, 21) := by kernel_rfl
theorem enter {args : List AVal} {h : Heap} {K : AEnd → Heap → Prop} (F : Nat) (hl : args.length ≤ 21) (a : AW ⟨Pg, F, 21, false, []⟩ ir (RetK rs K) (initT args) [] h) : ACalls Pg fn_math_bits_OnesCount32 args h K :=
  ACalls.of_comp follows Tryz.func74 comp hl a
theorem pure {args : List AVal} {v : AVal} (hl : args.length ≤ 21) (a : AW ⟨Pg, 0, 21, false, []⟩ ir (RetK rs fun e _ => e = .ret v) (initT args) [] nilH) : APure Pg fn_math_bits_OnesCount32 args v :=
  APure.of_nil (enter 0 hl a)
end math_bits_OnesCount32

namespace math_bits_OnesCount64
noncomputable def cfg : Cfg := { pure := pures, pcs := [], raw := [], cuts := [], draws := [], keep := [] }
@[simp] noncomputable def r0 (_ : Unit) : List Stp := [S 2 (.mv (.c (.int .i64 0)))]
@[simp] noncomputable def r1 (_ : Unit) : List Stp := [S 3 (.mv (.t 0)), S 4 (.bin .shr (.t 3) (.c (.int .u64 1))), S 5 (.bin .and (.t 4) (.c (.int .u64 6148914691236517205))), S 6 (.mv (.t 0)), S 7 (.bin .and (.t 6) (.c (.int .u64 6148914691236517205))), S 8 (.bin .add (.t 5) (.t 7)), S 0 (.mv (.t 8))]
@[simp] noncomputable def r2 (_ : Unit) : List Stp := [S 9 (.mv (.t 0)), S 10 (.bin .shr (.t 9) (.c (.int .u64 2))), S 11 (.bin .and (.t 10) (.c (.int .u64 3689348814741910323))), S 12 (.mv (.t 0)), S 13 (.bin .and (.t 12) (.c (.int .u64 3689348814741910323))), S 14 (.bin .add (.t 11) (.t 13)), S 0 (.mv (.t 14))]
@[simp] noncomputable def r3 (_ : Unit) : List Stp := [S 15 (.mv (.t 0)), S 16 (.bin .shr (.t 15) (.c (.int .u64 4))), S 17 (.mv (.t 0)), S 18 (.bin .add (.t 16) (.t 17)), S 19 (.bin .and (.t 18) (.c (.int .u64 1085102592571150095))), S 0 (.mv (.t 19))]
@[simp] noncomputable def r4 (_ : Unit) : List Stp := [S 20 (.mv (.t 0)), S 21 (.mv (.t 0)), S 22 (.bin .shr (.t 21) (.c (.int .u64 8))), S 23 (.bin .add (.t 20) (.t 22)), S 0 (.mv (.t 23))]
@[simp] noncomputable def r5 (_ : Unit) : List Stp := [S 24 (.mv (.t 0)), S 25 (.mv (.t 0)), S 26 (.bin .shr (.t 25) (.c (.int .u64 16))), S 27 (.bin .add (.t 24) (.t 26)), S 0 (.mv (.t 27))]
@[simp] noncomputable def r6 (_ : Unit) : List Stp := [S 28 (.mv (.t 0)), S 29 (.mv (.t 0)), S 30 (.bin .shr (.t 29) (.c (.int .u64 32))), S 31 (.bin .add (.t 28) (.t 30)), S 0 (.mv (.t 31))]
@[simp] noncomputable def r7 (_ : Unit) : List Stp := [S 32 (.mv (.t 0)), S 33 (.conv .i64 (.t 32)), S 34 (.bin .and (.t 33) (.c (.int .i64 127))), S 2 (.mv (.t 34))]
@[simp] noncomputable def ir : IR := (.seq (.ops r0) (.seq (.ops r1) (.seq (.ops r2) (.seq (.ops r3) (.seq (.ops r4) (.seq (.ops r5) (.seq (.ops r6) (.seq (.ops r7) .ret))))))))
@[simp] noncomputable def rs : List RV := [.tmp 2]
theorem comp : compF Pg cfg Tryz.f75 = some (ir, rs, 35) := by kernel_rfl
theorem enter {args : List AVal} {h : Heap} {K : AEnd → Heap → Prop} (F : Nat) (hl : args.length ≤ 35) (a : AW ⟨Pg, F, 35, false, []⟩ ir (RetK rs K) (initT args) [] h) : ACalls Pg fn_math_bits_OnesCount64 args h K :=
  ACalls.of_comp follows Tryz.func75 comp hl a
theorem pure {args : List AVal} {v : AVal} (hl : args.length ≤ 35) (a : AW ⟨Pg, 0, 35, false, []⟩ ir (RetK rs fun e _ => e = .ret v) (initT args) [] nilH) : APure Pg fn_math_bits_OnesCount64 args v :=
  APure.of_nil (enter 0 hl a)
end math_bits_OnesCount64

namespace leak_set_has
noncomputable def cfg : Cfg := { pure := pures, pcs := [], raw := [], cuts := [], draws := [], keep := [] }
@[simp] noncomputable def r0 (_ : Unit) : List Stp := [S 4 (.mv (.c (.bool false)))]
@[simp] noncomputable def r1 (_ : Unit) : List Stp := [S 5 (.mv (.t 0)), S 6 (.mv (.t 1)), S 7 (.bin .shr (.t 5) (.t 6)), S 8 (.bin .and (.t 7) (.c (.int .u64 1))), S 9 (.bin .eql (.t 8) (.c (.int .u64 1))), S 4 (.mv (.t 9))]
@[simp] noncomputable def ir : IR := (.seq (.ops r0) (.seq (.ops r1) .ret))
@[simp] noncomputable def rs : List RV := [.tmp 4]
theorem comp : compF Pg cfg Tryz.f76 = some (ir, rs, 10) := by kernel_rfl
theorem enter {args : List AVal} {h : Heap} {K : AEnd → Heap → Prop} (F : Nat) (hl : args.length ≤ 10) (a : AW ⟨Pg, F, 10, false, []⟩ ir (RetK rs K) (initT args) [] h) : ACalls Pg fn_leak_set_has args h K :=
  ACalls.of_comp follows Tryz.func76 comp hl a
theorem pure {args : List AVal} {v : AVal} (hl : args.length ≤ 10) (a : AW ⟨Pg, 0, 10, false, []⟩ ir (RetK rs fun e _ => e = .ret v) (initT args) [] nilH) : APure Pg fn_leak_set_has args v :=
  APure.of_nil (enter 0 hl a)
end leak_set_has

namespace leak_flows
noncomputable def cfg : Cfg := { pure := pures, pcs := [], raw := [], cuts := [], draws := [], keep := [] }
@[simp] noncomputable def r0 (_ : Unit) : List Stp := [S 2 (.mv (.c (.int .i64 0)))]
@[simp] noncomputable def r1 (_ : Unit) : List Stp := [S 5 (.mv (.t 0)), S 6 (.len (.t 5)), S 7 (.mv (.c (.int .i64 0)))]
@[simp] noncomputable def r2 (_ : Unit) : List Stp := [S 8 (.bin .lss (.t 7) (.t 6))]
@[simp] noncomputable def r3 (_ : Unit) : List Stp := [S 9 (.ixS 1 (.t 5) (.t 7)), S 10 (.load false 1 (.t 9)), S 4 (.mv (.t 10))]
@[simp] noncomputable def r4 (_ : Unit) : List Stp := [S 11 (.mv (.t 2)), S 12 (.mv (.t 4)), S 13 (.bin .add (.t 11) (.t 12)), S 2 (.mv (.t 13))]
@[simp] noncomputable def r5 (_ : Unit) : List Stp := [S 14 (.bin .add (.t 7) (.c (.int .i64 1))), S 7 (.mv (.t 14))]
@[simp] noncomputable def r6 (_ : Unit) : List Stp := [S 15 (.mv (.t 2)), S 2 (.mv (.t 15))]
@[simp] noncomputable def ir : IR := (.seq (.ops r0) (.seq (.seq (.ops r1) (.block 0 (.loop (.seq (.ops r2) (.seq (.cond (.t 8) .skip (.exit 0)) (.seq (.block 1 (.seq (.ops r3) (.ops r4))) (.ops r5))))))) (.seq (.ops r6) .ret)))
@[simp] noncomputable def rs : List RV := [.tmp 2]
theorem comp : compF Pg cfg Tryz.f77 = some (ir, rs, 16) := by kernel_rfl
theorem enter {args : List AVal} {h : Heap} {K : AEnd → Heap → Prop} (F : Nat) (hl : args.length ≤ 16) (a : AW ⟨Pg, F, 16, false, []⟩ ir (RetK rs K) (initT args) [] h) : ACalls Pg fn_leak_flows args h K :=
  ACalls.of_comp follows Tryz.func77 comp hl a
theorem pure {args : List AVal} {v : AVal} (hl : args.length ≤ 16) (a : AW ⟨Pg, 0, 16, false, []⟩ ir (RetK rs fun e _ => e = .ret v) (initT args) [] nilH) : APure Pg fn_leak_flows args v :=
  APure.of_nil (enter 0 hl a)
end leak_flows

namespace ref01_truths
noncomputable def cfg : Cfg := { pure := pures, pcs := [], raw := [], cuts := [], draws := [(8, [⟨1, false, [], []⟩, ⟨3, false, [], []⟩, ⟨5, false, [], []⟩, ⟨8, false, [], []⟩, ⟨0, false, [], []⟩, ⟨2, true, [], []⟩, ⟨6, true, [], []⟩, ⟨4, false, [], [0]⟩, ⟨7, false, [], [0]⟩, ⟨9, false, [], []⟩, ⟨10, false, [], []⟩])], keep := [] }
@[simp] noncomputable def r0 (_ : Unit) : List Stp := [S 4 (.box (.t 0)), S 8 (.mv (.c .nils))]
@[simp] noncomputable def r1 (_ : Unit) : List Stp := [S 10 (.mv (.t 2)), S 11 (.len (.t 10)), S 12 (.fAddr 0 (.t 4)), S 13 (.load false 1 (.t 12)), S 14 (.len (.t 13)), S 15 (.bin .eql (.t 11) (.t 14))]
@[simp] noncomputable def r2 (_ : Unit) : List Stp := [S 16 (.load true 2 (.t 4)), S 17 (.mv (.t 2)), S 18 (.mv (.t 1)), SP 19 (.call (.c (.func (.func fn_ref01_right) [] [])) [(.t 16), (.t 17), (.t 18)])]
@[simp] noncomputable def r3 (_ : Unit) : List Stp := [S 20 (.mv (.t 3)), S 21 (.mv (.t 2)), S 22 (.bsl 1 [.nils] [(0, 1, (.t 21))]), S 23 (.app 1 24 (.t 20) (.t 22)), S 3 (.mv (.t 23))]
@[simp] noncomputable def r4 (_ : Unit) : List Stp := [S 24 (.mv (.t 3)), S 8 (.mv (.t 24))]
@[simp] noncomputable def r5 (_ : Unit) : List Stp := [S 9 (.mv (.c (.int .i64 0)))]
@[simp] noncomputable def r6 (_ : Unit) : List Stp := [S 25 (.mv (.t 9)), S 26 (.fAddr 0 (.t 4)), S 27 (.load false 1 (.t 26)), S 28 (.mv (.t 2)), S 29 (.len (.t 28)), S 30 (.ixS 3 (.t 27) (.t 29)), S 31 (.fAddr 2 (.t 30)), S 32 (.load false 1 (.t 31)), S 33 (.bin .leq (.t 25) (.t 32))]
@[simp] noncomputable def r8 (_ : Unit) : List Stp := [S 37 (.mv (.t 1)), S 39 (.mv (.t 2)), S 41 (.mv (.t 9)), S 44 (.mv (.t 3)), S 36 (.load true 2 (.t 4)), SD (some 38) (.bsl 0 [] []) true [] [], SD (some 42) (.bsl 1 [(.int .i64 0)] [(0, 1, (.t 41))]) true [] [], SD (some 40) (.app 1 8 (.t 38) (.t 39)) false [] [I 36 (.load true 2 (.t 4))], SD (some 43) (.app 1 8 (.t 40) (.t 42)) false [] [I 36 (.load true 2 (.t 4))], S 45 (.call (.c (.func (.func fn_ref01_truths) [] [])) [(.t 36), (.t 37), (.t 43), (.t 44)]), S 3 (.mv (.t 45))]
@[simp] noncomputable def r7 (_ : Unit) : List Stp := [S 34 (.mv (.t 9)), S 35 (.bin .add (.t 34) (.c (.int .i64 1))), S 9 (.mv (.t 35))]
@[simp] noncomputable def r9 (_ : Unit) : List Stp := [S 46 (.mv (.t 3)), S 8 (.mv (.t 46))]
@[simp] noncomputable def ir : IR := (.seq (.ops r0) (.seq (.seq (.ops r1) (.cond (.t 15) (.seq (.seq (.ops r2) (.cond (.t 19) (.ops r3) .skip)) (.seq (.ops r4) .ret)) .skip)) (.seq (.seq (.ops r5) (.block 0 (.loop (.seq (.seq (.ops r6) (.cond (.t 33) .skip (.exit 0))) (.seq (.block 1 (.ops r8)) (.ops r7)))))) (.seq (.ops r9) .ret))))
@[simp] noncomputable def rs : List RV := [.tmp 8]
theorem comp : compF Pg cfg Tryz.f78 = some (ir, rs, 47) := by kernel_rfl
theorem enter {args : List AVal} {h : Heap} {K : AEnd → Heap → Prop} (F : Nat) (hl : args.length ≤ 47) (a : AW ⟨Pg, F, 47, false, []⟩ ir (RetK rs K) (initT args) [] h) : ACalls Pg fn_ref01_truths args h K :=
  ACalls.of_comp follows Tryz.func78 comp hl a
theorem pure {args : List AVal} {v : AVal} (hl : args.length ≤ 47) (a : AW ⟨Pg, 0, 47, false, []⟩ ir (RetK rs fun e _ => e = .ret v) (initT args) [] nilH) : APure Pg fn_ref01_truths args v :=
  APure.of_nil (enter 0 hl a)
end ref01_truths

namespace ref01_every
noncomputable def cfg : Cfg := { pure := pures, pcs := [], raw := [], cuts := [], draws := [], keep := [] }
@[simp] noncomputable def r0 (_ : Unit) : List Stp := [S 1 (.box (.t 0)), S 2 (.mv (.c (.int .i64 0)))]
@[simp] noncomputable def r1 (_ : Unit) : List Stp := [S 3 (.fAddr 1 (.t 1)), S 4 (.load false 1 (.t 3)), S 5 (.len (.t 4)), SP 6 (.call (.c (.func (.func fn_ref01_power) [] [])) [(.t 5)]), S 7 (.bin .sub (.t 6) (.c (.int .i64 1))), S 2 (.mv (.t 7))]
@[simp] noncomputable def ir : IR := (.seq (.ops r0) (.seq (.ops r1) .ret))
@[simp] noncomputable def rs : List RV := [.tmp 2]
theorem comp : compF Pg cfg Tryz.f79 = some (ir, rs, 8) := by kernel_rfl
theorem enter {args : List AVal} {h : Heap} {K : AEnd → Heap → Prop} (F : Nat) (hl : args.length ≤ 8) (a : AW ⟨Pg, F, 8, false, []⟩ ir (RetK rs K) (initT args) [] h) : ACalls Pg fn_ref01_every args h K :=
  ACalls.of_comp follows Tryz.func79 comp hl a
theorem pure {args : List AVal} {v : AVal} (hl : args.length ≤ 8) (a : AW ⟨Pg, 0, 8, false, []⟩ ir (RetK rs fun e _ => e = .ret v) (initT args) [] nilH) : APure Pg fn_ref01_every args v :=
  APure.of_nil (enter 0 hl a)
end ref01_every

namespace ref01_Has
noncomputable def cfg : Cfg := { pure := pures, pcs := [], raw := [], cuts := [], draws := [], keep := [] }
@[simp] noncomputable def r0 (_ : Unit) : List Stp := [S 4 (.mv (.c (.bool false)))]
@[simp] noncomputable def r1 (_ : Unit) : List Stp := [S 5 (.mv (.t 0)), S 6 (.mv (.t 1)), SP 7 (.call (.c (.func (.func fn_ref01_power) [] [])) [(.t 6)]), S 8 (.bin .quo (.t 5) (.t 7)), S 9 (.bin .rem (.t 8) (.c (.int .i64 2))), S 10 (.bin .eql (.t 9) (.c (.int .i64 1))), S 4 (.mv (.t 10))]
@[simp] noncomputable def ir : IR := (.seq (.ops r0) (.seq (.ops r1) .ret))
@[simp] noncomputable def rs : List RV := [.tmp 4]
theorem comp : compF Pg cfg Tryz.f80 = some (ir, rs, 11) := by kernel_rfl
theorem enter {args : List AVal} {h : Heap} {K : AEnd → Heap → Prop} (F : Nat) (hl : args.length ≤ 11) (a : AW ⟨Pg, F, 11, false, []⟩ ir (RetK rs K) (initT args) [] h) : ACalls Pg fn_ref01_Has args h K :=
  ACalls.of_comp follows Tryz.func80 comp hl a
theorem pure {args : List AVal} {v : AVal} (hl : args.length ≤ 11) (a : AW ⟨Pg, 0, 11, false, []⟩ ir (RetK rs fun e _ => e = .ret v) (initT args) [] nilH) : APure Pg fn_ref01_Has args v :=
  APure.of_nil (enter 0 hl a)
end ref01_Has

namespace slices_AppendSeq_leak_inflow_leak_inflow
noncomputable def cfg : Cfg := { pure := pures, pcs := [], raw := [], cuts := [], draws := [], keep := [] }
@[simp] noncomputable def r0 (_ : Unit) : List Stp := [S 2 (.box (.t 0)), S 4 (.mv (.c .nils))]
@[simp] noncomputable def r1 (_ : Unit) : List Stp := [S 6 (.mv (.t 1))]
@[simp] noncomputable def r2 (_ : Unit) : List Stp := [S 5 (.alloc [(.int .i64 0), (.int .i64 0), (.int .i64 0), (.int .i64 0), (.int .i64 0), (.int .i64 0)]), SN (.store 6 (.t 5) (.t 7))]
@[simp] noncomputable def r3 (_ : Unit) : List Stp := [S 8 (.load false 1 (.t 2)), S 9 (.load true 6 (.t 5)), S 10 (.bsl 1 [(.int .i64 0), (.int .i64 0), (.int .i64 0), (.int .i64 0), (.int .i64 0), (.int .i64 0)] [(0, 6, (.t 9))]), S 11 (.app 6 48 (.t 8) (.t 10)), SN (.store 1 (.t 2) (.t 11))]
@[simp] noncomputable def r4 (_ : Unit) : List Stp := [S 12 (.load false 1 (.t 2)), S 4 (.mv (.t 12))]
@[simp] noncomputable def ir : IR := (.seq (.ops r0) (.seq (.seq (.ops r1) (.block 0 (.rangeF (.t 6) [7] (.ops r2) (.block 1 (.ops r3))))) (.seq (.ops r4) .ret)))
@[simp] noncomputable def rs : List RV := [.tmp 4]
theorem comp : compF Pg cfg Tryz.f81 = some (ir, rs, 13) := by kernel_rfl
theorem enter {args : List AVal} {h : Heap} {K : AEnd → Heap → Prop} (F : Nat) (hl : args.length ≤ 13) (a : AW ⟨Pg, F, 13, false, []⟩ ir (RetK rs K) (initT args) [] h) : ACalls Pg fn_slices_AppendSeq_leak_inflow_leak_inflow args h K :=
  ACalls.of_comp follows Tryz.func81 comp hl a
theorem pure {args : List AVal} {v : AVal} (hl : args.length ≤ 13) (a : AW ⟨Pg, 0, 13, false, []⟩ ir (RetK rs fun e _ => e = .ret v) (initT args) [] nilH) : APure Pg fn_slices_AppendSeq_leak_inflow_leak_inflow args v :=
  APure.of_nil (enter 0 hl a)
end slices_AppendSeq_leak_inflow_leak_inflow

namespace leak_hull_conditions
noncomputable def cfg : Cfg := { pure := pures, pcs := [], raw := [], cuts := [], draws := [(6, [⟨0, false, [], []⟩, ⟨1, false, [], []⟩, ⟨2, false, [], []⟩, ⟨4, false, [], []⟩, ⟨9, false, [], []⟩, ⟨3, false, [], []⟩, ⟨5, false, [], []⟩, ⟨6, false, [], []⟩, ⟨10, false, [], []⟩, ⟨7, false, [], [10]⟩, ⟨8, false, [], []⟩, ⟨11, false, [], []⟩, ⟨12, false, [], []⟩, ⟨13, false, [], []⟩, ⟨14, false, [], []⟩, ⟨15, false, [], []⟩])], keep := [] }
@[simp] noncomputable def r0 (_ : Unit) : List Stp := [S 4 (.mv (.c .nils))]
@[simp] noncomputable def r1 (_ : Unit) : List Stp := [S 8 (.build [] []), S 9 (.mkI 135 (.t 8)), S 10 (.bsl 1 [.nili] [(0, 1, (.t 9))]), S 5 (.mv (.t 10))]
@[simp] noncomputable def r2 (_ : Unit) : List Stp := [S 11 (.mv (.t 0)), S 12 (.nilck Pg (.t 11)), S 13 (.fAddr 0 (.t 12)), S 14 (.fAddr 1 (.t 13)), S 15 (.load false 1 (.t 14)), S 16 (.len (.t 15)), S 17 (.mv (.c (.int .i64 0)))]
@[simp] noncomputable def r3 (_ : Unit) : List Stp := [S 18 (.bin .lss (.t 17) (.t 16))]
@[simp] noncomputable def r4 (_ : Unit) : List Stp := [S 19 (.mv (.t 17)), S 20 (.ixS 4 (.t 15) (.t 17)), S 21 (.load true 4 (.t 20)), S 7 (.alloc [(.int .i64 0), (.int .i64 0), (.int .i64 0), (.int .i64 0)]), S 6 (.mv (.t 19)), SN (.store 4 (.t 7) (.t 21))]
@[simp] noncomputable def r5 (_ : Unit) : List Stp := [S 22 (.mv (.t 1)), S 23 (.mv (.t 6)), S 24 (.bin .shr (.t 22) (.t 23)), S 25 (.bin .and (.t 24) (.c (.int .u64 1))), S 26 (.bin .eql (.t 25) (.c (.int .u64 1)))]
@[simp] noncomputable def r6 (_ : Unit) : List Stp := [S 27 (.mv (.t 5)), S 28 (.mv (.t 0)), S 29 (.fAddr 0 (.t 7)), S 31 (.fAddr 1 (.t 7)), S 36 (.fAddr 2 (.t 7)), S 30 (.load false 1 (.t 29)), S 32 (.load false 1 (.t 31)), S 33 (.build [(.int .i64 0), (.int .i64 0)] [(0, 1, (.t 30)), (1, 1, (.t 32))]), S 37 (.load true 2 (.t 36)), SD (some 34) (.call (.c (.func (.func fn_leak_hull_wet) [] [])) [(.t 28), (.t 33)]) false [] [I 37 (.load true 2 (.t 36))], S 35 (.build [(.int .u64 0)] [(0, 1, (.t 34))]), S 38 (.build [(.int .u64 0), (.int .i64 0), (.int .i64 0)] [(0, 1, (.t 35)), (1, 2, (.t 37))]), S 39 (.mkI 139 (.t 38)), S 40 (.bsl 1 [.nili] [(0, 1, (.t 39))]), S 41 (.app 1 16 (.t 27) (.t 40)), S 5 (.mv (.t 41))]
@[simp] noncomputable def r7 (_ : Unit) : List Stp := [S 42 (.bin .add (.t 17) (.c (.int .i64 1))), S 17 (.mv (.t 42))]
@[simp] noncomputable def r8 (_ : Unit) : List Stp := [S 43 (.mv (.t 5)), S 4 (.mv (.t 43))]
@[simp] noncomputable def ir : IR := (.seq (.ops r0) (.seq (.ops r1) (.seq (.seq (.ops r2) (.block 0 (.loop (.seq (.ops r3) (.seq (.cond (.t 18) .skip (.exit 0)) (.seq (.block 1 (.seq (.ops r4) (.seq (.ops r5) (.cond (.t 26) (.ops r6) .skip)))) (.ops r7))))))) (.seq (.ops r8) .ret))))
@[simp] noncomputable def rs : List RV := [.tmp 4]
theorem comp : compF Pg cfg Tryz.f82 = some (ir, rs, 44) := by kernel_rfl
theorem enter {args : List AVal} {h : Heap} {K : AEnd → Heap → Prop} (F : Nat) (hl : args.length ≤ 44) (a : AW ⟨Pg, F, 44, false, []⟩ ir (RetK rs K) (initT args) [] h) : ACalls Pg fn_leak_hull_conditions args h K :=
  ACalls.of_comp follows Tryz.func82 comp hl a
theorem pure {args : List AVal} {v : AVal} (hl : args.length ≤ 44) (a : AW ⟨Pg, 0, 44, false, []⟩ ir (RetK rs fun e _ => e = .ret v) (initT args) [] nilH) : APure Pg fn_leak_hull_conditions args v :=
  APure.of_nil (enter 0 hl a)
end leak_hull_conditions

namespace leak_hull_inflows_1
noncomputable def cfg : Cfg := { pure := pures, pcs := [], raw := [], cuts := [], draws := [], keep := [] }
@[simp] noncomputable def r0 (_ : Unit) : List Stp := [S 3 (.box (.t 0))]
@[simp] noncomputable def r1 (_ : Unit) : List Stp := [S 4 (.alloc [.nilf])]
@[simp] noncomputable def r2 (_ : Unit) : List Stp := [S 5 (.mkF (.func fn_leak_hull_inflows_1_1) [] [(.t 1), (.t 3), (.t 2), (.t 4)]), SN (.store 1 (.t 4) (.t 5))]
@[simp] noncomputable def r3 (_ : Unit) : List Stp := [S 6 (.load false 1 (.t 4)), S 7 (.build [(.int .i64 0), (.int .i64 0), (.int .i64 0), (.int .i64 0), (.int .i64 0), (.int .i64 0)] []), S 8 (.call (.t 6) [(.t 7), (.c (.int .i64 0))])]
@[simp] noncomputable def ir : IR := (.seq (.ops r0) (.seq (.ops r1) (.seq (.ops r2) (.ops r3))))
@[simp] noncomputable def rs : List RV := []
theorem comp : compF Pg cfg Tryz.f83 = some (ir, rs, 9) := by kernel_rfl
theorem enter {args : List AVal} {h : Heap} {K : AEnd → Heap → Prop} (F : Nat) (hl : args.length ≤ 9) (a : AW ⟨Pg, F, 9, false, []⟩ ir (RetK rs K) (initT args) [] h) : ACalls Pg fn_leak_hull_inflows_1 args h K :=
  ACalls.of_comp follows Tryz.func83 comp hl a
theorem pure {args : List AVal} {v : AVal} (hl : args.length ≤ 9) (a : AW ⟨Pg, 0, 9, false, []⟩ ir (RetK rs fun e _ => e = .ret v) (initT args) [] nilH) : APure Pg fn_leak_hull_inflows_1 args v :=
  APure.of_nil (enter 0 hl a)
end leak_hull_inflows_1

namespace leak_hull_inflows_1_1
noncomputable def cfg : Cfg := { pure := pures, pcs := [], raw := [], cuts := [], draws := [(10, [⟨0, false, [], []⟩, ⟨2, false, [], []⟩, ⟨3, false, [], []⟩, ⟨8, false, [], []⟩, ⟨9, false, [], []⟩, ⟨10, false, [], []⟩, ⟨1, false, [], []⟩, ⟨4, false, [], []⟩, ⟨5, false, [], []⟩, ⟨6, false, [], []⟩, ⟨7, false, [], []⟩, ⟨11, false, [], []⟩, ⟨12, false, [], []⟩])], keep := [] }
@[simp] noncomputable def r0 (_ : Unit) : List Stp := [S 6 (.box (.t 0)), S 8 (.mv (.c (.bool false)))]
@[simp] noncomputable def r1 (_ : Unit) : List Stp := [S 12 (.mv (.t 1)), S 13 (.load false 1 (.t 2)), S 14 (.nilck Pg (.t 13)), S 15 (.fAddr 2 (.t 14)), S 16 (.load false 1 (.t 15)), S 17 (.len (.t 16)), S 18 (.bin .eql (.t 12) (.t 17))]
@[simp] noncomputable def r2 (_ : Unit) : List Stp := [S 19 (.load false 1 (.t 3)), S 20 (.load true 6 (.t 6)), S 21 (.call (.t 19) [(.t 20)]), S 8 (.mv (.t 21))]
@[simp] noncomputable def r3 (_ : Unit) : List Stp := [S 9 (.mv (.c (.int .i64 0)))]
@[simp] noncomputable def r4 (_ : Unit) : List Stp := [S 22 (.mv (.t 9)), S 23 (.load false 1 (.t 2)), S 24 (.nilck Pg (.t 23)), S 25 (.fAddr 2 (.t 24)), S 26 (.load false 1 (.t 25)), S 27 (.mv (.t 1)), S 28 (.ixS 1 (.t 26) (.t 27)), S 29 (.load false 1 (.t 28)), S 30 (.bin .leq (.t 22) (.t 29))]
@[simp] noncomputable def r6 (_ : Unit) : List Stp := [S 33 (.mv (.t 1)), S 34 (.mv (.t 9)), S 35 (.ixA 6 1 (.t 6) (.t 33)), SN (.store 1 (.t 35) (.t 34))]
@[simp] noncomputable def r7 (_ : Unit) : List Stp := [S 36 (.load false 1 (.t 4)), S 37 (.len (.t 36)), S 38 (.mv (.c (.int .i64 0)))]
@[simp] noncomputable def r8 (_ : Unit) : List Stp := [S 39 (.bin .lss (.t 38) (.t 37))]
@[simp] noncomputable def r9 (_ : Unit) : List Stp := [S 40 (.ixS 1 (.t 36) (.t 38)), S 41 (.load false 1 (.t 40)), S 11 (.mv (.t 41))]
@[simp] noncomputable def r10 (_ : Unit) : List Stp := [S 42 (.mv (.t 11)), S 44 (.mv (.t 1)), S 45 (.bin .add (.t 44) (.c (.int .i64 1))), S 50 (.mkF (.method "caulkworks/leak.can") [(.t 42)] []), S 51 (.nilck Pg (.t 50)), S 52 (.mv (.t 42)), S 43 (.load true 6 (.t 6)), S 46 (.load false 1 (.t 2)), S 47 (.nilck Pg (.t 46)), S 48 (.fAddr 2 (.t 47)), S 49 (.load false 1 (.t 48)), S 53 (.inv (.t 52) "caulkworks/leak.can" [(.t 43), (.t 45), (.t 49)]), S 54 (.un .not (.t 53))]
@[simp] noncomputable def r11 (_ : Unit) : List Stp := [S 55 (.bin .add (.t 38) (.c (.int .i64 1))), S 38 (.mv (.t 55))]
@[simp] noncomputable def r12 (_ : Unit) : List Stp := [S 56 (.load false 1 (.t 5)), S 57 (.load true 6 (.t 6)), S 58 (.mv (.t 1)), S 59 (.bin .add (.t 58) (.c (.int .i64 1))), S 60 (.call (.t 56) [(.t 57), (.t 59)]), S 61 (.un .not (.t 60))]
@[simp] noncomputable def r13 (_ : Unit) : List Stp := [S 8 (.mv (.c (.bool false)))]
@[simp] noncomputable def r5 (_ : Unit) : List Stp := [S 31 (.mv (.t 9)), S 32 (.bin .add (.t 31) (.c (.int .i64 1))), S 9 (.mv (.t 32))]
@[simp] noncomputable def r14 (_ : Unit) : List Stp := [S 8 (.mv (.c (.bool true)))]
@[simp] noncomputable def ir : IR := (.seq (.ops r0) (.seq (.seq (.ops r1) (.cond (.t 18) (.seq (.ops r2) .ret) .skip)) (.seq .skip (.seq (.seq (.ops r3) (.block 0 (.loop (.seq (.seq (.ops r4) (.cond (.t 30) .skip (.exit 0))) (.seq (.block 1 (.seq (.ops r6) (.seq (.seq (.ops r7) (.block 2 (.loop (.seq (.ops r8) (.seq (.cond (.t 39) .skip (.exit 2)) (.seq (.block 3 (.seq (.ops r9) (.seq (.ops r10) (.cond (.t 54) (.exit 1) .skip)))) (.ops r11))))))) (.seq (.ops r12) (.cond (.t 61) (.seq (.ops r13) .ret) .skip))))) (.ops r5)))))) (.seq (.ops r14) .ret)))))
@[simp] noncomputable def rs : List RV := [.tmp 8]
theorem comp : compF Pg cfg Tryz.f84 = some (ir, rs, 62) := by kernel_rfl
theorem enter {args : List AVal} {h : Heap} {K : AEnd → Heap → Prop} (F : Nat) (hl : args.length ≤ 62) (a : AW ⟨Pg, F, 62, false, []⟩ ir (RetK rs K) (initT args) [] h) : ACalls Pg fn_leak_hull_inflows_1_1 args h K :=
  ACalls.of_comp follows Tryz.func84 comp hl a
theorem pure {args : List AVal} {v : AVal} (hl : args.length ≤ 62) (a : AW ⟨Pg, 0, 62, false, []⟩ ir (RetK rs fun e _ => e = .ret v) (initT args) [] nilH) : APure Pg fn_leak_hull_inflows_1_1 args v :=
  APure.of_nil (enter 0 hl a)
end leak_hull_inflows_1_1

namespace slices_pdqsortOrdered_int
noncomputable def cfg : Cfg := { pure := pures, pcs := [], raw := [], cuts := [], draws := [(17, [⟨0, false, [], []⟩, ⟨1, false, [], []⟩, ⟨2, false, [], []⟩, ⟨3, false, [], []⟩, ⟨4, false, [], []⟩, ⟨5, false, [], []⟩, ⟨6, false, [], []⟩, ⟨8, false, [], []⟩, ⟨9, false, [], []⟩, ⟨10, false, [], []⟩, ⟨7, false, [], []⟩, ⟨11, false, [], []⟩, ⟨12, false, [], []⟩, ⟨13, false, [], []⟩, ⟨14, false, [], []⟩])], keep := [] }
@[simp] noncomputable def r0 (_ : Unit) : List Stp := [S 8 (.mv (.c (.bool true)))]
@[simp] noncomputable def r1 (_ : Unit) : List Stp := [S 9 (.mv (.c (.bool true)))]
@[simp] noncomputable def r2 (_ : Unit) : List Stp := [S 19 (.mv (.t 2)), S 20 (.mv (.t 1)), S 21 (.bin .sub (.t 19) (.t 20)), S 10 (.mv (.t 21))]
@[simp] noncomputable def r3 (_ : Unit) : List Stp := [S 22 (.mv (.t 10)), S 23 (.bin .leq (.t 22) (.c (.int .i64 12)))]
@[simp] noncomputable def r4 (_ : Unit) : List Stp := [S 24 (.mv (.t 0)), S 25 (.mv (.t 1)), S 26 (.mv (.t 2)), S 27 (.call (.c (.func (.func fn_slices_insertionSortOrdered_int) [] [])) [(.t 24), (.t 25), (.t 26)])]
@[simp] noncomputable def r5 (_ : Unit) : List Stp := [S 28 (.mv (.t 3)), S 29 (.bin .eql (.t 28) (.c (.int .i64 0)))]
@[simp] noncomputable def r6 (_ : Unit) : List Stp := [S 30 (.mv (.t 0)), S 31 (.mv (.t 1)), S 32 (.mv (.t 2)), S 33 (.call (.c (.func (.func fn_slices_heapSortOrdered_int) [] [])) [(.t 30), (.t 31), (.t 32)])]
@[simp] noncomputable def r7 (_ : Unit) : List Stp := [S 34 (.mv (.t 8)), S 35 (.un .not (.t 34))]
@[simp] noncomputable def r8 (_ : Unit) : List Stp := [S 36 (.mv (.t 0)), S 37 (.mv (.t 1)), S 38 (.mv (.t 2)), S 39 (.call (.c (.func (.func fn_slices_breakPatternsOrdered_int) [] [])) [(.t 36), (.t 37), (.t 38)])]
@[simp] noncomputable def r9 (_ : Unit) : List Stp := [S 40 (.mv (.t 3)), S 41 (.bin .sub (.t 40) (.c (.int .i64 1))), S 3 (.mv (.t 41))]
@[simp] noncomputable def r10 (_ : Unit) : List Stp := [S 43 (.mv (.t 0)), S 44 (.mv (.t 1)), S 45 (.mv (.t 2)), S 46 (.call (.c (.func (.func fn_slices_choosePivotOrdered_int) [] [])) [(.t 43), (.t 44), (.t 45)]), S 42 (.mv (.t 46)), S 47 (.ext (.t 42) 0), S 48 (.ext (.t 42) 1), S 11 (.mv (.t 47)), S 12 (.mv (.t 48))]
@[simp] noncomputable def r11 (_ : Unit) : List Stp := [S 49 (.mv (.t 12)), S 50 (.bin .eql (.t 49) (.c (.int .i64 2)))]
@[simp] noncomputable def r12 (_ : Unit) : List Stp := [S 51 (.mv (.t 0)), S 52 (.mv (.t 1)), S 53 (.mv (.t 2)), S 54 (.call (.c (.func (.func fn_slices_reverseRangeOrdered_int) [] [])) [(.t 51), (.t 52), (.t 53)])]
@[simp] noncomputable def r13 (_ : Unit) : List Stp := [S 55 (.mv (.t 2)), S 56 (.bin .sub (.t 55) (.c (.int .i64 1))), S 57 (.mv (.t 11)), S 58 (.mv (.t 1)), S 59 (.bin .sub (.t 57) (.t 58)), S 60 (.bin .sub (.t 56) (.t 59)), S 11 (.mv (.t 60))]
@[simp] noncomputable def r14 (_ : Unit) : List Stp := [S 12 (.mv (.c (.int .i64 1)))]
@[simp] noncomputable def r15 (_ : Unit) : List Stp := [S 61 (.mv (.t 8)), S 62 (.mv (.t 61)), SG 63 62 true (.mv (.t 9)), S 64 (.pick (.t 62) (.t 63) (.c (.bool false))), S 65 (.mv (.t 64)), SG 66 65 true (.mv (.t 12)), SG 67 65 true (.bin .eql (.t 66) (.c (.int .i64 1))), S 68 (.pick (.t 65) (.t 67) (.c (.bool false)))]
@[simp] noncomputable def r16 (_ : Unit) : List Stp := [S 69 (.mv (.t 0)), S 70 (.mv (.t 1)), S 71 (.mv (.t 2)), S 72 (.call (.c (.func (.func fn_slices_partialInsertionSortOrdered_int) [] [])) [(.t 69), (.t 70), (.t 71)])]
@[simp] noncomputable def r17 (_ : Unit) : List Stp := [S 73 (.mv (.t 1)), S 74 (.bin .gtr (.t 73) (.c (.int .i64 0))), S 75 (.mv (.t 74)), SG 76 75 true (.mv (.t 0)), SG 77 75 true (.mv (.t 1)), SG 78 75 true (.bin .sub (.t 77) (.c (.int .i64 1))), SG 79 75 true (.ixS 1 (.t 76) (.t 78)), SG 81 75 true (.mv (.t 0)), SG 82 75 true (.mv (.t 11)), SG 83 75 true (.ixS 1 (.t 81) (.t 82)), SG 80 75 true (.load false 1 (.t 79)), SG 84 75 true (.load false 1 (.t 83)), SG 85 75 true (.call (.c (.func (.func fn_cmp_Less_int) [] [])) [(.t 80), (.t 84)]), SG 86 75 true (.un .not (.t 85)), S 87 (.pick (.t 75) (.t 86) (.c (.bool false)))]
@[simp] noncomputable def r18 (_ : Unit) : List Stp := [S 88 (.mv (.t 0)), S 89 (.mv (.t 1)), S 90 (.mv (.t 2)), S 91 (.mv (.t 11)), S 92 (.call (.c (.func (.func fn_slices_partitionEqualOrdered_int) [] [])) [(.t 88), (.t 89), (.t 90), (.t 91)]), S 13 (.mv (.t 92))]
@[simp] noncomputable def r19 (_ : Unit) : List Stp := [S 93 (.mv (.t 13)), S 1 (.mv (.t 93))]
@[simp] noncomputable def r20 (_ : Unit) : List Stp := [S 95 (.mv (.t 0)), S 96 (.mv (.t 1)), S 97 (.mv (.t 2)), S 98 (.mv (.t 11)), S 99 (.call (.c (.func (.func fn_slices_partitionOrdered_int) [] [])) [(.t 95), (.t 96), (.t 97), (.t 98)]), S 94 (.mv (.t 99)), S 100 (.ext (.t 94) 0), S 101 (.ext (.t 94) 1), S 14 (.mv (.t 100)), S 15 (.mv (.t 101))]
@[simp] noncomputable def r21 (_ : Unit) : List Stp := [S 102 (.mv (.t 15)), S 9 (.mv (.t 102))]
@[simp] noncomputable def r22 (_ : Unit) : List Stp := [S 103 (.mv (.t 14)), S 104 (.mv (.t 1)), S 105 (.bin .sub (.t 103) (.t 104)), S 106 (.mv (.t 2)), S 107 (.mv (.t 14)), S 108 (.bin .sub (.t 106) (.t 107)), S 16 (.mv (.t 105)), S 17 (.mv (.t 108))]
@[simp] noncomputable def r23 (_ : Unit) : List Stp := [S 109 (.mv (.t 10)), S 110 (.bin .quo (.t 109) (.c (.int .i64 8))), S 18 (.mv (.t 110))]
@[simp] noncomputable def r24 (_ : Unit) : List Stp := [S 111 (.mv (.t 16)), S 112 (.mv (.t 17)), S 113 (.bin .lss (.t 111) (.t 112))]
@[simp] noncomputable def r25 (_ : Unit) : List Stp := [S 114 (.mv (.t 16)), S 115 (.mv (.t 18)), S 116 (.bin .geq (.t 114) (.t 115)), S 8 (.mv (.t 116))]
@[simp] noncomputable def r26 (_ : Unit) : List Stp := [S 117 (.mv (.t 0)), S 118 (.mv (.t 1)), S 119 (.mv (.t 14)), S 120 (.mv (.t 3)), S 121 (.call (.c (.func (.func fn_slices_pdqsortOrdered_int) [] [])) [(.t 117), (.t 118), (.t 119), (.t 120)])]
@[simp] noncomputable def r27 (_ : Unit) : List Stp := [S 122 (.mv (.t 14)), S 123 (.bin .add (.t 122) (.c (.int .i64 1))), S 1 (.mv (.t 123))]
@[simp] noncomputable def r28 (_ : Unit) : List Stp := [S 124 (.mv (.t 17)), S 125 (.mv (.t 18)), S 126 (.bin .geq (.t 124) (.t 125)), S 8 (.mv (.t 126))]
@[simp] noncomputable def r29 (_ : Unit) : List Stp := [S 127 (.mv (.t 0)), S 128 (.mv (.t 14)), S 129 (.bin .add (.t 128) (.c (.int .i64 1))), S 130 (.mv (.t 2)), S 131 (.mv (.t 3)), S 132 (.call (.c (.func (.func fn_slices_pdqsortOrdered_int) [] [])) [(.t 127), (.t 129), (.t 130), (.t 131)])]
@[simp] noncomputable def r30 (_ : Unit) : List Stp := [S 133 (.mv (.t 14)), S 2 (.mv (.t 133))]
@[simp] noncomputable def ir : IR := (.seq (.ops r0) (.seq (.ops r1) (.block 0 (.loop (.block 1 (.seq (.ops r2) (.seq (.seq (.ops r3) (.cond (.t 23) (.seq (.ops r4) .ret) .skip)) (.seq (.seq (.ops r5) (.cond (.t 29) (.seq (.ops r6) .ret) .skip)) (.seq (.seq (.ops r7) (.cond (.t 35) (.seq (.ops r8) (.ops r9)) .skip)) (.seq (.ops r10) (.seq (.seq (.ops r11) (.cond (.t 50) (.seq (.ops r12) (.seq (.ops r13) (.ops r14))) .skip)) (.seq (.seq (.ops r15) (.cond (.t 68) (.seq (.ops r16) (.cond (.t 72) .ret .skip)) .skip)) (.seq (.seq (.ops r17) (.cond (.t 87) (.seq (.ops r18) (.seq (.ops r19) (.exit 1))) .skip)) (.seq (.ops r20) (.seq (.ops r21) (.seq (.ops r22) (.seq (.ops r23) (.seq (.ops r24) (.cond (.t 113) (.seq (.ops r25) (.seq (.ops r26) (.ops r27))) (.seq (.ops r28) (.seq (.ops r29) (.ops r30))))))))))))))))))))))
@[simp] noncomputable def rs : List RV := []
theorem comp : compF Pg cfg Tryz.f85 = some (ir, rs, 134) := by kernel_rfl
theorem enter {args : List AVal} {h : Heap} {K : AEnd → Heap → Prop} (F : Nat) (hl : args.length ≤ 134) (a : AW ⟨Pg, F, 134, false, []⟩ ir (RetK rs K) (initT args) [] h) : ACalls Pg fn_slices_pdqsortOrdered_int args h K :=
  ACalls.of_comp follows Tryz.func85 comp hl a
theorem pure {args : List AVal} {v : AVal} (hl : args.length ≤ 134) (a : AW ⟨Pg, 0, 134, false, []⟩ ir (RetK rs fun e _ => e = .ret v) (initT args) [] nilH) : APure Pg fn_slices_pdqsortOrdered_int args v :=
  APure.of_nil (enter 0 hl a)
end slices_pdqsortOrdered_int

end Go.Cw
end
