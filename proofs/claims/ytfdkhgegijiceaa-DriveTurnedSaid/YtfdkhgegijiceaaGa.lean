/-
  The program's functions in the small form.
-/
import Derived.Test.YtfdkhgegijiceaaAd
import Derived.Test.YtfdkhgegijiceaaProg
import Derived.Test.YtfdkhgegijiceaaAf
set_option linter.unusedVariables false
set_option linter.unusedSimpArgs false
set_option linter.unusedSectionVars false

/- The functions' numbers. Printed by a program of this seat's proofs. -/
section
namespace Go.Cw
open Go Go.Proofs

@[reducible] noncomputable def Pg : Program := Try.prog
theorem follows : Pg.follows .mixedOrders = true := by kernel_rfl
def fn_main_main : FuncId := 0
def fn_gosem_cut : FuncId := 1
def fn_gosem_cut_init : FuncId := 2
def fn_law05_DriveTells : FuncId := 3
def fn_law05_DrivePushes : FuncId := 4
def fn_law05_DriveNames : FuncId := 5
def fn_law05_DriveOrder : FuncId := 6
def fn_law05_DriveGiven : FuncId := 7
def fn_law05_DriveTrue : FuncId := 8
def fn_law05_DriveEnds : FuncId := 9
def fn_law05_DriveMore : FuncId := 10
def fn_law05_DriveTurned : FuncId := 11
def fn_law05_long : FuncId := 12
def fn_law05_alive : FuncId := 13
def fn_drive_Settle : FuncId := 14
def fn_ref05_Settle : FuncId := 15
def fn_drive_Run : FuncId := 16
def fn_ref05_Run : FuncId := 17
def fn_drive_Times : FuncId := 18
def fn_ref05_Times : FuncId := 19
def fn_drive_Left : FuncId := 20
def fn_ref05_Left : FuncId := 21
def fn_drive_Opens : FuncId := 22
def fn_ref05_Opens : FuncId := 23
def fn_drive_Chain : FuncId := 24
def fn_ref05_Chain : FuncId := 25
def fn_law05_ints : FuncId := 26
def fn_ref05_Drive : FuncId := 27
def fn_drive_Push : FuncId := 28
def fn_ref05_Push : FuncId := 29
def fn_law05_sample : FuncId := 30
def fn_law05_span : FuncId := 31
def fn_law05_made : FuncId := 32
def fn_law05_draws : FuncId := 33
def fn_law05_beside : FuncId := 34
def fn_law05_truth : FuncId := 35
def fn_law05_inside : FuncId := 36
def fn_ref05_Truths : FuncId := 37
def fn_law05_DriveTurned_1 : FuncId := 38
def fn_drive_Settle_1 : FuncId := 39
def fn_drive_said : FuncId := 40
def fn_drive_open : FuncId := 41
def fn_drive_areBlows : FuncId := 42
def fn_drive_hull_settler : FuncId := 43
def fn_drive_settler_rest : FuncId := 44
def fn_drive_blowsOf : FuncId := 45
def fn_slices_Clone_int_int : FuncId := 46
def fn_drive_hull_seams : FuncId := 47
def fn_ref05_check : FuncId := 48
def fn_ref05_Blows : FuncId := 49
def fn_ref05_Rest : FuncId := 50
def fn_drive_Run_1 : FuncId := 51
def fn_drive_isOrder : FuncId := 52
def fn_slices_IsSorted_int_int : FuncId := 53
def fn_drive_hull_steps : FuncId := 54
def fn_ref05_Order : FuncId := 55
def fn_ref05_run : FuncId := 56
def fn_drive_Times_1 : FuncId := 57
def fn_drive_isSeam : FuncId := 58
def fn_drive_hull_times : FuncId := 59
def fn_ref05_Seam : FuncId := 60
def fn_ref05_hull : FuncId := 61
def fn_drive_Left_1 : FuncId := 62
def fn_drive_Left_2 : FuncId := 63
def fn_drive_blows_with : FuncId := 64
def fn_drive_joined_api_Span : FuncId := 65
def fn_drive_Left_3 : FuncId := 66
def fn_drive_Opens_1 : FuncId := 67
def fn_drive_rest_open : FuncId := 68
def fn_ref05_power : FuncId := 69
def fn_drive_Chain_1 : FuncId := 70
def fn_drive_want : FuncId := 71
def fn_drive_hull_can : FuncId := 72
def fn_ref05_Ints : FuncId := 73
def fn_ref05_in : FuncId := 74
def fn_ref05_Beside : FuncId := 75
def fn_drive_Push_1 : FuncId := 76
def fn_drive_hull_ends : FuncId := 77
def fn_law05_draws_1 : FuncId := 78
def fn_ref05_truths : FuncId := 79
def fn_drive_within : FuncId := 80
def fn_slices_Contains_2_int_2_int : FuncId := 81
def fn_drive_areBlows_1 : FuncId := 82
def fn_slices_ContainsFunc_int_int : FuncId := 83
def fn_drive_hull_opened : FuncId := 84
def fn_ref05_rising : FuncId := 85
def fn_slices_Sort_int_int : FuncId := 86
def fn_cmp_Less_int : FuncId := 87
def fn_drive_hull_steps_1 : FuncId := 88
def fn_ref05_open : FuncId := 89
def fn_drive_setOf : FuncId := 90
def fn_slices_Index_2_int_2_int : FuncId := 91
def fn_slices_IndexFunc_int_int : FuncId := 92
def fn_slices_pdqsortOrdered_int : FuncId := 93
def fn_math_bits_Len : FuncId := 94
def fn_cmp_isNaN_int : FuncId := 95
def fn_slices_insertionSortOrdered_int : FuncId := 96
def fn_slices_heapSortOrdered_int : FuncId := 97
def fn_slices_breakPatternsOrdered_int : FuncId := 98
def fn_slices_choosePivotOrdered_int : FuncId := 99
def fn_slices_reverseRangeOrdered_int : FuncId := 100
def fn_slices_partialInsertionSortOrdered_int : FuncId := 101
def fn_slices_partitionEqualOrdered_int : FuncId := 102
def fn_slices_partitionOrdered_int : FuncId := 103
def fn_math_bits_Len32 : FuncId := 104
def fn_math_bits_Len64 : FuncId := 105
def fn_slices_siftDownOrdered_int : FuncId := 106
def fn_slices_nextPowerOfTwo : FuncId := 107
def fn_slices_xorshift_Next : FuncId := 108
def fn_slices_medianAdjacentOrdered_int : FuncId := 109
def fn_slices_medianOrdered_int : FuncId := 110
def fn_slices_order2Ordered_int : FuncId := 111
def fn_runtime_boundsError_Error : FuncId := 112
def fn_runtime_boundsError_RuntimeError : FuncId := 113
def fn_runtime_errorString_Error : FuncId := 114
def fn_runtime_errorString_RuntimeError : FuncId := 115
def fn_runtime_plainError_Error : FuncId := 116
def fn_runtime_plainError_RuntimeError : FuncId := 117
def fn_runtime_errorAddressString_Error : FuncId := 118
def fn_runtime_errorAddressString_RuntimeError : FuncId := 119
def fn_runtime_TypeAssertionError_Error : FuncId := 120
def fn_runtime_TypeAssertionError_RuntimeError : FuncId := 121
def fn_runtime_PanicNilError_Error : FuncId := 122
def fn_runtime_PanicNilError_RuntimeError : FuncId := 123
def fn_abi_Type_Align : FuncId := 124
def fn_runtime_maps_unhashableTypeError_Error : FuncId := 125
def fn_runtime_maps_unhashableTypeError_RuntimeError : FuncId := 126
def fn_drive_ordered_pick : FuncId := 127
def fn_drive_ordered_pick_1 : FuncId := 128
def fn_drive_rising_pick : FuncId := 129
def fn_abi_Kind_String : FuncId := 130
def pures : List Nat := [13, 18, 19, 20, 21, 22, 23, 27, 28, 29, 30, 31, 34, 36, 37, 42, 45, 47, 48, 49, 50, 52, 53, 55, 56, 58, 59, 60, 64, 68, 69, 72, 73, 74, 75, 77, 80, 81, 82, 83, 84, 85, 87, 89, 91, 92, 95]

end Go.Cw
end

/- Where the library's sort lies in this program. Printed by a program of this seat's proofs. -/
section
namespace Go.Cw
open Go Go.Proofs

def sortRen : Go.Shelf.Ren where
  f := fun
    | 189 => 86
    | 125 => 94
    | 257 => 93
    | 128 => 104
    | 129 => 105
    | 294 => 96
    | 295 => 97
    | 296 => 98
    | 297 => 99
    | 298 => 100
    | 299 => 101
    | 216 => 87
    | 300 => 102
    | 301 => 103
    | 328 => 106
    | 329 => 107
    | 330 => 108
    | 331 => 109
    | 332 => 110
    | 215 => 95
    | 343 => 111
    | n => n
  t := fun
    | 28 => 22
    | 3 => 3
    | 46 => 141
    | 0 => 0
    | 51 => 150
    | 53 => 152
    | 4 => 4
    | 183 => 144
    | 182 => 143
    | 131 => 133
    | 5 => 5
    | 9 => 9
    | 218 => 153
    | 222 => 157
    | 228 => 159
    | 229 => 160
    | n => n
  g := fun n => n

theorem sortLays : Go.Proofs.Lays.n189 Pg sortRen where
  mixed := by kernel_rfl
  f125 := Eq.trans Try.func94 (congrArg some (by kernel_rfl))
  f128 := Eq.trans Try.func104 (congrArg some (by kernel_rfl))
  f129 := Eq.trans Try.func105 (congrArg some (by kernel_rfl))
  f189 := Eq.trans Try.func86 (congrArg some (by kernel_rfl))
  f215 := Eq.trans Try.func95 (congrArg some (by kernel_rfl))
  f216 := Eq.trans Try.func87 (congrArg some (by kernel_rfl))
  f257 := Eq.trans Try.func93 (congrArg some (by kernel_rfl))
  f294 := Eq.trans Try.func96 (congrArg some (by kernel_rfl))
  f295 := Eq.trans Try.func97 (congrArg some (by kernel_rfl))
  f296 := Eq.trans Try.func98 (congrArg some (by kernel_rfl))
  f297 := Eq.trans Try.func99 (congrArg some (by kernel_rfl))
  f298 := Eq.trans Try.func100 (congrArg some (by kernel_rfl))
  f299 := Eq.trans Try.func101 (congrArg some (by kernel_rfl))
  f300 := Eq.trans Try.func102 (congrArg some (by kernel_rfl))
  f301 := Eq.trans Try.func103 (congrArg some (by kernel_rfl))
  f328 := Eq.trans Try.func106 (congrArg some (by kernel_rfl))
  f329 := Eq.trans Try.func107 (congrArg some (by kernel_rfl))
  f330 := Eq.trans Try.func108 (congrArg some (by kernel_rfl))
  f331 := Eq.trans Try.func109 (congrArg some (by kernel_rfl))
  f332 := Eq.trans Try.func110 (congrArg some (by kernel_rfl))
  f343 := Eq.trans Try.func111 (congrArg some (by kernel_rfl))
  t0 := Try.underlying0
  a0 := Try.isAgg0
  z0 := Try.sizeOf0
  v0 := Try.zeroValue0
  t3 := Try.underlying3
  a3 := Try.isAgg3
  z3 := Try.sizeOf3
  v3 := Try.zeroValue3
  t4 := Try.underlying4
  a4 := Try.isAgg4
  z4 := Try.sizeOf4
  v4 := Try.zeroValue4
  t5 := Try.underlying5
  a5 := Try.isAgg5
  z5 := Try.sizeOf5
  v5 := Try.zeroValue5
  t9 := Try.underlying9
  a9 := Try.isAgg9
  z9 := Try.sizeOf9
  v9 := Try.zeroValue9
  t28 := Try.underlying22
  a28 := Try.isAgg22
  z28 := Try.sizeOf22
  v28 := Try.zeroValue22
  t46 := Try.underlying141
  a46 := Try.isAgg141
  z46 := Try.sizeOf141
  v46 := Try.zeroValue141
  t51 := Try.underlying150
  a51 := Try.isAgg150
  z51 := Try.sizeOf150
  v51 := Try.zeroValue150
  t53 := Try.underlying152
  a53 := Try.isAgg152
  z53 := Try.sizeOf152
  v53 := Try.zeroValue152
  t131 := Try.underlying133
  a131 := Try.isAgg133
  z131 := Try.sizeOf133
  v131 := Try.zeroValue133
  t182 := Try.underlying143
  a182 := Try.isAgg143
  z182 := Try.sizeOf143
  v182 := Try.zeroValue143
  t183 := Try.underlying144
  a183 := Try.isAgg144
  z183 := Try.sizeOf144
  v183 := Try.zeroValue144
  t218 := Try.underlying153
  a218 := Try.isAgg153
  z218 := Try.sizeOf153
  v218 := Try.zeroValue153
  t222 := Try.underlying157
  a222 := Try.isAgg157
  z222 := Try.sizeOf157
  v222 := Try.zeroValue157
  t228 := Try.underlying159
  a228 := Try.isAgg159
  z228 := Try.sizeOf159
  v228 := Try.zeroValue159
  t229 := Try.underlying160
  a229 := Try.isAgg160
  z229 := Try.sizeOf160
  v229 := Try.zeroValue160

theorem sortEnters : Enters Pg fn_slices_Sort_int_int := ⟨_, _, Try.func86, rfl, rfl⟩

/-- SORT. -/
theorem slices_Sort_int_int.c {r s : Nat} {cap : Cap} {l : List Int} (hl : l.length < 4611686018427387904) {K : AEnd → Heap → Prop} (k : K (.ret (.tup [])) (hpV [(r, .row (ints (sortI l)) s)])) :
    ACalls Pg fn_slices_Sort_int_int [.sl r 0 s l.length cap] (hpV [(r, .row (ints l) s)]) K := ACalls.sort sortLays sortEnters hl k

end Go.Cw
end

/- Functions in the small form. Printed by a program of this seat's proofs. -/
section
namespace Go.Cw
open Go Go.Proofs









namespace law05_DriveTurned
noncomputable def cfg : Cfg := { pure := pures, pcs := [], raw := [], cuts := [21, 52], draws := [(7, [⟨0, false, [], []⟩, ⟨2, false, [], []⟩, ⟨1, true, [], []⟩, ⟨3, true, [], []⟩, ⟨4, false, [], []⟩, ⟨5, true, [], []⟩, ⟨6, false, [], []⟩]), (12, [⟨0, false, [], []⟩, ⟨2, false, [], []⟩, ⟨3, false, [], []⟩, ⟨5, false, [], []⟩, ⟨7, false, [], []⟩, ⟨8, false, [], []⟩, ⟨10, false, [], []⟩, ⟨11, false, [], []⟩, ⟨12, false, [], []⟩, ⟨14, false, [], []⟩, ⟨16, false, [], []⟩, ⟨19, false, [], []⟩, ⟨21, false, [], []⟩, ⟨24, false, [], []⟩, ⟨25, false, [], []⟩, ⟨26, false, [], []⟩, ⟨1, false, [], []⟩, ⟨6, false, [], []⟩, ⟨15, false, [], []⟩, ⟨17, false, [], []⟩, ⟨18, false, [], []⟩, ⟨20, false, [], []⟩, ⟨22, false, [], []⟩, ⟨23, false, [], []⟩, ⟨27, false, [], []⟩, ⟨4, false, [], [1, 6, 15, 18, 20, 23, 27]⟩, ⟨9, false, [], [1, 6, 15, 18, 20, 23, 27]⟩, ⟨13, false, [], [1, 6, 15, 18, 20, 23, 27]⟩, ⟨28, false, [], []⟩, ⟨29, false, [], [6]⟩, ⟨30, false, [], []⟩, ⟨31, false, [], []⟩, ⟨32, false, [], []⟩, ⟨33, false, [], []⟩]), (18, [⟨0, false, [], []⟩, ⟨2, false, [], []⟩, ⟨3, false, [], []⟩, ⟨6, false, [], []⟩, ⟨7, false, [], []⟩, ⟨1, false, [], []⟩, ⟨4, false, [], []⟩, ⟨8, false, [], []⟩, ⟨5, false, [], [1, 8]⟩, ⟨9, false, [], [1]⟩, ⟨10, false, [], []⟩, ⟨11, true, [], []⟩, ⟨12, false, [], []⟩, ⟨13, false, [], []⟩, ⟨14, false, [], []⟩]), (20, [⟨1, false, [], []⟩, ⟨5, false, [], []⟩, ⟨9, false, [], []⟩, ⟨2, false, [], []⟩, ⟨6, false, [], []⟩, ⟨10, false, [], []⟩, ⟨0, true, [], []⟩, ⟨4, true, [], []⟩, ⟨8, true, [], []⟩, ⟨3, false, [], [6, 10]⟩, ⟨7, false, [], [10]⟩, ⟨11, false, [], []⟩, ⟨12, false, [], []⟩, ⟨13, false, [], []⟩, ⟨14, false, [], []⟩]), (31, [⟨1, false, [], []⟩, ⟨2, false, [], []⟩, ⟨0, false, [], []⟩, ⟨3, false, [8], [0]⟩, ⟨4, false, [], []⟩, ⟨5, false, [], []⟩, ⟨6, false, [], []⟩, ⟨7, false, [], []⟩, ⟨8, true, [], []⟩, ⟨9, false, [], []⟩, ⟨10, false, [], []⟩]), (33, [⟨1, false, [], []⟩, ⟨2, false, [], []⟩, ⟨0, false, [], []⟩, ⟨3, false, [8], [0]⟩, ⟨4, false, [], []⟩, ⟨5, false, [], []⟩, ⟨6, false, [], []⟩, ⟨7, false, [], []⟩, ⟨8, true, [], []⟩, ⟨9, false, [], []⟩, ⟨10, false, [], []⟩]), (34, [⟨0, false, [], []⟩, ⟨1, false, [], []⟩, ⟨2, false, [], []⟩, ⟨4, false, [], []⟩, ⟨5, false, [], []⟩, ⟨6, false, [], []⟩, ⟨3, false, [], []⟩, ⟨7, false, [], [3]⟩, ⟨8, false, [], []⟩, ⟨9, false, [], []⟩, ⟨10, false, [], []⟩, ⟨11, false, [], []⟩, ⟨12, false, [], []⟩, ⟨13, false, [], []⟩, ⟨14, false, [], []⟩, ⟨16, false, [], []⟩, ⟨17, false, [], []⟩, ⟨18, false, [], []⟩, ⟨15, false, [], []⟩, ⟨19, false, [], [15]⟩, ⟨20, false, [], []⟩, ⟨21, false, [], []⟩, ⟨22, false, [], []⟩, ⟨23, false, [], []⟩, ⟨24, false, [], []⟩, ⟨25, false, [], []⟩, ⟨26, false, [], []⟩, ⟨27, false, [], []⟩, ⟨28, false, [], []⟩, ⟨29, false, [], []⟩, ⟨30, false, [], []⟩, ⟨31, false, [], []⟩, ⟨32, false, [], []⟩, ⟨33, false, [], []⟩, ⟨34, false, [], []⟩, ⟨35, false, [], []⟩, ⟨36, false, [], []⟩, ⟨37, false, [], []⟩, ⟨38, false, [], []⟩, ⟨39, false, [], []⟩, ⟨40, false, [], []⟩, ⟨41, false, [], []⟩, ⟨42, false, [], []⟩, ⟨43, false, [], []⟩, ⟨44, false, [], []⟩, ⟨45, false, [], []⟩, ⟨46, false, [], []⟩, ⟨47, false, [], []⟩, ⟨48, false, [], []⟩, ⟨49, false, [], []⟩, ⟨50, false, [], []⟩, ⟨51, false, [], []⟩, ⟨52, false, [], []⟩, ⟨53, false, [], []⟩, ⟨54, false, [], []⟩, ⟨55, false, [], []⟩, ⟨56, false, [], []⟩, ⟨57, false, [], []⟩, ⟨58, false, [], []⟩, ⟨59, false, [], []⟩, ⟨60, false, [], []⟩, ⟨61, false, [], []⟩, ⟨62, false, [], []⟩, ⟨63, false, [], []⟩, ⟨64, false, [], []⟩, ⟨65, false, [], []⟩, ⟨66, false, [], []⟩, ⟨67, false, [], []⟩, ⟨68, false, [], []⟩, ⟨69, false, [], []⟩]), (37, [⟨0, false, [], []⟩, ⟨3, false, [], []⟩, ⟨1, false, [], []⟩, ⟨4, false, [], []⟩, ⟨2, false, [], [4]⟩, ⟨5, false, [], []⟩, ⟨6, false, [], []⟩, ⟨7, false, [], []⟩]), (39, [⟨1, false, [], []⟩, ⟨2, false, [], []⟩, ⟨4, false, [], []⟩, ⟨5, false, [], []⟩, ⟨0, false, [], []⟩, ⟨3, false, [], [0]⟩, ⟨6, false, [], [0]⟩, ⟨7, false, [], []⟩, ⟨8, false, [], []⟩, ⟨9, false, [], []⟩, ⟨10, false, [], []⟩, ⟨11, false, [], []⟩, ⟨12, false, [], []⟩]), (42, [⟨0, false, [], []⟩, ⟨1, false, [], []⟩, ⟨3, false, [], []⟩, ⟨8, false, [], []⟩, ⟨9, false, [], []⟩, ⟨12, false, [], []⟩, ⟨13, false, [], []⟩, ⟨17, false, [], []⟩, ⟨2, false, [], []⟩, ⟨5, true, [], []⟩, ⟨7, true, [], []⟩, ⟨11, true, [], []⟩, ⟨4, false, [], []⟩, ⟨6, false, [], []⟩, ⟨10, false, [], []⟩, ⟨14, false, [], []⟩, ⟨15, false, [], []⟩, ⟨16, false, [], []⟩]), (50, [⟨1, false, [], []⟩, ⟨3, false, [], []⟩, ⟨0, false, [], []⟩, ⟨2, true, [], []⟩, ⟨5, true, [], []⟩, ⟨4, false, [], [0]⟩, ⟨6, false, [], [0]⟩, ⟨7, false, [], []⟩, ⟨8, false, [], []⟩, ⟨9, false, [], []⟩, ⟨10, false, [], []⟩, ⟨11, false, [], []⟩, ⟨12, false, [], []⟩]), (51, [⟨1, false, [], []⟩, ⟨4, false, [], []⟩, ⟨5, false, [], []⟩, ⟨0, false, [], []⟩, ⟨2, false, [], []⟩, ⟨3, true, [], []⟩, ⟨6, false, [], [0]⟩, ⟨7, false, [], []⟩, ⟨8, false, [], []⟩, ⟨9, false, [], []⟩, ⟨10, false, [], []⟩, ⟨11, false, [], []⟩, ⟨12, false, [], []⟩]), (67, [⟨0, false, [], []⟩, ⟨1, false, [], []⟩, ⟨2, false, [], []⟩, ⟨4, false, [], []⟩, ⟨6, false, [], []⟩, ⟨3, false, [], []⟩, ⟨5, false, [], []⟩, ⟨7, false, [], []⟩, ⟨8, false, [], []⟩, ⟨9, false, [], []⟩]), (73, [⟨0, false, [], []⟩, ⟨1, false, [], []⟩, ⟨2, false, [], []⟩, ⟨4, false, [], []⟩, ⟨6, false, [], []⟩, ⟨3, false, [], []⟩, ⟨5, false, [], []⟩, ⟨7, false, [], []⟩, ⟨8, false, [], []⟩, ⟨9, false, [], []⟩])], keep := [] }
@[simp] noncomputable def r0 (_ : Unit) : List Stp := [S 2 (.box (.t 0)), S 4 (.mv (.c (.bool false)))]
@[simp] noncomputable def r1 (_ : Unit) : List Stp := [S 65 (.load true 3 (.t 2)), S 66 (.call (.c (.func (.func fn_law05_long) [] [])) [(.t 65), (.c .nils)]), S 67 (.mv (.t 66)), SG 68 67 false (.load true 3 (.t 2)), SGP 69 67 false (.call (.c (.func (.func fn_ref05_Drive) [] [])) [(.t 68)]), SG 70 67 false (.un .not (.t 69)), S 71 (.pick (.t 67) (.c (.bool true)) (.t 70))]
@[simp] noncomputable def r2 (_ : Unit) : List Stp := [SP 72 (.call (.c (.func (.func fn_law05_alive) [] [])) []), S 4 (.mv (.t 72))]
@[simp] noncomputable def r3 (_ : Unit) : List Stp := [S 73 (.mv (.t 1)), S 74 (.call (.c (.func (.func fn_law05_draws) [] [])) [(.t 73)]), S 5 (.mv (.t 74))]
@[simp] noncomputable def r4 (_ : Unit) : List Stp := [S 75 (.fAddr 0 (.t 2)), S 76 (.load false 1 (.t 75)), S 77 (.len (.t 76)), S 6 (.alloc [(.int .i64 0)]), SN (.store 1 (.t 6) (.t 77))]
@[simp] noncomputable def r5 (_ : Unit) : List Stp := [S 79 (.load true 3 (.t 2)), S 80 (.mv (.t 5)), S 81 (.call (.c (.func (.func fn_law05_made) [] [])) [(.t 79), (.t 80), (.c (.int .i64 30))]), S 78 (.mv (.t 81)), S 82 (.ext (.t 78) 0), S 83 (.ext (.t 78) 1), S 7 (.mv (.t 82)), S 8 (.mv (.t 83))]
@[simp] noncomputable def r6 (_ : Unit) : List Stp := [S 84 (.mkF (.func fn_law05_DriveTurned_1) [] [(.t 6)]), S 9 (.mv (.t 84))]
@[simp] noncomputable def r7 (_ : Unit) : List Stp := [S 85 (.load false 1 (.t 6)), S 87 (.load false 1 (.t 6)), SD (some 86) (.mksl 8 [(.int .i64 0)] (.t 85) (.t 85)) true [] [], SD (some 88) (.mksl 16 [(.int .i64 0), (.int .i64 0)] (.t 87) (.t 87)) true [] [], S 89 (.build [.nils, .nils, .nils] [(0, 1, (.t 86)), (2, 1, (.t 88))]), SD (some 10) (.alloc [.nils, .nils, .nils]) true [] [], SN (.store 3 (.t 10) (.t 89))]
@[simp] noncomputable def r8 (_ : Unit) : List Stp := [S 90 (.load false 1 (.t 6)), S 91 (.mksl 8 [(.int .i64 0)] (.t 90) (.t 90)), S 11 (.mv (.t 91))]
@[simp] noncomputable def r9 (_ : Unit) : List Stp := [S 92 (.load false 1 (.t 6)), S 93 (.mv (.c (.int .i64 0)))]
@[simp] noncomputable def r10 (_ : Unit) : List Stp := [S 94 (.bin .lss (.t 93) (.t 92))]
@[simp] noncomputable def r11 (_ : Unit) : List Stp := [S 95 (.mv (.t 93)), S 12 (.mv (.t 95))]
@[simp] noncomputable def r12 (_ : Unit) : List Stp := [S 96 (.fAddr 0 (.t 10)), S 98 (.mv (.t 9)), S 99 (.mv (.t 12)), S 101 (.fAddr 2 (.t 10)), S 103 (.mv (.t 9)), S 104 (.mv (.t 12)), S 106 (.mv (.t 11)), S 107 (.mv (.t 9)), S 108 (.mv (.t 12)), S 110 (.fAddr 0 (.t 2)), S 112 (.mv (.t 12)), S 115 (.fAddr 2 (.t 2)), S 117 (.mv (.t 12)), S 120 (.mv (.t 7)), S 121 (.mv (.t 12)), S 122 (.ixS 1 (.t 120) (.t 121)), S 97 (.load false 1 (.t 96)), S 102 (.load false 1 (.t 101)), S 111 (.load false 1 (.t 110)), S 113 (.ixS 1 (.t 111) (.t 112)), S 114 (.load false 1 (.t 113)), S 116 (.load false 1 (.t 115)), S 118 (.ixS 2 (.t 116) (.t 117)), S 119 (.load true 2 (.t 118)), S 123 (.load false 1 (.t 122)), SD (some 100) (.call (.t 98) [(.t 99)]) false [] [I 97 (.load false 1 (.t 96)), I 102 (.load false 1 (.t 101)), I 111 (.load false 1 (.t 110)), I 114 (.load false 1 (.t 113)), I 116 (.load false 1 (.t 115)), I 119 (.load true 2 (.t 118)), I 123 (.load false 1 (.t 122))], SD (some 105) (.call (.t 103) [(.t 104)]) false [] [I 97 (.load false 1 (.t 96)), I 102 (.load false 1 (.t 101)), I 111 (.load false 1 (.t 110)), I 114 (.load false 1 (.t 113)), I 116 (.load false 1 (.t 115)), I 119 (.load true 2 (.t 118)), I 123 (.load false 1 (.t 122))], SD (some 109) (.call (.t 107) [(.t 108)]) false [] [I 97 (.load false 1 (.t 96)), I 102 (.load false 1 (.t 101)), I 111 (.load false 1 (.t 110)), I 114 (.load false 1 (.t 113)), I 116 (.load false 1 (.t 115)), I 119 (.load true 2 (.t 118)), I 123 (.load false 1 (.t 122))], S 124 (.ixS 1 (.t 97) (.t 100)), SD none (.store 1 (.t 124) (.t 114)) false [] [I 102 (.load false 1 (.t 101))], S 125 (.ixS 2 (.t 102) (.t 105)), SN (.store 2 (.t 125) (.t 119)), S 126 (.ixS 1 (.t 106) (.t 109)), SN (.store 1 (.t 126) (.t 123))]
@[simp] noncomputable def r13 (_ : Unit) : List Stp := [S 127 (.bin .add (.t 93) (.c (.int .i64 1))), S 93 (.mv (.t 127))]
@[simp] noncomputable def r14 (_ : Unit) : List Stp := [S 128 (.fAddr 1 (.t 2)), S 129 (.load false 1 (.t 128)), S 130 (.len (.t 129)), S 131 (.mv (.c (.int .i64 0)))]
@[simp] noncomputable def r15 (_ : Unit) : List Stp := [S 132 (.bin .lss (.t 131) (.t 130))]
@[simp] noncomputable def r16 (_ : Unit) : List Stp := [S 133 (.mv (.t 131)), S 13 (.mv (.t 133))]
@[simp] noncomputable def r17 (_ : Unit) : List Stp := [S 134 (.fAddr 1 (.t 2)), S 135 (.load false 1 (.t 134)), S 136 (.fAddr 1 (.t 2)), S 137 (.load false 1 (.t 136)), S 138 (.len (.t 137)), S 139 (.bin .sub (.t 138) (.c (.int .i64 1))), S 140 (.mv (.t 13)), S 141 (.bin .sub (.t 139) (.t 140)), S 142 (.ixS 2 (.t 135) (.t 141)), S 143 (.load true 2 (.t 142)), S 14 (.alloc [(.int .i64 0), (.int .i64 0)]), SN (.store 2 (.t 14) (.t 143))]
@[simp] noncomputable def r18 (_ : Unit) : List Stp := [S 144 (.fAddr 1 (.t 10)), S 146 (.mv (.t 9)), S 147 (.ixA 2 1 (.t 14) (.c (.int .i64 1))), S 150 (.mv (.t 9)), S 151 (.ixA 2 1 (.t 14) (.c (.int .i64 0))), S 145 (.load false 1 (.t 144)), S 148 (.load false 1 (.t 147)), S 152 (.load false 1 (.t 151)), SD (some 149) (.call (.t 146) [(.t 148)]) false [] [I 145 (.load false 1 (.t 144)), I 152 (.load false 1 (.t 151))], SD (some 153) (.call (.t 150) [(.t 152)]) false [] [I 145 (.load false 1 (.t 144))], S 154 (.build [(.int .i64 0), (.int .i64 0)] [(0, 1, (.t 149)), (1, 1, (.t 153))]), SD (some 155) (.bsl 1 [(.int .i64 0), (.int .i64 0)] [(0, 2, (.t 154))]) true [] [], S 156 (.app 2 16 (.t 145) (.t 155)), S 157 (.fAddr 1 (.t 10)), SN (.store 1 (.t 157) (.t 156))]
@[simp] noncomputable def r19 (_ : Unit) : List Stp := [S 158 (.bin .add (.t 131) (.c (.int .i64 1))), S 131 (.mv (.t 158))]
@[simp] noncomputable def r20 (_ : Unit) : List Stp := [S 160 (.fAddr 0 (.t 2)), S 164 (.fAddr 1 (.t 2)), S 168 (.fAddr 2 (.t 2)), S 161 (.load false 1 (.t 160)), S 165 (.load false 1 (.t 164)), S 169 (.load false 1 (.t 168)), SD (some 159) (.bsl 0 [] []) true [] [], SD (some 163) (.bsl 0 [] []) true [] [], SD (some 167) (.bsl 0 [] []) true [] [], SD (some 162) (.app 1 8 (.t 159) (.t 161)) false [] [I 165 (.load false 1 (.t 164)), I 169 (.load false 1 (.t 168))], SD (some 166) (.app 2 16 (.t 163) (.t 165)) false [] [I 169 (.load false 1 (.t 168))], S 170 (.app 2 16 (.t 167) (.t 169)), S 15 (.mv (.t 162)), S 16 (.mv (.t 166)), S 17 (.mv (.t 170))]
@[simp] noncomputable def r21 (_ : Unit) : List Stp := [S 172 (.load true 3 (.t 2)), S 173 (.mv (.t 7)), S 174 (.call (.c (.func (.func fn_drive_Settle) [] [])) [(.t 172), (.t 173)]), S 171 (.mv (.t 174)), S 175 (.ext (.t 171) 0), S 176 (.ext (.t 171) 1), S 177 (.ext (.t 171) 2), S 18 (.mv (.t 175)), S 19 (.mv (.t 176)), S 20 (.mv (.t 177))]
@[simp] noncomputable def r22 (_ : Unit) : List Stp := [S 179 (.load true 3 (.t 10)), S 180 (.mv (.t 11)), S 181 (.call (.c (.func (.func fn_drive_Settle) [] [])) [(.t 179), (.t 180)]), S 178 (.mv (.t 181)), S 182 (.ext (.t 178) 0), S 183 (.ext (.t 178) 1), S 184 (.ext (.t 178) 2), S 21 (.mv (.t 182)), S 22 (.mv (.t 183)), S 23 (.mv (.t 184))]
@[simp] noncomputable def r23 (_ : Unit) : List Stp := [S 186 (.load true 3 (.t 2)), SP 187 (.call (.c (.func (.func fn_drive_Opens) [] [])) [(.t 186)]), S 185 (.mv (.t 187)), S 188 (.ext (.t 185) 0), S 189 (.ext (.t 185) 1), S 190 (.ext (.t 185) 2), S 24 (.mv (.t 188)), S 25 (.mv (.t 189)), S 26 (.mv (.t 190))]
@[simp] noncomputable def r24 (_ : Unit) : List Stp := [S 192 (.load true 3 (.t 10)), SP 193 (.call (.c (.func (.func fn_drive_Opens) [] [])) [(.t 192)]), S 191 (.mv (.t 193)), S 194 (.ext (.t 191) 0), S 195 (.ext (.t 191) 1), S 196 (.ext (.t 191) 2), S 27 (.mv (.t 194)), S 28 (.mv (.t 195)), S 29 (.mv (.t 196))]
@[simp] noncomputable def r25 (_ : Unit) : List Stp := [S 197 (.mv (.t 20)), S 198 (.bin .neq (.t 197) (.c (.int .i64 0))), S 199 (.mv (.t 198)), SG 200 199 false (.mv (.t 23)), SG 201 199 false (.bin .neq (.t 200) (.c (.int .i64 0))), S 202 (.pick (.t 199) (.c (.bool true)) (.t 201)), S 203 (.mv (.t 202)), SG 204 203 false (.mv (.t 26)), SG 205 203 false (.bin .neq (.t 204) (.c (.int .i64 0))), S 206 (.pick (.t 203) (.c (.bool true)) (.t 205)), S 207 (.mv (.t 206)), SG 208 207 false (.mv (.t 29)), SG 209 207 false (.bin .neq (.t 208) (.c (.int .i64 0))), S 210 (.pick (.t 207) (.c (.bool true)) (.t 209)), S 211 (.mv (.t 210)), SG 212 211 false (.mv (.t 18)), SG 213 211 false (.len (.t 212)), SG 214 211 false (.load false 1 (.t 6)), SG 215 211 false (.bin .neq (.t 213) (.t 214)), S 216 (.pick (.t 211) (.c (.bool true)) (.t 215)), S 217 (.mv (.t 216)), SG 218 217 false (.mv (.t 21)), SG 219 217 false (.len (.t 218)), SG 220 217 false (.load false 1 (.t 6)), SG 221 217 false (.bin .neq (.t 219) (.t 220)), S 222 (.pick (.t 217) (.c (.bool true)) (.t 221)), S 223 (.mv (.t 222)), SG 224 223 false (.mv (.t 19)), SG 225 223 false (.len (.t 224)), SG 226 223 false (.load false 1 (.t 6)), SG 227 223 false (.bin .neq (.t 225) (.t 226)), S 228 (.pick (.t 223) (.c (.bool true)) (.t 227)), S 229 (.mv (.t 228)), SG 230 229 false (.mv (.t 22)), SG 231 229 false (.len (.t 230)), SG 232 229 false (.load false 1 (.t 6)), SG 233 229 false (.bin .neq (.t 231) (.t 232)), S 234 (.pick (.t 229) (.c (.bool true)) (.t 233))]
@[simp] noncomputable def r26 (_ : Unit) : List Stp := [S 4 (.mv (.c (.bool false)))]
@[simp] noncomputable def r27 (_ : Unit) : List Stp := [S 235 (.load false 1 (.t 6)), S 236 (.mv (.c (.int .i64 0)))]
@[simp] noncomputable def r28 (_ : Unit) : List Stp := [S 237 (.bin .lss (.t 236) (.t 235))]
@[simp] noncomputable def r29 (_ : Unit) : List Stp := [S 238 (.mv (.t 236)), S 30 (.mv (.t 238))]
@[simp] noncomputable def r30 (_ : Unit) : List Stp := [S 240 (.load true 3 (.t 2)), S 241 (.mv (.t 30)), SP 242 (.call (.c (.func (.func fn_drive_Times) [] [])) [(.t 240), (.t 241)]), S 239 (.mv (.t 242)), S 243 (.ext (.t 239) 0), S 244 (.ext (.t 239) 1), S 31 (.alloc [(.int .i64 0), (.int .i64 0)]), SN (.store 2 (.t 31) (.t 243)), S 32 (.mv (.t 244))]
@[simp] noncomputable def r31 (_ : Unit) : List Stp := [S 247 (.mv (.t 9)), S 248 (.mv (.t 30)), S 246 (.load true 3 (.t 10)), SD (some 249) (.call (.t 247) [(.t 248)]) false [I 33 (.alloc [(.int .i64 0), (.int .i64 0)])] [I 246 (.load true 3 (.t 10))], SP 250 (.call (.c (.func (.func fn_drive_Times) [] [])) [(.t 246), (.t 249)]), S 245 (.mv (.t 250)), S 251 (.ext (.t 245) 0), S 252 (.ext (.t 245) 1), SD (some 33) (.alloc [(.int .i64 0), (.int .i64 0)]) true [] [], SN (.store 2 (.t 33) (.t 251)), S 34 (.mv (.t 252))]
@[simp] noncomputable def r32 (_ : Unit) : List Stp := [S 254 (.load true 3 (.t 2)), S 255 (.mv (.t 30)), SP 256 (.call (.c (.func (.func fn_drive_Left) [] [])) [(.t 254), (.t 255)]), S 253 (.mv (.t 256)), S 257 (.ext (.t 253) 0), S 258 (.ext (.t 253) 1), S 35 (.alloc [(.int .i64 0), (.int .i64 0)]), SN (.store 2 (.t 35) (.t 257)), S 36 (.mv (.t 258))]
@[simp] noncomputable def r33 (_ : Unit) : List Stp := [S 261 (.mv (.t 9)), S 262 (.mv (.t 30)), S 260 (.load true 3 (.t 10)), SD (some 263) (.call (.t 261) [(.t 262)]) false [I 37 (.alloc [(.int .i64 0), (.int .i64 0)])] [I 260 (.load true 3 (.t 10))], SP 264 (.call (.c (.func (.func fn_drive_Left) [] [])) [(.t 260), (.t 263)]), S 259 (.mv (.t 264)), S 265 (.ext (.t 259) 0), S 266 (.ext (.t 259) 1), SD (some 37) (.alloc [(.int .i64 0), (.int .i64 0)]) true [] [], SN (.store 2 (.t 37) (.t 265)), S 38 (.mv (.t 266))]
@[simp] noncomputable def r34 (_ : Unit) : List Stp := [S 267 (.mv (.t 18)), S 268 (.mv (.t 30)), S 269 (.ixS 1 (.t 267) (.t 268)), S 271 (.mv (.t 21)), S 272 (.mv (.t 9)), S 273 (.mv (.t 30)), S 270 (.load false 1 (.t 269)), SD (some 274) (.call (.t 272) [(.t 273)]) false [] [I 270 (.load false 1 (.t 269))], S 275 (.ixS 1 (.t 271) (.t 274)), S 276 (.load false 1 (.t 275)), S 277 (.bin .neq (.t 270) (.t 276)), S 278 (.mv (.t 277)), SG 279 278 false (.mv (.t 19)), SG 280 278 false (.mv (.t 30)), SG 281 278 false (.ixS 1 (.t 279) (.t 280)), SG 283 278 false (.mv (.t 22)), SG 284 278 false (.mv (.t 9)), SG 285 278 false (.mv (.t 30)), SG 282 278 false (.load false 1 (.t 281)), ⟨IG 286 278 false (.call (.t 284) [(.t 285)]), false, [], [IG 282 278 false (.load false 1 (.t 281))]⟩, SG 287 278 false (.ixS 1 (.t 283) (.t 286)), SG 288 278 false (.load false 1 (.t 287)), SG 289 278 false (.bin .neq (.t 282) (.t 288)), S 290 (.pick (.t 278) (.c (.bool true)) (.t 289)), S 291 (.mv (.t 290)), SG 292 291 false (.mv (.t 24)), SG 293 291 false (.mv (.t 30)), SG 294 291 false (.bin .shr (.t 292) (.t 293)), SG 295 291 false (.bin .and (.t 294) (.c (.int .i64 1))), SG 296 291 false (.mv (.t 27)), SG 297 291 false (.mv (.t 9)), SG 298 291 false (.mv (.t 30)), SG 299 291 false (.call (.t 297) [(.t 298)]), SG 300 291 false (.bin .shr (.t 296) (.t 299)), SG 301 291 false (.bin .and (.t 300) (.c (.int .i64 1))), SG 302 291 false (.bin .neq (.t 295) (.t 301)), S 303 (.pick (.t 291) (.c (.bool true)) (.t 302)), S 304 (.mv (.t 303)), SG 305 304 false (.mv (.t 25)), SG 306 304 false (.mv (.t 30)), SG 307 304 false (.bin .shr (.t 305) (.t 306)), SG 308 304 false (.bin .and (.t 307) (.c (.int .i64 1))), SG 309 304 false (.mv (.t 28)), SG 310 304 false (.mv (.t 9)), SG 311 304 false (.mv (.t 30)), SG 312 304 false (.call (.t 310) [(.t 311)]), SG 313 304 false (.bin .shr (.t 309) (.t 312)), SG 314 304 false (.bin .and (.t 313) (.c (.int .i64 1))), SG 315 304 false (.bin .neq (.t 308) (.t 314)), S 316 (.pick (.t 304) (.c (.bool true)) (.t 315)), S 317 (.mv (.t 316)), SG 318 317 false (.load true 2 (.t 31)), SG 319 317 false (.load true 2 (.t 33)), SG 320 317 false (.eqA true [.i, .i] (.t 318) (.t 319)), S 321 (.pick (.t 317) (.c (.bool true)) (.t 320)), S 322 (.mv (.t 321)), SG 323 322 false (.mv (.t 32)), SG 324 322 false (.mv (.t 34)), SG 325 322 false (.bin .neq (.t 323) (.t 324)), S 326 (.pick (.t 322) (.c (.bool true)) (.t 325)), S 327 (.mv (.t 326)), SG 328 327 false (.load true 2 (.t 35)), SG 329 327 false (.load true 2 (.t 37)), SG 330 327 false (.eqA true [.i, .i] (.t 328) (.t 329)), S 331 (.pick (.t 327) (.c (.bool true)) (.t 330)), S 332 (.mv (.t 331)), SG 333 332 false (.mv (.t 36)), SG 334 332 false (.mv (.t 38)), SG 335 332 false (.bin .neq (.t 333) (.t 334)), S 336 (.pick (.t 332) (.c (.bool true)) (.t 335))]
@[simp] noncomputable def r35 (_ : Unit) : List Stp := [S 4 (.mv (.c (.bool false)))]
@[simp] noncomputable def r36 (_ : Unit) : List Stp := [S 337 (.bin .add (.t 236) (.c (.int .i64 1))), S 236 (.mv (.t 337))]
@[simp] noncomputable def r37 (_ : Unit) : List Stp := [S 338 (.mv (.t 5)), S 341 (.mv (.t 5)), S 339 (.load false 1 (.t 6)), S 342 (.load false 1 (.t 6)), SD (some 340) (.call (.t 338) [(.t 339)]) false [] [I 342 (.load false 1 (.t 6))], S 343 (.call (.t 341) [(.t 342)]), S 39 (.mv (.t 340)), S 40 (.mv (.t 343))]
@[simp] noncomputable def r38 (_ : Unit) : List Stp := [S 345 (.load true 3 (.t 2)), S 346 (.mv (.t 39)), S 347 (.mv (.t 40)), SP 348 (.call (.c (.func (.func fn_drive_Push) [] [])) [(.t 345), (.t 346), (.t 347)]), S 344 (.mv (.t 348)), S 349 (.ext (.t 344) 0), S 350 (.ext (.t 344) 1), S 41 (.mv (.t 349)), S 42 (.mv (.t 350))]
@[simp] noncomputable def r39 (_ : Unit) : List Stp := [S 353 (.mv (.t 9)), S 354 (.mv (.t 39)), S 356 (.mv (.t 9)), S 357 (.mv (.t 40)), S 352 (.load true 3 (.t 10)), SD (some 355) (.call (.t 353) [(.t 354)]) false [] [I 352 (.load true 3 (.t 10))], SD (some 358) (.call (.t 356) [(.t 357)]) false [] [I 352 (.load true 3 (.t 10))], SP 359 (.call (.c (.func (.func fn_drive_Push) [] [])) [(.t 352), (.t 355), (.t 358)]), S 351 (.mv (.t 359)), S 360 (.ext (.t 351) 0), S 361 (.ext (.t 351) 1), S 43 (.mv (.t 360)), S 44 (.mv (.t 361))]
@[simp] noncomputable def r40 (_ : Unit) : List Stp := [S 362 (.mv (.t 41)), S 363 (.mv (.t 43)), S 364 (.bin .neq (.t 362) (.t 363)), S 365 (.mv (.t 364)), SG 366 365 false (.mv (.t 42)), SG 367 365 false (.mv (.t 44)), SG 368 365 false (.bin .neq (.t 366) (.t 367)), S 369 (.pick (.t 365) (.c (.bool true)) (.t 368))]
@[simp] noncomputable def r41 (_ : Unit) : List Stp := [S 4 (.mv (.c (.bool false)))]
@[simp] noncomputable def r42 (_ : Unit) : List Stp := [S 370 (.mv (.t 7)), S 371 (.slS 1 (.t 370) (some (.c (.int .i64 1))) none none), S 373 (.mv (.t 7)), S 378 (.mv (.t 7)), S 379 (.slS 1 (.t 378) (some (.c (.int .i64 1))) none none), S 382 (.mv (.t 7)), S 383 (.slS 1 (.t 382) (some (.c (.int .i64 1))) none none), S 387 (.mv (.c (.int .i64 0))), S 372 (.bsl 0 [] []), SD (some 375) (.bsl 1 [(.int .i64 0)] [(0, 1, (.c (.int .i64 0)))]) true [] [], SD (some 377) (.bsl 1 [(.int .i64 0)] [(0, 1, (.c (.int .i64 (-1))))]) true [] [], SD (some 381) (.bsl 1 [(.int .i64 0)] [(0, 1, (.c (.int .i64 53)))]) true [] [], S 374 (.app 1 8 (.t 372) (.t 373)), S 376 (.app 1 8 (.t 374) (.t 375)), S 380 (.app 1 8 (.t 377) (.t 379)), S 384 (.app 1 8 (.t 381) (.t 383)), S 385 (.bsl 4 [.nils, .nils, .nils, .nils] [(0, 1, (.t 371)), (1, 1, (.t 376)), (2, 1, (.t 380)), (3, 1, (.t 384))]), S 386 (.len (.t 385))]
@[simp] noncomputable def r43 (_ : Unit) : List Stp := [S 388 (.bin .lss (.t 387) (.t 386))]
@[simp] noncomputable def r44 (_ : Unit) : List Stp := [S 389 (.ixS 1 (.t 385) (.t 387)), S 390 (.load false 1 (.t 389)), S 46 (.mv (.t 390))]
@[simp] noncomputable def r45 (_ : Unit) : List Stp := [S 392 (.load true 3 (.t 2)), S 393 (.mv (.t 46)), S 394 (.call (.c (.func (.func fn_drive_Settle) [] [])) [(.t 392), (.t 393)]), S 391 (.mv (.t 394)), S 395 (.ext (.t 391) 0), S 396 (.ext (.t 391) 1), S 397 (.ext (.t 391) 2), S 47 (.mv (.t 395)), S 48 (.mv (.t 396)), S 49 (.mv (.t 397))]
@[simp] noncomputable def r46 (_ : Unit) : List Stp := [S 399 (.load true 3 (.t 2)), S 400 (.mv (.t 46)), S 401 (.mv (.t 8)), S 402 (.call (.c (.func (.func fn_drive_Run) [] [])) [(.t 399), (.t 400), (.t 401)]), S 398 (.mv (.t 402)), S 403 (.ext (.t 398) 0), S 404 (.ext (.t 398) 1), S 50 (.mv (.t 403)), S 51 (.mv (.t 404))]
@[simp] noncomputable def r47 (_ : Unit) : List Stp := [S 405 (.mv (.t 49)), S 406 (.bin .neq (.t 405) (.c (.int .i64 2))), S 407 (.mv (.t 406)), SG 408 407 false (.mv (.t 51)), SG 409 407 false (.bin .neq (.t 408) (.c (.int .i64 2))), S 410 (.pick (.t 407) (.c (.bool true)) (.t 409))]
@[simp] noncomputable def r48 (_ : Unit) : List Stp := [S 4 (.mv (.c (.bool false)))]
@[simp] noncomputable def r49 (_ : Unit) : List Stp := [S 411 (.bin .add (.t 387) (.c (.int .i64 1))), S 387 (.mv (.t 411))]
@[simp] noncomputable def r50 (_ : Unit) : List Stp := [S 414 (.mv (.t 7)), S 416 (.mv (.t 8)), S 413 (.load true 3 (.t 2)), SD (some 415) (.bsl 0 [] []) true [] [], SD (some 418) (.bsl 1 [(.int .i64 0)] [(0, 1, (.c (.int .i64 0)))]) true [] [], SD (some 417) (.app 1 8 (.t 415) (.t 416)) false [] [I 413 (.load true 3 (.t 2))], SD (some 419) (.app 1 8 (.t 417) (.t 418)) false [] [I 413 (.load true 3 (.t 2))], S 420 (.call (.c (.func (.func fn_drive_Run) [] [])) [(.t 413), (.t 414), (.t 419)]), S 412 (.mv (.t 420)), S 421 (.ext (.t 412) 0), S 422 (.ext (.t 412) 1), S 52 (.mv (.t 421)), S 53 (.mv (.t 422))]
@[simp] noncomputable def r51 (_ : Unit) : List Stp := [S 425 (.mv (.t 7)), S 428 (.mv (.t 8)), S 429 (.slS 1 (.t 428) (some (.c (.int .i64 1))) none none), S 424 (.load true 3 (.t 2)), S 426 (.load false 1 (.t 6)), SD (some 427) (.bsl 1 [(.int .i64 0)] [(0, 1, (.t 426))]) true [] [], SD (some 430) (.app 1 8 (.t 427) (.t 429)) false [] [I 424 (.load true 3 (.t 2))], S 431 (.call (.c (.func (.func fn_drive_Run) [] [])) [(.t 424), (.t 425), (.t 430)]), S 423 (.mv (.t 431)), S 432 (.ext (.t 423) 0), S 433 (.ext (.t 423) 1), S 54 (.mv (.t 432)), S 55 (.mv (.t 433))]
@[simp] noncomputable def r52 (_ : Unit) : List Stp := [S 435 (.load true 3 (.t 2)), S 436 (.load false 1 (.t 6)), SP 437 (.call (.c (.func (.func fn_drive_Push) [] [])) [(.t 435), (.t 436), (.c (.int .i64 0))]), S 434 (.mv (.t 437)), S 438 (.ext (.t 434) 0), S 439 (.ext (.t 434) 1), S 56 (.mv (.t 438)), S 57 (.mv (.t 439))]
@[simp] noncomputable def r53 (_ : Unit) : List Stp := [S 440 (.mv (.t 53)), S 441 (.bin .neq (.t 440) (.c (.int .i64 2))), S 442 (.mv (.t 441)), SG 443 442 false (.mv (.t 55)), SG 444 442 false (.bin .neq (.t 443) (.c (.int .i64 2))), S 445 (.pick (.t 442) (.c (.bool true)) (.t 444)), S 446 (.mv (.t 445)), SG 447 446 false (.mv (.t 57)), SG 448 446 false (.bin .neq (.t 447) (.c (.int .i64 2))), S 449 (.pick (.t 446) (.c (.bool true)) (.t 448))]
@[simp] noncomputable def r54 (_ : Unit) : List Stp := [S 4 (.mv (.c (.bool false)))]
@[simp] noncomputable def r55 (_ : Unit) : List Stp := [S 450 (.bsl 0 [] []), S 451 (.mv (.t 18)), S 452 (.app 1 8 (.t 450) (.t 451)), S 58 (.mv (.t 452))]
@[simp] noncomputable def r56 (_ : Unit) : List Stp := [S 453 (.mv (.t 18)), S 454 (.len (.t 453)), S 455 (.mv (.c (.int .i64 0)))]
@[simp] noncomputable def r57 (_ : Unit) : List Stp := [S 456 (.bin .lss (.t 455) (.t 454))]
@[simp] noncomputable def r58 (_ : Unit) : List Stp := [S 457 (.mv (.t 455)), S 59 (.mv (.t 457))]
@[simp] noncomputable def r59 (_ : Unit) : List Stp := [S 458 (.mv (.t 18)), S 459 (.mv (.t 59)), S 460 (.mv (.t 19)), S 461 (.mv (.t 59)), S 462 (.ixS 1 (.t 458) (.t 459)), SN (.store 1 (.t 462) (.c (.int .i64 (-9)))), S 463 (.ixS 1 (.t 460) (.t 461)), SN (.store 1 (.t 463) (.c (.int .i64 (-9))))]
@[simp] noncomputable def r60 (_ : Unit) : List Stp := [S 464 (.bin .add (.t 455) (.c (.int .i64 1))), S 455 (.mv (.t 464))]
@[simp] noncomputable def r61 (_ : Unit) : List Stp := [S 466 (.load true 3 (.t 2)), S 467 (.mv (.t 7)), S 468 (.call (.c (.func (.func fn_drive_Settle) [] [])) [(.t 466), (.t 467)]), S 465 (.mv (.t 468)), S 469 (.ext (.t 465) 0), S 470 (.ext (.t 465) 1), S 471 (.ext (.t 465) 2), S 60 (.mv (.t 469)), S 61 (.mv (.t 470)), S 62 (.mv (.t 471))]
@[simp] noncomputable def r62 (_ : Unit) : List Stp := [S 472 (.mv (.t 62)), S 473 (.bin .neq (.t 472) (.c (.int .i64 0))), S 474 (.mv (.t 473)), SG 475 474 false (.mv (.t 60)), SG 476 474 false (.mv (.t 58)), SG 477 474 false (.call (.c (.func (.func fn_law05_ints) [] [])) [(.t 475), (.t 476)]), SG 478 474 false (.un .not (.t 477)), S 479 (.pick (.t 474) (.c (.bool true)) (.t 478)), S 480 (.mv (.t 479)), SG 481 480 false (.mv (.t 15)), SG 482 480 false (.fAddr 0 (.t 2)), SG 483 480 false (.load false 1 (.t 482)), SG 484 480 false (.call (.c (.func (.func fn_law05_ints) [] [])) [(.t 481), (.t 483)]), SG 485 480 false (.un .not (.t 484)), S 486 (.pick (.t 480) (.c (.bool true)) (.t 485))]
@[simp] noncomputable def r63 (_ : Unit) : List Stp := [S 4 (.mv (.c (.bool false)))]
@[simp] noncomputable def r64 (_ : Unit) : List Stp := [S 487 (.mv (.t 16)), S 488 (.len (.t 487)), S 489 (.mv (.c (.int .i64 0)))]
@[simp] noncomputable def r65 (_ : Unit) : List Stp := [S 490 (.bin .lss (.t 489) (.t 488))]
@[simp] noncomputable def r66 (_ : Unit) : List Stp := [S 491 (.mv (.t 489)), S 63 (.mv (.t 491))]
@[simp] noncomputable def r67 (_ : Unit) : List Stp := [S 492 (.mv (.t 16)), S 493 (.mv (.t 63)), S 494 (.ixS 2 (.t 492) (.t 493)), S 496 (.fAddr 1 (.t 2)), S 498 (.mv (.t 63)), S 495 (.load true 2 (.t 494)), S 497 (.load false 1 (.t 496)), S 499 (.ixS 2 (.t 497) (.t 498)), S 500 (.load true 2 (.t 499)), S 501 (.eqA true [.i, .i] (.t 495) (.t 500))]
@[simp] noncomputable def r68 (_ : Unit) : List Stp := [S 4 (.mv (.c (.bool false)))]
@[simp] noncomputable def r69 (_ : Unit) : List Stp := [S 502 (.bin .add (.t 489) (.c (.int .i64 1))), S 489 (.mv (.t 502))]
@[simp] noncomputable def r70 (_ : Unit) : List Stp := [S 503 (.mv (.t 17)), S 504 (.len (.t 503)), S 505 (.mv (.c (.int .i64 0)))]
@[simp] noncomputable def r71 (_ : Unit) : List Stp := [S 506 (.bin .lss (.t 505) (.t 504))]
@[simp] noncomputable def r72 (_ : Unit) : List Stp := [S 507 (.mv (.t 505)), S 64 (.mv (.t 507))]
@[simp] noncomputable def r73 (_ : Unit) : List Stp := [S 508 (.mv (.t 17)), S 509 (.mv (.t 64)), S 510 (.ixS 2 (.t 508) (.t 509)), S 512 (.fAddr 2 (.t 2)), S 514 (.mv (.t 64)), S 511 (.load true 2 (.t 510)), S 513 (.load false 1 (.t 512)), S 515 (.ixS 2 (.t 513) (.t 514)), S 516 (.load true 2 (.t 515)), S 517 (.eqA true [.i, .i] (.t 511) (.t 516))]
@[simp] noncomputable def r74 (_ : Unit) : List Stp := [S 4 (.mv (.c (.bool false)))]
@[simp] noncomputable def r75 (_ : Unit) : List Stp := [S 518 (.bin .add (.t 505) (.c (.int .i64 1))), S 505 (.mv (.t 518))]
@[simp] noncomputable def r76 (_ : Unit) : List Stp := [SP 519 (.call (.c (.func (.func fn_law05_alive) [] [])) []), S 4 (.mv (.t 519))]
@[simp] noncomputable def ir : IR := (.seq (.ops r0) (.seq (.seq (.ops r1) (.cond (.t 71) (.seq (.ops r2) .ret) .skip)) (.seq (.ops r3) (.seq (.ops r4) (.seq (.ops r5) (.seq (.ops r6) (.seq (.ops r7) (.seq (.ops r8) (.seq (.seq (.ops r9) (.block 0 (.loop (.seq (.ops r10) (.seq (.cond (.t 94) .skip (.exit 0)) (.seq (.block 1 (.seq (.ops r11) (.ops r12))) (.ops r13))))))) (.seq (.seq (.ops r14) (.block 2 (.loop (.seq (.ops r15) (.seq (.cond (.t 132) .skip (.exit 2)) (.seq (.block 3 (.seq (.ops r16) (.seq (.ops r17) (.ops r18)))) (.ops r19))))))) (.seq (.ops r20) (.seq (.cut (.ops r21)) (.seq (.ops r22) (.seq (.ops r23) (.seq (.ops r24) (.seq (.seq (.ops r25) (.cond (.t 234) (.seq (.ops r26) .ret) .skip)) (.seq (.seq (.ops r27) (.block 4 (.loop (.seq (.ops r28) (.seq (.cond (.t 237) .skip (.exit 4)) (.seq (.block 5 (.seq (.ops r29) (.seq (.ops r30) (.seq (.ops r31) (.seq (.ops r32) (.seq (.ops r33) (.seq (.ops r34) (.cond (.t 336) (.seq (.ops r35) .ret) .skip)))))))) (.ops r36))))))) (.seq (.ops r37) (.seq (.ops r38) (.seq (.ops r39) (.seq (.seq (.ops r40) (.cond (.t 369) (.seq (.ops r41) .ret) .skip)) (.seq (.seq (.ops r42) (.block 6 (.loop (.seq (.ops r43) (.seq (.cond (.t 388) .skip (.exit 6)) (.seq (.block 7 (.seq (.ops r44) (.seq (.ops r45) (.seq (.ops r46) (.seq (.ops r47) (.cond (.t 410) (.seq (.ops r48) .ret) .skip)))))) (.ops r49))))))) (.seq (.ops r50) (.seq (.ops r51) (.seq (.cut (.ops r52)) (.seq (.seq (.ops r53) (.cond (.t 449) (.seq (.ops r54) .ret) .skip)) (.seq (.ops r55) (.seq (.seq (.ops r56) (.block 8 (.loop (.seq (.ops r57) (.seq (.cond (.t 456) .skip (.exit 8)) (.seq (.block 9 (.seq (.ops r58) (.ops r59))) (.ops r60))))))) (.seq (.ops r61) (.seq (.seq (.ops r62) (.cond (.t 486) (.seq (.ops r63) .ret) .skip)) (.seq (.seq (.ops r64) (.block 10 (.loop (.seq (.ops r65) (.seq (.cond (.t 490) .skip (.exit 10)) (.seq (.block 11 (.seq (.ops r66) (.seq (.ops r67) (.cond (.t 501) (.seq (.ops r68) .ret) .skip)))) (.ops r69))))))) (.seq (.seq (.ops r70) (.block 12 (.loop (.seq (.ops r71) (.seq (.cond (.t 506) .skip (.exit 12)) (.seq (.block 13 (.seq (.ops r72) (.seq (.ops r73) (.cond (.t 517) (.seq (.ops r74) .ret) .skip)))) (.ops r75))))))) (.seq (.ops r76) .ret)))))))))))))))))))))))))))))))))
@[simp] noncomputable def rs : List RV := [.tmp 4]
theorem comp : compF Pg cfg Try.f11 = some (ir, rs, 520) := by kernel_rfl
theorem enter {args : List AVal} {h : Heap} {K : AEnd → Heap → Prop} (F : Nat) (hl : args.length ≤ 520) (a : AW ⟨Pg, F, 520, false, []⟩ ir (RetK rs K) (initT args) [] h) : ACalls Pg fn_law05_DriveTurned args h K :=
  ACalls.of_comp follows Try.func11 comp hl a
theorem pure {args : List AVal} {v : AVal} (hl : args.length ≤ 520) (a : AW ⟨Pg, 0, 520, false, []⟩ ir (RetK rs fun e _ => e = .ret v) (initT args) [] nilH) : APure Pg fn_law05_DriveTurned args v :=
  APure.of_nil (enter 0 hl a)
end law05_DriveTurned

namespace law05_long
noncomputable def cfg : Cfg := { pure := pures, pcs := [], raw := [], cuts := [], draws := [], keep := [] }
@[simp] noncomputable def r0 (_ : Unit) : List Stp := [S 2 (.box (.t 0)), S 4 (.mv (.c (.bool false)))]
@[simp] noncomputable def r1 (_ : Unit) : List Stp := [S 8 (.fAddr 0 (.t 2)), S 9 (.load false 1 (.t 8)), S 10 (.len (.t 9)), S 11 (.fAddr 1 (.t 2)), S 12 (.load false 1 (.t 11)), S 13 (.len (.t 12)), S 14 (.fAddr 2 (.t 2)), S 15 (.load false 1 (.t 14)), S 16 (.len (.t 15)), S 17 (.mm true [(.t 10), (.t 13), (.t 16)]), S 5 (.mv (.t 17))]
@[simp] noncomputable def r2 (_ : Unit) : List Stp := [S 18 (.mv (.t 1)), S 19 (.len (.t 18)), S 20 (.mv (.c (.int .i64 0)))]
@[simp] noncomputable def r3 (_ : Unit) : List Stp := [S 21 (.bin .lss (.t 20) (.t 19))]
@[simp] noncomputable def r4 (_ : Unit) : List Stp := [S 22 (.ixS 1 (.t 18) (.t 20)), S 23 (.load false 1 (.t 22)), S 7 (.mv (.t 23))]
@[simp] noncomputable def r5 (_ : Unit) : List Stp := [S 24 (.mv (.t 5)), S 25 (.mv (.t 7)), S 26 (.len (.t 25)), S 27 (.mm true [(.t 24), (.t 26)]), S 5 (.mv (.t 27))]
@[simp] noncomputable def r6 (_ : Unit) : List Stp := [S 28 (.bin .add (.t 20) (.c (.int .i64 1))), S 20 (.mv (.t 28))]
@[simp] noncomputable def r7 (_ : Unit) : List Stp := [S 29 (.mv (.t 5)), S 30 (.bin .gtr (.t 29) (.c (.int .i64 40))), S 4 (.mv (.t 30))]
@[simp] noncomputable def ir : IR := (.seq (.ops r0) (.seq (.ops r1) (.seq (.seq (.ops r2) (.block 0 (.loop (.seq (.ops r3) (.seq (.cond (.t 21) .skip (.exit 0)) (.seq (.block 1 (.seq (.ops r4) (.ops r5))) (.ops r6))))))) (.seq (.ops r7) .ret))))
@[simp] noncomputable def rs : List RV := [.tmp 4]
theorem comp : compF Pg cfg Try.f12 = some (ir, rs, 31) := by kernel_rfl
theorem enter {args : List AVal} {h : Heap} {K : AEnd → Heap → Prop} (F : Nat) (hl : args.length ≤ 31) (a : AW ⟨Pg, F, 31, false, []⟩ ir (RetK rs K) (initT args) [] h) : ACalls Pg fn_law05_long args h K :=
  ACalls.of_comp follows Try.func12 comp hl a
theorem pure {args : List AVal} {v : AVal} (hl : args.length ≤ 31) (a : AW ⟨Pg, 0, 31, false, []⟩ ir (RetK rs fun e _ => e = .ret v) (initT args) [] nilH) : APure Pg fn_law05_long args v :=
  APure.of_nil (enter 0 hl a)
end law05_long

namespace law05_alive
noncomputable def cfg : Cfg := { pure := pures, pcs := [], raw := [], cuts := [], draws := [(8, [⟨0, false, [], []⟩, ⟨1, false, [], []⟩, ⟨2, false, [], []⟩, ⟨3, false, [], []⟩, ⟨4, false, [], []⟩, ⟨5, false, [], []⟩, ⟨6, false, [], []⟩, ⟨7, false, [], []⟩, ⟨8, false, [], []⟩, ⟨9, false, [], []⟩, ⟨10, false, [], []⟩, ⟨11, false, [], []⟩, ⟨12, false, [], []⟩, ⟨13, false, [], []⟩, ⟨14, false, [], []⟩, ⟨15, false, [], []⟩, ⟨16, false, [], []⟩, ⟨17, false, [], []⟩, ⟨18, false, [], []⟩, ⟨19, false, [], []⟩, ⟨20, false, [], []⟩, ⟨21, false, [], []⟩, ⟨23, false, [], []⟩, ⟨22, false, [], []⟩, ⟨24, false, [], []⟩, ⟨25, false, [], []⟩, ⟨26, false, [], []⟩, ⟨27, false, [], []⟩, ⟨28, false, [], []⟩, ⟨29, false, [], []⟩, ⟨30, false, [], []⟩, ⟨32, false, [], []⟩, ⟨31, false, [], []⟩, ⟨33, false, [], []⟩, ⟨34, false, [], []⟩, ⟨35, false, [], []⟩, ⟨36, false, [], []⟩, ⟨37, false, [], []⟩, ⟨38, false, [], []⟩, ⟨39, false, [], []⟩, ⟨40, false, [], []⟩, ⟨41, false, [], []⟩, ⟨42, false, [], []⟩, ⟨43, false, [], []⟩, ⟨44, false, [], []⟩, ⟨45, false, [], []⟩, ⟨46, false, [], []⟩, ⟨47, false, [], []⟩, ⟨48, false, [], []⟩, ⟨49, false, [], []⟩, ⟨50, false, [], []⟩, ⟨51, false, [], []⟩, ⟨52, false, [], []⟩, ⟨53, false, [], []⟩, ⟨54, false, [], []⟩, ⟨55, false, [], []⟩, ⟨56, false, [], []⟩, ⟨57, false, [], []⟩, ⟨58, false, [], []⟩, ⟨59, false, [], []⟩, ⟨60, false, [], []⟩, ⟨61, false, [], []⟩, ⟨62, false, [], []⟩, ⟨63, false, [], []⟩, ⟨64, false, [], []⟩, ⟨65, false, [], []⟩, ⟨66, false, [], []⟩, ⟨67, false, [], []⟩])], keep := [] }
@[simp] noncomputable def r0 (_ : Unit) : List Stp := [S 0 (.mv (.c (.bool false)))]
@[simp] noncomputable def r1 (_ : Unit) : List Stp := [SP 18 (.call (.c (.func (.func fn_law05_sample) [] [])) []), S 19 (.bsl 3 [(.int .i64 0), (.int .i64 0), (.int .i64 0)] [(0, 1, (.c (.int .i64 4))), (1, 1, (.c (.int .i64 2))), (2, 1, (.c (.int .i64 2)))]), S 20 (.call (.c (.func (.func fn_drive_Settle) [] [])) [(.t 18), (.t 19)]), S 17 (.mv (.t 20)), S 21 (.ext (.t 17) 0), S 22 (.ext (.t 17) 1), S 23 (.ext (.t 17) 2), S 1 (.mv (.t 21)), S 2 (.mv (.t 22)), S 3 (.mv (.t 23))]
@[simp] noncomputable def r2 (_ : Unit) : List Stp := [SP 25 (.call (.c (.func (.func fn_law05_sample) [] [])) []), S 26 (.bsl 3 [(.int .i64 0), (.int .i64 0), (.int .i64 0)] [(0, 1, (.c (.int .i64 3))), (1, 1, (.c (.int .i64 3))), (2, 1, (.c (.int .i64 3)))]), S 27 (.bsl 3 [(.int .i64 0), (.int .i64 0), (.int .i64 0)] [(0, 1, (.c (.int .i64 2))), (1, 1, (.c (.int .i64 1))), (2, 1, (.c (.int .i64 0)))]), S 28 (.call (.c (.func (.func fn_drive_Run) [] [])) [(.t 25), (.t 26), (.t 27)]), S 24 (.mv (.t 28)), S 29 (.ext (.t 24) 0), S 30 (.ext (.t 24) 1), S 4 (.mv (.t 29)), S 5 (.mv (.t 30))]
@[simp] noncomputable def r3 (_ : Unit) : List Stp := [SP 32 (.call (.c (.func (.func fn_law05_sample) [] [])) []), SP 33 (.call (.c (.func (.func fn_drive_Times) [] [])) [(.t 32), (.c (.int .i64 2))]), S 31 (.mv (.t 33)), S 34 (.ext (.t 31) 0), S 35 (.ext (.t 31) 1), S 6 (.alloc [(.int .i64 0), (.int .i64 0)]), SN (.store 2 (.t 6) (.t 34)), S 7 (.mv (.t 35))]
@[simp] noncomputable def r4 (_ : Unit) : List Stp := [SP 37 (.call (.c (.func (.func fn_law05_sample) [] [])) []), SP 38 (.call (.c (.func (.func fn_drive_Left) [] [])) [(.t 37), (.c (.int .i64 1))]), S 36 (.mv (.t 38)), S 39 (.ext (.t 36) 0), S 40 (.ext (.t 36) 1), S 8 (.alloc [(.int .i64 0), (.int .i64 0)]), SN (.store 2 (.t 8) (.t 39)), S 9 (.mv (.t 40))]
@[simp] noncomputable def r5 (_ : Unit) : List Stp := [SP 42 (.call (.c (.func (.func fn_law05_sample) [] [])) []), SP 43 (.call (.c (.func (.func fn_drive_Opens) [] [])) [(.t 42)]), S 41 (.mv (.t 43)), S 44 (.ext (.t 41) 0), S 45 (.ext (.t 41) 1), S 46 (.ext (.t 41) 2), S 10 (.mv (.t 44)), S 11 (.mv (.t 45)), S 12 (.mv (.t 46))]
@[simp] noncomputable def r6 (_ : Unit) : List Stp := [SP 48 (.call (.c (.func (.func fn_law05_sample) [] [])) []), SP 49 (.call (.c (.func (.func fn_drive_Push) [] [])) [(.t 48), (.c (.int .i64 0)), (.c (.int .i64 2))]), S 47 (.mv (.t 49)), S 50 (.ext (.t 47) 0), S 51 (.ext (.t 47) 1), S 13 (.mv (.t 50)), S 14 (.mv (.t 51))]
@[simp] noncomputable def r7 (_ : Unit) : List Stp := [SP 53 (.call (.c (.func (.func fn_law05_sample) [] [])) []), S 54 (.bsl 3 [(.int .i64 0), (.int .i64 0), (.int .i64 0)] [(0, 1, (.c (.int .i64 2))), (1, 1, (.c (.int .i64 2))), (2, 1, (.c (.int .i64 2)))]), S 55 (.call (.c (.func (.func fn_drive_Chain) [] [])) [(.t 53), (.t 54), (.c (.int .i64 1))]), S 52 (.mv (.t 55)), S 56 (.ext (.t 52) 0), S 57 (.ext (.t 52) 1), S 15 (.mv (.t 56)), S 16 (.mv (.t 57))]
@[simp] noncomputable def r8 (_ : Unit) : List Stp := [S 58 (.mv (.t 1)), S 59 (.bsl 3 [(.int .i64 0), (.int .i64 0), (.int .i64 0)] [(0, 1, (.c (.int .i64 2))), (1, 1, (.c (.int .i64 1))), (2, 1, (.c (.int .i64 0)))]), S 60 (.call (.c (.func (.func fn_law05_ints) [] [])) [(.t 58), (.t 59)]), S 61 (.mv (.t 60)), SG 62 61 true (.mv (.t 2)), SG 63 61 true (.bsl 3 [(.int .i64 0), (.int .i64 0), (.int .i64 0)] [(0, 1, (.c (.int .i64 1))), (1, 1, (.c (.int .i64 1))), (2, 1, (.c (.int .i64 1)))]), SG 64 61 true (.call (.c (.func (.func fn_law05_ints) [] [])) [(.t 62), (.t 63)]), S 65 (.pick (.t 61) (.t 64) (.c (.bool false))), S 66 (.mv (.t 65)), SG 67 66 true (.mv (.t 3)), SG 68 66 true (.bin .eql (.t 67) (.c (.int .i64 0))), S 69 (.pick (.t 66) (.t 68) (.c (.bool false))), S 70 (.mv (.t 69)), SG 71 70 true (.mv (.t 4)), SG 72 70 true (.bsl 3 [(.int .i64 0), (.int .i64 0), (.int .i64 0)] [(0, 1, (.c (.int .i64 2))), (1, 1, (.c (.int .i64 1))), (2, 1, (.c (.int .i64 0)))]), SG 73 70 true (.call (.c (.func (.func fn_law05_ints) [] [])) [(.t 71), (.t 72)]), S 74 (.pick (.t 70) (.t 73) (.c (.bool false))), S 75 (.mv (.t 74)), SG 76 75 true (.mv (.t 5)), SG 77 75 true (.bin .eql (.t 76) (.c (.int .i64 0))), S 78 (.pick (.t 75) (.t 77) (.c (.bool false))), S 79 (.mv (.t 78)), SGP 81 79 true (.call (.c (.func (.func fn_law05_span) [] [])) [(.c (.int .i64 0)), (.c (.int .i64 1))]), SG 80 79 true (.load true 2 (.t 6)), SG 82 79 true (.eqA false [.i, .i] (.t 80) (.t 81)), S 83 (.pick (.t 79) (.t 82) (.c (.bool false))), S 84 (.mv (.t 83)), SG 85 84 true (.mv (.t 7)), SG 86 84 true (.bin .eql (.t 85) (.c (.int .i64 0))), S 87 (.pick (.t 84) (.t 86) (.c (.bool false))), S 88 (.mv (.t 87)), SGP 90 88 true (.call (.c (.func (.func fn_law05_span) [] [])) [(.c (.int .i64 0)), (.c (.int .i64 1))]), SG 89 88 true (.load true 2 (.t 8)), SG 91 88 true (.eqA false [.i, .i] (.t 89) (.t 90)), S 92 (.pick (.t 88) (.t 91) (.c (.bool false))), S 93 (.mv (.t 92)), SG 94 93 true (.mv (.t 9)), SG 95 93 true (.bin .eql (.t 94) (.c (.int .i64 0))), S 96 (.pick (.t 93) (.t 95) (.c (.bool false))), S 97 (.mv (.t 96)), SG 98 97 true (.mv (.t 10)), SG 99 97 true (.bin .eql (.t 98) (.c (.int .i64 7))), S 100 (.pick (.t 97) (.t 99) (.c (.bool false))), S 101 (.mv (.t 100)), SG 102 101 true (.mv (.t 11)), SG 103 101 true (.bin .eql (.t 102) (.c (.int .i64 3))), S 104 (.pick (.t 101) (.t 103) (.c (.bool false))), S 105 (.mv (.t 104)), SG 106 105 true (.mv (.t 12)), SG 107 105 true (.bin .eql (.t 106) (.c (.int .i64 0))), S 108 (.pick (.t 105) (.t 107) (.c (.bool false))), S 109 (.mv (.t 108)), SG 110 109 true (.mv (.t 13)), SG 111 109 true (.bin .eql (.t 110) (.c (.int .i64 7))), S 112 (.pick (.t 109) (.t 111) (.c (.bool false))), S 113 (.mv (.t 112)), SG 114 113 true (.mv (.t 14)), SG 115 113 true (.bin .eql (.t 114) (.c (.int .i64 0))), S 116 (.pick (.t 113) (.t 115) (.c (.bool false))), S 117 (.mv (.t 116)), SG 118 117 true (.mv (.t 15)), SG 119 117 true (.bin .eql (.t 118) (.c (.int .i64 7))), S 120 (.pick (.t 117) (.t 119) (.c (.bool false))), S 121 (.mv (.t 120)), SG 122 121 true (.mv (.t 16)), SG 123 121 true (.bin .eql (.t 122) (.c (.int .i64 0))), S 124 (.pick (.t 121) (.t 123) (.c (.bool false))), S 0 (.mv (.t 124))]
@[simp] noncomputable def ir : IR := (.seq (.ops r0) (.seq (.ops r1) (.seq (.ops r2) (.seq (.ops r3) (.seq (.ops r4) (.seq (.ops r5) (.seq (.ops r6) (.seq (.ops r7) (.seq (.ops r8) .ret)))))))))
@[simp] noncomputable def rs : List RV := [.tmp 0]
theorem comp : compF Pg cfg Try.f13 = some (ir, rs, 125) := by kernel_rfl
theorem enter {args : List AVal} {h : Heap} {K : AEnd → Heap → Prop} (F : Nat) (hl : args.length ≤ 125) (a : AW ⟨Pg, F, 125, false, []⟩ ir (RetK rs K) (initT args) [] h) : ACalls Pg fn_law05_alive args h K :=
  ACalls.of_comp follows Try.func13 comp hl a
theorem pure {args : List AVal} {v : AVal} (hl : args.length ≤ 125) (a : AW ⟨Pg, 0, 125, false, []⟩ ir (RetK rs fun e _ => e = .ret v) (initT args) [] nilH) : APure Pg fn_law05_alive args v :=
  APure.of_nil (enter 0 hl a)
end law05_alive

namespace drive_Settle
noncomputable def cfg : Cfg := { pure := pures, pcs := [], raw := [], cuts := [], draws := [(2, [⟨2, false, [], []⟩, ⟨0, false, [], []⟩, ⟨1, false, [], []⟩, ⟨3, false, [], []⟩, ⟨4, false, [], []⟩, ⟨5, false, [], []⟩])], keep := [4, 5, 6] }
@[simp] noncomputable def r0 (_ : Unit) : List Stp := [S 2 (.box (.t 0)), S 4 (.mv (.c .nils)), S 5 (.mv (.c .nils)), S 6 (.alloc [(.int .i64 0)])]
@[simp] noncomputable def r1 (_ : Unit) : List Stp := [S 9 (.mkF (.func fn_drive_Settle_1) [] [(.t 6)]), SN (.defer (.t 9) [])]
@[simp] noncomputable def r2 (_ : Unit) : List Stp := [S 12 (.mv (.t 1)), S 10 (.load true 3 (.t 2)), S 11 (.load true 3 (.t 2)), SP 13 (.call (.c (.func (.func fn_drive_areBlows) [] [])) [(.t 11), (.t 12)]), S 14 (.call (.c (.func (.func fn_drive_open) [] [])) [(.t 10), (.t 13)]), S 7 (.mv (.t 14))]
@[simp] noncomputable def r3 (_ : Unit) : List Stp := [S 15 (.mv (.t 7)), S 16 (.call (.c (.func (.func fn_drive_hull_settler) [] [])) [(.t 15)]), S 17 (.mv (.t 1)), SP 18 (.call (.c (.func (.func fn_drive_blowsOf) [] [])) [(.t 17)]), S 19 (.call (.c (.func (.func fn_drive_settler_rest) [] [])) [(.t 16), (.t 18)]), S 8 (.alloc [(.int .i64 0), (.int .i64 0), (.int .i64 0), (.int .i64 0), (.int .i64 0), (.int .i64 0), (.int .i64 0), (.int .i64 0), (.int .i64 0), (.int .i64 0), (.int .i64 0), (.int .i64 0)]), SN (.store 12 (.t 8) (.t 19))]
@[simp] noncomputable def r4 (_ : Unit) : List Stp := [S 20 (.fAddr 0 (.t 8)), S 21 (.mv (.t 7)), SP 22 (.call (.c (.func (.func fn_drive_hull_seams) [] [])) [(.t 21)]), S 23 (.slA 6 1 (.t 20) none (some (.t 22)) none), S 24 (.call (.c (.func (.func fn_slices_Clone_int_int) [] [])) [(.t 23)]), S 25 (.fAddr 6 (.t 8)), S 26 (.mv (.t 7)), SP 27 (.call (.c (.func (.func fn_drive_hull_seams) [] [])) [(.t 26)]), S 28 (.slA 6 1 (.t 25) none (some (.t 27)) none), S 29 (.call (.c (.func (.func fn_slices_Clone_int_int) [] [])) [(.t 28)]), S 4 (.mv (.t 24)), S 5 (.mv (.t 29)), SN (.store 1 (.t 6) (.c (.int .i64 0)))]
@[simp] noncomputable def ir : IR := (.seq (.ops r0) (.seq (.ops r1) (.seq (.ops r2) (.seq (.ops r3) (.seq (.ops r4) .ret)))))
@[simp] noncomputable def rs : List RV := [.tmp 4, .tmp 5, .cell 6 false 1]
theorem comp : compF Pg cfg Try.f14 = some (ir, rs, 30) := by kernel_rfl
theorem enter {args : List AVal} {h : Heap} {K : AEnd → Heap → Prop} (F : Nat) (hl : args.length ≤ 30) (a : AW ⟨Pg, F, 30, false, [4, 5, 6]⟩ ir (RetD Pg rs K) (initT args) [] h) : ACalls Pg fn_drive_Settle args h K :=
  ACalls.of_comp_defer follows Try.func14 comp hl a
theorem pure {args : List AVal} {v : AVal} (hl : args.length ≤ 30) (a : AW ⟨Pg, 0, 30, false, [4, 5, 6]⟩ ir (RetD Pg rs fun e _ => e = .ret v) (initT args) [] nilH) : APure Pg fn_drive_Settle args v :=
  APure.of_nil (enter 0 hl a)
end drive_Settle

namespace ref05_Settle
noncomputable def cfg : Cfg := { pure := pures, pcs := [], raw := [], cuts := [], draws := [(1, [⟨2, false, [], []⟩, ⟨0, false, [], []⟩, ⟨1, false, [], []⟩, ⟨3, false, [], []⟩, ⟨4, false, [], []⟩, ⟨5, false, [], []⟩])], keep := [] }
@[simp] noncomputable def r0 (_ : Unit) : List Stp := [S 2 (.box (.t 0)), S 4 (.mv (.c .nils)), S 5 (.mv (.c .nils)), S 6 (.mv (.c (.int .i64 0)))]
@[simp] noncomputable def r1 (_ : Unit) : List Stp := [S 12 (.mv (.t 1)), S 10 (.load true 3 (.t 2)), S 11 (.load true 3 (.t 2)), SP 13 (.call (.c (.func (.func fn_ref05_Blows) [] [])) [(.t 11), (.t 12)]), SP 14 (.call (.c (.func (.func fn_ref05_check) [] [])) [(.t 10), (.t 13)]), S 7 (.mv (.t 14))]
@[simp] noncomputable def r2 (_ : Unit) : List Stp := [S 15 (.mv (.t 7)), S 16 (.bin .neq (.t 15) (.c (.int .i64 0)))]
@[simp] noncomputable def r3 (_ : Unit) : List Stp := [S 17 (.mv (.t 7)), S 4 (.mv (.c .nils)), S 5 (.mv (.c .nils)), S 6 (.mv (.t 17))]
@[simp] noncomputable def r4 (_ : Unit) : List Stp := [S 19 (.load true 3 (.t 2)), S 20 (.mv (.t 1)), SP 21 (.call (.c (.func (.func fn_ref05_Rest) [] [])) [(.t 19), (.t 20)]), S 18 (.mv (.t 21)), S 22 (.ext (.t 18) 0), S 23 (.ext (.t 18) 1), S 8 (.mv (.t 22)), S 9 (.mv (.t 23))]
@[simp] noncomputable def r5 (_ : Unit) : List Stp := [S 24 (.mv (.t 8)), S 25 (.mv (.t 9)), S 4 (.mv (.t 24)), S 5 (.mv (.t 25)), S 6 (.mv (.c (.int .i64 0)))]
@[simp] noncomputable def ir : IR := (.seq (.ops r0) (.seq (.ops r1) (.seq (.seq (.ops r2) (.cond (.t 16) (.seq (.ops r3) .ret) .skip)) (.seq (.ops r4) (.seq (.ops r5) .ret)))))
@[simp] noncomputable def rs : List RV := [.tmp 4, .tmp 5, .tmp 6]
theorem comp : compF Pg cfg Try.f15 = some (ir, rs, 26) := by kernel_rfl
theorem enter {args : List AVal} {h : Heap} {K : AEnd → Heap → Prop} (F : Nat) (hl : args.length ≤ 26) (a : AW ⟨Pg, F, 26, false, []⟩ ir (RetK rs K) (initT args) [] h) : ACalls Pg fn_ref05_Settle args h K :=
  ACalls.of_comp follows Try.func15 comp hl a
theorem pure {args : List AVal} {v : AVal} (hl : args.length ≤ 26) (a : AW ⟨Pg, 0, 26, false, []⟩ ir (RetK rs fun e _ => e = .ret v) (initT args) [] nilH) : APure Pg fn_ref05_Settle args v :=
  APure.of_nil (enter 0 hl a)
end ref05_Settle

namespace drive_Run
noncomputable def cfg : Cfg := { pure := pures, pcs := [], raw := [], cuts := [], draws := [(2, [⟨2, false, [], []⟩, ⟨0, false, [], []⟩, ⟨1, false, [], []⟩, ⟨3, false, [], []⟩, ⟨4, false, [], []⟩, ⟨6, false, [], []⟩, ⟨5, false, [], []⟩, ⟨7, false, [], []⟩, ⟨8, false, [], []⟩, ⟨9, false, [], []⟩, ⟨10, false, [], []⟩])], keep := [6, 7] }
@[simp] noncomputable def r0 (_ : Unit) : List Stp := [S 3 (.box (.t 0)), S 6 (.alloc [.nils]), S 7 (.alloc [(.int .i64 0)])]
@[simp] noncomputable def r1 (_ : Unit) : List Stp := [S 11 (.mkF (.func fn_drive_Run_1) [] [(.t 7)]), SN (.defer (.t 11) [])]
@[simp] noncomputable def r2 (_ : Unit) : List Stp := [S 14 (.mv (.t 1)), S 12 (.load true 3 (.t 3)), S 13 (.load true 3 (.t 3)), SP 15 (.call (.c (.func (.func fn_drive_areBlows) [] [])) [(.t 13), (.t 14)]), S 16 (.mv (.t 15)), SG 18 16 true (.mv (.t 2)), SG 17 16 true (.load true 3 (.t 3)), SGP 19 16 true (.call (.c (.func (.func fn_drive_isOrder) [] [])) [(.t 17), (.t 18)]), S 20 (.pick (.t 16) (.t 19) (.c (.bool false))), S 21 (.call (.c (.func (.func fn_drive_open) [] [])) [(.t 12), (.t 20)]), S 8 (.mv (.t 21))]
@[simp] noncomputable def r3 (_ : Unit) : List Stp := [S 22 (.mv (.t 2)), S 23 (.build [.nils] [(0, 1, (.t 22))]), S 24 (.mkI 89 (.t 23)), S 9 (.mv (.t 24))]
@[simp] noncomputable def r4 (_ : Unit) : List Stp := [S 25 (.mv (.t 2)), SP 26 (.call (.c (.func (.func fn_slices_IsSorted_int_int) [] [])) [(.t 25)])]
@[simp] noncomputable def r5 (_ : Unit) : List Stp := [S 27 (.mv (.t 2)), S 28 (.build [.nils] [(0, 1, (.t 27))]), S 29 (.build [.nils] [(0, 1, (.t 28))]), S 30 (.mkI 94 (.t 29)), S 9 (.mv (.t 30))]
@[simp] noncomputable def r6 (_ : Unit) : List Stp := [S 31 (.mv (.t 8)), S 32 (.mv (.t 1)), SP 33 (.call (.c (.func (.func fn_drive_blowsOf) [] [])) [(.t 32)]), S 34 (.mv (.t 9)), S 35 (.call (.c (.func (.func fn_drive_hull_steps) [] [])) [(.t 31), (.t 33), (.t 34)])]
@[simp] noncomputable def r7 (_ : Unit) : List Stp := [S 10 (.mv (.t 36))]
@[simp] noncomputable def r8 (_ : Unit) : List Stp := [S 38 (.load false 1 (.t 6)), S 39 (.mv (.t 10)), S 40 (.bsl 1 [(.int .i64 0)] [(0, 1, (.t 39))]), S 41 (.app 1 8 (.t 38) (.t 40)), SN (.store 1 (.t 6) (.t 41))]
@[simp] noncomputable def r9 (_ : Unit) : List Stp := [S 42 (.load false 1 (.t 6)), SN (.store 1 (.t 6) (.t 42)), SN (.store 1 (.t 7) (.c (.int .i64 0)))]
@[simp] noncomputable def ir : IR := (.seq (.ops r0) (.seq (.ops r1) (.seq (.ops r2) (.seq (.ops r3) (.seq (.seq (.ops r4) (.cond (.t 26) (.ops r5) .skip)) (.seq (.seq (.ops r6) (.block 0 (.rangeF (.t 35) [36, 37] (.ops r7) (.block 1 (.ops r8))))) (.seq (.ops r9) .ret)))))))
@[simp] noncomputable def rs : List RV := [.cell 6 false 1, .cell 7 false 1]
theorem comp : compF Pg cfg Try.f16 = some (ir, rs, 43) := by kernel_rfl
theorem enter {args : List AVal} {h : Heap} {K : AEnd → Heap → Prop} (F : Nat) (hl : args.length ≤ 43) (a : AW ⟨Pg, F, 43, false, [6, 7]⟩ ir (RetD Pg rs K) (initT args) [] h) : ACalls Pg fn_drive_Run args h K :=
  ACalls.of_comp_defer follows Try.func16 comp hl a
theorem pure {args : List AVal} {v : AVal} (hl : args.length ≤ 43) (a : AW ⟨Pg, 0, 43, false, [6, 7]⟩ ir (RetD Pg rs fun e _ => e = .ret v) (initT args) [] nilH) : APure Pg fn_drive_Run args v :=
  APure.of_nil (enter 0 hl a)
end drive_Run

namespace ref05_Run
noncomputable def cfg : Cfg := { pure := pures, pcs := [], raw := [], cuts := [], draws := [(1, [⟨2, false, [], []⟩, ⟨0, false, [], []⟩, ⟨1, false, [], []⟩, ⟨3, false, [], []⟩, ⟨4, false, [], []⟩, ⟨6, false, [], []⟩, ⟨5, false, [], []⟩, ⟨7, false, [], []⟩, ⟨8, false, [], []⟩, ⟨9, false, [], []⟩, ⟨10, false, [], []⟩])], keep := [] }
@[simp] noncomputable def r0 (_ : Unit) : List Stp := [S 3 (.box (.t 0)), S 6 (.mv (.c .nils)), S 7 (.mv (.c (.int .i64 0)))]
@[simp] noncomputable def r1 (_ : Unit) : List Stp := [S 13 (.mv (.t 1)), S 11 (.load true 3 (.t 3)), S 12 (.load true 3 (.t 3)), SP 14 (.call (.c (.func (.func fn_ref05_Blows) [] [])) [(.t 12), (.t 13)]), S 15 (.mv (.t 14)), SG 17 15 true (.mv (.t 2)), SG 16 15 true (.load true 3 (.t 3)), SGP 18 15 true (.call (.c (.func (.func fn_ref05_Order) [] [])) [(.t 16), (.t 17)]), S 19 (.pick (.t 15) (.t 18) (.c (.bool false))), SP 20 (.call (.c (.func (.func fn_ref05_check) [] [])) [(.t 11), (.t 19)]), S 8 (.mv (.t 20))]
@[simp] noncomputable def r2 (_ : Unit) : List Stp := [S 21 (.mv (.t 8)), S 22 (.bin .neq (.t 21) (.c (.int .i64 0)))]
@[simp] noncomputable def r3 (_ : Unit) : List Stp := [S 23 (.mv (.t 8)), S 6 (.mv (.c .nils)), S 7 (.mv (.t 23))]
@[simp] noncomputable def r4 (_ : Unit) : List Stp := [S 25 (.load true 3 (.t 3)), S 26 (.mv (.t 1)), S 27 (.mv (.t 2)), SP 28 (.call (.c (.func (.func fn_ref05_run) [] [])) [(.t 25), (.t 26), (.t 27)]), S 24 (.mv (.t 28)), S 29 (.ext (.t 24) 0), S 30 (.ext (.t 24) 1), S 9 (.mv (.t 29)), S 10 (.mv (.t 30))]
@[simp] noncomputable def r5 (_ : Unit) : List Stp := [S 31 (.mv (.t 9)), S 6 (.mv (.t 31)), S 7 (.mv (.c (.int .i64 0)))]
@[simp] noncomputable def ir : IR := (.seq (.ops r0) (.seq (.ops r1) (.seq (.seq (.ops r2) (.cond (.t 22) (.seq (.ops r3) .ret) .skip)) (.seq (.ops r4) (.seq (.ops r5) .ret)))))
@[simp] noncomputable def rs : List RV := [.tmp 6, .tmp 7]
theorem comp : compF Pg cfg Try.f17 = some (ir, rs, 32) := by kernel_rfl
theorem enter {args : List AVal} {h : Heap} {K : AEnd → Heap → Prop} (F : Nat) (hl : args.length ≤ 32) (a : AW ⟨Pg, F, 32, false, []⟩ ir (RetK rs K) (initT args) [] h) : ACalls Pg fn_ref05_Run args h K :=
  ACalls.of_comp follows Try.func17 comp hl a
theorem pure {args : List AVal} {v : AVal} (hl : args.length ≤ 32) (a : AW ⟨Pg, 0, 32, false, []⟩ ir (RetK rs fun e _ => e = .ret v) (initT args) [] nilH) : APure Pg fn_ref05_Run args v :=
  APure.of_nil (enter 0 hl a)
end ref05_Run

namespace drive_Times
noncomputable def cfg : Cfg := { pure := pures, pcs := [], raw := [], cuts := [], draws := [(2, [⟨2, false, [], []⟩, ⟨0, false, [], []⟩, ⟨1, false, [], []⟩, ⟨3, false, [], []⟩, ⟨4, false, [9, 10], []⟩, ⟨5, false, [], []⟩, ⟨6, false, [], []⟩, ⟨7, false, [], []⟩, ⟨8, false, [], []⟩, ⟨9, true, [], []⟩, ⟨10, true, [], []⟩, ⟨11, false, [], []⟩, ⟨12, false, [], []⟩]), (3, [⟨0, false, [], []⟩, ⟨1, false, [], []⟩, ⟨3, false, [], []⟩, ⟨4, false, [], []⟩, ⟨2, false, [], []⟩, ⟨5, false, [], []⟩, ⟨6, false, [], [2, 5]⟩, ⟨7, false, [], []⟩, ⟨8, false, [], [5]⟩, ⟨9, false, [], []⟩, ⟨10, false, [], []⟩, ⟨11, false, [], []⟩])], keep := [4, 5] }
@[simp] noncomputable def r0 (_ : Unit) : List Stp := [S 2 (.box (.t 0)), S 4 (.alloc [(.int .i64 0), (.int .i64 0)]), S 5 (.alloc [(.int .i64 0)])]
@[simp] noncomputable def r1 (_ : Unit) : List Stp := [S 8 (.mkF (.func fn_drive_Times_1) [] [(.t 5)]), SN (.defer (.t 8) [])]
@[simp] noncomputable def r2 (_ : Unit) : List Stp := [S 12 (.mv (.t 1)), S 10 (.load true 3 (.t 2)), S 11 (.load true 3 (.t 2)), SP 13 (.call (.c (.func (.func fn_drive_isSeam) [] [])) [(.t 11), (.t 12)]), SD (some 14) (.call (.c (.func (.func fn_drive_open) [] [])) [(.t 10), (.t 13)]) false [I 6 (.alloc [(.int .i64 0), (.int .i64 0), (.int .i64 0), (.int .i64 0), (.int .i64 0), (.int .i64 0)]), I 7 (.alloc [(.int .i64 0), (.int .i64 0), (.int .i64 0), (.int .i64 0), (.int .i64 0), (.int .i64 0)])] [], SP 15 (.call (.c (.func (.func fn_drive_hull_times) [] [])) [(.t 14)]), S 9 (.mv (.t 15)), S 16 (.ext (.t 9) 0), S 17 (.ext (.t 9) 1), SD (some 6) (.alloc [(.int .i64 0), (.int .i64 0), (.int .i64 0), (.int .i64 0), (.int .i64 0), (.int .i64 0)]) true [] [], SD (some 7) (.alloc [(.int .i64 0), (.int .i64 0), (.int .i64 0), (.int .i64 0), (.int .i64 0), (.int .i64 0)]) true [] [], SN (.store 6 (.t 6) (.t 16)), SN (.store 6 (.t 7) (.t 17))]
@[simp] noncomputable def r3 (_ : Unit) : List Stp := [S 18 (.mv (.t 1)), S 19 (.ixA 6 1 (.t 6) (.t 18)), S 21 (.mv (.t 1)), S 22 (.ixA 6 1 (.t 7) (.t 21)), S 20 (.load false 1 (.t 19)), S 23 (.load false 1 (.t 22)), SD none (.store 2 (.t 4) (.c (.agg [(.int .i64 0), (.int .i64 0)]))) false [] [I 20 (.load false 1 (.t 19)), I 23 (.load false 1 (.t 22))], S 24 (.fAddr 0 (.t 4)), SD none (.store 1 (.t 24) (.t 20)) false [] [I 23 (.load false 1 (.t 22))], S 25 (.fAddr 1 (.t 4)), SN (.store 1 (.t 25) (.t 23)), SN (.store 1 (.t 5) (.c (.int .i64 0)))]
@[simp] noncomputable def ir : IR := (.seq (.ops r0) (.seq (.ops r1) (.seq (.ops r2) (.seq (.ops r3) .ret))))
@[simp] noncomputable def rs : List RV := [.cell 4 true 2, .cell 5 false 1]
theorem comp : compF Pg cfg Try.f18 = some (ir, rs, 26) := by kernel_rfl
theorem enter {args : List AVal} {h : Heap} {K : AEnd → Heap → Prop} (F : Nat) (hl : args.length ≤ 26) (a : AW ⟨Pg, F, 26, false, [4, 5]⟩ ir (RetD Pg rs K) (initT args) [] h) : ACalls Pg fn_drive_Times args h K :=
  ACalls.of_comp_defer follows Try.func18 comp hl a
theorem pure {args : List AVal} {v : AVal} (hl : args.length ≤ 26) (a : AW ⟨Pg, 0, 26, false, [4, 5]⟩ ir (RetD Pg rs fun e _ => e = .ret v) (initT args) [] nilH) : APure Pg fn_drive_Times args v :=
  APure.of_nil (enter 0 hl a)
end drive_Times

namespace ref05_Times
noncomputable def cfg : Cfg := { pure := pures, pcs := [], raw := [], cuts := [], draws := [(1, [⟨2, false, [], []⟩, ⟨0, false, [], []⟩, ⟨1, false, [], []⟩, ⟨3, false, [], []⟩, ⟨4, false, [], []⟩, ⟨5, false, [], []⟩]), (9, [⟨1, false, [], []⟩, ⟨2, false, [], []⟩, ⟨3, false, [], []⟩, ⟨0, false, [], []⟩, ⟨4, false, [], []⟩, ⟨5, false, [], []⟩, ⟨6, false, [], []⟩, ⟨7, false, [], []⟩, ⟨8, false, [], []⟩, ⟨9, false, [], []⟩, ⟨10, false, [], []⟩])], keep := [] }
@[simp] noncomputable def r0 (_ : Unit) : List Stp := [S 2 (.box (.t 0)), S 4 (.alloc [(.int .i64 0), (.int .i64 0)]), S 5 (.mv (.c (.int .i64 0)))]
@[simp] noncomputable def r1 (_ : Unit) : List Stp := [S 14 (.mv (.t 1)), S 12 (.load true 3 (.t 2)), S 13 (.load true 3 (.t 2)), SP 15 (.call (.c (.func (.func fn_ref05_Seam) [] [])) [(.t 13), (.t 14)]), SP 16 (.call (.c (.func (.func fn_ref05_check) [] [])) [(.t 12), (.t 15)]), S 6 (.mv (.t 16))]
@[simp] noncomputable def r2 (_ : Unit) : List Stp := [S 17 (.mv (.t 6)), S 18 (.bin .neq (.t 17) (.c (.int .i64 0)))]
@[simp] noncomputable def r3 (_ : Unit) : List Stp := [S 19 (.build [(.int .i64 0), (.int .i64 0)] []), S 20 (.mv (.t 6)), SN (.store 2 (.t 4) (.t 19)), S 5 (.mv (.t 20))]
@[simp] noncomputable def r4 (_ : Unit) : List Stp := [S 7 (.mv (.c .nils))]
@[simp] noncomputable def r5 (_ : Unit) : List Stp := [S 21 (.load true 3 (.t 2)), SP 22 (.call (.c (.func (.func fn_ref05_Truths) [] [])) [(.t 21)]), S 8 (.mv (.t 22))]
@[simp] noncomputable def r6 (_ : Unit) : List Stp := [S 9 (.mv (.c (.int .i64 0)))]
@[simp] noncomputable def r7 (_ : Unit) : List Stp := [S 23 (.mv (.t 9)), S 24 (.mv (.t 8)), S 25 (.len (.t 24)), S 26 (.bin .lss (.t 23) (.t 25))]
@[simp] noncomputable def r9 (_ : Unit) : List Stp := [S 31 (.mv (.t 8)), S 32 (.mv (.t 9)), S 33 (.ixS 1 (.t 31) (.t 32)), S 30 (.load true 3 (.t 2)), S 34 (.load false 1 (.t 33)), SP 35 (.call (.c (.func (.func fn_ref05_Rest) [] [])) [(.t 30), (.t 34)]), S 29 (.mv (.t 35)), S 36 (.ext (.t 29) 0), S 37 (.ext (.t 29) 1), S 10 (.mv (.t 36)), S 11 (.mv (.t 37))]
@[simp] noncomputable def r10 (_ : Unit) : List Stp := [S 38 (.mv (.t 7)), S 39 (.mv (.t 11)), S 40 (.mv (.t 1)), S 41 (.ixS 1 (.t 39) (.t 40)), S 42 (.load false 1 (.t 41)), S 43 (.bsl 1 [(.int .i64 0)] [(0, 1, (.t 42))]), S 44 (.app 1 8 (.t 38) (.t 43)), S 7 (.mv (.t 44))]
@[simp] noncomputable def r8 (_ : Unit) : List Stp := [S 27 (.mv (.t 9)), S 28 (.bin .add (.t 27) (.c (.int .i64 1))), S 9 (.mv (.t 28))]
@[simp] noncomputable def r11 (_ : Unit) : List Stp := [S 45 (.mv (.t 7)), S 46 (.call (.c (.func (.func fn_ref05_hull) [] [])) [(.t 45)]), SN (.store 2 (.t 4) (.t 46)), S 5 (.mv (.c (.int .i64 0)))]
@[simp] noncomputable def ir : IR := (.seq (.ops r0) (.seq (.ops r1) (.seq (.seq (.ops r2) (.cond (.t 18) (.seq (.ops r3) .ret) .skip)) (.seq (.ops r4) (.seq (.ops r5) (.seq (.seq (.ops r6) (.block 0 (.loop (.seq (.seq (.ops r7) (.cond (.t 26) .skip (.exit 0))) (.seq (.block 1 (.seq (.ops r9) (.ops r10))) (.ops r8)))))) (.seq (.ops r11) .ret)))))))
@[simp] noncomputable def rs : List RV := [.cell 4 true 2, .tmp 5]
theorem comp : compF Pg cfg Try.f19 = some (ir, rs, 47) := by kernel_rfl
theorem enter {args : List AVal} {h : Heap} {K : AEnd → Heap → Prop} (F : Nat) (hl : args.length ≤ 47) (a : AW ⟨Pg, F, 47, false, []⟩ ir (RetK rs K) (initT args) [] h) : ACalls Pg fn_ref05_Times args h K :=
  ACalls.of_comp follows Try.func19 comp hl a
theorem pure {args : List AVal} {v : AVal} (hl : args.length ≤ 47) (a : AW ⟨Pg, 0, 47, false, []⟩ ir (RetK rs fun e _ => e = .ret v) (initT args) [] nilH) : APure Pg fn_ref05_Times args v :=
  APure.of_nil (enter 0 hl a)
end ref05_Times

namespace drive_Left
noncomputable def cfg : Cfg := { pure := pures, pcs := [], raw := [], cuts := [], draws := [(2, [⟨0, false, [], []⟩, ⟨1, false, [], []⟩, ⟨2, false, [], []⟩, ⟨3, false, [], []⟩, ⟨4, false, [5], []⟩, ⟨5, true, [], []⟩, ⟨6, false, [], []⟩])], keep := [4, 5] }
@[simp] noncomputable def r0 (_ : Unit) : List Stp := [S 2 (.box (.t 0)), S 3 (.box (.t 1)), S 4 (.alloc [(.int .i64 0), (.int .i64 0)]), S 5 (.alloc [(.int .i64 0)])]
@[simp] noncomputable def r1 (_ : Unit) : List Stp := [S 10 (.mkF (.func fn_drive_Left_1) [] [(.t 5)]), SN (.defer (.t 10) [])]
@[simp] noncomputable def r2 (_ : Unit) : List Stp := [S 11 (.load true 3 (.t 2)), S 12 (.load true 3 (.t 2)), S 13 (.load false 1 (.t 3)), SP 14 (.call (.c (.func (.func fn_drive_isSeam) [] [])) [(.t 12), (.t 13)]), SD (some 15) (.call (.c (.func (.func fn_drive_open) [] [])) [(.t 11), (.t 14)]) false [I 6 (.alloc [.nilp])] [], SD (some 6) (.alloc [.nilp]) true [] [], SN (.store 1 (.t 6) (.t 15))]
@[simp] noncomputable def r3 (_ : Unit) : List Stp := [S 16 (.load false 1 (.t 6)), S 17 (.call (.c (.func (.func fn_drive_hull_settler) [] [])) [(.t 16)]), S 18 (.mkF (.func fn_drive_settler_rest) [(.t 17)] []), S 7 (.alloc [.nilf]), SN (.store 1 (.t 7) (.t 18))]
@[simp] noncomputable def r4 (_ : Unit) : List Stp := [S 8 (.alloc [.nils])]
@[simp] noncomputable def r5 (_ : Unit) : List Stp := [S 9 (.alloc [.nilf])]
@[simp] noncomputable def r6 (_ : Unit) : List Stp := [S 19 (.mkF (.func fn_drive_Left_2) [] [(.t 6), (.t 7), (.t 3), (.t 8), (.t 9)]), SN (.store 1 (.t 9) (.t 19))]
@[simp] noncomputable def r7 (_ : Unit) : List Stp := [S 20 (.load false 1 (.t 9)), S 21 (.build [(.int .i64 0), (.int .i64 0), (.int .i64 0), (.int .i64 0), (.int .i64 0), (.int .i64 0)] []), S 22 (.call (.t 20) [(.t 21), (.c (.int .i64 0))])]
@[simp] noncomputable def r8 (_ : Unit) : List Stp := [S 23 (.load false 1 (.t 8)), S 24 (.build [.nilf] [(0, 1, (.c (.func (.func fn_drive_Left_3) [] [])))]), S 25 (.call (.c (.func (.func fn_drive_joined_api_Span) [] [])) [(.t 23), (.t 24)]), SN (.store 2 (.t 4) (.t 25)), SN (.store 1 (.t 5) (.c (.int .i64 0)))]
@[simp] noncomputable def ir : IR := (.seq (.ops r0) (.seq (.ops r1) (.seq (.ops r2) (.seq (.ops r3) (.seq (.ops r4) (.seq (.ops r5) (.seq (.ops r6) (.seq (.ops r7) (.seq (.ops r8) .ret)))))))))
@[simp] noncomputable def rs : List RV := [.cell 4 true 2, .cell 5 false 1]
theorem comp : compF Pg cfg Try.f20 = some (ir, rs, 26) := by kernel_rfl
theorem enter {args : List AVal} {h : Heap} {K : AEnd → Heap → Prop} (F : Nat) (hl : args.length ≤ 26) (a : AW ⟨Pg, F, 26, false, [4, 5]⟩ ir (RetD Pg rs K) (initT args) [] h) : ACalls Pg fn_drive_Left args h K :=
  ACalls.of_comp_defer follows Try.func20 comp hl a
theorem pure {args : List AVal} {v : AVal} (hl : args.length ≤ 26) (a : AW ⟨Pg, 0, 26, false, [4, 5]⟩ ir (RetD Pg rs fun e _ => e = .ret v) (initT args) [] nilH) : APure Pg fn_drive_Left args v :=
  APure.of_nil (enter 0 hl a)
end drive_Left

namespace ref05_Left
noncomputable def cfg : Cfg := { pure := pures, pcs := [], raw := [], cuts := [], draws := [(1, [⟨2, false, [], []⟩, ⟨0, false, [], []⟩, ⟨1, false, [], []⟩, ⟨3, false, [], []⟩, ⟨4, false, [], []⟩, ⟨5, false, [], []⟩]), (9, [⟨1, false, [], []⟩, ⟨2, false, [], []⟩, ⟨3, false, [], []⟩, ⟨0, false, [], []⟩, ⟨4, false, [], []⟩, ⟨5, false, [], []⟩, ⟨6, false, [], []⟩, ⟨7, false, [], []⟩, ⟨8, false, [], []⟩, ⟨9, false, [], []⟩, ⟨10, false, [], []⟩])], keep := [] }
@[simp] noncomputable def r0 (_ : Unit) : List Stp := [S 2 (.box (.t 0)), S 4 (.alloc [(.int .i64 0), (.int .i64 0)]), S 5 (.mv (.c (.int .i64 0)))]
@[simp] noncomputable def r1 (_ : Unit) : List Stp := [S 14 (.mv (.t 1)), S 12 (.load true 3 (.t 2)), S 13 (.load true 3 (.t 2)), SP 15 (.call (.c (.func (.func fn_ref05_Seam) [] [])) [(.t 13), (.t 14)]), SP 16 (.call (.c (.func (.func fn_ref05_check) [] [])) [(.t 12), (.t 15)]), S 6 (.mv (.t 16))]
@[simp] noncomputable def r2 (_ : Unit) : List Stp := [S 17 (.mv (.t 6)), S 18 (.bin .neq (.t 17) (.c (.int .i64 0)))]
@[simp] noncomputable def r3 (_ : Unit) : List Stp := [S 19 (.build [(.int .i64 0), (.int .i64 0)] []), S 20 (.mv (.t 6)), SN (.store 2 (.t 4) (.t 19)), S 5 (.mv (.t 20))]
@[simp] noncomputable def r4 (_ : Unit) : List Stp := [S 7 (.mv (.c .nils))]
@[simp] noncomputable def r5 (_ : Unit) : List Stp := [S 21 (.load true 3 (.t 2)), SP 22 (.call (.c (.func (.func fn_ref05_Truths) [] [])) [(.t 21)]), S 8 (.mv (.t 22))]
@[simp] noncomputable def r6 (_ : Unit) : List Stp := [S 9 (.mv (.c (.int .i64 0)))]
@[simp] noncomputable def r7 (_ : Unit) : List Stp := [S 23 (.mv (.t 9)), S 24 (.mv (.t 8)), S 25 (.len (.t 24)), S 26 (.bin .lss (.t 23) (.t 25))]
@[simp] noncomputable def r9 (_ : Unit) : List Stp := [S 31 (.mv (.t 8)), S 32 (.mv (.t 9)), S 33 (.ixS 1 (.t 31) (.t 32)), S 30 (.load true 3 (.t 2)), S 34 (.load false 1 (.t 33)), SP 35 (.call (.c (.func (.func fn_ref05_Rest) [] [])) [(.t 30), (.t 34)]), S 29 (.mv (.t 35)), S 36 (.ext (.t 29) 0), S 37 (.ext (.t 29) 1), S 10 (.mv (.t 36)), S 11 (.mv (.t 37))]
@[simp] noncomputable def r10 (_ : Unit) : List Stp := [S 38 (.mv (.t 7)), S 39 (.mv (.t 10)), S 40 (.mv (.t 1)), S 41 (.ixS 1 (.t 39) (.t 40)), S 42 (.load false 1 (.t 41)), S 43 (.bsl 1 [(.int .i64 0)] [(0, 1, (.t 42))]), S 44 (.app 1 8 (.t 38) (.t 43)), S 7 (.mv (.t 44))]
@[simp] noncomputable def r8 (_ : Unit) : List Stp := [S 27 (.mv (.t 9)), S 28 (.bin .add (.t 27) (.c (.int .i64 1))), S 9 (.mv (.t 28))]
@[simp] noncomputable def r11 (_ : Unit) : List Stp := [S 45 (.mv (.t 7)), S 46 (.call (.c (.func (.func fn_ref05_hull) [] [])) [(.t 45)]), SN (.store 2 (.t 4) (.t 46)), S 5 (.mv (.c (.int .i64 0)))]
@[simp] noncomputable def ir : IR := (.seq (.ops r0) (.seq (.ops r1) (.seq (.seq (.ops r2) (.cond (.t 18) (.seq (.ops r3) .ret) .skip)) (.seq (.ops r4) (.seq (.ops r5) (.seq (.seq (.ops r6) (.block 0 (.loop (.seq (.seq (.ops r7) (.cond (.t 26) .skip (.exit 0))) (.seq (.block 1 (.seq (.ops r9) (.ops r10))) (.ops r8)))))) (.seq (.ops r11) .ret)))))))
@[simp] noncomputable def rs : List RV := [.cell 4 true 2, .tmp 5]
theorem comp : compF Pg cfg Try.f21 = some (ir, rs, 47) := by kernel_rfl
theorem enter {args : List AVal} {h : Heap} {K : AEnd → Heap → Prop} (F : Nat) (hl : args.length ≤ 47) (a : AW ⟨Pg, F, 47, false, []⟩ ir (RetK rs K) (initT args) [] h) : ACalls Pg fn_ref05_Left args h K :=
  ACalls.of_comp follows Try.func21 comp hl a
theorem pure {args : List AVal} {v : AVal} (hl : args.length ≤ 47) (a : AW ⟨Pg, 0, 47, false, []⟩ ir (RetK rs fun e _ => e = .ret v) (initT args) [] nilH) : APure Pg fn_ref05_Left args v :=
  APure.of_nil (enter 0 hl a)
end ref05_Left

namespace drive_Opens
noncomputable def cfg : Cfg := { pure := pures, pcs := [], raw := [], cuts := [], draws := [(3, [⟨0, false, [], []⟩, ⟨1, false, [], []⟩, ⟨2, false, [], []⟩, ⟨3, false, [], []⟩, ⟨4, false, [], []⟩, ⟨5, false, [], []⟩, ⟨6, false, [], []⟩, ⟨7, false, [], []⟩, ⟨8, false, [], []⟩])], keep := [2, 3, 4] }
@[simp] noncomputable def r0 (_ : Unit) : List Stp := [S 1 (.box (.t 0)), S 2 (.mv (.c (.int .i64 0))), S 3 (.mv (.c (.int .i64 0))), S 4 (.alloc [(.int .i64 0)])]
@[simp] noncomputable def r1 (_ : Unit) : List Stp := [S 7 (.mkF (.func fn_drive_Opens_1) [] [(.t 4)]), SN (.defer (.t 7) [])]
@[simp] noncomputable def r2 (_ : Unit) : List Stp := [S 9 (.load true 3 (.t 1)), S 10 (.call (.c (.func (.func fn_drive_open) [] [])) [(.t 9), (.c (.bool true))]), SP 11 (.call (.c (.func (.func fn_drive_hull_times) [] [])) [(.t 10)]), S 8 (.mv (.t 11)), S 12 (.ext (.t 8) 0), S 13 (.ext (.t 8) 1), S 5 (.alloc [(.int .i64 0), (.int .i64 0), (.int .i64 0), (.int .i64 0), (.int .i64 0), (.int .i64 0)]), S 6 (.alloc [(.int .i64 0), (.int .i64 0), (.int .i64 0), (.int .i64 0), (.int .i64 0), (.int .i64 0)]), SN (.store 6 (.t 5) (.t 12)), SN (.store 6 (.t 6) (.t 13))]
@[simp] noncomputable def r3 (_ : Unit) : List Stp := [S 14 (.load true 6 (.t 6)), S 15 (.build [(.int .i64 0), (.int .i64 0), (.int .i64 0), (.int .i64 0), (.int .i64 0), (.int .i64 0), (.int .i64 0), (.int .i64 0), (.int .i64 0), (.int .i64 0), (.int .i64 0), (.int .i64 0)] [(6, 6, (.t 14))]), SP 16 (.call (.c (.func (.func fn_drive_rest_open) [] [])) [(.t 15)]), S 17 (.load true 6 (.t 5)), S 18 (.build [(.int .i64 0), (.int .i64 0), (.int .i64 0), (.int .i64 0), (.int .i64 0), (.int .i64 0), (.int .i64 0), (.int .i64 0), (.int .i64 0), (.int .i64 0), (.int .i64 0), (.int .i64 0)] [(6, 6, (.t 17))]), SP 19 (.call (.c (.func (.func fn_drive_rest_open) [] [])) [(.t 18)]), S 2 (.mv (.t 16)), S 3 (.mv (.t 19)), SN (.store 1 (.t 4) (.c (.int .i64 0)))]
@[simp] noncomputable def ir : IR := (.seq (.ops r0) (.seq (.ops r1) (.seq (.ops r2) (.seq (.nk (.ops r3)) .ret))))
@[simp] noncomputable def rs : List RV := [.tmp 2, .tmp 3, .cell 4 false 1]
theorem comp : compF Pg cfg Try.f22 = some (ir, rs, 20) := by kernel_rfl
theorem enter {args : List AVal} {h : Heap} {K : AEnd → Heap → Prop} (F : Nat) (hl : args.length ≤ 20) (a : AW ⟨Pg, F, 20, false, [2, 3, 4]⟩ ir (RetD Pg rs K) (initT args) [] h) : ACalls Pg fn_drive_Opens args h K :=
  ACalls.of_comp_defer follows Try.func22 comp hl a
theorem pure {args : List AVal} {v : AVal} (hl : args.length ≤ 20) (a : AW ⟨Pg, 0, 20, false, [2, 3, 4]⟩ ir (RetD Pg rs fun e _ => e = .ret v) (initT args) [] nilH) : APure Pg fn_drive_Opens args v :=
  APure.of_nil (enter 0 hl a)
end drive_Opens

namespace ref05_Opens
noncomputable def cfg : Cfg := { pure := pures, pcs := [], raw := [], cuts := [], draws := [], keep := [] }
@[simp] noncomputable def r0 (_ : Unit) : List Stp := [S 1 (.box (.t 0)), S 2 (.mv (.c (.int .i64 0))), S 3 (.mv (.c (.int .i64 0))), S 4 (.mv (.c (.int .i64 0)))]
@[simp] noncomputable def r1 (_ : Unit) : List Stp := [S 10 (.load true 3 (.t 1)), SP 11 (.call (.c (.func (.func fn_ref05_Drive) [] [])) [(.t 10)]), S 12 (.un .not (.t 11))]
@[simp] noncomputable def r2 (_ : Unit) : List Stp := [S 2 (.mv (.c (.int .i64 0))), S 3 (.mv (.c (.int .i64 0))), S 4 (.mv (.c (.int .i64 1)))]
@[simp] noncomputable def r3 (_ : Unit) : List Stp := [S 5 (.mv (.c (.int .i64 0))), S 6 (.mv (.c (.int .i64 0)))]
@[simp] noncomputable def r4 (_ : Unit) : List Stp := [S 7 (.mv (.c (.int .i64 0)))]
@[simp] noncomputable def r5 (_ : Unit) : List Stp := [S 13 (.mv (.t 7)), S 14 (.fAddr 0 (.t 1)), S 15 (.load false 1 (.t 14)), S 16 (.len (.t 15)), S 17 (.bin .lss (.t 13) (.t 16))]
@[simp] noncomputable def r7 (_ : Unit) : List Stp := [S 21 (.load true 3 (.t 1)), S 22 (.mv (.t 7)), SP 23 (.call (.c (.func (.func fn_ref05_Times) [] [])) [(.t 21), (.t 22)]), S 20 (.mv (.t 23)), S 24 (.ext (.t 20) 0), S 25 (.ext (.t 20) 1), S 8 (.alloc [(.int .i64 0), (.int .i64 0)]), SN (.store 2 (.t 8) (.t 24)), S 9 (.mv (.t 25))]
@[simp] noncomputable def r8 (_ : Unit) : List Stp := [S 26 (.fAddr 1 (.t 8)), S 27 (.load false 1 (.t 26)), S 28 (.bin .gtr (.t 27) (.c (.int .i64 0)))]
@[simp] noncomputable def r9 (_ : Unit) : List Stp := [S 29 (.mv (.t 5)), S 30 (.mv (.t 7)), SP 31 (.call (.c (.func (.func fn_ref05_power) [] [])) [(.t 30)]), S 32 (.bin .add (.t 29) (.t 31)), S 5 (.mv (.t 32))]
@[simp] noncomputable def r10 (_ : Unit) : List Stp := [S 33 (.fAddr 0 (.t 8)), S 34 (.load false 1 (.t 33)), S 35 (.bin .gtr (.t 34) (.c (.int .i64 0)))]
@[simp] noncomputable def r11 (_ : Unit) : List Stp := [S 36 (.mv (.t 6)), S 37 (.mv (.t 7)), SP 38 (.call (.c (.func (.func fn_ref05_power) [] [])) [(.t 37)]), S 39 (.bin .add (.t 36) (.t 38)), S 6 (.mv (.t 39))]
@[simp] noncomputable def r6 (_ : Unit) : List Stp := [S 18 (.mv (.t 7)), S 19 (.bin .add (.t 18) (.c (.int .i64 1))), S 7 (.mv (.t 19))]
@[simp] noncomputable def r12 (_ : Unit) : List Stp := [S 40 (.mv (.t 5)), S 41 (.mv (.t 6)), S 2 (.mv (.t 40)), S 3 (.mv (.t 41)), S 4 (.mv (.c (.int .i64 0)))]
@[simp] noncomputable def ir : IR := (.seq (.ops r0) (.seq (.seq (.ops r1) (.cond (.t 12) (.seq (.ops r2) .ret) .skip)) (.seq (.ops r3) (.seq (.seq (.ops r4) (.block 0 (.loop (.seq (.seq (.ops r5) (.cond (.t 17) .skip (.exit 0))) (.seq (.block 1 (.seq (.ops r7) (.seq (.seq (.ops r8) (.cond (.t 28) (.ops r9) .skip)) (.seq (.ops r10) (.cond (.t 35) (.ops r11) .skip))))) (.ops r6)))))) (.seq (.ops r12) .ret)))))
@[simp] noncomputable def rs : List RV := [.tmp 2, .tmp 3, .tmp 4]
theorem comp : compF Pg cfg Try.f23 = some (ir, rs, 42) := by kernel_rfl
theorem enter {args : List AVal} {h : Heap} {K : AEnd → Heap → Prop} (F : Nat) (hl : args.length ≤ 42) (a : AW ⟨Pg, F, 42, false, []⟩ ir (RetK rs K) (initT args) [] h) : ACalls Pg fn_ref05_Opens args h K :=
  ACalls.of_comp follows Try.func23 comp hl a
theorem pure {args : List AVal} {v : AVal} (hl : args.length ≤ 42) (a : AW ⟨Pg, 0, 42, false, []⟩ ir (RetK rs fun e _ => e = .ret v) (initT args) [] nilH) : APure Pg fn_ref05_Opens args v :=
  APure.of_nil (enter 0 hl a)
end ref05_Opens

namespace drive_Chain
noncomputable def cfg : Cfg := { pure := pures, pcs := [], raw := [], cuts := [], draws := [(2, [⟨2, false, [], []⟩, ⟨0, false, [], []⟩, ⟨1, false, [], []⟩, ⟨3, false, [], []⟩, ⟨4, false, [], []⟩, ⟨6, false, [], []⟩, ⟨5, false, [], []⟩, ⟨7, false, [], []⟩, ⟨8, false, [], []⟩, ⟨9, false, [], []⟩, ⟨10, false, [], []⟩]), (9, [⟨0, false, [], []⟩, ⟨3, false, [], []⟩, ⟨2, false, [], []⟩, ⟨1, false, [], [2]⟩, ⟨4, false, [], []⟩, ⟨5, false, [], []⟩, ⟨6, false, [], []⟩, ⟨7, false, [], []⟩, ⟨8, false, [], []⟩])], keep := [6, 7] }
@[simp] noncomputable def r0 (_ : Unit) : List Stp := [S 3 (.box (.t 0)), S 6 (.mv (.c (.int .i64 0))), S 7 (.alloc [(.int .i64 0)])]
@[simp] noncomputable def r1 (_ : Unit) : List Stp := [S 11 (.mkF (.func fn_drive_Chain_1) [] [(.t 7)]), SN (.defer (.t 11) [])]
@[simp] noncomputable def r2 (_ : Unit) : List Stp := [S 14 (.mv (.t 1)), S 12 (.load true 3 (.t 3)), S 13 (.load true 3 (.t 3)), SP 15 (.call (.c (.func (.func fn_drive_areBlows) [] [])) [(.t 13), (.t 14)]), S 16 (.mv (.t 15)), SG 18 16 true (.mv (.t 2)), SG 17 16 true (.load true 3 (.t 3)), SGP 19 16 true (.call (.c (.func (.func fn_drive_isSeam) [] [])) [(.t 17), (.t 18)]), S 20 (.pick (.t 16) (.t 19) (.c (.bool false))), S 21 (.call (.c (.func (.func fn_drive_open) [] [])) [(.t 12), (.t 20)]), S 8 (.mv (.t 21))]
@[simp] noncomputable def r3 (_ : Unit) : List Stp := [S 22 (.mv (.t 1)), SP 23 (.call (.c (.func (.func fn_drive_blowsOf) [] [])) [(.t 22)]), S 9 (.alloc [(.int .i64 0), (.int .i64 0), (.int .i64 0), (.int .i64 0), (.int .i64 0), (.int .i64 0)]), SN (.store 6 (.t 9) (.t 23))]
@[simp] noncomputable def r4 (_ : Unit) : List Stp := [S 24 (.mv (.t 8)), SP 25 (.call (.c (.func (.func fn_drive_hull_seams) [] [])) [(.t 24)]), S 26 (.mv (.c (.int .i64 0)))]
@[simp] noncomputable def r5 (_ : Unit) : List Stp := [S 27 (.bin .lss (.t 26) (.t 25))]
@[simp] noncomputable def r6 (_ : Unit) : List Stp := [S 28 (.mv (.t 26)), S 10 (.mv (.t 28))]
@[simp] noncomputable def r7 (_ : Unit) : List Stp := [S 29 (.mv (.t 8)), S 30 (.load true 6 (.t 9)), S 31 (.mv (.t 10)), SP 32 (.call (.c (.func (.func fn_drive_hull_can) [] [])) [(.t 29), (.t 30), (.t 31)]), S 33 (.un .not (.t 32)), S 34 (.call (.c (.func (.func fn_drive_want) [] [])) [(.t 33), (.c (.int .i64 6))])]
@[simp] noncomputable def r8 (_ : Unit) : List Stp := [S 35 (.bin .add (.t 26) (.c (.int .i64 1))), S 26 (.mv (.t 35))]
@[simp] noncomputable def r9 (_ : Unit) : List Stp := [S 36 (.mv (.t 8)), S 39 (.mv (.t 2)), S 38 (.load true 6 (.t 9)), SD (some 37) (.call (.c (.func (.func fn_drive_hull_settler) [] [])) [(.t 36)]) false [] [I 38 (.load true 6 (.t 9))], SP 40 (.call (.c (.func (.func fn_drive_blows_with) [] [])) [(.t 38), (.t 39), (.c (.int .i64 1))]), S 41 (.call (.c (.func (.func fn_drive_settler_rest) [] [])) [(.t 37), (.t 40)]), SP 42 (.call (.c (.func (.func fn_drive_rest_open) [] [])) [(.t 41)]), S 6 (.mv (.t 42)), SN (.store 1 (.t 7) (.c (.int .i64 0)))]
@[simp] noncomputable def ir : IR := (.seq (.ops r0) (.seq (.ops r1) (.seq (.ops r2) (.seq (.ops r3) (.seq (.seq (.ops r4) (.block 0 (.loop (.seq (.ops r5) (.seq (.cond (.t 27) .skip (.exit 0)) (.seq (.block 1 (.seq (.ops r6) (.ops r7))) (.ops r8))))))) (.seq (.nk (.ops r9)) .ret))))))
@[simp] noncomputable def rs : List RV := [.tmp 6, .cell 7 false 1]
theorem comp : compF Pg cfg Try.f24 = some (ir, rs, 43) := by kernel_rfl
theorem enter {args : List AVal} {h : Heap} {K : AEnd → Heap → Prop} (F : Nat) (hl : args.length ≤ 43) (a : AW ⟨Pg, F, 43, false, [6, 7]⟩ ir (RetD Pg rs K) (initT args) [] h) : ACalls Pg fn_drive_Chain args h K :=
  ACalls.of_comp_defer follows Try.func24 comp hl a
theorem pure {args : List AVal} {v : AVal} (hl : args.length ≤ 43) (a : AW ⟨Pg, 0, 43, false, [6, 7]⟩ ir (RetD Pg rs fun e _ => e = .ret v) (initT args) [] nilH) : APure Pg fn_drive_Chain args v :=
  APure.of_nil (enter 0 hl a)
end drive_Chain

namespace ref05_Chain
noncomputable def cfg : Cfg := { pure := pures, pcs := [], raw := [], cuts := [11], draws := [(1, [⟨2, false, [], []⟩, ⟨0, false, [], []⟩, ⟨1, false, [], []⟩, ⟨3, false, [], []⟩, ⟨4, false, [], []⟩, ⟨6, false, [], []⟩, ⟨5, false, [], []⟩, ⟨7, false, [], []⟩, ⟨8, false, [], []⟩, ⟨9, false, [], []⟩, ⟨10, false, [], []⟩]), (7, [⟨0, false, [], []⟩, ⟨1, false, [], []⟩, ⟨2, false, [], []⟩, ⟨4, false, [], []⟩, ⟨6, false, [], []⟩, ⟨3, false, [], []⟩, ⟨5, false, [], []⟩, ⟨7, false, [], []⟩, ⟨8, false, [], []⟩, ⟨9, false, [], []⟩])], keep := [] }
@[simp] noncomputable def r0 (_ : Unit) : List Stp := [S 3 (.box (.t 0)), S 6 (.mv (.c (.int .i64 0))), S 7 (.mv (.c (.int .i64 0)))]
@[simp] noncomputable def r1 (_ : Unit) : List Stp := [S 17 (.mv (.t 1)), S 15 (.load true 3 (.t 3)), S 16 (.load true 3 (.t 3)), SP 18 (.call (.c (.func (.func fn_ref05_Blows) [] [])) [(.t 16), (.t 17)]), S 19 (.mv (.t 18)), SG 21 19 true (.mv (.t 2)), SG 20 19 true (.load true 3 (.t 3)), SGP 22 19 true (.call (.c (.func (.func fn_ref05_Seam) [] [])) [(.t 20), (.t 21)]), S 23 (.pick (.t 19) (.t 22) (.c (.bool false))), SP 24 (.call (.c (.func (.func fn_ref05_check) [] [])) [(.t 15), (.t 23)]), S 8 (.mv (.t 24))]
@[simp] noncomputable def r2 (_ : Unit) : List Stp := [S 25 (.mv (.t 8)), S 26 (.bin .neq (.t 25) (.c (.int .i64 0)))]
@[simp] noncomputable def r3 (_ : Unit) : List Stp := [S 27 (.mv (.t 8)), S 6 (.mv (.c (.int .i64 0))), S 7 (.mv (.t 27))]
@[simp] noncomputable def r4 (_ : Unit) : List Stp := [S 9 (.mv (.c (.int .i64 0)))]
@[simp] noncomputable def r5 (_ : Unit) : List Stp := [S 28 (.mv (.t 9)), S 29 (.mv (.t 1)), S 30 (.len (.t 29)), S 31 (.bin .lss (.t 28) (.t 30))]
@[simp] noncomputable def r7 (_ : Unit) : List Stp := [S 34 (.mv (.t 1)), S 35 (.mv (.t 9)), S 36 (.ixS 1 (.t 34) (.t 35)), S 38 (.fAddr 0 (.t 3)), S 40 (.mv (.t 9)), S 37 (.load false 1 (.t 36)), S 39 (.load false 1 (.t 38)), S 41 (.ixS 1 (.t 39) (.t 40)), S 42 (.load false 1 (.t 41)), S 43 (.bin .geq (.t 37) (.t 42))]
@[simp] noncomputable def r8 (_ : Unit) : List Stp := [S 6 (.mv (.c (.int .i64 0))), S 7 (.mv (.c (.int .i64 6)))]
@[simp] noncomputable def r6 (_ : Unit) : List Stp := [S 32 (.mv (.t 9)), S 33 (.bin .add (.t 32) (.c (.int .i64 1))), S 9 (.mv (.t 33))]
@[simp] noncomputable def r9 (_ : Unit) : List Stp := [S 44 (.bsl 0 [] []), S 45 (.mv (.t 1)), S 46 (.app 1 8 (.t 44) (.t 45)), S 10 (.mv (.t 46))]
@[simp] noncomputable def r10 (_ : Unit) : List Stp := [S 47 (.mv (.t 10)), S 48 (.mv (.t 2)), S 49 (.ixS 1 (.t 47) (.t 48)), S 50 (.load false 1 (.t 49)), S 51 (.bin .add (.t 50) (.c (.int .i64 1))), S 52 (.ixS 1 (.t 47) (.t 48)), SN (.store 1 (.t 52) (.t 51))]
@[simp] noncomputable def r11 (_ : Unit) : List Stp := [S 54 (.load true 3 (.t 3)), S 55 (.mv (.t 10)), SP 56 (.call (.c (.func (.func fn_ref05_Rest) [] [])) [(.t 54), (.t 55)]), S 53 (.mv (.t 56)), S 57 (.ext (.t 53) 0), S 58 (.ext (.t 53) 1), S 11 (.mv (.t 57)), S 12 (.mv (.t 58))]
@[simp] noncomputable def r12 (_ : Unit) : List Stp := [S 13 (.mv (.c (.int .i64 0)))]
@[simp] noncomputable def r13 (_ : Unit) : List Stp := [S 14 (.mv (.c (.int .i64 0)))]
@[simp] noncomputable def r14 (_ : Unit) : List Stp := [S 59 (.mv (.t 14)), S 60 (.mv (.t 12)), S 61 (.len (.t 60)), S 62 (.bin .lss (.t 59) (.t 61))]
@[simp] noncomputable def r16 (_ : Unit) : List Stp := [S 65 (.mv (.t 12)), S 66 (.mv (.t 14)), S 67 (.ixS 1 (.t 65) (.t 66)), S 68 (.load false 1 (.t 67)), S 69 (.bin .gtr (.t 68) (.c (.int .i64 0)))]
@[simp] noncomputable def r17 (_ : Unit) : List Stp := [S 70 (.mv (.t 13)), S 71 (.mv (.t 14)), SP 72 (.call (.c (.func (.func fn_ref05_power) [] [])) [(.t 71)]), S 73 (.bin .add (.t 70) (.t 72)), S 13 (.mv (.t 73))]
@[simp] noncomputable def r15 (_ : Unit) : List Stp := [S 63 (.mv (.t 14)), S 64 (.bin .add (.t 63) (.c (.int .i64 1))), S 14 (.mv (.t 64))]
@[simp] noncomputable def r18 (_ : Unit) : List Stp := [S 74 (.mv (.t 13)), S 6 (.mv (.t 74)), S 7 (.mv (.c (.int .i64 0)))]
@[simp] noncomputable def ir : IR := (.seq (.ops r0) (.seq (.ops r1) (.seq (.seq (.ops r2) (.cond (.t 26) (.seq (.ops r3) .ret) .skip)) (.seq (.seq (.ops r4) (.block 0 (.loop (.seq (.seq (.ops r5) (.cond (.t 31) .skip (.exit 0))) (.seq (.block 1 (.seq (.ops r7) (.cond (.t 43) (.seq (.ops r8) .ret) .skip))) (.ops r6)))))) (.seq (.ops r9) (.seq (.ops r10) (.seq (.cut (.ops r11)) (.seq (.ops r12) (.seq (.seq (.ops r13) (.block 2 (.loop (.seq (.seq (.ops r14) (.cond (.t 62) .skip (.exit 2))) (.seq (.block 3 (.seq (.ops r16) (.cond (.t 69) (.ops r17) .skip))) (.ops r15)))))) (.seq (.ops r18) .ret))))))))))
@[simp] noncomputable def rs : List RV := [.tmp 6, .tmp 7]
theorem comp : compF Pg cfg Try.f25 = some (ir, rs, 75) := by kernel_rfl
theorem enter {args : List AVal} {h : Heap} {K : AEnd → Heap → Prop} (F : Nat) (hl : args.length ≤ 75) (a : AW ⟨Pg, F, 75, false, []⟩ ir (RetK rs K) (initT args) [] h) : ACalls Pg fn_ref05_Chain args h K :=
  ACalls.of_comp follows Try.func25 comp hl a
theorem pure {args : List AVal} {v : AVal} (hl : args.length ≤ 75) (a : AW ⟨Pg, 0, 75, false, []⟩ ir (RetK rs fun e _ => e = .ret v) (initT args) [] nilH) : APure Pg fn_ref05_Chain args v :=
  APure.of_nil (enter 0 hl a)
end ref05_Chain

namespace law05_ints
noncomputable def cfg : Cfg := { pure := pures, pcs := [], raw := [], cuts := [], draws := [], keep := [] }
@[simp] noncomputable def r0 (_ : Unit) : List Stp := [S 4 (.mv (.c (.bool false)))]
@[simp] noncomputable def r1 (_ : Unit) : List Stp := [S 5 (.mv (.t 0)), S 6 (.mv (.t 1)), SP 7 (.call (.c (.func (.func fn_ref05_Ints) [] [])) [(.t 5), (.t 6)]), S 4 (.mv (.t 7))]
@[simp] noncomputable def ir : IR := (.seq (.ops r0) (.seq (.ops r1) .ret))
@[simp] noncomputable def rs : List RV := [.tmp 4]
theorem comp : compF Pg cfg Try.f26 = some (ir, rs, 8) := by kernel_rfl
theorem enter {args : List AVal} {h : Heap} {K : AEnd → Heap → Prop} (F : Nat) (hl : args.length ≤ 8) (a : AW ⟨Pg, F, 8, false, []⟩ ir (RetK rs K) (initT args) [] h) : ACalls Pg fn_law05_ints args h K :=
  ACalls.of_comp follows Try.func26 comp hl a
theorem pure {args : List AVal} {v : AVal} (hl : args.length ≤ 8) (a : AW ⟨Pg, 0, 8, false, []⟩ ir (RetK rs fun e _ => e = .ret v) (initT args) [] nilH) : APure Pg fn_law05_ints args v :=
  APure.of_nil (enter 0 hl a)
end law05_ints

namespace ref05_Drive
noncomputable def cfg : Cfg := { pure := pures, pcs := [], raw := [], cuts := [], draws := [(12, [⟨0, false, [], []⟩, ⟨2, false, [], []⟩, ⟨1, false, [], []⟩, ⟨3, false, [], []⟩, ⟨4, false, [], []⟩, ⟨5, false, [], []⟩, ⟨6, false, [], []⟩]), (18, [⟨0, false, [], []⟩, ⟨2, false, [], []⟩, ⟨1, false, [], []⟩, ⟨3, false, [], []⟩, ⟨4, false, [], []⟩, ⟨5, false, [], []⟩, ⟨6, false, [], []⟩, ⟨7, false, [], []⟩, ⟨9, false, [], []⟩, ⟨11, false, [], []⟩, ⟨13, false, [], []⟩, ⟨8, false, [], []⟩, ⟨10, false, [], []⟩, ⟨12, false, [], []⟩, ⟨14, false, [], []⟩, ⟨15, false, [], []⟩, ⟨16, false, [], []⟩, ⟨17, false, [], []⟩, ⟨18, false, [], []⟩, ⟨19, false, [], []⟩, ⟨20, false, [], []⟩, ⟨21, false, [], []⟩, ⟨22, false, [], []⟩, ⟨23, false, [], []⟩, ⟨24, false, [], []⟩, ⟨26, false, [], []⟩, ⟨25, false, [], []⟩, ⟨27, false, [], []⟩, ⟨28, false, [], []⟩, ⟨29, false, [], []⟩, ⟨30, false, [], []⟩, ⟨31, false, [], []⟩, ⟨32, false, [], []⟩, ⟨33, false, [], []⟩, ⟨34, false, [], []⟩, ⟨35, false, [], []⟩, ⟨36, false, [], []⟩, ⟨38, false, [], []⟩, ⟨37, false, [], []⟩, ⟨39, false, [], []⟩, ⟨40, false, [], []⟩, ⟨41, false, [], []⟩, ⟨42, false, [], []⟩])], keep := [] }
@[simp] noncomputable def r0 (_ : Unit) : List Stp := [S 1 (.box (.t 0)), S 2 (.mv (.c (.bool false)))]
@[simp] noncomputable def r1 (_ : Unit) : List Stp := [S 8 (.fAddr 0 (.t 1)), S 9 (.load false 1 (.t 8)), S 10 (.len (.t 9)), SP 11 (.call (.c (.func (.func fn_ref05_in) [] [])) [(.t 10), (.c (.int .i64 1)), (.c (.int .i64 6))]), S 12 (.un .not (.t 11)), S 13 (.mv (.t 12)), SG 14 13 false (.fAddr 2 (.t 1)), SG 15 13 false (.load false 1 (.t 14)), SG 16 13 false (.len (.t 15)), SG 17 13 false (.fAddr 0 (.t 1)), SG 18 13 false (.load false 1 (.t 17)), SG 19 13 false (.len (.t 18)), SG 20 13 false (.bin .neq (.t 16) (.t 19)), S 21 (.pick (.t 13) (.c (.bool true)) (.t 20))]
@[simp] noncomputable def r2 (_ : Unit) : List Stp := [S 2 (.mv (.c (.bool false)))]
@[simp] noncomputable def r3 (_ : Unit) : List Stp := [S 3 (.mv (.c (.int .i64 0)))]
@[simp] noncomputable def r4 (_ : Unit) : List Stp := [S 22 (.mv (.t 3)), S 23 (.fAddr 1 (.t 1)), S 24 (.load false 1 (.t 23)), S 25 (.len (.t 24)), S 26 (.bin .lss (.t 22) (.t 25))]
@[simp] noncomputable def r6 (_ : Unit) : List Stp := [S 29 (.fAddr 1 (.t 1)), S 30 (.load false 1 (.t 29)), S 31 (.mv (.t 3)), S 32 (.ixS 2 (.t 30) (.t 31)), S 33 (.load true 2 (.t 32)), S 4 (.alloc [(.int .i64 0), (.int .i64 0)]), SN (.store 2 (.t 4) (.t 33))]
@[simp] noncomputable def r7 (_ : Unit) : List Stp := [S 34 (.load true 3 (.t 1)), S 35 (.ixA 2 1 (.t 4) (.c (.int .i64 0))), S 36 (.load false 1 (.t 35)), SP 37 (.call (.c (.func (.func fn_ref05_Seam) [] [])) [(.t 34), (.t 36)]), S 38 (.un .not (.t 37)), S 39 (.mv (.t 38)), SG 40 39 false (.load true 3 (.t 1)), SG 41 39 false (.ixA 2 1 (.t 4) (.c (.int .i64 1))), SG 42 39 false (.load false 1 (.t 41)), SGP 43 39 false (.call (.c (.func (.func fn_ref05_Seam) [] [])) [(.t 40), (.t 42)]), SG 44 39 false (.un .not (.t 43)), S 45 (.pick (.t 39) (.c (.bool true)) (.t 44)), S 46 (.mv (.t 45)), SG 47 46 false (.ixA 2 1 (.t 4) (.c (.int .i64 0))), SG 48 46 false (.load false 1 (.t 47)), SG 49 46 false (.ixA 2 1 (.t 4) (.c (.int .i64 1))), SG 50 46 false (.load false 1 (.t 49)), SG 51 46 false (.bin .geq (.t 48) (.t 50)), S 52 (.pick (.t 46) (.c (.bool true)) (.t 51))]
@[simp] noncomputable def r8 (_ : Unit) : List Stp := [S 2 (.mv (.c (.bool false)))]
@[simp] noncomputable def r9 (_ : Unit) : List Stp := [S 5 (.mv (.c (.int .i64 0)))]
@[simp] noncomputable def r10 (_ : Unit) : List Stp := [S 53 (.mv (.t 5)), S 54 (.mv (.t 3)), S 55 (.bin .lss (.t 53) (.t 54))]
@[simp] noncomputable def r12 (_ : Unit) : List Stp := [S 58 (.fAddr 1 (.t 1)), S 60 (.mv (.t 5)), S 59 (.load false 1 (.t 58)), S 61 (.ixS 2 (.t 59) (.t 60)), S 62 (.load true 2 (.t 61)), S 63 (.load true 2 (.t 4)), S 64 (.eqA false [.i, .i] (.t 62) (.t 63))]
@[simp] noncomputable def r13 (_ : Unit) : List Stp := [S 2 (.mv (.c (.bool false)))]
@[simp] noncomputable def r11 (_ : Unit) : List Stp := [S 56 (.mv (.t 5)), S 57 (.bin .add (.t 56) (.c (.int .i64 1))), S 5 (.mv (.t 57))]
@[simp] noncomputable def r5 (_ : Unit) : List Stp := [S 27 (.mv (.t 3)), S 28 (.bin .add (.t 27) (.c (.int .i64 1))), S 3 (.mv (.t 28))]
@[simp] noncomputable def r14 (_ : Unit) : List Stp := [S 6 (.mv (.c (.int .i64 0)))]
@[simp] noncomputable def r15 (_ : Unit) : List Stp := [S 65 (.mv (.t 6)), S 66 (.fAddr 0 (.t 1)), S 67 (.load false 1 (.t 66)), S 68 (.len (.t 67)), S 69 (.bin .lss (.t 65) (.t 68))]
@[simp] noncomputable def r17 (_ : Unit) : List Stp := [S 72 (.fAddr 2 (.t 1)), S 73 (.load false 1 (.t 72)), S 74 (.mv (.t 6)), S 75 (.ixS 2 (.t 73) (.t 74)), S 76 (.load true 2 (.t 75)), S 7 (.alloc [(.int .i64 0), (.int .i64 0)]), SN (.store 2 (.t 7) (.t 76))]
@[simp] noncomputable def r18 (_ : Unit) : List Stp := [S 77 (.fAddr 0 (.t 1)), S 79 (.mv (.t 6)), S 78 (.load false 1 (.t 77)), S 80 (.ixS 1 (.t 78) (.t 79)), S 81 (.load false 1 (.t 80)), SP 82 (.call (.c (.func (.func fn_ref05_in) [] [])) [(.t 81), (.c (.int .i64 1)), (.c (.int .i64 6))]), S 83 (.un .not (.t 82)), S 84 (.mv (.t 83)), SG 86 84 false (.mv (.t 6)), SG 88 84 false (.fAddr 0 (.t 1)), SG 90 84 false (.mv (.t 6)), SG 85 84 false (.load true 3 (.t 1)), SGP 87 84 false (.call (.c (.func (.func fn_ref05_Beside) [] [])) [(.t 85), (.t 86)]), SG 89 84 false (.load false 1 (.t 88)), SG 91 84 false (.ixS 1 (.t 89) (.t 90)), SG 92 84 false (.load false 1 (.t 91)), SG 93 84 false (.bin .geq (.t 87) (.t 92)), S 94 (.pick (.t 84) (.c (.bool true)) (.t 93)), S 95 (.mv (.t 94)), SG 96 95 false (.fAddr 0 (.t 7)), SG 97 95 false (.load false 1 (.t 96)), SG 98 95 false (.bin .lss (.t 97) (.c (.int .i64 0))), S 99 (.pick (.t 95) (.c (.bool true)) (.t 98)), S 100 (.mv (.t 99)), SG 101 100 false (.fAddr 0 (.t 7)), SG 103 100 false (.fAddr 1 (.t 7)), SG 102 100 false (.load false 1 (.t 101)), SG 104 100 false (.load false 1 (.t 103)), SG 105 100 false (.bin .gtr (.t 102) (.t 104)), S 106 (.pick (.t 100) (.c (.bool true)) (.t 105)), S 107 (.mv (.t 106)), SG 108 107 false (.fAddr 1 (.t 7)), SG 109 107 false (.load false 1 (.t 108)), SG 110 107 false (.bin .gtr (.t 109) (.c (.int .i64 12))), S 111 (.pick (.t 107) (.c (.bool true)) (.t 110)), S 112 (.mv (.t 111)), SG 113 112 false (.fAddr 1 (.t 7)), SG 115 112 false (.fAddr 0 (.t 7)), SG 114 112 false (.load false 1 (.t 113)), SG 116 112 false (.load false 1 (.t 115)), SG 117 112 false (.bin .sub (.t 114) (.t 116)), SG 118 112 false (.bin .gtr (.t 117) (.c (.int .i64 2))), S 119 (.pick (.t 112) (.c (.bool true)) (.t 118))]
@[simp] noncomputable def r19 (_ : Unit) : List Stp := [S 2 (.mv (.c (.bool false)))]
@[simp] noncomputable def r16 (_ : Unit) : List Stp := [S 70 (.mv (.t 6)), S 71 (.bin .add (.t 70) (.c (.int .i64 1))), S 6 (.mv (.t 71))]
@[simp] noncomputable def r20 (_ : Unit) : List Stp := [S 2 (.mv (.c (.bool true)))]
@[simp] noncomputable def ir : IR := (.seq (.ops r0) (.seq (.seq (.ops r1) (.cond (.t 21) (.seq (.ops r2) .ret) .skip)) (.seq (.seq (.ops r3) (.block 0 (.loop (.seq (.seq (.ops r4) (.cond (.t 26) .skip (.exit 0))) (.seq (.block 1 (.seq (.ops r6) (.seq (.seq (.ops r7) (.cond (.t 52) (.seq (.ops r8) .ret) .skip)) (.seq (.ops r9) (.block 2 (.loop (.seq (.seq (.ops r10) (.cond (.t 55) .skip (.exit 2))) (.seq (.block 3 (.seq (.ops r12) (.cond (.t 64) (.seq (.ops r13) .ret) .skip))) (.ops r11))))))))) (.ops r5)))))) (.seq (.seq (.ops r14) (.block 4 (.loop (.seq (.seq (.ops r15) (.cond (.t 69) .skip (.exit 4))) (.seq (.block 5 (.seq (.ops r17) (.seq (.ops r18) (.cond (.t 119) (.seq (.ops r19) .ret) .skip)))) (.ops r16)))))) (.seq (.ops r20) .ret)))))
@[simp] noncomputable def rs : List RV := [.tmp 2]
theorem comp : compF Pg cfg Try.f27 = some (ir, rs, 120) := by kernel_rfl
theorem enter {args : List AVal} {h : Heap} {K : AEnd → Heap → Prop} (F : Nat) (hl : args.length ≤ 120) (a : AW ⟨Pg, F, 120, false, []⟩ ir (RetK rs K) (initT args) [] h) : ACalls Pg fn_ref05_Drive args h K :=
  ACalls.of_comp follows Try.func27 comp hl a
theorem pure {args : List AVal} {v : AVal} (hl : args.length ≤ 120) (a : AW ⟨Pg, 0, 120, false, []⟩ ir (RetK rs fun e _ => e = .ret v) (initT args) [] nilH) : APure Pg fn_ref05_Drive args v :=
  APure.of_nil (enter 0 hl a)
end ref05_Drive

namespace drive_Push
noncomputable def cfg : Cfg := { pure := pures, pcs := [], raw := [], cuts := [], draws := [(2, [⟨2, false, [], []⟩, ⟨0, false, [], []⟩, ⟨1, false, [], []⟩, ⟨3, false, [], []⟩, ⟨4, false, [], []⟩, ⟨6, false, [], []⟩, ⟨5, false, [], []⟩, ⟨7, false, [], []⟩, ⟨8, false, [], []⟩, ⟨9, false, [], []⟩, ⟨10, false, [], []⟩]), (7, [⟨1, false, [], []⟩, ⟨2, false, [], []⟩, ⟨3, false, [], []⟩, ⟨4, false, [], []⟩, ⟨5, false, [], []⟩, ⟨8, false, [], []⟩, ⟨0, false, [], []⟩, ⟨6, false, [], []⟩, ⟨7, false, [], []⟩, ⟨9, false, [], []⟩, ⟨10, false, [], []⟩])], keep := [6, 7] }
@[simp] noncomputable def r0 (_ : Unit) : List Stp := [S 3 (.box (.t 0)), S 6 (.mv (.c (.int .i64 0))), S 7 (.alloc [(.int .i64 0)])]
@[simp] noncomputable def r1 (_ : Unit) : List Stp := [S 11 (.mkF (.func fn_drive_Push_1) [] [(.t 7)]), SN (.defer (.t 11) [])]
@[simp] noncomputable def r2 (_ : Unit) : List Stp := [S 14 (.mv (.t 1)), S 12 (.load true 3 (.t 3)), S 13 (.load true 3 (.t 3)), SP 15 (.call (.c (.func (.func fn_drive_isSeam) [] [])) [(.t 13), (.t 14)]), S 16 (.mv (.t 15)), SG 18 16 true (.mv (.t 2)), SG 17 16 true (.load true 3 (.t 3)), SGP 19 16 true (.call (.c (.func (.func fn_drive_isSeam) [] [])) [(.t 17), (.t 18)]), S 20 (.pick (.t 16) (.t 19) (.c (.bool false))), S 21 (.call (.c (.func (.func fn_drive_open) [] [])) [(.t 12), (.t 20)]), S 8 (.mv (.t 21))]
@[simp] noncomputable def r3 (_ : Unit) : List Stp := [S 22 (.mv (.t 8)), S 23 (.call (.c (.func (.func fn_drive_hull_settler) [] [])) [(.t 22)]), S 9 (.alloc [.nilp, .nilm]), SN (.store 2 (.t 9) (.t 23))]
@[simp] noncomputable def r4 (_ : Unit) : List Stp := [S 24 (.mv (.c (.int .i64 0)))]
@[simp] noncomputable def r5 (_ : Unit) : List Stp := [S 25 (.bin .lss (.t 24) (.c (.int .i64 41)))]
@[simp] noncomputable def r6 (_ : Unit) : List Stp := [S 26 (.mv (.t 24)), S 10 (.mv (.t 26))]
@[simp] noncomputable def r7 (_ : Unit) : List Stp := [S 28 (.mv (.t 8)), SP 29 (.call (.c (.func (.func fn_drive_hull_ends) [] [])) [(.t 28), (.c (.bool false))]), S 30 (.mv (.t 1)), S 31 (.mv (.t 10)), SP 32 (.call (.c (.func (.func fn_drive_blows_with) [] [])) [(.t 29), (.t 30), (.t 31)]), S 35 (.mv (.t 2)), S 27 (.load true 2 (.t 9)), S 33 (.call (.c (.func (.func fn_drive_settler_rest) [] [])) [(.t 27), (.t 32)]), S 34 (.fld true 6 6 (.t 33)), S 36 (.ixV 6 1 false (.t 34) (.t 35)), S 37 (.bin .gtr (.t 36) (.c (.int .i64 0)))]
@[simp] noncomputable def r8 (_ : Unit) : List Stp := [S 38 (.mv (.t 10)), S 6 (.mv (.t 38)), SN (.store 1 (.t 7) (.c (.int .i64 0)))]
@[simp] noncomputable def r9 (_ : Unit) : List Stp := [S 39 (.bin .add (.t 24) (.c (.int .i64 1))), S 24 (.mv (.t 39))]
@[simp] noncomputable def r10 (_ : Unit) : List Stp := [S 6 (.mv (.c (.int .i64 0))), SN (.store 1 (.t 7) (.c (.int .i64 4)))]
@[simp] noncomputable def ir : IR := (.seq (.ops r0) (.seq (.ops r1) (.seq (.ops r2) (.seq (.ops r3) (.seq (.seq (.ops r4) (.block 0 (.loop (.seq (.ops r5) (.seq (.cond (.t 25) .skip (.exit 0)) (.seq (.block 1 (.seq (.ops r6) (.seq (.ops r7) (.cond (.t 37) (.seq (.ops r8) .ret) .skip)))) (.ops r9))))))) (.seq (.ops r10) .ret))))))
@[simp] noncomputable def rs : List RV := [.tmp 6, .cell 7 false 1]
theorem comp : compF Pg cfg Try.f28 = some (ir, rs, 40) := by kernel_rfl
theorem enter {args : List AVal} {h : Heap} {K : AEnd → Heap → Prop} (F : Nat) (hl : args.length ≤ 40) (a : AW ⟨Pg, F, 40, false, [6, 7]⟩ ir (RetD Pg rs K) (initT args) [] h) : ACalls Pg fn_drive_Push args h K :=
  ACalls.of_comp_defer follows Try.func28 comp hl a
theorem pure {args : List AVal} {v : AVal} (hl : args.length ≤ 40) (a : AW ⟨Pg, 0, 40, false, [6, 7]⟩ ir (RetD Pg rs fun e _ => e = .ret v) (initT args) [] nilH) : APure Pg fn_drive_Push args v :=
  APure.of_nil (enter 0 hl a)
end drive_Push

namespace ref05_Push
noncomputable def cfg : Cfg := { pure := pures, pcs := [], raw := [], cuts := [14], draws := [(1, [⟨2, false, [], []⟩, ⟨0, false, [], []⟩, ⟨1, false, [], []⟩, ⟨3, false, [], []⟩, ⟨4, false, [], []⟩, ⟨6, false, [], []⟩, ⟨5, false, [], []⟩, ⟨7, false, [], []⟩, ⟨8, false, [], []⟩, ⟨9, false, [], []⟩, ⟨10, false, [], []⟩])], keep := [] }
@[simp] noncomputable def r0 (_ : Unit) : List Stp := [S 3 (.box (.t 0)), S 6 (.mv (.c (.int .i64 0))), S 7 (.mv (.c (.int .i64 0)))]
@[simp] noncomputable def r1 (_ : Unit) : List Stp := [S 18 (.mv (.t 1)), S 16 (.load true 3 (.t 3)), S 17 (.load true 3 (.t 3)), SP 19 (.call (.c (.func (.func fn_ref05_Seam) [] [])) [(.t 17), (.t 18)]), S 20 (.mv (.t 19)), SG 22 20 true (.mv (.t 2)), SG 21 20 true (.load true 3 (.t 3)), SGP 23 20 true (.call (.c (.func (.func fn_ref05_Seam) [] [])) [(.t 21), (.t 22)]), S 24 (.pick (.t 20) (.t 23) (.c (.bool false))), SP 25 (.call (.c (.func (.func fn_ref05_check) [] [])) [(.t 16), (.t 24)]), S 8 (.mv (.t 25))]
@[simp] noncomputable def r2 (_ : Unit) : List Stp := [S 26 (.mv (.t 8)), S 27 (.bin .neq (.t 26) (.c (.int .i64 0)))]
@[simp] noncomputable def r3 (_ : Unit) : List Stp := [S 28 (.mv (.t 8)), S 6 (.mv (.c (.int .i64 0))), S 7 (.mv (.t 28))]
@[simp] noncomputable def r4 (_ : Unit) : List Stp := [S 29 (.load true 3 (.t 3)), SP 30 (.call (.c (.func (.func fn_ref05_Truths) [] [])) [(.t 29)]), S 9 (.mv (.t 30))]
@[simp] noncomputable def r5 (_ : Unit) : List Stp := [S 10 (.mv (.c (.int .i64 0)))]
@[simp] noncomputable def r6 (_ : Unit) : List Stp := [S 31 (.mv (.t 10)), S 32 (.bin .leq (.t 31) (.c (.int .i64 40)))]
@[simp] noncomputable def r8 (_ : Unit) : List Stp := [S 11 (.mv (.c (.bool true)))]
@[simp] noncomputable def r9 (_ : Unit) : List Stp := [S 12 (.mv (.c (.int .i64 0)))]
@[simp] noncomputable def r10 (_ : Unit) : List Stp := [S 35 (.mv (.t 12)), S 36 (.mv (.t 9)), S 37 (.len (.t 36)), S 38 (.bin .lss (.t 35) (.t 37))]
@[simp] noncomputable def r12 (_ : Unit) : List Stp := [S 41 (.bsl 0 [] []), S 42 (.mv (.t 9)), S 43 (.mv (.t 12)), S 44 (.ixS 1 (.t 42) (.t 43)), S 45 (.load false 1 (.t 44)), S 46 (.app 1 8 (.t 41) (.t 45)), S 13 (.mv (.t 46))]
@[simp] noncomputable def r13 (_ : Unit) : List Stp := [S 47 (.mv (.t 13)), S 48 (.mv (.t 1)), S 49 (.mv (.t 13)), S 50 (.mv (.t 1)), S 51 (.ixS 1 (.t 49) (.t 50)), S 52 (.load false 1 (.t 51)), S 53 (.mv (.t 10)), S 54 (.bin .add (.t 52) (.t 53)), S 55 (.ixS 1 (.t 47) (.t 48)), SN (.store 1 (.t 55) (.t 54))]
@[simp] noncomputable def r14 (_ : Unit) : List Stp := [S 57 (.load true 3 (.t 3)), S 58 (.mv (.t 13)), SP 59 (.call (.c (.func (.func fn_ref05_Rest) [] [])) [(.t 57), (.t 58)]), S 56 (.mv (.t 59)), S 60 (.ext (.t 56) 0), S 61 (.ext (.t 56) 1), S 14 (.mv (.t 60)), S 15 (.mv (.t 61))]
@[simp] noncomputable def r15 (_ : Unit) : List Stp := [S 62 (.mv (.t 11)), S 63 (.mv (.t 62)), SG 64 63 true (.mv (.t 15)), SG 65 63 true (.mv (.t 2)), SG 66 63 true (.ixS 1 (.t 64) (.t 65)), SG 67 63 true (.load false 1 (.t 66)), SG 68 63 true (.bin .gtr (.t 67) (.c (.int .i64 0))), S 69 (.pick (.t 63) (.t 68) (.c (.bool false))), S 11 (.mv (.t 69))]
@[simp] noncomputable def r11 (_ : Unit) : List Stp := [S 39 (.mv (.t 12)), S 40 (.bin .add (.t 39) (.c (.int .i64 1))), S 12 (.mv (.t 40))]
@[simp] noncomputable def r16 (_ : Unit) : List Stp := [S 70 (.mv (.t 11))]
@[simp] noncomputable def r17 (_ : Unit) : List Stp := [S 71 (.mv (.t 10)), S 6 (.mv (.t 71)), S 7 (.mv (.c (.int .i64 0)))]
@[simp] noncomputable def r7 (_ : Unit) : List Stp := [S 33 (.mv (.t 10)), S 34 (.bin .add (.t 33) (.c (.int .i64 1))), S 10 (.mv (.t 34))]
@[simp] noncomputable def r18 (_ : Unit) : List Stp := [S 6 (.mv (.c (.int .i64 0))), S 7 (.mv (.c (.int .i64 4)))]
@[simp] noncomputable def ir : IR := (.seq (.ops r0) (.seq (.ops r1) (.seq (.seq (.ops r2) (.cond (.t 27) (.seq (.ops r3) .ret) .skip)) (.seq (.ops r4) (.seq (.seq (.ops r5) (.block 0 (.loop (.seq (.seq (.ops r6) (.cond (.t 32) .skip (.exit 0))) (.seq (.block 1 (.seq (.ops r8) (.seq (.seq (.ops r9) (.block 2 (.loop (.seq (.seq (.ops r10) (.cond (.t 38) .skip (.exit 2))) (.seq (.block 3 (.seq (.ops r12) (.seq (.ops r13) (.seq (.cut (.ops r14)) (.ops r15))))) (.ops r11)))))) (.seq (.ops r16) (.cond (.t 70) (.seq (.ops r17) .ret) .skip))))) (.ops r7)))))) (.seq (.ops r18) .ret))))))
@[simp] noncomputable def rs : List RV := [.tmp 6, .tmp 7]
theorem comp : compF Pg cfg Try.f29 = some (ir, rs, 72) := by kernel_rfl
theorem enter {args : List AVal} {h : Heap} {K : AEnd → Heap → Prop} (F : Nat) (hl : args.length ≤ 72) (a : AW ⟨Pg, F, 72, false, []⟩ ir (RetK rs K) (initT args) [] h) : ACalls Pg fn_ref05_Push args h K :=
  ACalls.of_comp follows Try.func29 comp hl a
theorem pure {args : List AVal} {v : AVal} (hl : args.length ≤ 72) (a : AW ⟨Pg, 0, 72, false, []⟩ ir (RetK rs fun e _ => e = .ret v) (initT args) [] nilH) : APure Pg fn_ref05_Push args v :=
  APure.of_nil (enter 0 hl a)
end ref05_Push

end Go.Cw
end
