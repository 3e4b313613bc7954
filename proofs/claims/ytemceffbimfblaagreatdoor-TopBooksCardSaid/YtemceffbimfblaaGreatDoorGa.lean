/-
  The program's functions in the small form.
-/
import Derived.Test.YtemceffbimfblaaGreatDoorAd
import Derived.Test.YtemceffbimfblaaGreatDoorProg
set_option linter.unusedSectionVars false
set_option linter.unusedSimpArgs false
set_option linter.unusedVariables false
noncomputable section
section
namespace Go.Cw
open Go Go.Proofs
@[reducible] noncomputable def Pg : Program:=Tryz.prog
theorem follows : Pg.follows .mixedOrders=true:=by kernel_rfl
def fn_main_main : FuncId:=0
def fn_gosem_cut : FuncId:=1
def fn_gosem_cut_init : FuncId:=2
def fn_top_TopBooks : FuncId:=3
def fn_ref01_Hull : FuncId:=4
def fn_ref06_Pitch : FuncId:=5
def fn_ref10_Irons : FuncId:=6
def fn_top_awake14 : FuncId:=7
def fn_book_WriteHull : FuncId:=8
def fn_book_WritePitch : FuncId:=9
def fn_book_WriteIrons : FuncId:=10
def fn_book_ReadHull : FuncId:=11
def fn_book_ReadPitch : FuncId:=12
def fn_book_ReadIrons : FuncId:=13
def fn_leak_Flow : FuncId:=14
def fn_leak_Leaks : FuncId:=15
def fn_leak_Rate : FuncId:=16
def fn_pitch_Count : FuncId:=17
def fn_pitch_Best : FuncId:=18
def fn_ref06_Same : FuncId:=19
def fn_iron_Count : FuncId:=20
def fn_iron_False : FuncId:=21
def fn_iron_Can : FuncId:=22
def fn_iron_Likely : FuncId:=23
def fn_ref01_in : FuncId:=24
def fn_ref01_At : FuncId:=25
def fn_ref06_in : FuncId:=26
def fn_ref06_power : FuncId:=27
def fn_ref10_in : FuncId:=28
def fn_ref10_Strake : FuncId:=29
def fn_ref10_Owner : FuncId:=30
def fn_top_gangs08 : FuncId:=31
def fn_book_Mend : FuncId:=32
def fn_ref14_Bytes : FuncId:=33
def fn_top_awake12 : FuncId:=34
def fn_book_answer : FuncId:=35
def fn_book_write_api_Hull : FuncId:=36
def fn_book_hulls : FuncId:=37
def fn_book_write_api_Pitch : FuncId:=38
def fn_book_pitches : FuncId:=39
def fn_book_write_api_Irons : FuncId:=40
def fn_book_irons : FuncId:=41
def fn_book_read_api_Hull : FuncId:=42
def fn_book_read_api_Pitch : FuncId:=43
def fn_book_read_api_Irons : FuncId:=44
def fn_leak_Flow_1 : FuncId:=45
def fn_leak_said : FuncId:=46
def fn_leak_open : FuncId:=47
def fn_leak_place_isPlace : FuncId:=48
def fn_leak_hull_total : FuncId:=49
def fn_leak_hull_wet : FuncId:=50
def fn_leak_Leaks_1 : FuncId:=51
def fn_leak_hull_truths : FuncId:=52
def fn_leak_inflow_leaks : FuncId:=53
def fn_leak_Rate_1 : FuncId:=54
def fn_leak_within : FuncId:=55
def fn_pitch_answer : FuncId:=56
def fn_pitch_open : FuncId:=57
def fn_pitch_always : FuncId:=58
def fn_pitch_pitch_ways : FuncId:=59
def fn_pitch_Best_1 : FuncId:=60
def fn_pitch_pitch_hot : FuncId:=61
def fn_pitch_tell_int : FuncId:=62
def fn_pitch_Best_2 : FuncId:=63
def fn_pitch_ask : FuncId:=64
def fn_pitch_pitch_steps : FuncId:=65
def fn_iron_answer : FuncId:=66
def fn_iron_open : FuncId:=67
def fn_iron_always : FuncId:=68
def fn_iron_irons_ways : FuncId:=69
def fn_iron_irons_least : FuncId:=70
def fn_iron_ask : FuncId:=71
def fn_iron_isStrake : FuncId:=72
def fn_iron_irons_told : FuncId:=73
def fn_iron_irons_owners : FuncId:=74
def fn_iron_irons_with : FuncId:=75
def fn_top_span04 : FuncId:=76
def fn_book_content : FuncId:=77
def fn_book_sealed : FuncId:=78
def fn_book_wrong : FuncId:=79
def fn_book_ask : FuncId:=80
def fn_wage_Due : FuncId:=81
def fn_wage_Share : FuncId:=82
def fn_ref08_Ints : FuncId:=83
def fn_top_awake08 : FuncId:=84
def fn_book_hulls_1 : FuncId:=85
def fn_book_reader_number : FuncId:=86
def fn_book_reader_sees : FuncId:=87
def fn_book_reader_side : FuncId:=88
def fn_book_hulls_2 : FuncId:=89
def fn_book_reader_word : FuncId:=90
def fn_book_reader_span : FuncId:=91
def fn_book_hulls_3 : FuncId:=92
def fn_book_said : FuncId:=93
def fn_book_isHull : FuncId:=94
def fn_book_pitches_1 : FuncId:=95
def fn_book_pitches_2 : FuncId:=96
def fn_strings_Cut : FuncId:=97
def fn_book_reader_hours : FuncId:=98
def fn_book_pitches_3 : FuncId:=99
def fn_book_pitches_4 : FuncId:=100
def fn_book_pitches_4_1 : FuncId:=101
def fn_book_pitches_5 : FuncId:=102
def fn_book_isPitch : FuncId:=103
def fn_book_irons_1 : FuncId:=104
def fn_book_irons_2 : FuncId:=105
def fn_book_irons_3 : FuncId:=106
def fn_book_irons_4 : FuncId:=107
def fn_book_irons_5 : FuncId:=108
def fn_book_isIrons : FuncId:=109
def fn_book_lines : FuncId:=110
def fn_leak_want : FuncId:=111
def fn_leak_inflow_sum : FuncId:=112
def fn_leak_sums : FuncId:=113
def fn_leak_hull_total_1 : FuncId:=114
def fn_slices_Collect_leak_inflow : FuncId:=115
def fn_leak_hull_inflows : FuncId:=116
def fn_leak_hull_every : FuncId:=117
def fn_pitch_within : FuncId:=118
def fn_pitch_open_1 : FuncId:=119
def fn_pitch_joined : FuncId:=120
def fn_pitch_rest_int : FuncId:=121
def fn_pitch_pitch_ways_1 : FuncId:=122
def fn_pitch_hours_count : FuncId:=123
def fn_pitch_stretch : FuncId:=124
def fn_pitch_tell_int_1 : FuncId:=125
def fn_pitch_pitch_steps_1 : FuncId:=126
def fn_pitch_pitch_alone : FuncId:=127
def fn_pitch_pitch_takes : FuncId:=128
def fn_pitch_hours_meets : FuncId:=129
def fn_iron_within : FuncId:=130
def fn_iron_irons_isStrake : FuncId:=131
def fn_iron_tell_int : FuncId:=132
def fn_iron_irons_ways_1 : FuncId:=133
def fn_iron_irons_ways_2 : FuncId:=134
def fn_iron_tell_iron_wrong : FuncId:=135
def fn_iron_irons_least_1 : FuncId:=136
def fn_iron_wrong_plus : FuncId:=137
def fn_iron_irons_wrong : FuncId:=138
def fn_iron_irons_least_2 : FuncId:=139
def fn_iron_wrong_less : FuncId:=140
def fn_iron_isStrake_1 : FuncId:=141
def fn_iron_irons_owners_1 : FuncId:=142
def fn_iron_irons_owners_2 : FuncId:=143
def fn_iron_irons_fits : FuncId:=144
def fn_math_bits_OnesCount8 : FuncId:=145
def fn_bytes_Clone : FuncId:=146
def fn_book_packed : FuncId:=147
def fn_math_bits_LeadingZeros8 : FuncId:=148
def fn_wage_answer : FuncId:=149
def fn_wage_open : FuncId:=150
def fn_wage_Due_1 : FuncId:=151
def fn_wage_wages_isCrew : FuncId:=152
def fn_wage_wages_due : FuncId:=153
def fn_wage_ask : FuncId:=154
def fn_wage_within : FuncId:=155
def fn_slices_MinFunc_int_int : FuncId:=156
def fn_wage_Share_1 : FuncId:=157
def fn_cmp_Or_int : FuncId:=158
def fn_cmp_Compare_int : FuncId:=159
def fn_gang_Deal : FuncId:=160
def fn_strings_CutPrefix : FuncId:=161
def fn_book_sideOf : FuncId:=162
def fn_strings_Builder_WriteString : FuncId:=163
def fn_strconv_Itoa : FuncId:=164
def fn_strings_Builder_String : FuncId:=165
def fn_book_within : FuncId:=166
def fn_book_isSpan : FuncId:=167
def fn_stringslite_Cut : FuncId:=168
def fn_book_lines_1 : FuncId:=169
def fn_leak_set_has : FuncId:=170
def fn_leak_flows : FuncId:=171
def fn_slices_AppendSeq_leak_inflow_leak_inflow : FuncId:=172
def fn_leak_hull_conditions : FuncId:=173
def fn_leak_hull_inflows_1 : FuncId:=174
def fn_leak_hull_inflows_1_1 : FuncId:=175
def fn_math_bits_OnesCount : FuncId:=176
def fn_pitch_pitch_broken : FuncId:=177
def fn_iron_tell_int_1 : FuncId:=178
def fn_iron_irons_next : FuncId:=179
def fn_iron_tell_iron_wrong_1 : FuncId:=180
def fn_iron_claimOf : FuncId:=181
def fn_math_bits_Len8 : FuncId:=182
def fn_wage_wages_isSeam : FuncId:=183
def fn_wage_isSpan : FuncId:=184
def fn_wage_wages_coins : FuncId:=185
def fn_cmp_isNaN_int : FuncId:=186
def fn_gang_answer : FuncId:=187
def fn_gang_open : FuncId:=188
def fn_gang_always : FuncId:=189
def fn_gang_gangs_deals : FuncId:=190
def fn_gang_every : FuncId:=191
def fn_gang_gangs_tables : FuncId:=192
def fn_gang_ask : FuncId:=193
def fn_gang_set_with : FuncId:=194
def fn_stringslite_CutPrefix : FuncId:=195
def fn_strings_Builder_copyCheck : FuncId:=196
def fn_istrconv_Itoa : FuncId:=197
def fn_stringslite_Index : FuncId:=198
def fn_math_bits_OnesCount32 : FuncId:=199
def fn_math_bits_OnesCount64 : FuncId:=200
def fn_iron_irons_next_1 : FuncId:=201
def fn_wage_wages_owned : FuncId:=202
def fn_wage_fathoms_count : FuncId:=203
def fn_wage_sum : FuncId:=204
def fn_gang_within : FuncId:=205
def fn_pitch_Hot : FuncId:=206
def fn_gang_later : FuncId:=207
def fn_gang_gangs_deals_1 : FuncId:=208
def fn_gang_set_has : FuncId:=209
def fn_gang_filled_gang_table : FuncId:=210
def fn_gang_gangs_table : FuncId:=211
def fn_stringslite_HasPrefix : FuncId:=212
def fn_abi_NoEscape : FuncId:=213
def fn_istrconv_FormatInt : FuncId:=214
def fn_stringslite_IndexByte : FuncId:=215
def fn_bytealg_IndexString : FuncId:=216
def fn_bytealg_Cutover : FuncId:=217
def fn_bytealg_IndexRabinKarp_string : FuncId:=218
def fn_slices_SortStableFunc_int_int : FuncId:=219
def fn_wage_wages_owned_1 : FuncId:=220
def fn_wage_known_fathoms : FuncId:=221
def fn_wage_fathoms_but : FuncId:=222
def fn_pitch_Hot_1 : FuncId:=223
def fn_pitch_pitch_isPot : FuncId:=224
def fn_pitch_pitch_isHour : FuncId:=225
def fn_slices_Max_int_int : FuncId:=226
def fn_gang_gangs_knows : FuncId:=227
def fn_gang_set_without : FuncId:=228
def fn_gang_gangs_next : FuncId:=229
def fn_istrconv_small : FuncId:=230
def fn_istrconv_numDigits : FuncId:=231
def fn_istrconv_formatBase10 : FuncId:=232
def fn_istrconv_formatBits : FuncId:=233
def fn_bytealg_IndexByteString : FuncId:=234
def fn_bytealg_hashStr_string : FuncId:=235
def fn_slices_stableCmpFunc_int : FuncId:=236
def fn_gang_gangs_knows_1 : FuncId:=237
def fn_istrconv_log10Pow2 : FuncId:=238
def fn_math_bits_Len64 : FuncId:=239
def fn_istrconv_bool2_int : FuncId:=240
def fn_istrconv_isPowerOfTwo : FuncId:=241
def fn_math_bits_TrailingZeros : FuncId:=242
def fn_slices_insertionSortCmpFunc_int : FuncId:=243
def fn_slices_symMergeCmpFunc_int : FuncId:=244
def fn_math_bits_TrailingZeros32 : FuncId:=245
def fn_math_bits_TrailingZeros64 : FuncId:=246
def fn_slices_rotateCmpFunc_int : FuncId:=247
def fn_slices_swapRangeCmpFunc_int : FuncId:=248
def fn_runtime_boundsError_Error : FuncId:=249
def fn_runtime_boundsError_RuntimeError : FuncId:=250
def fn_runtime_errorString_Error : FuncId:=251
def fn_runtime_errorString_RuntimeError : FuncId:=252
def fn_runtime_plainError_Error : FuncId:=253
def fn_runtime_plainError_RuntimeError : FuncId:=254
def fn_runtime_errorAddressString_Error : FuncId:=255
def fn_runtime_errorAddressString_RuntimeError : FuncId:=256
def fn_runtime_TypeAssertionError_Error : FuncId:=257
def fn_runtime_TypeAssertionError_RuntimeError : FuncId:=258
def fn_runtime_PanicNilError_Error : FuncId:=259
def fn_runtime_PanicNilError_RuntimeError : FuncId:=260
def fn_abi_Type_Align : FuncId:=261
def fn_runtime_maps_unhashableTypeError_Error : FuncId:=262
def fn_runtime_maps_unhashableTypeError_RuntimeError : FuncId:=263
def fn_leak_hull_can : FuncId:=264
def fn_strings_Builder_Reset : FuncId:=265
def fn_pitch_early_broken : FuncId:=266
def fn_pitch_late_broken : FuncId:=267
def fn_pitch_hull_broken : FuncId:=268
def fn_wage_most_of : FuncId:=269
def fn_wage_least_of : FuncId:=270
def fn_gang_gangs_isCrew : FuncId:=271
def fn_gang_set_size : FuncId:=272
def fn_leak_none_can : FuncId:=273
def fn_leak_wet_ends : FuncId:=274
def fn_leak_sounding_can : FuncId:=275
def fn_iron_other_right : FuncId:=276
def fn_iron_his_right : FuncId:=277
def fn_gang_slow_fathoms : FuncId:=278
def fn_abi_Kind_String : FuncId:=279
def fn_var_s_door_book_sides_is_laid_by_its_own_initialiser_plain_data_look_11 : FuncId:=280
def fn_var_s_door_gosem_cut_vars_holds_initialisers_alone_see_the_manifest_s_row_cutvarsword_look_11_test_files_too : FuncId:=281
def fn_var_s_door_istrconv_uint64pow10_is_laid_by_its_own_initialiser_plain_data_look_11 : FuncId:=282
def fn_var_s_door_math_bits_deBruijn32tab_is_laid_by_its_own_initialiser_plain_data_look_11 : FuncId:=283
def fn_var_s_door_math_bits_deBruijn64tab_is_laid_by_its_own_initialiser_plain_data_look_11 : FuncId:=284
def fn_var_s_door_the_look_of_gosem_cut_vars_went_over_the_folder_that_the_caller_named_as_the_repository_s_root_look_11 : FuncId:=285
def fn_gosem_cut_vars : FuncId:=286
def pures : List Nat:=[4,5,6,7,8,9,10,11,12,13,14,15,16,17,18,19,20,21,22,23,24,25,26,27,28,29,30,31,32,33,34,48,53,55,58,59,61,68,69,70,74,75,76,78,79,81,82,83,84,94,97,103,109,112,118,121,123,124,127,128,129,130,131,138,140,144,145,146,147,148,152,153,155,159,160,161,164,166,167,170,176,181,182,183,184,185,186,189,191,194,199,200,203,205,206,209,211,212,221,222,224,225,226,228,229]
def cf0 : Cfg:={ pure:=pures,pcs:=[],raw:=[],cuts:=[],draws:=[],keep:=[] }
end Go.Cw
end
section
namespace Go.Cw
open Go Go.Proofs Sh
namespace top_TopBooks
def cfg:Cfg:={ pure:=pures,cuts:=[14,23,37,43] }
def r0:Rg:=fun _=>[S 5 (.box (.t 0)),S 6 (.box (.t 1)),S 7 (.box (.t 2)),S 10 (.mv (.c (.bool false)))]
def r1:Rg:=fun _=>[Fa 74 0 5,Ld 75 false 1 74,Ln 76 75,Fa 77 1 5,Ld 78 false 1 77,Ln 79 78,Fa 80 3 6,Ld 81 false 1 80,Ln 82 81,Fa 83 4 6,Ld 84 false 1 83,Ln 85 84,Fa 86 1 7,Ld 87 false 1 86,Ln 88 87,Fa 89 2 7,Ld 90 false 1 89,Ln 91 90,Fa 92 3 7,Ld 93 false 1 92,Ln 94 93,Fa 95 4 7,Ld 96 false 1 95,Ln 97 96,S 98 (.mm true [.t 76,.t 79,.t 82,.t 85,.t 88,.t 91,.t 94,.t 97]),M 11 98]
def r2:Rg:=fun _=>[S 99 (.bsl 0 [] []),Fa 100 1 7,Ld 101 false 1 100,S 102 (.app 1 24 (.t 99) (.t 101)),S 103 (.bsl 1 [.nils] [(0,1,(.c .nils))]),S 104 (.app 1 24 (.t 102) (.t 103)),Ln 105 104,MI 106 0]
def r3:Rg:=fun _=>[Bn 107 .lss 106 105]
def r4:Rg:=fun _=>[Ix 108 1 104 106,Ld 109 false 1 108,M 13 109]
def r5:Rg:=fun _=>[M 110 11,M 111 13,Ln 112 111,S 113 (.mm true [.t 110,.t 112]),M 11 113]
def r6:Rg:=fun _=>[Bi 114 .add 106 1,M 106 114]
def r7:Rg:=fun _=>[Fa 115 3 7,Ld 116 false 1 115,Ln 117 116,MI 118 0]
def r8:Rg:=fun _=>[Bn 119 .lss 118 117]
def r9:Rg:=fun _=>[Ix 120 1 116 118,Ld 121 false 1 120,M 15 121]
def r10:Rg:=fun _=>[M 122 11,M 123 15,Ln 124 123,S 125 (.mm true [.t 122,.t 124]),M 11 125]
def r11:Rg:=fun _=>[Bi 126 .add 118 1,M 118 126]
def r12:Rg:=fun _=>[M 127 11,Bi 128 .gtr 127 40,M 129 128,Lg 130 129 false true 2 5,Gp 131 129 false fn_ref01_Hull [.t 130],SG 132 129 false (.un .not (.t 131)),Po 133 129 132,M 134 133,Lg 135 134 false true 5 6,Gp 136 134 false fn_ref06_Pitch [.t 135],SG 137 134 false (.un .not (.t 136)),Po 138 134 137,M 139 138,Lg 140 139 false true 5 7,Gp 141 139 false fn_ref10_Irons [.t 140],SG 142 139 false (.un .not (.t 141)),Po 143 139 142]
def r13:Rg:=fun _=>[Cp 144 fn_top_awake14 [],M 10 144]
def r14:Rg:=fun _=>[Ld 146 true 2 5,Cp 147 fn_book_WriteHull [.t 146],M 145 147,X 148 145 0,X 149 145 1,M 16 148,M 17 149]
def r15:Rg:=fun _=>[Ld 151 true 5 6,Cp 152 fn_book_WritePitch [.t 151],M 150 152,X 153 150 0,X 154 150 1,M 18 153,M 19 154]
def r16:Rg:=fun _=>[Ld 156 true 5 7,Cp 157 fn_book_WriteIrons [.t 156],M 155 157,X 158 155 0,X 159 155 1,M 20 158,M 21 159]
def r17:Rg:=fun _=>[M 161 16,Cp 162 fn_book_ReadHull [.t 161],M 160 162,X 163 160 0,X 164 160 1,S 22 (.alloc [.nils,.nils]),St 2 22 163,M 23 164]
def r18:Rg:=fun _=>[M 166 18,Cp 167 fn_book_ReadPitch [.t 166],M 165 167,X 168 165 0,X 169 165 1,S 24 (.alloc [iz,iz,iz,.nils,.nils]),St 5 24 168,M 25 169]
def r19:Rg:=fun _=>[M 171 20,Cp 172 fn_book_ReadIrons [.t 171],M 170 172,X 173 170 0,X 174 170 1,S 26 (.alloc [iz,.nils,.nils,.nils,.nils]),St 5 26 173,M 27 174]
def r20:Rg:=fun _=>[M 175 17,Bi 176 .neq 175 0,M 177 176,Mg 178 177 false 19,SG 179 177 false (.bin .neq (.t 178) (ci 0)),Po 180 177 179,M 181 180,Mg 182 181 false 21,SG 183 181 false (.bin .neq (.t 182) (ci 0)),Po 184 181 183,M 185 184,Mg 186 185 false 23,SG 187 185 false (.bin .neq (.t 186) (ci 0)),Po 188 185 187,M 189 188,Mg 190 189 false 25,SG 191 189 false (.bin .neq (.t 190) (ci 0)),Po 192 189 191,M 193 192,Mg 194 193 false 27,SG 195 193 false (.bin .neq (.t 194) (ci 0)),Po 196 193 195]
def r21:Rg:=fun _=>[S 10 (.mv (.c (.bool false)))]
def r22:Rg:=fun _=>[M 197 4,S 198 (.conv .i64 (.t 197)),Bi 199 .rem 198 13,M 200 3,S 201 (.conv .i64 (.t 200)),Bi 202 .rem 201 7,Bi 203 .sub 202 3,M 28 199,M 29 203]
def r23:Rg:=fun _=>[Ld 205 true 2 5,M 206 28,M 207 29,Cp 208 fn_leak_Flow [.t 205,.t 206,.t 207],M 204 208,X 209 204 0,X 210 204 1,S 30 (.alloc [iz,iz]),St 2 30 209,M 31 210]
def r24:Rg:=fun _=>[Ld 212 true 2 22,M 213 28,M 214 29,Cp 215 fn_leak_Flow [.t 212,.t 213,.t 214],M 211 215,X 216 211 0,X 217 211 1,S 32 (.alloc [iz,iz]),St 2 32 216,M 33 217]
def r25:Rg:=fun _=>[Ld 219 true 2 5,Cp 220 fn_leak_Leaks [.t 219],M 218 220,X 221 218 0,X 222 218 1,X 223 218 2,M 34 221,M 35 222,M 36 223]
def r26:Rg:=fun _=>[Ld 225 true 2 22,Cp 226 fn_leak_Leaks [.t 225],M 224 226,X 227 224 0,X 228 224 1,X 229 224 2,M 37 227,M 38 228,M 39 229]
def r27:Rg:=fun _=>[Ld 230 true 2 30,Ld 231 true 2 32,S 232 (.eqA true [.i,.i] (.t 230) (.t 231)),M 233 232,Mg 234 233 false 31,Mg 235 233 false 33,SG 236 233 false (.bin .neq (.t 234) (.t 235)),Po 237 233 236,M 238 237,Mg 239 238 false 34,Mg 240 238 false 37,SG 241 238 false (.bin .neq (.t 239) (.t 240)),Po 242 238 241,M 243 242,Mg 244 243 false 35,Mg 245 243 false 38,SG 246 243 false (.bin .neq (.t 244) (.t 245)),Po 247 243 246,M 248 247,Mg 249 248 false 36,Mg 250 248 false 39,SG 251 248 false (.bin .neq (.t 249) (.t 250)),Po 252 248 251]
def r28:Rg:=fun _=>[S 10 (.mv (.c (.bool false)))]
def r29:Rg:=fun _=>[Fa 253 0 5,Ld 254 false 1 253,Ln 255 254,MI 256 0]
def r30:Rg:=fun _=>[Bn 257 .lss 256 255]
def r31:Rg:=fun _=>[M 258 256,M 40 258]
def r32:Rg:=fun _=>[Ld 260 true 2 5,M 261 40,Cp 262 fn_leak_Rate [.t 260,.t 261],M 259 262,X 263 259 0,X 264 259 1,S 41 (.alloc [iz,iz]),St 2 41 263,M 42 264]
def r33:Rg:=fun _=>[Ld 266 true 2 22,M 267 40,Cp 268 fn_leak_Rate [.t 266,.t 267],M 265 268,X 269 265 0,X 270 265 1,S 43 (.alloc [iz,iz]),St 2 43 269,M 44 270]
def r34:Rg:=fun _=>[Ld 271 true 2 41,Ld 272 true 2 43,S 273 (.eqA true [.i,.i] (.t 271) (.t 272)),M 274 273,Mg 275 274 false 42,Mg 276 274 false 44,SG 277 274 false (.bin .neq (.t 275) (.t 276)),Po 278 274 277]
def r35:Rg:=fun _=>[S 10 (.mv (.c (.bool false)))]
def r36:Rg:=fun _=>[Bi 279 .add 256 1,M 256 279]
def r37:Rg:=fun _=>[Ld 281 true 5 6,Cp 282 fn_pitch_Count [.t 281],M 280 282,X 283 280 0,X 284 280 1,M 45 283,M 46 284]
def r38:Rg:=fun _=>[Ld 286 true 5 24,Cp 287 fn_pitch_Count [.t 286],M 285 287,X 288 285 0,X 289 285 1,M 47 288,M 48 289]
def r39:Rg:=fun _=>[Ld 291 true 5 6,Cp 292 fn_pitch_Best [.t 291],M 290 292,X 293 290 0,X 294 290 1,X 295 290 2,M 49 293,M 50 294,M 51 295]
def r40:Rg:=fun _=>[Ld 297 true 5 24,Cp 298 fn_pitch_Best [.t 297],M 296 298,X 299 296 0,X 300 296 1,X 301 296 2,M 52 299,M 53 300,M 54 301]
def r41:Rg:=fun _=>[M 302 45,M 303 47,Bn 304 .neq 302 303,M 305 304,Mg 306 305 false 46,Mg 307 305 false 48,SG 308 305 false (.bin .neq (.t 306) (.t 307)),Po 309 305 308,M 310 309,Mg 311 310 false 49,Mg 312 310 false 52,SG 313 310 false (.bin .neq (.t 311) (.t 312)),Po 314 310 313,M 315 314,Mg 316 315 false 51,Mg 317 315 false 54,SG 318 315 false (.bin .neq (.t 316) (.t 317)),Po 319 315 318,M 320 319,Mg 321 320 false 50,Mg 322 320 false 53,Gp 323 320 false fn_ref06_Same [.t 321,.t 322],SG 324 320 false (.un .not (.t 323)),Po 325 320 324]
def r42:Rg:=fun _=>[S 10 (.mv (.c (.bool false)))]
def r43:Rg:=fun _=>[Ld 327 true 5 7,Cp 328 fn_iron_Count [.t 327],M 326 328,X 329 326 0,X 330 326 1,M 55 329,M 56 330]
def r44:Rg:=fun _=>[Ld 332 true 5 26,Cp 333 fn_iron_Count [.t 332],M 331 333,X 334 331 0,X 335 331 1,M 57 334,M 58 335]
def r45:Rg:=fun _=>[Ld 337 true 5 7,Cp 338 fn_iron_False [.t 337],M 336 338,X 339 336 0,X 340 336 1,X 341 336 2,M 59 339,M 60 340,M 61 341]
def r46:Rg:=fun _=>[Ld 343 true 5 26,Cp 344 fn_iron_False [.t 343],M 342 344,X 345 342 0,X 346 342 1,X 347 342 2,M 62 345,M 63 346,M 64 347]
def r47:Rg:=fun _=>[M 348 55,M 349 57,Bn 350 .neq 348 349,M 351 350,Mg 352 351 false 56,Mg 353 351 false 58,SG 354 351 false (.bin .neq (.t 352) (.t 353)),Po 355 351 354,M 356 355,Mg 357 356 false 59,Mg 358 356 false 62,SG 359 356 false (.bin .neq (.t 357) (.t 358)),Po 360 356 359,M 361 360,Mg 362 361 false 60,Mg 363 361 false 63,SG 364 361 false (.bin .neq (.t 362) (.t 363)),Po 365 361 364,M 366 365,Mg 367 366 false 61,Mg 368 366 false 64,SG 369 366 false (.bin .neq (.t 367) (.t 368)),Po 370 366 369]
def r48:Rg:=fun _=>[S 10 (.mv (.c (.bool false)))]
def r49:Rg:=fun _=>[Fa 371 3 7,Ld 372 false 1 371,Ln 373 372,MI 374 0]
def r50:Rg:=fun _=>[Bn 375 .lss 374 373]
def r51:Rg:=fun _=>[M 376 374,M 65 376]
def r52:Rg:=fun _=>[Ld 378 true 5 7,M 379 65,Cp 380 fn_iron_Can [.t 378,.t 379],M 377 380,X 381 377 0,X 382 377 1,M 66 381,M 67 382]
def r53:Rg:=fun _=>[Ld 384 true 5 26,M 385 65,Cp 386 fn_iron_Can [.t 384,.t 385],M 383 386,X 387 383 0,X 388 383 1,M 68 387,M 69 388]
def r54:Rg:=fun _=>[Ld 390 true 5 7,M 391 65,Cp 392 fn_iron_Likely [.t 390,.t 391],M 389 392,X 393 389 0,X 394 389 1,M 70 393,M 71 394]
def r55:Rg:=fun _=>[Ld 396 true 5 26,M 397 65,Cp 398 fn_iron_Likely [.t 396,.t 397],M 395 398,X 399 395 0,X 400 395 1,M 72 399,M 73 400]
def r56:Rg:=fun _=>[M 401 66,M 402 68,Bn 403 .neq 401 402,M 404 403,Mg 405 404 false 67,Mg 406 404 false 69,SG 407 404 false (.bin .neq (.t 405) (.t 406)),Po 408 404 407,M 409 408,Mg 410 409 false 70,Mg 411 409 false 72,SG 412 409 false (.bin .neq (.t 410) (.t 411)),Po 413 409 412,M 414 413,Mg 415 414 false 71,Mg 416 414 false 73,SG 417 414 false (.bin .neq (.t 415) (.t 416)),Po 418 414 417]
def r57:Rg:=fun _=>[S 10 (.mv (.c (.bool false)))]
def r58:Rg:=fun _=>[Bi 419 .add 374 1,M 374 419]
def r59:Rg:=fun _=>[Cp 420 fn_top_awake14 [],M 10 420]
def ir:IR:=(.seq (.ops r0) (.seq (.ops r1) (.seq (.seq (.ops r2) (.block 0 (.loop (.seq (.ops r3) (.seq (.cond (.t 107) .skip (.exit 0)) (.seq (.block 1 (.seq (.ops r4) (.ops r5))) (.ops r6))))))) (.seq (.seq (.ops r7) (.block 2 (.loop (.seq (.ops r8) (.seq (.cond (.t 119) .skip (.exit 2)) (.seq (.block 3 (.seq (.ops r9) (.ops r10))) (.ops r11))))))) (.seq (.seq (.ops r12) (.cond (.t 143) (.seq (.ops r13) .ret) .skip)) (.seq (.cut (.ops r14)) (.seq (.ops r15) (.seq (.ops r16) (.seq (.ops r17) (.seq (.ops r18) (.seq (.ops r19) (.seq (.seq (.ops r20) (.cond (.t 196) (.seq (.ops r21) .ret) .skip)) (.seq (.ops r22) (.seq (.cut (.ops r23)) (.seq (.ops r24) (.seq (.ops r25) (.seq (.ops r26) (.seq (.seq (.ops r27) (.cond (.t 252) (.seq (.ops r28) .ret) .skip)) (.seq (.seq (.ops r29) (.block 4 (.loop (.seq (.ops r30) (.seq (.cond (.t 257) .skip (.exit 4)) (.seq (.block 5 (.seq (.ops r31) (.seq (.ops r32) (.seq (.ops r33) (.seq (.ops r34) (.cond (.t 278) (.seq (.ops r35) .ret) .skip)))))) (.ops r36))))))) (.seq (.cut (.ops r37)) (.seq (.ops r38) (.seq (.ops r39) (.seq (.ops r40) (.seq (.seq (.ops r41) (.cond (.t 325) (.seq (.ops r42) .ret) .skip)) (.seq (.cut (.ops r43)) (.seq (.ops r44) (.seq (.ops r45) (.seq (.ops r46) (.seq (.seq (.ops r47) (.cond (.t 370) (.seq (.ops r48) .ret) .skip)) (.seq (.seq (.ops r49) (.block 6 (.loop (.seq (.ops r50) (.seq (.cond (.t 375) .skip (.exit 6)) (.seq (.block 7 (.seq (.ops r51) (.seq (.ops r52) (.seq (.ops r53) (.seq (.ops r54) (.seq (.ops r55) (.seq (.ops r56) (.cond (.t 418) (.seq (.ops r57) .ret) .skip)))))))) (.ops r58))))))) (.seq (.ops r59) .ret)))))))))))))))))))))))))))))))
def rs:List RV:=[.tmp 10]
theorem e : Entr Pg fn_top_TopBooks 421 [] ir (RetK rs):=Entr.of (cfg:=cfg) follows Tryz.func3 (by kernel_rfl)
attribute [simp] r0 r1 r2 r3 r4 r5 r6 r7 r8 r9 r10 r11 r12 r13 r14 r15 r16 r17 r18 r19 r20 r21 r22 r23 r24 r25 r26 r27 r28 r29 r30 r31 r32 r33 r34 r35 r36 r37 r38 r39 r40 r41 r42 r43 r44 r45 r46 r47 r48 r49 r50 r51 r52 r53 r54 r55 r56 r57 r58 r59 ir rs
end top_TopBooks
namespace ref01_Hull
def r0:Rg:=fun _=>[S 1 (.box (.t 0)),S 2 (.mv (.c (.bool false)))]
def r1:Rg:=fun _=>[Fa 7 0 1,Ld 8 false 1 7,Ln 9 8,Cp 10 fn_ref01_in [.t 9,ci 1,ci 6],S 11 (.un .not (.t 10)),M 12 11,Fg 13 12 false 1 1,Lg 14 12 false false 1 13,SG 15 12 false (.len (.t 14)),SG 16 12 false (.bin .gtr (.t 15) (ci 8)),Po 17 12 16]
def r2:Rg:=fun _=>[S 2 (.mv (.c (.bool false)))]
def r3:Rg:=fun _=>[MI 3 0]
def r4:Rg:=fun _=>[M 18 3,Fa 19 0 1,Ld 20 false 1 19,Ln 21 20,Bn 22 .lss 18 21]
def r6:Rg:=fun _=>[Fa 25 0 1,Ld 26 false 1 25,M 27 3,Ix 28 3 26 27,Ld 29 true 3 28,S 4 (.alloc [iz,iz,iz]),St 3 4 29]
def r7:Rg:=fun _=>[Fa 30 0 4,Ld 31 false 1 30,Cp 32 fn_ref01_in [.t 31,ci 0,ci 12],S 33 (.un .not (.t 32)),M 34 33,Fg 35 34 false 1 4,Lg 36 34 false false 1 35,Gp 37 34 false fn_ref01_in [.t 36,(ci (-1)),ci 1],SG 38 34 false (.un .not (.t 37)),Po 39 34 38,M 40 39,Fg 41 40 false 2 4,Lg 42 40 false false 1 41,Gp 43 40 false fn_ref01_in [.t 42,ci 0,ci 4],SG 44 40 false (.un .not (.t 43)),Po 45 40 44]
def r8:Rg:=fun _=>[S 2 (.mv (.c (.bool false)))]
def r5:Rg:=fun _=>[M 23 3,Bi 24 .add 23 1,M 3 24]
def r9:Rg:=fun _=>[MI 5 0]
def r10:Rg:=fun _=>[M 46 5,Fa 47 1 1,Ld 48 false 1 47,Ln 49 48,Bn 50 .lss 46 49]
def r12:Rg:=fun _=>[Fa 53 1 1,Ld 54 false 1 53,M 55 5,Ix 56 4 54 55,Ld 57 true 4 56,S 6 (.alloc [iz,iz,iz,iz]),St 4 6 57]
def r13:Rg:=fun _=>[Fa 58 0 6,Ld 59 false 1 58,Fa 60 1 6,Ld 61 false 1 60,Cp 62 fn_ref01_At [.t 59,.t 61],S 63 (.un .not (.t 62)),M 64 63,Fg 65 64 false 2 6,Fg 66 64 false 0 65,Lg 67 64 false false 1 66,SG 68 64 false (.bin .lss (.t 67) (ci 0)),Po 69 64 68,M 70 69,Fg 71 70 false 2 6,Fg 72 70 false 0 71,Lg 73 70 false false 1 72,Fg 74 70 false 2 6,Fg 75 70 false 1 74,Lg 76 70 false false 1 75,SG 77 70 false (.bin .gtr (.t 73) (.t 76)),Po 78 70 77,M 79 78,Fg 80 79 false 2 6,Fg 81 79 false 1 80,Lg 82 79 false false 1 81,SG 83 79 false (.bin .gtr (.t 82) (ci 24)),Po 84 79 83]
def r14:Rg:=fun _=>[S 2 (.mv (.c (.bool false)))]
def r11:Rg:=fun _=>[M 51 5,Bi 52 .add 51 1,M 5 52]
def r15:Rg:=fun _=>[S 2 (.mv (.c (.bool true)))]
def ir:IR:=(.seq (.ops r0) (.seq (.seq (.ops r1) (.cond (.t 17) (.seq (.ops r2) .ret) .skip)) (.seq (.seq (.ops r3) (.block 0 (.loop (.seq (.seq (.ops r4) (.cond (.t 22) .skip (.exit 0))) (.seq (.block 1 (.seq (.ops r6) (.seq (.ops r7) (.cond (.t 45) (.seq (.ops r8) .ret) .skip)))) (.ops r5)))))) (.seq (.seq (.ops r9) (.block 2 (.loop (.seq (.seq (.ops r10) (.cond (.t 50) .skip (.exit 2))) (.seq (.block 3 (.seq (.ops r12) (.seq (.ops r13) (.cond (.t 84) (.seq (.ops r14) .ret) .skip)))) (.ops r11)))))) (.seq (.ops r15) .ret)))))
def rs:List RV:=[.tmp 2]
theorem e : Entr Pg fn_ref01_Hull 85 [] ir (RetK rs):=Entr.of (cfg:=cf0) follows Tryz.func4 (by kernel_rfl)
attribute [simp] r0 r1 r2 r3 r4 r6 r7 r8 r5 r9 r10 r12 r13 r14 r11 r15 ir rs
end ref01_Hull
namespace ref06_Pitch
def r0:Rg:=fun _=>[S 1 (.box (.t 0)),S 2 (.mv (.c (.bool false)))]
def r1:Rg:=fun _=>[Fa 7 0 1,Ld 8 false 1 7,Cp 9 fn_ref06_in [.t 8,ci 0,ci 12],S 10 (.un .not (.t 9)),M 11 10,Fg 12 11 false 3 1,Lg 13 11 false false 1 12,SG 14 11 false (.len (.t 13)),SG 15 11 false (.bin .gtr (.t 14) (ci 3)),Po 16 11 15,M 17 16,Fg 18 17 false 4 1,Lg 19 17 false false 1 18,SG 20 17 false (.len (.t 19)),SG 21 17 false (.bin .gtr (.t 20) (ci 4)),Po 22 17 21]
def r2:Rg:=fun _=>[S 2 (.mv (.c (.bool false)))]
def r3:Rg:=fun _=>[Fa 23 0 1,Ld 24 false 1 23,Cp 25 fn_ref06_power [.t 24],Bi 26 .sub 25 1,M 3 26]
def r4:Rg:=fun _=>[Fa 27 1 1,Ld 28 false 1 27,M 29 3,Cp 30 fn_ref06_in [.t 28,ci 0,.t 29],S 31 (.un .not (.t 30)),M 32 31,Fg 33 32 false 2 1,Lg 34 32 false false 1 33,Mg 35 32 false 3,Gp 36 32 false fn_ref06_in [.t 34,ci 0,.t 35],SG 37 32 false (.un .not (.t 36)),Po 38 32 37]
def r5:Rg:=fun _=>[S 2 (.mv (.c (.bool false)))]
def r6:Rg:=fun _=>[MI 4 0]
def r7:Rg:=fun _=>[M 39 4,Fa 40 3 1,Ld 41 false 1 40,Ln 42 41,Bn 43 .lss 39 42]
def r9:Rg:=fun _=>[Fa 46 3 1,Ld 47 false 1 46,M 48 4,Ix 49 1 47 48,Ld 50 false 1 49,M 51 3,Cp 52 fn_ref06_in [.t 50,ci 0,.t 51],S 53 (.un .not (.t 52))]
def r10:Rg:=fun _=>[S 2 (.mv (.c (.bool false)))]
def r8:Rg:=fun _=>[M 44 4,Bi 45 .add 44 1,M 4 45]
def r11:Rg:=fun _=>[MI 5 0]
def r12:Rg:=fun _=>[M 54 5,Fa 55 4 1,Ld 56 false 1 55,Ln 57 56,Bn 58 .lss 54 57]
def r14:Rg:=fun _=>[Fa 61 4 1,Ld 62 false 1 61,M 63 5,Ix 64 3 62 63,Ld 65 true 3 64,S 6 (.alloc [iz,iz,iz]),St 3 6 65]
def r15:Rg:=fun _=>[Fa 66 0 6,Ld 67 false 1 66,Cp 68 fn_ref06_in [.t 67,ci 1,ci 12],S 69 (.un .not (.t 68)),M 70 69,Fg 71 70 false 1 6,Lg 72 70 false false 1 71,Fg 73 70 false 0 1,Lg 74 70 false false 1 73,Gp 75 70 false fn_ref06_in [.t 72,ci 0,.t 74],SG 76 70 false (.un .not (.t 75)),Po 77 70 76,M 78 77,Fg 79 78 false 2 6,Lg 80 78 false false 1 79,Fg 81 78 false 0 1,Lg 82 78 false false 1 81,Gp 83 78 false fn_ref06_in [.t 80,ci 0,.t 82],SG 84 78 false (.un .not (.t 83)),Po 85 78 84]
def r16:Rg:=fun _=>[S 2 (.mv (.c (.bool false)))]
def r13:Rg:=fun _=>[M 59 5,Bi 60 .add 59 1,M 5 60]
def r17:Rg:=fun _=>[S 2 (.mv (.c (.bool true)))]
def ir:IR:=(.seq (.ops r0) (.seq (.seq (.ops r1) (.cond (.t 22) (.seq (.ops r2) .ret) .skip)) (.seq (.ops r3) (.seq (.seq (.ops r4) (.cond (.t 38) (.seq (.ops r5) .ret) .skip)) (.seq (.seq (.ops r6) (.block 0 (.loop (.seq (.seq (.ops r7) (.cond (.t 43) .skip (.exit 0))) (.seq (.block 1 (.seq (.ops r9) (.cond (.t 53) (.seq (.ops r10) .ret) .skip))) (.ops r8)))))) (.seq (.seq (.ops r11) (.block 2 (.loop (.seq (.seq (.ops r12) (.cond (.t 58) .skip (.exit 2))) (.seq (.block 3 (.seq (.ops r14) (.seq (.ops r15) (.cond (.t 85) (.seq (.ops r16) .ret) .skip)))) (.ops r13)))))) (.seq (.ops r17) .ret)))))))
def rs:List RV:=[.tmp 2]
theorem e : Entr Pg fn_ref06_Pitch 86 [] ir (RetK rs):=Entr.of (cfg:=cf0) follows Tryz.func5 (by kernel_rfl)
attribute [simp] r0 r1 r2 r3 r4 r5 r6 r7 r9 r10 r8 r11 r12 r14 r15 r16 r13 r17 ir rs
end ref06_Pitch
namespace ref10_Irons
def cfg:Cfg:={ pure:=pures,draws:=[(6,[q 0,q 2,q 6,q 1,q 3,q 4,q 5,q 7,q 8,q 9,q 10,q 12,q 11,q 13,q 14,q 15,q 16,q 17]),(27,[q 1,q 3,q 0,q 2,q 4,q 5,q 6,q 7,q 8,q 9,q 11,q 13,q 10,q 12,q 14,q 15,q 16,q 17,q 18,q 19])] }
def r0:Rg:=fun _=>[S 1 (.box (.t 0)),S 2 (.mv (.c (.bool false)))]
def r1:Rg:=fun _=>[Fa 9 0 1,Ld 10 false 1 9,Cp 11 fn_ref10_in [.t 10,ci 0,ci 4],S 12 (.un .not (.t 11)),M 13 12,Fg 14 13 false 1 1,Lg 15 13 false false 1 14,SG 16 13 false (.len (.t 15)),SG 17 13 false (.bin .gtr (.t 16) (ci 5)),Po 18 13 17,M 19 18,Fg 20 19 false 2 1,Lg 21 19 false false 1 20,SG 22 19 false (.len (.t 21)),Fg 23 19 false 1 1,Lg 24 19 false false 1 23,SG 25 19 false (.len (.t 24)),SG 26 19 false (.bin .neq (.t 22) (.t 25)),Po 27 19 26,M 28 27,Fg 29 28 false 3 1,Lg 30 28 false false 1 29,SG 31 28 false (.len (.t 30)),SG 32 28 false (.bin .gtr (.t 31) (ci 6)),Po 33 28 32,M 34 33,Fg 35 34 false 4 1,Lg 36 34 false false 1 35,SG 37 34 false (.len (.t 36)),SG 38 34 false (.bin .gtr (.t 37) (ci 8)),Po 39 34 38]
def r2:Rg:=fun _=>[S 2 (.mv (.c (.bool false)))]
def r3:Rg:=fun _=>[MI 3 0]
def r4:Rg:=fun _=>[M 40 3,Fa 41 1 1,Ld 42 false 1 41,Ln 43 42,Bn 44 .lss 40 43]
def r6:Rg:=fun _=>[Fa 47 1 1,M 49 3,Fa 53 0 1,Ld 48 false 1 47,Ix 50 1 48 49,Ld 51 false 1 50,Ln 52 51,Ld 54 false 1 53,Bn 55 .neq 52 54,M 56 55,Fg 57 56 false 2 1,Mg 59 56 false 3,Lg 58 56 false false 1 57,SG 60 56 false (.ixS 1 (.t 58) (.t 59)),Lg 61 56 false false 1 60,Gp 62 56 false fn_ref10_in [.t 61,ci 0,ci 6],SG 63 56 false (.un .not (.t 62)),Po 64 56 63]
def r7:Rg:=fun _=>[S 2 (.mv (.c (.bool false)))]
def r8:Rg:=fun _=>[MI 4 0]
def r9:Rg:=fun _=>[M 65 4,Fa 66 0 1,Ld 67 false 1 66,Bn 68 .lss 65 67]
def r11:Rg:=fun _=>[Fa 71 1 1,Ld 72 false 1 71,M 73 3,Ix 74 1 72 73,Ld 75 false 1 74,M 76 4,Ix 77 1 75 76,Ld 78 false 1 77,Cp 79 fn_ref10_in [.t 78,ci 0,ci 9],S 80 (.un .not (.t 79))]
def r12:Rg:=fun _=>[S 2 (.mv (.c (.bool false)))]
def r10:Rg:=fun _=>[M 69 4,Bi 70 .add 69 1,M 4 70]
def r5:Rg:=fun _=>[M 45 3,Bi 46 .add 45 1,M 3 46]
def r13:Rg:=fun _=>[MI 5 0]
def r14:Rg:=fun _=>[M 81 5,Fa 82 3 1,Ld 83 false 1 82,Ln 84 83,Bn 85 .lss 81 84]
def r16:Rg:=fun _=>[Fa 88 3 1,Ld 89 false 1 88,M 90 5,Ix 91 1 89 90,Ld 92 false 1 91,Ln 93 92,Bi 94 .gtr 93 6]
def r17:Rg:=fun _=>[S 2 (.mv (.c (.bool false)))]
def r18:Rg:=fun _=>[MI 6 0]
def r19:Rg:=fun _=>[M 95 6,Fa 96 3 1,Ld 97 false 1 96,M 98 5,Ix 99 1 97 98,Ld 100 false 1 99,Ln 101 100,Bn 102 .lss 95 101]
def r21:Rg:=fun _=>[Fa 105 3 1,Ld 106 false 1 105,M 107 5,Ix 108 1 106 107,Ld 109 false 1 108,M 110 6,Ix 111 3 109 110,Ld 112 true 3 111,S 7 (.alloc [iz,iz,iz]),St 3 7 112]
def r22:Rg:=fun _=>[Fa 113 0 7,Ld 114 false 1 113,Fa 115 0 1,Ld 116 false 1 115,Bi 117 .sub 116 1,Cp 118 fn_ref10_in [.t 114,ci 0,.t 117],S 119 (.un .not (.t 118)),M 120 119,Fg 121 120 false 1 7,Lg 122 120 false false 1 121,SG 123 120 false (.bin .lss (.t 122) (ci 0)),Po 124 120 123,M 125 124,Fg 126 125 false 1 7,Lg 127 125 false false 1 126,Fg 128 125 false 2 7,Lg 129 125 false false 1 128,SG 130 125 false (.bin .gtr (.t 127) (.t 129)),Po 131 125 130,M 132 131,Fg 133 132 false 2 7,Lg 134 132 false false 1 133,SG 135 132 false (.bin .gtr (.t 134) (ci 9)),Po 136 132 135]
def r23:Rg:=fun _=>[S 2 (.mv (.c (.bool false)))]
def r20:Rg:=fun _=>[M 103 6,Bi 104 .add 103 1,M 6 104]
def r15:Rg:=fun _=>[M 86 5,Bi 87 .add 86 1,M 5 87]
def r24:Rg:=fun _=>[MI 8 0]
def r25:Rg:=fun _=>[M 137 8,Fa 138 4 1,Ld 139 false 1 138,Ln 140 139,Bn 141 .lss 137 140]
def r27:Rg:=fun _=>[Fa 145 4 1,M 147 8,Ld 144 true 5 1,Ld 146 false 1 145,Ix 148 3 146 147,Fa 149 0 148,Ld 150 false 1 149,Cp 151 fn_ref10_Strake [.t 144,.t 150],S 152 (.un .not (.t 151)),M 153 152,Fg 155 153 false 4 1,Mg 157 153 false 8,Lg 154 153 false true 5 1,Lg 156 153 false false 1 155,SG 158 153 false (.ixS 3 (.t 156) (.t 157)),Fg 159 153 false 1 158,Lg 160 153 false false 1 159,Gp 161 153 false fn_ref10_Owner [.t 154,.t 160],SG 162 153 false (.un .not (.t 161)),Po 163 153 162]
def r28:Rg:=fun _=>[S 2 (.mv (.c (.bool false)))]
def r26:Rg:=fun _=>[M 142 8,Bi 143 .add 142 1,M 8 143]
def r29:Rg:=fun _=>[S 2 (.mv (.c (.bool true)))]
def ir:IR:=(.seq (.ops r0) (.seq (.seq (.ops r1) (.cond (.t 39) (.seq (.ops r2) .ret) .skip)) (.seq (.seq (.ops r3) (.block 0 (.loop (.seq (.seq (.ops r4) (.cond (.t 44) .skip (.exit 0))) (.seq (.block 1 (.seq (.seq (.ops r6) (.cond (.t 64) (.seq (.ops r7) .ret) .skip)) (.seq (.ops r8) (.block 2 (.loop (.seq (.seq (.ops r9) (.cond (.t 68) .skip (.exit 2))) (.seq (.block 3 (.seq (.ops r11) (.cond (.t 80) (.seq (.ops r12) .ret) .skip))) (.ops r10)))))))) (.ops r5)))))) (.seq (.seq (.ops r13) (.block 4 (.loop (.seq (.seq (.ops r14) (.cond (.t 85) .skip (.exit 4))) (.seq (.block 5 (.seq (.seq (.ops r16) (.cond (.t 94) (.seq (.ops r17) .ret) .skip)) (.seq (.ops r18) (.block 6 (.loop (.seq (.seq (.ops r19) (.cond (.t 102) .skip (.exit 6))) (.seq (.block 7 (.seq (.ops r21) (.seq (.ops r22) (.cond (.t 136) (.seq (.ops r23) .ret) .skip)))) (.ops r20)))))))) (.ops r15)))))) (.seq (.seq (.ops r24) (.block 8 (.loop (.seq (.seq (.ops r25) (.cond (.t 141) .skip (.exit 8))) (.seq (.block 9 (.seq (.ops r27) (.cond (.t 163) (.seq (.ops r28) .ret) .skip))) (.ops r26)))))) (.seq (.ops r29) .ret))))))
def rs:List RV:=[.tmp 2]
theorem e : Entr Pg fn_ref10_Irons 164 [] ir (RetK rs):=Entr.of (cfg:=cfg) follows Tryz.func6 (by kernel_rfl)
attribute [simp] r0 r1 r2 r3 r4 r6 r7 r8 r9 r11 r12 r10 r5 r13 r14 r16 r17 r18 r19 r21 r22 r23 r20 r15 r24 r25 r27 r28 r26 r29 ir rs
end ref10_Irons
namespace top_awake14
def cfg:Cfg:={ pure:=[4,5,6,7,8,9,10,11,12,13,14,15,16,17,18,19,20,21,22,23,24,25,26,27,28,29,30,31,34,48,53,55,58,59,61,68,69,70,74,75,76,78,79,81,82,83,84,94,97,103,109,112,118,121,123,124,127,128,129,130,131,138,140,144,145,146,147,148,152,153,155,159,160,161,164,166,167,170,176,181,182,183,184,185,186,189,191,194,199,200,203,205,206,209,211,212,221,222,224,225,226,228,229] }
def r0:Rg:=fun _=>[S 0 (.mv (.c (.bool false)))]
def r1:Rg:=fun _=>[Cp 6 fn_top_gangs08 [],S 7 (.fld true 2 5 (.t 6)),Cp 8 fn_book_WritePitch [.t 7],M 5 8,X 9 5 0,X 10 5 1,M 1 9,M 2 10]
def r2:Rg:=fun _=>[S 12 (.bsl 5 [(.int .u8 0),(.int .u8 0),(.int .u8 0),(.int .u8 0),(.int .u8 0)] [(0,1,(.c (.int .u8 73))),(1,1,(.c (.int .u8 4))),(2,1,(.c (.int .u8 0))),(3,1,(.c (.int .u8 128))),(4,1,(.c (.int .u8 76)))]),Cl 13 fn_book_Mend [.t 12],M 11 13,X 14 11 0,X 15 11 1,M 3 14,M 4 15]
def r3:Rg:=fun _=>[M 16 1,S 17 (.bin .eql (.t 16) (.c (.str [112,105,116,99,104,32,56,10,102,114,111,115,116,32,48,32,112,101,114,104,97,112,115,32,52,10,102,105,114,101,32,50,10,102,105,114,101,10,112,111,116,32,52,32,48,32,56,10,112,111,116,32,54,32,48,32,56,10]))),M 18 17,Mg 19 18 true 2,SG 20 18 true (.bin .eql (.t 19) (ci 0)),Pa 21 18 20,M 22 21,Mg 23 22 true 3,SG 24 22 true (.bsl 5 [(.int .u8 0),(.int .u8 0),(.int .u8 0),(.int .u8 0),(.int .u8 0)] [(0,1,(.c (.int .u8 73))),(1,1,(.c (.int .u8 5))),(2,1,(.c (.int .u8 0))),(3,1,(.c (.int .u8 128))),(4,1,(.c (.int .u8 76)))]),SG 25 22 true (.call (fc fn_ref14_Bytes) [.t 23,.t 24]),Pa 26 22 25,M 27 26,Mg 28 27 true 4,SG 29 27 true (.bin .eql (.t 28) (ci 0)),Pa 30 27 29,M 31 30,Gp 32 31 true fn_top_awake12 [],Pa 33 31 32,M 0 33]
def ir:IR:=(.seq (.ops r0) (.seq (.ops r1) (.seq (.ops r2) (.seq (.ops r3) .ret))))
def rs:List RV:=[.tmp 0]
theorem e : Entr Pg fn_top_awake14 34 [] ir (RetK rs):=Entr.of (cfg:=cfg) follows Tryz.func7 (by kernel_rfl)
attribute [simp] r0 r1 r2 r3 ir rs
end top_awake14
namespace book_WriteHull
def cfg:Cfg:={ pure:=pures,draws:=[(2,[q 1,⟨0,false,[],[1]⟩,q 2,q 3,q 4])],keep:=[2,3] }
def r0:Rg:=fun _=>[S 1 (.box (.t 0)),S 2 (.mv (.c (.str []))),S 3 (.alloc [iz])]
def r1:Rg:=fun _=>[SN (.defer (fc fn_book_answer) [.t 3])]
def r2:Rg:=fun _=>[Ld 5 true 2 1,SD (some 4) (.call (fc fn_book_hulls) []) false [] [I 5 (.load true 2 (.t 1))],Cl 6 fn_book_write_api_Hull [.t 4,.t 5],M 2 6,SN (.store 1 (.t 3) (ci 0))]
def ir:IR:=(.seq (.ops r0) (.seq (.ops r1) (.seq (.ops r2) .ret)))
def rs:List RV:=[.tmp 2,.cell 3 false 1]
theorem e : Entr Pg fn_book_WriteHull 7 [2,3] ir (RetA Pg rs):=Entr.ofA (cfg:=cfg) follows Tryz.func8 (by kernel_rfl)
attribute [simp] r0 r1 r2 ir rs
end book_WriteHull
namespace book_WritePitch
def cfg:Cfg:={ pure:=pures,draws:=[(2,[q 1,⟨0,false,[],[1]⟩,q 2,q 3,q 4])],keep:=[2,3] }
def r0:Rg:=fun _=>[S 1 (.box (.t 0)),S 2 (.mv (.c (.str []))),S 3 (.alloc [iz])]
def r1:Rg:=fun _=>[SN (.defer (fc fn_book_answer) [.t 3])]
def r2:Rg:=fun _=>[Ld 5 true 5 1,SD (some 4) (.call (fc fn_book_pitches) []) false [] [I 5 (.load true 5 (.t 1))],Cl 6 fn_book_write_api_Pitch [.t 4,.t 5],M 2 6,SN (.store 1 (.t 3) (ci 0))]
def ir:IR:=(.seq (.ops r0) (.seq (.ops r1) (.seq (.ops r2) .ret)))
def rs:List RV:=[.tmp 2,.cell 3 false 1]
theorem e : Entr Pg fn_book_WritePitch 7 [2,3] ir (RetA Pg rs):=Entr.ofA (cfg:=cfg) follows Tryz.func9 (by kernel_rfl)
attribute [simp] r0 r1 r2 ir rs
end book_WritePitch
namespace book_WriteIrons
def cfg:Cfg:={ pure:=pures,draws:=[(2,[q 1,⟨0,false,[],[1]⟩,q 2,q 3,q 4])],keep:=[2,3] }
def r0:Rg:=fun _=>[S 1 (.box (.t 0)),S 2 (.mv (.c (.str []))),S 3 (.alloc [iz])]
def r1:Rg:=fun _=>[SN (.defer (fc fn_book_answer) [.t 3])]
def r2:Rg:=fun _=>[Ld 5 true 5 1,SD (some 4) (.call (fc fn_book_irons) []) false [] [I 5 (.load true 5 (.t 1))],Cl 6 fn_book_write_api_Irons [.t 4,.t 5],M 2 6,SN (.store 1 (.t 3) (ci 0))]
def ir:IR:=(.seq (.ops r0) (.seq (.ops r1) (.seq (.ops r2) .ret)))
def rs:List RV:=[.tmp 2,.cell 3 false 1]
theorem e : Entr Pg fn_book_WriteIrons 7 [2,3] ir (RetA Pg rs):=Entr.ofA (cfg:=cfg) follows Tryz.func10 (by kernel_rfl)
attribute [simp] r0 r1 r2 ir rs
end book_WriteIrons
namespace book_ReadHull
def cfg:Cfg:={ pure:=pures,keep:=[2,3] }
def r0:Rg:=fun _=>[S 2 (.alloc [.nils,.nils]),S 3 (.alloc [iz])]
def r1:Rg:=fun _=>[SN (.defer (fc fn_book_answer) [.t 3])]
def r2:Rg:=fun _=>[Cl 4 fn_book_hulls [],M 5 0,Cl 6 fn_book_read_api_Hull [.t 4,.t 5],St 2 2 6,SN (.store 1 (.t 3) (ci 0))]
def ir:IR:=(.seq (.ops r0) (.seq (.ops r1) (.seq (.ops r2) .ret)))
def rs:List RV:=[.cell 2 true 2,.cell 3 false 1]
theorem e : Entr Pg fn_book_ReadHull 7 [2,3] ir (RetA Pg rs):=Entr.ofA (cfg:=cfg) follows Tryz.func11 (by kernel_rfl)
attribute [simp] r0 r1 r2 ir rs
end book_ReadHull
namespace book_ReadPitch
def cfg:Cfg:={ pure:=pures,keep:=[2,3] }
def r0:Rg:=fun _=>[S 2 (.alloc [iz,iz,iz,.nils,.nils]),S 3 (.alloc [iz])]
def r1:Rg:=fun _=>[SN (.defer (fc fn_book_answer) [.t 3])]
def r2:Rg:=fun _=>[Cl 4 fn_book_pitches [],M 5 0,Cl 6 fn_book_read_api_Pitch [.t 4,.t 5],St 5 2 6,SN (.store 1 (.t 3) (ci 0))]
def ir:IR:=(.seq (.ops r0) (.seq (.ops r1) (.seq (.ops r2) .ret)))
def rs:List RV:=[.cell 2 true 5,.cell 3 false 1]
theorem e : Entr Pg fn_book_ReadPitch 7 [2,3] ir (RetA Pg rs):=Entr.ofA (cfg:=cfg) follows Tryz.func12 (by kernel_rfl)
attribute [simp] r0 r1 r2 ir rs
end book_ReadPitch
namespace book_ReadIrons
def cfg:Cfg:={ pure:=pures,keep:=[2,3] }
def r0:Rg:=fun _=>[S 2 (.alloc [iz,.nils,.nils,.nils,.nils]),S 3 (.alloc [iz])]
def r1:Rg:=fun _=>[SN (.defer (fc fn_book_answer) [.t 3])]
def r2:Rg:=fun _=>[Cl 4 fn_book_irons [],M 5 0,Cl 6 fn_book_read_api_Irons [.t 4,.t 5],St 5 2 6,SN (.store 1 (.t 3) (ci 0))]
def ir:IR:=(.seq (.ops r0) (.seq (.ops r1) (.seq (.ops r2) .ret)))
def rs:List RV:=[.cell 2 true 5,.cell 3 false 1]
theorem e : Entr Pg fn_book_ReadIrons 7 [2,3] ir (RetA Pg rs):=Entr.ofA (cfg:=cfg) follows Tryz.func13 (by kernel_rfl)
attribute [simp] r0 r1 r2 ir rs
end book_ReadIrons
namespace leak_Flow
def cfg:Cfg:={ pure:=pures,draws:=[(3,[q 0,q 1,q 2,q 3,q 4])],keep:=[6,7] }
def r0:Rg:=fun _=>[S 3 (.box (.t 0)),S 6 (.alloc [iz,iz]),S 7 (.alloc [iz])]
def r1:Rg:=fun _=>[S 10 (.mkF (.func fn_leak_Flow_1) [] [.t 7]),SN (.defer (.t 10) [])]
def r2:Rg:=fun _=>[M 11 1,M 12 2,S 13 (.build [iz,iz] [(0,1,(.t 11)),(1,1,(.t 12))]),S 8 (.alloc [iz,iz]),St 2 8 13]
def r3:Rg:=fun _=>[Ld 14 true 2 3,Ld 15 true 2 8,Cp 16 fn_leak_place_isPlace [.t 15],Cl 17 fn_leak_open [.t 14,.t 16],M 9 17]
def r4:Rg:=fun _=>[M 18 9,M 19 9,Ld 20 true 2 8,Cl 21 fn_leak_hull_wet [.t 19,.t 20],Cl 22 fn_leak_hull_total [.t 18,.t 21],St 2 6 22,SN (.store 1 (.t 7) (ci 0))]
def ir:IR:=(.seq (.ops r0) (.seq (.ops r1) (.seq (.ops r2) (.seq (.ops r3) (.seq (.ops r4) .ret)))))
def rs:List RV:=[.cell 6 true 2,.cell 7 false 1]
theorem e : Entr Pg fn_leak_Flow 23 [6,7] ir (RetD Pg rs):=Entr.ofD (cfg:=cfg) follows Tryz.func14 (by kernel_rfl)
attribute [simp] r0 r1 r2 r3 r4 ir rs
end leak_Flow
namespace leak_Leaks
def cfg:Cfg:={ pure:=pures,keep:=[2,3,4] }
def r0:Rg:=fun _=>[S 1 (.box (.t 0)),MI 2 0,MI 3 0,S 4 (.alloc [iz])]
def r1:Rg:=fun _=>[S 10 (.mkF (.func fn_leak_Leaks_1) [] [.t 4]),SN (.defer (.t 10) [])]
def r2:Rg:=fun _=>[S 5 (.mv (.c (.int .u64 63))),S 6 (.mv (.c (.int .u64 0)))]
def r3:Rg:=fun _=>[Ld 11 true 2 1,Cl 12 fn_leak_open [.t 11,(.c (.bool true))],Cl 13 fn_leak_hull_truths [.t 12],Ln 14 13,MI 15 0]
def r4:Rg:=fun _=>[Bn 16 .lss 15 14]
def r5:Rg:=fun _=>[Ix 17 6 13 15,Ld 18 true 6 17,S 8 (.alloc [iz,iz,iz,iz,iz,iz]),St 6 8 18]
def r6:Rg:=fun _=>[Ld 19 true 6 8,S 20 (.mkF (.func fn_leak_inflow_leaks) [.t 19] []),M 9 20]
def r7:Rg:=fun _=>[M 21 5,M 22 9,S 23 (.call (.t 22) []),Bn 24 .and 21 23,M 25 6,M 26 9,S 27 (.call (.t 26) []),Bn 28 .or 25 27,M 5 24,M 6 28]
def r8:Rg:=fun _=>[Bi 29 .add 15 1,M 15 29]
def r9:Rg:=fun _=>[M 30 6,S 31 (.conv .i64 (.t 30)),M 32 5,S 33 (.conv .i64 (.t 32)),M 2 31,M 3 33,SN (.store 1 (.t 4) (ci 0))]
def ir:IR:=(.seq (.ops r0) (.seq (.ops r1) (.seq (.ops r2) (.seq (.seq (.ops r3) (.block 0 (.loop (.seq (.ops r4) (.seq (.cond (.t 16) .skip (.exit 0)) (.seq (.block 1 (.seq (.ops r5) (.seq (.ops r6) (.ops r7)))) (.ops r8))))))) (.seq (.ops r9) .ret)))))
def rs:List RV:=[.tmp 2,.tmp 3,.cell 4 false 1]
theorem e : Entr Pg fn_leak_Leaks 34 [2,3,4] ir (RetD Pg rs):=Entr.ofD (cfg:=cfg) follows Tryz.func15 (by kernel_rfl)
attribute [simp] r0 r1 r2 r3 r4 r5 r6 r7 r8 r9 ir rs
end leak_Leaks
namespace leak_Rate
def cfg:Cfg:={ pure:=pures,draws:=[(2,[q 1,q 2,q 0,q 3,q 4,q 5,q 6,q 7,q 8])],keep:=[4,5] }
def r0:Rg:=fun _=>[S 2 (.box (.t 0)),S 4 (.alloc [iz,iz]),S 5 (.alloc [iz])]
def r1:Rg:=fun _=>[S 7 (.mkF (.func fn_leak_Rate_1) [] [.t 5]),SN (.defer (.t 7) [])]
def r2:Rg:=fun _=>[M 9 1,Fa 10 0 2,Ld 8 true 2 2,Ld 11 false 1 10,Ln 12 11,Bi 13 .sub 12 1,Cp 14 fn_leak_within [.t 9,ci 0,.t 13],Cl 15 fn_leak_open [.t 8,.t 14],M 6 15]
def r3:Rg:=fun _=>[M 16 6,M 17 1,S 18 (.bin .shl (.c (.int .u64 1)) (.t 17)),Cl 19 fn_leak_hull_total [.t 16,.t 18],St 2 4 19,SN (.store 1 (.t 5) (ci 0))]
def ir:IR:=(.seq (.ops r0) (.seq (.ops r1) (.seq (.ops r2) (.seq (.ops r3) .ret))))
def rs:List RV:=[.cell 4 true 2,.cell 5 false 1]
theorem e : Entr Pg fn_leak_Rate 20 [4,5] ir (RetD Pg rs):=Entr.ofD (cfg:=cfg) follows Tryz.func16 (by kernel_rfl)
attribute [simp] r0 r1 r2 r3 ir rs
end leak_Rate
namespace pitch_Count
def cfg:Cfg:={ pure:=pures,keep:=[2,3] }
def r0:Rg:=fun _=>[S 1 (.box (.t 0)),MI 2 0,S 3 (.alloc [iz])]
def r1:Rg:=fun _=>[SN (.defer (fc fn_pitch_answer) [.t 3])]
def r2:Rg:=fun _=>[Ld 4 true 5 1,Cl 5 fn_pitch_open [.t 4,(fc fn_pitch_always)],Cp 6 fn_pitch_pitch_ways [.t 5],M 2 6,SN (.store 1 (.t 3) (ci 0))]
def ir:IR:=(.seq (.ops r0) (.seq (.ops r1) (.seq (.ops r2) .ret)))
def rs:List RV:=[.tmp 2,.cell 3 false 1]
theorem e : Entr Pg fn_pitch_Count 7 [2,3] ir (RetA Pg rs):=Entr.ofA (cfg:=cfg) follows Tryz.func17 (by kernel_rfl)
attribute [simp] r0 r1 r2 ir rs
end pitch_Count
namespace pitch_Best
def cfg:Cfg:={ pure:=pures,cuts:=[3],draws:=[(9,[q 0,q 1,q 2,q 3,q 4,q 5,q 6,q 7,q 8]),(14,[q 0,q 1,q 3,q 6,q 2,q 4,q 5,q 8,⟨7,false,[],[8]⟩,q 9,q 10]),(15,[q 0,q 1,q 2,q 4,q 3,⟨5,false,[],[3]⟩,q 6])],keep:=[2,3,4] }
def r0:Rg:=fun _=>[S 1 (.box (.t 0)),MI 2 0,S 3 (.mv (.c .nils)),S 4 (.alloc [iz])]
def r1:Rg:=fun _=>[SN (.defer (fc fn_pitch_answer) [.t 4])]
def r2:Rg:=fun _=>[Ld 17 true 5 1,Cl 18 fn_pitch_open [.t 17,(fc fn_pitch_always)],S 5 (.alloc [.nilp]),St 1 5 18]
def r3:Rg:=fun _=>[S 19 (.mkF (.func fn_pitch_Best_1) [] [.t 5]),S 6 (.alloc [.nilf]),St 1 6 19]
def r4:Rg:=fun _=>[Ld 20 false 1 5,Ld 21 false 1 6,S 22 (.build [iz,.nilf,.nilf] [(0,1,(ci 0)),(1,1,(.t 21)),(2,1,(fc fn_pitch_Best_2))]),Cl 23 fn_pitch_tell_int [.t 20,.t 22],S 7 (.alloc [.nilf]),St 1 7 23]
def r5:Rg:=fun _=>[Ld 25 false 1 7,S 26 (.build [iz,(.int .u64 0),(.int .u64 0),(.int .u64 0)] []),S 27 (.call (.t 25) [.t 26]),M 24 27,X 28 24 0,X 29 24 1,S 8 (.alloc [iz]),St 1 8 28,M 9 29]
def r6:Rg:=fun _=>[M 30 9,Cl 31 fn_pitch_ask [.t 30,ci 4]]
def r7:Rg:=fun _=>[S 32 (.build [iz,iz,iz,iz,iz,iz,iz,iz] []),S 10 (.alloc [iz,iz,iz,iz,iz,iz,iz,iz]),St 8 10 32]
def r8:Rg:=fun _=>[S 33 (.build [iz,(.int .u64 0),(.int .u64 0),(.int .u64 0)] []),S 11 (.alloc [iz,(.int .u64 0),(.int .u64 0),(.int .u64 0)]),St 4 11 33]
def r9:Rg:=fun _=>[Fa 34 0 11,Ld 35 false 1 34,Ld 36 false 1 5,S 37 (.nilck Pg (.t 36)),Fa 38 0 37,Fa 39 4 38,Ld 40 false 1 39,Ln 41 40,Bn 42 .lss 35 41]
def r10:Rg:=fun _=>[Ld 43 false 1 5,Ld 44 true 4 11,Cl 45 fn_pitch_pitch_steps [.t 43,.t 44]]
def r11:Rg:=fun _=>[S 12 (.alloc [iz,iz]),St 2 12 46]
def r12:Rg:=fun _=>[S 13 (.alloc [iz,(.int .u64 0),(.int .u64 0),(.int .u64 0)]),St 4 13 47]
def r13:Rg:=fun _=>[Ld 49 false 1 7,Ld 50 true 4 13,S 51 (.call (.t 49) [.t 50]),M 48 51,X 52 48 0,X 53 48 1,M 14 52,M 15 53]
def r14:Rg:=fun _=>[M 54 15,M 55 54,Fg 57 55 true 0 11,Mg 60 55 true 14,Lg 56 55 true false 1 6,Lg 58 55 true false 1 57,Lg 59 55 true true 2 12,Lg 62 55 true false 1 8,⟨IG 61 55 true (.call (.t 56) [.t 58,.t 59,.t 60]),false,[],[IG 62 55 true (.load false 1 (.t 8))]⟩,SG 63 55 true (.bin .leq (.t 61) (.t 62)),Pa 64 55 63]
def r15:Rg:=fun _=>[Fa 65 0 11,Ld 66 false 1 65,Ld 67 true 2 12,S 69 (.ixA 4 2 (.t 10) (.t 66)),Ld 68 true 4 13,SD none (.store 2 (.t 69) (.t 67)) false [] [I 68 (.load true 4 (.t 13))],St 4 11 68]
def r16:Rg:=fun _=>[Ld 70 false 1 5,S 71 (.nilck Pg (.t 70)),Fa 72 0 71,Fa 73 4 72,Ld 74 false 1 73,Ln 75 74,S 76 (.mksl 16 [iz,iz] (.t 75) (.t 75)),M 16 76]
def r17:Rg:=fun _=>[M 77 16,S 78 (.slA 4 2 (.t 10) none none none),S 79 (.copy 2 (.t 77) (.t 78))]
def r18:Rg:=fun _=>[Ld 80 false 1 8,M 81 16,M 2 80,M 3 81,SN (.store 1 (.t 4) (ci 0))]
def ir:IR:=(.seq (.ops r0) (.seq (.ops r1) (.seq (.ops r2) (.seq (.cut (.ops r3)) (.seq (.ops r4) (.seq (.ops r5) (.seq (.ops r6) (.seq (.ops r7) (.seq (.ops r8) (.seq (.block 0 (.loop (.seq (.seq (.ops r9) (.cond (.t 42) .skip (.exit 0))) (.block 1 (.seq (.ops r10) (.block 2 (.rangeF (.t 45) [46,47] (.seq (.ops r11) (.ops r12)) (.block 3 (.seq (.ops r13) (.seq (.ops r14) (.cond (.t 64) (.seq (.ops r15) (.exit 2)) .skip))))))))))) (.seq (.ops r16) (.seq (.ops r17) (.seq (.ops r18) .ret)))))))))))))
def rs:List RV:=[.tmp 2,.tmp 3,.cell 4 false 1]
theorem e : Entr Pg fn_pitch_Best 82 [2,3,4] ir (RetA Pg rs):=Entr.ofA (cfg:=cfg) follows Tryz.func18 (by kernel_rfl)
attribute [simp] r0 r1 r2 r3 r4 r5 r6 r7 r8 r9 r10 r11 r12 r13 r14 r15 r16 r17 r18 ir rs
end pitch_Best
namespace ref06_Same
def cfg:Cfg:={ pure:=pures,draws:=[(6,[q 0,q 1,q 2,q 4,q 5,q 6,q 3,q 7,q 8])] }
def r0:Rg:=fun _=>[S 4 (.mv (.c (.bool false)))]
def r1:Rg:=fun _=>[M 6 0,Ln 7 6,M 8 1,Ln 9 8,Bn 10 .neq 7 9]
def r2:Rg:=fun _=>[S 4 (.mv (.c (.bool false)))]
def r3:Rg:=fun _=>[MI 5 0]
def r4:Rg:=fun _=>[M 11 5,M 12 0,Ln 13 12,Bn 14 .lss 11 13]
def r6:Rg:=fun _=>[M 17 0,M 18 5,Ix 19 2 17 18,M 21 1,M 22 5,Ix 23 2 21 22,Ld 20 true 2 19,Ld 24 true 2 23,S 25 (.eqA true [.i,.i] (.t 20) (.t 24))]
def r7:Rg:=fun _=>[S 4 (.mv (.c (.bool false)))]
def r5:Rg:=fun _=>[M 15 5,Bi 16 .add 15 1,M 5 16]
def r8:Rg:=fun _=>[S 4 (.mv (.c (.bool true)))]
def ir:IR:=(.seq (.ops r0) (.seq (.seq (.ops r1) (.cond (.t 10) (.seq (.ops r2) .ret) .skip)) (.seq (.seq (.ops r3) (.block 0 (.loop (.seq (.seq (.ops r4) (.cond (.t 14) .skip (.exit 0))) (.seq (.block 1 (.seq (.ops r6) (.cond (.t 25) (.seq (.ops r7) .ret) .skip))) (.ops r5)))))) (.seq (.ops r8) .ret))))
def rs:List RV:=[.tmp 4]
theorem e : Entr Pg fn_ref06_Same 26 [] ir (RetK rs):=Entr.of (cfg:=cfg) follows Tryz.func19 (by kernel_rfl)
attribute [simp] r0 r1 r2 r3 r4 r6 r7 r5 r8 ir rs
end ref06_Same
namespace iron_Count
def cfg:Cfg:={ pure:=pures,keep:=[2,3] }
def r0:Rg:=fun _=>[S 1 (.box (.t 0)),MI 2 0,S 3 (.alloc [iz])]
def r1:Rg:=fun _=>[SN (.defer (fc fn_iron_answer) [.t 3])]
def r2:Rg:=fun _=>[Ld 4 true 5 1,Cl 5 fn_iron_open [.t 4,(fc fn_iron_always)],Cp 6 fn_iron_irons_ways [.t 5],M 2 6,SN (.store 1 (.t 3) (ci 0))]
def ir:IR:=(.seq (.ops r0) (.seq (.ops r1) (.seq (.ops r2) .ret)))
def rs:List RV:=[.tmp 2,.cell 3 false 1]
theorem e : Entr Pg fn_iron_Count 7 [2,3] ir (RetA Pg rs):=Entr.ofA (cfg:=cfg) follows Tryz.func20 (by kernel_rfl)
attribute [simp] r0 r1 r2 ir rs
end iron_Count
namespace iron_False
def cfg:Cfg:={ pure:=pures,draws:=[(4,[q 0,q 2,q 1,q 4,q 3,q 5,q 6])],keep:=[2,3,4] }
def r0:Rg:=fun _=>[S 1 (.box (.t 0)),MI 2 0,MI 3 0,S 4 (.alloc [iz])]
def r1:Rg:=fun _=>[SN (.defer (fc fn_iron_answer) [.t 4])]
def r2:Rg:=fun _=>[Ld 8 true 5 1,Cl 9 fn_iron_open [.t 8,(fc fn_iron_always)],Cp 10 fn_iron_irons_least [.t 9],M 7 10,X 11 7 0,X 12 7 1,S 5 (.alloc [iz,iz]),St 2 5 11,M 6 12]
def r3:Rg:=fun _=>[M 13 6,Cl 14 fn_iron_ask [.t 13,ci 10]]
def r4:Rg:=fun _=>[Fa 15 0 5,Fa 17 1 5,Ld 16 false 1 15,M 2 16,Ld 18 false 1 17,M 3 18,SN (.store 1 (.t 4) (ci 0))]
def ir:IR:=(.seq (.ops r0) (.seq (.ops r1) (.seq (.ops r2) (.seq (.ops r3) (.seq (.ops r4) .ret)))))
def rs:List RV:=[.tmp 2,.tmp 3,.cell 4 false 1]
theorem e : Entr Pg fn_iron_False 19 [2,3,4] ir (RetA Pg rs):=Entr.ofA (cfg:=cfg) follows Tryz.func21 (by kernel_rfl)
attribute [simp] r0 r1 r2 r3 r4 ir rs
end iron_False
namespace iron_Can
def cfg:Cfg:={ pure:=pures,draws:=[(2,[q 1,q 5,q 0,⟨2,false,[],[0]⟩,q 3,q 4,q 6,q 7,q 8])],keep:=[4,5] }
def r0:Rg:=fun _=>[S 2 (.box (.t 0)),MI 4 0,S 5 (.alloc [iz])]
def r1:Rg:=fun _=>[SN (.defer (fc fn_iron_answer) [.t 5])]
def r2:Rg:=fun _=>[M 7 1,M 11 1,Ld 6 true 5 2,SD (some 8) (.call (fc fn_iron_isStrake) [.t 7]) false [] [I 6 (.load true 5 (.t 2))],Cl 9 fn_iron_open [.t 6,.t 8],Cl 10 fn_iron_irons_told [.t 9],Cp 12 fn_iron_irons_owners [.t 10,.t 11],M 4 12,SN (.store 1 (.t 5) (ci 0))]
def ir:IR:=(.seq (.ops r0) (.seq (.ops r1) (.seq (.ops r2) .ret)))
def rs:List RV:=[.tmp 4,.cell 5 false 1]
theorem e : Entr Pg fn_iron_Can 13 [4,5] ir (RetA Pg rs):=Entr.ofA (cfg:=cfg) follows Tryz.func22 (by kernel_rfl)
attribute [simp] r0 r1 r2 ir rs
end iron_Can
namespace iron_Likely
def cfg:Cfg:={ pure:=pures,draws:=[(2,[q 1,q 0,⟨2,false,[],[0]⟩,q 3,q 4,q 5])],keep:=[4,5] }
def r0:Rg:=fun _=>[S 2 (.box (.t 0)),MI 4 0,S 5 (.alloc [iz])]
def r1:Rg:=fun _=>[SN (.defer (fc fn_iron_answer) [.t 5])]
def r2:Rg:=fun _=>[M 16 1,Ld 15 true 5 2,SD (some 17) (.call (fc fn_iron_isStrake) [.t 16]) false [] [I 15 (.load true 5 (.t 2))],Cl 18 fn_iron_open [.t 15,.t 17],Cl 19 fn_iron_irons_told [.t 18],M 6 19]
def r3:Rg:=fun _=>[M 21 6,Cp 22 fn_iron_irons_least [.t 21],M 20 22,X 23 20 0,X 24 20 1,S 7 (.alloc [iz,iz]),St 2 7 23,M 8 24]
def r4:Rg:=fun _=>[MI 9 0]
def r5:Rg:=fun _=>[Fa 25 1 2,Ld 26 false 1 25,Ln 27 26,MI 28 0]
def r6:Rg:=fun _=>[Bn 29 .lss 28 27]
def r7:Rg:=fun _=>[M 30 28,M 10 30]
def r8:Rg:=fun _=>[M 32 6,M 33 1,M 34 10,Cp 35 fn_iron_irons_with [.t 32,.t 33,.t 34],M 31 35,X 36 31 0,X 37 31 1,M 11 36,M 12 37]
def r9:Rg:=fun _=>[M 38 12]
def r10:Rg:=fun _=>[M 40 11,Cp 41 fn_iron_irons_least [.t 40],M 39 41,X 42 39 0,X 43 39 1,S 13 (.alloc [iz,iz]),St 2 13 42,M 14 43]
def r11:Rg:=fun _=>[M 44 14,M 45 44,Fg 46 45 true 0 13,Lg 47 45 true false 1 46,Fg 48 45 true 0 7,Lg 49 45 true false 1 48,SG 50 45 true (.bin .eql (.t 47) (.t 49)),Pa 51 45 50]
def r12:Rg:=fun _=>[M 52 9,M 53 10,S 54 (.bin .shl (ci 1) (.t 53)),Bn 55 .or 52 54,M 9 55]
def r13:Rg:=fun _=>[Bi 56 .add 28 1,M 28 56]
def r14:Rg:=fun _=>[M 57 9,M 4 57,SN (.store 1 (.t 5) (ci 0))]
def ir:IR:=(.seq (.ops r0) (.seq (.ops r1) (.seq (.ops r2) (.seq (.ops r3) (.seq (.ops r4) (.seq (.seq (.ops r5) (.block 0 (.loop (.seq (.ops r6) (.seq (.cond (.t 29) .skip (.exit 0)) (.seq (.block 1 (.seq (.ops r7) (.seq (.ops r8) (.seq (.ops r9) (.cond (.t 38) (.seq (.ops r10) (.seq (.ops r11) (.cond (.t 51) (.ops r12) .skip))) .skip))))) (.ops r13))))))) (.seq (.ops r14) .ret)))))))
def rs:List RV:=[.tmp 4,.cell 5 false 1]
theorem e : Entr Pg fn_iron_Likely 58 [4,5] ir (RetA Pg rs):=Entr.ofA (cfg:=cfg) follows Tryz.func23 (by kernel_rfl)
attribute [simp] r0 r1 r2 r3 r4 r5 r6 r7 r8 r9 r10 r11 r12 r13 r14 ir rs
end iron_Likely
namespace ref01_in
def r0:Rg:=fun _=>[S 6 (.mv (.c (.bool false)))]
def r1:Rg:=fun _=>[M 7 1,M 8 0,Bn 9 .leq 7 8,M 10 9,Mg 11 10 true 0,Mg 12 10 true 2,SG 13 10 true (.bin .leq (.t 11) (.t 12)),Pa 14 10 13,M 6 14]
def ir:IR:=(.seq (.ops r0) (.seq (.ops r1) .ret))
def rs:List RV:=[.tmp 6]
theorem e : Entr Pg fn_ref01_in 15 [] ir (RetK rs):=Entr.of (cfg:=cf0) follows Tryz.func24 (by kernel_rfl)
attribute [simp] r0 r1 ir rs
end ref01_in
namespace ref01_At
def r0:Rg:=fun _=>[S 4 (.mv (.c (.bool false)))]
def r1:Rg:=fun _=>[M 5 0,Cp 6 fn_ref01_in [.t 5,ci 0,ci 12],M 7 6,Mg 8 7 true 1,Gp 9 7 true fn_ref01_in [.t 8,(ci (-3)),ci 3],Pa 10 7 9,M 4 10]
def ir:IR:=(.seq (.ops r0) (.seq (.ops r1) .ret))
def rs:List RV:=[.tmp 4]
theorem e : Entr Pg fn_ref01_At 11 [] ir (RetK rs):=Entr.of (cfg:=cf0) follows Tryz.func25 (by kernel_rfl)
attribute [simp] r0 r1 ir rs
end ref01_At
namespace ref06_in
def r0:Rg:=fun _=>[S 6 (.mv (.c (.bool false)))]
def r1:Rg:=fun _=>[M 7 1,M 8 0,Bn 9 .leq 7 8,M 10 9,Mg 11 10 true 0,Mg 12 10 true 2,SG 13 10 true (.bin .leq (.t 11) (.t 12)),Pa 14 10 13,M 6 14]
def ir:IR:=(.seq (.ops r0) (.seq (.ops r1) .ret))
def rs:List RV:=[.tmp 6]
theorem e : Entr Pg fn_ref06_in 15 [] ir (RetK rs):=Entr.of (cfg:=cf0) follows Tryz.func26 (by kernel_rfl)
attribute [simp] r0 r1 ir rs
end ref06_in
namespace ref06_power
def r0:Rg:=fun _=>[MI 2 0]
def r1:Rg:=fun _=>[MI 3 1]
def r2:Rg:=fun _=>[MI 4 0]
def r3:Rg:=fun _=>[M 5 4,M 6 0,Bn 7 .lss 5 6]
def r5:Rg:=fun _=>[M 10 3,S 11 (.bin .mul (ci 2) (.t 10)),M 3 11]
def r4:Rg:=fun _=>[M 8 4,Bi 9 .add 8 1,M 4 9]
def r6:Rg:=fun _=>[M 12 3,M 2 12]
def ir:IR:=(.seq (.ops r0) (.seq (.ops r1) (.seq (.seq (.ops r2) (.block 0 (.loop (.seq (.seq (.ops r3) (.cond (.t 7) .skip (.exit 0))) (.seq (.block 1 (.ops r5)) (.ops r4)))))) (.seq (.ops r6) .ret))))
def rs:List RV:=[.tmp 2]
theorem e : Entr Pg fn_ref06_power 13 [] ir (RetK rs):=Entr.of (cfg:=cf0) follows Tryz.func27 (by kernel_rfl)
attribute [simp] r0 r1 r2 r3 r5 r4 r6 ir rs
end ref06_power
namespace ref10_in
def r0:Rg:=fun _=>[S 6 (.mv (.c (.bool false)))]
def r1:Rg:=fun _=>[M 7 1,M 8 0,Bn 9 .leq 7 8,M 10 9,Mg 11 10 true 0,Mg 12 10 true 2,SG 13 10 true (.bin .leq (.t 11) (.t 12)),Pa 14 10 13,M 6 14]
def ir:IR:=(.seq (.ops r0) (.seq (.ops r1) .ret))
def rs:List RV:=[.tmp 6]
theorem e : Entr Pg fn_ref10_in 15 [] ir (RetK rs):=Entr.of (cfg:=cf0) follows Tryz.func28 (by kernel_rfl)
attribute [simp] r0 r1 ir rs
end ref10_in
namespace ref10_Strake
def r0:Rg:=fun _=>[S 2 (.box (.t 0)),S 4 (.mv (.c (.bool false)))]
def r1:Rg:=fun _=>[M 5 1,Fa 6 3 2,Ld 7 false 1 6,Ln 8 7,Bi 9 .sub 8 1,Cp 10 fn_ref10_in [.t 5,ci 0,.t 9],M 4 10]
def ir:IR:=(.seq (.ops r0) (.seq (.ops r1) .ret))
def rs:List RV:=[.tmp 4]
theorem e : Entr Pg fn_ref10_Strake 11 [] ir (RetK rs):=Entr.of (cfg:=cf0) follows Tryz.func29 (by kernel_rfl)
attribute [simp] r0 r1 ir rs
end ref10_Strake
namespace ref10_Owner
def r0:Rg:=fun _=>[S 2 (.box (.t 0)),S 4 (.mv (.c (.bool false)))]
def r1:Rg:=fun _=>[M 5 1,Fa 6 1 2,Ld 7 false 1 6,Ln 8 7,Bi 9 .sub 8 1,Cp 10 fn_ref10_in [.t 5,ci 0,.t 9],M 4 10]
def ir:IR:=(.seq (.ops r0) (.seq (.ops r1) .ret))
def rs:List RV:=[.tmp 4]
theorem e : Entr Pg fn_ref10_Owner 11 [] ir (RetK rs):=Entr.of (cfg:=cf0) follows Tryz.func30 (by kernel_rfl)
attribute [simp] r0 r1 ir rs
end ref10_Owner
namespace top_gangs08
def r0:Rg:=fun _=>[S 0 (.alloc [.nils,.nils,iz,iz,iz,.nils,.nils])]
def r1:Rg:=fun _=>[S 1 (.build [iz,iz,iz,iz] [(0,1,(ci 20)),(1,1,(ci 2)),(2,1,(ci 12)),(3,1,(ci (-1)))]),S 2 (.build [iz,iz,iz,iz] [(0,1,(ci 12)),(2,1,(ci 10))]),S 3 (.build [iz,iz,iz,iz] [(0,1,(ci 9)),(1,1,(ci 3)),(2,1,(ci 12)),(3,1,(ci 1))]),S 4 (.bsl 3 [iz,iz,iz,iz,iz,iz,iz,iz,iz,iz,iz,iz] [(0,4,(.t 1)),(4,4,(.t 2)),(8,4,(.t 3))]),Cp 5 fn_top_span04 [ci 5,ci 6],S 6 (.build [iz,iz,iz] [(0,2,(.t 5)),(2,1,(ci 7))]),Cp 7 fn_top_span04 [ci 4,ci 4],S 8 (.build [iz,iz,iz] [(0,2,(.t 7)),(2,1,(ci 6))]),S 9 (.bsl 2 [iz,iz,iz,iz,iz,iz] [(0,3,(.t 6)),(3,3,(.t 8))]),S 10 (.bsl 2 [iz,iz] [(0,1,(ci 4)),(1,1,(ci 0))]),S 11 (.build [iz,iz,iz] [(0,1,(ci 4)),(2,1,(ci 8))]),S 12 (.build [iz,iz,iz] [(0,1,(ci 6)),(2,1,(ci 8))]),S 13 (.bsl 2 [iz,iz,iz,iz,iz,iz] [(0,3,(.t 11)),(3,3,(.t 12))]),S 14 (.build [iz,iz,iz,.nils,.nils] [(0,1,(ci 8)),(1,1,(ci 1)),(2,1,(ci 16)),(3,1,(.t 10)),(4,1,(.t 13))]),S 15 (.build [.nils,.nils,iz,iz,iz,.nils,.nils] [(0,1,(.t 4)),(1,1,(.t 9)),(2,5,(.t 14))]),St 7 0 15]
def ir:IR:=(.seq (.ops r0) (.seq (.ops r1) .ret))
def rs:List RV:=[.cell 0 true 7]
theorem e : Entr Pg fn_top_gangs08 16 [] ir (RetK rs):=Entr.of (cfg:=cf0) follows Tryz.func31 (by kernel_rfl)
attribute [simp] r0 r1 ir rs
end top_gangs08
namespace book_Mend
def cfg:Cfg:={ pure:=pures,draws:=[(5,[q 0,q 1,q 2,q 3,q 4,q 5,q 6,q 7,q 8,q 9,q 10,q 11,q 12,q 13]),(6,[q 0,q 1,q 2,q 3,q 4,q 5,q 6,q 7,q 8,q 9,q 10,q 11]),(17,[q 0,q 1,q 2,q 3,q 5,q 6,q 7,q 4,q 8,q 9,q 10])],keep:=[2,3] }
def r0:Rg:=fun _=>[S 2 (.mv (.c .nils)),S 3 (.alloc [iz])]
def r1:Rg:=fun _=>[SN (.defer (fc fn_book_answer) [.t 3])]
def r2:Rg:=fun _=>[M 13 0,Ln 14 13,Cl 15 fn_book_content [.t 14],M 4 15]
def r3:Rg:=fun _=>[M 16 0,Ln 17 16,Bi 18 .sub 17 1,M 5 18]
def r4:Rg:=fun _=>[M 19 0,M 20 4,S 21 (.slS 1 (.t 19) none (some (.t 20)) none),Cp 22 fn_book_sealed [.t 21],M 6 22]
def r5:Rg:=fun _=>[M 24 0,M 25 4,M 26 5,S 27 (.slS 1 (.t 24) (some (.t 25)) (some (.t 26)) none),M 28 6,M 29 4,M 30 5,S 31 (.slS 1 (.t 28) (some (.t 29)) (some (.t 30)) none),Cp 32 fn_book_wrong [.t 27,.t 31],M 23 32,X 33 23 0,X 34 23 1,M 7 33,M 8 34]
def r6:Rg:=fun _=>[M 36 0,M 37 5,S 38 (.slS 1 (.t 36) (some (.t 37)) none none),M 39 6,M 40 5,S 41 (.slS 1 (.t 39) (some (.t 40)) none none),Cp 42 fn_book_wrong [.t 38,.t 41],M 35 42,X 43 35 0,X 44 35 1,M 9 43,M 10 44]
def r7:Rg:=fun _=>[M 45 8,M 46 10,Bn 47 .add 45 46,Bi 48 .gtr 47 0,Cl 49 fn_book_ask [.t 48,ci 4]]
def r8:Rg:=fun _=>[M 50 8,Bi 51 .leq 50 1,M 52 51,Mg 53 52 true 10,SG 54 52 true (.bin .leq (.t 53) (ci 1)),Pa 55 52 54,Cl 56 fn_book_ask [.t 55,ci 11]]
def r9:Rg:=fun _=>[M 57 4,S 58 (.bin .mul (ci 8) (.t 57)),M 59 7,Bn 60 .add 58 59,M 11 60]
def r10:Rg:=fun _=>[M 62 8,Bi 63 .eql 62 0,M 61 63]
def r11:Rg:=fun _=>[M 64 5,S 65 (.bin .mul (ci 8) (.t 64)),M 66 9,Bn 67 .add 65 66,M 11 67]
def r12:Rg:=fun _=>[M 69 10,Bi 70 .eql 69 1,M 68 70]
def r13:Rg:=fun _=>[M 71 7,M 72 4,Bn 73 .lss 71 72,Cl 74 fn_book_ask [.t 73,ci 11]]
def r14:Rg:=fun _=>[M 75 7,S 76 (.bin .mul (ci 8) (.t 75)),M 77 9,Bn 78 .add 76 77,M 11 78]
def r15:Rg:=fun _=>[M 79 0,Ln 80 79,S 81 (.mksl 1 [(.int .u8 0)] (.t 80) (.t 80)),M 12 81]
def r16:Rg:=fun _=>[M 82 12,M 83 0,S 84 (.copy 1 (.t 82) (.t 83))]
def r17:Rg:=fun _=>[M 85 12,M 86 11,Bi 87 .quo 86 8,Ix 88 1 85 87,M 90 11,Bi 91 .rem 90 8,S 92 (.bin .shr (.c (.int .u8 128)) (.t 91)),Ld 89 false 1 88,Bn 93 .xor 89 92,Ix 94 1 85 87,St 1 94 93]
def r18:Rg:=fun _=>[M 95 12,M 2 95,SN (.store 1 (.t 3) (ci 0))]
def ir:IR:=(.seq (.ops r0) (.seq (.ops r1) (.seq (.ops r2) (.seq (.ops r3) (.seq (.ops r4) (.seq (.ops r5) (.seq (.ops r6) (.seq (.ops r7) (.seq (.ops r8) (.seq (.ops r9) (.seq (.block 0 (.seq (.ops r10) (.cond (.t 61) (.ops r11) (.seq (.ops r12) (.cond (.t 68) (.seq (.ops r13) (.ops r14)) .skip))))) (.seq (.ops r15) (.seq (.ops r16) (.seq (.ops r17) (.seq (.ops r18) .ret)))))))))))))))
def rs:List RV:=[.tmp 2,.cell 3 false 1]
theorem e : Entr Pg fn_book_Mend 96 [2,3] ir (RetA Pg rs):=Entr.ofA (cfg:=cfg) follows Tryz.func32 (by kernel_rfl)
attribute [simp] r0 r1 r2 r3 r4 r5 r6 r7 r8 r9 r10 r11 r12 r13 r14 r15 r16 r17 r18 ir rs
end book_Mend
namespace ref14_Bytes
def r0:Rg:=fun _=>[S 4 (.mv (.c (.bool false)))]
def r1:Rg:=fun _=>[M 5 0,S 6 (.toStr (.t 5)),M 7 1,S 8 (.toStr (.t 7)),Bn 9 .eql 6 8,M 4 9]
def ir:IR:=(.seq (.ops r0) (.seq (.ops r1) .ret))
def rs:List RV:=[.tmp 4]
theorem e : Entr Pg fn_ref14_Bytes 10 [] ir (RetK rs):=Entr.of (cfg:=cf0) follows Tryz.func33 (by kernel_rfl)
attribute [simp] r0 r1 ir rs
end ref14_Bytes
namespace top_awake12
def cfg:Cfg:={ pure:=[4,5,6,7,8,9,10,11,12,13,14,15,16,17,18,19,20,21,22,23,24,25,26,27,28,29,30,31,32,33,34,48,53,55,58,59,61,68,69,70,74,75,76,78,79,84,94,97,103,109,112,118,121,123,124,127,128,129,130,131,138,140,144,145,146,147,148,152,153,155,159,160,161,164,166,167,170,176,181,182,183,184,185,186,189,191,194,199,200,203,205,206,209,211,212,221,222,224,225,226,228,229],draws:=[(4,[q 1,q 0,q 2,q 3,q 4,q 5,q 6,q 7,q 8,q 9,q 10,q 11,q 12,q 13,q 14,q 15,q 16,q 17,q 18,q 19])] }
def r0:Rg:=fun _=>[S 0 (.mv (.c (.bool false)))]
def r1:Rg:=fun _=>[S 6 (.build [iz,iz] [(0,1,(ci 4)),(1,1,(ci 5))]),S 7 (.bsl 1 [iz,iz] [(0,2,(.t 6))]),Cp 8 fn_top_span04 [ci 0,ci 1],Cp 9 fn_top_span04 [ci 4,ci 4],Cp 10 fn_top_span04 [ci 5,ci 5],S 11 (.build [iz,iz,iz,iz,iz,iz,iz,iz] [(0,1,(ci 1)),(2,2,(.t 8)),(4,2,(.t 9)),(6,2,(.t 10))]),S 12 (.bsl 1 [iz,iz,iz,iz,iz,iz,iz,iz] [(0,8,(.t 11))]),S 13 (.build [iz,.nils,.nils] [(0,1,(ci 2)),(1,1,(.t 7)),(2,1,(.t 12))]),S 1 (.alloc [iz,.nils,.nils]),St 3 1 13]
def r2:Rg:=fun _=>[Ld 15 true 3 1,Cl 16 fn_wage_Due [.t 15,ci 1],M 14 16,X 17 14 0,X 18 14 1,S 2 (.alloc [iz,iz]),St 2 2 17,M 3 18]
def r3:Rg:=fun _=>[S 20 (.bsl 3 [iz,iz,iz] [(0,1,(ci 3)),(1,1,(ci 2)),(2,1,(ci 1))]),Cl 21 fn_wage_Share [ci 7,.t 20],M 19 21,X 22 19 0,X 23 19 1,M 4 22,M 5 23]
def r4:Rg:=fun _=>[Cp 25 fn_top_span04 [ci 15,ci 20],Ld 24 true 2 2,S 26 (.eqA false [.i,.i] (.t 24) (.t 25)),M 27 26,Mg 28 27 true 3,SG 29 27 true (.bin .eql (.t 28) (ci 0)),Pa 30 27 29,M 31 30,Mg 32 31 true 4,SG 33 31 true (.bsl 3 [iz,iz,iz] [(0,1,(ci 4)),(1,1,(ci 2)),(2,1,(ci 1))]),SG 34 31 true (.call (fc fn_ref08_Ints) [.t 32,.t 33]),Pa 35 31 34,M 36 35,Mg 37 36 true 5,SG 38 36 true (.bin .eql (.t 37) (ci 0)),Pa 39 36 38,M 40 39,Gp 41 40 true fn_top_awake08 [],Pa 42 40 41,M 0 42]
def ir:IR:=(.seq (.ops r0) (.seq (.ops r1) (.seq (.ops r2) (.seq (.ops r3) (.seq (.ops r4) .ret)))))
def rs:List RV:=[.tmp 0]
theorem e : Entr Pg fn_top_awake12 43 [] ir (RetK rs):=Entr.of (cfg:=cfg) follows Tryz.func34 (by kernel_rfl)
attribute [simp] r0 r1 r2 r3 r4 ir rs
end top_awake12
namespace book_answer
def r0:Rg:=fun _=>[S 5 (.recov),M 2 5]
def r1:Rg:=fun _=>[M 6 2,S 7 (.eqN .i true (.t 6))]
def r2:Rg:=fun _=>[M 9 2,S 10 (.tyAs 185 true (.int .i64 0) (.t 9)),M 8 10,X 11 8 0,X 12 8 1,M 3 11,M 4 12]
def r3:Rg:=fun _=>[M 13 4,S 14 (.un .not (.t 13))]
def r4:Rg:=fun _=>[M 15 2,SN (.panic (.t 15))]
def r5:Rg:=fun _=>[M 16 0,M 17 3,S 18 (.nilck Pg (.t 16)),St 1 18 17]
def ir:IR:=(.seq (.ops r0) (.seq (.ops r1) (.cond (.t 7) (.seq (.ops r2) (.seq (.seq (.ops r3) (.cond (.t 14) (.ops r4) .skip)) (.ops r5))) .skip)))
def rs:List RV:=[]
theorem e : Entr Pg fn_book_answer 19 [] ir (RetK rs):=Entr.of (cfg:=cf0) follows Tryz.func35 (by kernel_rfl)
def irA:IR:=(.seq (.ops r1) (.cond (.t 7) (.seq (.ops r2) (.seq (.seq (.ops r3) (.cond (.t 14) (.ops r4) .skip)) (.ops r5))) .skip))
theorem ans {v p:AVal} {h:Heap} {K:Heap→Prop} (F:Nat) (a:AW ⟨Pg,F,19,false,[]⟩ irA (AnsK K) (upd (upd (initT [p]) 5 v) 2 v) [] h):AAns Pg fn_book_answer v p h K:=
 AAns.of follows Tryz.func35 (show recAns Pg cf0 Tryz.f35=some (irA,19,5,2) by kernel_rfl) (by decide) a
attribute [simp] r0 r1 r2 r3 r4 r5 ir rs irA
end book_answer
namespace book_write_api_Hull
def r0:Rg:=fun _=>[S 2 (.box (.t 0)),S 3 (.box (.t 1)),S 4 (.mv (.c (.str [])))]
def r1:Rg:=fun _=>[Fa 5 3 2,Ld 6 false 1 5,Ld 7 true 2 3,S 8 (.call (.t 6) [.t 7]),Cl 9 fn_book_ask [.t 8,ci 1]]
def r2:Rg:=fun _=>[Fa 10 2 2,Ld 11 false 1 10,Ld 12 true 2 3,S 13 (.call (.t 11) [.t 12]),M 4 13]
def ir:IR:=(.seq (.ops r0) (.seq (.ops r1) (.seq (.ops r2) .ret)))
def rs:List RV:=[.tmp 4]
theorem e : Entr Pg fn_book_write_api_Hull 14 [] ir (RetK rs):=Entr.of (cfg:=cf0) follows Tryz.func36 (by kernel_rfl)
attribute [simp] r0 r1 r2 ir rs
end book_write_api_Hull
namespace book_hulls
def r0:Rg:=fun _=>[S 0 (.alloc [iz,.nils,.nilf,.nilf])]
def r1:Rg:=fun _=>[S 1 (.build [(.str []),.nilf] [(0,1,(.c (.str [104,117,108,108]))),(1,1,(fc fn_book_hulls_1))]),S 2 (.build [(.str []),.nilf] [(0,1,(.c (.str []))),(1,1,(fc fn_book_hulls_2))]),S 3 (.bsl 2 [(.str []),.nilf,(.str []),.nilf] [(0,2,(.t 1)),(2,2,(.t 2))]),S 4 (.build [iz,.nils,.nilf,.nilf] [(0,1,(ci 1)),(1,1,(.t 3)),(2,1,(fc fn_book_hulls_3)),(3,1,(fc fn_book_isHull))]),St 4 0 4]
def ir:IR:=(.seq (.ops r0) (.seq (.ops r1) .ret))
def rs:List RV:=[.cell 0 true 4]
theorem e : Entr Pg fn_book_hulls 5 [] ir (RetK rs):=Entr.of (cfg:=cf0) follows Tryz.func37 (by kernel_rfl)
attribute [simp] r0 r1 ir rs
end book_hulls
namespace book_write_api_Pitch
def r0:Rg:=fun _=>[S 2 (.box (.t 0)),S 3 (.box (.t 1)),S 4 (.mv (.c (.str [])))]
def r1:Rg:=fun _=>[Fa 5 3 2,Ld 6 false 1 5,Ld 7 true 5 3,S 8 (.call (.t 6) [.t 7]),Cl 9 fn_book_ask [.t 8,ci 1]]
def r2:Rg:=fun _=>[Fa 10 2 2,Ld 11 false 1 10,Ld 12 true 5 3,S 13 (.call (.t 11) [.t 12]),M 4 13]
def ir:IR:=(.seq (.ops r0) (.seq (.ops r1) (.seq (.ops r2) .ret)))
def rs:List RV:=[.tmp 4]
theorem e : Entr Pg fn_book_write_api_Pitch 14 [] ir (RetK rs):=Entr.of (cfg:=cf0) follows Tryz.func38 (by kernel_rfl)
attribute [simp] r0 r1 r2 ir rs
end book_write_api_Pitch
namespace book_pitches
def r0:Rg:=fun _=>[S 0 (.alloc [iz,.nils,.nilf,.nilf])]
def r1:Rg:=fun _=>[S 1 (.build [(.str []),.nilf] [(0,1,(.c (.str [112,105,116,99,104,32]))),(1,1,(fc fn_book_pitches_1))]),S 2 (.build [(.str []),.nilf] [(0,1,(.c (.str [102,114,111,115,116]))),(1,1,(fc fn_book_pitches_2))]),S 3 (.build [(.str []),.nilf] [(0,1,(.c (.str [102,105,114,101]))),(1,1,(fc fn_book_pitches_3))]),S 4 (.build [(.str []),.nilf] [(0,1,(.c (.str [112,111,116,32]))),(1,1,(fc fn_book_pitches_4))]),S 5 (.bsl 4 [(.str []),.nilf,(.str []),.nilf,(.str []),.nilf,(.str []),.nilf] [(0,2,(.t 1)),(2,2,(.t 2)),(4,2,(.t 3)),(6,2,(.t 4))]),S 6 (.build [iz,.nils,.nilf,.nilf] [(0,1,(ci 2)),(1,1,(.t 5)),(2,1,(fc fn_book_pitches_5)),(3,1,(fc fn_book_isPitch))]),St 4 0 6]
def ir:IR:=(.seq (.ops r0) (.seq (.ops r1) .ret))
def rs:List RV:=[.cell 0 true 4]
theorem e : Entr Pg fn_book_pitches 7 [] ir (RetK rs):=Entr.of (cfg:=cf0) follows Tryz.func39 (by kernel_rfl)
attribute [simp] r0 r1 ir rs
end book_pitches
namespace book_write_api_Irons
def r0:Rg:=fun _=>[S 2 (.box (.t 0)),S 3 (.box (.t 1)),S 4 (.mv (.c (.str [])))]
def r1:Rg:=fun _=>[Fa 5 3 2,Ld 6 false 1 5,Ld 7 true 5 3,S 8 (.call (.t 6) [.t 7]),Cl 9 fn_book_ask [.t 8,ci 1]]
def r2:Rg:=fun _=>[Fa 10 2 2,Ld 11 false 1 10,Ld 12 true 5 3,S 13 (.call (.t 11) [.t 12]),M 4 13]
def ir:IR:=(.seq (.ops r0) (.seq (.ops r1) (.seq (.ops r2) .ret)))
def rs:List RV:=[.tmp 4]
theorem e : Entr Pg fn_book_write_api_Irons 14 [] ir (RetK rs):=Entr.of (cfg:=cf0) follows Tryz.func40 (by kernel_rfl)
attribute [simp] r0 r1 r2 ir rs
end book_write_api_Irons
namespace book_irons
def r0:Rg:=fun _=>[S 0 (.alloc [iz,.nils,.nilf,.nilf])]
def r1:Rg:=fun _=>[S 1 (.alloc [.nilf]),SN (.store 1 (.t 1) (fc fn_book_reader_number))]
def r2:Rg:=fun _=>[S 2 (.mkF (.func fn_book_irons_1) [] [.t 1]),S 3 (.build [(.str []),.nilf] [(0,1,(.c (.str [105,114,111,110,115,32]))),(1,1,(.t 2))]),S 4 (.mkF (.func fn_book_irons_2) [] [.t 1]),S 5 (.build [(.str []),.nilf] [(0,1,(.c (.str [111,119,110,101,114,32]))),(1,1,(.t 4))]),S 6 (.mkF (.func fn_book_irons_3) [] [.t 1]),S 7 (.build [(.str []),.nilf] [(0,1,(.c (.str [115,116,114,97,107,101]))),(1,1,(.t 6))]),S 8 (.mkF (.func fn_book_irons_4) [] [.t 1]),S 9 (.build [(.str []),.nilf] [(0,1,(.c (.str [99,108,97,105,109,32]))),(1,1,(.t 8))]),S 10 (.bsl 4 [(.str []),.nilf,(.str []),.nilf,(.str []),.nilf,(.str []),.nilf] [(0,2,(.t 3)),(2,2,(.t 5)),(4,2,(.t 7)),(6,2,(.t 9))]),S 11 (.build [iz,.nils,.nilf,.nilf] [(0,1,(ci 1)),(1,1,(.t 10)),(2,1,(fc fn_book_irons_5)),(3,1,(fc fn_book_isIrons))]),St 4 0 11]
def ir:IR:=(.seq (.ops r0) (.seq (.ops r1) (.seq (.ops r2) .ret)))
def rs:List RV:=[.cell 0 true 4]
theorem e : Entr Pg fn_book_irons 12 [] ir (RetK rs):=Entr.of (cfg:=cf0) follows Tryz.func41 (by kernel_rfl)
attribute [simp] r0 r1 r2 ir rs
end book_irons
namespace book_read_api_Hull
def cfg:Cfg:={ pure:=pures,cuts:=[13] }
def r0:Rg:=fun _=>[S 2 (.box (.t 0)),S 4 (.alloc [.nils,.nils])]
def r1:Rg:=fun _=>[M 8 1,S 9 (.lenT (.t 8)),Bi 10 .leq 9 1000,Cl 11 fn_book_ask [.t 10,ci 3]]
def r2:Rg:=fun _=>[S 5 (.alloc [iz]),SN (.store 1 (.t 5) (ci 0))]
def r3:Rg:=fun _=>[M 12 1,Cl 13 fn_book_lines [.t 12]]
def r4:Rg:=fun _=>[M 6 14]
def r5:Rg:=fun _=>[M 15 6,S 16 (.build [(.str [])] [(0,1,(.t 15))]),S 17 (.box (.t 16)),M 7 17]
def r6:Rg:=fun _=>[Ld 18 false 1 5,Fa 19 1 2,Ld 20 false 1 19,Ln 21 20,Bn 22 .lss 18 21,M 23 22,Mg 24 23 true 7,Fg 25 23 true 1 2,Lg 26 23 true false 1 25,Lg 27 23 true false 1 5,SG 28 23 true (.ixS 2 (.t 26) (.t 27)),Fg 29 23 true 0 28,Lg 30 23 true false 1 29,SG 31 23 true (.call (fc fn_book_reader_sees) [.t 24,.t 30]),SG 32 23 true (.un .not (.t 31)),Pa 33 23 32]
def r7:Rg:=fun _=>[Ld 34 false 1 5,Bi 35 .add 34 1,St 1 5 35]
def r8:Rg:=fun _=>[Ld 36 false 1 5,Fa 37 1 2,Ld 38 false 1 37,Ln 39 38,Bn 40 .lss 36 39,Cl 41 fn_book_ask [.t 40,ci 8]]
def r9:Rg:=fun _=>[Fa 42 1 2,Ld 43 false 1 42,Ld 44 false 1 5,Ix 45 2 43 44,Fa 46 1 45,Ld 47 false 1 46,M 48 7,S 49 (.call (.t 47) [.t 4,.t 48])]
def r10:Rg:=fun _=>[M 50 7,S 51 (.nilck Pg (.t 50)),Fa 52 0 51,Ld 53 false 1 52,S 54 (.bin .eql (.t 53) (.c (.str []))),Cl 55 fn_book_ask [.t 54,ci 8]]
def r11:Rg:=fun _=>[Ld 56 false 1 5,Fa 57 0 2,Ld 58 false 1 57,Bn 59 .lss 56 58]
def r12:Rg:=fun _=>[Ld 60 false 1 5,Bi 61 .add 60 1,St 1 5 61]
def r13:Rg:=fun _=>[Fa 62 3 2,Ld 63 false 1 62,Ld 64 true 2 4,S 65 (.call (.t 63) [.t 64]),M 66 65,Fg 67 66 true 2 2,Lg 68 66 true false 1 67,Lg 69 66 true true 2 4,SG 70 66 true (.call (.t 68) [.t 69]),Mg 71 66 true 1,SG 72 66 true (.bin .eql (.t 70) (.t 71)),Pa 73 66 72,Cl 74 fn_book_ask [.t 73,ci 8]]
def r14:Rg:=fun _=>[Ld 75 true 2 4,St 2 4 75]
def ir:IR:=(.seq (.ops r0) (.seq (.ops r1) (.seq (.ops r2) (.seq (.seq (.ops r3) (.block 0 (.rangeF (.t 13) [14] (.ops r4) (.block 1 (.seq (.ops r5) (.seq (.block 2 (.loop (.seq (.seq (.ops r6) (.cond (.t 33) .skip (.exit 2))) (.block 3 (.ops r7))))) (.seq (.ops r8) (.seq (.ops r9) (.seq (.ops r10) (.seq (.ops r11) (.cond (.t 59) (.ops r12) .skip))))))))))) (.seq (.cut (.ops r13)) (.seq (.ops r14) .ret))))))
def rs:List RV:=[.cell 4 true 2]
theorem e : Entr Pg fn_book_read_api_Hull 76 [] ir (RetK rs):=Entr.of (cfg:=cfg) follows Tryz.func42 (by kernel_rfl)
attribute [simp] r0 r1 r2 r3 r4 r5 r6 r7 r8 r9 r10 r11 r12 r13 r14 ir rs
end book_read_api_Hull
namespace book_read_api_Pitch
def cfg:Cfg:={ pure:=pures,cuts:=[13] }
def r0:Rg:=fun _=>[S 2 (.box (.t 0)),S 4 (.alloc [iz,iz,iz,.nils,.nils])]
def r1:Rg:=fun _=>[M 8 1,S 9 (.lenT (.t 8)),Bi 10 .leq 9 1000,Cl 11 fn_book_ask [.t 10,ci 3]]
def r2:Rg:=fun _=>[S 5 (.alloc [iz]),SN (.store 1 (.t 5) (ci 0))]
def r3:Rg:=fun _=>[M 12 1,Cl 13 fn_book_lines [.t 12]]
def r4:Rg:=fun _=>[M 6 14]
def r5:Rg:=fun _=>[M 15 6,S 16 (.build [(.str [])] [(0,1,(.t 15))]),S 17 (.box (.t 16)),M 7 17]
def r6:Rg:=fun _=>[Ld 18 false 1 5,Fa 19 1 2,Ld 20 false 1 19,Ln 21 20,Bn 22 .lss 18 21,M 23 22,Mg 24 23 true 7,Fg 25 23 true 1 2,Lg 26 23 true false 1 25,Lg 27 23 true false 1 5,SG 28 23 true (.ixS 2 (.t 26) (.t 27)),Fg 29 23 true 0 28,Lg 30 23 true false 1 29,SG 31 23 true (.call (fc fn_book_reader_sees) [.t 24,.t 30]),SG 32 23 true (.un .not (.t 31)),Pa 33 23 32]
def r7:Rg:=fun _=>[Ld 34 false 1 5,Bi 35 .add 34 1,St 1 5 35]
def r8:Rg:=fun _=>[Ld 36 false 1 5,Fa 37 1 2,Ld 38 false 1 37,Ln 39 38,Bn 40 .lss 36 39,Cl 41 fn_book_ask [.t 40,ci 8]]
def r9:Rg:=fun _=>[Fa 42 1 2,Ld 43 false 1 42,Ld 44 false 1 5,Ix 45 2 43 44,Fa 46 1 45,Ld 47 false 1 46,M 48 7,S 49 (.call (.t 47) [.t 4,.t 48])]
def r10:Rg:=fun _=>[M 50 7,S 51 (.nilck Pg (.t 50)),Fa 52 0 51,Ld 53 false 1 52,S 54 (.bin .eql (.t 53) (.c (.str []))),Cl 55 fn_book_ask [.t 54,ci 8]]
def r11:Rg:=fun _=>[Ld 56 false 1 5,Fa 57 0 2,Ld 58 false 1 57,Bn 59 .lss 56 58]
def r12:Rg:=fun _=>[Ld 60 false 1 5,Bi 61 .add 60 1,St 1 5 61]
def r13:Rg:=fun _=>[Fa 62 3 2,Ld 63 false 1 62,Ld 64 true 5 4,S 65 (.call (.t 63) [.t 64]),M 66 65,Fg 67 66 true 2 2,Lg 68 66 true false 1 67,Lg 69 66 true true 5 4,SG 70 66 true (.call (.t 68) [.t 69]),Mg 71 66 true 1,SG 72 66 true (.bin .eql (.t 70) (.t 71)),Pa 73 66 72,Cl 74 fn_book_ask [.t 73,ci 8]]
def r14:Rg:=fun _=>[Ld 75 true 5 4,St 5 4 75]
def ir:IR:=(.seq (.ops r0) (.seq (.ops r1) (.seq (.ops r2) (.seq (.seq (.ops r3) (.block 0 (.rangeF (.t 13) [14] (.ops r4) (.block 1 (.seq (.ops r5) (.seq (.block 2 (.loop (.seq (.seq (.ops r6) (.cond (.t 33) .skip (.exit 2))) (.block 3 (.ops r7))))) (.seq (.ops r8) (.seq (.ops r9) (.seq (.ops r10) (.seq (.ops r11) (.cond (.t 59) (.ops r12) .skip))))))))))) (.seq (.cut (.ops r13)) (.seq (.ops r14) .ret))))))
def rs:List RV:=[.cell 4 true 5]
theorem e : Entr Pg fn_book_read_api_Pitch 76 [] ir (RetK rs):=Entr.of (cfg:=cfg) follows Tryz.func43 (by kernel_rfl)
attribute [simp] r0 r1 r2 r3 r4 r5 r6 r7 r8 r9 r10 r11 r12 r13 r14 ir rs
end book_read_api_Pitch
namespace book_read_api_Irons
def cfg:Cfg:={ pure:=pures,cuts:=[13] }
def r0:Rg:=fun _=>[S 2 (.box (.t 0)),S 4 (.alloc [iz,.nils,.nils,.nils,.nils])]
def r1:Rg:=fun _=>[M 8 1,S 9 (.lenT (.t 8)),Bi 10 .leq 9 1000,Cl 11 fn_book_ask [.t 10,ci 3]]
def r2:Rg:=fun _=>[S 5 (.alloc [iz]),SN (.store 1 (.t 5) (ci 0))]
def r3:Rg:=fun _=>[M 12 1,Cl 13 fn_book_lines [.t 12]]
def r4:Rg:=fun _=>[M 6 14]
def r5:Rg:=fun _=>[M 15 6,S 16 (.build [(.str [])] [(0,1,(.t 15))]),S 17 (.box (.t 16)),M 7 17]
def r6:Rg:=fun _=>[Ld 18 false 1 5,Fa 19 1 2,Ld 20 false 1 19,Ln 21 20,Bn 22 .lss 18 21,M 23 22,Mg 24 23 true 7,Fg 25 23 true 1 2,Lg 26 23 true false 1 25,Lg 27 23 true false 1 5,SG 28 23 true (.ixS 2 (.t 26) (.t 27)),Fg 29 23 true 0 28,Lg 30 23 true false 1 29,SG 31 23 true (.call (fc fn_book_reader_sees) [.t 24,.t 30]),SG 32 23 true (.un .not (.t 31)),Pa 33 23 32]
def r7:Rg:=fun _=>[Ld 34 false 1 5,Bi 35 .add 34 1,St 1 5 35]
def r8:Rg:=fun _=>[Ld 36 false 1 5,Fa 37 1 2,Ld 38 false 1 37,Ln 39 38,Bn 40 .lss 36 39,Cl 41 fn_book_ask [.t 40,ci 8]]
def r9:Rg:=fun _=>[Fa 42 1 2,Ld 43 false 1 42,Ld 44 false 1 5,Ix 45 2 43 44,Fa 46 1 45,Ld 47 false 1 46,M 48 7,S 49 (.call (.t 47) [.t 4,.t 48])]
def r10:Rg:=fun _=>[M 50 7,S 51 (.nilck Pg (.t 50)),Fa 52 0 51,Ld 53 false 1 52,S 54 (.bin .eql (.t 53) (.c (.str []))),Cl 55 fn_book_ask [.t 54,ci 8]]
def r11:Rg:=fun _=>[Ld 56 false 1 5,Fa 57 0 2,Ld 58 false 1 57,Bn 59 .lss 56 58]
def r12:Rg:=fun _=>[Ld 60 false 1 5,Bi 61 .add 60 1,St 1 5 61]
def r13:Rg:=fun _=>[Fa 62 3 2,Ld 63 false 1 62,Ld 64 true 5 4,S 65 (.call (.t 63) [.t 64]),M 66 65,Fg 67 66 true 2 2,Lg 68 66 true false 1 67,Lg 69 66 true true 5 4,SG 70 66 true (.call (.t 68) [.t 69]),Mg 71 66 true 1,SG 72 66 true (.bin .eql (.t 70) (.t 71)),Pa 73 66 72,Cl 74 fn_book_ask [.t 73,ci 8]]
def r14:Rg:=fun _=>[Ld 75 true 5 4,St 5 4 75]
def ir:IR:=(.seq (.ops r0) (.seq (.ops r1) (.seq (.ops r2) (.seq (.seq (.ops r3) (.block 0 (.rangeF (.t 13) [14] (.ops r4) (.block 1 (.seq (.ops r5) (.seq (.block 2 (.loop (.seq (.seq (.ops r6) (.cond (.t 33) .skip (.exit 2))) (.block 3 (.ops r7))))) (.seq (.ops r8) (.seq (.ops r9) (.seq (.ops r10) (.seq (.ops r11) (.cond (.t 59) (.ops r12) .skip))))))))))) (.seq (.cut (.ops r13)) (.seq (.ops r14) .ret))))))
def rs:List RV:=[.cell 4 true 5]
theorem e : Entr Pg fn_book_read_api_Irons 76 [] ir (RetK rs):=Entr.of (cfg:=cfg) follows Tryz.func44 (by kernel_rfl)
attribute [simp] r0 r1 r2 r3 r4 r5 r6 r7 r8 r9 r10 r11 r12 r13 r14 ir rs
end book_read_api_Irons
namespace leak_Flow_1
def r0:Rg:=fun _=>[S 1 (.recov),Cl 2 fn_leak_said [.t 1,.t 0]]
def ir:IR:=(.ops r0)
def rs:List RV:=[]
theorem e : Entr Pg fn_leak_Flow_1 3 [] ir (RetK rs):=Entr.of (cfg:=cf0) follows Tryz.func45 (by kernel_rfl)
theorem recClo : RecClo Pg fn_leak_Flow_1 fn_leak_said:=⟨_,Tryz.func45,by kernel_rfl⟩
attribute [simp] r0 ir rs
end leak_Flow_1
namespace leak_said
def r0:Rg:=fun _=>[M 6 0,S 7 (.eqN .i false (.t 6))]
def r1:Rg:=fun _=>[M 9 0,S 10 (.tyAs 215 true (.agg [iz]) (.t 9)),M 8 10,X 11 8 0,X 12 8 1,S 4 (.alloc [iz]),St 1 4 11,M 5 12]
def r2:Rg:=fun _=>[M 13 5,S 14 (.un .not (.t 13))]
def r3:Rg:=fun _=>[M 15 0,SN (.panic (.t 15))]
def r4:Rg:=fun _=>[M 16 1,Fa 17 0 4,Ld 18 false 1 17,S 19 (.nilck Pg (.t 16)),St 1 19 18]
def ir:IR:=(.seq (.seq (.ops r0) (.cond (.t 7) .ret .skip)) (.seq (.ops r1) (.seq (.seq (.ops r2) (.cond (.t 14) (.ops r3) .skip)) (.ops r4))))
def rs:List RV:=[]
theorem e : Entr Pg fn_leak_said 20 [] ir (RetK rs):=Entr.of (cfg:=cf0) follows Tryz.func46 (by kernel_rfl)
attribute [simp] r0 r1 r2 r3 r4 ir rs
end leak_said
namespace leak_open
def cfg:Cfg:={ pure:=pures,draws:=[(7,[q 0,q 1,q 2,q 3,q 5,q 4,q 6,⟨7,true,[],[]⟩,q 8,q 9,q 10,q 11])] }
def r0:Rg:=fun _=>[S 2 (.box (.t 0)),S 4 (.mv (.c .nilp))]
def r1:Rg:=fun _=>[Fa 10 0 2,Ld 11 false 1 10,Ln 12 11,Cp 13 fn_leak_within [.t 12,ci 1,ci 6],M 14 13,Fg 15 14 true 1 2,Lg 16 14 true false 1 15,SG 17 14 true (.len (.t 16)),SG 18 14 true (.bin .leq (.t 17) (ci 8)),Pa 19 14 18,Cl 20 fn_leak_want [.t 19,ci 1]]
def r2:Rg:=fun _=>[Ld 21 true 2 2,S 22 (.mkmap),S 23 (.build [.nils,.nils,.nils,.nilm] [(0,2,(.t 21)),(3,1,(.t 22))]),S 24 (.box (.t 23)),M 5 24]
def r3:Rg:=fun _=>[Fa 25 0 2,Ld 26 false 1 25,Ln 27 26,MI 28 0]
def r4:Rg:=fun _=>[Bn 29 .lss 28 27]
def r5:Rg:=fun _=>[Ix 30 3 26 28,Ld 31 true 3 30,S 7 (.alloc [iz,iz,iz]),St 3 7 31]
def r6:Rg:=fun _=>[Fa 32 0 7,Ld 33 false 1 32,Cp 34 fn_leak_within [.t 33,ci 0,ci 12],M 35 34,Fg 36 35 true 1 7,Lg 37 35 true false 1 36,Gp 38 35 true fn_leak_within [.t 37,(ci (-1)),ci 1],Pa 39 35 38,M 40 39,Fg 41 40 true 2 7,Lg 42 40 true false 1 41,Gp 43 40 true fn_leak_within [.t 42,ci 0,ci 4],Pa 44 40 43,Cl 45 fn_leak_want [.t 44,ci 1]]
def r7:Rg:=fun _=>[M 46 5,M 47 5,S 48 (.nilck Pg (.t 47)),Fa 49 2 48,Fa 51 2 7,Ld 50 false 1 49,Ld 52 false 1 51,SD (some 53) (.bsl 1 [iz] [(0,1,(.t 52))]) true [] [],S 54 (.app 1 8 (.t 50) (.t 53)),S 55 (.nilck Pg (.t 46)),Fa 56 2 55,St 1 56 54]
def r8:Rg:=fun _=>[Bi 57 .add 28 1,M 28 57]
def r9:Rg:=fun _=>[Fa 58 1 2,Ld 59 false 1 58,Ln 60 59,MI 61 0]
def r10:Rg:=fun _=>[Bn 62 .lss 61 60]
def r11:Rg:=fun _=>[Ix 63 4 59 61,Ld 64 true 4 63,S 9 (.alloc [iz,iz,iz,iz]),St 4 9 64]
def r12:Rg:=fun _=>[Fa 65 0 9,Ld 66 false 1 65,Fa 67 1 9,Ld 68 false 1 67,S 69 (.build [iz,iz] [(0,1,(.t 66)),(1,1,(.t 68))]),Cp 70 fn_leak_place_isPlace [.t 69],M 71 70,Fg 72 71 true 2 9,Fg 73 71 true 0 72,Lg 74 71 true false 1 73,Fg 75 71 true 2 9,Fg 76 71 true 1 75,Lg 77 71 true false 1 76,Gp 78 71 true fn_leak_within [.t 74,ci 0,.t 77],Pa 79 71 78,M 80 79,Fg 81 80 true 2 9,Fg 82 80 true 1 81,Lg 83 80 true false 1 82,SG 84 80 true (.bin .leq (.t 83) (ci 24)),Pa 85 80 84,Cl 86 fn_leak_want [.t 85,ci 1]]
def r13:Rg:=fun _=>[Bi 87 .add 61 1,M 61 87]
def r14:Rg:=fun _=>[M 88 1,Cl 89 fn_leak_want [.t 88,ci 2]]
def r15:Rg:=fun _=>[M 90 5,M 4 90]
def ir:IR:=(.seq (.ops r0) (.seq (.ops r1) (.seq (.ops r2) (.seq (.seq (.ops r3) (.block 0 (.loop (.seq (.ops r4) (.seq (.cond (.t 29) .skip (.exit 0)) (.seq (.block 1 (.seq (.ops r5) (.seq (.ops r6) (.ops r7)))) (.ops r8))))))) (.seq (.seq (.ops r9) (.block 2 (.loop (.seq (.ops r10) (.seq (.cond (.t 62) .skip (.exit 2)) (.seq (.block 3 (.seq (.ops r11) (.ops r12))) (.ops r13))))))) (.seq (.ops r14) (.seq (.ops r15) .ret)))))))
def rs:List RV:=[.tmp 4]
theorem e : Entr Pg fn_leak_open 91 [] ir (RetK rs):=Entr.of (cfg:=cfg) follows Tryz.func47 (by kernel_rfl)
attribute [simp] r0 r1 r2 r3 r4 r5 r6 r7 r8 r9 r10 r11 r12 r13 r14 r15 ir rs
end leak_open
namespace leak_place_isPlace
def r0:Rg:=fun _=>[S 1 (.box (.t 0)),S 2 (.mv (.c (.bool false)))]
def r1:Rg:=fun _=>[Fa 3 0 1,Ld 4 false 1 3,Cp 5 fn_leak_within [.t 4,ci 0,ci 12],M 6 5,Fg 7 6 true 1 1,Lg 8 6 true false 1 7,Gp 9 6 true fn_leak_within [.t 8,(ci (-3)),ci 3],Pa 10 6 9,M 2 10]
def ir:IR:=(.seq (.ops r0) (.seq (.ops r1) .ret))
def rs:List RV:=[.tmp 2]
theorem e : Entr Pg fn_leak_place_isPlace 11 [] ir (RetK rs):=Entr.of (cfg:=cf0) follows Tryz.func48 (by kernel_rfl)
attribute [simp] r0 r1 ir rs
end leak_place_isPlace
namespace leak_hull_total
def r0:Rg:=fun _=>[S 3 (.box (.t 1)),S 4 (.alloc [iz,iz])]
def r1:Rg:=fun _=>[S 5 (.alloc [.nilf]),SN (.store 1 (.t 5) (fc fn_leak_inflow_sum))]
def r2:Rg:=fun _=>[M 6 0,Cl 7 fn_leak_hull_truths [.t 6],S 8 (.mkF (.func fn_leak_hull_total_1) [] [.t 5,.t 3]),Cl 9 fn_leak_sums [.t 7,.t 8],St 2 4 9]
def ir:IR:=(.seq (.ops r0) (.seq (.ops r1) (.seq (.ops r2) .ret)))
def rs:List RV:=[.cell 4 true 2]
theorem e : Entr Pg fn_leak_hull_total 10 [] ir (RetK rs):=Entr.of (cfg:=cf0) follows Tryz.func49 (by kernel_rfl)
attribute [simp] r0 r1 r2 ir rs
end leak_hull_total
namespace leak_hull_wet
def cfg:Cfg:={ pure:=pures,draws:=[(1,[q 0,q 1,q 2,q 3,q 4,q 5,q 6,q 7,q 8,q 9,q 10]),(11,[q 0,q 1,q 2,q 5,q 3,q 4,q 6])] }
def r0:Rg:=fun _=>[S 3 (.box (.t 1)),S 4 (.mv (.c (.int .u64 0)))]
def r1:Rg:=fun _=>[M 11 0,S 12 (.nilck Pg (.t 11)),Fa 13 3 12,Ld 14 false 1 13,Ld 15 true 2 3,S 16 (.lookup (true,[.i,.i]) true (.int .u64 0) (.t 14) (.t 15)),M 10 16,X 17 10 0,X 18 10 1,M 5 17,M 6 18]
def r2:Rg:=fun _=>[M 19 6]
def r3:Rg:=fun _=>[M 20 5,M 4 20]
def r4:Rg:=fun _=>[S 7 (.mv (.c (.int .u64 0)))]
def r5:Rg:=fun _=>[M 21 0,S 22 (.nilck Pg (.t 21)),Fa 23 0 22,Fa 24 0 23,Ld 25 false 1 24,Ln 26 25,MI 27 0]
def r6:Rg:=fun _=>[Bn 28 .lss 27 26]
def r7:Rg:=fun _=>[M 29 27,Ix 30 3 25 27,Ld 31 true 3 30,S 9 (.alloc [iz,iz,iz]),M 8 29,St 3 9 31]
def r8:Rg:=fun _=>[Fa 32 0 9,Ld 33 false 1 32,Fa 34 0 3,Ld 35 false 1 34,Fa 36 1 9,Ld 37 false 1 36,Fa 38 1 3,Ld 39 false 1 38,Bn 40 .mul 37 39,Bn 41 .add 35 40,Bn 42 .leq 33 41]
def r9:Rg:=fun _=>[M 43 7,M 44 8,S 45 (.bin .shl (.c (.int .u64 1)) (.t 44)),Bn 46 .or 43 45,M 7 46]
def r10:Rg:=fun _=>[Bi 47 .add 27 1,M 27 47]
def r11:Rg:=fun _=>[M 48 0,S 49 (.nilck Pg (.t 48)),Fa 50 3 49,M 53 7,Ld 51 false 1 50,Ld 52 true 2 3,SN (.mapU (true,[.i,.i]) (.t 51) (.t 52) (.t 53))]
def r12:Rg:=fun _=>[M 54 7,M 4 54]
def ir:IR:=(.seq (.ops r0) (.seq (.seq (.ops r1) (.seq (.ops r2) (.cond (.t 19) (.seq (.ops r3) .ret) .skip))) (.seq (.ops r4) (.seq (.seq (.ops r5) (.block 0 (.loop (.seq (.ops r6) (.seq (.cond (.t 28) .skip (.exit 0)) (.seq (.block 1 (.seq (.ops r7) (.seq (.ops r8) (.cond (.t 42) (.ops r9) .skip)))) (.ops r10))))))) (.seq (.ops r11) (.seq (.ops r12) .ret))))))
def rs:List RV:=[.tmp 4]
theorem e : Entr Pg fn_leak_hull_wet 55 [] ir (RetK rs):=Entr.of (cfg:=cfg) follows Tryz.func50 (by kernel_rfl)
attribute [simp] r0 r1 r2 r3 r4 r5 r6 r7 r8 r9 r10 r11 r12 ir rs
end leak_hull_wet
namespace leak_Leaks_1
def r0:Rg:=fun _=>[S 1 (.recov),Cl 2 fn_leak_said [.t 1,.t 0]]
def ir:IR:=(.ops r0)
def rs:List RV:=[]
theorem e : Entr Pg fn_leak_Leaks_1 3 [] ir (RetK rs):=Entr.of (cfg:=cf0) follows Tryz.func51 (by kernel_rfl)
theorem recClo : RecClo Pg fn_leak_Leaks_1 fn_leak_said:=⟨_,Tryz.func51,by kernel_rfl⟩
attribute [simp] r0 ir rs
end leak_Leaks_1
namespace leak_hull_truths
def r0:Rg:=fun _=>[S 2 (.mv (.c .nils))]
def r1:Rg:=fun _=>[M 4 0,M 5 0,Cl 6 fn_leak_hull_every [.t 5],Cl 7 fn_leak_hull_inflows [.t 4,.t 6],Cl 8 fn_slices_Collect_leak_inflow [.t 7],M 3 8]
def r2:Rg:=fun _=>[M 9 3,Ln 10 9,Bi 11 .gtr 10 0,Cl 12 fn_leak_want [.t 11,ci 10]]
def r3:Rg:=fun _=>[M 13 3,M 2 13]
def ir:IR:=(.seq (.ops r0) (.seq (.ops r1) (.seq (.ops r2) (.seq (.ops r3) .ret))))
def rs:List RV:=[.tmp 2]
theorem e : Entr Pg fn_leak_hull_truths 14 [] ir (RetK rs):=Entr.of (cfg:=cf0) follows Tryz.func52 (by kernel_rfl)
attribute [simp] r0 r1 r2 r3 ir rs
end leak_hull_truths
namespace leak_inflow_leaks
def r0:Rg:=fun _=>[S 1 (.box (.t 0)),S 2 (.mv (.c (.int .u64 0)))]
def r1:Rg:=fun _=>[Ld 5 true 6 1,MI 6 0]
def r2:Rg:=fun _=>[Bi 7 .lss 6 6]
def r3:Rg:=fun _=>[M 8 6,S 9 (.ixV 6 1 false (.t 5) (.t 6)),M 3 8,M 4 9]
def r4:Rg:=fun _=>[M 10 4,Bi 11 .gtr 10 0]
def r5:Rg:=fun _=>[M 12 2,M 13 3,S 14 (.bin .shl (.c (.int .u64 1)) (.t 13)),Bn 15 .or 12 14,M 2 15]
def r6:Rg:=fun _=>[Bi 16 .add 6 1,M 6 16]
def r7:Rg:=fun _=>[M 17 2,M 2 17]
def ir:IR:=(.seq (.ops r0) (.seq (.seq (.ops r1) (.block 0 (.loop (.seq (.ops r2) (.seq (.cond (.t 7) .skip (.exit 0)) (.seq (.block 1 (.seq (.ops r3) (.seq (.ops r4) (.cond (.t 11) (.ops r5) .skip)))) (.ops r6))))))) (.seq (.ops r7) .ret)))
def rs:List RV:=[.tmp 2]
theorem e : Entr Pg fn_leak_inflow_leaks 18 [] ir (RetK rs):=Entr.of (cfg:=cf0) follows Tryz.func53 (by kernel_rfl)
attribute [simp] r0 r1 r2 r3 r4 r5 r6 r7 ir rs
end leak_inflow_leaks
namespace leak_Rate_1
def r0:Rg:=fun _=>[S 1 (.recov),Cl 2 fn_leak_said [.t 1,.t 0]]
def ir:IR:=(.ops r0)
def rs:List RV:=[]
theorem e : Entr Pg fn_leak_Rate_1 3 [] ir (RetK rs):=Entr.of (cfg:=cf0) follows Tryz.func54 (by kernel_rfl)
theorem recClo : RecClo Pg fn_leak_Rate_1 fn_leak_said:=⟨_,Tryz.func54,by kernel_rfl⟩
attribute [simp] r0 ir rs
end leak_Rate_1
namespace leak_within
def r0:Rg:=fun _=>[S 6 (.mv (.c (.bool false)))]
def r1:Rg:=fun _=>[M 7 1,M 8 0,Bn 9 .leq 7 8,M 10 9,Mg 11 10 true 0,Mg 12 10 true 2,SG 13 10 true (.bin .leq (.t 11) (.t 12)),Pa 14 10 13,M 6 14]
def ir:IR:=(.seq (.ops r0) (.seq (.ops r1) .ret))
def rs:List RV:=[.tmp 6]
theorem e : Entr Pg fn_leak_within 15 [] ir (RetK rs):=Entr.of (cfg:=cf0) follows Tryz.func55 (by kernel_rfl)
attribute [simp] r0 r1 ir rs
end leak_within
namespace pitch_answer
def r0:Rg:=fun _=>[S 5 (.recov),M 2 5]
def r1:Rg:=fun _=>[M 6 2,S 7 (.eqN .i true (.t 6))]
def r2:Rg:=fun _=>[M 9 2,S 10 (.tyAs 230 true (.int .i64 0) (.t 9)),M 8 10,X 11 8 0,X 12 8 1,M 3 11,M 4 12]
def r3:Rg:=fun _=>[M 13 4,S 14 (.un .not (.t 13))]
def r4:Rg:=fun _=>[M 15 2,SN (.panic (.t 15))]
def r5:Rg:=fun _=>[M 16 0,M 17 3,S 18 (.nilck Pg (.t 16)),St 1 18 17]
def ir:IR:=(.seq (.ops r0) (.seq (.ops r1) (.cond (.t 7) (.seq (.ops r2) (.seq (.seq (.ops r3) (.cond (.t 14) (.ops r4) .skip)) (.ops r5))) .skip)))
def rs:List RV:=[]
theorem e : Entr Pg fn_pitch_answer 19 [] ir (RetK rs):=Entr.of (cfg:=cf0) follows Tryz.func56 (by kernel_rfl)
def irA:IR:=(.seq (.ops r1) (.cond (.t 7) (.seq (.ops r2) (.seq (.seq (.ops r3) (.cond (.t 14) (.ops r4) .skip)) (.ops r5))) .skip))
theorem ans {v p:AVal} {h:Heap} {K:Heap→Prop} (F:Nat) (a:AW ⟨Pg,F,19,false,[]⟩ irA (AnsK K) (upd (upd (initT [p]) 5 v) 2 v) [] h):AAns Pg fn_pitch_answer v p h K:=
 AAns.of follows Tryz.func56 (show recAns Pg cf0 Tryz.f56=some (irA,19,5,2) by kernel_rfl) (by decide) a
attribute [simp] r0 r1 r2 r3 r4 r5 ir rs irA
end pitch_answer
namespace pitch_open
def cfg:Cfg:={ pure:=pures,cuts:=[2,15],draws:=[(14,[q 1,q 4,q 7,q 0,q 2,q 3,q 5,q 6,q 8,q 9,⟨10,true,[],[]⟩,⟨11,false,[],[0,2]⟩,q 12,q 13,q 14])] }
def r0:Rg:=fun _=>[S 2 (.box (.t 0)),S 4 (.mv (.c .nilp))]
def r1:Rg:=fun _=>[Fa 11 0 2,Ld 12 false 1 11,Cp 13 fn_pitch_within [.t 12,ci 0,ci 12],M 14 13,Fg 15 14 true 3 2,Lg 16 14 true false 1 15,SG 17 14 true (.len (.t 16)),SG 18 14 true (.bin .leq (.t 17) (ci 3)),Pa 19 14 18,M 20 19,Fg 21 20 true 4 2,Lg 22 20 true false 1 21,SG 23 20 true (.len (.t 22)),SG 24 20 true (.bin .leq (.t 23) (ci 4)),Pa 25 20 24,Cl 26 fn_pitch_ask [.t 25,ci 1]]
def r2:Rg:=fun _=>[S 27 (.mkF (.func fn_pitch_open_1) [] [.t 2]),M 5 27]
def r3:Rg:=fun _=>[M 28 5,Fa 29 1 2,Ld 30 false 1 29,S 31 (.call (.t 28) [.t 30]),M 32 31,Mg 33 32 true 5,Fg 34 32 true 2 2,Lg 35 32 true false 1 34,SG 36 32 true (.call (.t 33) [.t 35]),Pa 37 32 36,Cl 38 fn_pitch_ask [.t 37,ci 1]]
def r4:Rg:=fun _=>[Fa 39 3 2,Ld 40 false 1 39,Ln 41 40,MI 42 0]
def r5:Rg:=fun _=>[Bn 43 .lss 42 41]
def r6:Rg:=fun _=>[Ix 44 1 40 42,Ld 45 false 1 44,M 7 45]
def r7:Rg:=fun _=>[M 46 5,M 47 7,S 48 (.call (.t 46) [.t 47]),Cl 49 fn_pitch_ask [.t 48,ci 1]]
def r8:Rg:=fun _=>[Bi 50 .add 42 1,M 42 50]
def r9:Rg:=fun _=>[Fa 51 4 2,Ld 52 false 1 51,Ln 53 52,MI 54 0]
def r10:Rg:=fun _=>[Bn 55 .lss 54 53]
def r11:Rg:=fun _=>[Ix 56 3 52 54,Ld 57 true 3 56,S 9 (.alloc [iz,iz,iz]),St 3 9 57]
def r12:Rg:=fun _=>[Fa 58 0 9,Ld 59 false 1 58,Cp 60 fn_pitch_within [.t 59,ci 1,ci 12],M 61 60,Fg 62 61 true 1 9,Lg 63 61 true false 1 62,Fg 64 61 true 0 2,Lg 65 61 true false 1 64,Gp 66 61 true fn_pitch_within [.t 63,ci 0,.t 65],Pa 67 61 66,M 68 67,Fg 69 68 true 2 9,Lg 70 68 true false 1 69,Fg 71 68 true 0 2,Lg 72 68 true false 1 71,Gp 73 68 true fn_pitch_within [.t 70,ci 0,.t 72],Pa 74 68 73,Cl 75 fn_pitch_ask [.t 74,ci 1]]
def r13:Rg:=fun _=>[Bi 76 .add 54 1,M 54 76]
def r14:Rg:=fun _=>[Fa 78 1 2,Fa 81 1 2,Fa 84 2 2,Ld 77 true 5 2,Ld 79 false 1 78,S 80 (.conv .u64 (.t 79)),Ld 82 false 1 81,S 83 (.conv .u64 (.t 82)),Ld 85 false 1 84,S 86 (.conv .u64 (.t 85)),SD (some 87) (.bsl 2 [(.int .u64 0),(.int .u64 0)] [(0,1,(.t 83)),(1,1,(.t 86))]) true [] [],SD (some 88) (.call (fc fn_pitch_joined) [.t 87]) false [] [I 77 (.load true 5 (.t 2)),I 79 (.load false 1 (.t 78))],S 89 (.build [iz,iz,iz,.nils,.nils,(.int .u64 0),(.int .u64 0)] [(0,5,(.t 77)),(5,1,(.t 80)),(6,1,(.t 88))]),S 90 (.box (.t 89)),M 10 90]
def r15:Rg:=fun _=>[M 91 1,M 92 10,S 93 (.call (.t 91) [.t 92]),Cl 94 fn_pitch_ask [.t 93,ci 2]]
def r16:Rg:=fun _=>[M 95 10,M 4 95]
def ir:IR:=(.seq (.ops r0) (.seq (.ops r1) (.seq (.cut (.ops r2)) (.seq (.ops r3) (.seq (.seq (.ops r4) (.block 0 (.loop (.seq (.ops r5) (.seq (.cond (.t 43) .skip (.exit 0)) (.seq (.block 1 (.seq (.ops r6) (.ops r7))) (.ops r8))))))) (.seq (.seq (.ops r9) (.block 2 (.loop (.seq (.ops r10) (.seq (.cond (.t 55) .skip (.exit 2)) (.seq (.block 3 (.seq (.ops r11) (.ops r12))) (.ops r13))))))) (.seq (.ops r14) (.seq (.cut (.ops r15)) (.seq (.ops r16) .ret)))))))))
def rs:List RV:=[.tmp 4]
theorem e : Entr Pg fn_pitch_open 96 [] ir (RetK rs):=Entr.of (cfg:=cfg) follows Tryz.func57 (by kernel_rfl)
attribute [simp] r0 r1 r2 r3 r4 r5 r6 r7 r8 r9 r10 r11 r12 r13 r14 r15 r16 ir rs
end pitch_open
namespace pitch_always
def r0:Rg:=fun _=>[S 2 (.mv (.c (.bool false)))]
def r1:Rg:=fun _=>[S 2 (.mv (.c (.bool true)))]
def ir:IR:=(.seq (.ops r0) (.seq (.ops r1) .ret))
def rs:List RV:=[.tmp 2]
theorem e : Entr Pg fn_pitch_always 3 [] ir (RetK rs):=Entr.of (cfg:=cf0) follows Tryz.func58 (by kernel_rfl)
attribute [simp] r0 r1 ir rs
end pitch_always
namespace pitch_pitch_ways
def r0:Rg:=fun _=>[MI 2 0]
def r1:Rg:=fun _=>[M 6 0,S 7 (.build [iz,.nilf,.nilf] [(0,1,(ci 1)),(1,1,(fc fn_pitch_rest_int)),(2,1,(fc fn_pitch_pitch_ways_1))]),Cl 8 fn_pitch_tell_int [.t 6,.t 7],S 9 (.build [iz,(.int .u64 0),(.int .u64 0),(.int .u64 0)] []),S 10 (.call (.t 8) [.t 9]),M 5 10,X 11 5 0,X 12 5 1,M 3 11,M 4 12]
def r2:Rg:=fun _=>[M 13 3,M 2 13]
def ir:IR:=(.seq (.ops r0) (.seq (.ops r1) (.seq (.ops r2) .ret)))
def rs:List RV:=[.tmp 2]
theorem e : Entr Pg fn_pitch_pitch_ways 14 [] ir (RetK rs):=Entr.of (cfg:=cf0) follows Tryz.func59 (by kernel_rfl)
attribute [simp] r0 r1 r2 ir rs
end pitch_pitch_ways
namespace pitch_Best_1
def cfg:Cfg:={ pure:=pures,draws:=[(1,[q 0,q 2,q 3,q 1,q 4,q 5,q 6,q 7,q 8,q 9,q 10,q 11])] }
def r0:Rg:=fun _=>[S 5 (.box (.t 1)),MI 7 0]
def r1:Rg:=fun _=>[M 8 2,M 10 0,Fa 11 1 5,Ld 9 false 1 3,Ld 12 false 1 11,Ld 13 false 1 3,S 14 (.nilck Pg (.t 13)),Fa 15 6 14,Ld 16 false 1 15,Cp 17 fn_pitch_pitch_hot [.t 9,.t 10,.t 12,.t 16],S 18 (.mm true [.t 8,.t 17]),M 7 18]
def ir:IR:=(.seq (.ops r0) (.seq (.ops r1) .ret))
def rs:List RV:=[.tmp 7]
theorem e : Entr Pg fn_pitch_Best_1 19 [] ir (RetK rs):=Entr.of (cfg:=cfg) follows Tryz.func60 (by kernel_rfl)
attribute [simp] r0 r1 ir rs
end pitch_Best_1
namespace pitch_pitch_hot
def cfg:Cfg:={ pure:=pures,draws:=[(6,[q 0,q 1,q 4,q 5,q 6,q 7,q 10,q 11,q 12,q 13,q 15,q 14,q 16,q 17,q 18,⟨2,false,[],[14,18]⟩,q 3,⟨8,false,[],[14,18]⟩,q 9,q 19])] }
def r0:Rg:=fun _=>[MI 8 0]
def r1:Rg:=fun _=>[S 9 (.mv (fc fn_pitch_hours_count))]
def r2:Rg:=fun _=>[M 12 2,Bi 13 .add 12 1,M 10 13]
def r3:Rg:=fun _=>[M 14 10,M 15 0,S 16 (.nilck Pg (.t 15)),Fa 17 0 16,Fa 18 0 17,Ld 19 false 1 18,Bn 20 .leq 14 19]
def r5:Rg:=fun _=>[M 23 2,M 24 10,Cp 25 fn_pitch_stretch [.t 23,.t 24],M 11 25]
def r6:Rg:=fun _=>[M 26 9,M 27 11,M 30 9,M 31 11,M 32 3,Bn 33 .and 31 32,M 36 0,S 37 (.nilck Pg (.t 36)),Fa 38 0 37,Fa 39 4 38,M 41 1,Ld 40 false 1 39,Ix 42 3 40 41,Fa 43 0 42,Ld 44 false 1 43,SD (some 28) (.call (.t 26) [.t 27]) false [] [I 40 (.load false 1 (.t 39)),I 44 (.load false 1 (.t 43))],S 29 (.bin .mul (ci 2) (.t 28)),SD (some 34) (.call (.t 30) [.t 33]) false [] [I 40 (.load false 1 (.t 39)),I 44 (.load false 1 (.t 43))],Bn 35 .sub 29 34,Bn 45 .geq 35 44]
def r7:Rg:=fun _=>[M 46 10,M 8 46]
def r4:Rg:=fun _=>[M 21 10,Bi 22 .add 21 1,M 10 22]
def r8:Rg:=fun _=>[M 47 0,S 48 (.nilck Pg (.t 47)),Fa 49 0 48,Fa 50 0 49,Ld 51 false 1 50,Bi 52 .add 51 1,M 8 52]
def ir:IR:=(.seq (.ops r0) (.seq (.ops r1) (.seq (.seq (.ops r2) (.block 0 (.loop (.seq (.seq (.ops r3) (.cond (.t 20) .skip (.exit 0))) (.seq (.block 1 (.seq (.ops r5) (.seq (.ops r6) (.cond (.t 45) (.seq (.ops r7) .ret) .skip)))) (.ops r4)))))) (.seq (.ops r8) .ret))))
def rs:List RV:=[.tmp 8]
theorem e : Entr Pg fn_pitch_pitch_hot 53 [] ir (RetK rs):=Entr.of (cfg:=cfg) follows Tryz.func61 (by kernel_rfl)
attribute [simp] r0 r1 r2 r3 r5 r6 r7 r4 r8 ir rs
end pitch_pitch_hot
namespace pitch_tell_int
def r0:Rg:=fun _=>[S 2 (.box (.t 0)),S 3 (.box (.t 1)),S 4 (.mv (.c .nilf))]
def r1:Rg:=fun _=>[S 7 (.mkmap),S 5 (.alloc [.nilm]),St 1 5 7]
def r2:Rg:=fun _=>[S 6 (.alloc [.nilf])]
def r3:Rg:=fun _=>[S 8 (.mkF (.func fn_pitch_tell_int_1) [] [.t 2,.t 3,.t 5,.t 6]),St 1 6 8]
def r4:Rg:=fun _=>[Ld 9 false 1 6,M 4 9]
def ir:IR:=(.seq (.ops r0) (.seq (.ops r1) (.seq (.ops r2) (.seq (.ops r3) (.seq (.ops r4) .ret)))))
def rs:List RV:=[.tmp 4]
theorem e : Entr Pg fn_pitch_tell_int 10 [] ir (RetK rs):=Entr.of (cfg:=cf0) follows Tryz.func62 (by kernel_rfl)
attribute [simp] r0 r1 r2 r3 r4 ir rs
end pitch_tell_int
namespace pitch_Best_2
def r0:Rg:=fun _=>[MI 4 0]
def r1:Rg:=fun _=>[M 5 0,M 6 1,S 7 (.mm false [.t 5,.t 6]),M 4 7]
def ir:IR:=(.seq (.ops r0) (.seq (.ops r1) .ret))
def rs:List RV:=[.tmp 4]
theorem e : Entr Pg fn_pitch_Best_2 8 [] ir (RetK rs):=Entr.of (cfg:=cf0) follows Tryz.func63 (by kernel_rfl)
attribute [simp] r0 r1 ir rs
end pitch_Best_2
namespace pitch_ask
def r0:Rg:=fun _=>[M 4 0,S 5 (.un .not (.t 4))]
def r1:Rg:=fun _=>[M 6 1,S 7 (.mkI 230 (.t 6)),SN (.panic (.t 7))]
def ir:IR:=(.seq (.ops r0) (.cond (.t 5) (.ops r1) .skip))
def rs:List RV:=[]
theorem e : Entr Pg fn_pitch_ask 8 [] ir (RetK rs):=Entr.of (cfg:=cf0) follows Tryz.func64 (by kernel_rfl)
attribute [simp] r0 r1 ir rs
end pitch_ask
namespace pitch_pitch_steps
def r0:Rg:=fun _=>[S 2 (.box (.t 0)),S 3 (.box (.t 1)),S 4 (.mv (.c .nilf))]
def r1:Rg:=fun _=>[S 5 (.mkF (.func fn_pitch_pitch_steps_1) [] [.t 2,.t 3]),M 4 5]
def ir:IR:=(.seq (.ops r0) (.seq (.ops r1) .ret))
def rs:List RV:=[.tmp 4]
theorem e : Entr Pg fn_pitch_pitch_steps 6 [] ir (RetK rs):=Entr.of (cfg:=cf0) follows Tryz.func65 (by kernel_rfl)
attribute [simp] r0 r1 ir rs
end pitch_pitch_steps
namespace iron_answer
def r0:Rg:=fun _=>[S 5 (.recov),M 2 5]
def r1:Rg:=fun _=>[M 6 2,S 7 (.eqN .i true (.t 6))]
def r2:Rg:=fun _=>[M 9 2,S 10 (.tyAs 243 true (.int .i64 0) (.t 9)),M 8 10,X 11 8 0,X 12 8 1,M 3 11,M 4 12]
def r3:Rg:=fun _=>[M 13 4,S 14 (.un .not (.t 13))]
def r4:Rg:=fun _=>[M 15 2,SN (.panic (.t 15))]
def r5:Rg:=fun _=>[M 16 0,M 17 3,S 18 (.nilck Pg (.t 16)),St 1 18 17]
def ir:IR:=(.seq (.ops r0) (.seq (.ops r1) (.cond (.t 7) (.seq (.ops r2) (.seq (.seq (.ops r3) (.cond (.t 14) (.ops r4) .skip)) (.ops r5))) .skip)))
def rs:List RV:=[]
theorem e : Entr Pg fn_iron_answer 19 [] ir (RetK rs):=Entr.of (cfg:=cf0) follows Tryz.func66 (by kernel_rfl)
def irA:IR:=(.seq (.ops r1) (.cond (.t 7) (.seq (.ops r2) (.seq (.seq (.ops r3) (.cond (.t 14) (.ops r4) .skip)) (.ops r5))) .skip))
theorem ans {v p:AVal} {h:Heap} {K:Heap→Prop} (F:Nat) (a:AW ⟨Pg,F,19,false,[]⟩ irA (AnsK K) (upd (upd (initT [p]) 5 v) 2 v) [] h):AAns Pg fn_iron_answer v p h K:=
 AAns.of follows Tryz.func66 (show recAns Pg cf0 Tryz.f66=some (irA,19,5,2) by kernel_rfl) (by decide) a
attribute [simp] r0 r1 r2 r3 r4 r5 ir rs irA
end iron_answer
namespace iron_open
def cfg:Cfg:={ pure:=pures,cuts:=[28],draws:=[(22,[q 1,q 6,q 0,q 2,q 3,q 4,q 5,q 7,q 8,q 9,q 10,q 11,q 12,q 13])] }
def r0:Rg:=fun _=>[S 2 (.box (.t 0)),S 4 (.mv (.c .nilp))]
def r1:Rg:=fun _=>[Fa 16 0 2,Ld 17 false 1 16,Cp 18 fn_iron_within [.t 17,ci 0,ci 4],M 19 18,Fg 20 19 true 1 2,Lg 21 19 true false 1 20,SG 22 19 true (.len (.t 21)),SG 23 19 true (.bin .leq (.t 22) (ci 5)),Pa 24 19 23,M 25 24,Fg 26 25 true 2 2,Lg 27 25 true false 1 26,SG 28 25 true (.len (.t 27)),Fg 29 25 true 1 2,Lg 30 25 true false 1 29,SG 31 25 true (.len (.t 30)),SG 32 25 true (.bin .eql (.t 28) (.t 31)),Pa 33 25 32,M 34 33,Fg 35 34 true 3 2,Lg 36 34 true false 1 35,SG 37 34 true (.len (.t 36)),SG 38 34 true (.bin .leq (.t 37) (ci 6)),Pa 39 34 38,M 40 39,Fg 41 40 true 4 2,Lg 42 40 true false 1 41,SG 43 40 true (.len (.t 42)),SG 44 40 true (.bin .leq (.t 43) (ci 8)),Pa 45 40 44,Cl 46 fn_iron_ask [.t 45,ci 1]]
def r2:Rg:=fun _=>[Fa 47 1 2,Ld 48 false 1 47,Ln 49 48,MI 50 0]
def r3:Rg:=fun _=>[Bn 51 .lss 50 49]
def r4:Rg:=fun _=>[M 52 50,Ix 53 1 48 50,Ld 54 false 1 53,M 5 52,M 6 54]
def r5:Rg:=fun _=>[M 55 6,Ln 56 55,Fa 57 0 2,Ld 58 false 1 57,Bn 59 .eql 56 58,M 60 59,Fg 61 60 true 2 2,Lg 62 60 true false 1 61,Mg 63 60 true 5,SG 64 60 true (.ixS 1 (.t 62) (.t 63)),Lg 65 60 true false 1 64,Gp 66 60 true fn_iron_within [.t 65,ci 0,ci 6],Pa 67 60 66,Cl 68 fn_iron_ask [.t 67,ci 1]]
def r6:Rg:=fun _=>[M 69 6,Ln 70 69,MI 71 0]
def r7:Rg:=fun _=>[Bn 72 .lss 71 70]
def r8:Rg:=fun _=>[Ix 73 1 69 71,Ld 74 false 1 73,M 8 74]
def r9:Rg:=fun _=>[M 75 8,Cp 76 fn_iron_within [.t 75,ci 0,ci 9],Cl 77 fn_iron_ask [.t 76,ci 1]]
def r10:Rg:=fun _=>[Bi 78 .add 71 1,M 71 78]
def r11:Rg:=fun _=>[Bi 79 .add 50 1,M 50 79]
def r12:Rg:=fun _=>[Fa 80 3 2,Ld 81 false 1 80,Ln 82 81,MI 83 0]
def r13:Rg:=fun _=>[Bn 84 .lss 83 82]
def r14:Rg:=fun _=>[Ix 85 1 81 83,Ld 86 false 1 85,M 10 86]
def r15:Rg:=fun _=>[M 87 10,Ln 88 87,Bi 89 .leq 88 6,Cl 90 fn_iron_ask [.t 89,ci 1]]
def r16:Rg:=fun _=>[M 91 10,Ln 92 91,MI 93 0]
def r17:Rg:=fun _=>[Bn 94 .lss 93 92]
def r18:Rg:=fun _=>[Ix 95 3 91 93,Ld 96 true 3 95,S 12 (.alloc [iz,iz,iz]),St 3 12 96]
def r19:Rg:=fun _=>[Fa 97 0 12,Ld 98 false 1 97,Fa 99 0 2,Ld 100 false 1 99,Bi 101 .sub 100 1,Cp 102 fn_iron_within [.t 98,ci 0,.t 101],M 103 102,Fg 104 103 true 1 12,Lg 105 103 true false 1 104,SG 106 103 true (.bin .leq (ci 0) (.t 105)),Pa 107 103 106,M 108 107,Fg 109 108 true 1 12,Lg 110 108 true false 1 109,Fg 111 108 true 2 12,Lg 112 108 true false 1 111,SG 113 108 true (.bin .leq (.t 110) (.t 112)),Pa 114 108 113,M 115 114,Fg 116 115 true 2 12,Lg 117 115 true false 1 116,SG 118 115 true (.bin .leq (.t 117) (ci 9)),Pa 119 115 118,Cl 120 fn_iron_ask [.t 119,ci 1]]
def r20:Rg:=fun _=>[Bi 121 .add 93 1,M 93 121]
def r21:Rg:=fun _=>[Bi 122 .add 83 1,M 83 122]
def r22:Rg:=fun _=>[Fa 124 3 2,Fa 129 4 2,Ld 123 true 5 2,Ld 125 false 1 124,Ln 126 125,S 127 (.bin .shl (.c (.int .u64 1)) (.t 126)),S 128 (.bin .sub (.t 127) (.c (.int .u64 1))),Ld 130 false 1 129,Ln 131 130,S 132 (.bin .shl (.c (.int .u64 1)) (.t 131)),S 133 (.bin .sub (.t 132) (.c (.int .u64 1))),S 134 (.build [iz,.nils,.nils,.nils,.nils,(.int .u64 0),(.int .u64 0),(.bool false)] [(0,5,(.t 123)),(5,1,(.t 128)),(6,1,(.t 133))]),S 135 (.box (.t 134)),M 13 135]
def r23:Rg:=fun _=>[Fa 136 4 2,Ld 137 false 1 136,Ln 138 137,MI 139 0]
def r24:Rg:=fun _=>[Bn 140 .lss 139 138]
def r25:Rg:=fun _=>[Ix 141 3 137 139,Ld 142 true 3 141,S 15 (.alloc [iz,iz,(.bool false)]),St 3 15 142]
def r26:Rg:=fun _=>[M 143 13,Fa 144 0 15,Ld 145 false 1 144,Cp 146 fn_iron_irons_isStrake [.t 143,.t 145],M 147 146,Fg 148 147 true 1 15,Lg 149 147 true false 1 148,Fg 150 147 true 1 2,Lg 151 147 true false 1 150,SG 152 147 true (.len (.t 151)),SG 153 147 true (.bin .sub (.t 152) (ci 1)),Gp 154 147 true fn_iron_within [.t 149,ci 0,.t 153],Pa 155 147 154,Cl 156 fn_iron_ask [.t 155,ci 1]]
def r27:Rg:=fun _=>[Bi 157 .add 139 1,M 139 157]
def r28:Rg:=fun _=>[M 158 1,M 159 13,S 160 (.call (.t 158) [.t 159]),Cl 161 fn_iron_ask [.t 160,ci 2]]
def r29:Rg:=fun _=>[M 162 13,M 4 162]
def ir:IR:=(.seq (.ops r0) (.seq (.ops r1) (.seq (.seq (.ops r2) (.block 0 (.loop (.seq (.ops r3) (.seq (.cond (.t 51) .skip (.exit 0)) (.seq (.block 1 (.seq (.ops r4) (.seq (.ops r5) (.seq (.ops r6) (.block 2 (.loop (.seq (.ops r7) (.seq (.cond (.t 72) .skip (.exit 2)) (.seq (.block 3 (.seq (.ops r8) (.ops r9))) (.ops r10)))))))))) (.ops r11))))))) (.seq (.seq (.ops r12) (.block 4 (.loop (.seq (.ops r13) (.seq (.cond (.t 84) .skip (.exit 4)) (.seq (.block 5 (.seq (.ops r14) (.seq (.ops r15) (.seq (.ops r16) (.block 6 (.loop (.seq (.ops r17) (.seq (.cond (.t 94) .skip (.exit 6)) (.seq (.block 7 (.seq (.ops r18) (.ops r19))) (.ops r20)))))))))) (.ops r21))))))) (.seq (.ops r22) (.seq (.seq (.ops r23) (.block 8 (.loop (.seq (.ops r24) (.seq (.cond (.t 140) .skip (.exit 8)) (.seq (.block 9 (.seq (.ops r25) (.ops r26))) (.ops r27))))))) (.seq (.cut (.ops r28)) (.seq (.ops r29) .ret))))))))
def rs:List RV:=[.tmp 4]
theorem e : Entr Pg fn_iron_open 163 [] ir (RetK rs):=Entr.of (cfg:=cfg) follows Tryz.func67 (by kernel_rfl)
attribute [simp] r0 r1 r2 r3 r4 r5 r6 r7 r8 r9 r10 r11 r12 r13 r14 r15 r16 r17 r18 r19 r20 r21 r22 r23 r24 r25 r26 r27 r28 r29 ir rs
end iron_open
namespace iron_always
def r0:Rg:=fun _=>[S 2 (.mv (.c (.bool false)))]
def r1:Rg:=fun _=>[S 2 (.mv (.c (.bool true)))]
def ir:IR:=(.seq (.ops r0) (.seq (.ops r1) .ret))
def rs:List RV:=[.tmp 2]
theorem e : Entr Pg fn_iron_always 3 [] ir (RetK rs):=Entr.of (cfg:=cf0) follows Tryz.func68 (by kernel_rfl)
attribute [simp] r0 r1 ir rs
end iron_always
namespace iron_irons_ways
def r0:Rg:=fun _=>[MI 2 0]
def r1:Rg:=fun _=>[M 6 0,S 7 (.build [iz,.nilf,.nilf] [(0,1,(ci 1)),(1,1,(fc fn_iron_irons_ways_1)),(2,1,(fc fn_iron_irons_ways_2))]),Cl 8 fn_iron_tell_int [.t 6,.t 7],S 9 (.build [iz,iz,iz,iz,iz,iz] []),S 10 (.call (.t 8) [.t 9]),M 5 10,X 11 5 0,X 12 5 1,M 3 11,M 4 12]
def r2:Rg:=fun _=>[M 13 3,M 2 13]
def ir:IR:=(.seq (.ops r0) (.seq (.ops r1) (.seq (.ops r2) .ret)))
def rs:List RV:=[.tmp 2]
theorem e : Entr Pg fn_iron_irons_ways 14 [] ir (RetK rs):=Entr.of (cfg:=cf0) follows Tryz.func69 (by kernel_rfl)
attribute [simp] r0 r1 r2 ir rs
end iron_irons_ways
namespace iron_irons_least
def cfg:Cfg:={ pure:=pures,cuts:=[1] }
def r0:Rg:=fun _=>[S 1 (.box (.t 0)),S 2 (.alloc [iz,iz]),S 3 (.mv (.c (.bool false)))]
def r1:Rg:=fun _=>[Ld 4 false 1 1,S 5 (.build [iz,iz] []),S 6 (.mkF (.func fn_iron_irons_least_1) [] [.t 1]),S 7 (.build [iz,iz,.nilf,.nilf] [(0,2,(.t 5)),(2,1,(.t 6)),(3,1,(fc fn_iron_irons_least_2))]),Cl 8 fn_iron_tell_iron_wrong [.t 4,.t 7],S 9 (.build [iz,iz,iz,iz,iz,iz] []),S 10 (.call (.t 8) [.t 9]),X 11 10 0,X 12 10 1,St 2 2 11,M 3 12]
def ir:IR:=(.seq (.ops r0) (.seq (.cut (.ops r1)) .ret))
def rs:List RV:=[.cell 2 true 2,.tmp 3]
theorem e : Entr Pg fn_iron_irons_least 13 [] ir (RetK rs):=Entr.of (cfg:=cfg) follows Tryz.func70 (by kernel_rfl)
attribute [simp] r0 r1 ir rs
end iron_irons_least
namespace iron_ask
def r0:Rg:=fun _=>[M 4 0,S 5 (.un .not (.t 4))]
def r1:Rg:=fun _=>[M 6 1,S 7 (.mkI 243 (.t 6)),SN (.panic (.t 7))]
def ir:IR:=(.seq (.ops r0) (.cond (.t 5) (.ops r1) .skip))
def rs:List RV:=[]
theorem e : Entr Pg fn_iron_ask 8 [] ir (RetK rs):=Entr.of (cfg:=cf0) follows Tryz.func71 (by kernel_rfl)
attribute [simp] r0 r1 ir rs
end iron_ask
namespace iron_isStrake
def r0:Rg:=fun _=>[S 1 (.box (.t 0)),S 2 (.mv (.c .nilf))]
def r1:Rg:=fun _=>[S 3 (.mkF (.func fn_iron_isStrake_1) [] [.t 1]),M 2 3]
def ir:IR:=(.seq (.ops r0) (.seq (.ops r1) .ret))
def rs:List RV:=[.tmp 2]
theorem e : Entr Pg fn_iron_isStrake 4 [] ir (RetK rs):=Entr.of (cfg:=cf0) follows Tryz.func72 (by kernel_rfl)
attribute [simp] r0 r1 ir rs
end iron_isStrake
namespace iron_irons_told
def r0:Rg:=fun _=>[S 2 (.mv (.c .nilp))]
def r1:Rg:=fun _=>[M 3 0,Cp 4 fn_iron_irons_ways [.t 3],Bi 5 .gtr 4 0,Cl 6 fn_iron_ask [.t 5,ci 10]]
def r2:Rg:=fun _=>[M 7 0,M 2 7]
def ir:IR:=(.seq (.ops r0) (.seq (.ops r1) (.seq (.ops r2) .ret)))
def rs:List RV:=[.tmp 2]
theorem e : Entr Pg fn_iron_irons_told 8 [] ir (RetK rs):=Entr.of (cfg:=cf0) follows Tryz.func73 (by kernel_rfl)
attribute [simp] r0 r1 r2 ir rs
end iron_irons_told
namespace iron_irons_owners
def cfg:Cfg:={ pure:=pures,cuts:=[1] }
def r0:Rg:=fun _=>[S 3 (.box (.t 1)),MI 4 0]
def r1:Rg:=fun _=>[M 6 0,S 7 (.mkF (.func fn_iron_irons_owners_1) [] [.t 3]),S 8 (.build [iz,.nilf,.nilf] [(0,1,(ci 0)),(1,1,(.t 7)),(2,1,(fc fn_iron_irons_owners_2))]),Cl 9 fn_iron_tell_int [.t 6,.t 8],S 10 (.build [iz,iz,iz,iz,iz,iz] []),S 11 (.call (.t 9) [.t 10]),M 5 11,X 12 5 0,X 13 5 1,M 4 12]
def r2:Rg:=fun _=>[M 14 4,M 4 14]
def ir:IR:=(.seq (.ops r0) (.seq (.cut (.ops r1)) (.seq (.ops r2) .ret)))
def rs:List RV:=[.tmp 4]
theorem e : Entr Pg fn_iron_irons_owners 15 [] ir (RetK rs):=Entr.of (cfg:=cfg) follows Tryz.func74 (by kernel_rfl)
attribute [simp] r0 r1 r2 ir rs
end iron_irons_owners
namespace iron_irons_with
def cfg:Cfg:={ pure:=pures,draws:=[(3,[q 0,q 1,q 3,q 4,q 5,q 6,q 2,q 7,q 8]),(11,[q 0,q 1,q 3,q 5,q 7,q 2,⟨4,true,[],[]⟩,⟨8,true,[],[]⟩,⟨6,false,[],[2]⟩,⟨9,false,[],[2]⟩,q 10,q 11]),(14,[q 0,q 1,q 3,q 4,q 5,q 6,q 2,q 7,q 8]),(15,[q 0,q 1,q 3,q 5,q 6,q 7,q 8,q 10,q 14,q 15,q 16,q 17,q 2,q 9,q 11,q 12,q 18,q 19,⟨4,true,[],[]⟩,⟨20,true,[],[]⟩,⟨13,false,[],[2,18]⟩,⟨21,false,[],[2]⟩,q 22,q 23])] }
def r0:Rg:=fun _=>[S 6 (.mv (.c .nilp)),S 7 (.mv (.c (.bool false)))]
def r1:Rg:=fun _=>[M 12 0,S 13 (.nilck Pg (.t 12)),Ld 14 true 8 13,S 8 (.alloc [iz,.nils,.nils,.nils,.nils,(.int .u64 0),(.int .u64 0),(.bool false)]),St 8 8 14]
def r2:Rg:=fun _=>[M 15 0,S 16 (.nilck Pg (.t 15)),Fa 17 0 16,Fa 18 1 17,Ld 19 false 1 18,Ln 20 19,S 21 (.mksl 24 [.nils] (.t 20) (.t 20)),Fa 22 0 8,Fa 23 1 22,St 1 23 21]
def r3:Rg:=fun _=>[Fa 24 0 8,Fa 25 1 24,M 27 0,S 28 (.nilck Pg (.t 27)),Fa 29 0 28,Fa 30 1 29,Ld 26 false 1 25,Ld 31 false 1 30,S 32 (.copy 1 (.t 26) (.t 31))]
def r4:Rg:=fun _=>[Fa 33 0 8,Fa 34 0 33,Ld 35 false 1 34,Bi 36 .add 35 1,Fa 37 0 8,Fa 38 0 37,St 1 38 36]
def r5:Rg:=fun _=>[Fa 39 0 8,Fa 40 1 39,Ld 41 false 1 40,Ln 42 41,MI 43 0]
def r6:Rg:=fun _=>[Bn 44 .lss 43 42]
def r7:Rg:=fun _=>[M 45 43,Ix 46 1 41 43,Ld 47 false 1 46,M 9 45,M 10 47]
def r8:Rg:=fun _=>[MI 11 0]
def r9:Rg:=fun _=>[M 48 9,M 49 2,Bn 50 .eql 48 49]
def r10:Rg:=fun _=>[MI 11 1]
def r11:Rg:=fun _=>[Fa 51 0 8,Fa 52 1 51,M 54 9,M 56 10,M 58 11,Ld 53 false 1 52,SD (some 55) (.bsl 0 [] []) true [] [],SD (some 59) (.bsl 1 [iz] [(0,1,(.t 58))]) true [] [],SD (some 57) (.app 1 8 (.t 55) (.t 56)) false [] [I 53 (.load false 1 (.t 52))],SD (some 60) (.app 1 8 (.t 57) (.t 59)) false [] [I 53 (.load false 1 (.t 52))],Ix 61 1 53 54,St 1 61 60]
def r12:Rg:=fun _=>[Bi 62 .add 43 1,M 43 62]
def r13:Rg:=fun _=>[M 63 0,S 64 (.nilck Pg (.t 63)),Fa 65 0 64,Fa 66 3 65,Ld 67 false 1 66,Ln 68 67,S 69 (.mksl 24 [.nils] (.t 68) (.t 68)),Fa 70 0 8,Fa 71 3 70,St 1 71 69]
def r14:Rg:=fun _=>[Fa 72 0 8,Fa 73 3 72,M 75 0,S 76 (.nilck Pg (.t 75)),Fa 77 0 76,Fa 78 3 77,Ld 74 false 1 73,Ld 79 false 1 78,S 80 (.copy 1 (.t 74) (.t 79))]
def r15:Rg:=fun _=>[Fa 81 0 8,Fa 82 3 81,M 84 1,M 86 0,S 87 (.nilck Pg (.t 86)),Fa 88 0 87,Fa 89 3 88,M 91 1,M 95 0,S 96 (.nilck Pg (.t 95)),Fa 97 0 96,Fa 98 0 97,Ld 83 false 1 82,Ld 90 false 1 89,Ix 92 1 90 91,Ld 93 false 1 92,Ld 99 false 1 98,S 100 (.build [iz,iz,iz] [(0,1,(.t 99)),(1,1,(ci 1)),(2,1,(ci 1))]),SD (some 85) (.bsl 0 [] []) true [] [],SD (some 101) (.bsl 1 [iz,iz,iz] [(0,3,(.t 100))]) true [] [],SD (some 94) (.app 3 24 (.t 85) (.t 93)) false [] [I 83 (.load false 1 (.t 82)),I 99 (.load false 1 (.t 98))],SD (some 102) (.app 3 24 (.t 94) (.t 101)) false [] [I 83 (.load false 1 (.t 82))],Ix 103 1 83 84,St 1 103 102]
def r16:Rg:=fun _=>[M 104 0,M 105 2,M 106 1,Cp 107 fn_iron_irons_fits [.t 104,.t 105,.t 106],M 6 8,M 7 107]
def ir:IR:=(.seq (.ops r0) (.seq (.ops r1) (.seq (.ops r2) (.seq (.ops r3) (.seq (.ops r4) (.seq (.seq (.ops r5) (.block 0 (.loop (.seq (.ops r6) (.seq (.cond (.t 44) .skip (.exit 0)) (.seq (.block 1 (.seq (.ops r7) (.seq (.ops r8) (.seq (.seq (.ops r9) (.cond (.t 50) (.ops r10) .skip)) (.ops r11))))) (.ops r12))))))) (.seq (.ops r13) (.seq (.ops r14) (.seq (.ops r15) (.seq (.ops r16) .ret))))))))))
def rs:List RV:=[.tmp 6,.tmp 7]
theorem e : Entr Pg fn_iron_irons_with 108 [] ir (RetK rs):=Entr.of (cfg:=cfg) follows Tryz.func75 (by kernel_rfl)
attribute [simp] r0 r1 r2 r3 r4 r5 r6 r7 r8 r9 r10 r11 r12 r13 r14 r15 r16 ir rs
end iron_irons_with
end Go.Cw
end
section
namespace Go.Cw
open Go Go.Proofs Sh
namespace top_span04
def r0:Rg:=fun _=>[S 4 (.alloc [iz,iz])]
def r1:Rg:=fun _=>[M 5 0,M 6 1,S 7 (.build [iz,iz] [(0,1,(.t 5)),(1,1,(.t 6))]),St 2 4 7]
def ir:IR:=(.seq (.ops r0) (.seq (.ops r1) .ret))
def rs:List RV:=[.cell 4 true 2]
theorem e : Entr Pg fn_top_span04 8 [] ir (RetK rs):=Entr.of (cfg:=cf0) follows Tryz.func76 (by kernel_rfl)
attribute [simp] r0 r1 ir rs
end top_span04
namespace book_content
def r0:Rg:=fun _=>[MI 2 0]
def r1:Rg:=fun _=>[M 4 0,Bi 5 .leq 4 1000,Cl 6 fn_book_ask [.t 5,ci 3]]
def r2:Rg:=fun _=>[MI 3 0]
def r3:Rg:=fun _=>[M 7 3,M 8 3,Bi 9 .add 8 7,Bi 10 .quo 9 8,Bn 11 .add 7 10,Bi 12 .add 11 1,M 13 0,Bn 14 .lss 12 13]
def r4:Rg:=fun _=>[M 15 3,Bi 16 .add 15 1,M 3 16]
def r5:Rg:=fun _=>[M 17 3,Bi 18 .gtr 17 0,M 19 18,Mg 20 19 true 3,Mg 21 19 true 3,SG 22 19 true (.bin .add (.t 21) (ci 7)),SG 23 19 true (.bin .quo (.t 22) (ci 8)),SG 24 19 true (.bin .add (.t 20) (.t 23)),SG 25 19 true (.bin .add (.t 24) (ci 1)),Mg 26 19 true 0,SG 27 19 true (.bin .eql (.t 25) (.t 26)),Pa 28 19 27,Cl 29 fn_book_ask [.t 28,ci 8]]
def r6:Rg:=fun _=>[M 30 3,M 2 30]
def ir:IR:=(.seq (.ops r0) (.seq (.ops r1) (.seq (.ops r2) (.seq (.block 0 (.loop (.seq (.seq (.ops r3) (.cond (.t 14) .skip (.exit 0))) (.block 1 (.ops r4))))) (.seq (.ops r5) (.seq (.ops r6) .ret))))))
def rs:List RV:=[.tmp 2]
theorem e : Entr Pg fn_book_content 31 [] ir (RetK rs):=Entr.of (cfg:=cf0) follows Tryz.func77 (by kernel_rfl)
attribute [simp] r0 r1 r2 r3 r4 r5 r6 ir rs
end book_content
namespace book_sealed
def cfg:Cfg:={ pure:=[4,5,6,7,8,9,10,11,12,13,14,15,16,17,18,19,20,21,22,23,24,25,26,27,28,29,30,31,32,33,34,48,53,55,58,59,61,68,69,70,74,75,76,78,79,81,82,83,84,94,97,103,109,112,118,121,123,124,127,128,129,130,131,138,140,144,145,147,148,152,153,155,159,160,161,164,166,167,170,176,181,182,183,184,185,186,189,191,194,199,200,203,205,206,209,211,212,221,222,224,225,226,228,229] }
def r0:Rg:=fun _=>[S 2 (.mv (.c .nils))]
def r1:Rg:=fun _=>[S 3 (.mv (.c .nils))]
def r2:Rg:=fun _=>[S 4 (.mv (.c (.int .u8 0)))]
def r3:Rg:=fun _=>[M 7 0,Ln 8 7,MI 9 0]
def r4:Rg:=fun _=>[Bn 10 .lss 9 8]
def r5:Rg:=fun _=>[Ix 11 1 7 9,Ld 12 false 1 11,M 6 12]
def r6:Rg:=fun _=>[M 13 3,M 14 6,Cp 15 fn_math_bits_OnesCount8 [.t 14],Bi 16 .rem 15 2,Bi 17 .eql 16 1,S 18 (.bsl 1 [(.bool false)] [(0,1,(.t 17))]),S 19 (.app 1 1 (.t 13) (.t 18)),M 3 19]
def r7:Rg:=fun _=>[M 20 4,M 21 6,Bn 22 .xor 20 21,M 4 22]
def r8:Rg:=fun _=>[Bi 23 .add 9 1,M 9 23]
def r9:Rg:=fun _=>[M 24 0,Cl 25 fn_bytes_Clone [.t 24],M 26 3,Cp 27 fn_book_packed [.t 26],S 28 (.app 1 1 (.t 25) (.t 27)),M 29 4,S 30 (.bsl 1 [(.int .u8 0)] [(0,1,(.t 29))]),S 31 (.app 1 1 (.t 28) (.t 30)),M 2 31]
def ir:IR:=(.seq (.ops r0) (.seq (.ops r1) (.seq (.ops r2) (.seq (.seq (.ops r3) (.block 0 (.loop (.seq (.ops r4) (.seq (.cond (.t 10) .skip (.exit 0)) (.seq (.block 1 (.seq (.ops r5) (.seq (.ops r6) (.ops r7)))) (.ops r8))))))) (.seq (.ops r9) .ret)))))
def rs:List RV:=[.tmp 2]
theorem e : Entr Pg fn_book_sealed 32 [] ir (RetK rs):=Entr.of (cfg:=cfg) follows Tryz.func78 (by kernel_rfl)
attribute [simp] r0 r1 r2 r3 r4 r5 r6 r7 r8 r9 ir rs
end book_sealed
namespace book_wrong
def cfg:Cfg:={ pure:=pures,draws:=[(4,[q 0,q 1,q 2,q 4,q 5,q 6,q 3,q 7,q 8,q 9])] }
def r0:Rg:=fun _=>[MI 4 0,MI 5 0]
def r1:Rg:=fun _=>[M 8 0,Ln 9 8,MI 10 0]
def r2:Rg:=fun _=>[Bn 11 .lss 10 9]
def r3:Rg:=fun _=>[M 12 10,M 6 12]
def r4:Rg:=fun _=>[M 13 0,M 14 6,Ix 15 1 13 14,M 17 1,M 18 6,Ix 19 1 17 18,Ld 16 false 1 15,Ld 20 false 1 19,Bn 21 .xor 16 20,M 7 21]
def r5:Rg:=fun _=>[M 22 7,S 23 (.bin .neq (.t 22) (.c (.int .u8 0)))]
def r6:Rg:=fun _=>[M 24 5,Bi 25 .eql 24 0]
def r7:Rg:=fun _=>[M 26 6,S 27 (.bin .mul (ci 8) (.t 26)),M 28 7,Cp 29 fn_math_bits_LeadingZeros8 [.t 28],Bn 30 .add 27 29,M 4 30]
def r8:Rg:=fun _=>[M 31 5,M 32 7,Cp 33 fn_math_bits_OnesCount8 [.t 32],Bn 34 .add 31 33,M 5 34]
def r9:Rg:=fun _=>[Bi 35 .add 10 1,M 10 35]
def r10:Rg:=fun _=>[M 36 4,M 37 5,M 4 36,M 5 37]
def ir:IR:=(.seq (.ops r0) (.seq (.seq (.ops r1) (.block 0 (.loop (.seq (.ops r2) (.seq (.cond (.t 11) .skip (.exit 0)) (.seq (.block 1 (.seq (.ops r3) (.seq (.ops r4) (.seq (.ops r5) (.cond (.t 23) (.seq (.seq (.ops r6) (.cond (.t 25) (.ops r7) .skip)) (.ops r8)) .skip))))) (.ops r9))))))) (.seq (.ops r10) .ret)))
def rs:List RV:=[.tmp 4,.tmp 5]
theorem e : Entr Pg fn_book_wrong 38 [] ir (RetK rs):=Entr.of (cfg:=cfg) follows Tryz.func79 (by kernel_rfl)
attribute [simp] r0 r1 r2 r3 r4 r5 r6 r7 r8 r9 r10 ir rs
end book_wrong
namespace book_ask
def r0:Rg:=fun _=>[M 4 0,S 5 (.un .not (.t 4))]
def r1:Rg:=fun _=>[M 6 1,S 7 (.mkI 185 (.t 6)),SN (.panic (.t 7))]
def ir:IR:=(.seq (.ops r0) (.cond (.t 5) (.ops r1) .skip))
def rs:List RV:=[]
theorem e : Entr Pg fn_book_ask 8 [] ir (RetK rs):=Entr.of (cfg:=cf0) follows Tryz.func80 (by kernel_rfl)
attribute [simp] r0 r1 ir rs
end book_ask
namespace wage_Due
def cfg:Cfg:={ pure:=pures,cuts:=[2],draws:=[(2,[q 1,q 0,q 3,⟨2,false,[],[3]⟩,q 4,q 5,q 6])],keep:=[4,5] }
def r0:Rg:=fun _=>[S 2 (.box (.t 0)),S 3 (.box (.t 1)),S 4 (.alloc [iz,iz]),S 5 (.alloc [iz])]
def r1:Rg:=fun _=>[SN (.defer (fc fn_wage_answer) [.t 5])]
def r2:Rg:=fun _=>[S 7 (.mkF (.func fn_wage_Due_1) [] [.t 3]),Ld 6 true 3 2,Ld 9 false 1 3,SD (some 8) (.call (fc fn_wage_open) [.t 6,.t 7]) false [] [I 9 (.load false 1 (.t 3))],Cp 10 fn_wage_wages_due [.t 8,.t 9],St 2 4 10,SN (.store 1 (.t 5) (ci 0))]
def ir:IR:=(.seq (.ops r0) (.seq (.ops r1) (.seq (.cut (.ops r2)) .ret)))
def rs:List RV:=[.cell 4 true 2,.cell 5 false 1]
theorem e : Entr Pg fn_wage_Due 11 [4,5] ir (RetA Pg rs):=Entr.ofA (cfg:=cfg) follows Tryz.func81 (by kernel_rfl)
attribute [simp] r0 r1 r2 ir rs
end wage_Due
namespace wage_Share
def cfg:Cfg:={ pure:=pures,cuts:=[2],draws:=[(20,[q 1,q 2,q 0,⟨3,false,[],[0]⟩,q 4,q 5,q 6,q 7,q 8])],keep:=[4,5] }
def r0:Rg:=fun _=>[S 3 (.box (.t 1)),S 4 (.mv (.c .nils)),S 5 (.alloc [iz])]
def r1:Rg:=fun _=>[SN (.defer (fc fn_wage_answer) [.t 5])]
def r2:Rg:=fun _=>[M 12 0,Cp 13 fn_wage_within [.t 12,ci 0,ci 500],M 14 13,Lg 15 14 true false 1 3,SG 16 14 true (.len (.t 15)),SG 17 14 true (.bin .leq (.t 16) (ci 6)),Pa 18 14 17,Cl 19 fn_wage_ask [.t 18,ci 1]]
def r3:Rg:=fun _=>[Ld 20 false 1 3,Ln 21 20,MI 22 0]
def r4:Rg:=fun _=>[Bn 23 .lss 22 21]
def r5:Rg:=fun _=>[Ix 24 1 20 22,Ld 25 false 1 24,M 7 25]
def r6:Rg:=fun _=>[M 26 7,Cp 27 fn_wage_within [.t 26,ci 0,ci 20],Cl 28 fn_wage_ask [.t 27,ci 1]]
def r7:Rg:=fun _=>[Bi 29 .add 22 1,M 22 29]
def r8:Rg:=fun _=>[Ld 30 false 1 3,Ln 31 30,S 32 (.mksl 8 [iz] (.t 31) (.t 31)),S 8 (.alloc [.nils]),St 1 8 32]
def r9:Rg:=fun _=>[S 9 (.mv (.c .nils))]
def r10:Rg:=fun _=>[Ld 33 false 1 3,Ln 34 33,MI 35 0]
def r11:Rg:=fun _=>[Bn 36 .lss 35 34]
def r12:Rg:=fun _=>[M 37 35,Ix 38 1 33 35,Ld 39 false 1 38,M 10 37,M 11 39]
def r13:Rg:=fun _=>[M 40 11,Bi 41 .gtr 40 0]
def r14:Rg:=fun _=>[M 42 9,M 43 10,S 44 (.bsl 1 [iz] [(0,1,(.t 43))]),S 45 (.app 1 8 (.t 42) (.t 44)),M 9 45]
def r15:Rg:=fun _=>[Bi 46 .add 35 1,M 35 46]
def r16:Rg:=fun _=>[M 47 9,Ln 48 47,Bi 49 .eql 48 0]
def r17:Rg:=fun _=>[Ld 50 false 1 8,M 4 50,SN (.store 1 (.t 5) (ci 0))]
def r18:Rg:=fun _=>[M 51 0,MI 52 0]
def r19:Rg:=fun _=>[Bn 53 .lss 52 51]
def r20:Rg:=fun _=>[M 55 9,S 56 (.mkF (.func fn_wage_Share_1) [] [.t 3,.t 8]),Ld 54 false 1 8,SD (some 57) (.call (fc fn_slices_MinFunc_int_int) [.t 55,.t 56]) false [] [I 54 (.load false 1 (.t 8))],Ix 58 1 54 57,Ld 59 false 1 58,Bi 60 .add 59 1,Ix 61 1 54 57,St 1 61 60]
def r21:Rg:=fun _=>[Bi 62 .add 52 1,M 52 62]
def r22:Rg:=fun _=>[Ld 63 false 1 8,M 4 63,SN (.store 1 (.t 5) (ci 0))]
def ir:IR:=(.seq (.ops r0) (.seq (.ops r1) (.seq (.cut (.ops r2)) (.seq (.seq (.ops r3) (.block 0 (.loop (.seq (.ops r4) (.seq (.cond (.t 23) .skip (.exit 0)) (.seq (.block 1 (.seq (.ops r5) (.ops r6))) (.ops r7))))))) (.seq (.ops r8) (.seq (.ops r9) (.seq (.seq (.ops r10) (.block 2 (.loop (.seq (.ops r11) (.seq (.cond (.t 36) .skip (.exit 2)) (.seq (.block 3 (.seq (.ops r12) (.seq (.ops r13) (.cond (.t 41) (.ops r14) .skip)))) (.ops r15))))))) (.seq (.seq (.ops r16) (.cond (.t 49) (.seq (.ops r17) .ret) .skip)) (.seq (.seq (.ops r18) (.block 4 (.loop (.seq (.ops r19) (.seq (.cond (.t 53) .skip (.exit 4)) (.seq (.block 5 (.ops r20)) (.ops r21))))))) (.seq (.ops r22) .ret))))))))))
def rs:List RV:=[.tmp 4,.cell 5 false 1]
theorem e : Entr Pg fn_wage_Share 64 [4,5] ir (RetA Pg rs):=Entr.ofA (cfg:=cfg) follows Tryz.func82 (by kernel_rfl)
attribute [simp] r0 r1 r2 r3 r4 r5 r6 r7 r8 r9 r10 r11 r12 r13 r14 r15 r16 r17 r18 r19 r20 r21 r22 ir rs
end wage_Share
namespace ref08_Ints
def cfg:Cfg:={ pure:=pures,draws:=[(6,[q 0,q 1,q 2,q 4,q 5,q 6,q 3,q 7,q 8])] }
def r0:Rg:=fun _=>[S 4 (.mv (.c (.bool false)))]
def r1:Rg:=fun _=>[M 6 0,Ln 7 6,M 8 1,Ln 9 8,Bn 10 .neq 7 9]
def r2:Rg:=fun _=>[S 4 (.mv (.c (.bool false)))]
def r3:Rg:=fun _=>[MI 5 0]
def r4:Rg:=fun _=>[M 11 5,M 12 0,Ln 13 12,Bn 14 .lss 11 13]
def r6:Rg:=fun _=>[M 17 0,M 18 5,Ix 19 1 17 18,M 21 1,M 22 5,Ix 23 1 21 22,Ld 20 false 1 19,Ld 24 false 1 23,Bn 25 .neq 20 24]
def r7:Rg:=fun _=>[S 4 (.mv (.c (.bool false)))]
def r5:Rg:=fun _=>[M 15 5,Bi 16 .add 15 1,M 5 16]
def r8:Rg:=fun _=>[S 4 (.mv (.c (.bool true)))]
def ir:IR:=(.seq (.ops r0) (.seq (.seq (.ops r1) (.cond (.t 10) (.seq (.ops r2) .ret) .skip)) (.seq (.seq (.ops r3) (.block 0 (.loop (.seq (.seq (.ops r4) (.cond (.t 14) .skip (.exit 0))) (.seq (.block 1 (.seq (.ops r6) (.cond (.t 25) (.seq (.ops r7) .ret) .skip))) (.ops r5)))))) (.seq (.ops r8) .ret))))
def rs:List RV:=[.tmp 4]
theorem e : Entr Pg fn_ref08_Ints 26 [] ir (RetK rs):=Entr.of (cfg:=cfg) follows Tryz.func83 (by kernel_rfl)
attribute [simp] r0 r1 r2 r3 r4 r6 r7 r5 r8 ir rs
end ref08_Ints
namespace top_awake08
def cfg:Cfg:={ pure:=[4,5,6,7,8,9,10,11,12,13,14,15,16,17,18,19,20,21,22,23,24,25,26,27,28,29,30,31,32,33,34,48,53,55,58,59,61,68,69,70,74,75,76,78,79,81,82,84,94,97,103,109,112,118,121,123,124,127,128,129,130,131,138,140,144,145,146,147,148,152,153,155,159,160,161,164,166,167,170,176,181,182,183,184,185,186,189,191,194,199,200,203,205,206,209,211,212,221,222,224,225,226,228,229] }
def r0:Rg:=fun _=>[S 0 (.mv (.c (.bool false)))]
def r1:Rg:=fun _=>[Cp 8 fn_top_gangs08 [],Cp 9 fn_gang_Deal [.t 8],M 7 9,X 10 7 0,X 11 7 1,X 12 7 2,M 1 10,M 2 11,M 3 12]
def r2:Rg:=fun _=>[Cp 14 fn_top_gangs08 [],S 15 (.fld true 2 5 (.t 14)),Cp 16 fn_pitch_Best [.t 15],M 13 16,X 17 13 0,X 18 13 1,X 19 13 2,M 4 17,M 5 18,M 6 19]
def r3:Rg:=fun _=>[M 20 1,Bi 21 .eql 20 9,M 22 21,Mg 23 22 true 2,SG 24 22 true (.bsl 3 [iz,iz,iz] [(0,1,(ci 0)),(1,1,(ci 0)),(2,1,(ci 1))]),SG 25 22 true (.call (fc fn_ref08_Ints) [.t 23,.t 24]),Pa 26 22 25,M 27 26,Mg 28 27 true 3,SG 29 27 true (.bin .eql (.t 28) (ci 0)),Pa 30 27 29,M 31 30,Mg 32 31 true 4,SG 33 31 true (.bin .eql (.t 32) (ci 6)),Pa 34 31 33,M 35 34,Mg 36 35 true 5,SG 37 35 true (.len (.t 36)),SG 38 35 true (.bin .eql (.t 37) (ci 2)),Pa 39 35 38,M 40 39,Mg 41 40 true 6,SG 42 40 true (.bin .eql (.t 41) (ci 0)),Pa 43 40 42,M 0 43]
def ir:IR:=(.seq (.ops r0) (.seq (.ops r1) (.seq (.ops r2) (.seq (.ops r3) .ret))))
def rs:List RV:=[.tmp 0]
theorem e : Entr Pg fn_top_awake08 44 [] ir (RetK rs):=Entr.of (cfg:=cfg) follows Tryz.func84 (by kernel_rfl)
attribute [simp] r0 r1 r2 r3 ir rs
end top_awake08
namespace book_hulls_1
def cfg:Cfg:={ pure:=pures,draws:=[(2,[q 0,q 1,q 2,q 3,q 5,q 7,q 9,q 4,⟨6,false,[],[4]⟩,⟨8,false,[],[4]⟩,⟨10,false,[],[4]⟩,q 11,⟨12,true,[],[]⟩,q 13,q 14,q 15,q 16])] }
def r0:Rg:=fun _=>[M 5 1,S 6 (.mkF (.func fn_book_reader_number) [.t 5] []),M 4 6]
def r1:Rg:=fun _=>[M 7 1,S 8 (.call (fc fn_book_reader_sees) [.t 7,(.c (.str [32]))])]
def r2:Rg:=fun _=>[M 9 0,M 10 0,S 11 (.nilck Pg (.t 10)),Fa 12 0 11,M 14 4,M 16 1,M 18 4,Ld 13 false 1 12,SD (some 15) (.call (.t 14) []) false [] [I 13 (.load false 1 (.t 12))],SD (some 17) (.call (fc fn_book_reader_side) [.t 16]) false [] [I 13 (.load false 1 (.t 12))],SD (some 19) (.call (.t 18) []) false [] [I 13 (.load false 1 (.t 12))],S 20 (.build [iz,iz,iz] [(0,1,(.t 15)),(1,1,(.t 17)),(2,1,(.t 19))]),SD (some 21) (.bsl 1 [iz,iz,iz] [(0,3,(.t 20))]) true [] [],S 22 (.app 3 24 (.t 13) (.t 21)),S 23 (.nilck Pg (.t 9)),Fa 24 0 23,St 1 24 22]
def ir:IR:=(.seq (.ops r0) (.block 0 (.loop (.seq (.seq (.ops r1) (.cond (.t 8) .skip (.exit 0))) (.block 1 (.ops r2))))))
def rs:List RV:=[]
theorem e : Entr Pg fn_book_hulls_1 25 [] ir (RetK rs):=Entr.of (cfg:=cfg) follows Tryz.func85 (by kernel_rfl)
attribute [simp] r0 r1 r2 ir rs
end book_hulls_1
namespace book_reader_number
def r0:Rg:=fun _=>[MI 2 0]
def r1:Rg:=fun _=>[M 8 0,S 9 (.call (fc fn_book_reader_sees) [.t 8,(.c (.str [45]))]),M 3 9]
def r2:Rg:=fun _=>[MI 4 0,MI 5 0]
def r3:Rg:=fun _=>[M 10 0,S 11 (.nilck Pg (.t 10)),Fa 12 0 11,Ld 13 false 1 12,S 14 (.toBy (.t 13)),Ln 15 14,MI 16 0]
def r4:Rg:=fun _=>[Bn 17 .lss 16 15]
def r5:Rg:=fun _=>[Ix 18 1 14 16,Ld 19 false 1 18,M 7 19]
def r6:Rg:=fun _=>[M 21 7,S 22 (.bin .lss (.t 21) (.c (.int .u8 48))),M 23 22,Mg 24 23 false 7,SG 25 23 false (.bin .gtr (.t 24) (.c (.int .u8 57))),Po 26 23 25,M 20 26]
def r7:Rg:=fun _=>[M 27 5,Bi 28 .add 27 1,M 5 28]
def r8:Rg:=fun _=>[M 29 5,Bi 30 .leq 29 5,Cl 31 fn_book_ask [.t 30,ci 8]]
def r9:Rg:=fun _=>[M 32 4,S 33 (.bin .mul (ci 10) (.t 32)),M 34 7,S 35 (.bin .sub (.t 34) (.c (.int .u8 48))),S 36 (.conv .i64 (.t 35)),Bn 37 .add 33 36,M 4 37]
def r10:Rg:=fun _=>[Bi 38 .add 16 1,M 16 38]
def r11:Rg:=fun _=>[M 39 5,Bi 40 .gtr 39 0,Cl 41 fn_book_ask [.t 40,ci 8]]
def r12:Rg:=fun _=>[M 42 0,M 43 0,S 44 (.nilck Pg (.t 43)),Fa 45 0 44,Ld 46 false 1 45,M 47 5,S 48 (.slT (.t 46) (some (.t 47)) none),S 49 (.nilck Pg (.t 42)),Fa 50 0 49,St 1 50 48]
def r13:Rg:=fun _=>[M 51 3]
def r14:Rg:=fun _=>[M 52 4,S 53 (.un .neg (.t 52)),M 2 53]
def r15:Rg:=fun _=>[M 54 4,M 2 54]
def ir:IR:=(.seq (.ops r0) (.seq (.ops r1) (.seq (.ops r2) (.seq .skip (.seq (.seq (.ops r3) (.block 0 (.loop (.seq (.ops r4) (.seq (.cond (.t 17) .skip (.exit 0)) (.seq (.block 1 (.seq (.ops r5) (.seq (.block 2 (.seq (.ops r6) (.cond (.t 20) (.exit 0) .skip))) (.seq (.ops r7) (.seq (.ops r8) (.ops r9)))))) (.ops r10))))))) (.seq (.ops r11) (.seq (.ops r12) (.seq (.seq (.ops r13) (.cond (.t 51) (.seq (.ops r14) .ret) .skip)) (.seq (.ops r15) .ret)))))))))
def rs:List RV:=[.tmp 2]
theorem e : Entr Pg fn_book_reader_number 55 [] ir (RetK rs):=Entr.of (cfg:=cf0) follows Tryz.func86 (by kernel_rfl)
attribute [simp] r0 r1 r2 r3 r4 r5 r6 r7 r8 r9 r10 r11 r12 r13 r14 r15 ir rs
end book_reader_number
namespace book_reader_sees
def r0:Rg:=fun _=>[S 4 (.mv (.c (.bool false)))]
def r1:Rg:=fun _=>[M 8 0,S 9 (.nilck Pg (.t 8)),Fa 10 0 9,Ld 11 false 1 10,M 12 1,Cp 13 fn_strings_CutPrefix [.t 11,.t 12],M 7 13,X 14 7 0,X 15 7 1,M 5 14,M 6 15]
def r2:Rg:=fun _=>[M 16 0,M 17 5,S 18 (.nilck Pg (.t 16)),Fa 19 0 18,St 1 19 17]
def r3:Rg:=fun _=>[M 20 6,M 4 20]
def ir:IR:=(.seq (.ops r0) (.seq (.ops r1) (.seq (.ops r2) (.seq (.ops r3) .ret))))
def rs:List RV:=[.tmp 4]
theorem e : Entr Pg fn_book_reader_sees 21 [] ir (RetK rs):=Entr.of (cfg:=cf0) follows Tryz.func87 (by kernel_rfl)
attribute [simp] r0 r1 r2 r3 ir rs
end book_reader_sees
namespace book_reader_side
def r0:Rg:=fun _=>[MI 2 0]
def r1:Rg:=fun _=>[Cl 5 fn_book_sideOf [],S 6 (.range (.t 5))]
def r2:Rg:=fun _=>[S 7 (.next (.t 6)),X 8 7 0]
def r3:Rg:=fun _=>[S 9 (.entry (.t 6)),X 10 9 0,X 11 9 1,M 3 10,M 4 11]
def r4:Rg:=fun _=>[M 12 0,M 13 3,Cl 14 fn_book_reader_sees [.t 12,.t 13]]
def r5:Rg:=fun _=>[M 15 4,M 2 15]
def r6:Rg:=fun _=>[S 16 (.mkI 185 (ci 8)),SN (.panic (.t 16))]
def ir:IR:=(.seq (.ops r0) (.seq (.seq (.ops r1) (.block 0 (.loop (.seq (.ops r2) (.seq (.cond (.t 8) .skip (.exit 0)) (.block 1 (.seq (.ops r3) (.seq (.ops r4) (.cond (.t 14) (.seq (.ops r5) .ret) .skip))))))))) (.ops r6)))
def rs:List RV:=[.tmp 2]
theorem e : Entr Pg fn_book_reader_side 17 [] ir (RetK rs):=Entr.of (cfg:=cf0) follows Tryz.func88 (by kernel_rfl)
attribute [simp] r0 r1 r2 r3 r4 r5 r6 ir rs
end book_reader_side
namespace book_hulls_2
def cfg:Cfg:={ pure:=pures,draws:=[(5,[q 0,q 1,q 2,q 3,q 4,q 5,⟨6,true,[],[]⟩,q 7,q 8,q 9,q 10])] }
def r0:Rg:=fun _=>[M 5 1,Cl 6 fn_book_reader_number [.t 5],S 7 (.build [iz,iz,iz,iz] [(0,1,(.t 6))]),S 4 (.alloc [iz,iz,iz,iz]),St 4 4 7]
def r1:Rg:=fun _=>[M 8 1,S 9 (.call (fc fn_book_reader_word) [.t 8,(.c (.str [32]))])]
def r2:Rg:=fun _=>[M 10 1,Cl 11 fn_book_reader_number [.t 10],Fa 12 1 4,St 1 12 11]
def r3:Rg:=fun _=>[M 13 1,S 14 (.call (fc fn_book_reader_word) [.t 13,(.c (.str [32]))])]
def r4:Rg:=fun _=>[M 15 1,Cl 16 fn_book_reader_span [.t 15],Fa 17 2 4,St 2 17 16]
def r5:Rg:=fun _=>[M 18 0,M 19 0,S 20 (.nilck Pg (.t 19)),Fa 21 1 20,Ld 22 false 1 21,Ld 23 true 4 4,SD (some 24) (.bsl 1 [iz,iz,iz,iz] [(0,4,(.t 23))]) true [] [],S 25 (.app 4 32 (.t 22) (.t 24)),S 26 (.nilck Pg (.t 18)),Fa 27 1 26,St 1 27 25]
def ir:IR:=(.seq (.ops r0) (.seq (.ops r1) (.seq (.ops r2) (.seq (.ops r3) (.seq (.ops r4) (.ops r5))))))
def rs:List RV:=[]
theorem e : Entr Pg fn_book_hulls_2 28 [] ir (RetK rs):=Entr.of (cfg:=cfg) follows Tryz.func89 (by kernel_rfl)
attribute [simp] r0 r1 r2 r3 r4 r5 ir rs
end book_hulls_2
namespace book_reader_word
def r0:Rg:=fun _=>[M 4 0,M 5 1,Cl 6 fn_book_reader_sees [.t 4,.t 5],Cl 7 fn_book_ask [.t 6,ci 8]]
def ir:IR:=(.ops r0)
def rs:List RV:=[]
theorem e : Entr Pg fn_book_reader_word 8 [] ir (RetK rs):=Entr.of (cfg:=cf0) follows Tryz.func90 (by kernel_rfl)
attribute [simp] r0 ir rs
end book_reader_word
namespace book_reader_span
def r0:Rg:=fun _=>[S 2 (.alloc [iz,iz])]
def r1:Rg:=fun _=>[M 4 0,Cl 5 fn_book_reader_number [.t 4],S 6 (.build [iz,iz] [(0,1,(.t 5))]),S 3 (.alloc [iz,iz]),St 2 3 6]
def r2:Rg:=fun _=>[Fa 7 0 3,Ld 8 false 1 7,Fa 9 1 3,St 1 9 8]
def r3:Rg:=fun _=>[M 10 0,S 11 (.call (fc fn_book_reader_sees) [.t 10,(.c (.str [46,46]))])]
def r4:Rg:=fun _=>[M 12 0,Cl 13 fn_book_reader_number [.t 12],Fa 14 1 3,St 1 14 13]
def r5:Rg:=fun _=>[Ld 15 true 2 3,St 2 2 15]
def ir:IR:=(.seq (.ops r0) (.seq (.ops r1) (.seq (.seq (.ops r2) (.seq (.ops r3) (.cond (.t 11) (.ops r4) .skip))) (.seq (.ops r5) .ret))))
def rs:List RV:=[.cell 2 true 2]
theorem e : Entr Pg fn_book_reader_span 16 [] ir (RetK rs):=Entr.of (cfg:=cf0) follows Tryz.func91 (by kernel_rfl)
attribute [simp] r0 r1 r2 r3 r4 r5 ir rs
end book_reader_span
namespace book_hulls_3
def cfg:Cfg:={ pure:=pures,draws:=[(5,[q 0,q 1,q 2,q 5,q 11,q 3,q 4,q 6,q 7,q 8,q 9,q 10,q 12,q 13,q 14,q 15,q 16,q 17])] }
def r0:Rg:=fun _=>[S 1 (.box (.t 0)),S 2 (.mv (.c (.str [])))]
def r1:Rg:=fun _=>[S 3 (.mv (.c (.str [104,117,108,108])))]
def r2:Rg:=fun _=>[Fa 8 0 1,Ld 9 false 1 8,Ln 10 9,MI 11 0]
def r3:Rg:=fun _=>[Bn 12 .lss 11 10]
def r4:Rg:=fun _=>[Ix 13 3 9 11,Ld 14 true 3 13,S 5 (.alloc [iz,iz,iz]),St 3 5 14]
def r5:Rg:=fun _=>[M 15 3,S 16 (.mkI 9 (.c (.str [32]))),Fa 17 0 5,Fa 20 1 5,Fa 26 2 5,Ld 18 false 1 17,S 19 (.mkI 3 (.t 18)),Ld 21 false 1 20,Bi 22 .add 21 1,S 23 (.ixA 3 1 (.c (.pv [(.str [112]),(.str [107]),(.str [115])])) (.t 22)),Ld 24 false 1 23,S 25 (.mkI 9 (.t 24)),Ld 27 false 1 26,S 28 (.mkI 3 (.t 27)),S 29 (.bsl 4 [.nili,.nili,.nili,.nili] [(0,1,(.t 16)),(1,1,(.t 19)),(2,1,(.t 25)),(3,1,(.t 28))]),Cl 30 fn_book_said [.t 29],Bn 31 .add 15 30,M 3 31]
def r6:Rg:=fun _=>[Bi 32 .add 11 1,M 11 32]
def r7:Rg:=fun _=>[M 33 3,S 34 (.bin .add (.t 33) (.c (.str [10]))),M 3 34]
def r8:Rg:=fun _=>[Fa 35 1 1,Ld 36 false 1 35,Ln 37 36,MI 38 0]
def r9:Rg:=fun _=>[Bn 39 .lss 38 37]
def r10:Rg:=fun _=>[Ix 40 4 36 38,Ld 41 true 4 40,S 7 (.alloc [iz,iz,iz,iz]),St 4 7 41]
def r11:Rg:=fun _=>[M 42 3,Fa 43 0 7,Ld 44 false 1 43,S 45 (.mkI 3 (.t 44)),S 46 (.mkI 9 (.c (.str [32]))),Fa 47 1 7,Ld 48 false 1 47,S 49 (.mkI 3 (.t 48)),S 50 (.mkI 9 (.c (.str [32]))),Fa 51 2 7,Ld 52 true 2 51,S 53 (.mkI 52 (.t 52)),S 54 (.mkI 9 (.c (.str [10]))),S 55 (.bsl 6 [.nili,.nili,.nili,.nili,.nili,.nili] [(0,1,(.t 45)),(1,1,(.t 46)),(2,1,(.t 49)),(3,1,(.t 50)),(4,1,(.t 53)),(5,1,(.t 54))]),Cl 56 fn_book_said [.t 55],Bn 57 .add 42 56,M 3 57]
def r12:Rg:=fun _=>[Bi 58 .add 38 1,M 38 58]
def r13:Rg:=fun _=>[M 59 3,M 2 59]
def ir:IR:=(.seq (.ops r0) (.seq (.ops r1) (.seq (.seq (.ops r2) (.block 0 (.loop (.seq (.ops r3) (.seq (.cond (.t 12) .skip (.exit 0)) (.seq (.block 1 (.seq (.ops r4) (.ops r5))) (.ops r6))))))) (.seq (.ops r7) (.seq (.seq (.ops r8) (.block 2 (.loop (.seq (.ops r9) (.seq (.cond (.t 39) .skip (.exit 2)) (.seq (.block 3 (.seq (.ops r10) (.ops r11))) (.ops r12))))))) (.seq (.ops r13) .ret))))))
def rs:List RV:=[.tmp 2]
theorem e : Entr Pg fn_book_hulls_3 60 [] ir (RetK rs):=Entr.of (cfg:=cfg) follows Tryz.func92 (by kernel_rfl)
attribute [simp] r0 r1 r2 r3 r4 r5 r6 r7 r8 r9 r10 r11 r12 r13 ir rs
end book_hulls_3
namespace book_said
def r0:Rg:=fun _=>[S 2 (.mv (.c (.str [])))]
def r1:Rg:=fun _=>[S 3 (.allocB)]
def r2:Rg:=fun _=>[M 11 0,Ln 12 11,MI 13 0]
def r3:Rg:=fun _=>[Bn 14 .lss 13 12]
def r4:Rg:=fun _=>[Ix 15 1 11 13,Ld 16 false 1 15,M 5 16]
def r5:Rg:=fun _=>[M 17 5]
def r6:Rg:=fun _=>[S 18 (.tyAs 9 true (.str []) (.t 17)),X 19 18 1,X 20 18 0]
def r7:Rg:=fun _=>[M 6 20]
def r8:Rg:=fun _=>[M 21 6,Cl 22 fn_strings_Builder_WriteString [.t 3,.t 21]]
def r9:Rg:=fun _=>[S 23 (.tyAs 3 true (.int .i64 0) (.t 17)),X 24 23 1,X 25 23 0]
def r10:Rg:=fun _=>[M 7 25]
def r11:Rg:=fun _=>[M 26 7,Cp 27 fn_strconv_Itoa [.t 26],Cl 28 fn_strings_Builder_WriteString [.t 3,.t 27]]
def r12:Rg:=fun _=>[S 29 (.tyAs 52 true (.agg [iz,iz]) (.t 17)),X 30 29 1,X 31 29 0]
def r13:Rg:=fun _=>[S 8 (.alloc [iz,iz]),St 2 8 31]
def r14:Rg:=fun _=>[Fa 32 0 8,Ld 33 false 1 32,S 34 (.mkI 3 (.t 33)),S 35 (.bsl 1 [.nili] [(0,1,(.t 34))]),Cl 36 fn_book_said [.t 35],Cl 37 fn_strings_Builder_WriteString [.t 3,.t 36]]
def r15:Rg:=fun _=>[Fa 38 0 8,Ld 39 false 1 38,Fa 40 1 8,Ld 41 false 1 40,Bn 42 .neq 39 41]
def r16:Rg:=fun _=>[S 43 (.mkI 9 (.c (.str [46,46]))),Fa 44 1 8,Ld 45 false 1 44,S 46 (.mkI 3 (.t 45)),S 47 (.bsl 2 [.nili,.nili] [(0,1,(.t 43)),(1,1,(.t 46))]),Cl 48 fn_book_said [.t 47],Cl 49 fn_strings_Builder_WriteString [.t 3,.t 48]]
def r17:Rg:=fun _=>[S 50 (.tyAs 205 true (.int .i64 0) (.t 17)),X 51 50 1,X 52 50 0]
def r18:Rg:=fun _=>[M 9 52]
def r19:Rg:=fun _=>[MI 10 0]
def r20:Rg:=fun _=>[M 53 9,M 54 10,Bn 55 .shr 53 54,Bi 56 .neq 55 0]
def r22:Rg:=fun _=>[M 59 9,M 60 10,Bn 61 .shr 59 60,Bi 62 .and 61 1,Bi 63 .eql 62 1]
def r23:Rg:=fun _=>[S 64 (.mkI 9 (.c (.str [32]))),M 65 10,S 66 (.mkI 3 (.t 65)),S 67 (.bsl 2 [.nili,.nili] [(0,1,(.t 64)),(1,1,(.t 66))]),Cl 68 fn_book_said [.t 67],Cl 69 fn_strings_Builder_WriteString [.t 3,.t 68]]
def r21:Rg:=fun _=>[M 57 10,Bi 58 .add 57 1,M 10 58]
def r24:Rg:=fun _=>[Bi 70 .add 13 1,M 13 70]
def r25:Rg:=fun _=>[Cl 71 fn_strings_Builder_String [.t 3],M 2 71]
def ir:IR:=(.seq (.ops r0) (.seq (.ops r1) (.seq (.seq (.ops r2) (.block 0 (.loop (.seq (.ops r3) (.seq (.cond (.t 14) .skip (.exit 0)) (.seq (.block 1 (.seq (.ops r4) (.seq (.ops r5) (.block 2 (.seq (.ops r6) (.cond (.t 19) (.seq (.ops r7) (.ops r8)) (.seq (.ops r9) (.cond (.t 24) (.seq (.ops r10) (.ops r11)) (.seq (.ops r12) (.cond (.t 30) (.seq (.ops r13) (.seq (.ops r14) (.seq (.ops r15) (.cond (.t 42) (.ops r16) .skip)))) (.seq (.ops r17) (.cond (.t 51) (.seq (.ops r18) (.seq (.ops r19) (.block 3 (.loop (.seq (.seq (.ops r20) (.cond (.t 56) .skip (.exit 3))) (.seq (.block 4 (.seq (.ops r22) (.cond (.t 63) (.ops r23) .skip))) (.ops r21))))))) .skip)))))))))))) (.ops r24))))))) (.seq (.ops r25) .ret))))
def rs:List RV:=[.tmp 2]
theorem e : Entr Pg fn_book_said 72 [] ir (RetK rs):=Entr.of (cfg:=cf0) follows Tryz.func93 (by kernel_rfl)
attribute [simp] r0 r1 r2 r3 r4 r5 r6 r7 r8 r9 r10 r11 r12 r13 r14 r15 r16 r17 r18 r19 r20 r22 r23 r21 r24 r25 ir rs
end book_said
namespace book_isHull
def r0:Rg:=fun _=>[S 1 (.box (.t 0)),S 2 (.mv (.c (.bool false)))]
def r1:Rg:=fun _=>[Fa 8 0 1,Ld 9 false 1 8,Ln 10 9,Cp 11 fn_book_within [.t 10,ci 1,ci 6],M 12 11,Fg 13 12 true 1 1,Lg 14 12 true false 1 13,SG 15 12 true (.len (.t 14)),SG 16 12 true (.bin .leq (.t 15) (ci 8)),Pa 17 12 16,M 3 17]
def r2:Rg:=fun _=>[Fa 18 0 1,Ld 19 false 1 18,Ln 20 19,MI 21 0]
def r3:Rg:=fun _=>[Bn 22 .lss 21 20]
def r4:Rg:=fun _=>[Ix 23 3 19 21,Ld 24 true 3 23,S 5 (.alloc [iz,iz,iz]),St 3 5 24]
def r5:Rg:=fun _=>[M 25 3,M 26 25,Fg 27 26 true 0 5,Lg 28 26 true false 1 27,Gp 29 26 true fn_book_within [.t 28,ci 0,ci 12],Pa 30 26 29,M 31 30,Fg 32 31 true 1 5,Lg 33 31 true false 1 32,Gp 34 31 true fn_book_within [.t 33,(ci (-1)),ci 1],Pa 35 31 34,M 36 35,Fg 37 36 true 2 5,Lg 38 36 true false 1 37,Gp 39 36 true fn_book_within [.t 38,ci 0,ci 4],Pa 40 36 39,M 3 40]
def r6:Rg:=fun _=>[Bi 41 .add 21 1,M 21 41]
def r7:Rg:=fun _=>[Fa 42 1 1,Ld 43 false 1 42,Ln 44 43,MI 45 0]
def r8:Rg:=fun _=>[Bn 46 .lss 45 44]
def r9:Rg:=fun _=>[Ix 47 4 43 45,Ld 48 true 4 47,S 7 (.alloc [iz,iz,iz,iz]),St 4 7 48]
def r10:Rg:=fun _=>[M 49 3,M 50 49,Fg 51 50 true 0 7,Lg 52 50 true false 1 51,Gp 53 50 true fn_book_within [.t 52,ci 0,ci 12],Pa 54 50 53,M 55 54,Fg 56 55 true 1 7,Lg 57 55 true false 1 56,Gp 58 55 true fn_book_within [.t 57,(ci (-3)),ci 3],Pa 59 55 58,M 60 59,Fg 61 60 true 2 7,Lg 62 60 true true 2 61,Gp 63 60 true fn_book_isSpan [.t 62,ci 0,ci 24],Pa 64 60 63,M 3 64]
def r11:Rg:=fun _=>[Bi 65 .add 45 1,M 45 65]
def r12:Rg:=fun _=>[M 66 3,M 2 66]
def ir:IR:=(.seq (.ops r0) (.seq (.ops r1) (.seq (.seq (.ops r2) (.block 0 (.loop (.seq (.ops r3) (.seq (.cond (.t 22) .skip (.exit 0)) (.seq (.block 1 (.seq (.ops r4) (.ops r5))) (.ops r6))))))) (.seq (.seq (.ops r7) (.block 2 (.loop (.seq (.ops r8) (.seq (.cond (.t 46) .skip (.exit 2)) (.seq (.block 3 (.seq (.ops r9) (.ops r10))) (.ops r11))))))) (.seq (.ops r12) .ret)))))
def rs:List RV:=[.tmp 2]
theorem e : Entr Pg fn_book_isHull 67 [] ir (RetK rs):=Entr.of (cfg:=cf0) follows Tryz.func94 (by kernel_rfl)
attribute [simp] r0 r1 r2 r3 r4 r5 r6 r7 r8 r9 r10 r11 r12 ir rs
end book_isHull
namespace book_pitches_1
def r0:Rg:=fun _=>[M 4 0,M 5 1,Cl 6 fn_book_reader_number [.t 5],S 7 (.nilck Pg (.t 4)),Fa 8 0 7,St 1 8 6]
def ir:IR:=(.ops r0)
def rs:List RV:=[]
theorem e : Entr Pg fn_book_pitches_1 9 [] ir (RetK rs):=Entr.of (cfg:=cf0) follows Tryz.func95 (by kernel_rfl)
attribute [simp] r0 ir rs
end book_pitches_1
namespace book_pitches_2
def r0:Rg:=fun _=>[M 9 1,S 10 (.nilck Pg (.t 9)),Fa 11 0 10,Ld 12 false 1 11,SP 13 (.call (fc fn_strings_Cut) [.t 12,(.c (.str [32,112,101,114,104,97,112,115]))]),M 8 13,X 14 8 0,X 15 8 1,X 16 8 2,M 4 14,M 5 15,M 6 16]
def r1:Rg:=fun _=>[M 17 6,Cl 18 fn_book_ask [.t 17,ci 8]]
def r2:Rg:=fun _=>[M 19 4,S 20 (.build [(.str [])] [(0,1,(.t 19))]),S 21 (.box (.t 20)),M 7 21]
def r3:Rg:=fun _=>[M 22 0,M 23 7,Cl 24 fn_book_reader_hours [.t 23],S 25 (.nilck Pg (.t 22)),Fa 26 1 25,St 1 26 24]
def r4:Rg:=fun _=>[M 27 1,M 28 7,S 29 (.nilck Pg (.t 28)),Fa 30 0 29,Ld 31 false 1 30,M 32 5,Bn 33 .add 31 32,S 34 (.nilck Pg (.t 27)),Fa 35 0 34,St 1 35 33]
def r5:Rg:=fun _=>[M 36 0,M 37 1,Cl 38 fn_book_reader_hours [.t 37],S 39 (.nilck Pg (.t 36)),Fa 40 2 39,St 1 40 38]
def ir:IR:=(.seq (.ops r0) (.seq (.ops r1) (.seq (.ops r2) (.seq (.ops r3) (.seq (.ops r4) (.ops r5))))))
def rs:List RV:=[]
theorem e : Entr Pg fn_book_pitches_2 41 [] ir (RetK rs):=Entr.of (cfg:=cf0) follows Tryz.func96 (by kernel_rfl)
attribute [simp] r0 r1 r2 r3 r4 r5 ir rs
end book_pitches_2
namespace book_reader_hours
def r0:Rg:=fun _=>[MI 2 0]
def r1:Rg:=fun _=>[M 4 0,S 5 (.call (fc fn_book_reader_sees) [.t 4,(.c (.str [32]))])]
def r2:Rg:=fun _=>[M 6 0,Cl 7 fn_book_reader_number [.t 6],M 3 7]
def r3:Rg:=fun _=>[M 8 3,Cp 9 fn_book_within [.t 8,ci 0,ci 30],Cl 10 fn_book_ask [.t 9,ci 8]]
def r4:Rg:=fun _=>[M 11 2,M 12 3,S 13 (.bin .shl (ci 1) (.t 12)),Bn 14 .or 11 13,M 2 14]
def r5:Rg:=fun _=>[M 15 2,M 2 15]
def ir:IR:=(.seq (.ops r0) (.seq (.block 0 (.loop (.seq (.seq (.ops r1) (.cond (.t 5) .skip (.exit 0))) (.block 1 (.seq (.ops r2) (.seq (.ops r3) (.ops r4))))))) (.seq (.ops r5) .ret)))
def rs:List RV:=[.tmp 2]
theorem e : Entr Pg fn_book_reader_hours 16 [] ir (RetK rs):=Entr.of (cfg:=cf0) follows Tryz.func98 (by kernel_rfl)
attribute [simp] r0 r1 r2 r3 r4 r5 ir rs
end book_reader_hours
namespace book_pitches_3
def cfg:Cfg:={ pure:=pures,draws:=[(0,[q 0,q 1,q 2,q 3,q 5,q 4,⟨6,false,[],[4]⟩,⟨7,true,[],[]⟩,q 8,q 9,q 10,q 11])] }
def r0:Rg:=fun _=>[M 4 0,M 5 0,S 6 (.nilck Pg (.t 5)),Fa 7 3 6,M 9 1,Ld 8 false 1 7,SD (some 10) (.call (fc fn_book_reader_hours) [.t 9]) false [] [I 8 (.load false 1 (.t 7))],SD (some 11) (.bsl 1 [iz] [(0,1,(.t 10))]) true [] [],S 12 (.app 1 8 (.t 8) (.t 11)),S 13 (.nilck Pg (.t 4)),Fa 14 3 13,St 1 14 12]
def ir:IR:=(.ops r0)
def rs:List RV:=[]
theorem e : Entr Pg fn_book_pitches_3 15 [] ir (RetK rs):=Entr.of (cfg:=cfg) follows Tryz.func99 (by kernel_rfl)
attribute [simp] r0 ir rs
end book_pitches_3
namespace book_pitches_4
def cfg:Cfg:={ pure:=pures,draws:=[(5,[q 0,q 1,q 2,q 3,q 4,q 5,⟨6,true,[],[]⟩,q 7,q 8,q 9,q 10])] }
def r0:Rg:=fun _=>[S 3 (.box (.t 1))]
def r1:Rg:=fun _=>[S 6 (.mkF (.func fn_book_pitches_4_1) [] [.t 3]),M 4 6]
def r2:Rg:=fun _=>[Ld 7 false 1 3,Cl 8 fn_book_reader_number [.t 7],S 9 (.build [iz,iz,iz] [(0,1,(.t 8))]),S 5 (.alloc [iz,iz,iz]),St 3 5 9]
def r3:Rg:=fun _=>[M 10 4,S 11 (.call (.t 10) []),Fa 12 1 5,St 1 12 11]
def r4:Rg:=fun _=>[M 13 4,S 14 (.call (.t 13) []),Fa 15 2 5,St 1 15 14]
def r5:Rg:=fun _=>[M 16 0,M 17 0,S 18 (.nilck Pg (.t 17)),Fa 19 4 18,Ld 20 false 1 19,Ld 21 true 3 5,SD (some 22) (.bsl 1 [iz,iz,iz] [(0,3,(.t 21))]) true [] [],S 23 (.app 3 24 (.t 20) (.t 22)),S 24 (.nilck Pg (.t 16)),Fa 25 4 24,St 1 25 23]
def ir:IR:=(.seq (.ops r0) (.seq (.ops r1) (.seq (.ops r2) (.seq (.ops r3) (.seq (.ops r4) (.ops r5))))))
def rs:List RV:=[]
theorem e : Entr Pg fn_book_pitches_4 26 [] ir (RetK rs):=Entr.of (cfg:=cfg) follows Tryz.func100 (by kernel_rfl)
attribute [simp] r0 r1 r2 r3 r4 r5 ir rs
end book_pitches_4
namespace book_pitches_4_1
def r0:Rg:=fun _=>[MI 1 0]
def r1:Rg:=fun _=>[Ld 2 false 1 0,S 3 (.call (fc fn_book_reader_word) [.t 2,(.c (.str [32]))])]
def r2:Rg:=fun _=>[Ld 4 false 1 0,Cl 5 fn_book_reader_number [.t 4],M 1 5]
def ir:IR:=(.seq (.ops r0) (.seq (.ops r1) (.seq (.ops r2) .ret)))
def rs:List RV:=[.tmp 1]
theorem e : Entr Pg fn_book_pitches_4_1 6 [] ir (RetK rs):=Entr.of (cfg:=cf0) follows Tryz.func101 (by kernel_rfl)
attribute [simp] r0 r1 r2 ir rs
end book_pitches_4_1
namespace book_pitches_5
def r0:Rg:=fun _=>[S 1 (.box (.t 0)),S 2 (.mv (.c (.str [])))]
def r1:Rg:=fun _=>[S 8 (.mkI 9 (.c (.str [112,105,116,99,104,32]))),Fa 9 0 1,Ld 10 false 1 9,S 11 (.mkI 3 (.t 10)),S 12 (.mkI 9 (.c (.str [10,102,114,111,115,116]))),Fa 13 1 1,Ld 14 false 1 13,S 15 (.mkI 205 (.t 14)),S 16 (.mkI 9 (.c (.str [32,112,101,114,104,97,112,115]))),Fa 17 2 1,Ld 18 false 1 17,S 19 (.mkI 205 (.t 18)),S 20 (.mkI 9 (.c (.str [10]))),S 21 (.bsl 7 [.nili,.nili,.nili,.nili,.nili,.nili,.nili] [(0,1,(.t 8)),(1,1,(.t 11)),(2,1,(.t 12)),(3,1,(.t 15)),(4,1,(.t 16)),(5,1,(.t 19)),(6,1,(.t 20))]),Cl 22 fn_book_said [.t 21],M 3 22]
def r2:Rg:=fun _=>[Fa 23 3 1,Ld 24 false 1 23,Ln 25 24,MI 26 0]
def r3:Rg:=fun _=>[Bn 27 .lss 26 25]
def r4:Rg:=fun _=>[Ix 28 1 24 26,Ld 29 false 1 28,M 5 29]
def r5:Rg:=fun _=>[M 30 3,S 31 (.mkI 9 (.c (.str [102,105,114,101]))),M 32 5,S 33 (.mkI 205 (.t 32)),S 34 (.mkI 9 (.c (.str [10]))),S 35 (.bsl 3 [.nili,.nili,.nili] [(0,1,(.t 31)),(1,1,(.t 33)),(2,1,(.t 34))]),Cl 36 fn_book_said [.t 35],Bn 37 .add 30 36,M 3 37]
def r6:Rg:=fun _=>[Bi 38 .add 26 1,M 26 38]
def r7:Rg:=fun _=>[Fa 39 4 1,Ld 40 false 1 39,Ln 41 40,MI 42 0]
def r8:Rg:=fun _=>[Bn 43 .lss 42 41]
def r9:Rg:=fun _=>[Ix 44 3 40 42,Ld 45 true 3 44,S 7 (.alloc [iz,iz,iz]),St 3 7 45]
def r10:Rg:=fun _=>[M 46 3,S 47 (.mkI 9 (.c (.str [112,111,116,32]))),Fa 48 0 7,Ld 49 false 1 48,S 50 (.mkI 3 (.t 49)),S 51 (.mkI 9 (.c (.str [32]))),Fa 52 1 7,Ld 53 false 1 52,S 54 (.mkI 3 (.t 53)),S 55 (.mkI 9 (.c (.str [32]))),Fa 56 2 7,Ld 57 false 1 56,S 58 (.mkI 3 (.t 57)),S 59 (.mkI 9 (.c (.str [10]))),S 60 (.bsl 7 [.nili,.nili,.nili,.nili,.nili,.nili,.nili] [(0,1,(.t 47)),(1,1,(.t 50)),(2,1,(.t 51)),(3,1,(.t 54)),(4,1,(.t 55)),(5,1,(.t 58)),(6,1,(.t 59))]),Cl 61 fn_book_said [.t 60],Bn 62 .add 46 61,M 3 62]
def r11:Rg:=fun _=>[Bi 63 .add 42 1,M 42 63]
def r12:Rg:=fun _=>[M 64 3,M 2 64]
def ir:IR:=(.seq (.ops r0) (.seq (.ops r1) (.seq (.seq (.ops r2) (.block 0 (.loop (.seq (.ops r3) (.seq (.cond (.t 27) .skip (.exit 0)) (.seq (.block 1 (.seq (.ops r4) (.ops r5))) (.ops r6))))))) (.seq (.seq (.ops r7) (.block 2 (.loop (.seq (.ops r8) (.seq (.cond (.t 43) .skip (.exit 2)) (.seq (.block 3 (.seq (.ops r9) (.ops r10))) (.ops r11))))))) (.seq (.ops r12) .ret)))))
def rs:List RV:=[.tmp 2]
theorem e : Entr Pg fn_book_pitches_5 65 [] ir (RetK rs):=Entr.of (cfg:=cf0) follows Tryz.func102 (by kernel_rfl)
attribute [simp] r0 r1 r2 r3 r4 r5 r6 r7 r8 r9 r10 r11 r12 ir rs
end book_pitches_5
namespace book_isPitch
def r0:Rg:=fun _=>[S 1 (.box (.t 0)),S 2 (.mv (.c (.bool false)))]
def r1:Rg:=fun _=>[Fa 8 0 1,Ld 9 false 1 8,Cp 10 fn_book_within [.t 9,ci 0,ci 12],S 11 (.un .not (.t 10)),M 12 11,Fg 13 12 false 3 1,Lg 14 12 false false 1 13,SG 15 12 false (.len (.t 14)),SG 16 12 false (.bin .gtr (.t 15) (ci 3)),Po 17 12 16,M 18 17,Fg 19 18 false 4 1,Lg 20 18 false false 1 19,SG 21 18 false (.len (.t 20)),SG 22 18 false (.bin .gtr (.t 21) (ci 4)),Po 23 18 22]
def r2:Rg:=fun _=>[S 2 (.mv (.c (.bool false)))]
def r3:Rg:=fun _=>[S 3 (.mv (.c (.bool true)))]
def r4:Rg:=fun _=>[Fa 24 1 1,Ld 25 false 1 24,Fa 26 2 1,Ld 27 false 1 26,S 28 (.bsl 2 [iz,iz] [(0,1,(.t 25)),(1,1,(.t 27))]),Fa 29 3 1,Ld 30 false 1 29,S 31 (.app 1 8 (.t 28) (.t 30)),Ln 32 31,MI 33 0]
def r5:Rg:=fun _=>[Bn 34 .lss 33 32]
def r6:Rg:=fun _=>[Ix 35 1 31 33,Ld 36 false 1 35,M 5 36]
def r7:Rg:=fun _=>[M 37 3,M 38 37,Mg 39 38 true 5,Fg 40 38 true 0 1,Lg 41 38 true false 1 40,SG 42 38 true (.bin .shl (ci 1) (.t 41)),SG 43 38 true (.bin .sub (.t 42) (ci 1)),Gp 44 38 true fn_book_within [.t 39,ci 0,.t 43],Pa 45 38 44,M 3 45]
def r8:Rg:=fun _=>[Bi 46 .add 33 1,M 33 46]
def r9:Rg:=fun _=>[Fa 47 4 1,Ld 48 false 1 47,Ln 49 48,MI 50 0]
def r10:Rg:=fun _=>[Bn 51 .lss 50 49]
def r11:Rg:=fun _=>[Ix 52 3 48 50,Ld 53 true 3 52,S 7 (.alloc [iz,iz,iz]),St 3 7 53]
def r12:Rg:=fun _=>[M 54 3,M 55 54,Fg 56 55 true 0 7,Lg 57 55 true false 1 56,Gp 58 55 true fn_book_within [.t 57,ci 1,ci 12],Pa 59 55 58,M 60 59,Fg 61 60 true 1 7,Lg 62 60 true false 1 61,Fg 63 60 true 0 1,Lg 64 60 true false 1 63,Gp 65 60 true fn_book_within [.t 62,ci 0,.t 64],Pa 66 60 65,M 67 66,Fg 68 67 true 2 7,Lg 69 67 true false 1 68,Fg 70 67 true 0 1,Lg 71 67 true false 1 70,Gp 72 67 true fn_book_within [.t 69,ci 0,.t 71],Pa 73 67 72,M 3 73]
def r13:Rg:=fun _=>[Bi 74 .add 50 1,M 50 74]
def r14:Rg:=fun _=>[M 75 3,M 2 75]
def ir:IR:=(.seq (.ops r0) (.seq (.seq (.ops r1) (.cond (.t 23) (.seq (.ops r2) .ret) .skip)) (.seq (.ops r3) (.seq (.seq (.ops r4) (.block 0 (.loop (.seq (.ops r5) (.seq (.cond (.t 34) .skip (.exit 0)) (.seq (.block 1 (.seq (.ops r6) (.ops r7))) (.ops r8))))))) (.seq (.seq (.ops r9) (.block 2 (.loop (.seq (.ops r10) (.seq (.cond (.t 51) .skip (.exit 2)) (.seq (.block 3 (.seq (.ops r11) (.ops r12))) (.ops r13))))))) (.seq (.ops r14) .ret))))))
def rs:List RV:=[.tmp 2]
theorem e : Entr Pg fn_book_isPitch 76 [] ir (RetK rs):=Entr.of (cfg:=cf0) follows Tryz.func103 (by kernel_rfl)
attribute [simp] r0 r1 r2 r3 r4 r5 r6 r7 r8 r9 r10 r11 r12 r13 r14 ir rs
end book_isPitch
namespace book_irons_1
def r0:Rg:=fun _=>[M 5 0,Ld 6 false 1 2,M 7 1,S 8 (.call (.t 6) [.t 7]),S 9 (.nilck Pg (.t 5)),Fa 10 0 9,St 1 10 8]
def ir:IR:=(.ops r0)
def rs:List RV:=[]
theorem e : Entr Pg fn_book_irons_1 11 [] ir (RetK rs):=Entr.of (cfg:=cf0) follows Tryz.func104 (by kernel_rfl)
attribute [simp] r0 ir rs
end book_irons_1
namespace book_irons_2
def cfg:Cfg:={ pure:=pures,cuts:=[4],draws:=[(0,[q 0,q 1,q 2,q 3,q 6,q 4,q 5,⟨7,false,[],[4]⟩,⟨8,true,[],[]⟩,q 9,q 10,q 11,q 12])] }
def r0:Rg:=fun _=>[M 6 0,M 7 0,S 8 (.nilck Pg (.t 7)),Fa 9 2 8,M 12 1,Ld 10 false 1 9,Ld 11 false 1 2,SD (some 13) (.call (.t 11) [.t 12]) false [] [I 10 (.load false 1 (.t 9))],SD (some 14) (.bsl 1 [iz] [(0,1,(.t 13))]) true [] [],S 15 (.app 1 8 (.t 10) (.t 14)),S 16 (.nilck Pg (.t 6)),Fa 17 2 16,St 1 17 15]
def r1:Rg:=fun _=>[S 5 (.mv (.c .nils))]
def r2:Rg:=fun _=>[M 18 1,S 19 (.call (fc fn_book_reader_sees) [.t 18,(.c (.str [32]))])]
def r3:Rg:=fun _=>[M 20 5,Ld 21 false 1 2,M 22 1,S 23 (.call (.t 21) [.t 22]),S 24 (.bsl 1 [iz] [(0,1,(.t 23))]),S 25 (.app 1 8 (.t 20) (.t 24)),M 5 25]
def r4:Rg:=fun _=>[M 26 0,M 27 0,S 28 (.nilck Pg (.t 27)),Fa 29 1 28,Ld 30 false 1 29,M 31 5,S 32 (.bsl 1 [.nils] [(0,1,(.t 31))]),S 33 (.app 1 24 (.t 30) (.t 32)),S 34 (.nilck Pg (.t 26)),Fa 35 1 34,St 1 35 33]
def ir:IR:=(.seq (.ops r0) (.seq (.ops r1) (.seq (.block 0 (.loop (.seq (.seq (.ops r2) (.cond (.t 19) .skip (.exit 0))) (.block 1 (.ops r3))))) (.cut (.ops r4)))))
def rs:List RV:=[]
theorem e : Entr Pg fn_book_irons_2 36 [] ir (RetK rs):=Entr.of (cfg:=cfg) follows Tryz.func105 (by kernel_rfl)
attribute [simp] r0 r1 r2 r3 r4 ir rs
end book_irons_2
namespace book_irons_3
def cfg:Cfg:={ pure:=pures,cuts:=[7],draws:=[(5,[q 0,q 2,q 1,q 4,q 3,⟨5,false,[],[3]⟩,q 6,q 7])] }
def r0:Rg:=fun _=>[S 5 (.mv (.c .nils))]
def r1:Rg:=fun _=>[M 8 1,S 9 (.call (fc fn_book_reader_sees) [.t 8,(.c (.str [32]))])]
def r2:Rg:=fun _=>[Ld 10 false 1 2,M 11 1,S 12 (.call (.t 10) [.t 11]),S 13 (.build [iz,iz,iz] [(0,1,(.t 12))]),S 6 (.alloc [iz,iz,iz]),St 3 6 13]
def r3:Rg:=fun _=>[M 14 1,S 15 (.call (fc fn_book_reader_word) [.t 14,(.c (.str [61]))])]
def r4:Rg:=fun _=>[M 16 1,Cl 17 fn_book_reader_span [.t 16],S 7 (.alloc [iz,iz]),St 2 7 17]
def r5:Rg:=fun _=>[Fa 18 0 7,Fa 20 1 7,Ld 19 false 1 18,Fa 22 1 6,Ld 21 false 1 20,SD none (.store 1 (.t 22) (.t 19)) false [] [I 21 (.load false 1 (.t 20))],Fa 23 2 6,St 1 23 21]
def r6:Rg:=fun _=>[M 24 5,Ld 25 true 3 6,S 26 (.bsl 1 [iz,iz,iz] [(0,3,(.t 25))]),S 27 (.app 3 24 (.t 24) (.t 26)),M 5 27]
def r7:Rg:=fun _=>[M 28 0,M 29 0,S 30 (.nilck Pg (.t 29)),Fa 31 3 30,Ld 32 false 1 31,M 33 5,S 34 (.bsl 1 [.nils] [(0,1,(.t 33))]),S 35 (.app 1 24 (.t 32) (.t 34)),S 36 (.nilck Pg (.t 28)),Fa 37 3 36,St 1 37 35]
def ir:IR:=(.seq (.ops r0) (.seq (.block 0 (.loop (.seq (.seq (.ops r1) (.cond (.t 9) .skip (.exit 0))) (.block 1 (.seq (.ops r2) (.seq (.ops r3) (.seq (.ops r4) (.seq (.ops r5) (.ops r6))))))))) (.cut (.ops r7))))
def rs:List RV:=[]
theorem e : Entr Pg fn_book_irons_3 38 [] ir (RetK rs):=Entr.of (cfg:=cfg) follows Tryz.func106 (by kernel_rfl)
attribute [simp] r0 r1 r2 r3 r4 r5 r6 r7 ir rs
end book_irons_3
namespace book_irons_4
def cfg:Cfg:={ pure:=pures,draws:=[(4,[q 0,q 1,q 2,q 3,q 4,q 5,⟨6,true,[],[]⟩,q 7,q 8,q 9,q 10])] }
def r0:Rg:=fun _=>[Ld 6 false 1 2,M 7 1,S 8 (.call (.t 6) [.t 7]),S 9 (.build [iz,iz,(.bool false)] [(0,1,(.t 8))]),S 5 (.alloc [iz,iz,(.bool false)]),St 3 5 9]
def r1:Rg:=fun _=>[M 10 1,S 11 (.call (fc fn_book_reader_word) [.t 10,(.c (.str [32]))])]
def r2:Rg:=fun _=>[M 12 1,S 13 (.call (fc fn_book_reader_sees) [.t 12,(.c (.str [33]))]),Fa 14 2 5,St 1 14 13]
def r3:Rg:=fun _=>[Ld 15 false 1 2,M 16 1,S 17 (.call (.t 15) [.t 16]),Fa 18 1 5,St 1 18 17]
def r4:Rg:=fun _=>[M 19 0,M 20 0,S 21 (.nilck Pg (.t 20)),Fa 22 4 21,Ld 23 false 1 22,Ld 24 true 3 5,SD (some 25) (.bsl 1 [iz,iz,(.bool false)] [(0,3,(.t 24))]) true [] [],S 26 (.app 3 24 (.t 23) (.t 25)),S 27 (.nilck Pg (.t 19)),Fa 28 4 27,St 1 28 26]
def ir:IR:=(.seq (.ops r0) (.seq (.ops r1) (.seq (.ops r2) (.seq (.ops r3) (.ops r4)))))
def rs:List RV:=[]
theorem e : Entr Pg fn_book_irons_4 29 [] ir (RetK rs):=Entr.of (cfg:=cfg) follows Tryz.func107 (by kernel_rfl)
attribute [simp] r0 r1 r2 r3 r4 ir rs
end book_irons_4
namespace book_irons_5
def r0:Rg:=fun _=>[S 1 (.box (.t 0)),S 2 (.mv (.c (.str [])))]
def r1:Rg:=fun _=>[S 15 (.mkI 9 (.c (.str [105,114,111,110,115,32]))),Fa 16 0 1,Ld 17 false 1 16,S 18 (.mkI 3 (.t 17)),S 19 (.mkI 9 (.c (.str [10]))),S 20 (.bsl 3 [.nili,.nili,.nili] [(0,1,(.t 15)),(1,1,(.t 18)),(2,1,(.t 19))]),Cl 21 fn_book_said [.t 20],M 3 21]
def r2:Rg:=fun _=>[Fa 22 1 1,Ld 23 false 1 22,Ln 24 23,MI 25 0]
def r3:Rg:=fun _=>[Bn 26 .lss 25 24]
def r4:Rg:=fun _=>[M 27 25,Ix 28 1 23 25,Ld 29 false 1 28,M 4 27,M 5 29]
def r5:Rg:=fun _=>[M 30 3,S 31 (.mkI 9 (.c (.str [111,119,110,101,114,32]))),Fa 32 2 1,Ld 33 false 1 32,M 34 4,Ix 35 1 33 34,Ld 36 false 1 35,S 37 (.mkI 3 (.t 36)),S 38 (.bsl 2 [.nili,.nili] [(0,1,(.t 31)),(1,1,(.t 37))]),Cl 39 fn_book_said [.t 38],Bn 40 .add 30 39,M 3 40]
def r6:Rg:=fun _=>[M 41 5,Ln 42 41,MI 43 0]
def r7:Rg:=fun _=>[Bn 44 .lss 43 42]
def r8:Rg:=fun _=>[Ix 45 1 41 43,Ld 46 false 1 45,M 7 46]
def r9:Rg:=fun _=>[M 47 3,S 48 (.mkI 9 (.c (.str [32]))),M 49 7,S 50 (.mkI 3 (.t 49)),S 51 (.bsl 2 [.nili,.nili] [(0,1,(.t 48)),(1,1,(.t 50))]),Cl 52 fn_book_said [.t 51],Bn 53 .add 47 52,M 3 53]
def r10:Rg:=fun _=>[Bi 54 .add 43 1,M 43 54]
def r11:Rg:=fun _=>[M 55 3,S 56 (.bin .add (.t 55) (.c (.str [10]))),M 3 56]
def r12:Rg:=fun _=>[Bi 57 .add 25 1,M 25 57]
def r13:Rg:=fun _=>[Fa 58 3 1,Ld 59 false 1 58,Ln 60 59,MI 61 0]
def r14:Rg:=fun _=>[Bn 62 .lss 61 60]
def r15:Rg:=fun _=>[Ix 63 1 59 61,Ld 64 false 1 63,M 9 64]
def r16:Rg:=fun _=>[M 65 3,S 66 (.bin .add (.t 65) (.c (.str [115,116,114,97,107,101]))),M 3 66]
def r17:Rg:=fun _=>[M 67 9,Ln 68 67,MI 69 0]
def r18:Rg:=fun _=>[Bn 70 .lss 69 68]
def r19:Rg:=fun _=>[Ix 71 3 67 69,Ld 72 true 3 71,S 11 (.alloc [iz,iz,iz]),St 3 11 72]
def r20:Rg:=fun _=>[M 73 3,S 74 (.mkI 9 (.c (.str [32]))),Fa 75 0 11,Ld 76 false 1 75,S 77 (.mkI 3 (.t 76)),S 78 (.mkI 9 (.c (.str [61]))),Fa 79 1 11,Ld 80 false 1 79,Fa 81 2 11,Ld 82 false 1 81,S 83 (.build [iz,iz] [(0,1,(.t 80)),(1,1,(.t 82))]),S 84 (.mkI 52 (.t 83)),S 85 (.bsl 4 [.nili,.nili,.nili,.nili] [(0,1,(.t 74)),(1,1,(.t 77)),(2,1,(.t 78)),(3,1,(.t 84))]),Cl 86 fn_book_said [.t 85],Bn 87 .add 73 86,M 3 87]
def r21:Rg:=fun _=>[Bi 88 .add 69 1,M 69 88]
def r22:Rg:=fun _=>[M 89 3,S 90 (.bin .add (.t 89) (.c (.str [10]))),M 3 90]
def r23:Rg:=fun _=>[Bi 91 .add 61 1,M 61 91]
def r24:Rg:=fun _=>[Fa 92 4 1,Ld 93 false 1 92,Ln 94 93,MI 95 0]
def r25:Rg:=fun _=>[Bn 96 .lss 95 94]
def r26:Rg:=fun _=>[Ix 97 3 93 95,Ld 98 true 3 97,S 13 (.alloc [iz,iz,(.bool false)]),St 3 13 98]
def r27:Rg:=fun _=>[S 14 (.mv (.c (.str [])))]
def r28:Rg:=fun _=>[Fa 99 2 13,Ld 100 false 1 99]
def r29:Rg:=fun _=>[S 14 (.mv (.c (.str [33])))]
def r30:Rg:=fun _=>[M 101 3,S 102 (.mkI 9 (.c (.str [99,108,97,105,109,32]))),Fa 103 0 13,Ld 104 false 1 103,S 105 (.mkI 3 (.t 104)),S 106 (.mkI 9 (.c (.str [32]))),M 107 14,S 108 (.mkI 9 (.t 107)),Fa 109 1 13,Ld 110 false 1 109,S 111 (.mkI 3 (.t 110)),S 112 (.mkI 9 (.c (.str [10]))),S 113 (.bsl 6 [.nili,.nili,.nili,.nili,.nili,.nili] [(0,1,(.t 102)),(1,1,(.t 105)),(2,1,(.t 106)),(3,1,(.t 108)),(4,1,(.t 111)),(5,1,(.t 112))]),Cl 114 fn_book_said [.t 113],Bn 115 .add 101 114,M 3 115]
def r31:Rg:=fun _=>[Bi 116 .add 95 1,M 95 116]
def r32:Rg:=fun _=>[M 117 3,M 2 117]
def ir:IR:=(.seq (.ops r0) (.seq (.ops r1) (.seq (.seq (.ops r2) (.block 0 (.loop (.seq (.ops r3) (.seq (.cond (.t 26) .skip (.exit 0)) (.seq (.block 1 (.seq (.ops r4) (.seq (.ops r5) (.seq (.seq (.ops r6) (.block 2 (.loop (.seq (.ops r7) (.seq (.cond (.t 44) .skip (.exit 2)) (.seq (.block 3 (.seq (.ops r8) (.ops r9))) (.ops r10))))))) (.ops r11))))) (.ops r12))))))) (.seq (.seq (.ops r13) (.block 4 (.loop (.seq (.ops r14) (.seq (.cond (.t 62) .skip (.exit 4)) (.seq (.block 5 (.seq (.ops r15) (.seq (.ops r16) (.seq (.seq (.ops r17) (.block 6 (.loop (.seq (.ops r18) (.seq (.cond (.t 70) .skip (.exit 6)) (.seq (.block 7 (.seq (.ops r19) (.ops r20))) (.ops r21))))))) (.ops r22))))) (.ops r23))))))) (.seq (.seq (.ops r24) (.block 8 (.loop (.seq (.ops r25) (.seq (.cond (.t 96) .skip (.exit 8)) (.seq (.block 9 (.seq (.ops r26) (.seq (.ops r27) (.seq (.seq (.ops r28) (.cond (.t 100) (.ops r29) .skip)) (.ops r30))))) (.ops r31))))))) (.seq (.ops r32) .ret))))))
def rs:List RV:=[.tmp 2]
theorem e : Entr Pg fn_book_irons_5 118 [] ir (RetK rs):=Entr.of (cfg:=cf0) follows Tryz.func108 (by kernel_rfl)
attribute [simp] r0 r1 r2 r3 r4 r5 r6 r7 r8 r9 r10 r11 r12 r13 r14 r15 r16 r17 r18 r19 r20 r21 r22 r23 r24 r25 r26 r27 r28 r29 r30 r31 r32 ir rs
end book_irons_5
namespace book_isIrons
def r0:Rg:=fun _=>[S 1 (.box (.t 0)),S 2 (.mv (.c (.bool false)))]
def r1:Rg:=fun _=>[Fa 16 0 1,Ld 17 false 1 16,Cp 18 fn_book_within [.t 17,ci 0,ci 4],M 19 18,Fg 20 19 true 1 1,Lg 21 19 true false 1 20,SG 22 19 true (.len (.t 21)),SG 23 19 true (.bin .leq (.t 22) (ci 5)),Pa 24 19 23,M 25 24,Fg 26 25 true 2 1,Lg 27 25 true false 1 26,SG 28 25 true (.len (.t 27)),Fg 29 25 true 1 1,Lg 30 25 true false 1 29,SG 31 25 true (.len (.t 30)),SG 32 25 true (.bin .eql (.t 28) (.t 31)),Pa 33 25 32,M 34 33,Fg 35 34 true 3 1,Lg 36 34 true false 1 35,SG 37 34 true (.len (.t 36)),SG 38 34 true (.bin .leq (.t 37) (ci 6)),Pa 39 34 38,M 40 39,Fg 41 40 true 4 1,Lg 42 40 true false 1 41,SG 43 40 true (.len (.t 42)),SG 44 40 true (.bin .leq (.t 43) (ci 8)),Pa 45 40 44,M 3 45]
def r2:Rg:=fun _=>[Fa 46 1 1,Ld 47 false 1 46,Ln 48 47,MI 49 0]
def r3:Rg:=fun _=>[Bn 50 .lss 49 48]
def r4:Rg:=fun _=>[Ix 51 1 47 49,Ld 52 false 1 51,M 5 52]
def r5:Rg:=fun _=>[M 53 3,M 54 53,Mg 55 54 true 5,SG 56 54 true (.len (.t 55)),Fg 57 54 true 0 1,Lg 58 54 true false 1 57,SG 59 54 true (.bin .eql (.t 56) (.t 58)),Pa 60 54 59,M 3 60]
def r6:Rg:=fun _=>[M 61 5,Ln 62 61,MI 63 0]
def r7:Rg:=fun _=>[Bn 64 .lss 63 62]
def r8:Rg:=fun _=>[Ix 65 1 61 63,Ld 66 false 1 65,M 7 66]
def r9:Rg:=fun _=>[M 67 3,M 68 67,Mg 69 68 true 7,Gp 70 68 true fn_book_within [.t 69,ci 0,ci 9],Pa 71 68 70,M 3 71]
def r10:Rg:=fun _=>[Bi 72 .add 63 1,M 63 72]
def r11:Rg:=fun _=>[Bi 73 .add 49 1,M 49 73]
def r12:Rg:=fun _=>[Fa 74 2 1,Ld 75 false 1 74,Ln 76 75,MI 77 0]
def r13:Rg:=fun _=>[Bn 78 .lss 77 76]
def r14:Rg:=fun _=>[Ix 79 1 75 77,Ld 80 false 1 79,M 9 80]
def r15:Rg:=fun _=>[M 81 3,M 82 81,Mg 83 82 true 9,Gp 84 82 true fn_book_within [.t 83,ci 0,ci 6],Pa 85 82 84,M 3 85]
def r16:Rg:=fun _=>[Bi 86 .add 77 1,M 77 86]
def r17:Rg:=fun _=>[Fa 87 3 1,Ld 88 false 1 87,Ln 89 88,MI 90 0]
def r18:Rg:=fun _=>[Bn 91 .lss 90 89]
def r19:Rg:=fun _=>[Ix 92 1 88 90,Ld 93 false 1 92,M 11 93]
def r20:Rg:=fun _=>[M 94 3,M 95 94,Mg 96 95 true 11,SG 97 95 true (.len (.t 96)),SG 98 95 true (.bin .leq (.t 97) (ci 6)),Pa 99 95 98,M 3 99]
def r21:Rg:=fun _=>[M 100 11,Ln 101 100,MI 102 0]
def r22:Rg:=fun _=>[Bn 103 .lss 102 101]
def r23:Rg:=fun _=>[Ix 104 3 100 102,Ld 105 true 3 104,S 13 (.alloc [iz,iz,iz]),St 3 13 105]
def r24:Rg:=fun _=>[M 106 3,M 107 106,Fg 108 107 true 0 13,Lg 109 107 true false 1 108,Fg 110 107 true 0 1,Lg 111 107 true false 1 110,SG 112 107 true (.bin .sub (.t 111) (ci 1)),Gp 113 107 true fn_book_within [.t 109,ci 0,.t 112],Pa 114 107 113,M 115 114,Fg 116 115 true 1 13,Lg 117 115 true false 1 116,Fg 118 115 true 2 13,Lg 119 115 true false 1 118,SG 120 115 true (.build [iz,iz] [(0,1,(.t 117)),(1,1,(.t 119))]),Gp 121 115 true fn_book_isSpan [.t 120,ci 0,ci 9],Pa 122 115 121,M 3 122]
def r25:Rg:=fun _=>[Bi 123 .add 102 1,M 102 123]
def r26:Rg:=fun _=>[Bi 124 .add 90 1,M 90 124]
def r27:Rg:=fun _=>[Fa 125 4 1,Ld 126 false 1 125,Ln 127 126,MI 128 0]
def r28:Rg:=fun _=>[Bn 129 .lss 128 127]
def r29:Rg:=fun _=>[Ix 130 3 126 128,Ld 131 true 3 130,S 15 (.alloc [iz,iz,(.bool false)]),St 3 15 131]
def r30:Rg:=fun _=>[M 132 3,M 133 132,Fg 134 133 true 0 15,Lg 135 133 true false 1 134,Fg 136 133 true 3 1,Lg 137 133 true false 1 136,SG 138 133 true (.len (.t 137)),SG 139 133 true (.bin .sub (.t 138) (ci 1)),Gp 140 133 true fn_book_within [.t 135,ci 0,.t 139],Pa 141 133 140,M 142 141,Fg 143 142 true 1 15,Lg 144 142 true false 1 143,Fg 145 142 true 1 1,Lg 146 142 true false 1 145,SG 147 142 true (.len (.t 146)),SG 148 142 true (.bin .sub (.t 147) (ci 1)),Gp 149 142 true fn_book_within [.t 144,ci 0,.t 148],Pa 150 142 149,M 3 150]
def r31:Rg:=fun _=>[Bi 151 .add 128 1,M 128 151]
def r32:Rg:=fun _=>[M 152 3,M 2 152]
def ir:IR:=(.seq (.ops r0) (.seq (.ops r1) (.seq (.seq (.ops r2) (.block 0 (.loop (.seq (.ops r3) (.seq (.cond (.t 50) .skip (.exit 0)) (.seq (.block 1 (.seq (.ops r4) (.seq (.ops r5) (.seq (.ops r6) (.block 2 (.loop (.seq (.ops r7) (.seq (.cond (.t 64) .skip (.exit 2)) (.seq (.block 3 (.seq (.ops r8) (.ops r9))) (.ops r10)))))))))) (.ops r11))))))) (.seq (.seq (.ops r12) (.block 4 (.loop (.seq (.ops r13) (.seq (.cond (.t 78) .skip (.exit 4)) (.seq (.block 5 (.seq (.ops r14) (.ops r15))) (.ops r16))))))) (.seq (.seq (.ops r17) (.block 6 (.loop (.seq (.ops r18) (.seq (.cond (.t 91) .skip (.exit 6)) (.seq (.block 7 (.seq (.ops r19) (.seq (.ops r20) (.seq (.ops r21) (.block 8 (.loop (.seq (.ops r22) (.seq (.cond (.t 103) .skip (.exit 8)) (.seq (.block 9 (.seq (.ops r23) (.ops r24))) (.ops r25)))))))))) (.ops r26))))))) (.seq (.seq (.ops r27) (.block 10 (.loop (.seq (.ops r28) (.seq (.cond (.t 129) .skip (.exit 10)) (.seq (.block 11 (.seq (.ops r29) (.ops r30))) (.ops r31))))))) (.seq (.ops r32) .ret)))))))
def rs:List RV:=[.tmp 2]
theorem e : Entr Pg fn_book_isIrons 153 [] ir (RetK rs):=Entr.of (cfg:=cf0) follows Tryz.func109 (by kernel_rfl)
attribute [simp] r0 r1 r2 r3 r4 r5 r6 r7 r8 r9 r10 r11 r12 r13 r14 r15 r16 r17 r18 r19 r20 r21 r22 r23 r24 r25 r26 r27 r28 r29 r30 r31 r32 ir rs
end book_isIrons
namespace book_lines
def r0:Rg:=fun _=>[S 1 (.box (.t 0)),S 2 (.mv (.c .nilf))]
def r1:Rg:=fun _=>[S 3 (.mkF (.func fn_book_lines_1) [] [.t 1]),M 2 3]
def ir:IR:=(.seq (.ops r0) (.seq (.ops r1) .ret))
def rs:List RV:=[.tmp 2]
theorem e : Entr Pg fn_book_lines 4 [] ir (RetK rs):=Entr.of (cfg:=cf0) follows Tryz.func110 (by kernel_rfl)
attribute [simp] r0 r1 ir rs
end book_lines
namespace leak_want
def r0:Rg:=fun _=>[M 4 0,S 5 (.un .not (.t 4))]
def r1:Rg:=fun _=>[M 6 1,S 7 (.build [iz] [(0,1,(.t 6))]),S 8 (.mkI 215 (.t 7)),SN (.panic (.t 8))]
def ir:IR:=(.seq (.ops r0) (.cond (.t 5) (.ops r1) .skip))
def rs:List RV:=[]
theorem e : Entr Pg fn_leak_want 9 [] ir (RetK rs):=Entr.of (cfg:=cf0) follows Tryz.func111 (by kernel_rfl)
attribute [simp] r0 r1 ir rs
end leak_want
namespace leak_inflow_sum
def r0:Rg:=fun _=>[S 2 (.box (.t 0)),MI 4 0]
def r1:Rg:=fun _=>[Ld 7 true 6 2,MI 8 0]
def r2:Rg:=fun _=>[Bi 9 .lss 8 6]
def r3:Rg:=fun _=>[M 10 8,S 11 (.ixV 6 1 false (.t 7) (.t 8)),M 5 10,M 6 11]
def r4:Rg:=fun _=>[M 12 1,M 13 5,Cp 14 fn_leak_set_has [.t 12,.t 13]]
def r5:Rg:=fun _=>[M 15 4,M 16 6,S 17 (.bsl 2 [iz,iz] [(0,1,(.t 15)),(1,1,(.t 16))]),Cl 18 fn_leak_flows [.t 17],M 4 18]
def r6:Rg:=fun _=>[Bi 19 .add 8 1,M 8 19]
def r7:Rg:=fun _=>[M 20 4,M 4 20]
def ir:IR:=(.seq (.ops r0) (.seq (.seq (.ops r1) (.block 0 (.loop (.seq (.ops r2) (.seq (.cond (.t 9) .skip (.exit 0)) (.seq (.block 1 (.seq (.ops r3) (.seq (.ops r4) (.cond (.t 14) (.ops r5) .skip)))) (.ops r6))))))) (.seq (.ops r7) .ret)))
def rs:List RV:=[.tmp 4]
theorem e : Entr Pg fn_leak_inflow_sum 21 [] ir (RetK rs):=Entr.of (cfg:=cf0) follows Tryz.func112 (by kernel_rfl)
attribute [simp] r0 r1 r2 r3 r4 r5 r6 r7 ir rs
end leak_inflow_sum
namespace leak_sums
def cfg:Cfg:={ pure:=pures,draws:=[(1,[q 0,q 1,q 2,q 5,q 6,q 7,q 3,q 8,⟨4,false,[11],[8]⟩,⟨9,false,[11],[]⟩,q 10,⟨11,true,[],[]⟩,q 12]),(5,[q 0,q 2,q 6,q 8,q 1,q 3,q 7,q 9,⟨4,false,[],[1,7,9]⟩,q 5,⟨10,false,[],[1,7]⟩,q 11,q 12,q 13])] }
def r0:Rg:=fun _=>[S 4 (.alloc [iz,iz])]
def r1:Rg:=fun _=>[M 8 1,M 9 0,S 10 (.ixS 6 (.t 9) (ci 0)),M 13 1,M 14 0,S 15 (.ixS 6 (.t 14) (ci 0)),Ld 11 true 6 10,Ld 16 true 6 15,SD (some 12) (.call (.t 8) [.t 11]) false [I 5 (.alloc [iz,iz])] [I 16 (.load true 6 (.t 15))],SD (some 17) (.call (.t 13) [.t 16]) false [I 5 (.alloc [iz,iz])] [],S 18 (.build [iz,iz] [(0,1,(.t 12)),(1,1,(.t 17))]),SD (some 5) (.alloc [iz,iz]) true [] [],St 2 5 18]
def r2:Rg:=fun _=>[M 19 0,Ln 20 19,MI 21 0]
def r3:Rg:=fun _=>[Bn 22 .lss 21 20]
def r4:Rg:=fun _=>[Ix 23 6 19 21,Ld 24 true 6 23,S 7 (.alloc [iz,iz,iz,iz,iz,iz]),St 6 7 24]
def r5:Rg:=fun _=>[Fa 25 0 5,M 27 1,Fa 31 1 5,M 33 1,Ld 26 false 1 25,Ld 28 true 6 7,Ld 32 false 1 31,Ld 34 true 6 7,SD (some 29) (.call (.t 27) [.t 28]) false [] [I 26 (.load false 1 (.t 25)),I 32 (.load false 1 (.t 31)),I 34 (.load true 6 (.t 7))],S 30 (.mm false [.t 26,.t 29]),SD (some 35) (.call (.t 33) [.t 34]) false [] [I 26 (.load false 1 (.t 25)),I 32 (.load false 1 (.t 31))],S 36 (.mm true [.t 32,.t 35]),S 37 (.build [iz,iz] [(0,1,(.t 30)),(1,1,(.t 36))]),St 2 5 37]
def r6:Rg:=fun _=>[Bi 38 .add 21 1,M 21 38]
def r7:Rg:=fun _=>[Ld 39 true 2 5,St 2 4 39]
def ir:IR:=(.seq (.ops r0) (.seq (.ops r1) (.seq (.seq (.ops r2) (.block 0 (.loop (.seq (.ops r3) (.seq (.cond (.t 22) .skip (.exit 0)) (.seq (.block 1 (.seq (.ops r4) (.ops r5))) (.ops r6))))))) (.seq (.ops r7) .ret))))
def rs:List RV:=[.cell 4 true 2]
theorem e : Entr Pg fn_leak_sums 40 [] ir (RetK rs):=Entr.of (cfg:=cfg) follows Tryz.func113 (by kernel_rfl)
attribute [simp] r0 r1 r2 r3 r4 r5 r6 r7 ir rs
end leak_sums
namespace leak_hull_total_1
def r0:Rg:=fun _=>[S 3 (.box (.t 0)),MI 4 0]
def r1:Rg:=fun _=>[Ld 5 false 1 1,Ld 6 true 6 3,Ld 7 false 1 2,S 8 (.call (.t 5) [.t 6,.t 7]),M 4 8]
def ir:IR:=(.seq (.ops r0) (.seq (.ops r1) .ret))
def rs:List RV:=[.tmp 4]
theorem e : Entr Pg fn_leak_hull_total_1 9 [] ir (RetK rs):=Entr.of (cfg:=cf0) follows Tryz.func114 (by kernel_rfl)
attribute [simp] r0 r1 ir rs
end leak_hull_total_1
namespace slices_Collect_leak_inflow
def r0:Rg:=fun _=>[S 2 (.mv (.c .nils))]
def r1:Rg:=fun _=>[M 3 0,Cl 4 fn_slices_AppendSeq_leak_inflow_leak_inflow [(.c .nils),.t 3],M 2 4]
def ir:IR:=(.seq (.ops r0) (.seq (.ops r1) .ret))
def rs:List RV:=[.tmp 2]
theorem e : Entr Pg fn_slices_Collect_leak_inflow 5 [] ir (RetK rs):=Entr.of (cfg:=cf0) follows Tryz.func115 (by kernel_rfl)
attribute [simp] r0 r1 ir rs
end slices_Collect_leak_inflow
namespace leak_hull_inflows
def r0:Rg:=fun _=>[S 2 (.box (.t 0)),S 4 (.mv (.c .nilf))]
def r1:Rg:=fun _=>[Ld 6 false 1 2,M 7 1,Cl 8 fn_leak_hull_conditions [.t 6,.t 7],S 5 (.alloc [.nils]),St 1 5 8]
def r2:Rg:=fun _=>[S 9 (.mkF (.func fn_leak_hull_inflows_1) [] [.t 2,.t 5]),M 4 9]
def ir:IR:=(.seq (.ops r0) (.seq (.ops r1) (.seq (.ops r2) .ret)))
def rs:List RV:=[.tmp 4]
theorem e : Entr Pg fn_leak_hull_inflows 10 [] ir (RetK rs):=Entr.of (cfg:=cf0) follows Tryz.func116 (by kernel_rfl)
attribute [simp] r0 r1 r2 ir rs
end leak_hull_inflows
namespace leak_hull_every
def r0:Rg:=fun _=>[S 2 (.mv (.c (.int .u64 0)))]
def r1:Rg:=fun _=>[M 3 0,S 4 (.nilck Pg (.t 3)),Fa 5 0 4,Fa 6 1 5,Ld 7 false 1 6,Ln 8 7,S 9 (.bin .shl (.c (.int .u64 1)) (.t 8)),S 10 (.bin .sub (.t 9) (.c (.int .u64 1))),M 2 10]
def ir:IR:=(.seq (.ops r0) (.seq (.ops r1) .ret))
def rs:List RV:=[.tmp 2]
theorem e : Entr Pg fn_leak_hull_every 11 [] ir (RetK rs):=Entr.of (cfg:=cf0) follows Tryz.func117 (by kernel_rfl)
attribute [simp] r0 r1 ir rs
end leak_hull_every
namespace pitch_within
def r0:Rg:=fun _=>[S 6 (.mv (.c (.bool false)))]
def r1:Rg:=fun _=>[M 7 1,M 8 0,Bn 9 .leq 7 8,M 10 9,Mg 11 10 true 0,Mg 12 10 true 2,SG 13 10 true (.bin .leq (.t 11) (.t 12)),Pa 14 10 13,M 6 14]
def ir:IR:=(.seq (.ops r0) (.seq (.ops r1) .ret))
def rs:List RV:=[.tmp 6]
theorem e : Entr Pg fn_pitch_within 15 [] ir (RetK rs):=Entr.of (cfg:=cf0) follows Tryz.func118 (by kernel_rfl)
attribute [simp] r0 r1 ir rs
end pitch_within
namespace pitch_open_1
def r0:Rg:=fun _=>[S 3 (.mv (.c (.bool false)))]
def r1:Rg:=fun _=>[M 4 0,Fa 5 0 1,Ld 6 false 1 5,S 7 (.bin .shl (ci 1) (.t 6)),Bi 8 .sub 7 1,Cp 9 fn_pitch_within [.t 4,ci 0,.t 8],M 3 9]
def ir:IR:=(.seq (.ops r0) (.seq (.ops r1) .ret))
def rs:List RV:=[.tmp 3]
theorem e : Entr Pg fn_pitch_open_1 10 [] ir (RetK rs):=Entr.of (cfg:=cf0) follows Tryz.func119 (by kernel_rfl)
attribute [simp] r0 r1 ir rs
end pitch_open_1
namespace pitch_joined
def r0:Rg:=fun _=>[S 2 (.mv (.c (.int .u64 0)))]
def r1:Rg:=fun _=>[M 5 0,Ln 6 5,MI 7 0]
def r2:Rg:=fun _=>[Bn 8 .lss 7 6]
def r3:Rg:=fun _=>[Ix 9 1 5 7,Ld 10 false 1 9,M 4 10]
def r4:Rg:=fun _=>[M 11 2,M 12 4,Bn 13 .or 11 12,M 2 13]
def r5:Rg:=fun _=>[Bi 14 .add 7 1,M 7 14]
def r6:Rg:=fun _=>[M 15 2,M 2 15]
def ir:IR:=(.seq (.ops r0) (.seq (.seq (.ops r1) (.block 0 (.loop (.seq (.ops r2) (.seq (.cond (.t 8) .skip (.exit 0)) (.seq (.block 1 (.seq (.ops r3) (.ops r4))) (.ops r5))))))) (.seq (.ops r6) .ret)))
def rs:List RV:=[.tmp 2]
theorem e : Entr Pg fn_pitch_joined 16 [] ir (RetK rs):=Entr.of (cfg:=cf0) follows Tryz.func120 (by kernel_rfl)
attribute [simp] r0 r1 r2 r3 r4 r5 r6 ir rs
end pitch_joined
namespace pitch_rest_int
def r0:Rg:=fun _=>[S 4 (.box (.t 1)),MI 6 0]
def r1:Rg:=fun _=>[M 7 2,M 6 7]
def ir:IR:=(.seq (.ops r0) (.seq (.ops r1) .ret))
def rs:List RV:=[.tmp 6]
theorem e : Entr Pg fn_pitch_rest_int 8 [] ir (RetK rs):=Entr.of (cfg:=cf0) follows Tryz.func121 (by kernel_rfl)
attribute [simp] r0 r1 ir rs
end pitch_rest_int
namespace pitch_pitch_ways_1
def cfg:Cfg:={ pure:=pures,raw:=[7] }
def r0:Rg:=fun _=>[MI 4 0]
def r1:Rg:=fun _=>[M 5 0,M 6 1,SR 7 (.bin .add (.t 5) (.t 6)),M 4 7]
def ir:IR:=(.seq (.ops r0) (.seq (.ops r1) .ret))
def rs:List RV:=[.tmp 4]
theorem e : Entr Pg fn_pitch_pitch_ways_1 8 [] ir (RetK rs):=Entr.of (cfg:=cfg) follows Tryz.func122 (by kernel_rfl)
attribute [simp] r0 r1 ir rs
end pitch_pitch_ways_1
namespace pitch_hours_count
def r0:Rg:=fun _=>[MI 2 0]
def r1:Rg:=fun _=>[M 3 0,Cp 4 fn_math_bits_OnesCount [.t 3],M 2 4]
def ir:IR:=(.seq (.ops r0) (.seq (.ops r1) .ret))
def rs:List RV:=[.tmp 2]
theorem e : Entr Pg fn_pitch_hours_count 5 [] ir (RetK rs):=Entr.of (cfg:=cf0) follows Tryz.func123 (by kernel_rfl)
attribute [simp] r0 r1 ir rs
end pitch_hours_count
namespace pitch_stretch
def cfg:Cfg:={ pure:=pures,draws:=[(1,[q 0,q 1,q 2,q 3,q 4,q 5])] }
def r0:Rg:=fun _=>[S 4 (.mv (.c (.int .u64 0)))]
def r1:Rg:=fun _=>[M 5 1,S 6 (.bin .shl (.c (.int .u64 1)) (.t 5)),M 7 0,S 8 (.bin .shl (.c (.int .u64 1)) (.t 7)),Bn 9 .sub 6 8,M 4 9]
def ir:IR:=(.seq (.ops r0) (.seq (.ops r1) .ret))
def rs:List RV:=[.tmp 4]
theorem e : Entr Pg fn_pitch_stretch 10 [] ir (RetK rs):=Entr.of (cfg:=cfg) follows Tryz.func124 (by kernel_rfl)
attribute [simp] r0 r1 ir rs
end pitch_stretch
namespace pitch_tell_int_1
def cfg:Cfg:={ pure:=pures,draws:=[(1,[q 0,q 1,q 2,q 3,q 4,q 5,q 6,q 7,q 8]),(5,[q 0,q 2,q 1,q 4,q 3,q 5]),(17,[q 0,q 2,q 1,q 4,q 3,q 5])] }
def r0:Rg:=fun _=>[S 5 (.box (.t 0)),MI 6 0,S 7 (.mv (.c (.bool false)))]
def r1:Rg:=fun _=>[Fa 16 0 5,Ld 17 false 1 16,Ld 18 false 1 1,S 19 (.nilck Pg (.t 18)),Fa 20 0 19,Fa 21 4 20,Ld 22 false 1 21,Ln 23 22,Bn 24 .eql 17 23]
def r2:Rg:=fun _=>[Fa 25 0 2,Ld 26 false 1 25,M 6 26,S 7 (.mv (.c (.bool true)))]
def r3:Rg:=fun _=>[Ld 28 false 1 3,Ld 29 true 4 5,S 30 (.lookup (true,[.i,.i,.i,.i]) true (.agg [iz,(.bool false)]) (.t 28) (.t 29)),M 27 30,X 31 27 0,X 32 27 1,S 8 (.alloc [iz,(.bool false)]),St 2 8 31,M 9 32]
def r4:Rg:=fun _=>[M 33 9]
def r5:Rg:=fun _=>[Fa 34 0 8,Fa 36 1 8,Ld 35 false 1 34,M 6 35,Ld 37 false 1 36,M 7 37]
def r6:Rg:=fun _=>[S 10 (.alloc [iz,(.bool false)])]
def r7:Rg:=fun _=>[Ld 38 false 1 1,Ld 39 true 4 5,Cl 40 fn_pitch_pitch_steps [.t 38,.t 39]]
def r8:Rg:=fun _=>[S 11 (.alloc [iz,iz]),St 2 11 41]
def r9:Rg:=fun _=>[S 12 (.alloc [iz,(.int .u64 0),(.int .u64 0),(.int .u64 0)]),St 4 12 42]
def r10:Rg:=fun _=>[Ld 44 false 1 4,Ld 45 true 4 12,S 46 (.call (.t 44) [.t 45]),M 43 46,X 47 43 0,X 48 43 1,M 13 47,M 14 48]
def r11:Rg:=fun _=>[M 49 14,S 50 (.un .not (.t 49))]
def r12:Rg:=fun _=>[Fa 51 1 2,Ld 52 false 1 51,Fa 53 0 5,Ld 54 false 1 53,Ld 55 true 2 11,M 56 13,S 57 (.call (.t 52) [.t 54,.t 55,.t 56]),M 15 57]
def r13:Rg:=fun _=>[Fa 58 1 10,Ld 59 false 1 58]
def r14:Rg:=fun _=>[Fa 60 2 2,Ld 61 false 1 60,Fa 62 0 10,Ld 63 false 1 62,M 64 15,S 65 (.call (.t 61) [.t 63,.t 64]),Fa 66 0 10,St 1 66 65]
def r15:Rg:=fun _=>[M 67 15,S 68 (.build [iz,(.bool false)] [(0,1,(.t 67)),(1,1,(.c (.bool true)))]),St 2 10 68]
def r16:Rg:=fun _=>[Ld 69 false 1 3,Ld 70 true 4 5,Ld 71 true 2 10,SN (.mapU (true,[.i,.i,.i,.i]) (.t 69) (.t 70) (.t 71))]
def r17:Rg:=fun _=>[Fa 72 0 10,Fa 74 1 10,Ld 73 false 1 72,M 6 73,Ld 75 false 1 74,M 7 75]
def ir:IR:=(.seq (.ops r0) (.seq (.seq (.ops r1) (.cond (.t 24) (.seq (.ops r2) .ret) .skip)) (.seq (.seq (.ops r3) (.seq (.ops r4) (.cond (.t 33) (.seq (.ops r5) .ret) .skip))) (.seq (.ops r6) (.seq (.seq (.ops r7) (.block 0 (.rangeF (.t 40) [41,42] (.seq (.ops r8) (.ops r9)) (.block 1 (.seq (.ops r10) (.seq (.seq (.ops r11) (.cond (.t 50) (.exit 1) .skip)) (.seq (.ops r12) (.seq (.ops r13) (.cond (.t 59) (.ops r14) (.ops r15)))))))))) (.seq (.ops r16) (.seq (.ops r17) .ret)))))))
def rs:List RV:=[.tmp 6,.tmp 7]
theorem e : Entr Pg fn_pitch_tell_int_1 76 [] ir (RetK rs):=Entr.of (cfg:=cfg) follows Tryz.func125 (by kernel_rfl)
attribute [simp] r0 r1 r2 r3 r4 r5 r6 r7 r8 r9 r10 r11 r12 r13 r14 r15 r16 r17 ir rs
end pitch_tell_int_1
namespace pitch_pitch_steps_1
def r0:Rg:=fun _=>[Ld 10 false 1 1,S 11 (.mkF (.func fn_pitch_pitch_alone) [.t 10] []),M 4 11]
def r1:Rg:=fun _=>[Ld 12 false 1 1,S 13 (.nilck Pg (.t 12)),Fa 14 0 13,Fa 15 3 14,Ld 16 false 1 15,Ln 17 16,MI 18 0]
def r2:Rg:=fun _=>[Bn 19 .lss 18 17]
def r3:Rg:=fun _=>[M 20 18,M 5 20]
def r4:Rg:=fun _=>[Ld 21 false 1 1,S 22 (.nilck Pg (.t 21)),Fa 23 0 22,Fa 24 0 23,Ld 25 false 1 24,MI 26 0]
def r5:Rg:=fun _=>[Bn 27 .lss 26 25]
def r6:Rg:=fun _=>[M 28 26,M 6 28]
def r7:Rg:=fun _=>[M 29 5,M 30 6,S 31 (.build [iz,iz] [(0,1,(.t 29)),(1,1,(.t 30))]),S 7 (.alloc [iz,iz]),St 2 7 31]
def r8:Rg:=fun _=>[Ld 32 false 1 1,Fa 33 0 2,Ld 34 false 1 33,M 35 6,Cp 36 fn_pitch_pitch_takes [.t 32,.t 34,.t 35],M 8 36]
def r9:Rg:=fun _=>[M 37 8,M 38 5,Fa 39 1 2,S 40 (.ixA 3 1 (.t 39) (.t 38)),Ld 41 false 1 40,Cp 42 fn_pitch_hours_meets [.t 37,.t 41],M 43 42,Mg 44 43 false 4,Fg 45 43 false 0 2,Lg 46 43 false false 1 45,Lg 47 43 false true 2 7,SG 48 43 false (.call (.t 44) [.t 46,.t 47]),SG 49 43 false (.un .not (.t 48)),Po 50 43 49]
def r10:Rg:=fun _=>[Ld 51 true 4 2,S 9 (.alloc [iz,(.int .u64 0),(.int .u64 0),(.int .u64 0)]),St 4 9 51]
def r11:Rg:=fun _=>[Fa 52 0 9,Ld 53 false 1 52,Bi 54 .add 53 1,Fa 55 0 9,St 1 55 54]
def r12:Rg:=fun _=>[M 56 5,M 57 5,Fa 58 1 2,S 59 (.ixA 3 1 (.t 58) (.t 57)),Ld 60 false 1 59,M 61 8,S 62 (.bsl 2 [(.int .u64 0),(.int .u64 0)] [(0,1,(.t 60)),(1,1,(.t 61))]),Cl 63 fn_pitch_joined [.t 62],Fa 64 1 9,S 65 (.ixA 3 1 (.t 64) (.t 56)),St 1 65 63]
def r13:Rg:=fun _=>[M 66 0,Ld 67 true 2 7,Ld 68 true 4 9,S 69 (.call (.t 66) [.t 67,.t 68]),S 70 (.un .not (.t 69))]
def r14:Rg:=fun _=>[Bi 71 .add 26 1,M 26 71]
def r15:Rg:=fun _=>[Bi 72 .add 18 1,M 18 72]
def ir:IR:=(.seq (.ops r0) (.seq (.ops r1) (.block 0 (.loop (.seq (.ops r2) (.seq (.cond (.t 19) .skip (.exit 0)) (.seq (.block 1 (.seq (.ops r3) (.seq .skip (.seq (.ops r4) (.block 2 (.loop (.seq (.ops r5) (.seq (.cond (.t 27) .skip (.exit 2)) (.seq (.block 3 (.seq (.ops r6) (.seq (.ops r7) (.seq (.ops r8) (.seq (.seq (.ops r9) (.cond (.t 50) (.exit 3) .skip)) (.seq (.ops r10) (.seq (.ops r11) (.seq (.ops r12) (.seq (.ops r13) (.cond (.t 70) .ret .skip)))))))))) (.ops r14)))))))))) (.ops r15))))))))
def rs:List RV:=[]
theorem e : Entr Pg fn_pitch_pitch_steps_1 73 [] ir (RetK rs):=Entr.of (cfg:=cf0) follows Tryz.func126 (by kernel_rfl)
attribute [simp] r0 r1 r2 r3 r4 r5 r6 r7 r8 r9 r10 r11 r12 r13 r14 r15 ir rs
end pitch_pitch_steps_1
namespace pitch_pitch_alone
def r0:Rg:=fun _=>[S 5 (.box (.t 2)),S 6 (.mv (.c (.bool false)))]
def r1:Rg:=fun _=>[M 7 0,M 8 1,Ld 9 true 2 5,S 10 (.build [] []),S 11 (.mkI 303 (.t 10)),S 12 (.build [] []),S 13 (.mkI 304 (.t 12)),S 14 (.build [] []),S 15 (.mkI 305 (.t 14)),S 16 (.bsl 3 [.nili,.nili,.nili] [(0,1,(.t 11)),(1,1,(.t 13)),(2,1,(.t 15))]),Cl 17 fn_pitch_pitch_broken [.t 7,.t 8,.t 9,.t 16],Bi 18 .eql 17 0,M 6 18]
def ir:IR:=(.seq (.ops r0) (.seq (.ops r1) .ret))
def rs:List RV:=[.tmp 6]
theorem e : Entr Pg fn_pitch_pitch_alone 19 [] ir (RetK rs):=Entr.of (cfg:=cf0) follows Tryz.func127 (by kernel_rfl)
attribute [simp] r0 r1 ir rs
end pitch_pitch_alone
namespace pitch_pitch_takes
def cfg:Cfg:={ pure:=pures,draws:=[(1,[q 0,q 1,q 2,q 3,q 4,q 6,q 7,q 8,q 9,q 10,q 11,q 5,q 12,q 13,q 14,q 15,q 16])] }
def r0:Rg:=fun _=>[S 6 (.mv (.c (.int .u64 0)))]
def r1:Rg:=fun _=>[M 7 2,M 8 0,S 9 (.nilck Pg (.t 8)),Fa 10 0 9,Fa 11 0 10,M 13 0,M 14 1,M 15 2,M 16 0,S 17 (.nilck Pg (.t 16)),Fa 18 6 17,Ld 12 false 1 11,Ld 19 false 1 18,Cp 20 fn_pitch_pitch_hot [.t 13,.t 14,.t 15,.t 19],S 21 (.mm false [.t 12,.t 20]),Cp 22 fn_pitch_stretch [.t 7,.t 21],M 6 22]
def ir:IR:=(.seq (.ops r0) (.seq (.ops r1) .ret))
def rs:List RV:=[.tmp 6]
theorem e : Entr Pg fn_pitch_pitch_takes 23 [] ir (RetK rs):=Entr.of (cfg:=cfg) follows Tryz.func128 (by kernel_rfl)
attribute [simp] r0 r1 ir rs
end pitch_pitch_takes
namespace pitch_hours_meets
def r0:Rg:=fun _=>[S 4 (.mv (.c (.bool false)))]
def r1:Rg:=fun _=>[M 5 0,M 6 1,Bn 7 .and 5 6,S 8 (.bin .neq (.t 7) (.c (.int .u64 0))),M 4 8]
def ir:IR:=(.seq (.ops r0) (.seq (.ops r1) .ret))
def rs:List RV:=[.tmp 4]
theorem e : Entr Pg fn_pitch_hours_meets 9 [] ir (RetK rs):=Entr.of (cfg:=cf0) follows Tryz.func129 (by kernel_rfl)
attribute [simp] r0 r1 ir rs
end pitch_hours_meets
namespace iron_within
def r0:Rg:=fun _=>[S 6 (.mv (.c (.bool false)))]
def r1:Rg:=fun _=>[M 7 1,M 8 0,Bn 9 .leq 7 8,M 10 9,Mg 11 10 true 0,Mg 12 10 true 2,SG 13 10 true (.bin .leq (.t 11) (.t 12)),Pa 14 10 13,M 6 14]
def ir:IR:=(.seq (.ops r0) (.seq (.ops r1) .ret))
def rs:List RV:=[.tmp 6]
theorem e : Entr Pg fn_iron_within 15 [] ir (RetK rs):=Entr.of (cfg:=cf0) follows Tryz.func130 (by kernel_rfl)
attribute [simp] r0 r1 ir rs
end iron_within
namespace iron_irons_isStrake
def r0:Rg:=fun _=>[S 4 (.mv (.c (.bool false)))]
def r1:Rg:=fun _=>[M 5 1,M 6 0,S 7 (.nilck Pg (.t 6)),Fa 8 0 7,Fa 9 3 8,Ld 10 false 1 9,Ln 11 10,Bi 12 .sub 11 1,Cp 13 fn_iron_within [.t 5,ci 0,.t 12],M 4 13]
def ir:IR:=(.seq (.ops r0) (.seq (.ops r1) .ret))
def rs:List RV:=[.tmp 4]
theorem e : Entr Pg fn_iron_irons_isStrake 14 [] ir (RetK rs):=Entr.of (cfg:=cf0) follows Tryz.func131 (by kernel_rfl)
attribute [simp] r0 r1 ir rs
end iron_irons_isStrake
namespace iron_tell_int
def r0:Rg:=fun _=>[S 2 (.box (.t 0)),S 3 (.box (.t 1)),S 4 (.mv (.c .nilf))]
def r1:Rg:=fun _=>[S 7 (.mkmap),S 5 (.alloc [.nilm]),St 1 5 7]
def r2:Rg:=fun _=>[S 6 (.alloc [.nilf])]
def r3:Rg:=fun _=>[S 8 (.mkF (.func fn_iron_tell_int_1) [] [.t 2,.t 3,.t 5,.t 6]),St 1 6 8]
def r4:Rg:=fun _=>[Ld 9 false 1 6,M 4 9]
def ir:IR:=(.seq (.ops r0) (.seq (.ops r1) (.seq (.ops r2) (.seq (.ops r3) (.seq (.ops r4) .ret)))))
def rs:List RV:=[.tmp 4]
theorem e : Entr Pg fn_iron_tell_int 10 [] ir (RetK rs):=Entr.of (cfg:=cf0) follows Tryz.func132 (by kernel_rfl)
attribute [simp] r0 r1 r2 r3 r4 ir rs
end iron_tell_int
namespace iron_irons_ways_1
def r0:Rg:=fun _=>[MI 6 0]
def r1:Rg:=fun _=>[M 7 2,M 6 7]
def ir:IR:=(.seq (.ops r0) (.seq (.ops r1) .ret))
def rs:List RV:=[.tmp 6]
theorem e : Entr Pg fn_iron_irons_ways_1 8 [] ir (RetK rs):=Entr.of (cfg:=cf0) follows Tryz.func133 (by kernel_rfl)
attribute [simp] r0 r1 ir rs
end iron_irons_ways_1
namespace iron_irons_ways_2
def cfg:Cfg:={ pure:=pures,raw:=[7] }
def r0:Rg:=fun _=>[MI 4 0]
def r1:Rg:=fun _=>[M 5 0,M 6 1,SR 7 (.bin .add (.t 5) (.t 6)),M 4 7]
def ir:IR:=(.seq (.ops r0) (.seq (.ops r1) .ret))
def rs:List RV:=[.tmp 4]
theorem e : Entr Pg fn_iron_irons_ways_2 8 [] ir (RetK rs):=Entr.of (cfg:=cfg) follows Tryz.func134 (by kernel_rfl)
attribute [simp] r0 r1 ir rs
end iron_irons_ways_2
namespace iron_tell_iron_wrong
def r0:Rg:=fun _=>[S 2 (.box (.t 0)),S 3 (.box (.t 1)),S 4 (.mv (.c .nilf))]
def r1:Rg:=fun _=>[S 7 (.mkmap),S 5 (.alloc [.nilm]),St 1 5 7]
def r2:Rg:=fun _=>[S 6 (.alloc [.nilf])]
def r3:Rg:=fun _=>[S 8 (.mkF (.func fn_iron_tell_iron_wrong_1) [] [.t 2,.t 3,.t 5,.t 6]),St 1 6 8]
def r4:Rg:=fun _=>[Ld 9 false 1 6,M 4 9]
def ir:IR:=(.seq (.ops r0) (.seq (.ops r1) (.seq (.ops r2) (.seq (.ops r3) (.seq (.ops r4) .ret)))))
def rs:List RV:=[.tmp 4]
theorem e : Entr Pg fn_iron_tell_iron_wrong 10 [] ir (RetK rs):=Entr.of (cfg:=cf0) follows Tryz.func135 (by kernel_rfl)
attribute [simp] r0 r1 r2 r3 r4 ir rs
end iron_tell_iron_wrong
namespace iron_irons_least_1
def cfg:Cfg:={ pure:=pures,draws:=[(1,[q 2,q 3,q 0,q 1,q 4,⟨5,true,[],[]⟩,q 6,q 7])] }
def r0:Rg:=fun _=>[S 6 (.box (.t 2)),S 7 (.alloc [iz,iz])]
def r1:Rg:=fun _=>[M 10 0,M 11 1,Ld 8 true 2 6,Ld 9 false 1 3,Cp 12 fn_iron_irons_wrong [.t 9,.t 10,.t 11],SD (some 13) (.bsl 1 [iz,iz] [(0,2,(.t 12))]) true [] [],Cl 14 fn_iron_wrong_plus [.t 8,.t 13],St 2 7 14]
def ir:IR:=(.seq (.ops r0) (.seq (.ops r1) .ret))
def rs:List RV:=[.cell 7 true 2]
theorem e : Entr Pg fn_iron_irons_least_1 15 [] ir (RetK rs):=Entr.of (cfg:=cfg) follows Tryz.func136 (by kernel_rfl)
attribute [simp] r0 r1 ir rs
end iron_irons_least_1
namespace iron_wrong_plus
def cfg:Cfg:={ pure:=pures,raw:=[17,22] }
def r0:Rg:=fun _=>[S 2 (.box (.t 0)),S 4 (.alloc [iz,iz])]
def r1:Rg:=fun _=>[M 7 1,Ln 8 7,MI 9 0]
def r2:Rg:=fun _=>[Bn 10 .lss 9 8]
def r3:Rg:=fun _=>[Ix 11 2 7 9,Ld 12 true 2 11,S 6 (.alloc [iz,iz]),St 2 6 12]
def r4:Rg:=fun _=>[Fa 13 0 2,Ld 14 false 1 13,Fa 15 0 6,Ld 16 false 1 15,SR 17 (.bin .add (.t 14) (.t 16)),Fa 18 1 2,Ld 19 false 1 18,Fa 20 1 6,Ld 21 false 1 20,SR 22 (.bin .add (.t 19) (.t 21)),S 23 (.build [iz,iz] [(0,1,(.t 17)),(1,1,(.t 22))]),St 2 2 23]
def r5:Rg:=fun _=>[Bi 24 .add 9 1,M 9 24]
def r6:Rg:=fun _=>[Ld 25 true 2 2,St 2 4 25]
def ir:IR:=(.seq (.ops r0) (.seq (.seq (.ops r1) (.block 0 (.loop (.seq (.ops r2) (.seq (.cond (.t 10) .skip (.exit 0)) (.seq (.block 1 (.seq (.ops r3) (.ops r4))) (.ops r5))))))) (.seq (.ops r6) .ret)))
def rs:List RV:=[.cell 4 true 2]
theorem e : Entr Pg fn_iron_wrong_plus 26 [] ir (RetK rs):=Entr.of (cfg:=cfg) follows Tryz.func137 (by kernel_rfl)
attribute [simp] r0 r1 r2 r3 r4 r5 r6 ir rs
end iron_wrong_plus
namespace iron_irons_wrong
def cfg:Cfg:={ pure:=pures,draws:=[(6,[q 0,q 2,q 3,q 4,q 1,⟨5,true,[],[]⟩,q 6,q 7])] }
def r0:Rg:=fun _=>[S 6 (.alloc [iz,iz])]
def r1:Rg:=fun _=>[S 7 (.mv (fc fn_iron_wrong_plus))]
def r2:Rg:=fun _=>[M 10 0,S 11 (.nilck Pg (.t 10)),Fa 12 0 11,Fa 13 4 12,Ld 14 false 1 13,Ln 15 14,MI 16 0]
def r3:Rg:=fun _=>[Bn 17 .lss 16 15]
def r4:Rg:=fun _=>[M 18 16,Ix 19 3 14 16,Ld 20 true 3 19,S 9 (.alloc [iz,iz,(.bool false)]),M 8 18,St 3 9 20]
def r5:Rg:=fun _=>[Fa 21 0 9,Ld 22 false 1 21,M 23 1,Bn 24 .eql 22 23,M 25 24,Mg 26 25 true 0,SG 27 25 true (.nilck Pg (.t 26)),Fg 28 25 true 6 27,Lg 29 25 true false 1 28,Mg 30 25 true 8,SG 31 25 true (.bin .shr (.t 29) (.t 30)),SG 32 25 true (.bin .and (.t 31) (.c (.int .u64 1))),SG 33 25 true (.bin .eql (.t 32) (.c (.int .u64 1))),Pa 34 25 33,M 35 34,Lg 36 35 true true 3 9,Gp 37 35 true fn_iron_claimOf [.t 36],Mg 38 35 true 2,SG 39 35 true (.inv (.t 37) "caulkworks/iron.right" [.t 38]),SG 40 35 true (.un .not (.t 39)),Pa 41 35 40]
def r6:Rg:=fun _=>[M 42 7,M 44 8,S 45 (.bin .shl (ci 1) (.t 44)),S 46 (.build [iz,iz] [(0,1,(ci 1)),(1,1,(.t 45))]),Ld 43 true 2 6,SD (some 47) (.bsl 1 [iz,iz] [(0,2,(.t 46))]) true [] [],S 48 (.call (.t 42) [.t 43,.t 47]),St 2 6 48]
def r7:Rg:=fun _=>[Bi 49 .add 16 1,M 16 49]
def r8:Rg:=fun _=>[Ld 50 true 2 6,St 2 6 50]
def ir:IR:=(.seq (.ops r0) (.seq (.ops r1) (.seq (.seq (.ops r2) (.block 0 (.loop (.seq (.ops r3) (.seq (.cond (.t 17) .skip (.exit 0)) (.seq (.block 1 (.seq (.ops r4) (.seq (.ops r5) (.cond (.t 41) (.ops r6) .skip)))) (.ops r7))))))) (.seq (.ops r8) .ret))))
def rs:List RV:=[.cell 6 true 2]
theorem e : Entr Pg fn_iron_irons_wrong 51 [] ir (RetK rs):=Entr.of (cfg:=cfg) follows Tryz.func138 (by kernel_rfl)
attribute [simp] r0 r1 r2 r3 r4 r5 r6 r7 r8 ir rs
end iron_irons_wrong
namespace iron_irons_least_2
def r0:Rg:=fun _=>[S 2 (.box (.t 0)),S 3 (.box (.t 1)),S 4 (.alloc [iz,iz])]
def r1:Rg:=fun _=>[Ld 5 true 2 3,Ld 6 true 2 2,Cp 7 fn_iron_wrong_less [.t 5,.t 6]]
def r2:Rg:=fun _=>[Ld 8 true 2 3,St 2 4 8]
def r3:Rg:=fun _=>[Ld 9 true 2 2,St 2 4 9]
def ir:IR:=(.seq (.ops r0) (.seq (.seq (.ops r1) (.cond (.t 7) (.seq (.ops r2) .ret) .skip)) (.seq (.ops r3) .ret)))
def rs:List RV:=[.cell 4 true 2]
theorem e : Entr Pg fn_iron_irons_least_2 10 [] ir (RetK rs):=Entr.of (cfg:=cf0) follows Tryz.func139 (by kernel_rfl)
attribute [simp] r0 r1 r2 r3 ir rs
end iron_irons_least_2
namespace iron_wrong_less
def r0:Rg:=fun _=>[S 2 (.box (.t 0)),S 3 (.box (.t 1)),S 4 (.mv (.c (.bool false)))]
def r1:Rg:=fun _=>[Fa 5 0 2,Ld 6 false 1 5,Fa 7 0 3,Ld 8 false 1 7,Bn 9 .lss 6 8,M 10 9,Fg 11 10 false 0 2,Lg 12 10 false false 1 11,Fg 13 10 false 0 3,Lg 14 10 false false 1 13,SG 15 10 false (.bin .eql (.t 12) (.t 14)),Mg 16 10 false 15,Fg 17 16 true 1 2,Lg 18 16 true false 1 17,Fg 19 16 true 1 3,Lg 20 16 true false 1 19,SG 21 16 true (.bin .lss (.t 18) (.t 20)),SG 22 10 false (.pick (.t 16) (.t 21) (.c (.bool false))),Po 23 10 22,M 4 23]
def ir:IR:=(.seq (.ops r0) (.seq (.ops r1) .ret))
def rs:List RV:=[.tmp 4]
theorem e : Entr Pg fn_iron_wrong_less 24 [] ir (RetK rs):=Entr.of (cfg:=cf0) follows Tryz.func140 (by kernel_rfl)
attribute [simp] r0 r1 ir rs
end iron_wrong_less
namespace iron_isStrake_1
def r0:Rg:=fun _=>[S 3 (.mv (.c (.bool false)))]
def r1:Rg:=fun _=>[M 4 0,Ld 5 false 1 1,Cp 6 fn_iron_irons_isStrake [.t 4,.t 5],M 3 6]
def ir:IR:=(.seq (.ops r0) (.seq (.ops r1) .ret))
def rs:List RV:=[.tmp 3]
theorem e : Entr Pg fn_iron_isStrake_1 7 [] ir (RetK rs):=Entr.of (cfg:=cf0) follows Tryz.func141 (by kernel_rfl)
attribute [simp] r0 r1 ir rs
end iron_isStrake_1
namespace iron_irons_owners_1
def r0:Rg:=fun _=>[MI 7 0]
def r1:Rg:=fun _=>[M 8 0,Ld 9 false 1 3,Bn 10 .eql 8 9]
def r2:Rg:=fun _=>[M 11 1,S 12 (.bin .shl (ci 1) (.t 11)),M 7 12]
def r3:Rg:=fun _=>[M 13 2,M 7 13]
def ir:IR:=(.seq (.ops r0) (.seq (.seq (.ops r1) (.cond (.t 10) (.seq (.ops r2) .ret) .skip)) (.seq (.ops r3) .ret)))
def rs:List RV:=[.tmp 7]
theorem e : Entr Pg fn_iron_irons_owners_1 14 [] ir (RetK rs):=Entr.of (cfg:=cf0) follows Tryz.func142 (by kernel_rfl)
attribute [simp] r0 r1 r2 r3 ir rs
end iron_irons_owners_1
namespace iron_irons_owners_2
def r0:Rg:=fun _=>[MI 4 0]
def r1:Rg:=fun _=>[M 5 0,M 6 1,Bn 7 .or 5 6,M 4 7]
def ir:IR:=(.seq (.ops r0) (.seq (.ops r1) .ret))
def rs:List RV:=[.tmp 4]
theorem e : Entr Pg fn_iron_irons_owners_2 8 [] ir (RetK rs):=Entr.of (cfg:=cf0) follows Tryz.func143 (by kernel_rfl)
attribute [simp] r0 r1 ir rs
end iron_irons_owners_2
namespace iron_irons_fits
def cfg:Cfg:={ pure:=pures,draws:=[(4,[q 0,q 1,q 2,q 3,q 5,q 8,q 12,q 14,q 4,q 6,q 7,q 9,q 10,q 11,q 13,q 15,q 16,q 17])] }
def r0:Rg:=fun _=>[S 6 (.mv (.c (.bool false)))]
def r1:Rg:=fun _=>[M 9 0,S 10 (.nilck Pg (.t 9)),Fa 11 0 10,Fa 12 3 11,Ld 13 false 1 12,M 14 2,Ix 15 1 13 14,Ld 16 false 1 15,Ln 17 16,MI 18 0]
def r2:Rg:=fun _=>[Bn 19 .lss 18 17]
def r3:Rg:=fun _=>[Ix 20 3 16 18,Ld 21 true 3 20,S 8 (.alloc [iz,iz,iz]),St 3 8 21]
def r4:Rg:=fun _=>[M 22 0,S 23 (.nilck Pg (.t 22)),Fa 24 0 23,Fa 25 1 24,M 27 1,Fa 30 0 8,Fa 34 1 8,Fa 36 2 8,Ld 26 false 1 25,Ix 28 1 26 27,Ld 29 false 1 28,Ld 31 false 1 30,Ix 32 1 29 31,Ld 33 false 1 32,Ld 35 false 1 34,Ld 37 false 1 36,Cp 38 fn_iron_within [.t 33,.t 35,.t 37],S 39 (.un .not (.t 38))]
def r5:Rg:=fun _=>[S 6 (.mv (.c (.bool false)))]
def r6:Rg:=fun _=>[Bi 40 .add 18 1,M 18 40]
def r7:Rg:=fun _=>[S 6 (.mv (.c (.bool true)))]
def ir:IR:=(.seq (.ops r0) (.seq (.seq (.ops r1) (.block 0 (.loop (.seq (.ops r2) (.seq (.cond (.t 19) .skip (.exit 0)) (.seq (.block 1 (.seq (.ops r3) (.seq (.ops r4) (.cond (.t 39) (.seq (.ops r5) .ret) .skip)))) (.ops r6))))))) (.seq (.ops r7) .ret)))
def rs:List RV:=[.tmp 6]
theorem e : Entr Pg fn_iron_irons_fits 41 [] ir (RetK rs):=Entr.of (cfg:=cfg) follows Tryz.func144 (by kernel_rfl)
attribute [simp] r0 r1 r2 r3 r4 r5 r6 r7 ir rs
end iron_irons_fits
namespace math_bits_OnesCount8
def r0:Rg:=fun _=>[MI 2 0]
def r1:Rg:=fun _=>[M 3 0,S 4 (.ixT (.c (.str [0,1,1,2,1,2,2,3,1,2,2,3,2,3,3,4,1,2,2,3,2,3,3,4,2,3,3,4,3,4,4,5,1,2,2,3,2,3,3,4,2,3,3,4,3,4,4,5,2,3,3,4,3,4,4,5,3,4,4,5,4,5,5,6,1,2,2,3,2,3,3,4,2,3,3,4,3,4,4,5,2,3,3,4,3,4,4,5,3,4,4,5,4,5,5,6,2,3,3,4,3,4,4,5,3,4,4,5,4,5,5,6,3,4,4,5,4,5,5,6,4,5,5,6,5,6,6,7,1,2,2,3,2,3,3,4,2,3,3,4,3,4,4,5,2,3,3,4,3,4,4,5,3,4,4,5,4,5,5,6,2,3,3,4,3,4,4,5,3,4,4,5,4,5,5,6,3,4,4,5,4,5,5,6,4,5,5,6,5,6,6,7,2,3,3,4,3,4,4,5,3,4,4,5,4,5,5,6,3,4,4,5,4,5,5,6,4,5,5,6,5,6,6,7,3,4,4,5,4,5,5,6,4,5,5,6,5,6,6,7,4,5,5,6,5,6,6,7,5,6,6,7,6,7,7,8])) (.t 3)),S 5 (.conv .i64 (.t 4)),M 2 5]
def ir:IR:=(.seq (.ops r0) (.seq (.ops r1) .ret))
def rs:List RV:=[.tmp 2]
theorem e : Entr Pg fn_math_bits_OnesCount8 6 [] ir (RetK rs):=Entr.of (cfg:=cf0) follows Tryz.func145 (by kernel_rfl)
attribute [simp] r0 r1 ir rs
end math_bits_OnesCount8
namespace bytes_Clone
def r0:Rg:=fun _=>[S 2 (.mv (.c .nils))]
def r1:Rg:=fun _=>[M 3 0,S 4 (.eqN .s false (.t 3))]
def r2:Rg:=fun _=>[S 2 (.mv (.c .nils))]
def r3:Rg:=fun _=>[S 5 (.bsl 0 [] []),M 6 0,S 7 (.app 1 1 (.t 5) (.t 6)),M 2 7]
def ir:IR:=(.seq (.ops r0) (.seq (.seq (.ops r1) (.cond (.t 4) (.seq (.ops r2) .ret) .skip)) (.seq (.ops r3) .ret)))
def rs:List RV:=[.tmp 2]
theorem e : Entr Pg fn_bytes_Clone 8 [] ir (RetK rs):=Entr.of (cfg:=cf0) follows Tryz.func146 (by kernel_rfl)
attribute [simp] r0 r1 r2 r3 ir rs
end bytes_Clone
namespace book_packed
def cfg:Cfg:={ pure:=pures,draws:=[(6,[q 0,q 1,q 2,q 3,q 5,q 6,q 7,q 4,q 8,q 9,q 10])] }
def r0:Rg:=fun _=>[S 2 (.mv (.c .nils))]
def r1:Rg:=fun _=>[M 6 0,Ln 7 6,Bi 8 .add 7 7,Bi 9 .quo 8 8,S 10 (.mksl 1 [(.int .u8 0)] (.t 9) (.t 9)),M 3 10]
def r2:Rg:=fun _=>[M 11 0,Ln 12 11,MI 13 0]
def r3:Rg:=fun _=>[Bn 14 .lss 13 12]
def r4:Rg:=fun _=>[M 15 13,Ix 16 1 11 13,Ld 17 false 1 16,M 4 15,M 5 17]
def r5:Rg:=fun _=>[M 18 5]
def r6:Rg:=fun _=>[M 19 3,M 20 4,Bi 21 .quo 20 8,Ix 22 1 19 21,M 24 4,Bi 25 .rem 24 8,S 26 (.bin .shr (.c (.int .u8 128)) (.t 25)),Ld 23 false 1 22,Bn 27 .or 23 26,Ix 28 1 19 21,St 1 28 27]
def r7:Rg:=fun _=>[Bi 29 .add 13 1,M 13 29]
def r8:Rg:=fun _=>[M 30 3,M 2 30]
def ir:IR:=(.seq (.ops r0) (.seq (.ops r1) (.seq (.seq (.ops r2) (.block 0 (.loop (.seq (.ops r3) (.seq (.cond (.t 14) .skip (.exit 0)) (.seq (.block 1 (.seq (.ops r4) (.seq (.ops r5) (.cond (.t 18) (.ops r6) .skip)))) (.ops r7))))))) (.seq (.ops r8) .ret))))
def rs:List RV:=[.tmp 2]
theorem e : Entr Pg fn_book_packed 31 [] ir (RetK rs):=Entr.of (cfg:=cfg) follows Tryz.func147 (by kernel_rfl)
attribute [simp] r0 r1 r2 r3 r4 r5 r6 r7 r8 ir rs
end book_packed
namespace math_bits_LeadingZeros8
def r0:Rg:=fun _=>[MI 2 0]
def r1:Rg:=fun _=>[M 3 0,Cp 4 fn_math_bits_Len8 [.t 3],S 5 (.bin .sub (ci 8) (.t 4)),M 2 5]
def ir:IR:=(.seq (.ops r0) (.seq (.ops r1) .ret))
def rs:List RV:=[.tmp 2]
theorem e : Entr Pg fn_math_bits_LeadingZeros8 6 [] ir (RetK rs):=Entr.of (cfg:=cf0) follows Tryz.func148 (by kernel_rfl)
attribute [simp] r0 r1 ir rs
end math_bits_LeadingZeros8
namespace wage_answer
def r0:Rg:=fun _=>[S 5 (.recov),M 2 5]
def r1:Rg:=fun _=>[M 6 2,S 7 (.eqN .i true (.t 6))]
def r2:Rg:=fun _=>[M 9 2,S 10 (.tyAs 322 true (.int .i64 0) (.t 9)),M 8 10,X 11 8 0,X 12 8 1,M 3 11,M 4 12]
def r3:Rg:=fun _=>[M 13 4,S 14 (.un .not (.t 13))]
def r4:Rg:=fun _=>[M 15 2,SN (.panic (.t 15))]
def r5:Rg:=fun _=>[M 16 0,M 17 3,S 18 (.nilck Pg (.t 16)),St 1 18 17]
def ir:IR:=(.seq (.ops r0) (.seq (.ops r1) (.cond (.t 7) (.seq (.ops r2) (.seq (.seq (.ops r3) (.cond (.t 14) (.ops r4) .skip)) (.ops r5))) .skip)))
def rs:List RV:=[]
theorem e : Entr Pg fn_wage_answer 19 [] ir (RetK rs):=Entr.of (cfg:=cf0) follows Tryz.func149 (by kernel_rfl)
def irA:IR:=(.seq (.ops r1) (.cond (.t 7) (.seq (.ops r2) (.seq (.seq (.ops r3) (.cond (.t 14) (.ops r4) .skip)) (.ops r5))) .skip))
theorem ans {v p:AVal} {h:Heap} {K:Heap→Prop} (F:Nat) (a:AW ⟨Pg,F,19,false,[]⟩ irA (AnsK K) (upd (upd (initT [p]) 5 v) 2 v) [] h):AAns Pg fn_wage_answer v p h K:=
 AAns.of follows Tryz.func149 (show recAns Pg cf0 Tryz.f149=some (irA,19,5,2) by kernel_rfl) (by decide) a
attribute [simp] r0 r1 r2 r3 r4 r5 ir rs irA
end wage_answer
namespace wage_open
def cfg:Cfg:={ pure:=pures,draws:=[(12,[q 0,q 2,q 4,q 1,q 3,q 5,q 6,q 7,q 8,q 9,q 10,q 11,q 13,q 15,q 12,q 14,q 16,q 17,q 18,q 19,q 20,q 21,q 22])] }
def r0:Rg:=fun _=>[S 2 (.box (.t 0)),S 4 (.alloc [iz,.nils,.nils])]
def r1:Rg:=fun _=>[Fa 10 0 2,Ld 11 false 1 10,Cp 12 fn_wage_within [.t 11,ci 1,ci 4],M 13 12,Fg 14 13 true 1 2,Lg 15 13 true false 1 14,SG 16 13 true (.len (.t 15)),SG 17 13 true (.bin .leq (.t 16) (ci 3)),Pa 18 13 17,M 19 18,Fg 20 19 true 2 2,Lg 21 19 true false 1 20,SG 22 19 true (.len (.t 21)),SG 23 19 true (.bin .leq (.t 22) (ci 6)),Pa 24 19 23,Cl 25 fn_wage_ask [.t 24,ci 1]]
def r2:Rg:=fun _=>[Fa 26 1 2,Ld 27 false 1 26,Ln 28 27,MI 29 0]
def r3:Rg:=fun _=>[Bn 30 .lss 29 28]
def r4:Rg:=fun _=>[Ix 31 2 27 29,Ld 32 true 2 31,S 6 (.alloc [iz,iz]),St 2 6 32]
def r5:Rg:=fun _=>[Fa 33 0 6,Ld 34 false 1 33,Cp 35 fn_wage_within [.t 34,ci 0,ci 20],M 36 35,Fg 37 36 true 1 6,Lg 38 36 true false 1 37,Gp 39 36 true fn_wage_within [.t 38,ci 0,ci 50],Pa 40 36 39,Cl 41 fn_wage_ask [.t 40,ci 1]]
def r6:Rg:=fun _=>[Bi 42 .add 29 1,M 29 42]
def r7:Rg:=fun _=>[Ld 43 true 3 2,S 44 (.build [iz,.nils,.nils] [(0,3,(.t 43))]),S 7 (.alloc [iz,.nils,.nils]),St 3 7 44]
def r8:Rg:=fun _=>[Fa 45 2 2,Ld 46 false 1 45,Ln 47 46,MI 48 0]
def r9:Rg:=fun _=>[Bn 49 .lss 48 47]
def r10:Rg:=fun _=>[Ix 50 8 46 48,Ld 51 true 8 50,S 9 (.alloc [iz,iz,iz,iz,iz,iz,iz,iz]),St 8 9 51]
def r11:Rg:=fun _=>[Ld 52 true 3 7,Fa 53 0 9,Ld 54 false 1 53,Cp 55 fn_wage_wages_isCrew [.t 52,.t 54],M 56 55,Lg 57 56 true true 3 7,Fg 58 56 true 1 9,Lg 59 56 true false 1 58,Gp 60 56 true fn_wage_wages_isSeam [.t 57,.t 59],Pa 61 56 60,M 62 61,Fg 63 62 true 6 9,Lg 64 62 true true 2 63,Gp 65 62 true fn_wage_isSpan [.t 64,ci 40],Pa 66 62 65,Cl 67 fn_wage_ask [.t 66,ci 1]]
def r12:Rg:=fun _=>[Fa 68 2 9,Fa 70 1 2,Fa 72 1 9,Ld 69 true 2 68,Ld 71 false 1 70,Ld 73 false 1 72,Ix 74 2 71 73,Fa 75 0 74,Ld 76 false 1 75,Cp 77 fn_wage_isSpan [.t 69,.t 76],M 78 77,Fg 79 78 true 4 9,Fg 81 78 true 1 2,Fg 83 78 true 1 9,Lg 80 78 true true 2 79,Lg 82 78 true false 1 81,Lg 84 78 true false 1 83,SG 85 78 true (.ixS 2 (.t 82) (.t 84)),Fg 86 78 true 0 85,Lg 87 78 true false 1 86,Gp 88 78 true fn_wage_isSpan [.t 80,.t 87],Pa 89 78 88,Cl 90 fn_wage_ask [.t 89,ci 1]]
def r13:Rg:=fun _=>[Bi 91 .add 48 1,M 48 91]
def r14:Rg:=fun _=>[M 92 1,Ld 93 true 3 7,S 94 (.call (.t 92) [.t 93]),Cl 95 fn_wage_ask [.t 94,ci 2]]
def r15:Rg:=fun _=>[Ld 96 true 3 7,St 3 4 96]
def ir:IR:=(.seq (.ops r0) (.seq (.ops r1) (.seq (.seq (.ops r2) (.block 0 (.loop (.seq (.ops r3) (.seq (.cond (.t 30) .skip (.exit 0)) (.seq (.block 1 (.seq (.ops r4) (.ops r5))) (.ops r6))))))) (.seq (.ops r7) (.seq (.seq (.ops r8) (.block 2 (.loop (.seq (.ops r9) (.seq (.cond (.t 49) .skip (.exit 2)) (.seq (.block 3 (.seq (.ops r10) (.seq (.ops r11) (.ops r12)))) (.ops r13))))))) (.seq (.ops r14) (.seq (.ops r15) .ret)))))))
def rs:List RV:=[.cell 4 true 3]
theorem e : Entr Pg fn_wage_open 97 [] ir (RetK rs):=Entr.of (cfg:=cfg) follows Tryz.func150 (by kernel_rfl)
attribute [simp] r0 r1 r2 r3 r4 r5 r6 r7 r8 r9 r10 r11 r12 r13 r14 r15 ir rs
end wage_open
namespace wage_Due_1
def r0:Rg:=fun _=>[S 2 (.box (.t 0)),S 3 (.mv (.c (.bool false)))]
def r1:Rg:=fun _=>[Ld 4 true 3 2,Ld 5 false 1 1,Cp 6 fn_wage_wages_isCrew [.t 4,.t 5],M 3 6]
def ir:IR:=(.seq (.ops r0) (.seq (.ops r1) .ret))
def rs:List RV:=[.tmp 3]
theorem e : Entr Pg fn_wage_Due_1 7 [] ir (RetK rs):=Entr.of (cfg:=cf0) follows Tryz.func151 (by kernel_rfl)
attribute [simp] r0 r1 ir rs
end wage_Due_1
namespace wage_wages_isCrew
def r0:Rg:=fun _=>[S 2 (.box (.t 0)),S 4 (.mv (.c (.bool false)))]
def r1:Rg:=fun _=>[M 5 1,Fa 6 0 2,Fa 7 0 6,Ld 8 false 1 7,Bi 9 .sub 8 1,Cp 10 fn_wage_within [.t 5,ci 0,.t 9],M 4 10]
def ir:IR:=(.seq (.ops r0) (.seq (.ops r1) .ret))
def rs:List RV:=[.tmp 4]
theorem e : Entr Pg fn_wage_wages_isCrew 11 [] ir (RetK rs):=Entr.of (cfg:=cf0) follows Tryz.func152 (by kernel_rfl)
attribute [simp] r0 r1 ir rs
end wage_wages_isCrew
namespace wage_wages_due
def cfg:Cfg:={ pure:=pures,draws:=[(1,[q 1,q 2,q 3,q 4,q 5,q 8,q 9,q 10,q 11,q 0,q 6,q 7,q 12,q 13,q 14])] }
def r0:Rg:=fun _=>[S 2 (.box (.t 0)),S 4 (.alloc [iz,iz])]
def r1:Rg:=fun _=>[M 6 1,M 7 1,S 8 (.build [iz] [(0,1,(.t 7))]),S 9 (.build [iz] [(0,1,(.t 8))]),S 10 (.mkI 329 (.t 9)),M 13 1,M 14 1,S 15 (.build [iz] [(0,1,(.t 14))]),S 16 (.mkI 327 (.t 15)),Ld 5 true 3 2,Cp 11 fn_wage_wages_coins [.t 5,.t 6,.t 10],Ld 12 true 3 2,Cp 17 fn_wage_wages_coins [.t 12,.t 13,.t 16],S 18 (.build [iz,iz] [(0,1,(.t 11)),(1,1,(.t 17))]),St 2 4 18]
def ir:IR:=(.seq (.ops r0) (.seq (.ops r1) .ret))
def rs:List RV:=[.cell 4 true 2]
theorem e : Entr Pg fn_wage_wages_due 19 [] ir (RetK rs):=Entr.of (cfg:=cfg) follows Tryz.func153 (by kernel_rfl)
attribute [simp] r0 r1 ir rs
end wage_wages_due
namespace wage_ask
def r0:Rg:=fun _=>[M 4 0,S 5 (.un .not (.t 4))]
def r1:Rg:=fun _=>[M 6 1,S 7 (.mkI 322 (.t 6)),SN (.panic (.t 7))]
def ir:IR:=(.seq (.ops r0) (.cond (.t 5) (.ops r1) .skip))
def rs:List RV:=[]
theorem e : Entr Pg fn_wage_ask 8 [] ir (RetK rs):=Entr.of (cfg:=cf0) follows Tryz.func154 (by kernel_rfl)
attribute [simp] r0 r1 ir rs
end wage_ask
namespace wage_within
def r0:Rg:=fun _=>[S 6 (.mv (.c (.bool false)))]
def r1:Rg:=fun _=>[M 7 1,M 8 0,Bn 9 .leq 7 8,M 10 9,Mg 11 10 true 0,Mg 12 10 true 2,SG 13 10 true (.bin .leq (.t 11) (.t 12)),Pa 14 10 13,M 6 14]
def ir:IR:=(.seq (.ops r0) (.seq (.ops r1) .ret))
def rs:List RV:=[.tmp 6]
theorem e : Entr Pg fn_wage_within 15 [] ir (RetK rs):=Entr.of (cfg:=cf0) follows Tryz.func155 (by kernel_rfl)
attribute [simp] r0 r1 ir rs
end wage_within
namespace slices_MinFunc_int_int
def r0:Rg:=fun _=>[MI 4 0]
def r1:Rg:=fun _=>[M 7 0,Ln 8 7,Bi 9 .lss 8 1]
def r2:Rg:=fun _=>[S 10 (.mkI 9 (.c (.str [115,108,105,99,101,115,46,77,105,110,70,117,110,99,58,32,101,109,112,116,121,32,108,105,115,116]))),SN (.panic (.t 10))]
def r3:Rg:=fun _=>[M 11 0,S 12 (.ixS 1 (.t 11) (ci 0)),Ld 13 false 1 12,M 5 13]
def r4:Rg:=fun _=>[MI 6 1]
def r5:Rg:=fun _=>[M 14 6,M 15 0,Ln 16 15,Bn 17 .lss 14 16]
def r7:Rg:=fun _=>[M 20 1,M 21 0,M 22 6,Ix 23 1 21 22,Ld 24 false 1 23,M 25 5,S 26 (.call (.t 20) [.t 24,.t 25]),Bi 27 .lss 26 0]
def r8:Rg:=fun _=>[M 28 0,M 29 6,Ix 30 1 28 29,Ld 31 false 1 30,M 5 31]
def r6:Rg:=fun _=>[M 18 6,Bi 19 .add 18 1,M 6 19]
def r9:Rg:=fun _=>[M 32 5,M 4 32]
def ir:IR:=(.seq (.ops r0) (.seq (.seq (.ops r1) (.cond (.t 9) (.ops r2) .skip)) (.seq (.ops r3) (.seq (.seq (.ops r4) (.block 0 (.loop (.seq (.seq (.ops r5) (.cond (.t 17) .skip (.exit 0))) (.seq (.block 1 (.seq (.ops r7) (.cond (.t 27) (.ops r8) .skip))) (.ops r6)))))) (.seq (.ops r9) .ret)))))
def rs:List RV:=[.tmp 4]
theorem e : Entr Pg fn_slices_MinFunc_int_int 33 [] ir (RetK rs):=Entr.of (cfg:=cf0) follows Tryz.func156 (by kernel_rfl)
attribute [simp] r0 r1 r2 r3 r4 r5 r7 r8 r6 r9 ir rs
end slices_MinFunc_int_int
namespace wage_Share_1
def cfg:Cfg:={ pure:=pures,draws:=[(1,[q 1,q 5,q 11,q 15,q 21,q 22,q 0,q 2,q 3,q 4,q 6,q 7,q 8,q 9,q 10,q 12,q 13,q 14,q 16,q 17,q 18,q 19,q 20,q 23,q 24,q 25,q 26])] }
def r0:Rg:=fun _=>[MI 6 0]
def r1:Rg:=fun _=>[M 8 1,M 12 0,M 18 0,M 22 1,M 28 0,M 29 1,Ld 7 false 1 2,Ix 9 1 7 8,Ld 10 false 1 9,Ld 11 false 1 3,Ix 13 1 11 12,Ld 14 false 1 13,Bi 15 .add 14 1,Bn 16 .mul 10 15,Ld 17 false 1 2,Ix 19 1 17 18,Ld 20 false 1 19,Ld 21 false 1 3,Ix 23 1 21 22,Ld 24 false 1 23,Bi 25 .add 24 1,Bn 26 .mul 20 25,Cp 27 fn_cmp_Compare_int [.t 16,.t 26],Cp 30 fn_cmp_Compare_int [.t 28,.t 29],S 31 (.bsl 2 [iz,iz] [(0,1,(.t 27)),(1,1,(.t 30))]),Cl 32 fn_cmp_Or_int [.t 31],M 6 32]
def ir:IR:=(.seq (.ops r0) (.seq (.ops r1) .ret))
def rs:List RV:=[.tmp 6]
theorem e : Entr Pg fn_wage_Share_1 33 [] ir (RetK rs):=Entr.of (cfg:=cfg) follows Tryz.func157 (by kernel_rfl)
attribute [simp] r0 r1 ir rs
end wage_Share_1
namespace cmp_Or_int
def r0:Rg:=fun _=>[MI 2 0]
def r1:Rg:=fun _=>[MI 3 0]
def r2:Rg:=fun _=>[M 6 0,Ln 7 6,MI 8 0]
def r3:Rg:=fun _=>[Bn 9 .lss 8 7]
def r4:Rg:=fun _=>[Ix 10 1 6 8,Ld 11 false 1 10,M 5 11]
def r5:Rg:=fun _=>[M 12 5,M 13 3,Bn 14 .neq 12 13]
def r6:Rg:=fun _=>[M 15 5,M 2 15]
def r7:Rg:=fun _=>[Bi 16 .add 8 1,M 8 16]
def r8:Rg:=fun _=>[M 17 3,M 2 17]
def ir:IR:=(.seq (.ops r0) (.seq (.ops r1) (.seq (.seq (.ops r2) (.block 0 (.loop (.seq (.ops r3) (.seq (.cond (.t 9) .skip (.exit 0)) (.seq (.block 1 (.seq (.ops r4) (.seq (.ops r5) (.cond (.t 14) (.seq (.ops r6) .ret) .skip)))) (.ops r7))))))) (.seq (.ops r8) .ret))))
def rs:List RV:=[.tmp 2]
theorem e : Entr Pg fn_cmp_Or_int 18 [] ir (RetK rs):=Entr.of (cfg:=cf0) follows Tryz.func158 (by kernel_rfl)
attribute [simp] r0 r1 r2 r3 r4 r5 r6 r7 r8 ir rs
end cmp_Or_int
namespace cmp_Compare_int
def r0:Rg:=fun _=>[MI 4 0]
def r1:Rg:=fun _=>[M 7 0,Cp 8 fn_cmp_isNaN_int [.t 7],M 5 8]
def r2:Rg:=fun _=>[M 9 1,Cp 10 fn_cmp_isNaN_int [.t 9],M 6 10]
def r3:Rg:=fun _=>[M 11 5]
def r4:Rg:=fun _=>[M 12 6]
def r5:Rg:=fun _=>[MI 4 0]
def r6:Rg:=fun _=>[MI 4 (-1)]
def r7:Rg:=fun _=>[M 13 6]
def r8:Rg:=fun _=>[MI 4 1]
def r9:Rg:=fun _=>[M 14 0,M 15 1,Bn 16 .lss 14 15]
def r10:Rg:=fun _=>[MI 4 (-1)]
def r11:Rg:=fun _=>[M 17 0,M 18 1,Bn 19 .gtr 17 18]
def r12:Rg:=fun _=>[MI 4 1]
def r13:Rg:=fun _=>[MI 4 0]
def ir:IR:=(.seq (.ops r0) (.seq (.ops r1) (.seq (.ops r2) (.seq (.seq (.ops r3) (.cond (.t 11) (.seq (.seq (.ops r4) (.cond (.t 12) (.seq (.ops r5) .ret) .skip)) (.seq (.ops r6) .ret)) .skip)) (.seq (.seq (.ops r7) (.cond (.t 13) (.seq (.ops r8) .ret) .skip)) (.seq (.seq (.ops r9) (.cond (.t 16) (.seq (.ops r10) .ret) .skip)) (.seq (.seq (.ops r11) (.cond (.t 19) (.seq (.ops r12) .ret) .skip)) (.seq (.ops r13) .ret))))))))
def rs:List RV:=[.tmp 4]
theorem e : Entr Pg fn_cmp_Compare_int 20 [] ir (RetK rs):=Entr.of (cfg:=cf0) follows Tryz.func159 (by kernel_rfl)
attribute [simp] r0 r1 r2 r3 r4 r5 r6 r7 r8 r9 r10 r11 r12 r13 ir rs
end cmp_Compare_int
namespace gang_Deal
def cfg:Cfg:={ pure:=pures,draws:=[(3,[q 0,q 1,q 2,q 3,q 4,q 8,q 9,q 10,q 11,q 15,q 5,q 6,q 7,q 12,q 13,q 14,q 16,q 17,q 18]),(17,[q 0,q 1,q 4,⟨2,true,[],[]⟩,⟨3,false,[],[4]⟩,q 5,q 6])],keep:=[2,3,4] }
def r0:Rg:=fun _=>[S 1 (.box (.t 0)),MI 2 0,S 3 (.mv (.c .nils)),S 4 (.alloc [iz])]
def r1:Rg:=fun _=>[SN (.defer (fc fn_gang_answer) [.t 4])]
def r2:Rg:=fun _=>[Ld 13 true 7 1,Cl 14 fn_gang_open [.t 13,(fc fn_gang_always)],M 5 14]
def r3:Rg:=fun _=>[M 15 5,M 16 5,S 17 (.nilck Pg (.t 16)),Fa 18 0 17,Fa 19 0 18,M 23 5,S 24 (.nilck Pg (.t 23)),Fa 25 0 24,Fa 26 1 25,M 30 5,Ld 20 false 1 19,Ln 21 20,Cp 22 fn_gang_every [.t 21],Ld 27 false 1 26,Ln 28 27,Cp 29 fn_gang_every [.t 28],Cl 31 fn_gang_gangs_tables [.t 30],Cl 32 fn_gang_gangs_deals [.t 15,.t 22,.t 29,.t 31],M 6 32]
def r4:Rg:=fun _=>[S 7 (.alloc [(.int .u64 0),(.int .u64 0),(.int .u64 0)])]
def r5:Rg:=fun _=>[M 33 6,Ld 34 true 3 7,S 35 (.call (.t 33) [ci 0,.t 34]),M 8 35]
def r6:Rg:=fun _=>[M 36 8,Bi 37 .lss 36 10000,Cl 38 fn_gang_ask [.t 37,ci 4]]
def r7:Rg:=fun _=>[S 9 (.mv (.c .nils))]
def r8:Rg:=fun _=>[M 39 5,S 40 (.nilck Pg (.t 39)),Fa 41 0 40,Fa 42 0 41,Ld 43 false 1 42,Ln 44 43,MI 45 0]
def r9:Rg:=fun _=>[Bn 46 .lss 45 44]
def r10:Rg:=fun _=>[M 47 45,M 10 47]
def r11:Rg:=fun _=>[M 48 5,S 49 (.nilck Pg (.t 48)),Fa 50 0 49,Fa 51 1 50,Ld 52 false 1 51,Ln 53 52,MI 54 0]
def r12:Rg:=fun _=>[Bn 55 .lss 54 53]
def r13:Rg:=fun _=>[M 56 54,M 11 56]
def r14:Rg:=fun _=>[Ld 57 true 3 7,S 12 (.alloc [(.int .u64 0),(.int .u64 0),(.int .u64 0)]),St 3 12 57]
def r15:Rg:=fun _=>[M 58 11,M 59 11,S 60 (.ixA 3 1 (.t 12) (.t 59)),Ld 61 false 1 60,M 62 10,Cp 63 fn_gang_set_with [.t 61,.t 62],S 64 (.ixA 3 1 (.t 12) (.t 58)),St 1 64 63]
def r16:Rg:=fun _=>[M 65 6,M 66 10,Bi 67 .add 66 1,Ld 68 true 3 12,S 69 (.call (.t 65) [.t 67,.t 68]),M 70 8,Bn 71 .eql 69 70]
def r17:Rg:=fun _=>[M 72 9,M 73 11,Ld 76 true 3 12,SD (some 74) (.bsl 1 [iz] [(0,1,(.t 73))]) true [] [],SD (some 75) (.app 1 8 (.t 72) (.t 74)) false [] [I 76 (.load true 3 (.t 12))],M 9 75,St 3 7 76]
def r18:Rg:=fun _=>[Bi 77 .add 54 1,M 54 77]
def r19:Rg:=fun _=>[Bi 78 .add 45 1,M 45 78]
def r20:Rg:=fun _=>[M 79 8,M 80 9,M 2 79,M 3 80,SN (.store 1 (.t 4) (ci 0))]
def ir:IR:=(.seq (.ops r0) (.seq (.ops r1) (.seq (.ops r2) (.seq (.ops r3) (.seq (.ops r4) (.seq (.ops r5) (.seq (.ops r6) (.seq (.ops r7) (.seq (.seq (.ops r8) (.block 0 (.loop (.seq (.ops r9) (.seq (.cond (.t 46) .skip (.exit 0)) (.seq (.block 1 (.seq (.ops r10) (.seq (.ops r11) (.block 2 (.loop (.seq (.ops r12) (.seq (.cond (.t 55) .skip (.exit 2)) (.seq (.block 3 (.seq (.ops r13) (.seq (.ops r14) (.seq (.ops r15) (.seq (.ops r16) (.cond (.t 71) (.seq (.ops r17) (.exit 2)) .skip)))))) (.ops r18))))))))) (.ops r19))))))) (.seq (.ops r20) .ret))))))))))
def rs:List RV:=[.tmp 2,.tmp 3,.cell 4 false 1]
theorem e : Entr Pg fn_gang_Deal 81 [2,3,4] ir (RetA Pg rs):=Entr.ofA (cfg:=cfg) follows Tryz.func160 (by kernel_rfl)
attribute [simp] r0 r1 r2 r3 r4 r5 r6 r7 r8 r9 r10 r11 r12 r13 r14 r15 r16 r17 r18 r19 r20 ir rs
end gang_Deal
namespace strings_CutPrefix
def r0:Rg:=fun _=>[S 4 (.mv (.c (.str []))),S 5 (.mv (.c (.bool false)))]
def r1:Rg:=fun _=>[M 6 0,M 7 1,Cl 8 fn_stringslite_CutPrefix [.t 6,.t 7],X 9 8 0,X 10 8 1,M 4 9,M 5 10]
def ir:IR:=(.seq (.ops r0) (.seq (.ops r1) .ret))
def rs:List RV:=[.tmp 4,.tmp 5]
theorem e : Entr Pg fn_strings_CutPrefix 11 [] ir (RetK rs):=Entr.of (cfg:=cf0) follows Tryz.func161 (by kernel_rfl)
attribute [simp] r0 r1 ir rs
end strings_CutPrefix
end Go.Cw
end
end
