/-
  The program's functions in the small form, the rest.
-/
import Derived.Test.YtemceffbimfblaaGreatDoorGa
set_option linter.unusedSectionVars false
set_option linter.unusedSimpArgs false
set_option linter.unusedVariables false
noncomputable section
section
namespace Go.Cw
open Go Go.Proofs Sh
namespace book_sideOf
def r0:Rg:=fun _=>[S 0 (.mv (.c .nilm))]
def r1:Rg:=fun _=>[S 4 (.mkmap),M 1 4]
def r2:Rg:=fun _=>[S 5 (.load true 3 (.c (.pv [(.str [112]),(.str [107]),(.str [115])]))),MI 6 0]
def r3:Rg:=fun _=>[Bi 7 .lss 6 3]
def r4:Rg:=fun _=>[M 8 6,S 9 (.ixV 3 1 false (.t 5) (.t 6)),M 2 8,M 3 9]
def r5:Rg:=fun _=>[M 10 1,M 11 3,M 12 2,Bi 13 .sub 12 1,SN (.mapU (false,[.s]) (.t 10) (.t 11) (.t 13))]
def r6:Rg:=fun _=>[Bi 14 .add 6 1,M 6 14]
def r7:Rg:=fun _=>[M 15 1,M 0 15]
def ir:IR:=(.seq (.ops r0) (.seq (.ops r1) (.seq (.seq (.ops r2) (.block 0 (.loop (.seq (.ops r3) (.seq (.cond (.t 7) .skip (.exit 0)) (.seq (.block 1 (.seq (.ops r4) (.ops r5))) (.ops r6))))))) (.seq (.ops r7) .ret))))
def rs:List RV:=[.tmp 0]
theorem e : Entr Pg fn_book_sideOf 16 [] ir (RetK rs):=Entr.of (cfg:=cf0) follows Tryz.func162 (by kernel_rfl)
attribute [simp] r0 r1 r2 r3 r4 r5 r6 r7 ir rs
end book_sideOf
namespace book_within
def r0:Rg:=fun _=>[S 6 (.mv (.c (.bool false)))]
def r1:Rg:=fun _=>[M 7 1,M 8 0,Bn 9 .leq 7 8,M 10 9,Mg 11 10 true 0,Mg 12 10 true 2,SG 13 10 true (.bin .leq (.t 11) (.t 12)),Pa 14 10 13,M 6 14]
def ir:IR:=(.seq (.ops r0) (.seq (.ops r1) .ret))
def rs:List RV:=[.tmp 6]
theorem e : Entr Pg fn_book_within 15 [] ir (RetK rs):=Entr.of (cfg:=cf0) follows Tryz.func166 (by kernel_rfl)
attribute [simp] r0 r1 ir rs
end book_within
namespace book_isSpan
def r0:Rg:=fun _=>[S 3 (.box (.t 0)),S 6 (.mv (.c (.bool false)))]
def r1:Rg:=fun _=>[M 7 1,Fa 8 0 3,Ld 9 false 1 8,Bn 10 .leq 7 9,M 11 10,Fg 12 11 true 0 3,Lg 13 11 true false 1 12,Fg 14 11 true 1 3,Lg 15 11 true false 1 14,SG 16 11 true (.bin .leq (.t 13) (.t 15)),Pa 17 11 16,M 18 17,Fg 19 18 true 1 3,Lg 20 18 true false 1 19,Mg 21 18 true 2,SG 22 18 true (.bin .leq (.t 20) (.t 21)),Pa 23 18 22,M 6 23]
def ir:IR:=(.seq (.ops r0) (.seq (.ops r1) .ret))
def rs:List RV:=[.tmp 6]
theorem e : Entr Pg fn_book_isSpan 24 [] ir (RetK rs):=Entr.of (cfg:=cf0) follows Tryz.func167 (by kernel_rfl)
attribute [simp] r0 r1 ir rs
end book_isSpan
namespace book_lines_1
def r0:Rg:=fun _=>[Ld 6 false 1 1,S 7 (.lenT (.t 6)),Bi 8 .gtr 7 0]
def r1:Rg:=fun _=>[Ld 10 false 1 1,SP 11 (.call (fc fn_strings_Cut) [.t 10,(.c (.str [10]))]),M 9 11,X 12 9 0,X 13 9 1,X 14 9 2,M 3 12,M 4 13,M 5 14]
def r2:Rg:=fun _=>[M 15 5,Cl 16 fn_book_ask [.t 15,ci 8]]
def r3:Rg:=fun _=>[M 17 4,St 1 1 17]
def r4:Rg:=fun _=>[M 18 0,M 19 3,S 20 (.call (.t 18) [.t 19]),S 21 (.un .not (.t 20))]
def ir:IR:=(.block 0 (.loop (.seq (.seq (.ops r0) (.cond (.t 8) .skip (.exit 0))) (.block 1 (.seq (.ops r1) (.seq (.ops r2) (.seq (.ops r3) (.seq (.ops r4) (.cond (.t 21) .ret .skip)))))))))
def rs:List RV:=[]
theorem e : Entr Pg fn_book_lines_1 22 [] ir (RetK rs):=Entr.of (cfg:=cf0) follows Tryz.func169 (by kernel_rfl)
attribute [simp] r0 r1 r2 r3 r4 ir rs
end book_lines_1
namespace leak_set_has
def r0:Rg:=fun _=>[S 4 (.mv (.c (.bool false)))]
def r1:Rg:=fun _=>[M 5 0,M 6 1,Bn 7 .shr 5 6,S 8 (.bin .and (.t 7) (.c (.int .u64 1))),S 9 (.bin .eql (.t 8) (.c (.int .u64 1))),M 4 9]
def ir:IR:=(.seq (.ops r0) (.seq (.ops r1) .ret))
def rs:List RV:=[.tmp 4]
theorem e : Entr Pg fn_leak_set_has 10 [] ir (RetK rs):=Entr.of (cfg:=cf0) follows Tryz.func170 (by kernel_rfl)
attribute [simp] r0 r1 ir rs
end leak_set_has
namespace leak_flows
def r0:Rg:=fun _=>[MI 2 0]
def r1:Rg:=fun _=>[M 5 0,Ln 6 5,MI 7 0]
def r2:Rg:=fun _=>[Bn 8 .lss 7 6]
def r3:Rg:=fun _=>[Ix 9 1 5 7,Ld 10 false 1 9,M 4 10]
def r4:Rg:=fun _=>[M 11 2,M 12 4,Bn 13 .add 11 12,M 2 13]
def r5:Rg:=fun _=>[Bi 14 .add 7 1,M 7 14]
def r6:Rg:=fun _=>[M 15 2,M 2 15]
def ir:IR:=(.seq (.ops r0) (.seq (.seq (.ops r1) (.block 0 (.loop (.seq (.ops r2) (.seq (.cond (.t 8) .skip (.exit 0)) (.seq (.block 1 (.seq (.ops r3) (.ops r4))) (.ops r5))))))) (.seq (.ops r6) .ret)))
def rs:List RV:=[.tmp 2]
theorem e : Entr Pg fn_leak_flows 16 [] ir (RetK rs):=Entr.of (cfg:=cf0) follows Tryz.func171 (by kernel_rfl)
attribute [simp] r0 r1 r2 r3 r4 r5 r6 ir rs
end leak_flows
namespace slices_AppendSeq_leak_inflow_leak_inflow
def r0:Rg:=fun _=>[S 2 (.box (.t 0)),S 4 (.mv (.c .nils))]
def r1:Rg:=fun _=>[M 6 1]
def r2:Rg:=fun _=>[S 5 (.alloc [iz,iz,iz,iz,iz,iz]),St 6 5 7]
def r3:Rg:=fun _=>[Ld 8 false 1 2,Ld 9 true 6 5,S 10 (.bsl 1 [iz,iz,iz,iz,iz,iz] [(0,6,(.t 9))]),S 11 (.app 6 48 (.t 8) (.t 10)),St 1 2 11]
def r4:Rg:=fun _=>[Ld 12 false 1 2,M 4 12]
def ir:IR:=(.seq (.ops r0) (.seq (.seq (.ops r1) (.block 0 (.rangeF (.t 6) [7] (.ops r2) (.block 1 (.ops r3))))) (.seq (.ops r4) .ret)))
def rs:List RV:=[.tmp 4]
theorem e : Entr Pg fn_slices_AppendSeq_leak_inflow_leak_inflow 13 [] ir (RetK rs):=Entr.of (cfg:=cf0) follows Tryz.func172 (by kernel_rfl)
attribute [simp] r0 r1 r2 r3 r4 ir rs
end slices_AppendSeq_leak_inflow_leak_inflow
namespace leak_hull_conditions
def cfg:Cfg:={ pure:=pures,draws:=[(6,[q 0,q 1,q 2,q 4,q 9,q 3,q 5,q 6,q 10,⟨7,false,[],[10]⟩,q 8,q 11,q 12,q 13,q 14,q 15])] }
def r0:Rg:=fun _=>[S 4 (.mv (.c .nils))]
def r1:Rg:=fun _=>[S 8 (.build [] []),S 9 (.mkI 345 (.t 8)),S 10 (.bsl 1 [.nili] [(0,1,(.t 9))]),M 5 10]
def r2:Rg:=fun _=>[M 11 0,S 12 (.nilck Pg (.t 11)),Fa 13 0 12,Fa 14 1 13,Ld 15 false 1 14,Ln 16 15,MI 17 0]
def r3:Rg:=fun _=>[Bn 18 .lss 17 16]
def r4:Rg:=fun _=>[M 19 17,Ix 20 4 15 17,Ld 21 true 4 20,S 7 (.alloc [iz,iz,iz,iz]),M 6 19,St 4 7 21]
def r5:Rg:=fun _=>[M 22 1,M 23 6,Bn 24 .shr 22 23,S 25 (.bin .and (.t 24) (.c (.int .u64 1))),S 26 (.bin .eql (.t 25) (.c (.int .u64 1)))]
def r6:Rg:=fun _=>[M 27 5,M 28 0,Fa 29 0 7,Fa 31 1 7,Fa 36 2 7,Ld 30 false 1 29,Ld 32 false 1 31,S 33 (.build [iz,iz] [(0,1,(.t 30)),(1,1,(.t 32))]),Ld 37 true 2 36,SD (some 34) (.call (fc fn_leak_hull_wet) [.t 28,.t 33]) false [] [I 37 (.load true 2 (.t 36))],S 35 (.build [(.int .u64 0)] [(0,1,(.t 34))]),S 38 (.build [(.int .u64 0),iz,iz] [(0,1,(.t 35)),(1,2,(.t 37))]),S 39 (.mkI 349 (.t 38)),S 40 (.bsl 1 [.nili] [(0,1,(.t 39))]),S 41 (.app 1 16 (.t 27) (.t 40)),M 5 41]
def r7:Rg:=fun _=>[Bi 42 .add 17 1,M 17 42]
def r8:Rg:=fun _=>[M 43 5,M 4 43]
def ir:IR:=(.seq (.ops r0) (.seq (.ops r1) (.seq (.seq (.ops r2) (.block 0 (.loop (.seq (.ops r3) (.seq (.cond (.t 18) .skip (.exit 0)) (.seq (.block 1 (.seq (.ops r4) (.seq (.ops r5) (.cond (.t 26) (.ops r6) .skip)))) (.ops r7))))))) (.seq (.ops r8) .ret))))
def rs:List RV:=[.tmp 4]
theorem e : Entr Pg fn_leak_hull_conditions 44 [] ir (RetK rs):=Entr.of (cfg:=cfg) follows Tryz.func173 (by kernel_rfl)
attribute [simp] r0 r1 r2 r3 r4 r5 r6 r7 r8 ir rs
end leak_hull_conditions
namespace leak_hull_inflows_1
def r0:Rg:=fun _=>[S 3 (.box (.t 0))]
def r1:Rg:=fun _=>[S 4 (.alloc [.nilf])]
def r2:Rg:=fun _=>[S 5 (.mkF (.func fn_leak_hull_inflows_1_1) [] [.t 1,.t 3,.t 2,.t 4]),St 1 4 5]
def r3:Rg:=fun _=>[Ld 6 false 1 4,S 7 (.build [iz,iz,iz,iz,iz,iz] []),S 8 (.call (.t 6) [.t 7,ci 0])]
def ir:IR:=(.seq (.ops r0) (.seq (.ops r1) (.seq (.ops r2) (.ops r3))))
def rs:List RV:=[]
theorem e : Entr Pg fn_leak_hull_inflows_1 9 [] ir (RetK rs):=Entr.of (cfg:=cf0) follows Tryz.func174 (by kernel_rfl)
attribute [simp] r0 r1 r2 r3 ir rs
end leak_hull_inflows_1
namespace leak_hull_inflows_1_1
def cfg:Cfg:={ pure:=pures,draws:=[(10,[q 0,q 2,q 3,q 8,q 9,q 10,q 1,q 4,q 5,q 6,q 7,q 11,q 12])] }
def r0:Rg:=fun _=>[S 6 (.box (.t 0)),S 8 (.mv (.c (.bool false)))]
def r1:Rg:=fun _=>[M 12 1,Ld 13 false 1 2,S 14 (.nilck Pg (.t 13)),Fa 15 2 14,Ld 16 false 1 15,Ln 17 16,Bn 18 .eql 12 17]
def r2:Rg:=fun _=>[Ld 19 false 1 3,Ld 20 true 6 6,S 21 (.call (.t 19) [.t 20]),M 8 21]
def r3:Rg:=fun _=>[MI 9 0]
def r4:Rg:=fun _=>[M 22 9,Ld 23 false 1 2,S 24 (.nilck Pg (.t 23)),Fa 25 2 24,Ld 26 false 1 25,M 27 1,Ix 28 1 26 27,Ld 29 false 1 28,Bn 30 .leq 22 29]
def r6:Rg:=fun _=>[M 33 1,M 34 9,S 35 (.ixA 6 1 (.t 6) (.t 33)),St 1 35 34]
def r7:Rg:=fun _=>[Ld 36 false 1 4,Ln 37 36,MI 38 0]
def r8:Rg:=fun _=>[Bn 39 .lss 38 37]
def r9:Rg:=fun _=>[Ix 40 1 36 38,Ld 41 false 1 40,M 11 41]
def r10:Rg:=fun _=>[M 42 11,M 44 1,Bi 45 .add 44 1,S 50 (.mkF (.method "caulkworks/leak.can") [.t 42] []),S 51 (.nilck Pg (.t 50)),M 52 42,Ld 43 true 6 6,Ld 46 false 1 2,S 47 (.nilck Pg (.t 46)),Fa 48 2 47,Ld 49 false 1 48,S 53 (.inv (.t 52) "caulkworks/leak.can" [.t 43,.t 45,.t 49]),S 54 (.un .not (.t 53))]
def r11:Rg:=fun _=>[Bi 55 .add 38 1,M 38 55]
def r12:Rg:=fun _=>[Ld 56 false 1 5,Ld 57 true 6 6,M 58 1,Bi 59 .add 58 1,S 60 (.call (.t 56) [.t 57,.t 59]),S 61 (.un .not (.t 60))]
def r13:Rg:=fun _=>[S 8 (.mv (.c (.bool false)))]
def r5:Rg:=fun _=>[M 31 9,Bi 32 .add 31 1,M 9 32]
def r14:Rg:=fun _=>[S 8 (.mv (.c (.bool true)))]
def ir:IR:=(.seq (.ops r0) (.seq (.seq (.ops r1) (.cond (.t 18) (.seq (.ops r2) .ret) .skip)) (.seq .skip (.seq (.seq (.ops r3) (.block 0 (.loop (.seq (.seq (.ops r4) (.cond (.t 30) .skip (.exit 0))) (.seq (.block 1 (.seq (.ops r6) (.seq (.seq (.ops r7) (.block 2 (.loop (.seq (.ops r8) (.seq (.cond (.t 39) .skip (.exit 2)) (.seq (.block 3 (.seq (.ops r9) (.seq (.ops r10) (.cond (.t 54) (.exit 1) .skip)))) (.ops r11))))))) (.seq (.ops r12) (.cond (.t 61) (.seq (.ops r13) .ret) .skip))))) (.ops r5)))))) (.seq (.ops r14) .ret)))))
def rs:List RV:=[.tmp 8]
theorem e : Entr Pg fn_leak_hull_inflows_1_1 62 [] ir (RetK rs):=Entr.of (cfg:=cfg) follows Tryz.func175 (by kernel_rfl)
attribute [simp] r0 r1 r2 r3 r4 r6 r7 r8 r9 r10 r11 r12 r13 r5 r14 ir rs
end leak_hull_inflows_1_1
namespace math_bits_OnesCount
def r0:Rg:=fun _=>[MI 2 0]
def r1:Rg:=fun _=>[M 3 0,S 4 (.conv .u32 (.t 3)),Cp 5 fn_math_bits_OnesCount32 [.t 4],M 2 5]
def r2:Rg:=fun _=>[M 6 0,Cp 7 fn_math_bits_OnesCount64 [.t 6],M 2 7]
def ir:IR:=(.seq (.ops r0) (.seq (.cond (.c (.bool false)) (.seq (.ops r1) .ret) .skip) (.seq (.ops r2) .ret)))
def rs:List RV:=[.tmp 2]
theorem e : Entr Pg fn_math_bits_OnesCount 8 [] ir (RetK rs):=Entr.of (cfg:=cf0) follows Tryz.func176 (by kernel_rfl)
attribute [simp] r0 r1 r2 ir rs
end math_bits_OnesCount
namespace pitch_pitch_broken
def r0:Rg:=fun _=>[S 6 (.box (.t 2)),MI 8 0]
def r1:Rg:=fun _=>[M 11 3,Ln 12 11,MI 13 0]
def r2:Rg:=fun _=>[Bn 14 .lss 13 12]
def r3:Rg:=fun _=>[M 15 13,Ix 16 1 11 13,Ld 17 false 1 16,M 9 15,M 10 17]
def r4:Rg:=fun _=>[M 18 10,M 19 0,M 20 1,Ld 21 true 2 6,S 22 (.inv (.t 18) "caulkworks/pitch.broken" [.t 19,.t 20,.t 21])]
def r5:Rg:=fun _=>[M 23 9,Bi 24 .add 23 1,M 8 24]
def r6:Rg:=fun _=>[Bi 25 .add 13 1,M 13 25]
def r7:Rg:=fun _=>[MI 8 0]
def ir:IR:=(.seq (.ops r0) (.seq (.seq (.ops r1) (.block 0 (.loop (.seq (.ops r2) (.seq (.cond (.t 14) .skip (.exit 0)) (.seq (.block 1 (.seq (.ops r3) (.seq (.ops r4) (.cond (.t 22) (.seq (.ops r5) .ret) .skip)))) (.ops r6))))))) (.seq (.ops r7) .ret)))
def rs:List RV:=[.tmp 8]
theorem e : Entr Pg fn_pitch_pitch_broken 26 [] ir (RetK rs):=Entr.of (cfg:=cf0) follows Tryz.func177 (by kernel_rfl)
attribute [simp] r0 r1 r2 r3 r4 r5 r6 r7 ir rs
end pitch_pitch_broken
namespace iron_tell_int_1
def cfg:Cfg:={ pure:=pures,draws:=[(1,[q 0,q 1,q 2,q 3,q 4,q 5,q 6,q 7,q 8]),(5,[q 0,q 2,q 1,q 4,q 3,q 5]),(17,[q 0,q 2,q 1,q 4,q 3,q 5])] }
def r0:Rg:=fun _=>[S 5 (.box (.t 0)),MI 6 0,S 7 (.mv (.c (.bool false)))]
def r1:Rg:=fun _=>[Fa 16 0 5,Ld 17 false 1 16,Ld 18 false 1 1,S 19 (.nilck Pg (.t 18)),Fa 20 0 19,Fa 21 3 20,Ld 22 false 1 21,Ln 23 22,Bn 24 .eql 17 23]
def r2:Rg:=fun _=>[Fa 25 0 2,Ld 26 false 1 25,M 6 26,S 7 (.mv (.c (.bool true)))]
def r3:Rg:=fun _=>[Ld 28 false 1 3,Ld 29 true 6 5,S 30 (.lookup (true,[.i,.i,.i,.i,.i,.i]) true (.agg [iz,(.bool false)]) (.t 28) (.t 29)),M 27 30,X 31 27 0,X 32 27 1,S 8 (.alloc [iz,(.bool false)]),St 2 8 31,M 9 32]
def r4:Rg:=fun _=>[M 33 9]
def r5:Rg:=fun _=>[Fa 34 0 8,Fa 36 1 8,Ld 35 false 1 34,M 6 35,Ld 37 false 1 36,M 7 37]
def r6:Rg:=fun _=>[S 10 (.alloc [iz,(.bool false)])]
def r7:Rg:=fun _=>[Ld 38 false 1 1,Ld 39 true 6 5,Cl 40 fn_iron_irons_next [.t 38,.t 39]]
def r8:Rg:=fun _=>[M 11 41]
def r9:Rg:=fun _=>[S 12 (.alloc [iz,iz,iz,iz,iz,iz]),St 6 12 42]
def r10:Rg:=fun _=>[Ld 44 false 1 4,Ld 45 true 6 12,S 46 (.call (.t 44) [.t 45]),M 43 46,X 47 43 0,X 48 43 1,M 13 47,M 14 48]
def r11:Rg:=fun _=>[M 49 14,S 50 (.un .not (.t 49))]
def r12:Rg:=fun _=>[Fa 51 1 2,Ld 52 false 1 51,Fa 53 0 5,Ld 54 false 1 53,M 55 11,M 56 13,S 57 (.call (.t 52) [.t 54,.t 55,.t 56]),M 15 57]
def r13:Rg:=fun _=>[Fa 58 1 10,Ld 59 false 1 58]
def r14:Rg:=fun _=>[Fa 60 2 2,Ld 61 false 1 60,Fa 62 0 10,Ld 63 false 1 62,M 64 15,S 65 (.call (.t 61) [.t 63,.t 64]),M 15 65]
def r15:Rg:=fun _=>[M 66 15,S 67 (.build [iz,(.bool false)] [(0,1,(.t 66)),(1,1,(.c (.bool true)))]),St 2 10 67]
def r16:Rg:=fun _=>[Ld 68 false 1 3,Ld 69 true 6 5,Ld 70 true 2 10,SN (.mapU (true,[.i,.i,.i,.i,.i,.i]) (.t 68) (.t 69) (.t 70))]
def r17:Rg:=fun _=>[Fa 71 0 10,Fa 73 1 10,Ld 72 false 1 71,M 6 72,Ld 74 false 1 73,M 7 74]
def ir:IR:=(.seq (.ops r0) (.seq (.seq (.ops r1) (.cond (.t 24) (.seq (.ops r2) .ret) .skip)) (.seq (.seq (.ops r3) (.seq (.ops r4) (.cond (.t 33) (.seq (.ops r5) .ret) .skip))) (.seq (.ops r6) (.seq (.seq (.ops r7) (.block 0 (.rangeF (.t 40) [41,42] (.seq (.ops r8) (.ops r9)) (.block 1 (.seq (.ops r10) (.seq (.seq (.ops r11) (.cond (.t 50) (.exit 1) .skip)) (.seq (.ops r12) (.seq (.seq (.ops r13) (.cond (.t 59) (.ops r14) .skip)) (.ops r15))))))))) (.seq (.ops r16) (.seq (.ops r17) .ret)))))))
def rs:List RV:=[.tmp 6,.tmp 7]
theorem e : Entr Pg fn_iron_tell_int_1 75 [] ir (RetK rs):=Entr.of (cfg:=cfg) follows Tryz.func178 (by kernel_rfl)
attribute [simp] r0 r1 r2 r3 r4 r5 r6 r7 r8 r9 r10 r11 r12 r13 r14 r15 r16 r17 ir rs
end iron_tell_int_1
namespace iron_irons_next
def r0:Rg:=fun _=>[S 2 (.box (.t 0)),S 3 (.box (.t 1)),S 4 (.mv (.c .nilf))]
def r1:Rg:=fun _=>[S 5 (.mkF (.func fn_iron_irons_next_1) [] [.t 3,.t 2]),M 4 5]
def ir:IR:=(.seq (.ops r0) (.seq (.ops r1) .ret))
def rs:List RV:=[.tmp 4]
theorem e : Entr Pg fn_iron_irons_next 6 [] ir (RetK rs):=Entr.of (cfg:=cf0) follows Tryz.func179 (by kernel_rfl)
attribute [simp] r0 r1 ir rs
end iron_irons_next
namespace iron_tell_iron_wrong_1
def cfg:Cfg:={ pure:=pures,draws:=[(1,[q 0,q 1,q 2,q 3,q 4,q 5,q 6,q 7,q 8]),(5,[q 0,q 2,q 1,q 3,⟨4,false,[],[3]⟩,q 5]),(17,[q 0,q 2,q 1,q 3,⟨4,false,[],[3]⟩,q 5])] }
def r0:Rg:=fun _=>[S 5 (.box (.t 0)),S 6 (.alloc [iz,iz]),S 7 (.mv (.c (.bool false)))]
def r1:Rg:=fun _=>[Fa 16 0 5,Ld 17 false 1 16,Ld 18 false 1 1,S 19 (.nilck Pg (.t 18)),Fa 20 0 19,Fa 21 3 20,Ld 22 false 1 21,Ln 23 22,Bn 24 .eql 17 23]
def r2:Rg:=fun _=>[Fa 25 0 2,Ld 26 true 2 25,St 2 6 26,S 7 (.mv (.c (.bool true)))]
def r3:Rg:=fun _=>[Ld 28 false 1 3,Ld 29 true 6 5,S 30 (.lookup (true,[.i,.i,.i,.i,.i,.i]) true (.agg [iz,iz,(.bool false)]) (.t 28) (.t 29)),M 27 30,X 31 27 0,X 32 27 1,S 8 (.alloc [iz,iz,(.bool false)]),St 3 8 31,M 9 32]
def r4:Rg:=fun _=>[M 33 9]
def r5:Rg:=fun _=>[Fa 34 0 8,Fa 36 2 8,Ld 35 true 2 34,Ld 37 false 1 36,SD none (.store 2 (.t 6) (.t 35)) false [] [I 37 (.load false 1 (.t 36))],M 7 37]
def r6:Rg:=fun _=>[S 10 (.alloc [iz,iz,(.bool false)])]
def r7:Rg:=fun _=>[Ld 38 false 1 1,Ld 39 true 6 5,Cl 40 fn_iron_irons_next [.t 38,.t 39]]
def r8:Rg:=fun _=>[M 11 41]
def r9:Rg:=fun _=>[S 12 (.alloc [iz,iz,iz,iz,iz,iz]),St 6 12 42]
def r10:Rg:=fun _=>[Ld 44 false 1 4,Ld 45 true 6 12,S 46 (.call (.t 44) [.t 45]),M 43 46,X 47 43 0,X 48 43 1,S 13 (.alloc [iz,iz]),St 2 13 47,M 14 48]
def r11:Rg:=fun _=>[M 49 14,S 50 (.un .not (.t 49))]
def r12:Rg:=fun _=>[Fa 51 2 2,Ld 52 false 1 51,Fa 53 0 5,Ld 54 false 1 53,M 55 11,Ld 56 true 2 13,S 57 (.call (.t 52) [.t 54,.t 55,.t 56]),S 15 (.alloc [iz,iz]),St 2 15 57]
def r13:Rg:=fun _=>[Fa 58 2 10,Ld 59 false 1 58]
def r14:Rg:=fun _=>[Fa 60 3 2,Ld 61 false 1 60,Fa 62 0 10,Ld 63 true 2 62,Ld 64 true 2 15,S 65 (.call (.t 61) [.t 63,.t 64]),St 2 15 65]
def r15:Rg:=fun _=>[Ld 66 true 2 15,S 67 (.build [iz,iz,(.bool false)] [(0,2,(.t 66)),(2,1,(.c (.bool true)))]),St 3 10 67]
def r16:Rg:=fun _=>[Ld 68 false 1 3,Ld 69 true 6 5,Ld 70 true 3 10,SN (.mapU (true,[.i,.i,.i,.i,.i,.i]) (.t 68) (.t 69) (.t 70))]
def r17:Rg:=fun _=>[Fa 71 0 10,Fa 73 2 10,Ld 72 true 2 71,Ld 74 false 1 73,SD none (.store 2 (.t 6) (.t 72)) false [] [I 74 (.load false 1 (.t 73))],M 7 74]
def ir:IR:=(.seq (.ops r0) (.seq (.seq (.ops r1) (.cond (.t 24) (.seq (.ops r2) .ret) .skip)) (.seq (.seq (.ops r3) (.seq (.ops r4) (.cond (.t 33) (.seq (.ops r5) .ret) .skip))) (.seq (.ops r6) (.seq (.seq (.ops r7) (.block 0 (.rangeF (.t 40) [41,42] (.seq (.ops r8) (.ops r9)) (.block 1 (.seq (.ops r10) (.seq (.seq (.ops r11) (.cond (.t 50) (.exit 1) .skip)) (.seq (.ops r12) (.seq (.seq (.ops r13) (.cond (.t 59) (.ops r14) .skip)) (.ops r15))))))))) (.seq (.ops r16) (.seq (.ops r17) .ret)))))))
def rs:List RV:=[.cell 6 true 2,.tmp 7]
theorem e : Entr Pg fn_iron_tell_iron_wrong_1 75 [] ir (RetK rs):=Entr.of (cfg:=cfg) follows Tryz.func180 (by kernel_rfl)
attribute [simp] r0 r1 r2 r3 r4 r5 r6 r7 r8 r9 r10 r11 r12 r13 r14 r15 r16 r17 ir rs
end iron_tell_iron_wrong_1
namespace iron_claimOf
def r0:Rg:=fun _=>[S 1 (.box (.t 0)),S 2 (.mv (.c .nili))]
def r1:Rg:=fun _=>[Fa 3 2 1,Ld 4 false 1 3]
def r2:Rg:=fun _=>[Fa 5 1 1,Ld 6 false 1 5,S 7 (.build [iz] [(0,1,(.t 6))]),S 8 (.mkI 360 (.t 7)),M 2 8]
def r3:Rg:=fun _=>[Fa 9 1 1,Ld 10 false 1 9,S 11 (.build [iz] [(0,1,(.t 10))]),S 12 (.mkI 361 (.t 11)),M 2 12]
def ir:IR:=(.seq (.ops r0) (.seq (.seq (.ops r1) (.cond (.t 4) (.seq (.ops r2) .ret) .skip)) (.seq (.ops r3) .ret)))
def rs:List RV:=[.tmp 2]
theorem e : Entr Pg fn_iron_claimOf 13 [] ir (RetK rs):=Entr.of (cfg:=cf0) follows Tryz.func181 (by kernel_rfl)
attribute [simp] r0 r1 r2 r3 ir rs
end iron_claimOf
namespace math_bits_Len8
def r0:Rg:=fun _=>[MI 2 0]
def r1:Rg:=fun _=>[M 3 0,S 4 (.ixT (.c (.str [0,1,2,2,3,3,3,3,4,4,4,4,4,4,4,4,5,5,5,5,5,5,5,5,5,5,5,5,5,5,5,5,6,6,6,6,6,6,6,6,6,6,6,6,6,6,6,6,6,6,6,6,6,6,6,6,6,6,6,6,6,6,6,6,7,7,7,7,7,7,7,7,7,7,7,7,7,7,7,7,7,7,7,7,7,7,7,7,7,7,7,7,7,7,7,7,7,7,7,7,7,7,7,7,7,7,7,7,7,7,7,7,7,7,7,7,7,7,7,7,7,7,7,7,7,7,7,7,8,8,8,8,8,8,8,8,8,8,8,8,8,8,8,8,8,8,8,8,8,8,8,8,8,8,8,8,8,8,8,8,8,8,8,8,8,8,8,8,8,8,8,8,8,8,8,8,8,8,8,8,8,8,8,8,8,8,8,8,8,8,8,8,8,8,8,8,8,8,8,8,8,8,8,8,8,8,8,8,8,8,8,8,8,8,8,8,8,8,8,8,8,8,8,8,8,8,8,8,8,8,8,8,8,8,8,8,8,8,8,8,8,8,8,8,8,8,8,8,8,8,8,8,8,8,8,8])) (.t 3)),S 5 (.conv .i64 (.t 4)),M 2 5]
def ir:IR:=(.seq (.ops r0) (.seq (.ops r1) .ret))
def rs:List RV:=[.tmp 2]
theorem e : Entr Pg fn_math_bits_Len8 6 [] ir (RetK rs):=Entr.of (cfg:=cf0) follows Tryz.func182 (by kernel_rfl)
attribute [simp] r0 r1 ir rs
end math_bits_Len8
namespace wage_wages_isSeam
def r0:Rg:=fun _=>[S 2 (.box (.t 0)),S 4 (.mv (.c (.bool false)))]
def r1:Rg:=fun _=>[M 5 1,Fa 6 0 2,Fa 7 1 6,Ld 8 false 1 7,Ln 9 8,Bi 10 .sub 9 1,Cp 11 fn_wage_within [.t 5,ci 0,.t 10],M 4 11]
def ir:IR:=(.seq (.ops r0) (.seq (.ops r1) .ret))
def rs:List RV:=[.tmp 4]
theorem e : Entr Pg fn_wage_wages_isSeam 12 [] ir (RetK rs):=Entr.of (cfg:=cf0) follows Tryz.func183 (by kernel_rfl)
attribute [simp] r0 r1 ir rs
end wage_wages_isSeam
namespace wage_isSpan
def r0:Rg:=fun _=>[S 2 (.box (.t 0)),S 4 (.mv (.c (.bool false)))]
def r1:Rg:=fun _=>[Fa 5 0 2,Ld 6 false 1 5,S 7 (.bin .leq (ci 0) (.t 6)),M 8 7,Fg 9 8 true 0 2,Lg 10 8 true false 1 9,Fg 11 8 true 1 2,Lg 12 8 true false 1 11,SG 13 8 true (.bin .leq (.t 10) (.t 12)),Pa 14 8 13,M 15 14,Fg 16 15 true 1 2,Lg 17 15 true false 1 16,Mg 18 15 true 1,SG 19 15 true (.bin .leq (.t 17) (.t 18)),Pa 20 15 19,M 21 20,Fg 22 21 true 1 2,Lg 23 21 true false 1 22,Fg 24 21 true 0 2,Lg 25 21 true false 1 24,SG 26 21 true (.bin .sub (.t 23) (.t 25)),SG 27 21 true (.bin .leq (.t 26) (ci 3)),Pa 28 21 27,M 4 28]
def ir:IR:=(.seq (.ops r0) (.seq (.ops r1) .ret))
def rs:List RV:=[.tmp 4]
theorem e : Entr Pg fn_wage_isSpan 29 [] ir (RetK rs):=Entr.of (cfg:=cf0) follows Tryz.func184 (by kernel_rfl)
attribute [simp] r0 r1 ir rs
end wage_isSpan
namespace wage_wages_coins
def cfg:Cfg:={ pure:=pures,draws:=[(6,[q 0,q 1,q 2,q 3,q 4,q 7,q 5,q 6,q 8,q 9,q 10,q 11,q 12])] }
def r0:Rg:=fun _=>[S 3 (.box (.t 0)),MI 6 0]
def r1:Rg:=fun _=>[S 7 (.mv (.c .nils))]
def r2:Rg:=fun _=>[Ld 11 true 3 3,M 12 2,Cl 13 fn_wage_wages_owned [.t 11,.t 12],M 8 13]
def r3:Rg:=fun _=>[Fa 14 0 3,Fa 15 1 14,Ld 16 false 1 15,Ln 17 16,MI 18 0]
def r4:Rg:=fun _=>[Bn 19 .lss 18 17]
def r5:Rg:=fun _=>[M 20 18,Ix 21 2 16 18,Ld 22 true 2 21,S 10 (.alloc [iz,iz]),M 9 20,St 2 10 22]
def r6:Rg:=fun _=>[M 23 7,M 24 8,M 25 9,M 26 1,S 27 (.build [iz,iz] [(0,1,(.t 25)),(1,1,(.t 26))]),Fa 30 1 10,S 28 (.lookup (true,[.i,.i]) false (.int .u32 0) (.t 24) (.t 27)),Cp 29 fn_wage_fathoms_count [.t 28],Ld 31 false 1 30,Bn 32 .mul 29 31,S 33 (.bsl 1 [iz] [(0,1,(.t 32))]),S 34 (.app 1 8 (.t 23) (.t 33)),M 7 34]
def r7:Rg:=fun _=>[Bi 35 .add 18 1,M 18 35]
def r8:Rg:=fun _=>[M 36 7,Cl 37 fn_wage_sum [.t 36],M 6 37]
def ir:IR:=(.seq (.ops r0) (.seq (.ops r1) (.seq (.ops r2) (.seq (.seq (.ops r3) (.block 0 (.loop (.seq (.ops r4) (.seq (.cond (.t 19) .skip (.exit 0)) (.seq (.block 1 (.seq (.ops r5) (.ops r6))) (.ops r7))))))) (.seq (.ops r8) .ret)))))
def rs:List RV:=[.tmp 6]
theorem e : Entr Pg fn_wage_wages_coins 38 [] ir (RetK rs):=Entr.of (cfg:=cfg) follows Tryz.func185 (by kernel_rfl)
attribute [simp] r0 r1 r2 r3 r4 r5 r6 r7 r8 ir rs
end wage_wages_coins
namespace cmp_isNaN_int
def r0:Rg:=fun _=>[S 2 (.mv (.c (.bool false)))]
def r1:Rg:=fun _=>[M 3 0,M 4 0,Bn 5 .neq 3 4,M 2 5]
def ir:IR:=(.seq (.ops r0) (.seq (.ops r1) .ret))
def rs:List RV:=[.tmp 2]
theorem e : Entr Pg fn_cmp_isNaN_int 6 [] ir (RetK rs):=Entr.of (cfg:=cf0) follows Tryz.func186 (by kernel_rfl)
attribute [simp] r0 r1 ir rs
end cmp_isNaN_int
namespace gang_answer
def r0:Rg:=fun _=>[S 5 (.recov),M 2 5]
def r1:Rg:=fun _=>[M 6 2,S 7 (.eqN .i true (.t 6))]
def r2:Rg:=fun _=>[M 9 2,S 10 (.tyAs 369 true (.int .i64 0) (.t 9)),M 8 10,X 11 8 0,X 12 8 1,M 3 11,M 4 12]
def r3:Rg:=fun _=>[M 13 4,S 14 (.un .not (.t 13))]
def r4:Rg:=fun _=>[M 15 2,SN (.panic (.t 15))]
def r5:Rg:=fun _=>[M 16 0,M 17 3,S 18 (.nilck Pg (.t 16)),St 1 18 17]
def ir:IR:=(.seq (.ops r0) (.seq (.ops r1) (.cond (.t 7) (.seq (.ops r2) (.seq (.seq (.ops r3) (.cond (.t 14) (.ops r4) .skip)) (.ops r5))) .skip)))
def rs:List RV:=[]
theorem e : Entr Pg fn_gang_answer 19 [] ir (RetK rs):=Entr.of (cfg:=cf0) follows Tryz.func187 (by kernel_rfl)
def irA:IR:=(.seq (.ops r1) (.cond (.t 7) (.seq (.ops r2) (.seq (.seq (.ops r3) (.cond (.t 14) (.ops r4) .skip)) (.ops r5))) .skip))
theorem ans {v p:AVal} {h:Heap} {K:Heap→Prop} (F:Nat) (a:AW ⟨Pg,F,19,false,[]⟩ irA (AnsK K) (upd (upd (initT [p]) 5 v) 2 v) [] h):AAns Pg fn_gang_answer v p h K:=
 AAns.of follows Tryz.func187 (show recAns Pg cf0 Tryz.f187=some (irA,19,5,2) by kernel_rfl) (by decide) a
attribute [simp] r0 r1 r2 r3 r4 r5 ir rs irA
end gang_answer
namespace gang_open
def cfg:Cfg:={ pure:=pures,draws:=[(11,[q 0,q 1,q 2,q 3,q 4,q 5,q 6,q 8,q 9,q 7,q 10,q 11,q 12,q 13,q 14,q 15,q 16,q 17,q 18,q 19,q 20,q 22,q 21,q 23,q 24,q 25,q 26,q 27,q 28,q 29]),(23,[q 0,q 2,q 4,q 5,q 1,q 3,q 6,q 7,q 8,q 9,q 10,q 11,q 12,q 13,⟨14,true,[],[]⟩,q 15,q 16])] }
def r0:Rg:=fun _=>[S 2 (.box (.t 0)),S 4 (.mv (.c .nilp))]
def r1:Rg:=fun _=>[Fa 21 2 2,Ld 22 true 5 21,Cp 23 fn_pitch_Count [.t 22],M 20 23,X 24 20 0,X 25 20 1,M 5 24,M 6 25]
def r2:Rg:=fun _=>[M 26 6,Bi 27 .eql 26 0,M 28 27,Fg 29 28 true 0 2,Lg 30 28 true false 1 29,SG 31 28 true (.len (.t 30)),SG 32 28 true (.bin .leq (.t 31) (ci 5)),Pa 33 28 32,M 34 33,Fg 35 34 true 1 2,Lg 36 34 true false 1 35,SG 37 34 true (.len (.t 36)),SG 38 34 true (.bin .leq (.t 37) (ci 3)),Pa 39 34 38,Cl 40 fn_gang_ask [.t 39,ci 1]]
def r3:Rg:=fun _=>[Fa 41 0 2,Ld 42 false 1 41,Ln 43 42,MI 44 0]
def r4:Rg:=fun _=>[Bn 45 .lss 44 43]
def r5:Rg:=fun _=>[Ix 46 4 42 44,Ld 47 true 4 46,S 8 (.alloc [iz,iz,iz,iz]),St 4 8 47]
def r6:Rg:=fun _=>[Fa 48 0 8,Ld 49 false 1 48,Cp 50 fn_gang_within [.t 49,ci 1,ci 60],M 51 50,Fg 52 51 true 1 8,Lg 53 51 true false 1 52,Gp 54 51 true fn_gang_within [.t 53,ci 0,ci 24],Pa 55 51 54,M 56 55,Fg 57 56 true 2 8,Lg 58 56 true false 1 57,Gp 59 56 true fn_gang_within [.t 58,ci 0,ci 24],Pa 60 56 59,M 61 60,Fg 62 61 true 3 8,Lg 63 61 true false 1 62,Fg 64 61 true 2 2,Fg 65 61 true 4 64,Lg 66 61 true false 1 65,SG 67 61 true (.len (.t 66)),SG 68 61 true (.bin .sub (.t 67) (ci 1)),Gp 69 61 true fn_gang_within [.t 63,(ci (-1)),.t 68],Pa 70 61 69,Cl 71 fn_gang_ask [.t 70,ci 1]]
def r7:Rg:=fun _=>[Bi 72 .add 44 1,M 44 72]
def r8:Rg:=fun _=>[Fa 73 1 2,Ld 74 false 1 73,Ln 75 74,MI 76 0]
def r9:Rg:=fun _=>[Bn 77 .lss 76 75]
def r10:Rg:=fun _=>[Ix 78 3 74 76,Ld 79 true 3 78,S 10 (.alloc [iz,iz,iz]),St 3 10 79]
def r11:Rg:=fun _=>[Fa 80 0 10,Fa 81 0 80,Ld 82 false 1 81,S 83 (.bin .leq (ci 1) (.t 82)),M 84 83,Fg 85 84 true 0 10,Fg 86 84 true 0 85,Fg 88 84 true 0 10,Fg 89 84 true 1 88,Lg 87 84 true false 1 86,Lg 90 84 true false 1 89,SG 91 84 true (.bin .leq (.t 87) (.t 90)),Pa 92 84 91,M 93 92,Fg 94 93 true 0 10,Fg 95 93 true 1 94,Lg 96 93 true false 1 95,SG 97 93 true (.bin .leq (.t 96) (ci 12)),Pa 98 93 97,M 99 98,Fg 100 99 true 2 10,Fg 102 99 true 0 2,Lg 101 99 true false 1 100,Lg 103 99 true false 1 102,SG 104 99 true (.len (.t 103)),SG 105 99 true (.bin .shl (ci 1) (.t 104)),SG 106 99 true (.bin .sub (.t 105) (ci 1)),Gp 107 99 true fn_gang_within [.t 101,ci 0,.t 106],Pa 108 99 107,Cl 109 fn_gang_ask [.t 108,ci 1]]
def r12:Rg:=fun _=>[Bi 110 .add 76 1,M 76 110]
def r13:Rg:=fun _=>[Ld 111 true 7 2,S 112 (.build [.nils,.nils,iz,iz,iz,.nils,.nils,.nils] [(0,7,(.t 111))]),S 113 (.box (.t 112)),M 11 113]
def r14:Rg:=fun _=>[M 114 1,M 115 11,S 116 (.call (.t 114) [.t 115]),Cl 117 fn_gang_ask [.t 116,ci 2]]
def r15:Rg:=fun _=>[Fa 119 2 2,Ld 120 true 5 119,Cp 121 fn_pitch_Best [.t 120],M 118 121,X 122 118 0,X 123 118 1,X 124 118 2,M 12 122,M 13 123,M 6 124]
def r16:Rg:=fun _=>[Fa 125 0 2,Ld 126 false 1 125,Ln 127 126,MI 128 0]
def r17:Rg:=fun _=>[Bn 129 .lss 128 127]
def r18:Rg:=fun _=>[Ix 130 4 126 128,Ld 131 true 4 130,S 15 (.alloc [iz,iz,iz,iz]),St 4 15 131]
def r19:Rg:=fun _=>[Fa 132 1 15,Ld 133 false 1 132,M 16 133]
def r20:Rg:=fun _=>[Fa 134 3 15,Ld 135 false 1 134,Bi 136 .geq 135 0]
def r21:Rg:=fun _=>[MI 17 10000]
def r22:Rg:=fun _=>[M 137 6,Bi 138 .eql 137 0]
def r23:Rg:=fun _=>[Fa 140 2 2,Fa 142 3 15,M 144 13,Fa 145 3 15,Ld 141 true 5 140,Ld 143 false 1 142,Ld 146 false 1 145,Ix 147 2 144 146,Fa 148 1 147,Ld 149 false 1 148,Cp 150 fn_pitch_Hot [.t 141,.t 143,.t 149],M 139 150,X 151 139 0,X 152 139 1,SD (some 18) (.alloc [iz,iz]) true [] [],St 2 18 151,M 19 152]
def r24:Rg:=fun _=>[Fa 153 1 18,Ld 154 false 1 153,M 17 154]
def r25:Rg:=fun _=>[M 155 16,M 156 17,S 157 (.bsl 2 [iz,iz] [(0,1,(.t 155)),(1,1,(.t 156))]),Cl 158 fn_gang_later [.t 157],M 16 158]
def r26:Rg:=fun _=>[M 159 11,M 160 11,S 161 (.nilck Pg (.t 160)),Fa 162 7 161,Ld 163 false 1 162,M 164 16,S 165 (.bsl 1 [iz] [(0,1,(.t 164))]),S 166 (.app 1 8 (.t 163) (.t 165)),S 167 (.nilck Pg (.t 159)),Fa 168 7 167,St 1 168 166]
def r27:Rg:=fun _=>[Bi 169 .add 128 1,M 128 169]
def r28:Rg:=fun _=>[M 170 11,M 4 170]
def ir:IR:=(.seq (.ops r0) (.seq (.ops r1) (.seq (.ops r2) (.seq (.seq (.ops r3) (.block 0 (.loop (.seq (.ops r4) (.seq (.cond (.t 45) .skip (.exit 0)) (.seq (.block 1 (.seq (.ops r5) (.ops r6))) (.ops r7))))))) (.seq (.seq (.ops r8) (.block 2 (.loop (.seq (.ops r9) (.seq (.cond (.t 77) .skip (.exit 2)) (.seq (.block 3 (.seq (.ops r10) (.ops r11))) (.ops r12))))))) (.seq (.ops r13) (.seq (.ops r14) (.seq (.ops r15) (.seq (.seq (.ops r16) (.block 4 (.loop (.seq (.ops r17) (.seq (.cond (.t 129) .skip (.exit 4)) (.seq (.block 5 (.seq (.ops r18) (.seq (.ops r19) (.seq (.seq (.ops r20) (.cond (.t 136) (.seq (.ops r21) (.seq (.seq (.ops r22) (.cond (.t 138) (.seq (.ops r23) (.ops r24)) .skip)) (.ops r25))) .skip)) (.ops r26))))) (.ops r27))))))) (.seq (.ops r28) .ret))))))))))
def rs:List RV:=[.tmp 4]
theorem e : Entr Pg fn_gang_open 171 [] ir (RetK rs):=Entr.of (cfg:=cfg) follows Tryz.func188 (by kernel_rfl)
attribute [simp] r0 r1 r2 r3 r4 r5 r6 r7 r8 r9 r10 r11 r12 r13 r14 r15 r16 r17 r18 r19 r20 r21 r22 r23 r24 r25 r26 r27 r28 ir rs
end gang_open
namespace gang_always
def r0:Rg:=fun _=>[S 2 (.mv (.c (.bool false)))]
def r1:Rg:=fun _=>[S 2 (.mv (.c (.bool true)))]
def ir:IR:=(.seq (.ops r0) (.seq (.ops r1) .ret))
def rs:List RV:=[.tmp 2]
theorem e : Entr Pg fn_gang_always 3 [] ir (RetK rs):=Entr.of (cfg:=cf0) follows Tryz.func189 (by kernel_rfl)
attribute [simp] r0 r1 ir rs
end gang_always
namespace gang_gangs_deals
def r0:Rg:=fun _=>[S 4 (.box (.t 0)),S 5 (.box (.t 1)),S 6 (.box (.t 2)),S 7 (.box (.t 3)),S 8 (.mv (.c .nilf))]
def r1:Rg:=fun _=>[S 11 (.mkmap),S 9 (.alloc [.nilm]),St 1 9 11]
def r2:Rg:=fun _=>[S 10 (.alloc [.nilf])]
def r3:Rg:=fun _=>[S 12 (.mkF (.func fn_gang_gangs_deals_1) [] [.t 4,.t 7,.t 5,.t 10,.t 9,.t 6]),St 1 10 12]
def r4:Rg:=fun _=>[Ld 13 false 1 10,M 8 13]
def ir:IR:=(.seq (.ops r0) (.seq (.ops r1) (.seq (.ops r2) (.seq (.ops r3) (.seq (.ops r4) .ret)))))
def rs:List RV:=[.tmp 8]
theorem e : Entr Pg fn_gang_gangs_deals 14 [] ir (RetK rs):=Entr.of (cfg:=cf0) follows Tryz.func190 (by kernel_rfl)
attribute [simp] r0 r1 r2 r3 r4 ir rs
end gang_gangs_deals
namespace gang_every
def r0:Rg:=fun _=>[S 2 (.mv (.c (.int .u64 0)))]
def r1:Rg:=fun _=>[M 3 0,S 4 (.bin .shl (.c (.int .u64 1)) (.t 3)),S 5 (.bin .sub (.t 4) (.c (.int .u64 1))),M 2 5]
def ir:IR:=(.seq (.ops r0) (.seq (.ops r1) .ret))
def rs:List RV:=[.tmp 2]
theorem e : Entr Pg fn_gang_every 6 [] ir (RetK rs):=Entr.of (cfg:=cf0) follows Tryz.func191 (by kernel_rfl)
attribute [simp] r0 r1 ir rs
end gang_every
namespace gang_gangs_tables
def r0:Rg:=fun _=>[S 2 (.mv (.c .nils))]
def r1:Rg:=fun _=>[M 3 0,S 4 (.nilck Pg (.t 3)),Fa 5 0 4,Fa 6 1 5,Ld 7 false 1 6,Ln 8 7,M 9 0,S 10 (.mkF (.func fn_gang_gangs_table) [.t 9] []),S 11 (.build [.nilf] [(0,1,(.t 10))]),Cl 12 fn_gang_filled_gang_table [.t 8,.t 11],M 2 12]
def ir:IR:=(.seq (.ops r0) (.seq (.ops r1) .ret))
def rs:List RV:=[.tmp 2]
theorem e : Entr Pg fn_gang_gangs_tables 13 [] ir (RetK rs):=Entr.of (cfg:=cf0) follows Tryz.func192 (by kernel_rfl)
attribute [simp] r0 r1 ir rs
end gang_gangs_tables
namespace gang_ask
def r0:Rg:=fun _=>[M 4 0,S 5 (.un .not (.t 4))]
def r1:Rg:=fun _=>[M 6 1,S 7 (.mkI 369 (.t 6)),SN (.panic (.t 7))]
def ir:IR:=(.seq (.ops r0) (.cond (.t 5) (.ops r1) .skip))
def rs:List RV:=[]
theorem e : Entr Pg fn_gang_ask 8 [] ir (RetK rs):=Entr.of (cfg:=cf0) follows Tryz.func193 (by kernel_rfl)
attribute [simp] r0 r1 ir rs
end gang_ask
namespace gang_set_with
def r0:Rg:=fun _=>[S 4 (.mv (.c (.int .u64 0)))]
def r1:Rg:=fun _=>[M 5 0,M 6 1,S 7 (.bin .shl (.c (.int .u64 1)) (.t 6)),Bn 8 .or 5 7,M 4 8]
def ir:IR:=(.seq (.ops r0) (.seq (.ops r1) .ret))
def rs:List RV:=[.tmp 4]
theorem e : Entr Pg fn_gang_set_with 9 [] ir (RetK rs):=Entr.of (cfg:=cf0) follows Tryz.func194 (by kernel_rfl)
attribute [simp] r0 r1 ir rs
end gang_set_with
namespace stringslite_CutPrefix
def r0:Rg:=fun _=>[S 4 (.mv (.c (.str []))),S 5 (.mv (.c (.bool false)))]
def r1:Rg:=fun _=>[M 6 0,M 7 1,Cp 8 fn_stringslite_HasPrefix [.t 6,.t 7],S 9 (.un .not (.t 8))]
def r2:Rg:=fun _=>[M 10 0,M 4 10,S 5 (.mv (.c (.bool false)))]
def r3:Rg:=fun _=>[M 11 0,M 12 1,S 13 (.lenT (.t 12)),S 14 (.slT (.t 11) (some (.t 13)) none),M 4 14,S 5 (.mv (.c (.bool true)))]
def ir:IR:=(.seq (.ops r0) (.seq (.seq (.ops r1) (.cond (.t 9) (.seq (.ops r2) .ret) .skip)) (.seq (.ops r3) .ret)))
def rs:List RV:=[.tmp 4,.tmp 5]
theorem e : Entr Pg fn_stringslite_CutPrefix 15 [] ir (RetK rs):=Entr.of (cfg:=cf0) follows Tryz.func195 (by kernel_rfl)
attribute [simp] r0 r1 r2 r3 ir rs
end stringslite_CutPrefix
namespace math_bits_OnesCount32
def cfg:Cfg:={ pure:=pures,draws:=[(1,[q 0,q 1,q 2,q 3,q 4,q 5,q 6,q 7,q 8,q 9,q 10,q 11,q 12,q 13,q 14,q 15,q 16,q 17,q 18])] }
def r0:Rg:=fun _=>[MI 2 0]
def r1:Rg:=fun _=>[M 3 0,S 4 (.bin .shr (.t 3) (.c (.int .u64 24))),S 5 (.ixT (.c (.str [0,1,1,2,1,2,2,3,1,2,2,3,2,3,3,4,1,2,2,3,2,3,3,4,2,3,3,4,3,4,4,5,1,2,2,3,2,3,3,4,2,3,3,4,3,4,4,5,2,3,3,4,3,4,4,5,3,4,4,5,4,5,5,6,1,2,2,3,2,3,3,4,2,3,3,4,3,4,4,5,2,3,3,4,3,4,4,5,3,4,4,5,4,5,5,6,2,3,3,4,3,4,4,5,3,4,4,5,4,5,5,6,3,4,4,5,4,5,5,6,4,5,5,6,5,6,6,7,1,2,2,3,2,3,3,4,2,3,3,4,3,4,4,5,2,3,3,4,3,4,4,5,3,4,4,5,4,5,5,6,2,3,3,4,3,4,4,5,3,4,4,5,4,5,5,6,3,4,4,5,4,5,5,6,4,5,5,6,5,6,6,7,2,3,3,4,3,4,4,5,3,4,4,5,4,5,5,6,3,4,4,5,4,5,5,6,4,5,5,6,5,6,6,7,3,4,4,5,4,5,5,6,4,5,5,6,5,6,6,7,4,5,5,6,5,6,6,7,5,6,6,7,6,7,7,8])) (.t 4)),M 6 0,S 7 (.bin .shr (.t 6) (.c (.int .u64 16))),S 8 (.bin .and (.t 7) (.c (.int .u32 255))),S 9 (.ixT (.c (.str [0,1,1,2,1,2,2,3,1,2,2,3,2,3,3,4,1,2,2,3,2,3,3,4,2,3,3,4,3,4,4,5,1,2,2,3,2,3,3,4,2,3,3,4,3,4,4,5,2,3,3,4,3,4,4,5,3,4,4,5,4,5,5,6,1,2,2,3,2,3,3,4,2,3,3,4,3,4,4,5,2,3,3,4,3,4,4,5,3,4,4,5,4,5,5,6,2,3,3,4,3,4,4,5,3,4,4,5,4,5,5,6,3,4,4,5,4,5,5,6,4,5,5,6,5,6,6,7,1,2,2,3,2,3,3,4,2,3,3,4,3,4,4,5,2,3,3,4,3,4,4,5,3,4,4,5,4,5,5,6,2,3,3,4,3,4,4,5,3,4,4,5,4,5,5,6,3,4,4,5,4,5,5,6,4,5,5,6,5,6,6,7,2,3,3,4,3,4,4,5,3,4,4,5,4,5,5,6,3,4,4,5,4,5,5,6,4,5,5,6,5,6,6,7,3,4,4,5,4,5,5,6,4,5,5,6,5,6,6,7,4,5,5,6,5,6,6,7,5,6,6,7,6,7,7,8])) (.t 8)),Bn 10 .add 5 9,M 11 0,S 12 (.bin .shr (.t 11) (.c (.int .u64 8))),S 13 (.bin .and (.t 12) (.c (.int .u32 255))),S 14 (.ixT (.c (.str [0,1,1,2,1,2,2,3,1,2,2,3,2,3,3,4,1,2,2,3,2,3,3,4,2,3,3,4,3,4,4,5,1,2,2,3,2,3,3,4,2,3,3,4,3,4,4,5,2,3,3,4,3,4,4,5,3,4,4,5,4,5,5,6,1,2,2,3,2,3,3,4,2,3,3,4,3,4,4,5,2,3,3,4,3,4,4,5,3,4,4,5,4,5,5,6,2,3,3,4,3,4,4,5,3,4,4,5,4,5,5,6,3,4,4,5,4,5,5,6,4,5,5,6,5,6,6,7,1,2,2,3,2,3,3,4,2,3,3,4,3,4,4,5,2,3,3,4,3,4,4,5,3,4,4,5,4,5,5,6,2,3,3,4,3,4,4,5,3,4,4,5,4,5,5,6,3,4,4,5,4,5,5,6,4,5,5,6,5,6,6,7,2,3,3,4,3,4,4,5,3,4,4,5,4,5,5,6,3,4,4,5,4,5,5,6,4,5,5,6,5,6,6,7,3,4,4,5,4,5,5,6,4,5,5,6,5,6,6,7,4,5,5,6,5,6,6,7,5,6,6,7,6,7,7,8])) (.t 13)),Bn 15 .add 10 14,M 16 0,S 17 (.bin .and (.t 16) (.c (.int .u32 255))),S 18 (.ixT (.c (.str [0,1,1,2,1,2,2,3,1,2,2,3,2,3,3,4,1,2,2,3,2,3,3,4,2,3,3,4,3,4,4,5,1,2,2,3,2,3,3,4,2,3,3,4,3,4,4,5,2,3,3,4,3,4,4,5,3,4,4,5,4,5,5,6,1,2,2,3,2,3,3,4,2,3,3,4,3,4,4,5,2,3,3,4,3,4,4,5,3,4,4,5,4,5,5,6,2,3,3,4,3,4,4,5,3,4,4,5,4,5,5,6,3,4,4,5,4,5,5,6,4,5,5,6,5,6,6,7,1,2,2,3,2,3,3,4,2,3,3,4,3,4,4,5,2,3,3,4,3,4,4,5,3,4,4,5,4,5,5,6,2,3,3,4,3,4,4,5,3,4,4,5,4,5,5,6,3,4,4,5,4,5,5,6,4,5,5,6,5,6,6,7,2,3,3,4,3,4,4,5,3,4,4,5,4,5,5,6,3,4,4,5,4,5,5,6,4,5,5,6,5,6,6,7,3,4,4,5,4,5,5,6,4,5,5,6,5,6,6,7,4,5,5,6,5,6,6,7,5,6,6,7,6,7,7,8])) (.t 17)),Bn 19 .add 15 18,S 20 (.conv .i64 (.t 19)),M 2 20]
def ir:IR:=(.seq (.ops r0) (.seq (.ops r1) .ret))
def rs:List RV:=[.tmp 2]
theorem e : Entr Pg fn_math_bits_OnesCount32 21 [] ir (RetK rs):=Entr.of (cfg:=cfg) follows Tryz.func199 (by kernel_rfl)
attribute [simp] r0 r1 ir rs
end math_bits_OnesCount32
namespace math_bits_OnesCount64
def r0:Rg:=fun _=>[MI 2 0]
def r1:Rg:=fun _=>[M 3 0,S 4 (.bin .shr (.t 3) (.c (.int .u64 1))),S 5 (.bin .and (.t 4) (.c (.int .u64 6148914691236517205))),M 6 0,S 7 (.bin .and (.t 6) (.c (.int .u64 6148914691236517205))),Bn 8 .add 5 7,M 0 8]
def r2:Rg:=fun _=>[M 9 0,S 10 (.bin .shr (.t 9) (.c (.int .u64 2))),S 11 (.bin .and (.t 10) (.c (.int .u64 3689348814741910323))),M 12 0,S 13 (.bin .and (.t 12) (.c (.int .u64 3689348814741910323))),Bn 14 .add 11 13,M 0 14]
def r3:Rg:=fun _=>[M 15 0,S 16 (.bin .shr (.t 15) (.c (.int .u64 4))),M 17 0,Bn 18 .add 16 17,S 19 (.bin .and (.t 18) (.c (.int .u64 1085102592571150095))),M 0 19]
def r4:Rg:=fun _=>[M 20 0,M 21 0,S 22 (.bin .shr (.t 21) (.c (.int .u64 8))),Bn 23 .add 20 22,M 0 23]
def r5:Rg:=fun _=>[M 24 0,M 25 0,S 26 (.bin .shr (.t 25) (.c (.int .u64 16))),Bn 27 .add 24 26,M 0 27]
def r6:Rg:=fun _=>[M 28 0,M 29 0,S 30 (.bin .shr (.t 29) (.c (.int .u64 32))),Bn 31 .add 28 30,M 0 31]
def r7:Rg:=fun _=>[M 32 0,S 33 (.conv .i64 (.t 32)),Bi 34 .and 33 127,M 2 34]
def ir:IR:=(.seq (.ops r0) (.seq (.ops r1) (.seq (.ops r2) (.seq (.ops r3) (.seq (.ops r4) (.seq (.ops r5) (.seq (.ops r6) (.seq (.ops r7) .ret))))))))
def rs:List RV:=[.tmp 2]
theorem e : Entr Pg fn_math_bits_OnesCount64 35 [] ir (RetK rs):=Entr.of (cfg:=cf0) follows Tryz.func200 (by kernel_rfl)
attribute [simp] r0 r1 r2 r3 r4 r5 r6 r7 ir rs
end math_bits_OnesCount64
namespace iron_irons_next_1
def cfg:Cfg:={ pure:=pures,draws:=[(2,[q 4,q 0,q 1,q 2,q 3,q 5,q 6,q 7,q 8]),(8,[q 0,q 1,q 2,q 9,q 3,q 4,q 5,q 6,q 7,q 8,q 10,q 11,q 12,q 13,q 14,q 15,q 16,q 17,q 18,q 19,q 20,q 21,q 22,q 23,q 24,q 25,q 26,q 28,q 30,q 27,q 29,q 31,q 32,q 33,q 34,q 35])] }
def r0:Rg:=fun _=>[Ld 8 true 6 1,S 4 (.alloc [iz,iz,iz,iz,iz,iz]),St 6 4 8]
def r1:Rg:=fun _=>[Fa 9 0 4,Ld 10 false 1 9,Bi 11 .add 10 1,Fa 12 0 4,St 1 12 11]
def r2:Rg:=fun _=>[Fa 17 0 1,Ld 13 false 1 2,S 14 (.nilck Pg (.t 13)),Fa 15 5 14,Ld 16 false 1 15,Ld 18 false 1 17,Bn 19 .shr 16 18,S 20 (.bin .and (.t 19) (.c (.int .u64 1))),S 21 (.bin .eql (.t 20) (.c (.int .u64 0)))]
def r3:Rg:=fun _=>[M 22 0,Ld 23 true 6 4,S 24 (.call (.t 22) [(ci (-1)),.t 23])]
def r4:Rg:=fun _=>[Ld 25 false 1 2,S 26 (.mkF (.func fn_iron_irons_fits) [.t 25] []),M 5 26]
def r5:Rg:=fun _=>[Ld 27 false 1 2,S 28 (.nilck Pg (.t 27)),Fa 29 0 28,Fa 30 1 29,Ld 31 false 1 30,Ln 32 31,MI 33 0]
def r6:Rg:=fun _=>[Bn 34 .lss 33 32]
def r7:Rg:=fun _=>[M 35 33,M 6 35]
def r8:Rg:=fun _=>[M 36 6,Fa 37 1 1,S 38 (.ixA 5 1 (.t 37) (.t 36)),M 45 6,Ld 39 false 1 38,Ld 40 false 1 2,S 41 (.nilck Pg (.t 40)),Fa 42 0 41,Fa 43 2 42,Ld 44 false 1 43,Ix 46 1 44 45,Ld 47 false 1 46,Bn 48 .eql 39 47,M 49 48,Mg 50 49 false 5,Mg 51 49 false 6,Fg 52 49 false 0 1,Lg 53 49 false false 1 52,SG 54 49 false (.call (.t 50) [.t 51,.t 53]),SG 55 49 false (.un .not (.t 54)),Po 56 49 55,M 57 56,Lg 58 57 false false 1 2,SG 59 57 false (.nilck Pg (.t 58)),Fg 60 57 false 7 59,Lg 61 57 false false 1 60,Mg 62 57 false 61,Fg 64 62 true 0 1,Mg 66 62 true 6,Lg 63 62 true false 1 2,Lg 65 62 true false 1 64,Gp 67 62 true fn_iron_irons_wrong [.t 63,.t 65,.t 66],SG 68 62 true (.fld false 0 1 (.t 67)),SG 69 62 true (.bin .gtr (.t 68) (ci 0)),SG 70 57 false (.pick (.t 62) (.t 69) (.c (.bool false))),Po 71 57 70]
def r9:Rg:=fun _=>[Ld 72 true 6 4,S 7 (.alloc [iz,iz,iz,iz,iz,iz]),St 6 7 72]
def r10:Rg:=fun _=>[M 73 6,Fa 74 1 7,S 75 (.ixA 5 1 (.t 74) (.t 73)),Ld 76 false 1 75,Bi 77 .add 76 1,Fa 78 1 7,S 79 (.ixA 5 1 (.t 78) (.t 73)),St 1 79 77]
def r11:Rg:=fun _=>[M 80 0,M 81 6,Ld 82 true 6 7,S 83 (.call (.t 80) [.t 81,.t 82]),S 84 (.un .not (.t 83))]
def r12:Rg:=fun _=>[Bi 85 .add 33 1,M 33 85]
def ir:IR:=(.seq (.ops r0) (.seq (.ops r1) (.seq (.seq (.ops r2) (.cond (.t 21) (.seq (.ops r3) .ret) .skip)) (.seq (.ops r4) (.seq .skip (.seq (.ops r5) (.block 0 (.loop (.seq (.ops r6) (.seq (.cond (.t 34) .skip (.exit 0)) (.seq (.block 1 (.seq (.ops r7) (.seq (.seq (.ops r8) (.cond (.t 71) (.exit 1) .skip)) (.seq (.ops r9) (.seq (.ops r10) (.seq (.ops r11) (.cond (.t 84) .ret .skip))))))) (.ops r12))))))))))))
def rs:List RV:=[]
theorem e : Entr Pg fn_iron_irons_next_1 86 [] ir (RetK rs):=Entr.of (cfg:=cfg) follows Tryz.func201 (by kernel_rfl)
attribute [simp] r0 r1 r2 r3 r4 r5 r6 r7 r8 r9 r10 r11 r12 ir rs
end iron_irons_next_1
namespace wage_wages_owned
def cfg:Cfg:={ pure:=pures,draws:=[(21,[q 0,q 1,q 4,q 2,q 3,q 5,q 6,q 7,q 8]),(22,[q 0,q 2,q 5,q 1,q 3,q 4,q 6,q 7]),(23,[q 0,q 1,q 3,q 7,q 2,q 4,q 5,q 6,q 8,⟨9,false,[],[6]⟩,q 10,q 11])] }
def r0:Rg:=fun _=>[S 2 (.box (.t 0)),S 4 (.mv (.c .nilm))]
def r1:Rg:=fun _=>[S 5 (.alloc [iz,iz,iz,iz,iz,iz,iz,iz,iz,iz,iz,iz,iz,iz,iz,iz,iz,iz])]
def r2:Rg:=fun _=>[S 6 (.mv (.c .nils))]
def r3:Rg:=fun _=>[Fa 17 0 2,Fa 18 2 17,Ld 19 false 1 18,Ln 20 19,MI 21 0]
def r4:Rg:=fun _=>[Bn 22 .lss 21 20]
def r5:Rg:=fun _=>[M 23 21,Ix 24 8 19 21,Ld 25 true 8 24,S 8 (.alloc [iz,iz,iz,iz,iz,iz,iz,iz]),M 7 23,St 8 8 25]
def r6:Rg:=fun _=>[M 26 7,M 27 1,M 28 7,Ld 29 true 8 8,S 30 (.inv (.t 27) "caulkworks/wage.of" [.t 28,.t 29]),S 31 (.ixA 6 3 (.t 5) (.t 26)),St 3 31 30]
def r7:Rg:=fun _=>[M 32 6,M 33 7,S 34 (.bsl 1 [iz] [(0,1,(.t 33))]),S 35 (.app 1 8 (.t 32) (.t 34)),M 6 35]
def r8:Rg:=fun _=>[Bi 36 .add 21 1,M 21 36]
def r9:Rg:=fun _=>[M 37 6,S 38 (.mkF (.func fn_wage_wages_owned_1) [] [.t 5]),Cl 39 fn_slices_SortStableFunc_int_int [.t 37,.t 38]]
def r10:Rg:=fun _=>[S 40 (.mkmap),M 9 40]
def r11:Rg:=fun _=>[Fa 41 0 2,Fa 42 1 41,Ld 43 false 1 42,Ln 44 43,MI 45 0]
def r12:Rg:=fun _=>[Bn 46 .lss 45 44]
def r13:Rg:=fun _=>[M 47 45,Ix 48 2 43 45,Ld 49 true 2 48,S 11 (.alloc [iz,iz]),M 10 47,St 2 11 49]
def r14:Rg:=fun _=>[M 50 9,M 51 10,S 52 (.build [iz,iz] [(0,1,(.t 51)),(1,1,(ci (-1)))]),Fa 53 0 11,Ld 54 false 1 53,S 55 (.bin .shl (.c (.int .u32 1)) (.t 54)),S 56 (.bin .sub (.t 55) (.c (.int .u32 1))),SN (.mapU (true,[.i,.i]) (.t 50) (.t 52) (.t 56))]
def r15:Rg:=fun _=>[Bi 57 .add 45 1,M 45 57]
def r16:Rg:=fun _=>[M 58 6,Ln 59 58,MI 60 0]
def r17:Rg:=fun _=>[Bn 61 .lss 60 59]
def r18:Rg:=fun _=>[Ix 62 1 58 60,Ld 63 false 1 62,M 13 63]
def r19:Rg:=fun _=>[Fa 64 0 2,Fa 65 2 64,Ld 66 false 1 65,M 67 13,Ix 68 8 66 67,Ld 69 true 8 68,S 14 (.alloc [iz,iz,iz,iz,iz,iz,iz,iz]),St 8 14 69]
def r20:Rg:=fun _=>[Fa 70 1 14,Ld 71 false 1 70,S 72 (.build [iz,iz] [(0,1,(.t 71)),(1,1,(ci (-1)))]),S 15 (.alloc [iz,iz]),St 2 15 72]
def r21:Rg:=fun _=>[M 73 13,S 74 (.ixA 6 3 (.t 5) (.t 73)),M 77 9,Ld 75 true 3 74,Cp 76 fn_wage_known_fathoms [.t 75],Ld 78 true 2 15,S 79 (.lookup (true,[.i,.i]) false (.int .u32 0) (.t 77) (.t 78)),Bn 80 .and 76 79,M 16 80]
def r22:Rg:=fun _=>[M 81 9,M 83 9,M 86 16,Ld 82 true 2 15,Ld 84 true 2 15,S 85 (.lookup (true,[.i,.i]) false (.int .u32 0) (.t 83) (.t 84)),Cp 87 fn_wage_fathoms_but [.t 85,.t 86],SN (.mapU (true,[.i,.i]) (.t 81) (.t 82) (.t 87))]
def r23:Rg:=fun _=>[M 88 9,Fa 89 1 14,Fa 91 0 14,M 95 16,Ld 90 false 1 89,Ld 92 false 1 91,S 93 (.build [iz,iz] [(0,1,(.t 90)),(1,1,(.t 92))]),S 94 (.lookup (true,[.i,.i]) false (.int .u32 0) (.t 88) (.t 93)),Bn 96 .or 94 95,SD (some 97) (.mapE (true,[.i,.i]) (.int .u32 0) (.t 88) (.t 93)) false [] [I 94 (.lookup (true,[.i,.i]) false (.int .u32 0) (.t 88) (.t 93))],X 98 97 1,SN (.entS (.t 88) (.t 98) (.t 96))]
def r24:Rg:=fun _=>[Bi 99 .add 60 1,M 60 99]
def r25:Rg:=fun _=>[M 100 9,M 4 100]
def ir:IR:=(.seq (.ops r0) (.seq (.ops r1) (.seq (.ops r2) (.seq (.seq (.ops r3) (.block 0 (.loop (.seq (.ops r4) (.seq (.cond (.t 22) .skip (.exit 0)) (.seq (.block 1 (.seq (.ops r5) (.seq (.ops r6) (.ops r7)))) (.ops r8))))))) (.seq (.ops r9) (.seq (.ops r10) (.seq (.seq (.ops r11) (.block 2 (.loop (.seq (.ops r12) (.seq (.cond (.t 46) .skip (.exit 2)) (.seq (.block 3 (.seq (.ops r13) (.ops r14))) (.ops r15))))))) (.seq (.seq (.ops r16) (.block 4 (.loop (.seq (.ops r17) (.seq (.cond (.t 61) .skip (.exit 4)) (.seq (.block 5 (.seq (.ops r18) (.seq (.ops r19) (.seq (.ops r20) (.seq (.ops r21) (.seq (.ops r22) (.ops r23))))))) (.ops r24))))))) (.seq (.ops r25) .ret)))))))))
def rs:List RV:=[.tmp 4]
theorem e : Entr Pg fn_wage_wages_owned 101 [] ir (RetK rs):=Entr.of (cfg:=cfg) follows Tryz.func202 (by kernel_rfl)
attribute [simp] r0 r1 r2 r3 r4 r5 r6 r7 r8 r9 r10 r11 r12 r13 r14 r15 r16 r17 r18 r19 r20 r21 r22 r23 r24 r25 ir rs
end wage_wages_owned
namespace wage_fathoms_count
def r0:Rg:=fun _=>[MI 2 0]
def r1:Rg:=fun _=>[M 3 0,Cp 4 fn_math_bits_OnesCount32 [.t 3],M 2 4]
def ir:IR:=(.seq (.ops r0) (.seq (.ops r1) .ret))
def rs:List RV:=[.tmp 2]
theorem e : Entr Pg fn_wage_fathoms_count 5 [] ir (RetK rs):=Entr.of (cfg:=cf0) follows Tryz.func203 (by kernel_rfl)
attribute [simp] r0 r1 ir rs
end wage_fathoms_count
namespace wage_sum
def r0:Rg:=fun _=>[MI 2 0]
def r1:Rg:=fun _=>[M 5 0,Ln 6 5,MI 7 0]
def r2:Rg:=fun _=>[Bn 8 .lss 7 6]
def r3:Rg:=fun _=>[Ix 9 1 5 7,Ld 10 false 1 9,M 4 10]
def r4:Rg:=fun _=>[M 11 2,M 12 4,Bn 13 .add 11 12,M 2 13]
def r5:Rg:=fun _=>[Bi 14 .add 7 1,M 7 14]
def r6:Rg:=fun _=>[M 15 2,M 2 15]
def ir:IR:=(.seq (.ops r0) (.seq (.seq (.ops r1) (.block 0 (.loop (.seq (.ops r2) (.seq (.cond (.t 8) .skip (.exit 0)) (.seq (.block 1 (.seq (.ops r3) (.ops r4))) (.ops r5))))))) (.seq (.ops r6) .ret)))
def rs:List RV:=[.tmp 2]
theorem e : Entr Pg fn_wage_sum 16 [] ir (RetK rs):=Entr.of (cfg:=cf0) follows Tryz.func204 (by kernel_rfl)
attribute [simp] r0 r1 r2 r3 r4 r5 r6 ir rs
end wage_sum
namespace gang_within
def r0:Rg:=fun _=>[S 6 (.mv (.c (.bool false)))]
def r1:Rg:=fun _=>[M 7 1,M 8 0,Bn 9 .leq 7 8,M 10 9,Mg 11 10 true 0,Mg 12 10 true 2,SG 13 10 true (.bin .leq (.t 11) (.t 12)),Pa 14 10 13,M 6 14]
def ir:IR:=(.seq (.ops r0) (.seq (.ops r1) .ret))
def rs:List RV:=[.tmp 6]
theorem e : Entr Pg fn_gang_within 15 [] ir (RetK rs):=Entr.of (cfg:=cf0) follows Tryz.func205 (by kernel_rfl)
attribute [simp] r0 r1 ir rs
end gang_within
namespace pitch_Hot
def cfg:Cfg:={ pure:=pures,cuts:=[2],draws:=[(3,[q 0,q 3,q 4,q 5,q 8,q 11,q 12,q 13,q 1,q 2,q 6,q 7,q 9,q 10,q 14,q 15,q 16,⟨17,true,[],[]⟩,q 18]),(4,[q 0,q 2,q 3,q 4,q 5,q 1,q 6,q 7,q 8])],keep:=[6,7] }
def r0:Rg:=fun _=>[S 3 (.box (.t 0)),S 4 (.box (.t 1)),S 5 (.box (.t 2)),S 6 (.alloc [iz,iz]),S 7 (.alloc [iz])]
def r1:Rg:=fun _=>[SN (.defer (fc fn_pitch_answer) [.t 7])]
def r2:Rg:=fun _=>[Ld 10 true 5 3,S 11 (.mkF (.func fn_pitch_Hot_1) [] [.t 4,.t 5]),Cl 12 fn_pitch_open [.t 10,.t 11],M 8 12]
def r3:Rg:=fun _=>[M 13 8,M 16 8,S 17 (.nilck Pg (.t 16)),Fa 18 5 17,M 21 8,M 24 8,S 25 (.nilck Pg (.t 24)),Fa 26 6 25,Ld 14 false 1 4,Ld 15 false 1 5,Ld 19 false 1 18,Cp 20 fn_pitch_pitch_hot [.t 13,.t 14,.t 15,.t 19],Ld 22 false 1 4,Ld 23 false 1 5,Ld 27 false 1 26,Cp 28 fn_pitch_pitch_hot [.t 21,.t 22,.t 23,.t 27],S 29 (.build [iz,iz] [(0,1,(.t 20)),(1,1,(.t 28))]),SD (some 9) (.alloc [iz,iz]) true [] [],St 2 9 29]
def r4:Rg:=fun _=>[Fa 30 1 9,M 32 8,S 33 (.nilck Pg (.t 32)),Fa 34 0 33,Fa 35 0 34,Ld 31 false 1 30,Ld 36 false 1 35,Bn 37 .leq 31 36,Cl 38 fn_pitch_ask [.t 37,ci 11]]
def r5:Rg:=fun _=>[Ld 39 true 2 9,St 2 6 39,SN (.store 1 (.t 7) (ci 0))]
def ir:IR:=(.seq (.ops r0) (.seq (.ops r1) (.seq (.cut (.ops r2)) (.seq (.ops r3) (.seq (.ops r4) (.seq (.ops r5) .ret))))))
def rs:List RV:=[.cell 6 true 2,.cell 7 false 1]
theorem e : Entr Pg fn_pitch_Hot 40 [6,7] ir (RetA Pg rs):=Entr.ofA (cfg:=cfg) follows Tryz.func206 (by kernel_rfl)
attribute [simp] r0 r1 r2 r3 r4 r5 ir rs
end pitch_Hot
namespace gang_later
def r0:Rg:=fun _=>[MI 2 0]
def r1:Rg:=fun _=>[M 3 0,Cp 4 fn_slices_Max_int_int [.t 3],M 2 4]
def ir:IR:=(.seq (.ops r0) (.seq (.ops r1) .ret))
def rs:List RV:=[.tmp 2]
theorem e : Entr Pg fn_gang_later 5 [] ir (RetK rs):=Entr.of (cfg:=cf0) follows Tryz.func207 (by kernel_rfl)
attribute [simp] r0 r1 ir rs
end gang_later
namespace gang_gangs_deals_1
def r0:Rg:=fun _=>[S 9 (.box (.t 1)),MI 10 0]
def r1:Rg:=fun _=>[M 19 0,Ld 20 false 1 2,S 21 (.nilck Pg (.t 20)),Fa 22 0 21,Fa 23 0 22,Ld 24 false 1 23,Ln 25 24,Bn 26 .eql 19 25]
def r2:Rg:=fun _=>[MI 11 0]
def r3:Rg:=fun _=>[Ld 27 false 1 3,Ln 28 27,MI 29 0]
def r4:Rg:=fun _=>[Bn 30 .lss 29 28]
def r5:Rg:=fun _=>[M 31 29,Ix 32 32 27 29,Ld 33 true 32 32,S 13 (.alloc [iz,iz,iz,iz,iz,iz,iz,iz,iz,iz,iz,iz,iz,iz,iz,iz,iz,iz,iz,iz,iz,iz,iz,iz,iz,iz,iz,iz,iz,iz,iz,iz]),M 12 31,St 32 13 33]
def r6:Rg:=fun _=>[M 34 11,M 35 12,S 36 (.ixA 3 1 (.t 9) (.t 35)),Ld 37 false 1 36,S 38 (.ixA 32 1 (.t 13) (.t 37)),Ld 39 false 1 38,S 40 (.bsl 2 [iz,iz] [(0,1,(.t 34)),(1,1,(.t 39))]),Cl 41 fn_gang_later [.t 40],M 11 41]
def r7:Rg:=fun _=>[Bi 42 .add 29 1,M 29 42]
def r8:Rg:=fun _=>[M 43 11,M 10 43]
def r9:Rg:=fun _=>[Ld 44 false 1 4,M 45 0,Cp 46 fn_gang_set_has [.t 44,.t 45],S 47 (.un .not (.t 46))]
def r10:Rg:=fun _=>[Ld 48 false 1 5,M 49 0,Bi 50 .add 49 1,Ld 51 true 3 9,S 52 (.call (.t 48) [.t 50,.t 51]),M 10 52]
def r11:Rg:=fun _=>[Ld 54 false 1 6,M 55 0,Ld 56 true 3 9,S 57 (.build [iz,(.int .u64 0),(.int .u64 0),(.int .u64 0)] [(0,1,(.t 55)),(1,3,(.t 56))]),S 58 (.lookup (true,[.i,.i,.i,.i]) true (.int .i64 0) (.t 54) (.t 57)),M 53 58,X 59 53 0,X 60 53 1,M 14 59,M 15 60]
def r12:Rg:=fun _=>[M 61 15]
def r13:Rg:=fun _=>[M 62 14,M 10 62]
def r14:Rg:=fun _=>[MI 16 10000]
def r15:Rg:=fun _=>[Ld 63 false 1 3,Ln 64 63,MI 65 0]
def r16:Rg:=fun _=>[Bn 66 .lss 65 64]
def r17:Rg:=fun _=>[M 67 65,M 17 67]
def r18:Rg:=fun _=>[Ld 68 false 1 7,M 69 17,Cp 70 fn_gang_set_has [.t 68,.t 69]]
def r19:Rg:=fun _=>[Ld 71 true 3 9,S 18 (.alloc [(.int .u64 0),(.int .u64 0),(.int .u64 0)]),St 3 18 71]
def r20:Rg:=fun _=>[M 72 17,M 73 17,S 74 (.ixA 3 1 (.t 18) (.t 73)),Ld 75 false 1 74,M 76 0,Cp 77 fn_gang_set_with [.t 75,.t 76],S 78 (.ixA 3 1 (.t 18) (.t 72)),St 1 78 77]
def r21:Rg:=fun _=>[M 79 16,Ld 80 false 1 5,M 81 0,Bi 82 .add 81 1,Ld 83 true 3 18,S 84 (.call (.t 80) [.t 82,.t 83]),S 85 (.mm false [.t 79,.t 84]),M 16 85]
def r22:Rg:=fun _=>[Bi 86 .add 65 1,M 65 86]
def r23:Rg:=fun _=>[Ld 87 false 1 6,M 88 0,Ld 89 true 3 9,S 90 (.build [iz,(.int .u64 0),(.int .u64 0),(.int .u64 0)] [(0,1,(.t 88)),(1,3,(.t 89))]),M 91 16,SN (.mapU (true,[.i,.i,.i,.i]) (.t 87) (.t 90) (.t 91))]
def r24:Rg:=fun _=>[M 92 16,M 10 92]
def ir:IR:=(.seq (.ops r0) (.seq (.seq (.ops r1) (.cond (.t 26) (.seq (.ops r2) (.seq (.seq (.ops r3) (.block 0 (.loop (.seq (.ops r4) (.seq (.cond (.t 30) .skip (.exit 0)) (.seq (.block 1 (.seq (.ops r5) (.ops r6))) (.ops r7))))))) (.seq (.ops r8) .ret))) .skip)) (.seq (.seq (.ops r9) (.cond (.t 47) (.seq (.ops r10) .ret) .skip)) (.seq (.seq (.ops r11) (.seq (.ops r12) (.cond (.t 61) (.seq (.ops r13) .ret) .skip))) (.seq (.ops r14) (.seq (.seq (.ops r15) (.block 2 (.loop (.seq (.ops r16) (.seq (.cond (.t 66) .skip (.exit 2)) (.seq (.block 3 (.seq (.ops r17) (.seq (.ops r18) (.cond (.t 70) (.seq (.ops r19) (.seq (.ops r20) (.ops r21))) .skip)))) (.ops r22))))))) (.seq (.ops r23) (.seq (.ops r24) .ret))))))))
def rs:List RV:=[.tmp 10]
theorem e : Entr Pg fn_gang_gangs_deals_1 93 [] ir (RetK rs):=Entr.of (cfg:=cf0) follows Tryz.func208 (by kernel_rfl)
attribute [simp] r0 r1 r2 r3 r4 r5 r6 r7 r8 r9 r10 r11 r12 r13 r14 r15 r16 r17 r18 r19 r20 r21 r22 r23 r24 ir rs
end gang_gangs_deals_1
namespace gang_set_has
def r0:Rg:=fun _=>[S 4 (.mv (.c (.bool false)))]
def r1:Rg:=fun _=>[M 5 0,M 6 1,Bn 7 .shr 5 6,S 8 (.bin .and (.t 7) (.c (.int .u64 1))),S 9 (.bin .eql (.t 8) (.c (.int .u64 1))),M 4 9]
def ir:IR:=(.seq (.ops r0) (.seq (.ops r1) .ret))
def rs:List RV:=[.tmp 4]
theorem e : Entr Pg fn_gang_set_has 10 [] ir (RetK rs):=Entr.of (cfg:=cf0) follows Tryz.func209 (by kernel_rfl)
attribute [simp] r0 r1 ir rs
end gang_set_has
namespace gang_filled_gang_table
def r0:Rg:=fun _=>[S 3 (.box (.t 1)),S 4 (.mv (.c .nils))]
def r1:Rg:=fun _=>[M 6 0,MI 7 0]
def r2:Rg:=fun _=>[Bn 8 .lss 7 6]
def r3:Rg:=fun _=>[M 9 7,M 5 9]
def r4:Rg:=fun _=>[M 10 4,Fa 11 0 3,Ld 12 false 1 11,M 13 5,S 14 (.call (.t 12) [.t 13]),S 15 (.bsl 1 [iz,iz,iz,iz,iz,iz,iz,iz,iz,iz,iz,iz,iz,iz,iz,iz,iz,iz,iz,iz,iz,iz,iz,iz,iz,iz,iz,iz,iz,iz,iz,iz] [(0,32,(.t 14))]),S 16 (.app 32 256 (.t 10) (.t 15)),M 4 16]
def r5:Rg:=fun _=>[Bi 17 .add 7 1,M 7 17]
def r6:Rg:=fun _=>[M 18 4,M 4 18]
def ir:IR:=(.seq (.ops r0) (.seq (.seq (.ops r1) (.block 0 (.loop (.seq (.ops r2) (.seq (.cond (.t 8) .skip (.exit 0)) (.seq (.block 1 (.seq (.ops r3) (.ops r4))) (.ops r5))))))) (.seq (.ops r6) .ret)))
def rs:List RV:=[.tmp 4]
theorem e : Entr Pg fn_gang_filled_gang_table 19 [] ir (RetK rs):=Entr.of (cfg:=cf0) follows Tryz.func210 (by kernel_rfl)
attribute [simp] r0 r1 r2 r3 r4 r5 r6 ir rs
end gang_filled_gang_table
namespace gang_gangs_table
def cfg:Cfg:={ pure:=pures,draws:=[(13,[q 0,q 1,q 2,q 3,q 4,q 5,q 6,q 7,q 8,q 9,q 10,⟨11,true,[],[]⟩,q 12]),(15,[q 0,q 1,q 2,q 3,q 4,q 6,q 7,q 8,q 9,q 11,q 5,q 10,q 12,q 13,q 14,q 15,q 16]),(16,[q 0,q 1,q 2,q 4,q 3,q 5,q 6,q 7,q 8])] }
def r0:Rg:=fun _=>[S 4 (.alloc [iz,iz,iz,iz,iz,iz,iz,iz,iz,iz,iz,iz,iz,iz,iz,iz,iz,iz,iz,iz,iz,iz,iz,iz,iz,iz,iz,iz,iz,iz,iz,iz])]
def r1:Rg:=fun _=>[M 11 0,M 12 1,Cl 13 fn_gang_gangs_knows [.t 11,.t 12],M 5 13]
def r2:Rg:=fun _=>[S 6 (.mv (fc fn_gang_set_has))]
def r3:Rg:=fun _=>[M 14 0,S 15 (.nilck Pg (.t 14)),Fa 16 0 15,Fa 17 0 16,Ld 18 false 1 17,Ln 19 18,Cp 20 fn_gang_every [.t 19],S 21 (.bin .add (.t 20) (.c (.int .u64 1))),S 22 (.mv (.c (.int .u64 0)))]
def r4:Rg:=fun _=>[Bn 23 .lss 22 21]
def r5:Rg:=fun _=>[M 24 22,M 7 24]
def r6:Rg:=fun _=>[M 25 7,S 26 (.ixA 32 1 (.t 4) (.t 25)),SN (.store 1 (.t 26) (ci 10000))]
def r7:Rg:=fun _=>[M 27 7,S 28 (.bin .eql (.t 27) (.c (.int .u64 0)))]
def r8:Rg:=fun _=>[M 29 7,S 30 (.ixA 32 1 (.t 4) (.t 29)),SN (.store 1 (.t 30) (ci 0))]
def r9:Rg:=fun _=>[M 31 0,S 32 (.nilck Pg (.t 31)),Fa 33 0 32,Fa 34 0 33,Ld 35 false 1 34,Ln 36 35,MI 37 0]
def r10:Rg:=fun _=>[Bn 38 .lss 37 36]
def r11:Rg:=fun _=>[M 39 37,M 8 39]
def r12:Rg:=fun _=>[M 40 6,M 41 7,M 42 8,S 43 (.call (.t 40) [.t 41,.t 42]),S 44 (.un .not (.t 43)),M 45 44,Mg 46 45 false 5,Mg 47 45 false 8,SG 48 45 false (.call (.t 46) [.t 47]),SG 49 45 false (.un .not (.t 48)),Po 50 45 49]
def r13:Rg:=fun _=>[M 51 7,M 52 8,S 53 (.bin .shl (.c (.int .u64 1)) (.t 52)),Cp 54 fn_gang_set_without [.t 51,.t 53],M 55 7,M 56 8,S 57 (.bin .shl (.c (.int .u64 1)) (.t 56)),Cp 58 fn_gang_set_without [.t 55,.t 57],S 59 (.ixA 32 1 (.t 4) (.t 58)),Ld 60 false 1 59,S 61 (.build [(.int .u64 0),iz] [(0,1,(.t 54)),(1,1,(.t 60))]),SD (some 9) (.alloc [(.int .u64 0),iz]) true [] [],St 2 9 61]
def r14:Rg:=fun _=>[M 62 0,Ld 63 true 2 9,M 64 1,M 65 8,S 66 (.build [] []),S 67 (.mkI 400 (.t 66)),Cp 68 fn_gang_gangs_next [.t 62,.t 63,.t 64,.t 65,.t 67],S 10 (.alloc [(.int .u64 0),iz]),St 2 10 68]
def r15:Rg:=fun _=>[Fa 69 1 9,Ld 70 false 1 69,Bi 71 .lss 70 10000,M 72 71,Fg 73 72 true 1 10,Mg 75 72 true 0,SG 76 72 true (.nilck Pg (.t 75)),Fg 77 72 true 0 76,Fg 78 72 true 0 77,Mg 80 72 true 8,Lg 74 72 true false 1 73,Lg 79 72 true false 1 78,SG 81 72 true (.ixS 4 (.t 79) (.t 80)),Fg 82 72 true 2 81,Lg 83 72 true false 1 82,SG 84 72 true (.bin .leq (.t 74) (.t 83)),Pa 85 72 84]
def r16:Rg:=fun _=>[M 86 7,M 87 7,S 88 (.ixA 32 1 (.t 4) (.t 87)),Fa 90 1 10,Ld 89 false 1 88,Ld 91 false 1 90,S 92 (.mm false [.t 89,.t 91]),S 93 (.ixA 32 1 (.t 4) (.t 86)),St 1 93 92]
def r17:Rg:=fun _=>[Bi 94 .add 37 1,M 37 94]
def r18:Rg:=fun _=>[S 95 (.bin .add (.t 22) (.c (.int .u64 1))),M 22 95]
def r19:Rg:=fun _=>[Ld 96 true 32 4,St 32 4 96]
def ir:IR:=(.seq (.ops r0) (.seq (.ops r1) (.seq (.ops r2) (.seq (.seq (.ops r3) (.block 0 (.loop (.seq (.ops r4) (.seq (.cond (.t 23) .skip (.exit 0)) (.seq (.block 1 (.seq (.ops r5) (.seq (.ops r6) (.seq (.seq (.ops r7) (.cond (.t 28) (.ops r8) .skip)) (.seq (.ops r9) (.block 2 (.loop (.seq (.ops r10) (.seq (.cond (.t 38) .skip (.exit 2)) (.seq (.block 3 (.seq (.ops r11) (.seq (.seq (.ops r12) (.cond (.t 50) (.exit 3) .skip)) (.seq (.ops r13) (.seq (.ops r14) (.seq (.ops r15) (.cond (.t 85) (.ops r16) .skip))))))) (.ops r17))))))))))) (.ops r18))))))) (.seq (.ops r19) .ret)))))
def rs:List RV:=[.cell 4 true 32]
theorem e : Entr Pg fn_gang_gangs_table 97 [] ir (RetK rs):=Entr.of (cfg:=cfg) follows Tryz.func211 (by kernel_rfl)
attribute [simp] r0 r1 r2 r3 r4 r5 r6 r7 r8 r9 r10 r11 r12 r13 r14 r15 r16 r17 r18 r19 ir rs
end gang_gangs_table
namespace stringslite_HasPrefix
def r0:Rg:=fun _=>[S 4 (.mv (.c (.bool false)))]
def r1:Rg:=fun _=>[M 5 0,S 6 (.lenT (.t 5)),M 7 1,S 8 (.lenT (.t 7)),Bn 9 .geq 6 8,M 10 9,Mg 11 10 true 0,Mg 12 10 true 1,SG 13 10 true (.lenT (.t 12)),SG 14 10 true (.slT (.t 11) none (some (.t 13))),Mg 15 10 true 1,SG 16 10 true (.bin .eql (.t 14) (.t 15)),Pa 17 10 16,M 4 17]
def ir:IR:=(.seq (.ops r0) (.seq (.ops r1) .ret))
def rs:List RV:=[.tmp 4]
theorem e : Entr Pg fn_stringslite_HasPrefix 18 [] ir (RetK rs):=Entr.of (cfg:=cf0) follows Tryz.func212 (by kernel_rfl)
attribute [simp] r0 r1 ir rs
end stringslite_HasPrefix
namespace slices_SortStableFunc_int_int
def r0:Rg:=fun _=>[M 4 0,M 5 0,Ln 6 5,M 7 1,Cl 8 fn_slices_stableCmpFunc_int [.t 4,.t 6,.t 7]]
def ir:IR:=(.ops r0)
def rs:List RV:=[]
theorem e : Entr Pg fn_slices_SortStableFunc_int_int 9 [] ir (RetK rs):=Entr.of (cfg:=cf0) follows Tryz.func219 (by kernel_rfl)
attribute [simp] r0 ir rs
end slices_SortStableFunc_int_int
namespace wage_known_fathoms
def cfg:Cfg:={ pure:=pures,draws:=[(3,[q 0,q 3,q 1,q 2,q 4,q 5,q 6,q 7])] }
def r0:Rg:=fun _=>[S 1 (.box (.t 0)),S 2 (.mv (.c (.int .u32 0)))]
def r1:Rg:=fun _=>[Fa 3 0 1,Ld 4 false 1 3,Fa 5 1 1,Ld 6 false 1 5,Bn 7 .geq 4 6]
def r2:Rg:=fun _=>[S 2 (.mv (.c (.int .u32 0)))]
def r3:Rg:=fun _=>[Fa 8 1 1,Fa 11 0 1,Ld 9 false 1 8,S 10 (.bin .shl (.c (.int .u32 1)) (.t 9)),Ld 12 false 1 11,S 13 (.bin .shl (.c (.int .u32 1)) (.t 12)),Bn 14 .sub 10 13,M 2 14]
def ir:IR:=(.seq (.ops r0) (.seq (.seq (.ops r1) (.cond (.t 7) (.seq (.ops r2) .ret) .skip)) (.seq (.ops r3) .ret)))
def rs:List RV:=[.tmp 2]
theorem e : Entr Pg fn_wage_known_fathoms 15 [] ir (RetK rs):=Entr.of (cfg:=cfg) follows Tryz.func221 (by kernel_rfl)
attribute [simp] r0 r1 r2 r3 ir rs
end wage_known_fathoms
namespace wage_fathoms_but
def r0:Rg:=fun _=>[S 4 (.mv (.c (.int .u32 0)))]
def r1:Rg:=fun _=>[M 5 0,M 6 1,Bn 7 .andNot 5 6,M 4 7]
def ir:IR:=(.seq (.ops r0) (.seq (.ops r1) .ret))
def rs:List RV:=[.tmp 4]
theorem e : Entr Pg fn_wage_fathoms_but 8 [] ir (RetK rs):=Entr.of (cfg:=cf0) follows Tryz.func222 (by kernel_rfl)
attribute [simp] r0 r1 ir rs
end wage_fathoms_but
namespace pitch_Hot_1
def r0:Rg:=fun _=>[S 4 (.mv (.c (.bool false)))]
def r1:Rg:=fun _=>[M 5 0,Ld 6 false 1 1,Cp 7 fn_pitch_pitch_isPot [.t 5,.t 6],M 8 7,Mg 9 8 true 0,Lg 10 8 true false 1 2,Gp 11 8 true fn_pitch_pitch_isHour [.t 9,.t 10],Pa 12 8 11,M 4 12]
def ir:IR:=(.seq (.ops r0) (.seq (.ops r1) .ret))
def rs:List RV:=[.tmp 4]
theorem e : Entr Pg fn_pitch_Hot_1 13 [] ir (RetK rs):=Entr.of (cfg:=cf0) follows Tryz.func223 (by kernel_rfl)
attribute [simp] r0 r1 ir rs
end pitch_Hot_1
namespace pitch_pitch_isPot
def r0:Rg:=fun _=>[S 4 (.mv (.c (.bool false)))]
def r1:Rg:=fun _=>[M 5 1,M 6 0,S 7 (.nilck Pg (.t 6)),Fa 8 0 7,Fa 9 4 8,Ld 10 false 1 9,Ln 11 10,Bi 12 .sub 11 1,Cp 13 fn_pitch_within [.t 5,ci 0,.t 12],M 4 13]
def ir:IR:=(.seq (.ops r0) (.seq (.ops r1) .ret))
def rs:List RV:=[.tmp 4]
theorem e : Entr Pg fn_pitch_pitch_isPot 14 [] ir (RetK rs):=Entr.of (cfg:=cf0) follows Tryz.func224 (by kernel_rfl)
attribute [simp] r0 r1 ir rs
end pitch_pitch_isPot
namespace pitch_pitch_isHour
def r0:Rg:=fun _=>[S 4 (.mv (.c (.bool false)))]
def r1:Rg:=fun _=>[M 5 1,M 6 0,S 7 (.nilck Pg (.t 6)),Fa 8 0 7,Fa 9 0 8,Ld 10 false 1 9,Bi 11 .sub 10 1,Cp 12 fn_pitch_within [.t 5,ci 0,.t 11],M 4 12]
def ir:IR:=(.seq (.ops r0) (.seq (.ops r1) .ret))
def rs:List RV:=[.tmp 4]
theorem e : Entr Pg fn_pitch_pitch_isHour 13 [] ir (RetK rs):=Entr.of (cfg:=cf0) follows Tryz.func225 (by kernel_rfl)
attribute [simp] r0 r1 ir rs
end pitch_pitch_isHour
namespace slices_Max_int_int
def r0:Rg:=fun _=>[MI 2 0]
def r1:Rg:=fun _=>[M 5 0,Ln 6 5,Bi 7 .lss 6 1]
def r2:Rg:=fun _=>[S 8 (.mkI 9 (.c (.str [115,108,105,99,101,115,46,77,97,120,58,32,101,109,112,116,121,32,108,105,115,116]))),SN (.panic (.t 8))]
def r3:Rg:=fun _=>[M 9 0,S 10 (.ixS 1 (.t 9) (ci 0)),Ld 11 false 1 10,M 3 11]
def r4:Rg:=fun _=>[MI 4 1]
def r5:Rg:=fun _=>[M 12 4,M 13 0,Ln 14 13,Bn 15 .lss 12 14]
def r7:Rg:=fun _=>[M 18 3,M 19 0,M 20 4,Ix 21 1 19 20,Ld 22 false 1 21,S 23 (.mm true [.t 18,.t 22]),M 3 23]
def r6:Rg:=fun _=>[M 16 4,Bi 17 .add 16 1,M 4 17]
def r8:Rg:=fun _=>[M 24 3,M 2 24]
def ir:IR:=(.seq (.ops r0) (.seq (.seq (.ops r1) (.cond (.t 7) (.ops r2) .skip)) (.seq (.ops r3) (.seq (.seq (.ops r4) (.block 0 (.loop (.seq (.seq (.ops r5) (.cond (.t 15) .skip (.exit 0))) (.seq (.block 1 (.ops r7)) (.ops r6)))))) (.seq (.ops r8) .ret)))))
def rs:List RV:=[.tmp 2]
theorem e : Entr Pg fn_slices_Max_int_int 25 [] ir (RetK rs):=Entr.of (cfg:=cf0) follows Tryz.func226 (by kernel_rfl)
attribute [simp] r0 r1 r2 r3 r4 r5 r7 r6 r8 ir rs
end slices_Max_int_int
namespace gang_gangs_knows
def r0:Rg:=fun _=>[S 2 (.box (.t 0)),S 4 (.mv (.c .nilf))]
def r1:Rg:=fun _=>[Ld 6 false 1 2,S 7 (.nilck Pg (.t 6)),Fa 8 0 7,Fa 9 1 8,Ld 10 false 1 9,M 11 1,Ix 12 3 10 11,Fa 13 2 12,Ld 14 false 1 13,S 15 (.conv .u64 (.t 14)),S 16 (.mkF (.func fn_gang_set_has) [.t 15] []),S 5 (.alloc [.nilf]),St 1 5 16]
def r2:Rg:=fun _=>[S 17 (.mkF (.func fn_gang_gangs_knows_1) [] [.t 5,.t 2]),M 4 17]
def ir:IR:=(.seq (.ops r0) (.seq (.ops r1) (.seq (.ops r2) .ret)))
def rs:List RV:=[.tmp 4]
theorem e : Entr Pg fn_gang_gangs_knows 18 [] ir (RetK rs):=Entr.of (cfg:=cf0) follows Tryz.func227 (by kernel_rfl)
attribute [simp] r0 r1 r2 ir rs
end gang_gangs_knows
namespace gang_set_without
def r0:Rg:=fun _=>[S 4 (.mv (.c (.int .u64 0)))]
def r1:Rg:=fun _=>[M 5 0,M 6 1,Bn 7 .andNot 5 6,M 4 7]
def ir:IR:=(.seq (.ops r0) (.seq (.ops r1) .ret))
def rs:List RV:=[.tmp 4]
theorem e : Entr Pg fn_gang_set_without 8 [] ir (RetK rs):=Entr.of (cfg:=cf0) follows Tryz.func228 (by kernel_rfl)
attribute [simp] r0 r1 ir rs
end gang_set_without
namespace gang_gangs_next
def cfg:Cfg:={ pure:=pures,draws:=[(1,[q 0,q 1,q 2,q 3,q 4,q 6,q 9,q 10,q 11,q 5,q 7,q 8,q 12,q 13]),(2,[q 0,q 2,q 4,q 6,q 7,q 8,q 10,q 15,q 16,q 17,q 18,q 20,q 24,q 27,q 1,q 3,q 5,q 9,q 11,q 12,q 19,q 21,q 22,q 23,q 25,q 26,q 28,⟨13,true,[],[]⟩,⟨14,false,[],[19,23]⟩,q 29,q 30,q 31])] }
def r0:Rg:=fun _=>[S 6 (.box (.t 1)),S 10 (.alloc [(.int .u64 0),iz])]
def r1:Rg:=fun _=>[M 12 4,M 13 0,S 14 (.nilck Pg (.t 13)),Fa 15 0 14,Fa 16 1 15,M 18 2,S 21 (.mkF (.method "caulkworks/gang.fathoms") [.t 12] []),S 22 (.nilck Pg (.t 21)),M 23 12,Ld 17 false 1 16,Ix 19 3 17 18,Ld 20 true 3 19,S 24 (.inv (.t 23) "caulkworks/gang.fathoms" [.t 20]),M 11 24]
def r2:Rg:=fun _=>[Fa 25 0 6,M 27 3,Fa 29 1 6,M 31 0,S 32 (.nilck Pg (.t 31)),Fa 33 7 32,M 35 3,M 40 0,S 41 (.nilck Pg (.t 40)),Fa 42 0 41,Fa 43 0 42,M 45 3,M 49 11,M 52 11,Ld 26 false 1 25,Cp 28 fn_gang_set_with [.t 26,.t 27],Ld 30 false 1 29,Ld 34 false 1 33,Ix 36 1 34 35,Ld 37 false 1 36,Ld 44 false 1 43,Ix 46 4 44 45,Fa 47 0 46,Ld 48 false 1 47,Bn 50 .add 48 49,Bi 51 .sub 50 1,Bn 53 .quo 51 52,SD (some 38) (.bsl 2 [iz,iz] [(0,1,(.t 30)),(1,1,(.t 37))]) true [] [],SD (some 39) (.call (fc fn_gang_later) [.t 38]) false [] [I 44 (.load false 1 (.t 43)),I 48 (.load false 1 (.t 47))],Bn 54 .add 39 53,S 55 (.build [(.int .u64 0),iz] [(0,1,(.t 28)),(1,1,(.t 54))]),St 2 10 55]
def ir:IR:=(.seq (.ops r0) (.seq (.ops r1) (.seq (.ops r2) .ret)))
def rs:List RV:=[.cell 10 true 2]
theorem e : Entr Pg fn_gang_gangs_next 56 [] ir (RetK rs):=Entr.of (cfg:=cfg) follows Tryz.func229 (by kernel_rfl)
attribute [simp] r0 r1 r2 ir rs
end gang_gangs_next
namespace slices_stableCmpFunc_int
def r0:Rg:=fun _=>[MI 6 20]
def r1:Rg:=fun _=>[M 10 6,MI 7 0,M 8 10]
def r2:Rg:=fun _=>[M 11 8,M 12 1,Bn 13 .leq 11 12]
def r3:Rg:=fun _=>[M 14 0,M 15 7,M 16 8,M 17 2,Cl 18 fn_slices_insertionSortCmpFunc_int [.t 14,.t 15,.t 16,.t 17]]
def r4:Rg:=fun _=>[M 19 8,M 7 19]
def r5:Rg:=fun _=>[M 20 8,M 21 6,Bn 22 .add 20 21,M 8 22]
def r6:Rg:=fun _=>[M 23 0,M 24 7,M 25 1,M 26 2,Cl 27 fn_slices_insertionSortCmpFunc_int [.t 23,.t 24,.t 25,.t 26]]
def r7:Rg:=fun _=>[M 28 6,M 29 1,Bn 30 .lss 28 29]
def r8:Rg:=fun _=>[M 31 6,S 32 (.bin .mul (ci 2) (.t 31)),MI 7 0,M 8 32]
def r9:Rg:=fun _=>[M 33 8,M 34 1,Bn 35 .leq 33 34]
def r10:Rg:=fun _=>[M 36 0,M 37 7,M 38 7,M 39 6,Bn 40 .add 38 39,M 41 8,M 42 2,Cl 43 fn_slices_symMergeCmpFunc_int [.t 36,.t 37,.t 40,.t 41,.t 42]]
def r11:Rg:=fun _=>[M 44 8,M 7 44]
def r12:Rg:=fun _=>[M 45 8,M 46 6,S 47 (.bin .mul (ci 2) (.t 46)),Bn 48 .add 45 47,M 8 48]
def r13:Rg:=fun _=>[M 49 7,M 50 6,Bn 51 .add 49 50,M 9 51]
def r14:Rg:=fun _=>[M 52 9,M 53 1,Bn 54 .lss 52 53]
def r15:Rg:=fun _=>[M 55 0,M 56 7,M 57 9,M 58 1,M 59 2,Cl 60 fn_slices_symMergeCmpFunc_int [.t 55,.t 56,.t 57,.t 58,.t 59]]
def r16:Rg:=fun _=>[M 61 6,Bi 62 .mul 61 2,M 6 62]
def ir:IR:=(.seq (.ops r0) (.seq (.ops r1) (.seq (.block 0 (.loop (.seq (.seq (.ops r2) (.cond (.t 13) .skip (.exit 0))) (.block 1 (.seq (.ops r3) (.seq (.ops r4) (.ops r5))))))) (.seq (.ops r6) (.block 2 (.loop (.seq (.seq (.ops r7) (.cond (.t 30) .skip (.exit 2))) (.block 3 (.seq (.ops r8) (.seq (.block 4 (.loop (.seq (.seq (.ops r9) (.cond (.t 35) .skip (.exit 4))) (.block 5 (.seq (.ops r10) (.seq (.ops r11) (.ops r12))))))) (.seq (.seq (.ops r13) (.seq (.ops r14) (.cond (.t 54) (.ops r15) .skip))) (.ops r16))))))))))))
def rs:List RV:=[]
theorem e : Entr Pg fn_slices_stableCmpFunc_int 63 [] ir (RetK rs):=Entr.of (cfg:=cf0) follows Tryz.func236 (by kernel_rfl)
attribute [simp] r0 r1 r2 r3 r4 r5 r6 r7 r8 r9 r10 r11 r12 r13 r14 r15 r16 ir rs
end slices_stableCmpFunc_int
namespace gang_gangs_knows_1
def r0:Rg:=fun _=>[S 4 (.mv (.c (.bool false)))]
def r1:Rg:=fun _=>[Ld 5 false 1 1,M 6 0,S 7 (.call (.t 5) [.t 6]),M 8 7,Lg 9 8 true false 1 2,SG 10 8 true (.nilck Pg (.t 9)),Fg 11 8 true 7 10,Lg 12 8 true false 1 11,Mg 13 8 true 0,SG 14 8 true (.ixS 1 (.t 12) (.t 13)),Lg 15 8 true false 1 14,SG 16 8 true (.bin .lss (.t 15) (ci 10000)),Pa 17 8 16,M 4 17]
def ir:IR:=(.seq (.ops r0) (.seq (.ops r1) .ret))
def rs:List RV:=[.tmp 4]
theorem e : Entr Pg fn_gang_gangs_knows_1 18 [] ir (RetK rs):=Entr.of (cfg:=cf0) follows Tryz.func237 (by kernel_rfl)
attribute [simp] r0 r1 ir rs
end gang_gangs_knows_1
namespace slices_insertionSortCmpFunc_int
def cfg:Cfg:={ pure:=pures,draws:=[(4,[q 0,q 1,q 2,q 3,q 4,q 5,q 6,q 7,q 9,q 10,q 11,q 12,q 8,q 13,q 14,q 15,q 16]),(6,[q 0,q 1,q 2,q 3,q 4,q 5,q 6,q 7,q 8,q 10,q 11,q 12,q 9,q 13,q 14,q 15,q 16,q 17])] }
def r0:Rg:=fun _=>[M 10 1,Bi 11 .add 10 1,M 8 11]
def r1:Rg:=fun _=>[M 12 8,M 13 2,Bn 14 .lss 12 13]
def r3:Rg:=fun _=>[M 17 8,M 9 17]
def r4:Rg:=fun _=>[M 18 9,M 19 1,Bn 20 .gtr 18 19,M 21 20,Mg 22 21 true 3,Mg 23 21 true 0,Mg 24 21 true 9,SG 25 21 true (.ixS 1 (.t 23) (.t 24)),Mg 27 21 true 0,Mg 28 21 true 9,SG 29 21 true (.bin .sub (.t 28) (ci 1)),SG 30 21 true (.ixS 1 (.t 27) (.t 29)),Lg 26 21 true false 1 25,Lg 31 21 true false 1 30,SG 32 21 true (.call (.t 22) [.t 26,.t 31]),SG 33 21 true (.bin .lss (.t 32) (ci 0)),Pa 34 21 33]
def r6:Rg:=fun _=>[M 37 0,M 38 9,M 39 0,M 40 9,Bi 41 .sub 40 1,M 42 0,M 43 9,Bi 44 .sub 43 1,Ix 45 1 42 44,M 47 0,M 48 9,Ix 49 1 47 48,Ld 46 false 1 45,Ld 50 false 1 49,Ix 51 1 37 38,St 1 51 46,Ix 52 1 39 41,St 1 52 50]
def r5:Rg:=fun _=>[M 35 9,Bi 36 .sub 35 1,M 9 36]
def r2:Rg:=fun _=>[M 15 8,Bi 16 .add 15 1,M 8 16]
def ir:IR:=(.seq (.ops r0) (.block 0 (.loop (.seq (.seq (.ops r1) (.cond (.t 14) .skip (.exit 0))) (.seq (.block 1 (.seq (.ops r3) (.block 2 (.loop (.seq (.seq (.ops r4) (.cond (.t 34) .skip (.exit 2))) (.seq (.block 3 (.ops r6)) (.ops r5))))))) (.ops r2))))))
def rs:List RV:=[]
theorem e : Entr Pg fn_slices_insertionSortCmpFunc_int 53 [] ir (RetK rs):=Entr.of (cfg:=cfg) follows Tryz.func243 (by kernel_rfl)
attribute [simp] r0 r1 r3 r4 r6 r5 r2 ir rs
end slices_insertionSortCmpFunc_int
namespace leak_hull_can
def r0:Rg:=fun _=>[S 4 (.alloc [(.bool false)])]
def r1:Rg:=fun _=>[M 5 0,M 6 1,Cl 7 fn_leak_hull_inflows [.t 5,.t 6]]
def r2:Rg:=fun _=>[SN (.store 1 (.t 4) (.c (.bool true)))]
def r3:Rg:=fun _=>[SN (.store 1 (.t 4) (.c (.bool false)))]
def ir:IR:=(.seq (.ops r0) (.seq (.seq (.ops r1) (.block 0 (.rangeF (.t 7) [8] .skip (.block 1 (.seq (.ops r2) .ret))))) (.seq (.ops r3) .ret)))
def rs:List RV:=[.cell 4 false 1]
theorem e : Entr Pg fn_leak_hull_can 9 [] ir (RetK rs):=Entr.of (cfg:=cf0) follows Tryz.func264 (by kernel_rfl)
attribute [simp] r0 r1 r2 r3 ir rs
end leak_hull_can
namespace pitch_early_broken
def cfg:Cfg:={ pure:=pures,draws:=[(1,[q 0,q 2,q 3,q 4,q 5,q 7,q 1,q 6,q 8,q 9,q 10,q 11,q 12])] }
def r0:Rg:=fun _=>[S 4 (.box (.t 0)),S 7 (.box (.t 3)),S 8 (.mv (.c (.bool false)))]
def r1:Rg:=fun _=>[Fa 9 1 7,M 11 1,S 12 (.nilck Pg (.t 11)),Fa 13 0 12,Fa 14 4 13,M 16 2,Ld 10 false 1 9,Ld 15 false 1 14,Ix 17 3 15 16,Fa 18 1 17,Ld 19 false 1 18,Bn 20 .lss 10 19,M 8 20]
def ir:IR:=(.seq (.ops r0) (.seq (.ops r1) .ret))
def rs:List RV:=[.tmp 8]
theorem e : Entr Pg fn_pitch_early_broken 21 [] ir (RetK rs):=Entr.of (cfg:=cfg) follows Tryz.func266 (by kernel_rfl)
attribute [simp] r0 r1 ir rs
end pitch_early_broken
namespace pitch_late_broken
def cfg:Cfg:={ pure:=pures,draws:=[(1,[q 0,q 1,q 2,q 4,q 5,q 6,q 9,q 10,q 11,q 12,q 14,q 3,q 7,q 8,q 13,q 15,q 16,q 17,q 18,q 19])] }
def r0:Rg:=fun _=>[S 4 (.box (.t 0)),S 7 (.box (.t 3)),S 8 (.mv (.c (.bool false)))]
def r1:Rg:=fun _=>[M 9 1,M 10 2,Fa 11 1 7,M 13 1,S 14 (.nilck Pg (.t 13)),Fa 15 6 14,M 18 1,S 19 (.nilck Pg (.t 18)),Fa 20 0 19,Fa 21 4 20,M 23 2,Ld 12 false 1 11,Ld 16 false 1 15,Cp 17 fn_pitch_pitch_hot [.t 9,.t 10,.t 12,.t 16],Ld 22 false 1 21,Ix 24 3 22 23,Fa 25 2 24,Ld 26 false 1 25,Bn 27 .gtr 17 26,M 8 27]
def ir:IR:=(.seq (.ops r0) (.seq (.ops r1) .ret))
def rs:List RV:=[.tmp 8]
theorem e : Entr Pg fn_pitch_late_broken 28 [] ir (RetK rs):=Entr.of (cfg:=cfg) follows Tryz.func267 (by kernel_rfl)
attribute [simp] r0 r1 ir rs
end pitch_late_broken
namespace pitch_hull_broken
def cfg:Cfg:={ pure:=pures,draws:=[(1,[q 0,q 1,q 2,q 5,q 6,q 7,q 8,q 10,q 3,q 4,q 9,q 11,q 12,q 13,q 14,q 15,q 16])] }
def r0:Rg:=fun _=>[S 4 (.box (.t 0)),S 7 (.box (.t 3)),S 8 (.mv (.c (.bool false)))]
def r1:Rg:=fun _=>[M 9 1,M 10 2,Fa 11 1 7,M 14 1,S 15 (.nilck Pg (.t 14)),Fa 16 0 15,Fa 17 3 16,Fa 19 0 7,Ld 12 false 1 11,Cp 13 fn_pitch_pitch_takes [.t 9,.t 10,.t 12],Ld 18 false 1 17,Ld 20 false 1 19,Ix 21 1 18 20,Ld 22 false 1 21,S 23 (.conv .u64 (.t 22)),Cp 24 fn_pitch_hours_meets [.t 13,.t 23],M 8 24]
def ir:IR:=(.seq (.ops r0) (.seq (.ops r1) .ret))
def rs:List RV:=[.tmp 8]
theorem e : Entr Pg fn_pitch_hull_broken 25 [] ir (RetK rs):=Entr.of (cfg:=cfg) follows Tryz.func268 (by kernel_rfl)
attribute [simp] r0 r1 ir rs
end pitch_hull_broken
namespace wage_most_of
def r0:Rg:=fun _=>[S 3 (.box (.t 0)),S 5 (.box (.t 2)),S 6 (.alloc [iz,iz,iz])]
def r1:Rg:=fun _=>[Fa 7 0 5,Ld 8 false 1 7,Fa 9 0 3,Ld 10 false 1 9,Bn 11 .eql 8 10]
def r2:Rg:=fun _=>[Fa 12 2 5,Fa 13 0 12,Ld 14 false 1 13,Fa 15 4 5,Fa 16 1 15,Ld 17 false 1 16,Fa 18 6 5,Fa 19 0 18,Ld 20 false 1 19,S 21 (.build [iz,iz,iz] [(0,1,(.t 14)),(1,1,(.t 17)),(2,1,(.t 20))]),St 3 6 21]
def r3:Rg:=fun _=>[Fa 22 2 5,Fa 23 1 22,Ld 24 false 1 23,Fa 25 4 5,Fa 26 0 25,Ld 27 false 1 26,Fa 28 6 5,Fa 29 1 28,Ld 30 false 1 29,S 31 (.build [iz,iz,iz] [(0,1,(.t 24)),(1,1,(.t 27)),(2,1,(.t 30))]),St 3 6 31]
def ir:IR:=(.seq (.ops r0) (.seq (.seq (.ops r1) (.cond (.t 11) (.seq (.ops r2) .ret) .skip)) (.seq (.ops r3) .ret)))
def rs:List RV:=[.cell 6 true 3]
theorem e : Entr Pg fn_wage_most_of 32 [] ir (RetK rs):=Entr.of (cfg:=cf0) follows Tryz.func269 (by kernel_rfl)
attribute [simp] r0 r1 r2 r3 ir rs
end wage_most_of
namespace wage_least_of
def r0:Rg:=fun _=>[S 3 (.box (.t 0)),S 5 (.box (.t 2)),S 6 (.alloc [iz,iz,iz])]
def r1:Rg:=fun _=>[Fa 7 0 5,Ld 8 false 1 7,Fa 9 0 3,Fa 10 0 9,Ld 11 false 1 10,Bn 12 .eql 8 11]
def r2:Rg:=fun _=>[Fa 13 2 5,Fa 14 1 13,Ld 15 false 1 14,Fa 16 4 5,Fa 17 0 16,Ld 18 false 1 17,Fa 19 6 5,Fa 20 1 19,Ld 21 false 1 20,S 22 (.build [iz,iz,iz] [(0,1,(.t 15)),(1,1,(.t 18)),(2,1,(.t 21))]),St 3 6 22]
def r3:Rg:=fun _=>[Fa 23 2 5,Fa 24 0 23,Ld 25 false 1 24,Fa 26 4 5,Fa 27 1 26,Ld 28 false 1 27,Fa 29 6 5,Fa 30 0 29,Ld 31 false 1 30,S 32 (.build [iz,iz,iz] [(0,1,(.t 25)),(1,1,(.t 28)),(2,1,(.t 31))]),St 3 6 32]
def ir:IR:=(.seq (.ops r0) (.seq (.seq (.ops r1) (.cond (.t 12) (.seq (.ops r2) .ret) .skip)) (.seq (.ops r3) .ret)))
def rs:List RV:=[.cell 6 true 3]
theorem e : Entr Pg fn_wage_least_of 33 [] ir (RetK rs):=Entr.of (cfg:=cf0) follows Tryz.func270 (by kernel_rfl)
attribute [simp] r0 r1 r2 r3 ir rs
end wage_least_of
namespace leak_none_can
def r0:Rg:=fun _=>[S 4 (.box (.t 0)),S 5 (.box (.t 1)),S 8 (.mv (.c (.bool false)))]
def r1:Rg:=fun _=>[S 8 (.mv (.c (.bool true)))]
def ir:IR:=(.seq (.ops r0) (.seq (.ops r1) .ret))
def rs:List RV:=[.tmp 8]
theorem e : Entr Pg fn_leak_none_can 9 [] ir (RetK rs):=Entr.of (cfg:=cf0) follows Tryz.func273 (by kernel_rfl)
attribute [simp] r0 r1 ir rs
end leak_none_can
namespace leak_wet_ends
def cfg:Cfg:={ pure:=pures,draws:=[(1,[q 1,q 3,q 4,q 5,q 0,q 2,q 6,q 7,q 8])] }
def r0:Rg:=fun _=>[S 4 (.box (.t 0)),S 5 (.box (.t 1)),MI 8 0,MI 9 0]
def r1:Rg:=fun _=>[Fa 12 0 4,M 14 2,S 15 (.bin .shl (.c (.int .u64 1)) (.t 14)),S 16 (.bin .sub (.t 15) (.c (.int .u64 1))),Ld 11 true 6 5,Ld 13 false 1 12,Bn 17 .and 13 16,Cp 18 fn_leak_inflow_sum [.t 11,.t 17],M 8 18]
def r2:Rg:=fun _=>[M 19 8,M 9 19]
def r3:Rg:=fun _=>[M 20 2,M 10 20]
def r4:Rg:=fun _=>[M 21 10,M 22 3,Ln 23 22,Bn 24 .lss 21 23]
def r6:Rg:=fun _=>[Fa 27 0 4,Ld 28 false 1 27,M 29 10,Cp 30 fn_leak_set_has [.t 28,.t 29]]
def r7:Rg:=fun _=>[M 31 9,M 32 3,M 33 10,Ix 34 1 32 33,Ld 35 false 1 34,S 36 (.bsl 2 [iz,iz] [(0,1,(.t 31)),(1,1,(.t 35))]),Cl 37 fn_leak_flows [.t 36],M 9 37]
def r5:Rg:=fun _=>[M 25 10,Bi 26 .add 25 1,M 10 26]
def r8:Rg:=fun _=>[M 38 8,M 39 9,M 8 38,M 9 39]
def ir:IR:=(.seq (.ops r0) (.seq (.ops r1) (.seq (.ops r2) (.seq (.seq (.ops r3) (.block 0 (.loop (.seq (.seq (.ops r4) (.cond (.t 24) .skip (.exit 0))) (.seq (.block 1 (.seq (.ops r6) (.cond (.t 30) (.ops r7) .skip))) (.ops r5)))))) (.seq (.ops r8) .ret)))))
def rs:List RV:=[.tmp 8,.tmp 9]
theorem e : Entr Pg fn_leak_wet_ends 40 [] ir (RetK rs):=Entr.of (cfg:=cfg) follows Tryz.func274 (by kernel_rfl)
attribute [simp] r0 r1 r2 r3 r4 r6 r7 r5 r8 ir rs
end leak_wet_ends
namespace leak_sounding_can
def r0:Rg:=fun _=>[S 4 (.box (.t 0)),S 5 (.box (.t 1)),S 8 (.mv (.c (.bool false)))]
def r1:Rg:=fun _=>[Fa 12 0 4,Ld 13 true 1 12,Ld 14 true 6 5,M 15 2,M 16 3,Cl 17 fn_leak_wet_ends [.t 13,.t 14,.t 15,.t 16],M 11 17,X 18 11 0,X 19 11 1,M 9 18,M 10 19]
def r2:Rg:=fun _=>[M 20 9,Fa 21 1 4,Fa 22 1 21,Ld 23 false 1 22,Bn 24 .leq 20 23,M 25 24,Mg 26 25 true 10,Fg 27 25 true 1 4,Fg 28 25 true 0 27,Lg 29 25 true false 1 28,SG 30 25 true (.bin .geq (.t 26) (.t 29)),Pa 31 25 30,M 8 31]
def ir:IR:=(.seq (.ops r0) (.seq (.ops r1) (.seq (.ops r2) .ret)))
def rs:List RV:=[.tmp 8]
theorem e : Entr Pg fn_leak_sounding_can 32 [] ir (RetK rs):=Entr.of (cfg:=cf0) follows Tryz.func275 (by kernel_rfl)
attribute [simp] r0 r1 r2 ir rs
end leak_sounding_can
namespace iron_other_right
def r0:Rg:=fun _=>[S 2 (.box (.t 0)),S 4 (.mv (.c (.bool false)))]
def r1:Rg:=fun _=>[M 5 1,Fa 6 0 2,Ld 7 false 1 6,Bn 8 .neq 5 7,M 4 8]
def ir:IR:=(.seq (.ops r0) (.seq (.ops r1) .ret))
def rs:List RV:=[.tmp 4]
theorem e : Entr Pg fn_iron_other_right 9 [] ir (RetK rs):=Entr.of (cfg:=cf0) follows Tryz.func276 (by kernel_rfl)
attribute [simp] r0 r1 ir rs
end iron_other_right
namespace iron_his_right
def r0:Rg:=fun _=>[S 2 (.box (.t 0)),S 4 (.mv (.c (.bool false)))]
def r1:Rg:=fun _=>[M 5 1,Fa 6 0 2,Ld 7 false 1 6,Bn 8 .eql 5 7,M 4 8]
def ir:IR:=(.seq (.ops r0) (.seq (.ops r1) .ret))
def rs:List RV:=[.tmp 4]
theorem e : Entr Pg fn_iron_his_right 9 [] ir (RetK rs):=Entr.of (cfg:=cf0) follows Tryz.func277 (by kernel_rfl)
attribute [simp] r0 r1 ir rs
end iron_his_right
namespace gang_slow_fathoms
def r0:Rg:=fun _=>[S 2 (.box (.t 0)),S 3 (.box (.t 1)),MI 4 0]
def r1:Rg:=fun _=>[Fa 5 0 3,Fa 6 0 5,Ld 7 false 1 6,M 4 7]
def ir:IR:=(.seq (.ops r0) (.seq (.ops r1) .ret))
def rs:List RV:=[.tmp 4]
theorem e : Entr Pg fn_gang_slow_fathoms 8 [] ir (RetK rs):=Entr.of (cfg:=cf0) follows Tryz.func278 (by kernel_rfl)
attribute [simp] r0 r1 ir rs
end gang_slow_fathoms
end Go.Cw
end
end
