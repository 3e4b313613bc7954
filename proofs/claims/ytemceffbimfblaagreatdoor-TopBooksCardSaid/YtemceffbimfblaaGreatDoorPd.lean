/-
  The law.
-/
import Derived.Test.YtemceffbimfblaaGreatDoorPc
import Derived.Test.YtemceffbimfblaaGreatDoorLa
import Derived.Test.YtemceffbimfblaaGreatDoorPa
import Derived.Test.YtemceffbimfblaaGreatDoorPb
import Derived.Test.YtemceffbimfblaaGreatDoorAe
import Derived.Test.YtemceffbimfblaaGreatDoorAf
import Derived.Test.YtemceffbimfblaaGreatDoorRows
import Derived.Lib.LaidTab
import Derived.Stop.LaidErr
set_option linter.unusedSectionVars false
set_option linter.unusedSimpArgs false
set_option linter.unusedVariables false
set_option maxRecDepth 100000
section
namespace Go.Cw
open Go Go.Proofs
theorem sumV_form (h:Hul) (ok:Prop) [Decidable ok] (q:Int):∃a b e,h.sumV ok q=.tup [.agg [.int .i64 a,.int .i64 b],.int .i64 e]:=by
 unfold Hul.sumV
 repeat' split
 all_goals exact ⟨_,_,_,rfl⟩
theorem leaksV_form (h:Hul):∃a b e,h.leaksV=.tup [.int .i64 a,.int .i64 b,.int .i64 e]:=by
 unfold Hul.leaksV
 repeat' split
 all_goals exact ⟨_,_,_,rfl⟩
theorem falseV_form (x:Irn):∃a b e,x.falseV=.tup [.int .i64 a,.int .i64 b,.int .i64 e]:=by
 unfold Irn.falseV
 repeat' split
 all_goals exact ⟨_,_,_,rfl⟩
theorem canV_form (x:Irn) (s:Int):∃a e,x.canV s=.tup [.int .i64 a,.int .i64 e]:=by
 unfold Irn.canV
 repeat' split
 all_goals exact ⟨_,_,rfl⟩
theorem likV_form (x:Irn) (s:Nat):∃a e,x.likV s=.tup [.int .i64 a,.int .i64 e]:=by
 unfold Irn.likV
 repeat' split
 all_goals exact ⟨_,_,rfl⟩
theorem ref06_Same_nil : APure Pg fn_ref06_Same [.nils,.nils] (.bool true):=by
 refine ref06_Same.e.p (by simp) ?_
 simp
 refine Lp.rounds 1 (LpI.round fun J hJ=>?_)
 simp
 refine hJ.exit ?_
 simp
 exact RetV.refl rfl
theorem bestV_form {p:Pit} (hv:p.Valid):∃a v e,p.bestV=.tup [.int .i64 a,v,.int .i64 e]∧APure Pg fn_ref06_Same [v,v] (.bool true):=by
 have hnp:=hv.np
 cases hb:p.best with
 | none=>exact ⟨0,.nils,4,by unfold Pit.bestV;rw[hb],ref06_Same_nil⟩
 | some n=>
   have hl:=Pit.plan_len hv hb
   refine ⟨n,.vl p.pots.length (Pit.plC p.plan),0,by unfold Pit.bestV;rw[hb];rfl,?_⟩
   rw[←hl]
   exact ref06_Same_ok p.plan (by omega)
end Go.Cw
end
section
namespace Go.Cw
open Go Go.Proofs
section
open top_TopBooks
@[reducible] noncomputable def tb43 : IR:=(.seq (.ops r44) (.seq (.ops r45) (.seq (.ops r46) (.seq (.seq (.ops r47) (.cond (.t 370) (.seq (.ops r48) .ret) .skip)) (.seq (.seq (.ops r49) (.block 6 (.loop (.seq (.ops r50) (.seq (.cond (.t 375) .skip (.exit 6)) (.seq (.block 7 (.seq (.ops r51) (.seq (.ops r52) (.seq (.ops r53) (.seq (.ops r54) (.seq (.ops r55) (.seq (.ops r56) (.cond (.t 418) (.seq (.ops r57) .ret) .skip)))))))) (.ops r58))))))) (.seq (.ops r59) .ret))))))
@[reducible] noncomputable def tb37 : IR:=(.seq (.ops r38) (.seq (.ops r39) (.seq (.ops r40) (.seq (.seq (.ops r41) (.cond (.t 325) (.seq (.ops r42) .ret) .skip)) (.seq (.cut (.ops r43)) tb43)))))
@[reducible] noncomputable def tb23 : IR:=(.seq (.ops r24) (.seq (.ops r25) (.seq (.ops r26) (.seq (.seq (.ops r27) (.cond (.t 252) (.seq (.ops r28) .ret) .skip)) (.seq (.seq (.ops r29) (.block 4 (.loop (.seq (.ops r30) (.seq (.cond (.t 257) .skip (.exit 4)) (.seq (.block 5 (.seq (.ops r31) (.seq (.ops r32) (.seq (.ops r33) (.seq (.ops r34) (.cond (.t 278) (.seq (.ops r35) .ret) .skip)))))) (.ops r36))))))) (.seq (.cut (.ops r37)) tb37))))))
@[reducible] noncomputable def tb14 : IR:=(.seq (.ops r15) (.seq (.ops r16) (.seq (.ops r17) (.seq (.ops r18) (.seq (.ops r19) (.seq (.seq (.ops r20) (.cond (.t 196) (.seq (.ops r21) .ret) .skip)) (.seq (.ops r22) (.seq (.cut (.ops r23)) tb23))))))))
end
noncomputable def tbQ : Post:=RetK [RV.tmp 10] fun e _=>e=AEnd.ret (.bool true)
noncomputable def tbE : Env:=⟨Pg,0,421,false,[]⟩
@[simp] theorem Irn.c_len' (x:Irn):x.c.length=5:=rfl
@[simp] theorem Irn.c_take' (x:Irn):x.c.take 5=x.c:=rfl
@[simp] theorem Irn.c_at3 (x:Irn):x.c[3]? = some (LLM x.strk):=rfl
@[simp] theorem aLen_LLM' (l:List (List Mak)):aLen (LLM l)=some (.int .i64 l.length):=rfl
theorem tb_D {x:Irn} (hv:x.Valid):AW tbE (.ops top_TopBooks.r43) (Then (AW tbE tb43 tbQ) tbQ) (tmV [(7,.pv x.c),(10,.bool false),(26,.pv x.c)]) [] (hpV []):=by
 have cA:=PInv.func (first:=[]) (cap:=[]) (args:=[]) top_awake_ok
 have c0:PInv Pg (.func (.func fn_iron_Count) [] []) [.agg x.c] (.tup [.int .i64 x.ways,.int .i64 0]):=PInv.func (iron_Count_ok hv)
 obtain ⟨a,b,e,hf⟩:=falseV_form x
 have c1:PInv Pg (.func (.func fn_iron_False) [] []) [.agg x.c] (.tup [.int .i64 a,.int .i64 b,.int .i64 e]):=by rw[←hf];exact PInv.func (iron_False_ok hv)
 unfold tbE tbQ tb43
 simp
 refine PCallK.intro c0 ?_
 simp
 refine PCallK.intro c0 ?_
 simp
 refine PCallK.intro c1 ?_
 simp
 refine PCallK.intro c1 ?_
 simp
 refine Lp.intro (σ:=Nat) (inv:=fun k=>k≤x.strk.length) (vw:=fun k=>[(7,.pv x.c),(10,.bool false),(26,.pv x.c),(373,.int .i64 x.strk.length),(374,.int .i64 k)]) (hp:=fun _=>[]) (ms:=fun k=>x.strk.length - k) 0 (Nat.zero_le _) (by simp) (by simp) ?_
 intro k hk J hJ
 by_cases hkl:k<x.strk.length
 ·obtain ⟨ca,ce,hc⟩:=canV_form x k
  obtain ⟨la,le,hl⟩:=likV_form x k
  have d1:PInv Pg (.func (.func fn_iron_Can) [] []) [.agg x.c,.int .i64 k] (.tup [.int .i64 ca,.int .i64 ce]):=by rw[←hc];exact PInv.func (iron_Can_ok hv (s:=k) (by omega))
  have d2:PInv Pg (.func (.func fn_iron_Likely) [] []) [.agg x.c,.int .i64 k] (.tup [.int .i64 la,.int .i64 le]):=by rw[←hl];exact PInv.func (iron_Likely_ok hv hkl)
  simp[hkl]
  refine PCallK.intro d1 ?_
  simp
  refine PCallK.intro d1 ?_
  simp
  refine PCallK.intro d2 ?_
  simp
  refine PCallK.intro d2 ?_
  simp
  refine ⟨by unfold Fits;have:=hv.ns;omega,?_⟩
  exact hJ.next (k+1) hkl (by omega) (by simp) (by simp)
 ·simp[hkl]
  refine hJ.exit ?_
  simp
  refine PCallK.intro cA ?_
  simp
  exact RetV.refl rfl
theorem tb_C {p:Pit} {x:Irn} (hp:p.Valid) (hv:x.Valid):AW tbE (.ops top_TopBooks.r37) (Then (AW tbE tb37 tbQ) tbQ) (tmV [(6,.pv p.c),(7,.pv x.c),(10,.bool false),(24,.pv p.c),(26,.pv x.c)]) [] (hpV []):=by
 have hD:=tb_D hv
 have c0:PInv Pg (.func (.func fn_pitch_Count) [] []) [.agg p.c] (.tup [.int .i64 p.ways,.int .i64 0]):=PInv.func (pitch_Count_ok hp)
 obtain ⟨a,v,e,hf,hs⟩:=bestV_form hp
 have c1:PInv Pg (.func (.func fn_pitch_Best) [] []) [.agg p.c] (.tup [.int .i64 a,v,.int .i64 e]):=by rw[←hf];exact PInv.func (pitch_Best_ok hp)
 unfold tbE tbQ tb37
 simp
 refine PCallK.intro c0 ?_
 simp
 refine PCallK.intro c0 ?_
 simp
 refine PCallK.intro c1 ?_
 simp
 refine PCallK.intro c1 ?_
 simp
 refine PCallK.intro (PInv.func hs) ?_
 simp
 refine Sl.toVq [(7,.pv x.c),(10,.bool false),(26,.pv x.c)] [] (Sl.refl ⟨rfl,by simp,by simp⟩) ?_
 exact hD
theorem tb_B {h:Hul} {p:Pit} {x:Irn} (hs:h.Small) (hp:p.Valid) (hv:x.Valid) (d l:Int):AW tbE (.ops top_TopBooks.r23) (Then (AW tbE tb23 tbQ) tbQ)
 (tmV [(5,.pv h.cells),(6,.pv p.c),(7,.pv x.c),(10,.bool false),(22,.pv h.cells),(24,.pv p.c),(26,.pv x.c),(28,.int .i64 d),(29,.int .i64 l)]) [] (hpV []):=by
 have hC:=tb_C hp hv
 have h40:=hs.s
 obtain ⟨a,b,e,hf⟩:=sumV_form h (Hul.At d l) (h.wet d l)
 have c0:PInv Pg (.func (.func fn_leak_Flow) [] []) [.agg [LS h.seams,LD h.snds],.int .i64 d,.int .i64 l] (.tup [.agg [.int .i64 a,.int .i64 b],.int .i64 e]):=by rw[←hf];exact PInv.func (leak_Flow_ok h hs d l)
 obtain ⟨a',b',e',hf'⟩:=leaksV_form h
 have c1:PInv Pg (.func (.func fn_leak_Leaks) [] []) [.agg [LS h.seams,LD h.snds]] (.tup [.int .i64 a',.int .i64 b',.int .i64 e']):=by rw[←hf'];exact PInv.func (leak_Leaks_ok h hs)
 unfold tbE tbQ tb23
 simp[Hul.cells]
 refine PCallK.intro c0 ?_
 simp
 intro s30
 refine PCallK.intro c0 ?_
 simp
 intro s32
 refine PCallK.intro c1 ?_
 simp
 refine PCallK.intro c1 ?_
 simp
 refine Lp.intro (σ:=Nat) (inv:=fun k=>k≤h.seams.length) (vw:=fun k=>[(5,.pv h.cells),(6,.pv p.c),(7,.pv x.c),(10,.bool false),(22,.pv h.cells),(24,.pv p.c),(26,.pv x.c),(255,.int .i64 h.seams.length),(256,.int .i64 k)]) (hp:=fun _=>[]) (ms:=fun k=>h.seams.length - k) 0 (Nat.zero_le _) (by simp[Hul.cells]) (by simp) ?_
 intro k hk J hJ
 by_cases hkl:k<h.seams.length
 ·obtain ⟨ra,rb,re,hr⟩:=sumV_form h (h.Seam k) (2^(k:Int).toNat)
  have d1:PInv Pg (.func (.func fn_leak_Rate) [] []) [.agg [LS h.seams,LD h.snds],.int .i64 k] (.tup [.agg [.int .i64 ra,.int .i64 rb],.int .i64 re]):=by rw[←hr];exact PInv.func (leak_Rate_ok h hs k)
  simp[hkl,Hul.cells]
  refine PCallK.intro d1 ?_
  simp
  intro s41
  refine PCallK.intro d1 ?_
  simp
  intro s43
  refine ⟨by unfold Fits;omega,?_⟩
  exact hJ.next (k+1) hkl (by omega) (by simp[Hul.cells]) (by simp)
 ·simp[hkl,Hul.cells]
  refine hJ.exit ?_
  simp
  refine Sl.toVq [(6,.pv p.c),(7,.pv x.c),(10,.bool false),(24,.pv p.c),(26,.pv x.c)] [] (Sl.refl ⟨rfl,by simp,by simp⟩) ?_
  exact hC
end Go.Cw
end
section
namespace Go.Cw
open Go Go.Proofs
theorem tb_A {h:Hul} {p:Pit} {x:Irn} (hs:h.Small) (hh:h.Valid) (hp:p.Valid) (hv:x.Valid) (a b:Int) (ha:0≤a∧a≤255) (hb:0≤b∧b≤255):AW tbE (.ops top_TopBooks.r14) (Then (AW tbE tb14 tbQ) tbQ)
 (tmV [(3,.int .u8 a),(4,.int .u8 b),(5,.pv h.cells),(6,.pv p.c),(7,.pv x.c),(10,.bool false)]) [] (hpV []):=by
 have hB:=tb_B hs hp hv
 have w1:PInv Pg (.func (.func fn_book_WriteHull) [] []) [.agg [LS h.seams,LD h.snds]] (.tup [.str (hulTxt h),.int .i64 0]):=PInv.func (book_WriteHull_ok hh)
 have w2:PInv Pg (.func (.func fn_book_WritePitch) [] []) [.agg p.c] (.tup [.str (pitTxt p),.int .i64 0]):=PInv.func (book_WritePitch_ok hp)
 have w3:PInv Pg (.func (.func fn_book_WriteIrons) [] []) [.agg x.c] (.tup [.str (ironTxt x),.int .i64 0]):=PInv.func (book_WriteIrons_ok hv)
 have r1:PInv Pg (.func (.func fn_book_ReadHull) [] []) [.str (hulTxt h)] (.tup [.agg [LS h.seams,LD h.snds],.int .i64 0]):=PInv.func (book_ReadHull_ok hh)
 have r2:PInv Pg (.func (.func fn_book_ReadPitch) [] []) [.str (pitTxt p)] (.tup [.agg p.c,.int .i64 0]):=PInv.func (book_ReadPitch_ok hp)
 have r3:PInv Pg (.func (.func fn_book_ReadIrons) [] []) [.str (ironTxt x)] (.tup [.agg x.c,.int .i64 0]):=PInv.func (book_ReadIrons_ok hv)
 obtain ⟨A,hA⟩ : ∃A,A=hulTxt h:=⟨_,rfl⟩
 obtain ⟨B,hB'⟩ : ∃B,B=pitTxt p:=⟨_,rfl⟩
 obtain ⟨C,hC⟩ : ∃C,C=ironTxt x:=⟨_,rfl⟩
 rw[←hA] at w1 r1
 rw[←hB'] at w2 r2
 rw[←hC] at w3 r3
 unfold tbE tbQ tb14
 simp[Hul.cells]
 refine PCallK.intro w1 ?_
 simp
 refine PCallK.intro w2 ?_
 simp
 refine PCallK.intro w3 ?_
 simp
 refine PCallK.intro r1 ?_
 simp
 intro s22
 refine PCallK.intro r2 ?_
 simp
 intro s24
 refine PCallK.intro r3 ?_
 simp
 intro s26
 have hm:a.tmod 7=a % 7:=Int.tmod_eq_emod_of_nonneg ha.1
 refine ⟨by unfold Fits;omega,by unfold Fits;omega,by unfold Fits;omega,?_⟩
 refine Sl.toVq (df₀:=[]) [(5,.pv h.cells),(6,.pv p.c),(7,.pv x.c),(10,.bool false),(22,.pv h.cells),(24,.pv p.c),(26,.pv x.c),(28,.int .i64 (b.tmod 13)),(29,.int .i64 (a.tmod 7 - 3))] [] ?_ ?_
 ·refine Sl.frzHp 22 (cells:=[LS h.seams,LD h.snds]) (s:=s22+1) (by simp) ?_
  refine Sl.frzHp 24 (cells:=p.c) (s:=s24+1) (by simp[Pit.c]) ?_
  refine Sl.frzHp 26 (cells:=x.c) (s:=s26+1) (by simp[Irn.c]) (Sl.refl ⟨rfl,by simp[Hul.cells],by simp⟩)
 exact hB _ _
def tbM (h:Hul) (p:Pit) (x:Irn) (m:Int):Prop:=(h.seams.length:Int)≤m∧(h.snds.length:Int)≤m∧(p.fires.length:Int)≤m∧(p.pots.length:Int)≤m∧(x.own.length:Int)≤m∧(x.most.length:Int)≤m∧(x.strk.length:Int)≤m∧(x.clm.length:Int)≤m
def tbM0 (h:Hul) (p:Pit) (x:Irn):Int:=max h.seams.length (max h.snds.length (max p.fires.length (max p.pots.length (max x.own.length (max x.most.length (max x.strk.length x.clm.length))))))
theorem tbM_0 (h:Hul) (p:Pit) (x:Irn):tbM h p x (tbM0 h p x):=by unfold tbM tbM0;omega
theorem tbM_mono {h:Hul} {p:Pit} {x:Irn} {m m':Int} (hm:m≤m') (k:tbM h p x m):tbM h p x m':=by unfold tbM at *;omega
@[simp] theorem xEl_LLv (h:Heap) (l:List (List Int)) (K:Nat→List AVal→Prop):xEl h 1 (LLv l) K=K l.length (LL l):=by
 simp only[LLv,xEl_vl,Nat.mul_one,LL_length,Nat.le_refl,true_and]
 rw[List.take_of_length_le (by simp)]
@[simp] theorem frzL_LLn (r s:Nat) (cells:List AVal):∀l:List (List Int),frzL r s cells (LL l++[.nils])=LL l++[.nils]
 | []=>by simp
 | a::l=>by
   have:=frzL_LLn r s cells l
   simp only[LL,List.map_cons,List.cons_append] at this ⊢
   simp[this]
theorem top_TopBooks_ok (h:Hul) (p:Pit) (x:Irn) (a b:Int) (ho:x.own.length*24≤140737488351232) (hst:x.strk.length*24≤140737488351232) (ha:0≤a∧a≤255) (hb:0≤b∧b≤255) :
 APure Pg fn_top_TopBooks [h.v,p.v,x.v,.int .u8 a,.int .u8 b] (.bool true):=by
 have cA:=PInv.func (first:=[]) (cap:=[]) (args:=[]) top_awake_ok
 refine top_TopBooks.e.p (by simp) ?_
 simp[Irn.v,Irn.c]
 intro s5 s6 s7 s99 s102
 have ho':=ho
 obtain ⟨own,hown⟩ : ∃o,o=x.own:=⟨_,rfl⟩
 rw[←hown] at ho ⊢
 rcases own with _|⟨o,os⟩
 rotate_left
 simp only[List.length_cons] at ho
 rw[xAp_ne (by simp)]
 simp
 refine ⟨by omega,fun s103 s104=>⟨by omega,?_⟩⟩
 refine Lp.intro' (σ:=Nat×Int) (inv:=fun s=>s.1≤x.own.length+1∧tbM h p x s.2∧∀j (hj:j<x.own.length),j<s.1→(x.own[j].length:Int)≤s.2)
  (vw:=fun s=>[(3,.int .u8 a),(4,.int .u8 b),(5,.pv h.cells),(6,.pv p.c),(7,.pv x.c),(10,.bool false),(11,.int .i64 s.2),(104,.vl (x.own.length+1) (LL x.own++[.nils])),(105,.int .i64 ((x.own.length+1:Nat):Int)),(106,.int .i64 s.1)])
  (hp:=fun _=>[]) (ms:=fun s=>x.own.length+1 - s.1) (0,tbM0 h p x) ⟨Nat.zero_le _,tbM_0 h p x,fun j _ hj=>by omega⟩ ?_ ?_
 ·refine Sl.frzHp 5 (cells:=[LS h.seams,LD h.snds]) (s:=s5+1) (by simp) ?_
  refine Sl.frzHp 6 (cells:=p.c) (s:=s6+1) (by simp[Pit.c]) ?_
  refine Sl.frzHp 7 (cells:=[.int .i64 x.ft,LLv x.own,L x.most,LLM x.strk,LCl x.clm]) (s:=s7+1) (by simp[←hown]) ?_
  refine Sl.frzHp 104 (cells:=LL x.own++[.nils]) (s:=s104+1) (by simp[←hown]) ?_
  refine Sl.refl ⟨rfl,?_,by simp⟩
  simp[←hown,Hul.cells,Irn.c,tbM0]
 rotate_left
 simp
 intro s103 s104
 refine Lp.intro' (σ:=Nat×Int) (inv:=fun s=>s.1≤x.own.length+1∧tbM h p x s.2∧∀j (hj:j<x.own.length),j<s.1→(x.own[j].length:Int)≤s.2)
  (vw:=fun s=>[(3,.int .u8 a),(4,.int .u8 b),(5,.pv h.cells),(6,.pv p.c),(7,.pv x.c),(10,.bool false),(11,.int .i64 s.2),(104,.vl (x.own.length+1) (LL x.own++[.nils])),(105,.int .i64 ((x.own.length+1:Nat):Int)),(106,.int .i64 s.1)])
  (hp:=fun _=>[]) (ms:=fun s=>x.own.length+1 - s.1) (0,tbM0 h p x) ⟨Nat.zero_le _,tbM_0 h p x,fun j _ hj=>by omega⟩ ?_ ?_
 ·refine Sl.frzHp 5 (cells:=[LS h.seams,LD h.snds]) (s:=s5+1) (by simp) ?_
  refine Sl.frzHp 6 (cells:=p.c) (s:=s6+1) (by simp[Pit.c]) ?_
  refine Sl.frzHp 7 (cells:=[.int .i64 x.ft,LLv x.own,L x.most,LLM x.strk,LCl x.clm]) (s:=s7+1) (by simp[←hown]) ?_
  refine Sl.frzHp 104 (cells:=LL x.own++[.nils]) (s:=s104+1) (by simp[←hown]) ?_
  refine Sl.refl ⟨rfl,?_,by simp⟩
  simp[←hown,Hul.cells,Irn.c,tbM0]
 all_goals
  rintro ⟨k,m⟩ ⟨hk,hm,hall⟩ J hJ
  simp only at hk hm hall
  have h0:0≤m:=by unfold tbM at hm;omega
  by_cases hkl:k<x.own.length+1
  ·have hkI :(k:Int)<(x.own.length:Int)+1:=by omega
   by_cases hkn:k<x.own.length
   ·have e1 :(LL x.own++[AVal.nils])[k]? = some (L x.own[k]):=by rw[List.getElem?_append_left (by simpa using hkn),LL_get];simp[hkn]
    simp[hkI,e1]
    refine ⟨by unfold Fits;omega,?_⟩
    refine hJ.next (k+1,max m (x.own[k].length:Int)) ⟨by omega,tbM_mono (by omega) hm,fun j hj hjk=>?_⟩ (by simp;omega) (by simp) (by simp)
    by_cases hjk':j<k
    ·have:=hall j hj hjk';simp only;omega
    ·obtain rfl:j=k:=by omega
     simp only;omega
   ·have e1 :(LL x.own++[AVal.nils])[k]? = some .nils:=by rw[show k =(LL x.own).length by simp;omega];simp
    simp[hkI,e1]
    refine ⟨by unfold Fits;omega,?_⟩
    refine hJ.next (k+1,max m 0) ⟨by omega,tbM_mono (by omega) hm,fun j hj hjk=>?_⟩ (by simp;omega) (by simp) (by simp)
    have:=hall j hj (by omega);simp only;omega
  ·obtain rfl:k=x.own.length+1:=by omega
   simp
   refine hJ.exit ?_
   simp
   refine Lp.intro (σ:=Nat×Int) (inv:=fun s=>s.1≤x.strk.length∧m≤s.2∧∀j (hj:j<x.strk.length),j<s.1→(x.strk[j].length:Int)≤s.2)
    (vw:=fun s=>[(3,.int .u8 a),(4,.int .u8 b),(5,.pv h.cells),(6,.pv p.c),(7,.pv x.c),(10,.bool false),(11,.int .i64 s.2),(116,LLM x.strk),(117,.int .i64 x.strk.length),(118,.int .i64 s.1)])
    (hp:=fun _=>[]) (ms:=fun s=>x.strk.length - s.1) (0,m) ⟨Nat.zero_le _,Int.le_refl _,fun j _ hj=>by omega⟩ (by simp) (by simp) ?_
   rintro ⟨k,m'⟩ ⟨hk,hmm,hall'⟩ J hJ
   simp only at hk hmm hall'
   by_cases hkl:k<x.strk.length
   ·simp[hkl]
    refine ⟨by unfold Fits;have:=tbM_mono hmm hm;unfold tbM at this;omega,?_⟩
    refine hJ.next (k+1,max m' (x.strk[k].length:Int)) ⟨by omega,by simp only;omega,fun j hj hjk=>?_⟩ (by simp;omega) (by simp) (by simp)
    by_cases hjk':j<k
    ·have:=hall' j hj hjk';simp only;omega
    ·obtain rfl:j=k:=by omega
     simp only;omega
   ·obtain rfl:k=x.strk.length:=by omega
    simp
    refine hJ.exit ?_
    simp
    have hm':=tbM_mono hmm hm
    by_cases h40:40<m'
    ·simp[h40]
     refine PCallK.intro cA ?_
     simp
     exact RetV.refl rfl
    obtain ⟨g1,g2,g3,g4,g5,g6,g7,g8⟩:=hm'
    have hs:h.Small:=⟨by omega,by omega⟩
    have hx:x.Small:=⟨by omega,by omega,by omega,by omega,fun l hl=>?_,fun l hl=>?_⟩
    rotate_left
    ·obtain ⟨j,hj,rfl⟩:=List.getElem_of_mem hl
     have:=hall j hj (by omega);omega
    ·obtain ⟨j,hj,rfl⟩:=List.getElem_of_mem hl
     have:=hall' j hj (by omega);omega
    have k1:PInv Pg (.func (.func fn_ref01_Hull) [] []) [.agg [LS h.seams,LD h.snds]] (.bool (decide h.Valid)):=PInv.func (ref01_Hull_ok h hs)
    have k2:PInv Pg (.func (.func fn_ref06_Pitch) [] []) [.agg p.c] (.bool (isB p.Valid)):=PInv.func (ref06_Pitch_ok (by omega) (by omega))
    have k3:PInv Pg (.func (.func fn_ref10_Irons) [] []) [.agg x.c] (.bool (isB x.Valid)):=PInv.func (ref10_Irons_ok hx)
    simp[h40,Hul.cells]
    refine PCallK.intro k1 ?_
    by_cases v1:¬h.Valid
    ·simp[v1]
     refine PCallK.intro cA ?_
     simp
     exact RetV.refl rfl
    have v1:h.Valid:=Classical.not_not.1 v1
    simp[v1]
    refine PCallK.intro k2 ?_
    by_cases v2:¬p.Valid
    ·simp[isB_false v2]
     refine PCallK.intro cA ?_
     simp
     exact RetV.refl rfl
    have v2:p.Valid:=Classical.not_not.1 v2
    simp[isB_true v2]
    refine PCallK.intro k3 ?_
    by_cases v3:¬x.Valid
    ·simp[isB_false v3]
     refine PCallK.intro cA ?_
     simp
     exact RetV.refl rfl
    have v3:x.Valid:=Classical.not_not.1 v3
    simp[isB_true v3]
    refine Sl.toVq (df₀:=[]) [(3,.int .u8 a),(4,.int .u8 b),(5,.pv h.cells),(6,.pv p.c),(7,.pv x.c),(10,.bool false)] [] (Sl.refl ⟨rfl,by simp[Hul.cells],by simp⟩) ?_
    exact tb_A hs v1 v2 v3 a b ha hb
end Go.Cw
end
section
namespace Go.Cw
open Go Go.Proofs
theorem All2.five' {V W X Y Z:List AVal→Prop} {l:List (List AVal)} (h:All2 [V,W,X,Y,Z] l):∃a b c d e,l=[a,b,c,d,e]∧V a∧W b∧X c∧Y d∧Z e:=by
 match l,h with
 | [a,b,c,d,e],h=>exact ⟨a,b,c,d,e,rfl,h.1,h.2.1,h.2.2.1,h.2.2.2.1,h.2.2.2.2.1⟩
theorem flat_map {α:Type} {f:α→AVal} {V:List AVal→Prop} (hV:∀a,V a→∃x,a=[f x]):∀{ass:List (List AVal)},(∀a∈ass,V a)→∃l:List α,l.length=ass.length∧ass.flatten=l.map f
 | [],_=>⟨[],rfl,rfl⟩
 | a::ass,h=>by
   obtain ⟨l,h1,h2⟩:=flat_map hV fun b hb=>h b (List.mem_cons_of_mem _ hb)
   obtain ⟨x,h3⟩:=hV a (h a (by simp))
   exact ⟨x::l,by simp[h1],by rw[List.flatten_cons,h2,h3];rfl⟩
theorem Opens.mapW {P:Program} {w:World} {μ:Mu} {t e:TypeId} {α:Type} {f:α→AVal} (ht:P.underlying t=some (.slice e)) (hc:P.cellsOf t=1) (hce:0<P.cellsOf e) (he:Opens P w μ e fun av=>∃x,av=[f x]) :
 Opens P w μ t fun av=>∃l:List α,l.length*P.bytesOf e≤reachBytes∧av=[.vl l.length (l.map f)]:=
 (Opens.sliceW ht hc hce he).mono fun av ⟨ass,h1,h2,h3⟩=>by
   obtain ⟨l,h4,h5⟩:=flat_map (f:=f) (fun a h=>h) h2
   exact ⟨l,by rw[h4];exact h1.2,by rw[h3,h5,←h4]⟩
section
variable {w : World} {μ:Mu}
theorem opens_int : Opens Pg w μ 3 fun av=>∃n,(Lit.int .i64 n).wf=true∧av=[.int .i64 n]:=Opens.int Tryz.underlying3 (by kernel_rfl)
theorem opens_bool : Opens Pg w μ 4 fun av=>∃b,av=[.bool b]:=Opens.bool Tryz.underlying4 (by kernel_rfl)
theorem opens_ints : Opens Pg w μ 26 fun av=>∃l:List Int,av=[L l]:=Opens.ints Tryz.underlying26 (by kernel_rfl) Tryz.underlying3 (by kernel_rfl)
theorem opens_span : Opens Pg w μ 52 fun av=>∃p:Int×Int,av=[.int .i64 p.1,.int .i64 p.2]:=by
 refine (Opens.struct (Vs:=[_,_]) Tryz.underlying52 (by kernel_rfl) ⟨rfl,opens_int,by kernel_rfl,opens_int,trivial⟩).mono ?_
 rintro av ⟨ass,h,rfl⟩
 obtain ⟨a,b,rfl,⟨n,_,rfl⟩,⟨m,_,rfl⟩⟩:=h.two
 exact ⟨(n,m),rfl⟩
theorem opens_seam : Opens Pg w μ 70 fun av=>∃a:Sm,av=a.c:=by
 refine (Opens.struct (Vs:=[_,_,_]) Tryz.underlying70 (by kernel_rfl) ⟨rfl,opens_int,by kernel_rfl,opens_int,by kernel_rfl,opens_int,trivial⟩).mono ?_
 rintro av ⟨ass,h,rfl⟩
 obtain ⟨a,b,c,rfl,⟨n,_,rfl⟩,⟨m,_,rfl⟩,⟨k,_,rfl⟩⟩:=h.three
 exact ⟨⟨n,m,k⟩,rfl⟩
theorem opens_sounding : Opens Pg w μ 72 fun av=>∃a:Sd,av=a.c:=by
 refine (Opens.struct (Vs:=[_,_,_]) Tryz.underlying72 (by kernel_rfl) ⟨rfl,opens_int,by kernel_rfl,opens_int,by kernel_rfl,opens_span,trivial⟩).mono ?_
 rintro av ⟨ass,h,rfl⟩
 obtain ⟨a,b,c,rfl,⟨n,_,rfl⟩,⟨m,_,rfl⟩,⟨p,rfl⟩⟩:=h.three
 exact ⟨⟨n,m,p.1,p.2⟩,rfl⟩
theorem c70 : 0<Pg.cellsOf 70:=by rw[show Pg.cellsOf 70=3 by kernel_rfl];omega
theorem c72 : 0<Pg.cellsOf 72:=by rw[show Pg.cellsOf 72=4 by kernel_rfl];omega
theorem opens_hull : Opens Pg w μ 25 fun av=>∃h:Hul,av=h.cells:=by
 refine (Opens.struct (Vs:=[_,_]) Tryz.underlying25 (by kernel_rfl) ⟨rfl,Opens.fl Tryz.underlying22 (by kernel_rfl) c70 opens_seam,by kernel_rfl,Opens.fl Tryz.underlying23 (by kernel_rfl) c72 opens_sounding,trivial⟩).mono ?_
 rintro av ⟨ass,h,rfl⟩
 obtain ⟨a,b,rfl,⟨n,rfl⟩,⟨m,rfl⟩⟩:=h.two
 exact ⟨⟨n,m⟩,rfl⟩
theorem opens_pot : Opens Pg w μ 76 fun av=>∃a:Pot,av=a.c:=by
 refine (Opens.struct (Vs:=[_,_,_]) Tryz.underlying76 (by kernel_rfl) ⟨rfl,opens_int,by kernel_rfl,opens_int,by kernel_rfl,opens_int,trivial⟩).mono ?_
 rintro av ⟨ass,h,rfl⟩
 obtain ⟨a,b,c,rfl,⟨n,_,rfl⟩,⟨m,_,rfl⟩,⟨k,_,rfl⟩⟩:=h.three
 exact ⟨⟨n,m,k⟩,rfl⟩
theorem c76 : 0<Pg.cellsOf 76:=by rw[show Pg.cellsOf 76=3 by kernel_rfl];omega
theorem opens_pitch : Opens Pg w μ 29 fun av=>∃p:Pit,av=p.c:=by
 refine (Opens.struct (Vs:=[_,_,_,_,_]) Tryz.underlying29 (by kernel_rfl) ⟨rfl,opens_int,by kernel_rfl,opens_int,by kernel_rfl,opens_int,by kernel_rfl,opens_ints,by kernel_rfl,Opens.fl Tryz.underlying27 (by kernel_rfl) c76 opens_pot,trivial⟩).mono ?_
 rintro av ⟨ass,h,rfl⟩
 obtain ⟨a,b,c,d,e,rfl,⟨n,_,rfl⟩,⟨m,_,rfl⟩,⟨k,_,rfl⟩,⟨o,rfl⟩,⟨q,rfl⟩⟩:=h.five'
 exact ⟨⟨n,m,k,o,q⟩,rfl⟩
theorem opens_mark : Opens Pg w μ 78 fun av=>∃a:Mak,av=a.c:=by
 refine (Opens.struct (Vs:=[_,_,_]) Tryz.underlying78 (by kernel_rfl) ⟨rfl,opens_int,by kernel_rfl,opens_int,by kernel_rfl,opens_int,trivial⟩).mono ?_
 rintro av ⟨ass,h,rfl⟩
 obtain ⟨a,b,c,rfl,⟨n,_,rfl⟩,⟨m,_,rfl⟩,⟨k,_,rfl⟩⟩:=h.three
 exact ⟨⟨n,m,k⟩,rfl⟩
theorem opens_claim : Opens Pg w μ 81 fun av=>∃a:Clm,av=a.c:=by
 refine (Opens.struct (Vs:=[_,_,_]) Tryz.underlying81 (by kernel_rfl) ⟨rfl,opens_int,by kernel_rfl,opens_int,by kernel_rfl,opens_bool,trivial⟩).mono ?_
 rintro av ⟨ass,h,rfl⟩
 obtain ⟨a,b,c,rfl,⟨n,_,rfl⟩,⟨m,_,rfl⟩,⟨k,rfl⟩⟩:=h.three
 exact ⟨⟨n,m,k⟩,rfl⟩
theorem c78 : 0<Pg.cellsOf 78:=by rw[show Pg.cellsOf 78=3 by kernel_rfl];omega
theorem c81 : 0<Pg.cellsOf 81:=by rw[show Pg.cellsOf 81=3 by kernel_rfl];omega
theorem c26 : 0<Pg.cellsOf 26:=by rw[show Pg.cellsOf 26=1 by kernel_rfl];omega
theorem c35 : 0<Pg.cellsOf 35:=by rw[show Pg.cellsOf 35=1 by kernel_rfl];omega
theorem opens_marks : Opens Pg w μ 35 fun av=>∃l:List Mak,av=[LMk l]:=Opens.fl Tryz.underlying35 (by kernel_rfl) c78 opens_mark
theorem opens_irons : Opens Pg w μ 34 fun av=>∃x:Irn,(x.own.length*24≤reachBytes∧x.strk.length*24≤reachBytes)∧av=x.c:=by
 refine (Opens.struct (Vs:=[_,_,_,_,_]) Tryz.underlying34 (by kernel_rfl) ⟨rfl,opens_int,by kernel_rfl,Opens.mapW Tryz.underlying30 (by kernel_rfl) c26 opens_ints,by kernel_rfl,opens_ints,by kernel_rfl,Opens.mapW Tryz.underlying31 (by kernel_rfl) c35 opens_marks,by kernel_rfl,Opens.fl Tryz.underlying32 (by kernel_rfl) c81 opens_claim,trivial⟩).mono ?_
 rintro av ⟨ass,h,rfl⟩
 obtain ⟨a,b,c,d,e,rfl,⟨n,_,rfl⟩,⟨m,hm,rfl⟩,⟨k,rfl⟩,⟨o,ho,rfl⟩,⟨q,rfl⟩⟩:=h.five'
 exact ⟨⟨n,m,k,o,q⟩,⟨hm,ho⟩,rfl⟩
theorem opens_u8 : Opens Pg w μ 5 fun av=>∃n:Int,(0≤n∧n≤255)∧av=[.int .u8 n]:=
 (Opens.int Tryz.underlying5 (by kernel_rfl)).mono fun av ⟨n,h1,h2⟩=>⟨n,bounds_u8 h1,h2⟩
end
theorem kids : Kids Pg (· < Pg.types.size):=kids_rows (by kernel_rfl) (by kernel_rfl)
theorem slices_full : ∀t e,t<Pg.types.size→Pg.underlying t=some (.slice e)→0<Pg.cellsOf e:=slices_full_of Pg (by kernel_rfl)
theorem ownKnobNone : ownKnob Pg.godebug=none:=by kernel_rfl
end Go.Cw
end
section
namespace Go.Cw
open Go Go.Proofs
theorem cells_of_strs {H:Type} {enc:TypeId×Value→H} {P:Program} {w:World} {base:Nat} {sp:Nat→Bool} {held:Bool} {fuel:Nat} {t e:TypeId} {n:Nat} {cs:List Value} {zs:List (List UInt8)} {p:List MemPlace}
 (ht:P.underlying t=some (.array n e)) (he:P.underlying e=some .string) (hce:P.cellsOf e=1) (hct:P.cellsOf t=n)
 (h:DataW.trod enc P w base sp held fuel t cs=some (.agg (zs.map fun z=>.lit (.string z)),p)):cs=zs.map strV:=by
 cases fuel with
 | zero=>simp[DataW.trod] at h
 | succ fuel=>
   simp only[DataW.trod,ht,hce,hct,Nat.mul_one] at h
   split at h
   ·rename_i hl
    obtain ⟨xs,hm,hx⟩:=Option.map_eq_some_iff.1 h
    have hxs:xs.map (·.1)=zs.map fun z=>(DataW.lit (.string z):DataW H):=by
     have:=congrArg Prod.fst hx
     simpa using this
    have hxl:xs.length=n:=by simpa using Lib.mapM_length hm
    have hzl:zs.length=n:=by
     have:=congrArg List.length hxs
     simp at this
     omega
    apply List.ext_getElem?
    intro i
    by_cases hi:i<n
    ·obtain ⟨b,hb,hf⟩:=Lib.mapM_at hm i i (by simp[hi])
     obtain ⟨z,hc,rfl,_⟩:=DataW.trod_string he hf
     have h1:cs[i]? = some (.string z):=by
      have:=congrArg (·[0]?) hc
      simpa[List.getElem?_take,List.getElem?_drop] using this
     have h2 :(xs.map (·.1))[i]? = some (DataW.lit (.string z.data.toList):DataW H):=by simp[hb]
     rw[hxs] at h2
     simp only[List.getElem?_map,Option.map_eq_some_iff,DataW.lit.injEq,Lit.string.injEq] at h2
     obtain ⟨z',hz',hz2⟩:=h2
     simp[h1,hz',strV,hz2]
    ·rw[List.getElem?_eq_none (by omega),List.getElem?_eq_none (by simp;omega)]
   ·cases h
theorem rawZ_var {P:Program} {W:World} {n:String} {g:Nat} {cs:Array Value} (hg:P.globalNamed n=some g) (hv:W.var? P n=some cs):rawZ W g=some cs.toList:=by
 unfold World.var? at hv
 rw[hg] at hv
 simp only[Option.bind_some] at hv
 unfold rawZ
 split at hv
 ·rename_i h;simp only[Option.some.injEq] at hv;subst hv;rw[h]
 ·cases hv
theorem gok_books (W:World) (h:laidMetH Pg Proofs.YtemceffbimfblaaGreatDoor.Rows.topBooksRow.laid W) (hs:W.ShapedOpen Pg):GOk (rawZ W):=by
 have h:laidMet Pg Proofs.YtemceffbimfblaaGreatDoor.Rows.topBooksRow.laid W:=h
 have h2:=laidMet.tail (laidMet.tail h)
 have h3:=laidMet.tail h2
 have hp:Lib.TabIs Pg W "internal/strconv.uint64pow10" .u64 [1,10,100,1000,10000,100000,1000000,10000000,100000000,1000000000,10000000000,100000000000,1000000000000,10000000000000,100000000000000,1000000000000000,10000000000000000,100000000000000000,1000000000000000000,10000000000000000000]:=
  Lib.tabIs_of_head (g:=2) (t:=412) (e:=353) (n:=20) (by kernel_rfl) (by kernel_rfl) Tryz.underlying412 Tryz.underlying353 (by kernel_rfl) (by kernel_rfl) h2
 constructor
 ·intro g c hgc
  simp only[gtab,List.mem_cons,Prod.mk.injEq,List.not_mem_nil,or_false] at hgc
  rcases hgc with ⟨rfl,rfl⟩ | ⟨rfl,rfl⟩
  ·obtain ⟨ps,⟨g',t',cs,fuel,p,q,hg',ht',hvar,hd,_,_⟩,_⟩:=h3
   obtain rfl:g'=0:=(Option.some.inj ((show Pg.globalNamed "caulkworks/book.sides" = some 0 by kernel_rfl).symm.trans hg')).symm
   obtain rfl:t'=196:=(Option.some.inj ((show (Pg.globals[0]?).map (·.type)=some 196 by kernel_rfl).symm.trans ht')).symm
   rw[rawZ_var hg' hvar,cells_of_strs (zs:=[[112],[107],[115]]) Tryz.underlying196 Tryz.underlying9 (by kernel_rfl) (by kernel_rfl) hd]
   rfl
  ·rw[rawZ_var (show Pg.globalNamed "internal/strconv.uint64pow10" = some 2 by kernel_rfl) hp]
   rfl
 ·intro g hg
  obtain rfl:g=1:=by simpa[gany] using hg
  obtain ⟨cs,h1,h2,h3⟩:=hs.1 1 #[.int .i64 0] 3 (of_decide_eq_true (by kernel_rfl)) (by kernel_rfl)
  obtain ⟨ts,h4,h5,h6⟩:=h3 (by kernel_rfl)
  obtain rfl:ts=[3]:=(Option.some.inj ((show Pg.cellTypes Pg.depth 3=some [3] by kernel_rfl).symm.trans h4)).symm
  have hcs:∃v,cs = #[v]:=by
   match cs,h2 with
   | ⟨[v]⟩,_=>exact ⟨v,rfl⟩
   | ⟨[]⟩,h=>simp at h
   | ⟨_::_::_⟩,h=>simp at h
  obtain ⟨v,rfl⟩:=hcs
  obtain ⟨u,h7,h8⟩:=h6 0 v rfl
  obtain rfl:u=3:=by simpa using h7.symm
  have:∃m:Int,v=.int .i64 m:=by
   unfold Cell.ok at h8
   rw[Tryz.underlying3] at h8
   split at h8<;>simp_all
  obtain ⟨m,rfl⟩:=this
  exact ⟨m,by unfold rawZ;rw[h1]⟩
end Go.Cw
end
