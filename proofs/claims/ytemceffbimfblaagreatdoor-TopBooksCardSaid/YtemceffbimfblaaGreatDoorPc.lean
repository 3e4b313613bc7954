/-
  What the functions of layers 8, 12 and 14 compute at the document's examples.
-/
import Derived.Test.YtemceffbimfblaaGreatDoorPb
import Derived.Test.YtemceffbimfblaaGreatDoorGb
import Derived.Test.YtemceffbimfblaaGreatDoorAf
import Derived.Test.YtemceffbimfblaaGreatDoorPa
set_option linter.unusedSectionVars false
set_option linter.unusedSimpArgs false
set_option linter.unusedVariables false
set_option maxRecDepth 100000
section
namespace Go.Cw
open Go Go.Proofs
theorem bytesOf_byCells (l:List UInt8):bytesOf (byCells l)=some l:=by
 induction l with
 | nil=>rfl
 | cons x l ih=>
   show (match byteOf1 (.int .u8 x.toNat),bytesOf (byCells l) with
    | some b,some bs=>some (b::bs)
    | _,_=>none)=_
   rw[ih]
   simp[byteOf1]
section
variable (E : Env) (Q:Post) (d:Option Nat) (pc fd:Bool) (fa fl:List It) (K:KT) (tm:TM) (df:DF) (h:Heap) (x:Opd)
@[simp] theorem AWy_toStr : AWy E Q (.toStr x) d pc false fd fa fl K tm df h=osat (aToStr (ev tm x)) (PutK K tm df h d):=(rfl)
end
def BY (l:List UInt8):AVal:=.vl l.length (byCells l)
@[simp] theorem aToStr_BY (l:List UInt8):aToStr (BY l)=some (.str l):=by
 show (if l.length≤(byCells l).length then (bytesOf ((byCells l).take l.length)).map AVal.str else none)=_
 rw[if_pos (by simp),List.take_of_length_le (by simp),bytesOf_byCells];rfl
theorem ref14_Bytes_ok (l:List UInt8):APure Pg fn_ref14_Bytes [BY l,BY l] (.bool true):=by
 refine ref14_Bytes.e.p (by simp) ?_
 simp
 exact RetV.refl rfl
@[simp] theorem bi_1 : bitI .xor .u8 0 73=73:=by decide
@[simp] theorem bi_2 : bitI .xor .u8 73 4=77:=by decide
@[simp] theorem bi_3 : bitI .xor .u8 77 0=77:=by decide
@[simp] theorem bi_4 : bitI .or .u8 0 128=128:=by decide
@[simp] theorem bi_5 : bitI .or .u8 128 64=192:=by decide
@[simp] theorem bi_6 : bitI .xor .u8 128 192=64:=by decide
@[simp] theorem bi_7 : bitI .xor .u8 76 77=1:=by decide
@[simp] theorem bi_8 : bitI .xor .u8 4 1=5:=by decide
theorem ones73 : APure Pg fn_math_bits_OnesCount8 [.int .u8 73] (.int .i64 3):=by
 refine math_bits_OnesCount8.e.p (by simp) ?_
 simp[Fits]
 exact RetV.refl rfl
theorem ones4 : APure Pg fn_math_bits_OnesCount8 [.int .u8 4] (.int .i64 1):=by
 refine math_bits_OnesCount8.e.p (by simp) ?_
 simp[Fits]
 exact RetV.refl rfl
theorem ones0 : APure Pg fn_math_bits_OnesCount8 [.int .u8 0] (.int .i64 0):=by
 refine math_bits_OnesCount8.e.p (by simp) ?_
 simp[Fits]
 exact RetV.refl rfl
theorem ones64 : APure Pg fn_math_bits_OnesCount8 [.int .u8 64] (.int .i64 1):=by
 refine math_bits_OnesCount8.e.p (by simp) ?_
 simp[Fits]
 exact RetV.refl rfl
theorem ones1 : APure Pg fn_math_bits_OnesCount8 [.int .u8 1] (.int .i64 1):=by
 refine math_bits_OnesCount8.e.p (by simp) ?_
 simp[Fits]
 exact RetV.refl rfl
theorem len64 : APure Pg fn_math_bits_Len8 [.int .u8 64] (.int .i64 7):=by
 refine math_bits_Len8.e.p (by simp) ?_
 simp[Fits]
 exact RetV.refl rfl
theorem len1 : APure Pg fn_math_bits_Len8 [.int .u8 1] (.int .i64 1):=by
 refine math_bits_Len8.e.p (by simp) ?_
 simp[Fits]
 exact RetV.refl rfl
theorem lead64 : APure Pg fn_math_bits_LeadingZeros8 [.int .u8 64] (.int .i64 1):=by
 refine math_bits_LeadingZeros8.e.p (by simp) ?_
 simp[Fits]
 refine PCallK.intro (PInv.func len64) ?_
 simp[Fits]
 exact RetV.refl rfl
theorem lead1 : APure Pg fn_math_bits_LeadingZeros8 [.int .u8 1] (.int .i64 7):=by
 refine math_bits_LeadingZeros8.e.p (by simp) ?_
 simp[Fits]
 refine PCallK.intro (PInv.func len1) ?_
 simp[Fits]
 exact RetV.refl rfl
theorem book_content5_ok : APure Pg fn_book_content [.int .i64 5] (.int .i64 3):=by
 refine book_content.e.p (by simp) ?_
 simp[Fits]
 refine FCall.pure (PInv.func (book_ask_ok _)) ?_
 simp[Fits]
 refine Lp.rounds 4 (LpI.round fun J hJ=>?_)
 simp[Fits]
 refine hJ.go (LpI.round fun J hJ=>?_)
 simp[Fits]
 refine hJ.go (LpI.round fun J hJ=>?_)
 simp[Fits]
 refine hJ.go (LpI.round fun J hJ=>?_)
 simp[Fits]
 refine hJ.exit ?_
 simp[Fits]
 refine FCall.pure (PInv.func (book_ask_ok _)) ?_
 simp[Fits]
 exact RetV.refl rfl
theorem bytes_Clone3_row (K':AEnd→Heap→Prop) (hK:∀s':Nat,K' (.ret (.sl 900 0 s' 3 (.gr 1))) (hpV [(900,.row [.int .u8 73,.int .u8 4,.int .u8 0] s')])) :
 ACalls Pg fn_bytes_Clone [.vl 3 [.int .u8 73,.int .u8 4,.int .u8 0,.int .u8 128,.int .u8 76]] (hpV [(900,.dead)]) K':=by
 refine bytes_Clone.e 0 (by simp) ?_
 simp[Fits]
 intro s s'
 refine RetV.move 7 900 ?_
 simp
 exact RetV.view [(900,.row [.int .u8 73,.int .u8 4,.int .u8 0] (s'+1))] (by simp) (hK (s'+1))
theorem book_packed3_ok : APure Pg fn_book_packed [.vl 3 [.bool true,.bool true,.bool false]] (BY [192]):=by
 refine book_packed.e.p (by simp) ?_
 simp[Fits]
 intro s
 refine Lp.rounds 4 (LpI.round fun J hJ=>?_)
 simp[Fits]
 refine hJ.go (LpI.round fun J hJ=>?_)
 simp[Fits]
 refine hJ.go (LpI.round fun J hJ=>?_)
 simp[Fits]
 refine hJ.go (LpI.round fun J hJ=>?_)
 simp[Fits]
 refine hJ.exit ?_
 simp
 refine RetV.frz 10 (cells:=byCells [192]) (s:=s+1) (by simp[byCells]) ?_
 simp
 exact RetV.wk (nilH_le _) rfl
theorem book_sealed3_ok : APure Pg fn_book_sealed [.vl 3 [.int .u8 73,.int .u8 4,.int .u8 0,.int .u8 128,.int .u8 76]] (BY [73,4,0,192,77]):=by
 refine book_sealed.e.p (by simp) ?_
 simp[BY,byCells,Fits]
 refine Lp.rounds 4 (LpI.round fun J hJ=>?_)
 simp[Fits]
 refine PCallK.intro (PInv.func ones73) ?_
 simp[Fits]
 intro s1 s2
 refine hJ.go (LpI.round fun J hJ=>?_)
 simp[Fits]
 refine PCallK.intro (PInv.func ones4) ?_
 simp[Fits]
 intro s3 s4
 refine hJ.go (LpI.round fun J hJ=>?_)
 simp[Fits]
 refine PCallK.intro (PInv.func ones0) ?_
 simp[Fits]
 intro s5 s6
 refine hJ.go (LpI.round fun J hJ=>?_)
 simp[Fits]
 refine hJ.exitS (Sl.toV [(0,.vl 3 [.int .u8 73,.int .u8 4,.int .u8 0,.int .u8 128,.int .u8 76]),(3,.vl 3 [.bool true,.bool true,.bool false]),(4,.int .u8 77)] [] (Sl.frzHp 19 (cells:=[.bool true,.bool true,.bool false]) (s:=s6+1) (by simp) (Sl.refl ⟨rfl,by simp,by simp⟩)) ?_)
 simp
 refine FCall.cps [(900,.dead)] (fun s':Nat=>.sl 900 0 s' 3 (.gr 1)) (fun s'=>[(900,.row [.int .u8 73,.int .u8 4,.int .u8 0] s')]) (fun _=>True) (fun K' hK'=>AInvoke.func (bytes_Clone3_row K' ?_)) (by simp) (fun _=>rfl) trivial (fun s900 _=>⟨trivial,?_⟩)
 ·exact fun s'=>hK' s' trivial
 simp
 refine PCallK.intro (show PInv Pg (.func (.func fn_book_packed) [] []) [.vl 3 [.bool true,.bool true,.bool false]] (.vl 1 [.int .u8 192]) from PInv.func book_packed3_ok) ?_
 simp[Fits]
 intro t1 t2 t3
 refine RetV.frz 31 (cells:=byCells [73,4,0,192,77]) (s:=t3+1) (by simp[byCells]) ?_
 simp
 exact RetV.wk (nilH_le _) rfl
theorem book_wrong1_ok : APure Pg fn_book_wrong [.vl 1 [.int .u8 128,.int .u8 76],.vl 1 [.int .u8 192,.int .u8 77]] (.tup [.int .i64 1,.int .i64 1]):=by
 refine book_wrong.e.p (by simp) ?_
 simp
 refine Lp.rounds 2 (LpI.round fun J hJ=>?_)
 simp[Fits]
 refine PCallK.intro (PInv.func lead64) ?_
 simp[Fits]
 refine PCallK.intro (PInv.func ones64) ?_
 simp[Fits]
 refine hJ.go (LpI.round fun J hJ=>?_)
 simp[Fits]
 refine hJ.exit ?_
 simp
 exact RetV.refl rfl
theorem book_wrong2_ok : APure Pg fn_book_wrong [.vl 1 [.int .u8 76],.vl 1 [.int .u8 77]] (.tup [.int .i64 7,.int .i64 1]):=by
 refine book_wrong.e.p (by simp) ?_
 simp
 refine Lp.rounds 2 (LpI.round fun J hJ=>?_)
 simp[Fits]
 refine PCallK.intro (PInv.func lead1) ?_
 simp[Fits]
 refine PCallK.intro (PInv.func ones1) ?_
 simp[Fits]
 refine hJ.go (LpI.round fun J hJ=>?_)
 simp[Fits]
 refine hJ.exit ?_
 simp
 exact RetV.refl rfl
theorem book_Mend_ok : APure Pg fn_book_Mend [.vl 5 [.int .u8 73,.int .u8 4,.int .u8 0,.int .u8 128,.int .u8 76]] (.tup [BY [73,5,0,128,76],.int .i64 0]):=by
 refine book_Mend.e.p (by simp) ?_
 simp[Fits]
 intro s3
 refine FCall.pure (PInv.func book_content5_ok) ?_
 simp[Fits]
 refine PCallK.intro (show PInv Pg (.func (.func fn_book_sealed) [] []) [.vl 3 [.int .u8 73,.int .u8 4,.int .u8 0,.int .u8 128,.int .u8 76]] (.vl 5 [.int .u8 73,.int .u8 4,.int .u8 0,.int .u8 192,.int .u8 77]) from PInv.func book_sealed3_ok) ?_
 simp[Fits]
 refine PCallK.intro (PInv.func book_wrong1_ok) ?_
 simp[Fits]
 refine PCallK.intro (PInv.func book_wrong2_ok) ?_
 simp[Fits]
 refine FCall.pure (PInv.func (book_ask_ok _)) ?_
 simp[Fits]
 refine FCall.pure (PInv.func (book_ask_ok _)) ?_
 simp[Fits]
 refine FCall.pure (PInv.func (book_ask_ok _)) ?_
 simp[Fits]
 intro s81
 refine RetA.ret rfl (book_answer_ok ?_)
 simp
 refine RetV.frz 81 (cells:=byCells [73,5,0,128,76]) (s:=s81+1) (by simp[byCells]) ?_
 simp
 exact RetV.wk (nilH_le _) rfl
end Go.Cw
end
section
namespace Go.Cw
open Go Go.Proofs
theorem Sl.toVw {n:Nat} {K:KT} {tm:TM} {df:DF} {h:Heap} (l:List (Nat×AVal)) (k:List (Nat×AObj)) (en:Sl n (fun tm' df' h'=>df'=df∧Vw l tm'∧Hw k h') tm df h) (hK:K (tmV l) df (hpV k)):Sl n K tm df h:=by
 obtain ⟨tm₁,df₁,h₁,a,rfl,hv,hh⟩:=en
 exact ⟨_,_,_,a.trans (SLe.view hv hh),hK⟩
theorem wage_ask_ok (e:Int):APure Pg fn_wage_ask [.bool true,.int .i64 e] (.tup []):=by
 refine wage_ask.e.p (by simp) ?_
 simp
 exact RetV.refl rfl
theorem wage_answer_ok {p:AVal} {h:Heap} {K:Heap→Prop} (k:K h):AAns Pg fn_wage_answer .nili p h K:=by
 refine wage_answer.ans 0 ?_
 simp
 exact k
theorem wage_within_ok (n lo hi:Int):APure Pg fn_wage_within [.int .i64 n,.int .i64 lo,.int .i64 hi] (.bool (decide (lo≤n∧n≤hi))):=by
 refine wage_within.e.p (by simp) ?_
 by_cases h:lo≤n<;>simp[h]<;>refine RetV.refl ?_<;>simp_all
theorem cmp_isNaN_ok (a:Int):APure Pg fn_cmp_isNaN_int [.int .i64 a] (.bool false):=by
 refine cmp_isNaN_int.e.p (by simp) ?_
 simp
 exact RetV.refl rfl
def cmpI (a b:Int):Int:=if a<b then -1 else if b<a then 1 else 0
theorem cmp_Compare_ok (a b:Int):APure Pg fn_cmp_Compare_int [.int .i64 a,.int .i64 b] (.int .i64 (cmpI a b)):=by
 refine cmp_Compare_int.e.p (by simp) ?_
 simp
 refine PCallK.intro (PInv.func (cmp_isNaN_ok a)) ?_
 simp
 refine PCallK.intro (PInv.func (cmp_isNaN_ok b)) ?_
 simp
 by_cases h:a<b
 ·simp[h]
  exact RetV.refl (by simp[cmpI,h])
 ·by_cases h':b<a
  ·simp[h,h']
   exact RetV.refl (by simp[cmpI,h,h'])
  ·simp[h,h']
   exact RetV.refl (by simp[cmpI,h,h'])
theorem cmp_Or2_ok (a b:Int):APure Pg fn_cmp_Or_int [.vl 2 [.int .i64 a,.int .i64 b]] (.int .i64 (if a≠0 then a else b)):=by
 refine cmp_Or_int.e.p (by simp) ?_
 simp
 refine Lp.rounds 3 (LpI.round fun J hJ=>?_)
 by_cases h:a=0
 ·simp[h,Fits]
  refine hJ.go (LpI.round fun J hJ=>?_)
  by_cases h':b=0
  ·simp[h',Fits]
   refine hJ.go (LpI.round fun J hJ=>?_)
   simp
   refine hJ.exit ?_
   simp
   exact RetV.refl (by simp[*])
  ·simp[h']
   refine hJ.ret ?_
   simp
   exact RetV.refl (by simp[*])
 ·simp[h]
  refine hJ.ret ?_
  simp
  exact RetV.refl (by simp[*])
def shO (S O:List Int) (a b:Nat):Int:=
 let u:=cmpI (S.getD b 0*(O.getD a 0+1)) (S.getD a 0*(O.getD b 0+1))
 if u≠0 then u else cmpI a b
def iv (l:List Int):AVal:=.vl l.length (ints l)
def shH (O:List Int) (s s':Nat):List (Nat×AObj):=[(8,.row [.sl 32 0 s 3 (.ex 3)] s'),(32,.row (ints O) s)]
theorem wage_Share_1_ok {S O:List Int} (hS:S.length=3) (hO:O.length=3) (bS:∀x∈S,0≤x∧x≤20) (bO:∀x∈O,0≤x∧x≤20) {a b:Nat} (ha:a<3) (hb:b<3) (s s':Nat)
 {K:AEnd→Heap→Prop} (k:K (.ret (.int .i64 (shO S O a b))) (hpV (shH O s s'))) :
 ACalls Pg fn_wage_Share_1 [.int .i64 a,.int .i64 b,.pv [iv S],.ptr 8 0 s'] (hpV (shH O s s')) K:=by
 have e1:S.getD a 0=S[a]:=by simp[hS,ha]
 have e2:S.getD b 0=S[b]:=by simp[hS,hb]
 have e3:O.getD a 0=O[a]:=by simp[hO,ha]
 have e4:O.getD b 0=O[b]:=by simp[hO,hb]
 have b1:=bS S[a] (by simp)
 have b2:=bS S[b] (by simp)
 have b3:=bO O[a] (by simp)
 have b4:=bO O[b] (by simp)
 unfold shO at k
 rw[e1,e2,e3,e4] at k
 obtain ⟨p,hp⟩ : ∃p,p=S[a]:=⟨_,rfl⟩
 obtain ⟨q,hq⟩ : ∃q,q=S[b]:=⟨_,rfl⟩
 obtain ⟨r,hr⟩ : ∃r,r=O[a]:=⟨_,rfl⟩
 obtain ⟨t,ht⟩ : ∃t,t=O[b]:=⟨_,rfl⟩
 have m1:0≤q*(r+1):=Int.mul_nonneg (by omega) (by omega)
 have m2:q*(r+1)≤20*21:=Int.mul_le_mul (by omega) (by omega) (by omega) (by omega)
 have m3:0≤p*(t+1):=Int.mul_nonneg (by omega) (by omega)
 have m4:p*(t+1)≤20*21:=Int.mul_le_mul (by omega) (by omega) (by omega) (by omega)
 rw[←hp,←hq,←hr,←ht] at k
 refine wage_Share_1.e 100 (by simp) ?_
 simp[iv,hS,hO,ha,hb,←hp,←hq,←hr,←ht,shH]
 refine ⟨by omega,by omega,by unfold Fits;omega,by unfold Fits;omega,by omega,by omega,by unfold Fits;omega,by unfold Fits;omega,?_⟩
 refine PCallK.intro (PInv.func (cmp_Compare_ok _ _)) ?_
 simp
 refine PCallK.intro (PInv.func (cmp_Compare_ok _ _)) ?_
 simp
 intro s31
 refine FCall.frz1 131 (cells:=[.int .i64 (cmpI (q*(r+1)) (p*(t+1))),.int .i64 (cmpI a b)]) (s:=s31+1) (by simp) (PInv.func (by simpa using cmp_Or2_ok (cmpI (q*(r+1)) (p*(t+1))) (cmpI a b))) (by simp) ?_
 simp
 exact RetV.view (shH O s s') (by simp[shH]) (by simpa using k)
def shM (S O:List Int):Nat:=
 let m:=if shO S O 1 0<0 then 1 else 0
 if shO S O 2 m<0 then 2 else m
theorem shM_lt (S O:List Int):shM S O<3:=by unfold shM;simp only;split <;>(try split)<;>omega
def shF (S:List Int) (s':Nat):AVal:=.func (.func fn_wage_Share_1) [] [.pv [iv S],.ptr 8 0 s']
theorem slices_Min_ok {S O:List Int} (hS:S.length=3) (hO:O.length=3) (bS:∀x∈S,0≤x∧x≤20) (bO:∀x∈O,0≤x∧x≤20) (s s':Nat)
 {K:AEnd→Heap→Prop} (k:K (.ret (.int .i64 (shM S O))) (hpV (shH O s s'))) :
 ACalls Pg fn_slices_MinFunc_int_int [.vl 3 [.int .i64 0,.int .i64 1,.int .i64 2],shF S s'] (hpV (shH O s s')) K:=by
 have call:∀{a b:Nat},a<3→b<3→∀K':AEnd→Heap→Prop,K' (.ret (.int .i64 (shO S O a b))) (hpV (shH O s s'))→AInvoke Pg (shF S s') [.int .i64 a,.int .i64 b] (hpV (shH O s s')) K':=
  fun ha hb K' k'=>AInvoke.func (wage_Share_1_ok hS hO bS bO ha hb s s' k')
 refine slices_MinFunc_int_int.e 200 (by simp) ?_
 simp
 refine Lp.rounds 4 (LpI.round fun J hJ=>?_)
 simp
 refine FCall.cps (shH O s s') (fun _:Unit=>.int .i64 (shO S O 1 0)) (fun _=>shH O s s') (fun _=>True) (fun K' hK'=>call (a:=1) (b:=0) (by omega) (by omega) K' (hK' () trivial)) (by simp[shH]) (fun _=>rfl) trivial (fun _ _=>⟨trivial,?_⟩)
 have two:∀{m:Nat},m<3→∀{J:Post} {tm:TM},(J .normal tm [] nilH)→True:=fun _ _ _ _=>trivial
 by_cases h1:shO S O 1 0<0
 ·simp[h1,Fits]
  refine hJ.go (LpI.round fun J hJ=>?_)
  simp
  refine FCall.cps (shH O s s') (fun _:Unit=>.int .i64 (shO S O 2 1)) (fun _=>shH O s s') (fun _=>True) (fun K' hK'=>call (a:=2) (b:=1) (by omega) (by omega) K' (hK' () trivial)) (by simp[shH]) (fun _=>rfl) trivial (fun _ _=>⟨trivial,?_⟩)
  by_cases h2:shO S O 2 1<0
  ·simp[h2,Fits]
   refine hJ.go (LpI.round fun J hJ=>?_)
   simp
   refine hJ.exit ?_
   simp
   exact RetV.view (shH O s s') (by simp[shH]) (by simpa[shM,h1,h2] using k)
  ·simp[h2,Fits]
   refine hJ.go (LpI.round fun J hJ=>?_)
   simp
   refine hJ.exit ?_
   simp
   exact RetV.view (shH O s s') (by simp[shH]) (by simpa[shM,h1,h2] using k)
 ·simp[h1,Fits]
  refine hJ.go (LpI.round fun J hJ=>?_)
  simp
  refine FCall.cps (shH O s s') (fun _:Unit=>.int .i64 (shO S O 2 0)) (fun _=>shH O s s') (fun _=>True) (fun K' hK'=>call (a:=2) (b:=0) (by omega) (by omega) K' (hK' () trivial)) (by simp[shH]) (fun _=>rfl) trivial (fun _ _=>⟨trivial,?_⟩)
  by_cases h2:shO S O 2 0<0
  ·simp[h2,Fits]
   refine hJ.go (LpI.round fun J hJ=>?_)
   simp
   refine hJ.exit ?_
   simp
   exact RetV.view (shH O s s') (by simp[shH]) (by simpa[shM,h1,h2] using k)
  ·simp[h2,Fits]
   refine hJ.go (LpI.round fun J hJ=>?_)
   simp
   refine hJ.exit ?_
   simp
   exact RetV.view (shH O s s') (by simp[shH]) (by simpa[shM,h1,h2] using k)
def shL (S:List Int):Nat→List Int
 | 0=>[0,0,0]
 | k+1=>(shL S k).set (shM S (shL S k)) ((shL S k).getD (shM S (shL S k)) 0+1)
theorem shL_end : shL [3,2,1] 7=[4,2,1]:=by decide
theorem shL_len (S:List Int):∀k,(shL S k).length=3
 | 0=>rfl
 | k+1=>by simp[shL,shL_len S k]
theorem shL_le (S:List Int):∀k,∀x∈shL S k,0≤x∧x≤k
 | 0,x,h=>by simp[shL] at h;omega
 | k+1,x,h=>by
   have hh:=shL_le S k
   rcases List.mem_or_eq_of_mem_set h with h|h
   ·have:=hh x h;omega
   ·have hm:=shM_lt S (shL S k)
    have:=hh ((shL S k).getD (shM S (shL S k)) 0) (by simp[List.getD,show shM S (shL S k)<(shL S k).length by rw[shL_len];exact hm])
    omega
theorem wage_Share_ok : APure Pg fn_wage_Share [.int .i64 7,.vl 3 [.int .i64 3,.int .i64 2,.int .i64 1]] (.tup [iv [4,2,1],.int .i64 0]):=by
 refine wage_Share.e.p (by simp) ?_
 simp
 intro s3 s5
 refine Sl.toVw [(0,.int .i64 7),(3,.pv [.vl 3 [.int .i64 3,.int .i64 2,.int .i64 1]]),(5,.ptr 5 0 (s5+1))] [(5,.row [.int .i64 0] (s5+1))] (Sl.frzHp 3 (cells:=[.vl 3 [.int .i64 3,.int .i64 2,.int .i64 1]]) (s:=s3+1) (by simp) (Sl.refl ⟨rfl,by simp,by simp⟩)) ?_
 simp
 refine PCallK.intro (PInv.func (wage_within_ok 7 0 500)) ?_
 simp
 refine FCall.pure (PInv.func (wage_ask_ok _)) ?_
 simp
 refine Lp.rounds 4 (LpI.round fun J hJ=>?_)
 simp[Fits]
 refine PCallK.intro (PInv.func (wage_within_ok 3 0 20)) ?_
 simp
 refine FCall.pure (PInv.func (wage_ask_ok _)) ?_
 simp[Fits]
 refine hJ.go (LpI.round fun J hJ=>?_)
 simp[Fits]
 refine PCallK.intro (PInv.func (wage_within_ok 2 0 20)) ?_
 simp
 refine FCall.pure (PInv.func (wage_ask_ok _)) ?_
 simp[Fits]
 refine hJ.go (LpI.round fun J hJ=>?_)
 simp[Fits]
 refine PCallK.intro (PInv.func (wage_within_ok 1 0 20)) ?_
 simp
 refine FCall.pure (PInv.func (wage_ask_ok _)) ?_
 simp[Fits]
 refine hJ.go (LpI.round fun J hJ=>?_)
 simp[Fits]
 refine hJ.exitS (Sl.toVw [(0,.int .i64 7),(3,.pv [.vl 3 [.int .i64 3,.int .i64 2,.int .i64 1]]),(5,.ptr 5 0 (s5+1))] [(5,.row [.int .i64 0] (s5+1))] (Sl.refl ⟨rfl,by simp,by simp⟩) ?_)
 simp
 intro s32 s8
 refine Lp.rounds 4 (LpI.round fun J hJ=>?_)
 simp[Fits]
 intro q1 q2
 refine hJ.go (LpI.round fun J hJ=>?_)
 simp[Fits]
 intro q3 q4
 refine hJ.go (LpI.round fun J hJ=>?_)
 simp[Fits]
 intro q5 q6
 refine hJ.go (LpI.round fun J hJ=>?_)
 simp[Fits]
 refine hJ.exitS (Sl.toVw [(0,.int .i64 7),(3,.pv [.vl 3 [.int .i64 3,.int .i64 2,.int .i64 1]]),(5,.ptr 5 0 (s5+1)),(8,.ptr 8 0 (s8+1)),(9,.vl 3 [.int .i64 0,.int .i64 1,.int .i64 2])] [(5,.row [.int .i64 0] (s5+1)),(8,.row [.sl 32 0 (s32+1) 3 (.ex 3)] (s8+1)),(32,.row (ints (shL [3,2,1] 0)) (s32+1))]
  (Sl.frzHp 45 (cells:=[.int .i64 0,.int .i64 1,.int .i64 2]) (s:=q6+1) (by simp) (Sl.refl ⟨rfl,by simp,by simp[shL,ints]⟩)) ?_)
 simp
 refine Lp.intro (σ:=Nat) (inv:=fun k=>k≤7) (vw:=fun k=>[(0,.int .i64 7),(3,.pv [.vl 3 [.int .i64 3,.int .i64 2,.int .i64 1]]),(5,.ptr 5 0 (s5+1)),(8,.ptr 8 0 (s8+1)),(9,.vl 3 [.int .i64 0,.int .i64 1,.int .i64 2]),(51,.int .i64 7),(52,.int .i64 k)])
  (hp:=fun k=>[(5,.row [.int .i64 0] (s5+1)),(8,.row [.sl 32 0 (s32+1) 3 (.ex 3)] (s8+1)),(32,.row (ints (shL [3,2,1] k)) (s32+1))]) (ms:=fun k=>7 - k) 0 (Nat.zero_le _) (by simp) (by simp) ?_
 intro k hk J hJ
 by_cases hk7:k<7
 ·have hl:=shL_len [3,2,1] k
  have hm:=shM_lt [3,2,1] (shL [3,2,1] k)
  have hb:=shL_le [3,2,1] k
  have he:shL [3,2,1] (k+1) =(shL [3,2,1] k).set (shM [3,2,1] (shL [3,2,1] k)) ((shL [3,2,1] k).getD (shM [3,2,1] (shL [3,2,1] k)) 0+1):=rfl
  obtain ⟨O,hO⟩ : ∃O,O=shL [3,2,1] k:=⟨_,rfl⟩
  obtain ⟨N,hN⟩ : ∃N,N=shL [3,2,1] (k+1):=⟨_,rfl⟩
  obtain ⟨m,hm'⟩ : ∃m,m=shM [3,2,1] (shL [3,2,1] k):=⟨_,rfl⟩
  rw[←hO] at hl hb
  rw[←hm'] at hm he
  rw[←hN,←hO] at he
  have bO:∀x∈O,0≤x∧x≤20:=fun x hx=>⟨(hb x hx).1,by have:=(hb x hx).2;omega⟩
  have hmO:shM [3,2,1] O=m:=by rw[hm',hO]
  have hg:O.getD m 0=O[m]:=by simp[List.getD,hl,hm]
  have hbm:=hb O[m] (by simp)
  rw[hg] at he
  simp[hk7,←hO,show (k:Int)<7 by omega]
  refine FCall.cps (shH O (s32+1) (s8+1)) (fun _:Unit=>.int .i64 m) (fun _=>shH O (s32+1) (s8+1)) (fun _=>True)
   (fun K' hK'=>AInvoke.func (slices_Min_ok (S:=[3,2,1]) (O:=O) rfl hl (by simp) bO (s32+1) (s8+1) (by rw[hmO];exact hK' () trivial))) (by simp[shH]) (fun _=>rfl) trivial (fun _ _=>⟨by simp[shH],?_⟩)
  simp[shH]
  simp[hl,hm]
  refine ⟨by omega,by unfold Fits;omega,by omega,by omega,by unfold Fits;omega,?_⟩
  exact hJ.next (k+1) hk7 (by omega) (by simp) (by rw[←hN,he];simp)
 ·obtain rfl:k=7:=by omega
  simp
  refine hJ.exit ?_
  simp[shL_end]
  refine RetA.ret rfl (wage_answer_ok ?_)
  simp
  refine RetV.frz 32 (cells:=ints [4,2,1]) (s:=s32+1) (by simp) ?_
  simp
  exact RetV.wk (nilH_le _) rfl
end Go.Cw
end
section
namespace Go.Cw
open Go Go.Proofs
def wgT : List AVal:=[.int .i64 1,.int .i64 0,.int .i64 0,.int .i64 1,.int .i64 4,.int .i64 4,.int .i64 5,.int .i64 5]
def wg12 : AVal:=.agg [.int .i64 2,.vl 1 [.int .i64 4,.int .i64 5],.vl 1 wgT]
theorem wage_isCrew1_ok : APure Pg fn_wage_wages_isCrew [wg12,.int .i64 1] (.bool true):=by
 refine wage_wages_isCrew.e.p (by simp) ?_
 simp[wg12,Fits]
 intro s
 refine PCallK.intro (PInv.func (wage_within_ok 1 0 1)) ?_
 simp
 exact RetV.wk (nilH_le _) rfl
theorem wage_isSeam0_ok : APure Pg fn_wage_wages_isSeam [wg12,.int .i64 0] (.bool true):=by
 refine wage_wages_isSeam.e.p (by simp) ?_
 simp[wg12,Fits]
 intro s
 refine PCallK.intro (PInv.func (wage_within_ok 0 0 0)) ?_
 simp
 exact RetV.wk (nilH_le _) rfl
theorem wage_isSpan_ok {a b h:Int} (h0:0≤a) (h1:a≤b) (h2:b≤h) (h3:b - a≤3) (h4:b≤100):APure Pg fn_wage_isSpan [.agg [.int .i64 a,.int .i64 b],.int .i64 h] (.bool true):=by
 refine wage_isSpan.e.p (by simp) ?_
 simp[h0,h1,h2,h3]
 intro s
 refine ⟨by unfold Fits;omega,?_⟩
 exact RetV.wk (nilH_le _) rfl
theorem wage_Due_1_ok : APure Pg fn_wage_Due_1 [wg12,.pv [.int .i64 1]] (.bool true):=by
 refine wage_Due_1.e.p (by simp) ?_
 simp[wg12]
 intro s
 refine PCallK.intro (PInv.func wage_isCrew1_ok) ?_
 simp
 exact RetV.wk (nilH_le _) rfl
theorem wage_open12_ok : APure Pg fn_wage_open [wg12,.func (.func fn_wage_Due_1) [] [.pv [.int .i64 1]]] wg12:=by
 refine wage_open.e.p (by simp) ?_
 simp[wg12,wgT]
 intro s2 s4
 refine PCallK.intro (PInv.func (wage_within_ok 2 1 4)) ?_
 simp
 refine FCall.pure (PInv.func (wage_ask_ok _)) ?_
 simp
 refine Lp.rounds 2 (LpI.round fun J hJ=>?_)
 simp[Fits]
 intro s6
 refine PCallK.intro (PInv.func (wage_within_ok 4 0 20)) ?_
 simp
 refine PCallK.intro (PInv.func (wage_within_ok 5 0 50)) ?_
 simp
 refine FCall.pure (PInv.func (wage_ask_ok _)) ?_
 simp[Fits]
 refine hJ.go (LpI.round fun J hJ=>?_)
 simp[Fits]
 refine hJ.exit ?_
 simp
 intro s7
 refine Lp.rounds 2 (LpI.round fun J hJ=>?_)
 simp[Fits]
 intro s9
 refine PCallK.intro (PInv.func (by simpa[wg12,wgT] using wage_isCrew1_ok)) ?_
 simp
 refine PCallK.intro (PInv.func (by simpa[wg12,wgT] using wage_isSeam0_ok)) ?_
 simp
 refine PCallK.intro (PInv.func (wage_isSpan_ok (a:=5) (b:=5) (h:=40) (by omega) (by omega) (by omega) (by omega) (by omega))) ?_
 simp
 refine FCall.pure (PInv.func (wage_ask_ok _)) ?_
 simp
 refine PCallK.intro (PInv.func (wage_isSpan_ok (a:=0) (b:=1) (h:=4) (by omega) (by omega) (by omega) (by omega) (by omega))) ?_
 simp
 refine PCallK.intro (PInv.func (wage_isSpan_ok (a:=4) (b:=4) (h:=4) (by omega) (by omega) (by omega) (by omega) (by omega))) ?_
 simp
 refine FCall.pure (PInv.func (wage_ask_ok _)) ?_
 simp[Fits]
 refine hJ.go (LpI.round fun J hJ=>?_)
 simp[Fits]
 refine hJ.exit ?_
 simp
 refine FCall.pure (v:=.bool true) (PInv.func (by simpa[wg12,wgT] using wage_Due_1_ok)) ?_
 simp
 refine FCall.pure (PInv.func (wage_ask_ok _)) ?_
 simp
 exact RetV.wk (nilH_le _) rfl
end Go.Cw
end
section
namespace Go.Cw
open Go Go.Proofs
theorem wage_most_of_ok : APure Pg fn_wage_most_of [.agg [.int .i64 1],.int .i64 0,.agg wgT] (.agg [.int .i64 0,.int .i64 4,.int .i64 5]):=by
 refine wage_most_of.e.p (by simp) ?_
 simp[wgT]
 intros
 exact RetV.wk (nilH_le _) rfl
theorem wage_least_of_ok : APure Pg fn_wage_least_of [.agg [.int .i64 1],.int .i64 0,.agg wgT] (.agg [.int .i64 1,.int .i64 4,.int .i64 5]):=by
 refine wage_least_of.e.p (by simp) ?_
 simp[wgT]
 intros
 exact RetV.wk (nilH_le _) rfl
theorem wage_known1 : APure Pg fn_wage_known_fathoms [.agg [.int .i64 1,.int .i64 4,.int .i64 5]] (.int .u32 14):=by
 refine wage_known_fathoms.e.p (by simp) ?_
 simp[Fits]
 intros
 exact RetV.wk (nilH_le _) rfl
theorem wage_known0 : APure Pg fn_wage_known_fathoms [.agg [.int .i64 0,.int .i64 4,.int .i64 5]] (.int .u32 15):=by
 refine wage_known_fathoms.e.p (by simp) ?_
 simp[Fits]
 intros
 exact RetV.wk (nilH_le _) rfl
@[simp] theorem w8_0 : IntKind.u8.wrap 0=0:=by decide
@[simp] theorem w8_3 : IntKind.u8.wrap 3=3:=by decide
@[simp] theorem w8_4 : IntKind.u8.wrap 4=4:=by decide
@[simp] theorem bw_0 : bitI .and .u32 0 255=0:=by decide
@[simp] theorem bw_14 : bitI .and .u32 14 255=14:=by decide
@[simp] theorem bw_15 : bitI .and .u32 15 255=15:=by decide
@[simp] theorem bw_c : bitI .and .u32 14 15=14:=by decide
@[simp] theorem bw_d : bitI .and .u32 15 15=15:=by decide
@[simp] theorem bw_e : bitI .andNot .u32 15 14=1:=by decide
@[simp] theorem bw_f : bitI .andNot .u32 15 15=0:=by decide
@[simp] theorem bw_g : bitI .or .u32 0 14=14:=by decide
@[simp] theorem bw_h : bitI .or .u32 0 15=15:=by decide
theorem ones32_14 : APure Pg fn_math_bits_OnesCount32 [.int .u32 14] (.int .i64 3):=by
 refine math_bits_OnesCount32.e.p (by simp) ?_
 simp[Fits]
 exact RetV.refl rfl
theorem ones32_15 : APure Pg fn_math_bits_OnesCount32 [.int .u32 15] (.int .i64 4):=by
 refine math_bits_OnesCount32.e.p (by simp) ?_
 simp[Fits]
 exact RetV.refl rfl
theorem wage_count14 : APure Pg fn_wage_fathoms_count [.int .u32 14] (.int .i64 3):=by
 refine wage_fathoms_count.e.p (by simp) ?_
 simp
 refine PCallK.intro (PInv.func ones32_14) ?_
 simp
 exact RetV.refl rfl
theorem wage_count15 : APure Pg fn_wage_fathoms_count [.int .u32 15] (.int .i64 4):=by
 refine wage_fathoms_count.e.p (by simp) ?_
 simp
 refine PCallK.intro (PInv.func ones32_15) ?_
 simp
 exact RetV.refl rfl
theorem wage_but14 : APure Pg fn_wage_fathoms_but [.int .u32 15,.int .u32 14] (.int .u32 1):=by
 refine wage_fathoms_but.e.p (by simp) ?_
 simp
 exact RetV.refl rfl
theorem wage_but15 : APure Pg fn_wage_fathoms_but [.int .u32 15,.int .u32 15] (.int .u32 0):=by
 refine wage_fathoms_but.e.p (by simp) ?_
 simp
 exact RetV.refl rfl
theorem meth_most : MethAt Pg 327 "caulkworks/wage.of" fn_wage_most_of:=⟨fun _ _=>by kernel_rfl⟩
theorem meth_least : MethAt Pg 329 "caulkworks/wage.of" fn_wage_least_of:=⟨fun _ _=>by kernel_rfl⟩
theorem wage_sum1_ok {n:Int} (h:0≤n∧n≤1000):APure Pg fn_wage_sum [.vl 1 [.int .i64 n]] (.int .i64 n):=by
 refine wage_sum.e.p (by simp) ?_
 simp
 refine Lp.rounds 2 (LpI.round fun J hJ=>?_)
 simp[show Fits n by unfold Fits;omega]
 refine ⟨by simp[Fits],?_⟩
 refine hJ.go (LpI.round fun J hJ=>?_)
 simp
 refine hJ.exit ?_
 simp
 exact RetV.refl rfl
end Go.Cw
end
section
namespace Go.Cw
open Go Go.Proofs
theorem Sl.toVp {n:Nat} {K:KT} {tm:TM} {df:DF} {h:Heap} (l:List (Nat×AVal)) (k:List (Nat×AObj)) (en:Sl n (fun tm' df' h'=>df'=df∧Vw l tm'∧Hw k h') tm df h) (hK:K (tmV l) df (hpV k)):Sl n K tm df h:=by
 obtain ⟨tm₁,df₁,h₁,a,rfl,hv,hh⟩:=en
 exact ⟨_,_,_,a.trans (SLe.view hv hh),hK⟩
theorem pitch_Hot_1_ok {p:Pit} (hv:p.Valid) {i hour:Nat} (hi:i<p.pots.length) (hh :(hour:Int)≤p.hr - 1):APure Pg fn_pitch_Hot_1 [p.pv,.pv [.int .i64 i],.pv [.int .i64 hour]] (.bool true):=by
 refine pitch_Hot_1.e.p (by simp) ?_
 simp
 refine PCallK.intro (PInv.func (pitch_isPot_ok p hv i)) ?_
 rw[show decide (0≤(i:Int)∧(i:Int)≤p.pots.length - 1)=true from decide_eq_true ⟨by omega,by omega⟩]
 simp
 refine PCallK.intro (PInv.func (pitch_isHour_ok p hv hour)) ?_
 rw[show decide (0≤(hour:Int)∧(hour:Int)≤p.hr - 1)=true from decide_eq_true ⟨by omega,by omega⟩]
 simp
 exact RetV.refl rfl
theorem pitch_Hot_ok {p:Pit} (hv:p.Valid) {i hour:Nat} (hi:i<p.pots.length) (hh :(hour:Int)≤p.hr - 1) (hok :(p.hot i hour p.colder:Int)≤p.hr) :
 APure Pg fn_pitch_Hot [p.v,.int .i64 i,.int .i64 hour] (.tup [.agg [.int .i64 (p.hot i hour p.cold:Nat),.int .i64 (p.hot i hour p.colder:Nat)],.int .i64 0]):=by
 have hr:=hv.hrH
 refine pitch_Hot.e.p (by simp) ?_
 simp
 intro s3 s4 s5 s6 s7
 refine Sl.toVp [(3,.pv p.c),(4,.pv [.int .i64 i]),(5,.pv [.int .i64 hour]),(6,.ptr 6 0 (s6+1)),(7,.ptr 7 0 (s7+1))] [(6,.row [.int .i64 0,.int .i64 0] (s6+1)),(7,.row [.int .i64 0] (s7+1))] ?_ ?_
 ·refine Sl.frzHp 3 (cells:=p.c) (s:=s3+1) (by simp) ?_
  refine Sl.frzHp 4 (cells:=[.int .i64 i]) (s:=s4+1) (by simp) ?_
  refine Sl.frzHp 5 (cells:=[.int .i64 hour]) (s:=s5+1) (by simp) (Sl.refl ⟨rfl,by simp,by simp⟩)
 simp
 refine FCall.pure (v:=p.pv) (PInv.func (by simpa[Pit.v] using pitch_open_ok hv (fun _ _ _=>by simp) (PInv.func (pitch_Hot_1_ok hv hi hh)))) ?_
 have hot:∀fr:Nat,fr<4096→PInv Pg (.func (.func fn_pitch_pitch_hot) [] []) [.pv [.int .i64 p.hr,.int .i64 p.fr,.int .i64 p.pe,L p.fires,LPo p.pots,.int .u64 (p.cold:Nat),.int .u64 (p.colder:Nat)],.int .i64 i,.int .i64 hour,.int .u64 fr] (.int .i64 (p.hot i hour fr:Nat)):=
  fun fr hf=>PInv.func (by simpa[Pit.pv] using pitch_hot_ok hv hi (hour:=hour) (by omega) hf)
 simp[Pit.pv]
 refine PCallK.intro (hot _ hv.cold_lt) ?_
 simp
 refine PCallK.intro (hot _ hv.colder_lt) ?_
 simp[hok]
 intro s9
 refine FCall.pure (PInv.func (pitch_ask_ok _)) ?_
 simp
 refine RetA.ret rfl (pitch_answer_ok ?_)
 simp
 exact RetV.wk (nilH_le _) rfl
end Go.Cw
end
section
namespace Go.Cw
open Go Go.Proofs
theorem gang_ask_ok (e:Int):APure Pg fn_gang_ask [.bool true,.int .i64 e] (.tup []):=by
 refine gang_ask.e.p (by simp) ?_
 simp
 exact RetV.refl rfl
theorem gang_answer_ok {p:AVal} {h:Heap} {K:Heap→Prop} (k:K h):AAns Pg fn_gang_answer .nili p h K:=by
 refine gang_answer.ans 0 ?_
 simp
 exact k
theorem gang_within_ok (n lo hi:Int):APure Pg fn_gang_within [.int .i64 n,.int .i64 lo,.int .i64 hi] (.bool (decide (lo≤n∧n≤hi))):=by
 refine gang_within.e.p (by simp) ?_
 by_cases h:lo≤n<;>simp[h]<;>refine RetV.refl ?_<;>simp_all
theorem gang_always_ok (a:AVal):APure Pg fn_gang_always [a] (.bool true):=by
 refine gang_always.e.p (by simp) ?_
 simp
 exact RetV.refl rfl
theorem slices_Max2_ok (a b:Int):APure Pg fn_slices_Max_int_int [.vl 2 [.int .i64 a,.int .i64 b]] (.int .i64 (max a b)):=by
 refine slices_Max_int_int.e.p (by simp) ?_
 simp
 refine Lp.rounds 2 (LpI.round fun J hJ=>?_)
 simp[Fits]
 refine hJ.go (LpI.round fun J hJ=>?_)
 simp
 refine hJ.exit ?_
 simp
 exact RetV.refl (by simp)
theorem gang_later_ok (a b:Int):APure Pg fn_gang_later [.vl 2 [.int .i64 a,.int .i64 b]] (.int .i64 (max a b)):=by
 refine gang_later.e.p (by simp) ?_
 simp
 refine PCallK.intro (PInv.func (slices_Max2_ok a b)) ?_
 simp
 exact RetV.refl rfl
theorem gang_every3 : APure Pg fn_gang_every [.int .i64 3] (.int .u64 7):=by
 refine gang_every.e.p (by simp) ?_
 simp
 exact RetV.refl rfl
theorem gang_every2 : APure Pg fn_gang_every [.int .i64 2] (.int .u64 3):=by
 refine gang_every.e.p (by simp) ?_
 simp
 exact RetV.refl rfl
end Go.Cw
end
section
namespace Go.Cw
open Go Go.Proofs
def pit08 : Pit:=⟨8,1,16,[4,0],[⟨4,0,8⟩,⟨6,0,8⟩]⟩
theorem pit08_valid : pit08.Valid:=by
 constructor<;>simp[pit08,Pit.isSet,Pit.H]
theorem pit08_best : pit08.best=some 6:=by decide +kernel
theorem pit08_plan : pit08.plan=[(0,3),(1,0)]:=by decide +kernel
theorem pit08_bestV : pit08.bestV=.tup [.int .i64 6,.vl 2 [.int .i64 0,.int .i64 3,.int .i64 1,.int .i64 0],.int .i64 0]:=by
 have h:pit08.bestV =(match pit08.best with
  | some n=>.tup [.int .i64 n,.vl pit08.pots.length (fl (fun x:Nat×Nat=>[.int .i64 x.1,.int .i64 x.2]) pit08.plan),.int .i64 0]
  | none=>.tup [.int .i64 0,.nils,.int .i64 4]):=rfl
 rw[h,pit08_best,pit08_plan];rfl
def seams08 : AVal:=.vl 3 [.int .i64 20,.int .i64 2,.int .i64 12,.int .i64 (-1),.int .i64 12,.int .i64 0,.int .i64 10,.int .i64 0,.int .i64 9,.int .i64 3,.int .i64 12,.int .i64 1]
def crews08 : AVal:=.vl 2 [.int .i64 5,.int .i64 6,.int .i64 7,.int .i64 4,.int .i64 4,.int .i64 6]
def gangs08 : AVal:=.agg ([seams08,crews08]++pit08.c)
def gpv08 : AVal:=.pv ([seams08,crews08]++pit08.c++[.vl 3 [.int .i64 2,.int .i64 6,.int .i64 4]])
theorem hot08_0 : APure Pg fn_pitch_Hot [pit08.v,.int .i64 0,.int .i64 3] (.tup [.agg [.int .i64 5,.int .i64 6],.int .i64 0]):=by
 have h:=pitch_Hot_ok pit08_valid (i:=0) (hour:=3) (by decide) (by decide) (by decide +kernel)
 rw[show pit08.hot 0 3 pit08.cold=5 by decide +kernel,show pit08.hot 0 3 pit08.colder=6 by decide +kernel] at h
 exact h
theorem hot08_1 : APure Pg fn_pitch_Hot [pit08.v,.int .i64 1,.int .i64 0] (.tup [.agg [.int .i64 4,.int .i64 4],.int .i64 0]):=by
 have h:=pitch_Hot_ok pit08_valid (i:=1) (hour:=0) (by decide) (by decide) (by decide +kernel)
 rw[show pit08.hot 1 0 pit08.cold=4 by decide +kernel,show pit08.hot 1 0 pit08.colder=4 by decide +kernel] at h
 exact h
end Go.Cw
end
section
namespace Go.Cw
open Go Go.Proofs
theorem pit08_txt : pitTxt pit08=[112,105,116,99,104,32,56,10,102,114,111,115,116,32,48,32,112,101,114,104,97,112,115,32,52,10,102,105,114,101,32,50,10,102,105,114,101,10,112,111,116,32,52,32,48,32,56,10,112,111,116,32,54,32,48,32,56,10]:=by decide +kernel
theorem top_span04_ok (a b:Int):APure Pg fn_top_span04 [.int .i64 a,.int .i64 b] (.agg [.int .i64 a,.int .i64 b]):=by
 refine top_span04.e.p (by simp) ?_
 simp
 intro s
 exact RetV.wk (nilH_le _) rfl
theorem top_gangs08_ok : APure Pg fn_top_gangs08 [] gangs08:=by
 refine top_gangs08.e.p (by simp) ?_
 simp
 intro s0 s4
 refine PCallK.intro (PInv.func (top_span04_ok 5 6)) ?_
 simp
 refine PCallK.intro (PInv.func (top_span04_ok 4 4)) ?_
 simp
 intro s9 s10 s13
 refine RetV.frz 4 (cells:=[.int .i64 20,.int .i64 2,.int .i64 12,.int .i64 (-1),.int .i64 12,.int .i64 0,.int .i64 10,.int .i64 0,.int .i64 9,.int .i64 3,.int .i64 12,.int .i64 1]) (s:=s4+1) (by simp) ?_
 simp
 refine RetV.frz 9 (cells:=[.int .i64 5,.int .i64 6,.int .i64 7,.int .i64 4,.int .i64 4,.int .i64 6]) (s:=s9+1) (by simp) ?_
 simp
 refine RetV.frz 10 (cells:=[.int .i64 4,.int .i64 0]) (s:=s10+1) (by simp) ?_
 simp
 refine RetV.frz 13 (cells:=[.int .i64 4,.int .i64 0,.int .i64 8,.int .i64 6,.int .i64 0,.int .i64 8]) (s:=s13+1) (by simp) ?_
 simp
 exact RetV.wk (nilH_le _) rfl
theorem top_awake14_ok (k:APure Pg fn_top_awake12 [] (.bool true)):APure Pg fn_top_awake14 [] (.bool true):=by
 refine top_awake14.e.p (by simp) ?_
 simp
 refine PCallK.intro (PInv.func (first:=[]) (cap:=[]) (args:=[]) top_gangs08_ok) ?_
 simp[gangs08,pit08,Pit.c]
 refine PCallK.intro (v:=.tup [.str (pitTxt pit08),.int .i64 0]) (PInv.func (first:=[]) (cap:=[]) (args:=[_]) (by simpa[Pit.v,Pit.c,pit08] using book_WritePitch_ok pit08_valid)) ?_
 rw[pit08_txt]
 simp
 intro s12
 refine FCall.frz1 12 (cells:=[.int .u8 73,.int .u8 4,.int .u8 0,.int .u8 128,.int .u8 76]) (s:=s12+1) (by simp) (PInv.func (by simpa using book_Mend_ok)) (by simp) ?_
 simp
 intro s24
 refine FCall.frz1 24 (cells:=byCells [73,5,0,128,76]) (s:=s24+1) (by simp[byCells]) (v:=.bool true) (PInv.func (by simpa[BY] using ref14_Bytes_ok [73,5,0,128,76])) (by simp) ?_
 simp
 refine PCallK.intro (PInv.func (first:=[]) (cap:=[]) (args:=[]) k) ?_
 simp
 exact RetV.wk (nilH_le _) rfl
end Go.Cw
end
section
namespace Go.Cw
open Go Go.Proofs
section
variable (E : Env) (Q:Post) (d:Option Nat) (pc raw:Bool) (fa fl:List It) (K:KT) (tm:TM) (df:DF) (h:Heap) (m k x:Opd)
@[simp] theorem AWy_mapE (kn:Bool×List Kd) (zero:AVal):AWy E Q (.mapE kn zero m k) d pc raw false fa fl K tm df h=osat (ixe (.mapE kn zero m k) 0 (ev tm) h 0) (fun r=>PutX fl K tm df d r.1 r.2.1):=by
 have hs:∀s,ixe (.mapE kn zero m k) (nmOf E.F d) (ev tm) h s =(ixe (.mapE kn zero m k) 0 (ev tm) h 0).map fun r=>(r.1,r.2.1,s):=by
  intro s
  simp only[ixe]
  repeat' split
  all_goals rfl
 show ((false=true→_)∧∀s:Nat,osat _ _)=_
 simp only[hs]
 cases ixe (.mapE kn zero m k) 0 (ev tm) h 0<;>simp[osat]
@[simp] theorem AWy_entS : AWy E Q (.entS m k x) d pc raw false fa fl K tm df h=osat (ixe (.entS m k x) 0 (ev tm) h 0) (fun r=>PutX fl K tm df d r.1 r.2.1):=by
 have hs:∀s,ixe (.entS m k x) (nmOf E.F d) (ev tm) h s =(ixe (.entS m k x) 0 (ev tm) h 0).map fun r=>(r.1,r.2.1,s):=by
  intro s
  simp only[ixe]
  repeat' split
  all_goals rfl
 show ((false=true→_)∧∀s:Nat,osat _ _)=_
 simp only[hs]
 cases ixe (.entS m k x) 0 (ev tm) h 0<;>simp[osat]
end
theorem sort1_ok (v:AVal):APure Pg fn_slices_SortStableFunc_int_int [.vl 1 [.int .i64 0],v] (.tup []):=by
 have ins:APure Pg fn_slices_insertionSortCmpFunc_int [.vl 1 [.int .i64 0],.int .i64 0,.int .i64 1,v] (.tup []):=by
  refine slices_insertionSortCmpFunc_int.e.p (by simp) ?_
  simp[Fits]
  refine Lp.rounds 1 (LpI.round fun J hJ=>?_)
  simp[Fits]
  refine hJ.exit ?_
  simp
  exact RetV.refl rfl
 have st:APure Pg fn_slices_stableCmpFunc_int [.vl 1 [.int .i64 0],.int .i64 1,v] (.tup []):=by
  refine slices_stableCmpFunc_int.e.p (by simp) ?_
  simp[Fits]
  refine Lp.rounds 1 (LpI.round fun J hJ=>?_)
  simp[Fits]
  refine hJ.exit ?_
  simp
  refine FCall.pure (PInv.func ins) ?_
  simp
  refine Lp.rounds 1 (LpI.round fun J hJ=>?_)
  simp[Fits]
  refine hJ.exit ?_
  simp
  exact RetV.refl rfl
 refine slices_SortStableFunc_int_int.e.p (by simp) ?_
 simp
 refine FCall.pure (PInv.func st) ?_
 simp
 exact RetV.refl rfl
def wgM (L F:Int):List (AVal×AVal):=[(.agg [.int .i64 0,.int .i64 (-1)],.int .u32 L),(.agg [.int .i64 0,.int .i64 1],.int .u32 F)]
theorem owned12_ok {ty:Nat} {a F L:Int} (hm:PInv Pg (.func (.method "caulkworks/wage.of") [.iface ty (.agg [.int .i64 1])] []) [.int .i64 0,.agg wgT] (.agg [.int .i64 a,.int .i64 4,.int .i64 5]))
 (hk:APure Pg fn_wage_known_fathoms [.agg [.int .i64 a,.int .i64 4,.int .i64 5]] (.int .u32 F)) (h1:bitI .and .u32 F 15=F) (hb:APure Pg fn_wage_fathoms_but [.int .u32 15,.int .u32 F] (.int .u32 L)) (h2:bitI .or .u32 0 F=F)
 {K:AEnd→Heap→Prop} (k:∀s,K (.ret (.map 940 s)) (hpV [(940,.map (wgM L F) s)])) :
 ACalls Pg fn_wage_wages_owned [wg12,.iface ty (.agg [.int .i64 1])] nilH K:=by
 refine wage_wages_owned.e 900 (by simp) ?_
 simp[wg12]
 intro s2 s5
 refine Lp.rounds 2 (LpI.round fun J hJ=>?_)
 simp[Fits,wgT]
 intro s8
 refine FCall.pure (by simpa[wgT] using hm) ?_
 simp
 intro s34 s35
 refine ⟨by simp[Fits],?_⟩
 refine hJ.go (LpI.round fun J hJ=>?_)
 simp[Fits]
 refine hJ.exitS (Sl.toVw [(1,.iface ty (.agg [.int .i64 1])),(2,.ptr 902 0 (s2+1)),(5,.ptr 905 0 (s5+1)),(6,.vl 1 [.int .i64 0])]
  [(902,.row [.int .i64 2,.vl 1 [.int .i64 4,.int .i64 5],.vl 1 wgT] (s2+1)),(905,.row ([.int .i64 a,.int .i64 4,.int .i64 5]++List.replicate 15 (.int .i64 0)) (s5+1))]
  (Sl.frzHp 935 (cells:=[.int .i64 0]) (s:=s35+1) (by simp) (Sl.refl ⟨rfl,by simp,by simp[wgT]⟩)) ?_)
 simp
 refine FCall.pure (PInv.func (sort1_ok _)) ?_
 simp
 intro s40
 refine Lp.rounds 2 (LpI.round fun J hJ=>?_)
 simp[Fits]
 intro s11
 simp[ixe,mfind,keyOk,keyEq,mset,show IntKind.u32.wrap (IntKind.u32.wrap 16 - 1)=15 by decide]
 refine hJ.go (LpI.round fun J hJ=>?_)
 simp[Fits]
 refine hJ.exit ?_
 simp
 refine Lp.rounds 2 (LpI.round fun J hJ=>?_)
 simp[Fits,wgT]
 intro s14 s15
 refine PCallK.intro (PInv.func hk) ?_
 simp[aLookup,mapOf,mfind,keyOk,keyEq,h1]
 refine PCallK.intro (PInv.func hb) ?_
 simp[ixe,mfind,keyOk,keyEq,mset]
 simp[aLookup,mapOf,mfind,keyOk,keyEq,h2]
 simp[ixe,mfind,keyOk,keyEq,mset]
 refine ⟨by simp[Fits],?_⟩
 refine hJ.go (LpI.round fun J hJ=>?_)
 simp[Fits]
 refine hJ.exit ?_
 simp
 exact RetV.view [(940,.map (wgM L F) (s40+1))] (by simp[wgM]) (k (s40+1))
theorem coins12_ok {ty:Nat} {a F L n:Int} (hm:PInv Pg (.func (.method "caulkworks/wage.of") [.iface ty (.agg [.int .i64 1])] []) [.int .i64 0,.agg wgT] (.agg [.int .i64 a,.int .i64 4,.int .i64 5]))
 (hk:APure Pg fn_wage_known_fathoms [.agg [.int .i64 a,.int .i64 4,.int .i64 5]] (.int .u32 F)) (h1:bitI .and .u32 F 15=F) (hb:APure Pg fn_wage_fathoms_but [.int .u32 15,.int .u32 F] (.int .u32 L)) (h2:bitI .or .u32 0 F=F)
 (hc:APure Pg fn_wage_fathoms_count [.int .u32 F] (.int .i64 n)) (hn:0≤n∧n≤20) :
 APure Pg fn_wage_wages_coins [wg12,.int .i64 1,.iface ty (.agg [.int .i64 1])] (.int .i64 (n*5)):=by
 refine wage_wages_coins.e.p (by simp) ?_
 simp[wg12]
 intro s3
 refine FCall.cps [(940,.dead)] (fun s:Nat=>.map 940 s) (fun s=>[(940,.map (wgM L F) s)]) (fun _=>True) (fun K' hK'=>AInvoke.func ?_) (by simp) (fun _=>rfl) trivial (fun s9 _=>⟨trivial,?_⟩)
 ·have:=owned12_ok hm hk h1 hb h2 (K:=K') fun s=>hK' s trivial
  simpa[wg12,show hpV [(940,AObj.dead)]=nilH from by funext x;simp only[hpV,upd];split<;>rfl] using this
 simp
 refine Lp.rounds 2 (LpI.round fun J hJ=>?_)
 simp[Fits]
 intro s10
 simp[aLookup,mapOf,mfind,keyOk,keyEq,wgM]
 refine PCallK.intro (PInv.func hc) ?_
 simp
 refine ⟨by unfold Fits;omega,fun q1 q2=>⟨by simp[Fits],?_⟩⟩
 refine hJ.go (LpI.round fun J hJ=>?_)
 simp[Fits]
 refine hJ.exit ?_
 simp
 refine FCall.frz1 34 (cells:=[.int .i64 (n*5)]) (s:=q2+1) (by simp) (PInv.func (by simpa using wage_sum1_ok (n:=n*5) (by omega))) (by simp) ?_
 simp
 exact RetV.wk (nilH_le _) rfl
theorem wage_due12_ok : APure Pg fn_wage_wages_due [wg12,.int .i64 1] (.agg [.int .i64 15,.int .i64 20]):=by
 have m1:PInv Pg (.func (.method "caulkworks/wage.of") [.iface 327 (.agg [.int .i64 1])] []) [.int .i64 0,.agg wgT] (.agg [.int .i64 0,.int .i64 4,.int .i64 5]):=fun hp=>AInvoke.meth meth_most (wage_most_of_ok hp)
 have m2:PInv Pg (.func (.method "caulkworks/wage.of") [.iface 329 (.agg [.int .i64 1])] []) [.int .i64 0,.agg wgT] (.agg [.int .i64 1,.int .i64 4,.int .i64 5]):=fun hp=>AInvoke.meth meth_least (wage_least_of_ok hp)
 refine wage_wages_due.e.p (by simp) ?_
 simp[wg12]
 intro s2 s4
 refine PCallK.intro (PInv.func (by simpa[wg12] using coins12_ok m2 wage_known1 (by simp) wage_but14 (by simp) wage_count14 (by omega))) ?_
 simp
 refine PCallK.intro (PInv.func (by simpa[wg12] using coins12_ok m1 wage_known0 (by simp) wage_but15 (by simp) wage_count15 (by omega))) ?_
 simp
 exact RetV.wk (nilH_le _) rfl
theorem wage_Due12_ok : APure Pg fn_wage_Due [wg12,.int .i64 1] (.tup [.agg [.int .i64 15,.int .i64 20],.int .i64 0]):=by
 refine wage_Due.e.p (by simp) ?_
 simp[wg12]
 intro s2 s3 s4 s5
 refine Sl.toVw [(2,.ptr 2 0 (s2+1)),(3,.pv [.int .i64 1]),(4,.ptr 4 0 (s4+1)),(5,.ptr 5 0 (s5+1))] [(2,.row [.int .i64 2,.vl 1 [.int .i64 4,.int .i64 5],.vl 1 wgT] (s2+1)),(4,.row [.int .i64 0,.int .i64 0] (s4+1)),(5,.row [.int .i64 0] (s5+1))]
  (Sl.frzHp 3 (cells:=[.int .i64 1]) (s:=s3+1) (by simp) (Sl.refl ⟨rfl,by simp,by simp⟩)) ?_
 simp
 refine FCall.pure' (v:=wg12) ?_ (by simp) (by simp) ?_
 ·exact PInv.func (by simpa[wg12,wgT] using wage_open12_ok)
 simp[wg12]
 refine PCallK.intro (PInv.func (by simpa[wg12] using wage_due12_ok)) ?_
 simp
 refine RetA.ret rfl (wage_answer_ok ?_)
 simp
 exact RetV.wk (nilH_le _) rfl
end Go.Cw
end
section
namespace Go.Cw
open Go Go.Proofs
theorem gang_open08_ok : APure Pg fn_gang_open [gangs08,.func (.func fn_gang_always) [] []] gpv08:=by
 have hc:=pitch_Count_ok pit08_valid
 have hb:=pitch_Best_ok pit08_valid
 rw[pit08_bestV] at hb
 refine gang_open.e.p (by simp) ?_
 simp[gangs08,seams08,crews08,Pit.c,pit08]
 intro s2
 refine PCallK.intro (PInv.func (by simpa[Pit.v,Pit.c,pit08] using hc)) ?_
 simp
 refine FCall.pure (PInv.func (gang_ask_ok _)) ?_
 simp
 refine Lp.rounds 4 (LpI.round fun J hJ=>?_)
 simp[Fits]
 intro t0
 refine PCallK.intro (PInv.func (gang_within_ok _ _ _)) ?_
 simp[Fits]
 refine PCallK.intro (PInv.func (gang_within_ok _ _ _)) ?_
 simp[Fits]
 refine PCallK.intro (PInv.func (gang_within_ok _ _ _)) ?_
 simp[Fits]
 refine PCallK.intro (PInv.func (gang_within_ok _ _ _)) ?_
 simp[Fits]
 refine FCall.pure (PInv.func (gang_ask_ok _)) ?_
 simp[Fits]
 refine hJ.go (LpI.round fun J hJ=>?_)
 simp[Fits]
 intro t1
 refine PCallK.intro (PInv.func (gang_within_ok _ _ _)) ?_
 simp[Fits]
 refine PCallK.intro (PInv.func (gang_within_ok _ _ _)) ?_
 simp[Fits]
 refine PCallK.intro (PInv.func (gang_within_ok _ _ _)) ?_
 simp[Fits]
 refine PCallK.intro (PInv.func (gang_within_ok _ _ _)) ?_
 simp[Fits]
 refine FCall.pure (PInv.func (gang_ask_ok _)) ?_
 simp[Fits]
 refine hJ.go (LpI.round fun J hJ=>?_)
 simp[Fits]
 intro t2
 refine PCallK.intro (PInv.func (gang_within_ok _ _ _)) ?_
 simp[Fits]
 refine PCallK.intro (PInv.func (gang_within_ok _ _ _)) ?_
 simp[Fits]
 refine PCallK.intro (PInv.func (gang_within_ok _ _ _)) ?_
 simp[Fits]
 refine PCallK.intro (PInv.func (gang_within_ok _ _ _)) ?_
 simp[Fits]
 refine FCall.pure (PInv.func (gang_ask_ok _)) ?_
 simp[Fits]
 refine hJ.go (LpI.round fun J hJ=>?_)
 simp[Fits]
 refine hJ.exitS (Sl.toVp [(1,.func (.func fn_gang_always) [] []),(2,.ptr 2 0 (s2+1))] [(2,.row ([seams08,crews08]++pit08.c) (s2+1))] (Sl.refl ⟨rfl,by simp,by simp[seams08,crews08,Pit.c,pit08]⟩) ?_)
 simp[seams08,crews08,Pit.c,pit08]
 refine Lp.rounds 3 (LpI.round fun J hJ=>?_)
 simp[Fits]
 intro u0
 refine PCallK.intro (PInv.func (gang_within_ok _ _ _)) ?_
 simp[Fits]
 refine FCall.pure (PInv.func (gang_ask_ok _)) ?_
 simp[Fits]
 refine hJ.go (LpI.round fun J hJ=>?_)
 simp[Fits]
 intro u1
 refine PCallK.intro (PInv.func (gang_within_ok _ _ _)) ?_
 simp[Fits]
 refine FCall.pure (PInv.func (gang_ask_ok _)) ?_
 simp[Fits]
 refine hJ.go (LpI.round fun J hJ=>?_)
 simp[Fits]
 refine hJ.exitS (Sl.toVp [(1,.func (.func fn_gang_always) [] []),(2,.ptr 2 0 (s2+1))] [(2,.row ([seams08,crews08]++pit08.c) (s2+1))] (Sl.refl ⟨rfl,by simp,by simp[seams08,crews08,Pit.c,pit08]⟩) ?_)
 simp[seams08,crews08,Pit.c,pit08]
 intro s113
 refine FCall.pure (PInv.func (gang_always_ok _)) ?_
 simp
 refine FCall.pure (PInv.func (gang_ask_ok _)) ?_
 simp
 refine PCallK.intro (PInv.func (by simpa[Pit.v,Pit.c,pit08] using hb)) ?_
 simp
 refine Lp.rounds 4 (LpI.round fun J hJ=>?_)
 simp[Fits]
 intro v1 v2 v3
 refine hJ.go (LpI.round fun J hJ=>?_)
 simp[Fits]
 intro v4
 refine PCallK.intro (PInv.func (by simpa[Pit.v,Pit.c,pit08] using hot08_0)) ?_
 simp
 intro v5 v6
 refine FCall.frz1 157 (cells:=[.int .i64 0,.int .i64 6]) (s:=v6+1) (by simp) (PInv.func (by simpa using gang_later_ok 0 6)) (by simp) ?_
 simp[-xApN_sl]
 intro v7 v8
 rw[xApN_sl]
 simp
 refine ⟨by simp[Fits],?_⟩
 refine hJ.goS (Sl.toVp [(2,.ptr 2 0 (s2+1)),(6,.int .i64 0),(11,.ptr 113 0 (s113+1)),(13,.vl 2 [.int .i64 0,.int .i64 3,.int .i64 1,.int .i64 0]),(126,seams08),(127,.int .i64 3),(128,.int .i64 2)]
  [(2,.row ([seams08,crews08]++pit08.c) (s2+1)),(113,.row ([seams08,crews08]++pit08.c++[.sl 166 0 (v8+1) 2 (.gr 1)]) (s113+1)),(166,.row [.int .i64 2,.int .i64 (max 0 6)] (v8+1))]
  (Sl.refl ⟨rfl,by simp[seams08],by simp[seams08,crews08,Pit.c,pit08]⟩) (LpI.round fun J hJ=>?_))
 simp[Fits,seams08,crews08,Pit.c,pit08]
 intro v9
 refine PCallK.intro (PInv.func (by simpa[Pit.v,Pit.c,pit08] using hot08_1)) ?_
 simp
 intro v10 v11
 refine FCall.frz1 157 (cells:=[.int .i64 3,.int .i64 4]) (s:=v11+1) (by simp) (PInv.func (by simpa using gang_later_ok 3 4)) (by simp) ?_
 simp
 intro v12 v13
 refine ⟨by simp[Fits],?_⟩
 refine hJ.go (LpI.round fun J hJ=>?_)
 simp[Fits]
 refine hJ.exit ?_
 simp
 refine RetV.frzH 166 (cells:=[.int .i64 2,.int .i64 6,.int .i64 4]) (s:=v13+1) (by simp;decide) ?_
 simp
 refine RetV.frz 113 (cells:=[seams08,crews08]++pit08.c++[.vl 3 [.int .i64 2,.int .i64 6,.int .i64 4]]) (s:=s113+1) (by simp[seams08,crews08,Pit.c,pit08]) ?_
 simp
 exact RetV.wk (nilH_le _) rfl
end Go.Cw
end
section
namespace Go.Cw
open Go Go.Proofs
theorem gang_has_ok {s n:Nat} (hs:s<8) (hn:n<3):APure Pg fn_gang_set_has [.int .u64 s,.int .i64 n] (.bool (s.testBit n)):=by
 have h0:=two_pow_pos n
 have h2:0≤(s:Int) / 2^n:=Int.ediv_nonneg (by omega) (by omega)
 have h3 :(s:Int) / 2^n≤s:=Int.ediv_le_self _ (by omega)
 have h4:=bitU_and1 h2 (by omega)
 have h5:∀a:Fin 8,∀b:Fin 3,decide (((a.val:Nat):Int) / 2^b.val % 2=1)=a.val.testBit b.val:=by decide
 have h6:=h5 ⟨s,hs⟩ ⟨n,hn⟩
 refine gang_set_has.e.p (by simp) ?_
 simp[h4]
 exact ⟨by omega,RetV.refl (by simpa using h6)⟩
def wth (s n:Nat):Nat:=s ||| 2^n
def wo (s n:Nat):Nat:=s - if s.testBit n then 2^n else 0
theorem gang_with_ok {s n:Nat} (hs:s<8) (hn:n<3):APure Pg fn_gang_set_with [.int .u64 s,.int .i64 n] (.int .u64 (wth s n:Nat)):=by
 have h1:=bitU_or s (2^n) (by omega) (by rcases (show n=0∨n=1∨n=2 by omega) with rfl|rfl|rfl<;>decide)
 refine gang_set_with.e.p (by simp) ?_
 rcases (show n=0∨n=1∨n=2 by omega) with rfl|rfl|rfl
 all_goals
  simp at h1
  simp[wrap_u64,h1]
  exact RetV.refl rfl
theorem gang_wo_ok {s n:Nat} (hs:s<8) (hn:n<3):APure Pg fn_gang_set_without [.int .u64 s,.int .u64 (2^n:Nat)] (.int .u64 (wo s n:Nat)):=by
 have h1:∀a:Fin 8,∀b:Fin 3,bitI .andNot .u64 a.val (2^b.val:Nat) =(wo a.val b.val:Nat):=by decide
 have h2:=h1 ⟨s,hs⟩ ⟨n,hn⟩
 refine gang_set_without.e.p (by simp) ?_
 simp at h2
 simp[h2]
 exact RetV.refl rfl
theorem meth_slow : MethAt Pg 400 "caulkworks/gang.fathoms" fn_gang_slow_fathoms:=⟨fun _ _=>by kernel_rfl⟩
theorem fine_slow : fineM Pg 400 "caulkworks/gang.fathoms" = true:=by kernel_rfl
theorem gang_slow_ok (a b c:Int):APure Pg fn_gang_slow_fathoms [.agg [],.agg [.int .i64 a,.int .i64 b,.int .i64 c]] (.int .i64 a):=by
 refine gang_slow_fathoms.e.p (by simp) ?_
 simp
 intros
 exact RetV.wk (nilH_le _) rfl
def kset (c:Nat):Nat:=if c=0 then 7 else 6
def knw (c n:Nat):Bool:=(kset c).testBit n
def knV (c:Nat):AVal:=.func (.func fn_gang_gangs_knows_1) [] [.pv [.func (.func fn_gang_set_has) [.int .u64 (kset c:Nat)] []],.pv [gpv08]]
@[simp] theorem acells_gpv : acells gpv08=some [gpv08]:=rfl
@[simp] theorem ku7 : IntKind.u64.wrap 7=7:=by decide
@[simp] theorem ku6 : IntKind.u64.wrap 6=6:=by decide
theorem gang_knows_ok {c:Nat} (hc:c<2):APure Pg fn_gang_gangs_knows [gpv08,.int .i64 c] (knV c):=by
 refine gang_gangs_knows.e.p (by simp) ?_
 rcases (show c=0∨c=1 by omega) with rfl|rfl
 ·simp[gpv08,crews08,Pit.c,pit08]
  intro s1 s2
  refine RetV.frz 5 (cells:=[.func (.func fn_gang_set_has) [.int .u64 7] []]) (s:=s2+1) (by simp) ?_
  refine RetV.frz 2 (cells:=[gpv08]) (s:=s1+1) (by simp[gpv08,crews08,Pit.c,pit08]) ?_
  exact RetV.wk (nilH_le _) (by simp[knV,kset])
 ·simp[gpv08,crews08,Pit.c,pit08]
  intro s1 s2
  refine RetV.frz 5 (cells:=[.func (.func fn_gang_set_has) [.int .u64 6] []]) (s:=s2+1) (by simp) ?_
  refine RetV.frz 2 (cells:=[gpv08]) (s:=s1+1) (by simp[gpv08,crews08,Pit.c,pit08]) ?_
  exact RetV.wk (nilH_le _) (by simp[knV,kset])
theorem gang_knows_1_ok {c n:Nat} (hn:n<3):APure Pg fn_gang_gangs_knows_1 [.int .i64 n,.pv [.func (.func fn_gang_set_has) [.int .u64 (kset c:Nat)] []],.pv [gpv08]] (.bool (knw c n)):=by
 have hk:kset c<8:=by unfold kset;split<;>omega
 refine gang_gangs_knows_1.e.p (by simp) ?_
 simp
 refine FCall.pure (PInv.func (gang_has_ok hk hn)) ?_
 cases h :(kset c).testBit n
 ·simp
  exact RetV.wk (nilH_le _) (by simp[knw,h])
 ·rcases (show n=0∨n=1∨n=2 by omega) with rfl|rfl|rfl
  all_goals
   simp[gpv08,seams08,crews08,Pit.c,pit08]
   exact RetV.wk (nilH_le _) (by simp[knw,h])
def rdy (n:Nat):Int:=if n=0 then 2 else if n=1 then 6 else 4
def flo (n:Nat):Int:=if n=1 then 10 else 12
def dur (c n:Nat):Int:=if c=0 then 4 - n else if n=0 then 5 else 3
def nxt (c n:Nat) (h:Int):Int:=max h (rdy n)+dur c n
def stV (s:Nat) (h:Int):AVal:=.agg [.int .u64 s,.int .i64 h]
theorem gang_next_ok {c s n:Nat} {h:Int} (hc:c<2) (hs:s<8) (hn:n<3) (h0:0≤h) (h1:h≤10000) :
 APure Pg fn_gang_gangs_next [gpv08,stV s h,.int .i64 c,.int .i64 n,.iface 400 (.agg [])] (stV (wth s n) (nxt c n h)):=by
 have ms:∀a b d:Int,PInv Pg (.func (.method "caulkworks/gang.fathoms") [.iface 400 (.agg [])] []) [.agg [.int .i64 a,.int .i64 b,.int .i64 d]] (.int .i64 a):=fun a b d hp=>AInvoke.meth meth_slow (gang_slow_ok a b d hp)
 have lt:∀a b:Int,PInv Pg (.func (.func fn_gang_later) [] []) [.vl 2 [.int .i64 a,.int .i64 b]] (.int .i64 (max a b)):=fun a b=>PInv.func (gang_later_ok a b)
 refine gang_gangs_next.e.p (by simp) ?_
 have hr:∀n,0≤rdy n∧rdy n≤6:=fun n=>by unfold rdy;(repeat' split)<;>omega
 obtain ⟨m,hm⟩ : ∃m,m=n:=⟨_,rfl⟩
 have hr:=hr m
 rcases (show c=0∨c=1 by omega) with rfl|rfl<;>rcases (show n=0∨n=1∨n=2 by omega) with rfl|rfl|rfl
 all_goals
  simp[gpv08,seams08,crews08,Pit.c,pit08,stV,fine_slow]
  intro s1 s2
  refine FCall.pure (ms _ _ _) ?_
  simp
  refine PCallK.intro (PInv.func (gang_with_ok hs hn)) ?_
  simp[Fits]
  intro s38
  refine FCall.frz1 38 (cells:=[.int .i64 h,.int .i64 (rdy m)]) (s:=s38+1) (by simp[rdy,hm]) (by simpa using lt h (rdy m)) (by simp) ?_
  simp
  refine ⟨by unfold Fits;omega,?_⟩
  exact RetV.wk (nilH_le _) (by simp[nxt,dur,hm])
end Go.Cw
end
section
namespace Go.Cw
open Go Go.Proofs
def tIn (c s:Nat) (T:List Int) (n:Nat):List Int:=
 if s.testBit n && knw c n then (if T.getD (wo s n) 0<10000∧nxt c n (T.getD (wo s n) 0)≤flo n then T.set s (min (T.getD s 0) (nxt c n (T.getD (wo s n) 0))) else T) else T
def tabI (c s:Nat) (T:List Int) (j:Nat):List Int:=(List.range j).foldl (tIn c s) (T.set s (if s=0 then 0 else 10000))
def tabF (c:Nat):Nat→List Int
 | 0=>List.replicate 32 0
 | k+1=>tabI c k (tabF c k) 3
structure TOk (T:List Int):Prop where
 len:T.length=32
 all:∀x∈T,0≤x∧x≤10000
theorem TOk.get {T:List Int} (h:TOk T) (i:Nat):0≤T.getD i 0∧T.getD i 0≤10000:=by
 by_cases hi:i<T.length
 ·have:T.getD i 0=T[i]:=by simp[List.getD,hi]
  rw[this];exact h.all _ (by simp)
 ·have:T.getD i 0=0:=by simp[List.getD,hi]
  rw[this];omega
theorem TOk.set {T:List Int} (h:TOk T) (i:Nat) {x:Int} (hx:0≤x∧x≤10000):TOk (T.set i x):=
 ⟨by simp[h.len],fun y hy=>by
  rcases List.mem_or_eq_of_mem_set hy with hy|rfl
  ·exact h.all _ hy
  ·exact hx⟩
theorem nxt_le {c n:Nat} {h:Int} (hc:c<2) (hn:n<3) (h0:0≤h):0≤nxt c n h:=by
 unfold nxt dur;split <;>(try split)<;>omega
theorem TOk.tIn {T:List Int} (h:TOk T) {c s n:Nat} (hc:c<2) (hn:n<3):TOk (tIn c s T n):=by
 unfold Cw.tIn
 split
 ·split
  ·have h1:=h.get (wo s n)
   have h2:=nxt_le hc hn h1.1
   have h3:=h.get s
   exact h.set _ (by omega)
  ·exact h
 ·exact h
theorem TOk.tabI {T:List Int} (h:TOk T) {c s:Nat} (hc:c<2):∀j,j≤3→TOk (tabI c s T j)
 | 0,_=>by
   show TOk (T.set s _)
   exact h.set _ (by split<;>omega)
 | j+1,hj=>by
   unfold Cw.tabI
   rw[List.range_succ,List.foldl_append]
   exact TOk.tIn (TOk.tabI h hc j (by omega)) hc (by omega)
theorem tabI_succ (c s:Nat) (T:List Int) (j:Nat):tabI c s T (j+1)=tIn c s (tabI c s T j) j:=by
 unfold tabI;rw[List.range_succ,List.foldl_append];rfl
theorem tabF_ok {c:Nat} (hc:c<2):∀k,TOk (tabF c k)
 | 0=>⟨by simp[tabF],fun x hx=>by simp[tabF] at hx;omega⟩
 | k+1=>(tabF_ok hc k).tabI hc 3 (by omega)
theorem wo_lt (s n:Nat) (hs:s<8):wo s n<8:=by unfold wo;omega
@[simp] theorem ku8 : IntKind.u64.wrap 8=8:=by decide
@[simp] theorem gpv_nilck : aNilck Pg gpv08=some gpv08:=rfl
@[simp] theorem gpv_f0 : aFAddr 0 gpv08=some gpv08:=rfl
@[simp] theorem gpv_f7 : aFAddr 7 gpv08=some (.pv [.vl 3 [.int .i64 2,.int .i64 6,.int .i64 4]]):=rfl
@[simp] theorem gpv_l0 (h:Heap) (K:AVal→Prop):satLoad h false 1 gpv08 K=K seams08:=by simp[gpv08]
@[simp] theorem len_seams : aLen seams08=some (.int .i64 3):=rfl
theorem gang_table_ok {c:Nat} (hc:c<2):APure Pg fn_gang_gangs_table [gpv08,.int .i64 c] (.agg (ints (tabF c 8))):=by
 refine gang_gangs_table.e.p (by simp) ?_
 simp
 intro s4
 refine FCall.pure (PInv.func (gang_knows_ok hc)) ?_
 simp
 refine PCallK.intro (PInv.func gang_every3) ?_
 simp
 refine Lp.intro (σ:=Nat) (inv:=fun k=>k≤8) (vw:=fun k=>[(0,gpv08),(1,.int .i64 c),(4,.ptr 4 0 (s4+1)),(5,knV c),(6,.func (.func fn_gang_set_has) [] []),(21,.int .u64 8),(22,.int .u64 k)])
  (hp:=fun k=>[(4,.row (ints (tabF c k)) (s4+1))]) (ms:=fun k=>8 - k) 0 (Nat.zero_le _) (by simp) (by simp[tabF]) ?_
 intro k hk J hJ
 by_cases hk8:k<8
 ·have ht:=tabF_ok hc k
  obtain ⟨T,hT⟩ : ∃T,T=tabF c k:=⟨_,rfl⟩
  have hT1:tabF c (k+1)=tabI c k T 3:=by rw[hT];rfl
  rw[←hT] at ht
  have hl:=ht.len
  simp only[←hT]
  by_cases hk0:k=0
  rotate_left
  simp[show (k:Int)<8 by omega,hl,show k<32 by omega,hk0,show (k:Int)<32 by omega,show k≤31 by omega]
  refine Lp.intro (σ:=Nat) (inv:=fun j=>j≤3) (vw:=fun j=>[(0,gpv08),(1,.int .i64 c),(4,.ptr 4 0 (s4+1)),(5,knV c),(6,.func (.func fn_gang_set_has) [] []),(7,.int .u64 k),(21,.int .u64 8),(22,.int .u64 k),(36,.int .i64 3),(37,.int .i64 j)])
   (hp:=fun j=>[(4,.row (ints (tabI c k T j)) (s4+1))]) (ms:=fun j=>3 - j) 0 (Nat.zero_le _) (by simp[hk0]) (by simp[hk0,hl,tabI]) ?_
  rotate_left
  simp[hl,hk0]
  refine Lp.intro (σ:=Nat) (inv:=fun j=>j≤3) (vw:=fun j=>[(0,gpv08),(1,.int .i64 c),(4,.ptr 4 0 (s4+1)),(5,knV c),(6,.func (.func fn_gang_set_has) [] []),(7,.int .u64 k),(21,.int .u64 8),(22,.int .u64 k),(36,.int .i64 3),(37,.int .i64 j)])
   (hp:=fun j=>[(4,.row (ints (tabI c k T j)) (s4+1))]) (ms:=fun j=>3 - j) 0 (Nat.zero_le _) (by simp[hk0]) (by simp[hk0,hl,tabI]) ?_
  rotate_left
  all_goals
   intro j hj J2 hJ2
   by_cases hj3:j<3
   ·have hok:=ht.tabI hc (s:=k) j (by omega)
    have hn:=tabI_succ c k T j
    obtain ⟨U,hU⟩ : ∃U,U=tabI c k T j:=⟨_,rfl⟩
    rw[←hU] at hok hn
    have hul:=hok.len
    simp only[←hU]
    simp[show (j:Int)<3 by omega]
    refine FCall.pure (PInv.func (gang_has_ok hk8 hj3)) ?_
    have skip:∀{b:Bool},(k.testBit j && knw c j)=false→tIn c k U j=U:=fun e=>by unfold tIn;rw[e];rfl
    cases hh:k.testBit j with
    | false=>
      simp
      refine ⟨by unfold Fits;omega,?_⟩
      exact hJ2.next (j+1) (by omega) (by omega) (by simp) (by simp[hn,skip (b:=true) (by simp[hh])])
    | true=>
      simp
      refine FCall.pure (PInv.func (gang_knows_1_ok hj3)) ?_
      cases hw:knw c j with
      | false=>
        simp
        refine ⟨by unfold Fits;omega,?_⟩
        exact hJ2.next (j+1) (by omega) (by omega) (by simp) (by simp[hn,skip (b:=true) (by simp[hh,hw])])
      | true=>
        have hgo:PInv Pg (.func (.func fn_gang_set_without) [] []) [.int .u64 k,.int .u64 (2^j)] (.int .u64 (wo k j:Nat)):=PInv.func (by simpa using gang_wo_ok hk8 hj3)
        have hwl:=wo_lt k j hk8
        have hp:IntKind.u64.wrap (2^j)=2^j:=by rcases (show j=0∨j=1∨j=2 by omega) with rfl|rfl|rfl<;>decide
        obtain ⟨w,hwe⟩ : ∃w,w=wo k j:=⟨_,rfl⟩
        rw[←hwe] at hgo hwl
        have hb:=hok.get w
        obtain ⟨b,hbe⟩ : ∃b,b=U.getD w 0:=⟨_,rfl⟩
        have hb1:U[w]? = some b:=by rw[hbe];simp[List.getD,show w<U.length by omega]
        have hb2:U[w]'(by omega)=b:=by rw[hbe];simp[List.getD,show w<U.length by omega]
        rw[←hbe] at hb
        have hx:=hok.get k
        obtain ⟨x,hxe⟩ : ∃x,x=U.getD k 0:=⟨_,rfl⟩
        have hx1:U[k]? = some x:=by rw[hxe];simp[List.getD,show k<U.length by omega]
        have hx2:U[k]'(by omega)=x:=by rw[hxe];simp[List.getD,show k<U.length by omega]
        rw[←hxe] at hx
        simp[hp,show (j:Int)<64 by omega]
        refine PCallK.intro hgo ?_
        simp[hp,show (j:Int)<64 by omega]
        refine PCallK.intro hgo ?_
        simp[hul,show w<32 by omega,show (w:Int)<32 by omega,hb1,hb2]
        intro s9
        refine PCallK.intro (v:=stV (wth w j) (nxt c j b)) (PInv.func (by simpa[stV] using gang_next_ok (s:=w) hc hwl hj3 hb.1 hb.2)) ?_
        have hnx:=nxt_le hc hj3 hb.1
        obtain ⟨y,hy⟩ : ∃y,y=nxt c j b:=⟨_,rfl⟩
        have hin:tIn c k U j=if b<10000∧y≤flo j then U.set k (min x y) else U:=by
         unfold tIn;rw[hh,hw,←hwe,←hbe,←hxe,←hy];rfl
        rw[←hy] at hnx
        simp[stV,←hy]
        intro s10
        obtain ⟨m,hm⟩ : ∃m,m=j:=⟨_,rfl⟩
        by_cases hb9:b<10000
        ·by_cases hyf:y≤flo j
         ·rw[if_pos ⟨hb9,hyf⟩] at hin
          rcases (show j=0∨j=1∨j=2 by omega) with rfl|rfl|rfl
          all_goals
           simp[flo] at hyf
           simp[hb9,seams08,hyf,hul,show k<32 by omega,show (k:Int)<32 by omega,show k≤31 by omega,hx1,hx2]
           refine ⟨by unfold Fits;omega,?_⟩
           exact hJ2.next (m+1) (by omega) (by omega) (by simp[hm,seams08]) (by simp[hm,hn,hin])
         ·rw[if_neg fun e=>hyf e.2] at hin
          rcases (show j=0∨j=1∨j=2 by omega) with rfl|rfl|rfl
          all_goals
           simp[flo] at hyf
           simp[hb9,seams08,Int.not_le.2 hyf]
           refine ⟨by unfold Fits;omega,?_⟩
           exact hJ2.next (m+1) (by omega) (by omega) (by simp[hm,seams08]) (by simp[hm,hn,hin])
        ·rw[if_neg fun e=>hb9 e.1] at hin
         simp[hb9]
         refine ⟨by unfold Fits;omega,?_⟩
         exact hJ2.next (j+1) (by omega) (by omega) (by simp) (by simp[hn,hin])
   ·obtain rfl:j=3:=by omega
    simp
    refine hJ2.exit ?_
    simp[wrap_u64 (n:=(k:Int)+1) (by omega) (by omega)]
    exact hJ.next (k+1) (by omega) (by omega) (by simp) (by simp[hT1])
 ·obtain rfl:k=8:=by omega
  have hl:=(tabF_ok hc 8).len
  simp
  refine hJ.exit ?_
  simp[hl,List.take_of_length_le,setRange,-setRange_full]
  rw[show List.drop 32 (tabF c 8)=[] from List.drop_eq_nil_of_le (by omega),List.append_nil]
  exact RetV.wk (nilH_le _) rfl
end Go.Cw
end
section
namespace Go.Cw
open Go Go.Proofs
def tabsV : AVal:=.vl 2 (ints (tabF 0 8)++ints (tabF 1 8))
theorem gang_filled_ok : APure Pg fn_gang_filled_gang_table [.int .i64 2,.agg [.func (.func fn_gang_gangs_table) [gpv08] []]] tabsV:=by
 have t0:PInv Pg (.func (.func fn_gang_gangs_table) [gpv08] []) [.int .i64 0] (.agg (ints (tabF 0 8))):=PInv.func (gang_table_ok (c:=0) (by omega))
 have t1:PInv Pg (.func (.func fn_gang_gangs_table) [gpv08] []) [.int .i64 1] (.agg (ints (tabF 1 8))):=PInv.func (gang_table_ok (c:=1) (by omega))
 have l0:=(tabF_ok (c:=0) (by omega) 8).len
 have l1:=(tabF_ok (c:=1) (by omega) 8).len
 unfold tabsV
 obtain ⟨A,hA⟩ : ∃A,A=tabF 0 8:=⟨_,rfl⟩
 obtain ⟨B,hB⟩ : ∃B,B=tabF 1 8:=⟨_,rfl⟩
 rw[←hA] at t0 l0 ⊢
 rw[←hB] at t1 l1 ⊢
 refine gang_filled_gang_table.e.p (by simp) ?_
 simp
 intro s3
 refine Lp.rounds 3 (LpI.round fun J hJ=>?_)
 simp[Fits]
 refine FCall.pure t0 ?_
 have ta:A.take 32=A:=List.take_of_length_le (by omega)
 have tb:B.take 32=B:=List.take_of_length_le (by omega)
 simp[l0,ta]
 intro q1 q2
 refine ⟨by simp[Fits],hJ.go (LpI.round fun J hJ=>?_)⟩
 simp[Fits]
 refine FCall.pure t1 ?_
 simp[l0,l1,ta,tb]
 intro q3 q4
 refine ⟨by simp[Fits],hJ.go (LpI.round fun J hJ=>?_)⟩
 simp[Fits]
 refine hJ.exit ?_
 simp
 refine RetV.frz 16 (cells:=ints A++ints B) (s:=q4+1) (by simp) ?_
 simp
 exact RetV.wk (nilH_le _) rfl
def gpv1 : AVal:=.pv (crews08 ::(pit08.c++[.vl 3 [.int .i64 2,.int .i64 6,.int .i64 4]]))
@[simp] theorem gpv_f1 : aFAddr 1 gpv08=some gpv1:=rfl
@[simp] theorem gpv_l1 (h:Heap) (K:AVal→Prop):satLoad h false 1 gpv1 K=K crews08:=by simp[gpv1]
@[simp] theorem len_crews : aLen crews08=some (.int .i64 2):=rfl
theorem gang_tables_ok : APure Pg fn_gang_gangs_tables [gpv08] tabsV:=by
 refine gang_gangs_tables.e.p (by simp) ?_
 simp
 refine FCall.pure (PInv.func gang_filled_ok) ?_
 simp
 exact RetV.refl rfl
def dlF : Nat→Mrk→Int
 | 0,m=>max (max 0 ((tabF 0 8).getD m.a 0)) ((tabF 1 8).getD m.b 0)
 | k+1,m=>min (min 10000 (dlF k ⟨m.n+1,wth m.a m.n,m.b,m.c⟩)) (dlF k ⟨m.n+1,m.a,wth m.b m.n,m.c⟩)
def dl (m:Mrk):Int:=dlF (3 - m.n) m
def onD (sm so:Nat):AVal:=.func (.func fn_gang_gangs_deals_1) [] [.pv [gpv08],.pv [tabsV],.pv [.int .u64 7],.ptr 210 0 so,.pv [.map 211 sm],.pv [.int .u64 3]]
def entsD (M:List Mrk):List (AVal×AVal):=entsK Mrk.v (fun m=>.int .i64 (dl m)) M
def rowsD (sm so:Nat) (M:List Mrk):List (Nat×AObj):=[(210,.row [onD sm so] so),(211,.map (entsD M) sm)]
theorem dlF_ok : ∀k m,0≤dlF k m∧dlF k m≤10000
 | 0,m=>by
   have h1:=(tabF_ok (c:=0) (by omega) 8).get m.a
   have h2:=(tabF_ok (c:=1) (by omega) 8).get m.b
   unfold dlF;omega
 | k+1,m=>by
   have h1:=dlF_ok k ⟨m.n+1,wth m.a m.n,m.b,m.c⟩
   have h2:=dlF_ok k ⟨m.n+1,m.a,wth m.b m.n,m.c⟩
   unfold dlF;omega
theorem wth_lt {s n:Nat} (hs:s<8) (hn:n<3):wth s n<8:=Nat.or_lt_two_pow (n:=3) hs (Nat.pow_lt_pow_right (by omega) hn)
@[simp] theorem acells_tabs : acells tabsV=some [tabsV]:=rfl
@[simp] theorem frz_tabs (r s:Nat) (cells:List AVal):frz r s cells tabsV=tabsV:=by simp[tabsV]
theorem gang_deals_ok (K:AEnd→Heap→Prop) (hK:∀sm so,K (.ret (onD sm so)) (hpV (rowsD sm so []))) :
 ACalls Pg fn_gang_gangs_deals [gpv08,.int .u64 7,.int .u64 3,tabsV] nilH K:=by
 refine gang_gangs_deals.e 200 (by simp) ?_
 simp
 intro s1 s2 s3 s4 s5 s6 s7
 refine RetV.frzH 204 (cells:=[gpv08]) (s:=s1+1) (by simp) ?_
 simp
 refine RetV.frzH 205 (cells:=[.int .u64 7]) (s:=s2+1) (by simp) ?_
 simp
 refine RetV.frzH 206 (cells:=[.int .u64 3]) (s:=s3+1) (by simp) ?_
 simp
 refine RetV.frzH 207 (cells:=[tabsV]) (s:=s4+1) (by simp) ?_
 simp
 refine RetV.frzH 209 (cells:=[.map 211 (s5+1)]) (s:=s6+1) (by simp) ?_
 simp
 refine RetV.view (rowsD (s5+1) (s7+1) []) (by simp[rowsD,onD,entsD]) ?_
 exact hK (s5+1) (s7+1)
end Go.Cw
end
section
namespace Go.Cw
open Go Go.Proofs
def tp0 : AVal:=.pv (ints (tabF 0 8++tabF 1 8))
def tp1 : AVal:=.pv (ints (tabF 1 8))
@[simp] theorem tabs_len : aLen tabsV=some (.int .i64 2):=rfl
@[simp] theorem tabs_ix0 (K:AVal→Prop):satIxS 32 tabsV (.int .i64 0) K=K tp0:=by
 have l0:=(tabF_ok (c:=0) (by omega) 8).len
 have l1:=(tabF_ok (c:=1) (by omega) 8).len
 simp[tabsV,tp0,l0,l1]
@[simp] theorem tabs_ix1 (K:AVal→Prop):satIxS 32 tabsV (.int .i64 1) K=K tp1:=by
 have l0:=(tabF_ok (c:=0) (by omega) 8).len
 have l1:=(tabF_ok (c:=1) (by omega) 8).len
 have e :(tabF 0 8++tabF 1 8).drop 32=tabF 1 8:=by rw[←l0,List.drop_left]
 simp[tabsV,tp1,l0,l1,e]
@[simp] theorem tp0_l (h:Heap) (K:AVal→Prop):satLoad h true 32 tp0 K=K (.agg (ints (tabF 0 8))):=by
 have l0:=(tabF_ok (c:=0) (by omega) 8).len
 have l1:=(tabF_ok (c:=1) (by omega) 8).len
 have e :(tabF 0 8++tabF 1 8).take 32=tabF 0 8:=by rw[←l0,List.take_left]
 simp[tp0,l0,l1,e]
@[simp] theorem tp1_l (h:Heap) (K:AVal→Prop):satLoad h true 32 tp1 K=K (.agg (ints (tabF 1 8))):=by
 have l1:=(tabF_ok (c:=1) (by omega) 8).len
 have e :(tabF 1 8).take 32=tabF 1 8:=by rw[←l1,List.take_length]
 simp[tp1,l1,e]
def mD (m:Mrk):AVal:=.agg [.int .u64 m.a,.int .u64 m.b,.int .u64 m.c]
theorem gang_on_ok (sm so:Nat):∀(k:Nat) (m:Mrk) (M:List Mrk),m.n+k=3→m.a<8→m.b<8→M.Nodup→
 ∀K:AEnd→Heap→Prop,(∀M',M'.Nodup→K (.ret (.int .i64 (dlF k m))) (hpV (rowsD sm so M')))→
  ACalls Pg fn_gang_gangs_deals_1 [.int .i64 m.n,mD m,.pv [gpv08],.pv [tabsV],.pv [.int .u64 7],.ptr 210 0 so,.pv [.map 211 sm],.pv [.int .u64 3]] (hpV (rowsD sm so M)) K:=by
 have lt:∀a b:Int,PInv Pg (.func (.func fn_gang_later) [] []) [.vl 2 [.int .i64 a,.int .i64 b]] (.int .i64 (max a b)):=fun a b=>PInv.func (gang_later_ok a b)
 intro k
 induction k with
 | zero=>
   intro m M hk ha hb hM K hK
   have hn:m.n=3:=by omega
   have h0:=tabF_ok (c:=0) (by omega) 8
   have h1:=tabF_ok (c:=1) (by omega) 8
   have e0:=h0.get m.a
   have e1:=h1.get m.b
   have hd:dlF 0 m=max (max 0 ((tabF 0 8).getD m.a 0)) ((tabF 1 8).getD m.b 0):=rfl
   obtain ⟨A,hA⟩ : ∃A,A=tabF 0 8:=⟨_,rfl⟩
   obtain ⟨B,hB⟩ : ∃B,B=tabF 1 8:=⟨_,rfl⟩
   have l0:=h0.len
   have l1:=h1.len
   rw[←hA] at hd e0 l0
   rw[←hB] at hd e1 l1
   obtain ⟨x,hx⟩ : ∃x,x=A.getD m.a 0:=⟨_,rfl⟩
   obtain ⟨y,hy⟩ : ∃y,y=B.getD m.b 0:=⟨_,rfl⟩
   have x1:A[m.a]? = some x:=by rw[hx];simp[List.getD,show m.a<A.length by omega]
   have x2:A[m.a]'(by omega)=x:=by rw[hx];simp[List.getD,show m.a<A.length by omega]
   have y1:B[m.b]? = some y:=by rw[hy];simp[List.getD,show m.b<B.length by omega]
   have y2:B[m.b]'(by omega)=y:=by rw[hy];simp[List.getD,show m.b<B.length by omega]
   rw[←hx,←hy] at hd
   rw[←hx] at e0
   rw[←hy] at e1
   refine gang_gangs_deals_1.e 0 (by simp) ?_
   simp[mD,hn]
   intro s9
   refine Lp.rounds 3 (LpI.round fun J hJ=>?_)
   simp[Fits,←hA,l0,x1,x2,show m.a<32 by omega,show (m.a:Int)<32 by omega]
   intro s13 s40
   refine FCall.frz1 40 (cells:=[.int .i64 0,.int .i64 x]) (s:=s40+1) (by simp) (by simpa using lt 0 x) (by simp) ?_
   simp
   refine ⟨by simp[Fits],hJ.go (LpI.round fun J hJ=>?_)⟩
   simp[Fits,←hB,l1,y1,y2,show m.b<32 by omega,show (m.b:Int)<32 by omega]
   intro t13 t40
   refine FCall.frz1 40 (cells:=[.int .i64 (max 0 x),.int .i64 y]) (s:=t40+1) (by simp) (by simpa using lt (max 0 x) y) (by simp) ?_
   simp
   refine ⟨by simp[Fits],hJ.go (LpI.round fun J hJ=>?_)⟩
   simp
   refine hJ.exit ?_
   simp
   refine RetV.view (rowsD sm so M) (by simp[rowsD]) ?_
   simpa[hd] using hK M hM
 | succ k ih=>
   intro m M hk ha hb hM K hK
   have hn3:m.n<3:=by omega
   have hne:¬m.n=3:=by omega
   have hlk:∀(hh:Heap),hh 211=.map (entsD M) sm→∀zero,aLookup hh (true,[.i,.i,.i,.i]) true zero (.map 211 sm) m.v=some (if m∈M then .tup [.int .i64 (dl m),.bool true] else .tup [zero,.bool false]):=fun hh hm zero=>aLookup_K Mrk.keyLaw hm zero
   have hmv:AVal.agg [.int .i64 m.n,.int .u64 m.a,.int .u64 m.b,.int .u64 m.c]=m.v:=rfl
   have hdl:dl m=dlF (k+1) m:=by unfold dl;rw[show 3 - m.n=k+1 by omega]
   have hs7 :(7:Nat).testBit m.n=true:=by rcases (show m.n=0∨m.n=1∨m.n=2 by omega) with e|e|e<;>rw[e]<;>decide
   refine gang_gangs_deals_1.e 0 (by simp) ?_
   simp[mD,hne,show ¬(m.n:Int)=3 by omega]
   intro s9
   refine PCallK.intro (v:=.bool true) (PInv.func (by simpa[hs7] using gang_has_ok (s:=7) (n:=m.n) (by omega) hn3)) ?_
   simp
   rw[hmv,hlk _ (by simp[rowsD])]
   by_cases hmM:m∈M
   ·simp[hmM]
    refine RetV.view (rowsD sm so M) (by simp[rowsD]) ?_
    simpa[hdl] using hK M hM
   simp[hmM]
   have hw:=gang_with_ok ha hn3
   have hw':=gang_with_ok hb hn3
   have on:∀m':Mrk,m'.n=m.n+1→m'.a<8→m'.b<8→∀(M':List Mrk),M'.Nodup→∀K':AEnd→Heap→Prop,(∀M',M'.Nodup→K' (.ret (.int .i64 (dlF k m'))) (hpV (rowsD sm so M')))→
    AInvoke Pg (onD sm so) [.int .i64 m'.n,mD m'] (hpV (rowsD sm so M')) K':=fun m' h1 h2 h3 M' hM' K' hK'=>AInvoke.func (by simpa using ih m' M' (by omega) h2 h3 hM' K' hK')
   have d1:=dlF_ok k ⟨m.n+1,wth m.a m.n,m.b,m.c⟩
   have d2:=dlF_ok k ⟨m.n+1,m.a,wth m.b m.n,m.c⟩
   refine Lp.rounds 3 (LpI.round fun J hJ=>?_)
   simp
   refine PCallK.intro (v:=.bool true) (PInv.func (by simpa using gang_has_ok (s:=3) (n:=0) (by omega) (by omega))) ?_
   simp
   intro s18
   refine PCallK.intro (PInv.func hw) ?_
   simp[rowsD]
   refine ⟨by unfold Fits;omega,?_⟩
   refine FCall.cps (σ:={M':List Mrk // M'.Nodup}) (rowsD sm so M) (fun _=>.int .i64 (dlF k ⟨m.n+1,wth m.a m.n,m.b,m.c⟩)) (fun M'=>rowsD sm so M'.1) (fun _=>True)
    (fun K' hK'=>by simpa[mD] using on ⟨m.n+1,wth m.a m.n,m.b,m.c⟩ rfl (wth_lt ha hn3) hb M hM K' fun M' hM'=>hK' ⟨M',hM'⟩ trivial) (by simp[rowsD]) (fun _=>rfl) (by simp) (fun M1 _=>⟨by simp[rowsD],?_⟩)
   obtain ⟨M1,hM1⟩:=M1
   simp[rowsD]
   refine ⟨by simp[Fits],hJ.go (LpI.round fun J hJ=>?_)⟩
   simp
   refine PCallK.intro (v:=.bool true) (PInv.func (by simpa[show (3:Nat).testBit 1=true by decide] using gang_has_ok (s:=3) (n:=1) (by omega) (by omega))) ?_
   simp
   intro q18
   refine PCallK.intro (PInv.func hw') ?_
   simp
   refine ⟨by unfold Fits;omega,?_⟩
   refine FCall.cps (σ:={M':List Mrk // M'.Nodup}) (rowsD sm so M1) (fun _=>.int .i64 (dlF k ⟨m.n+1,m.a,wth m.b m.n,m.c⟩)) (fun M'=>rowsD sm so M'.1) (fun _=>True)
    (fun K' hK'=>by simpa[mD] using on ⟨m.n+1,m.a,wth m.b m.n,m.c⟩ rfl ha (wth_lt hb hn3) M1 hM1 K' fun M' hM'=>hK' ⟨M',hM'⟩ trivial) (by simp[rowsD]) (fun _=>rfl) (by simp) (fun M2 _=>⟨by simp[rowsD],?_⟩)
   obtain ⟨M2,hM2⟩:=M2
   simp[rowsD]
   refine ⟨by simp[Fits],hJ.go (LpI.round fun J hJ=>?_)⟩
   simp
   refine hJ.exit ?_
   simp
   rw[hmv]
   refine osat_iff.2 ⟨_,mapU_K Mrk.keyLaw (k:=m) (M:=M2) (f:=fun m=>.int .i64 (dl m)) (f':=fun m=>.int .i64 (dl m)) (m:=211) (s:=sm) hM2 ?_ (by simp) (by simp) ?_ (fun _ _ _=>rfl),?_⟩
   ·simp[entsD]
   ·simp[hdl,dlF]
   simp
   refine RetV.view (rowsD sm so (insK m M2)) (by simp[rowsD,entsD]) ?_
   simpa[dlF] using hK _ (nodup_insK hM2)
end Go.Cw
end
section
namespace Go.Cw
open Go Go.Proofs
theorem dl_0 : dlF 3 ⟨0,0,0,0⟩ = 9:=by decide +kernel
theorem dl_1 : dlF 2 ⟨1,1,0,0⟩ = 9:=by decide +kernel
theorem dl_2 : dlF 1 ⟨2,3,0,0⟩ = 9:=by decide +kernel
theorem dl_3 : dlF 0 ⟨3,7,0,0⟩≠9:=by decide +kernel
theorem dl_4 : dlF 0 ⟨3,3,4,0⟩ = 9:=by decide +kernel
@[simp] theorem wth_00 : wth 0 0=1:=by decide
@[simp] theorem wth_11 : wth 1 1=3:=by decide
@[simp] theorem wth_32 : wth 3 2=7:=by decide
@[simp] theorem wth_02 : wth 0 2=4:=by decide
@[simp] theorem acells_onD (sm so:Nat):acells (onD sm so)=some [onD sm so]:=rfl
theorem Sl.toVq {n:Nat} {K:KT} {tm:TM} {df:DF} {h:Heap} {df₀:DF} (l:List (Nat×AVal)) (k:List (Nat×AObj)) (en:Sl n (fun tm' df' h'=>df'=df₀∧Vw l tm'∧Hw k h') tm df h) (hK:K (tmV l) df₀ (hpV k)):Sl n K tm df h:=by
 obtain ⟨tm₁,df₁,h₁,a,rfl,hv,hh⟩:=en
 exact ⟨_,_,_,a.trans (SLe.view hv hh),hK⟩
section
variable {F n₀:Nat} {inr:Bool} {keep:List Nat} {t:Option Nat} {K:KT} {Q:Post} {tm:TM} {df:DF} {hp:Heap}
theorem FCall.deals (h6:hp 210=.dead) (h7:hp 211=.dead) (k:∀sm so,K (putD tm t (onD sm so)) df (updL hp (rowsD sm so []))) :
 FCall ⟨Pg,F,n₀,inr,keep⟩ (.func (.func fn_gang_gangs_deals) [] []) [gpv08,.int .u64 7,.int .u64 3,tabsV] [] [] t K Q tm df hp:=by
 refine FCall.cps [(210,.dead),(211,.dead)] (fun x:Nat×Nat=>onD x.1 x.2) (fun x=>rowsD x.1 x.2 []) (fun _=>True) (fun K' hK'=>AInvoke.func ?_) ⟨h6,h7,trivial⟩ (fun _=>rfl) trivial (fun x _=>⟨trivial,k x.1 x.2⟩)
 rw[dead2]
 exact gang_deals_ok K' fun sm so=>hK' (sm,so) trivial
theorem FCall.onD {m:Mrk} {j:Nat} (hj:m.n+j=3) (ha:m.a<8) (hb:m.b<8) {sm so:Nat} {M:List Mrk} (hM:M.Nodup) (hw:Hw (rowsD sm so M) hp)
 (k:∀M',M'.Nodup→K (putD tm t (.int .i64 (dlF j m))) df (updL hp (rowsD sm so M'))):FCall ⟨Pg,F,n₀,inr,keep⟩ (Cw.onD sm so) [.int .i64 m.n,.agg [.int .u64 m.a,.int .u64 m.b,.int .u64 m.c]] [] [] t K Q tm df hp:=by
 refine FCall.cps (rowsD sm so M) (fun _ : {M':List Mrk // M'.Nodup}=>.int .i64 (dlF j m)) (fun M'=>rowsD sm so M'.1) (fun _=>True) (fun K' hK'=>?_) hw (fun _=>rfl) trivial (fun M' _=>⟨trivial,k M'.1 M'.2⟩)
 refine AInvoke.func ?_
 simpa[mD] using gang_on_ok sm so j m M hj ha hb hM K' fun M' hM'=>hK' ⟨M',hM'⟩ trivial
end
theorem gang_Deal_ok : APure Pg fn_gang_Deal [gangs08] (.tup [.int .i64 9,.vl 3 [.int .i64 0,.int .i64 0,.int .i64 1],.int .i64 0]):=by
 have g:=gang_open08_ok
 refine gang_Deal.e.p (by simp) ?_
 simp[gangs08,Pit.c,pit08]
 intro s1 s4
 refine FCall.pure (v:=gpv08) (PInv.func (by simpa[gangs08,Pit.c,pit08] using g)) ?_
 simp
 refine PCallK.intro (PInv.func gang_every3) ?_
 simp
 refine PCallK.intro (PInv.func gang_every2) ?_
 simp
 refine FCall.pure (PInv.func gang_tables_ok) ?_
 simp
 refine FCall.deals (by simp) (by simp) fun sm so=>?_
 simp[rowsD]
 intro s7
 refine FCall.onD (m:=⟨0,0,0,0⟩) (j:=3) rfl (by simp) (by simp) (M:=[]) (by simp) (by simp[rowsD]) fun M0 hM0=>?_
 rw[dl_0]
 simp[rowsD]
 refine FCall.pure (PInv.func (gang_ask_ok _)) ?_
 simp
 refine Lp.rounds 4 (LpI.round fun J hJ=>?_)
 simp
 refine Lp.rounds 3 (LpI.round fun J2 hJ2=>?_)
 simp
 intro s12
 refine PCallK.intro (PInv.func (gang_with_ok (s:=0) (n:=0) (by omega) (by omega))) ?_
 simp[Fits]
 refine FCall.onD (m:=⟨1,1,0,0⟩) (j:=2) rfl (by simp) (by simp) (M:=M0) hM0 (by simp[rowsD]) fun M1 hM1=>?_
 rw[dl_1]
 simp[rowsD]
 intro s74 s75
 refine hJ2.exit ?_
 simp
 refine ⟨by simp[Fits],hJ.goS (Sl.toVq [(4,.ptr 4 0 (s4+1)),(5,gpv08),(6,onD sm so),(7,.ptr 7 0 (s7+1)),(8,.int .i64 9),(9,.sl 75 0 (s75+1) 1 (.gr 1)),(44,.int .i64 3),(45,.int .i64 1)]
  [(4,.row [.int .i64 0] (s4+1)),(7,.row [.int .u64 1,.int .u64 0,.int .u64 0] (s7+1)),(75,.row [.int .i64 0] (s75+1)),(210,.row [onD sm so] so),(211,.map (entsD M1) sm)] (Sl.refl ⟨rfl,by simp,by simp⟩) (LpI.round fun J hJ=>?_))⟩
 simp
 refine Lp.rounds 3 (LpI.round fun J2 hJ2=>?_)
 simp
 intro u12
 refine PCallK.intro (PInv.func (gang_with_ok (s:=1) (n:=1) (by omega) (by omega))) ?_
 simp[Fits]
 refine FCall.onD (m:=⟨2,3,0,0⟩) (j:=1) rfl (by simp) (by simp) (M:=M1) hM1 (by simp[rowsD]) fun M2 hM2=>?_
 rw[dl_2]
 simp[rowsD]
 intro u74 u75
 refine hJ2.exit ?_
 simp
 refine ⟨by simp[Fits],hJ.goS (Sl.toVq [(4,.ptr 4 0 (s4+1)),(5,gpv08),(6,onD sm so),(7,.ptr 7 0 (s7+1)),(8,.int .i64 9),(9,.sl 75 0 (u75+1) 2 (.gr 1)),(44,.int .i64 3),(45,.int .i64 2)]
  [(4,.row [.int .i64 0] (s4+1)),(7,.row [.int .u64 3,.int .u64 0,.int .u64 0] (s7+1)),(75,.row [.int .i64 0,.int .i64 0] (u75+1)),(210,.row [onD sm so] so),(211,.map (entsD M2) sm)] (Sl.refl ⟨rfl,by simp,by simp⟩) (LpI.round fun J hJ=>?_))⟩
 simp
 refine Lp.rounds 3 (LpI.round fun J2 hJ2=>?_)
 simp
 intro v12
 refine PCallK.intro (PInv.func (gang_with_ok (s:=3) (n:=2) (by omega) (by omega))) ?_
 simp[Fits]
 refine FCall.onD (m:=⟨3,7,0,0⟩) (j:=0) rfl (by simp) (by simp) (M:=M2) hM2 (by simp[rowsD]) fun M3 hM3=>?_
 simp[rowsD,dl_3]
 refine ⟨by simp[Fits],hJ2.go (LpI.round fun J2 hJ2=>?_)⟩
 simp
 intro w12
 refine PCallK.intro (PInv.func (gang_with_ok (s:=0) (n:=2) (by omega) (by omega))) ?_
 simp[Fits]
 refine FCall.onD (m:=⟨3,3,4,0⟩) (j:=0) rfl (by simp) (by simp) (M:=M3) hM3 (by simp[rowsD]) fun M4 hM4=>?_
 rw[dl_4]
 simp[rowsD]
 intro w74 w75
 refine hJ2.exit ?_
 simp
 refine ⟨by simp[Fits],hJ.go (LpI.round fun J hJ=>?_)⟩
 simp
 refine hJ.exit ?_
 simp
 refine RetA.ret rfl (gang_answer_ok ?_)
 simp
 refine RetV.frz 75 (cells:=ints [0,0,1]) (s:=w75+1) (by simp) ?_
 simp
 exact RetV.wk (nilH_le _) rfl
end Go.Cw
end
section
namespace Go.Cw
open Go Go.Proofs
theorem top_awake08_ok : APure Pg fn_top_awake08 [] (.bool true):=by
 have hb:=pitch_Best_ok pit08_valid
 rw[pit08_bestV] at hb
 have hb':PInv Pg (.func (.func fn_pitch_Best) [] []) [.agg pit08.c] (.tup [.int .i64 6,.vl 2 [.int .i64 0,.int .i64 3,.int .i64 1,.int .i64 0],.int .i64 0]):=PInv.func hb
 have gi:=ref08_Ints_ok [0,0,1] (by simp)
 refine top_awake08.e.p (by simp) ?_
 simp
 refine PCallK.intro (PInv.func (first:=[]) (cap:=[]) (args:=[]) top_gangs08_ok) ?_
 simp
 refine PCallK.intro (PInv.func gang_Deal_ok) ?_
 simp
 refine PCallK.intro (PInv.func (first:=[]) (cap:=[]) (args:=[]) top_gangs08_ok) ?_
 simp[gangs08]
 refine PCallK.intro hb' ?_
 simp
 intro s24
 refine FCall.frz1 24 (cells:=[.int .i64 0,.int .i64 0,.int .i64 1]) (s:=s24+1) (by simp) (v:=.bool true) (PInv.func (by simpa[L] using gi)) (by simp) ?_
 simp
 exact RetV.wk (nilH_le _) rfl
theorem top_awake12_ok : APure Pg fn_top_awake12 [] (.bool true):=by
 have gi:=ref08_Ints_ok [4,2,1] (by simp)
 refine top_awake12.e.p (by simp) ?_
 simp
 intro s7
 refine PCallK.intro (PInv.func (top_span04_ok 0 1)) ?_
 simp
 refine PCallK.intro (PInv.func (top_span04_ok 4 4)) ?_
 simp
 refine PCallK.intro (PInv.func (top_span04_ok 5 5)) ?_
 simp
 intro s12 s1
 refine FCall.frz2 7 12 (cells:=[.int .i64 4,.int .i64 5]) (s:=s7+1) (by simp) (cells':=wgT) (s':=s12+1) (by simp[wgT]) (by simp) (v:=.tup [.agg [.int .i64 15,.int .i64 20],.int .i64 0]) (PInv.func (by simpa[wg12] using wage_Due12_ok)) (by simp) ?_
 simp
 intro s2 s20
 refine FCall.frz1 20 (cells:=[.int .i64 3,.int .i64 2,.int .i64 1]) (s:=s20+1) (by simp) (v:=.tup [iv [4,2,1],.int .i64 0]) (PInv.func (by simpa using wage_Share_ok)) (by simp) ?_
 simp
 refine PCallK.intro (PInv.func (top_span04_ok 15 20)) ?_
 simp
 intro s33
 refine FCall.frz1 33 (cells:=[.int .i64 4,.int .i64 2,.int .i64 1]) (s:=s33+1) (by simp) (v:=.bool true) (PInv.func (by simpa[L,iv] using gi)) (by simp) ?_
 simp
 refine PCallK.intro (PInv.func (first:=[]) (cap:=[]) (args:=[]) top_awake08_ok) ?_
 simp
 exact RetV.wk (nilH_le _) rfl
theorem top_awake_ok : APure Pg fn_top_awake14 [] (.bool true):=top_awake14_ok top_awake12_ok
end Go.Cw
end
