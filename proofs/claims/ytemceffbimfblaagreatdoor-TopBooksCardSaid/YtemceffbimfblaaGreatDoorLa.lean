/-
  What the functions of layer 1 compute.
-/
import Derived.Test.YtemceffbimfblaaGreatDoorAf
import Derived.Test.YtemceffbimfblaaGreatDoorGa
import Derived.Test.YtemceffbimfblaaGreatDoorGb
set_option linter.unusedSectionVars false
set_option linter.unusedSimpArgs false
set_option linter.unusedVariables false
set_option maxRecDepth 100000
section
namespace Go.Cw
open Go
structure Sm where
 h:Int
 s:Int
 m:Int
structure Sd where
 d:Int
 l:Int
 lo:Int
 hi:Int
def Sm.c (a:Sm):List AVal:=[.int .i64 a.h,.int .i64 a.s,.int .i64 a.m]
def Sd.c (a:Sd):List AVal:=[.int .i64 a.d,.int .i64 a.l,.int .i64 a.lo,.int .i64 a.hi]
theorem Sm.w (a:Sm):a.c.length=3:=rfl
theorem Sd.w (a:Sd):a.c.length=4:=rfl
def sms (l:List Sm):List AVal:=fl Sm.c l
def sds (l:List Sd):List AVal:=fl Sd.c l
section
variable (l : List Sm)
@[simp] theorem sms_length :(sms l).length=l.length*3:=fl_len Sm.w l
@[simp] theorem sms_drop (k:Nat) :(sms l).drop (k*3)=sms (l.drop k):=fl_drop Sm.w l k
@[simp] theorem sms_take3 :(sms l).take 3 =(l.head?.map fun a=>[.int .i64 a.h,.int .i64 a.s,.int .i64 a.m]).getD []:=fl_take Sm.w l
end
section
variable (l : List Sd)
@[simp] theorem sds_length :(sds l).length=l.length*4:=fl_len Sd.w l
@[simp] theorem sds_drop (k:Nat) :(sds l).drop (k*4)=sds (l.drop k):=fl_drop Sd.w l k
@[simp] theorem sds_take4 :(sds l).take 4 =(l.head?.map fun a=>[.int .i64 a.d,.int .i64 a.l,.int .i64 a.lo,.int .i64 a.hi]).getD []:=fl_take Sd.w l
end
def LS (l:List Sm):AVal:=.vl l.length (sms l)
def LD (l:List Sd):AVal:=.vl l.length (sds l)
@[simp] theorem aLen_LS (l:List Sm):aLen (LS l)=some (.int .i64 l.length):=(rfl)
@[simp] theorem aLen_LD (l:List Sd):aLen (LD l)=some (.int .i64 l.length):=(rfl)
@[simp] theorem satIxS_LS (l:List Sm) (k:IntKind) (n:Int) (K:AVal→Prop):satIxS 3 (LS l) (.int k n) K =((0≤n∧n<l.length)∧K (.pv (sms (l.drop n.toNat)))):=by simp[LS]
@[simp] theorem satIxS_LD (l:List Sd) (k:IntKind) (n:Int) (K:AVal→Prop):satIxS 4 (LD l) (.int k n) K =((0≤n∧n<l.length)∧K (.pv (sds (l.drop n.toNat)))):=by simp[LD]
structure Hul where
 seams:List Sm
 snds:List Sd
def sumN : Nat→(Nat→Int)→Int
 | 0,_=>0
 | n+1,c=>sumN n c+c n
theorem sumN_congr {n:Nat} {c c':Nat→Int} (h:∀j,j<n→c j=c' j):sumN n c=sumN n c':=by
 induction n with
 | zero=>rfl
 | succ n ih=>simp only[sumN];rw[ih fun j hj=>h j (by omega),h n (by omega)]
theorem sumN_nonneg {n:Nat} {c:Nat→Int} (h:∀j,j<n→0≤c j):0≤sumN n c:=by
 induction n with
 | zero=>exact Int.le_refl _
 | succ n ih=>simp only[sumN];have:=ih fun j hj=>h j (by omega);have:=h n (by omega);omega
theorem sumN_le {n:Nat} {c:Nat→Int} {m:Int} (h:∀j,j<n→c j≤m):sumN n c≤n*m:=by
 induction n with
 | zero=>simp[sumN]
 | succ n ih=>
   simp only[sumN]
   have:=ih fun j hj=>h j (by omega)
   have:=h n (by omega)
   rw[show ((n+1:Nat):Int)*m=n*m+m by rw[Int.natCast_add,Int.add_mul];simp]
   omega
theorem sumN_mono {n:Nat} {c c':Nat→Int} (h:∀j,j<n→c j≤c' j):sumN n c≤sumN n c':=by
 induction n with
 | zero=>exact Int.le_refl _
 | succ n ih=>simp only[sumN];have:=ih fun j hj=>h j (by omega);have:=h n (by omega);omega
def inS (s:Int) (i:Nat):Bool:=decide (s / 2^i % 2=1)
theorem inS_bits (p:Nat→Bool) {n i:Nat} (hi:i<n):inS (bits p n) i=p i:=by
 unfold inS
 rw[bits_at p n i hi]
 cases p i<;>rfl
def allT : List Int→List (List Int)
 | []=>[[]]
 | m::ms=>(List.range (m+1).toNat).flatMap fun (k:Nat)=>(allT ms).map ((k:Int) :: ·)
theorem mem_allT : ∀{ms t:List Int},t∈allT ms↔t.length=ms.length∧∀i,i<ms.length→0≤ofL t i∧ofL t i≤ofL ms i
 | [],t=>by simp[allT]
 | m::ms,t=>by
   simp only[allT,List.mem_flatMap,List.mem_range,List.mem_map]
   constructor
   ·rintro ⟨k,hk,r,hr,rfl⟩
    obtain ⟨h1,h2⟩:=mem_allT.1 hr
    refine ⟨by simp[h1],fun i hi=>?_⟩
    cases i with
    | zero=>simp[ofL];omega
    | succ i=>simpa[ofL] using h2 i (by simpa using hi)
   ·rintro ⟨h1,h2⟩
    cases t with
    | nil=>simp at h1
    | cons x r=>
      have h0:=h2 0 (by simp)
      simp[ofL] at h0
      refine ⟨x.toNat,by omega,r,mem_allT.2 ⟨by simpa using h1,fun i hi=>by simpa[ofL] using h2 (i+1) (by simpa using hi)⟩,?_⟩
      rw[Int.toNat_of_nonneg h0.1]
namespace Hul
variable (h : Hul)
def cells : List AVal:=[LS h.seams,LD h.snds]
def v : AVal:=.agg [LS h.seams,LD h.snds]
@[simp] theorem v_agg : h.v=.agg [LS h.seams,LD h.snds]:=(rfl)
def n : Nat:=h.seams.length
def k : Nat:=h.snds.length
structure Small : Prop where
 s:h.seams.length≤40
 d:h.snds.length≤40
def At (d l:Int):Prop:=(0≤d∧d≤12)∧-3≤l∧l≤3
instance (d l:Int):Decidable (At d l):=inferInstanceAs (Decidable (_∧_))
def OkS (a:Sm):Prop:=(0≤a.h∧a.h≤12)∧(-1≤a.s∧a.s≤1)∧0≤a.m∧a.m≤4
def OkD (a:Sd):Prop:=At a.d a.l∧0≤a.lo∧a.lo≤a.hi∧a.hi≤24
instance (a : Sm):Decidable (OkS a):=inferInstanceAs (Decidable (_∧_))
instance (a : Sd):Decidable (OkD a):=inferInstanceAs (Decidable (_∧_))
structure Valid : Prop where
 n1:1≤h.n
 n6:h.n≤6
 k8:h.k≤8
 sm:∀a∈h.seams,OkS a
 sd:∀a∈h.snds,OkD a
noncomputable instance : Decidable h.Valid:=Classical.propDecidable _
def mosts : List Int:=h.seams.map (·.m)
@[simp] theorem mosts_length : h.mosts.length=h.n:=by simp[mosts,n]
def wetP (d l:Int) (i:Nat):Bool:=match h.seams[i]? with
 | some a=>decide (a.h≤d+a.s*l)
 | none=>false
def wet (d l:Int):Int:=bits (h.wetP d l) h.n
def sumT (t:List Int) (s:Int):Int:=sumN t.length fun i=>if inS s i then ofL t i else 0
def sndB (q:Int) (t:List Int) (j:Nat):Bool:=match h.snds[j]? with
 | some a=>!inS q j || decide (a.lo≤sumT t (h.wet a.d a.l)∧sumT t (h.wet a.d a.l)≤a.hi)
 | none=>true
def right (q:Int) (t:List Int):Bool:=(List.range h.k).all (h.sndB q t)
def truths (q:Int):List (List Int):=(allT h.mosts).filter (h.right q)
def every : Int:=2^h.k - 1
def Seam (i:Int):Prop:=0≤i∧i<h.n
instance (i : Int):Decidable (h.Seam i):=inferInstanceAs (Decidable (_∧_))
def Set (s:Int):Prop:=0≤s∧s<2^h.n
instance (s : Int):Decidable (h.Set s):=inferInstanceAs (Decidable (_∧_))
end Hul
end Go.Cw
end
section
namespace Go.Cw
open Go Go.Proofs
theorem ref01_in_ok (n lo hi:Int):APure Pg fn_ref01_in [.int .i64 n,.int .i64 lo,.int .i64 hi] (.bool (decide (lo≤n∧n≤hi))):=by
 refine ref01_in.e.p (by simp) ?_
 by_cases h:lo≤n<;>simp[h]<;>refine RetV.refl ?_<;>simp_all
theorem ref01_At_ok (d l:Int):APure Pg fn_ref01_At [.int .i64 d,.int .i64 l] (.bool (decide (Hul.At d l))):=by
 refine ref01_At.e.p (by simp) ?_
 simp
 refine PCallK.intro (PInv.func (ref01_in_ok _ _ _)) ?_
 by_cases h1:0≤d∧d≤12
 ·simp[h1]
  refine PCallK.intro (PInv.func (ref01_in_ok _ _ _)) ?_
  simp
  exact RetV.refl (by simp[Hul.At,h1])
 ·simp[h1]
  exact RetV.refl (by simp[Hul.At,h1])
def sizeS (s:Int):Int:=sumN 60 fun i=>if inS s i then 1 else 0
theorem sumN_ext {n m:Nat} {c:Nat→Int} (hm:n≤m) (h:∀i,n≤i→c i=0):sumN m c=sumN n c:=by
 induction m with
 | zero=>obtain rfl:n=0:=by omega
         rfl
 | succ m ih=>
   by_cases e:n=m+1
   ·rw[e]
   ·simp only[sumN];rw[ih (by omega),h m (by omega)];omega
end Go.Cw
end
section
namespace Go.Cw
open Go Go.Proofs
def In4 (t:List Int):Prop:=t.length≤60∧∀x∈t,0≤x∧x≤100
theorem In4.at {t:List Int} (h:In4 t) (i:Nat):0≤ofL t i∧ofL t i≤100:=by
 by_cases hi:i<t.length
 ·have:=h.2 t[i] (by simp);rw[ofL_at _ hi] at this;exact this
 ·rw[ofL_none _ (by omega)];omega
theorem Hul.wet_lt (h:Hul) (d l:Int):0≤h.wet d l∧h.wet d l<2^h.n:=bits_lt _ _
theorem Hul.wet62 {h:Hul} (hv:h.Valid) (d l:Int):0≤h.wet d l∧h.wet d l<2^62:=by
 have:=h.wet_lt d l
 have:=two_pow_le (show h.n≤40 by have:=hv.n6;omega)
 have :(2:Int)^40<2^62:=by decide
 omega
theorem ref01_Hull_ok (h:Hul) (hs:h.Small):APure Pg fn_ref01_Hull [h.v] (.bool (decide h.Valid)):=by
 have h40:=hs.s
 have d40:=hs.d
 have vn:∀{p:Prop},(h.Valid→p)→¬p→decide h.Valid=false:=by
  intro p a b;simp;exact fun v=>b (a v)
 have hn:h.seams.length=h.n:=rfl
 have hk:h.snds.length=h.k:=rfl
 refine ref01_Hull.e.p (by simp) ?_
 simp
 intro s
 refine PCallK.intro (PInv.func (ref01_in_ok _ _ _)) ?_
 by_cases h1:¬((1:Int)≤h.seams.length∧(h.seams.length:Int)≤6)
 ·simp[h1]
  exact RetV.refl (by rw[vn (fun v=>(⟨v.n1,v.n6⟩ : 1≤h.n∧h.n≤6)) (by omega)])
 replace h1:=Classical.not_not.1 h1
 by_cases h2:¬(h.snds.length:Int)≤8
 ·simp[h1,Int.not_le.1 h2]
  exact RetV.refl (by rw[vn (fun v=>v.k8) (by omega)])
 replace h2:=Classical.not_not.1 h2
 simp[h1,Int.not_lt.2 h2]
 refine Lp.intro (σ:=Nat) (inv:=fun k=>k≤h.n∧∀j a,j<k→h.seams[j]? = some a→Hul.OkS a) (vw:=fun k=>[(1,.ptr 1 0 (s+1)),(3,.int .i64 k)]) (hp:=fun _=>[(1,.row h.cells (s+1))]) (ms:=fun k=>h.n - k) 0 (by simp) (by simp) (by simp[Hul.cells]) ?_
 rintro k ⟨hkn,inv⟩ J hJ
 by_cases hkc:k<h.n
 ·have hkl:k<h.seams.length:=hkc
  obtain ⟨a,hak⟩ : ∃a,h.seams[k]=a:=⟨_,rfl⟩
  have bad:¬Hul.OkS a→decide h.Valid=false:=vn fun v=>v.sm a (by rw[←hak];simp)
  unfold Hul.OkS at bad
  simp[Hul.cells,hkl,hak]
  refine ⟨by omega,fun s1=>PCallK.intro (PInv.func (ref01_in_ok _ _ _)) ?_⟩
  by_cases q1:¬(0≤a.h∧a.h≤12)
  ·simp[q1]
   refine hJ.ret ?_
   simp
   exact RetV.refl (by rw[bad (fun x=>q1 x.1)])
  replace q1:=Classical.not_not.1 q1
  simp[q1]
  refine PCallK.intro (PInv.func (ref01_in_ok _ _ _)) ?_
  by_cases q2:¬(-1≤a.s∧a.s≤1)
  ·simp[q2]
   refine hJ.ret ?_
   simp
   exact RetV.refl (by rw[bad (fun x=>q2 x.2.1)])
  replace q2:=Classical.not_not.1 q2
  simp[q2]
  refine PCallK.intro (PInv.func (ref01_in_ok _ _ _)) ?_
  by_cases q3:¬(0≤a.m∧a.m≤4)
  ·simp[q3]
   refine hJ.ret ?_
   simp
   exact RetV.refl (by rw[bad (fun x=>q3 x.2.2)])
  replace q3:=Classical.not_not.1 q3
  simp[q3]
  (repeat first|refine And.intro (by omega) ?_|refine And.intro (Fits.of (by omega) (by omega)) ?_)
  refine hJ.next (k+1) ⟨by omega,fun j b hj hb=>?_⟩ (by omega) (by simp) (by simp[Hul.cells])
  by_cases e:j=k
  ·subst e
   obtain rfl:a=b:=by simpa[hkl,hak] using hb
   exact ⟨q1,q2,q3⟩
  ·exact inv j b (by omega) hb
 obtain rfl:k=h.n:=by omega
 simp[Hul.cells,hn]
 refine hJ.exit ?_
 simp
 refine Lp.intro (σ:=Nat) (inv:=fun k=>k≤h.k∧∀j a,j<k→h.snds[j]? = some a→Hul.OkD a) (vw:=fun k=>[(1,.ptr 1 0 (s+1)),(5,.int .i64 k)]) (hp:=fun _=>[(1,.row h.cells (s+1))]) (ms:=fun k=>h.k - k) 0 (by simp) (by simp) (by simp[Hul.cells]) ?_
 rintro k ⟨hkn2,inv2⟩ J2 hJ2
 by_cases hkc:k<h.k
 ·have hkl:k<h.snds.length:=hkc
  obtain ⟨a,hak⟩ : ∃a,h.snds[k]=a:=⟨_,rfl⟩
  have bad:¬Hul.OkD a→decide h.Valid=false:=vn fun v=>v.sd a (by rw[←hak];simp)
  unfold Hul.OkD at bad
  simp[Hul.cells,hkl,hak]
  refine ⟨by omega,fun s1=>PCallK.intro (PInv.func (ref01_At_ok _ _)) ?_⟩
  by_cases q1:¬Hul.At a.d a.l
  ·simp[q1]
   refine hJ2.ret ?_
   simp
   exact RetV.refl (by rw[bad (fun x=>q1 x.1)])
  replace q1:=Classical.not_not.1 q1
  by_cases q2:a.lo<0
  ·simp[q1,q2]
   refine hJ2.ret ?_
   simp
   exact RetV.refl (by rw[bad (fun x=>by omega)])
  by_cases q3:a.hi<a.lo
  ·simp[q1,q2,q3]
   refine hJ2.ret ?_
   simp
   exact RetV.refl (by rw[bad (fun x=>by omega)])
  by_cases q4:24<a.hi
  ·simp[q1,q2,q3,q4]
   refine hJ2.ret ?_
   simp
   exact RetV.refl (by rw[bad (fun x=>by omega)])
  simp[q1,q2,q3,q4]
  (repeat first|refine And.intro (by omega) ?_|refine And.intro (Fits.of (by omega) (by omega)) ?_)
  refine hJ2.next (k+1) ⟨by omega,fun j b hj hb=>?_⟩ (by omega) (by simp) (by simp[Hul.cells])
  by_cases e:j=k
  ·subst e
   obtain rfl:a=b:=by simpa[hkl,hak] using hb
   exact ⟨q1,by omega,by omega,by omega⟩
  ·exact inv2 j b (by omega) hb
 obtain rfl:k=h.k:=by omega
 simp[Hul.cells,hk]
 refine hJ2.exit ?_
 simp
 refine RetV.refl ?_
 have:h.Valid:=⟨by omega,by omega,by omega,fun a ha=>by
  obtain ⟨j,hj,e⟩:=List.getElem_of_mem ha
  exact inv j a hj (by rw[←e];simp),fun a ha=>by
  obtain ⟨j,hj,e⟩:=List.getElem_of_mem ha
  exact inv2 j a hj (by rw[←e];simp)⟩
 simp[this]
end Go.Cw
end
section
namespace Go.Cw
open Go Go.Proofs
theorem allT_len : ∀(ms:List Int),(∀m∈ms,m≤4)→(allT ms).length≤5^ms.length
 | [],_=>by simp[allT]
 | m::ms,h=>by
   have h1:=h m (by simp)
   have ih:=allT_len ms fun x hx=>h x (by simp[hx])
   simp only[allT,List.length_flatMap,List.length_cons,List.length_map]
   have key:∀n:Nat,((List.range n).map fun _:Nat=>(allT ms).length).sum=n*(allT ms).length:=by
    intro n
    induction n with
    | zero=>simp
    | succ n ihn=>rw[List.range_succ,List.map_append,List.sum_append_nat,ihn,Nat.succ_mul];simp
   rw[key,Nat.pow_succ,Nat.mul_comm]
   exact Nat.mul_le_mul ih (by omega)
namespace Hul
def ext (h:Hul) (q:Int) (b:List Int):List (List Int):=((allT (h.mosts.drop b.length)).map (b++·)).filter (h.right q)
theorem truths_ext (h:Hul) (q:Int):h.truths q=h.ext q []:=by
 unfold truths ext
 simp
theorem ext_end {h:Hul} {q:Int} {b:List Int} (hb:b.length=h.n):h.ext q b=if h.right q b then [b] else []:=by
 unfold ext
 rw[List.drop_eq_nil_of_le (by rw[mosts_length];omega)]
 cases hr:h.right q b<;>simp[allT,List.filter,hr]
theorem ext_step {h:Hul} {q:Int} {b:List Int} {m:Int} (hb:h.mosts[b.length]? = some m):h.ext q b =(List.range (m+1).toNat).flatMap fun (k:Nat)=>h.ext q (b++[(k:Int)]):=by
 obtain ⟨hlt,e⟩:=List.getElem?_eq_some_iff.1 hb
 unfold ext
 rw[List.drop_eq_getElem_cons hlt,e]
 simp only[allT,List.map_flatMap,List.filter_flatMap]
 refine congrArg (fun f=>List.flatMap f (List.range (m+1).toNat)) (funext fun k=>?_)
 rw[List.map_map,List.length_append,List.length_singleton]
 congr 1
 refine List.map_congr_left fun t _=>?_
 simp
theorem Valid.most {h:Hul} (hv:h.Valid) {i:Nat} {m:Int} (hm:h.mosts[i]? = some m):0≤m∧m≤4:=by
 unfold mosts at hm
 rw[List.getElem?_map] at hm
 cases hs:h.seams[i]? with
 | none=>rw[hs] at hm;simp at hm
 | some a=>
   rw[hs] at hm
   obtain rfl:a.m=m:=by simpa using hm
   exact (hv.sm a (List.mem_of_getElem? hs)).2.2
theorem Valid.ext_len {h:Hul} (hv:h.Valid) (q:Int) (b:List Int) :(h.ext q b).length≤15625:=by
 unfold ext
 refine Nat.le_trans (List.length_filter_le _ _) ?_
 rw[List.length_map]
 refine Nat.le_trans (allT_len _ fun m hm=>?_) ?_
 ·obtain ⟨i,hi⟩:=List.mem_iff_getElem?.1 (List.mem_of_mem_drop hm)
  exact (hv.most hi).2
 ·refine Nat.le_trans (Nat.pow_le_pow_right (by omega) (show (h.mosts.drop b.length).length≤6 by have:=hv.n6;rw[List.length_drop,mosts_length];omega)) (by decide)
end Hul
def Hul.Pre (h:Hul) (b:List Int):Prop:=b.length≤h.n∧∀x∈b,0≤x∧x≤4
theorem Hul.Pre.in4 {h:Hul} (hv:h.Valid) {b:List Int} (hb:h.Pre b):In4 b:=⟨by have:=hv.n6;have:=hb.1;omega,fun x hx=>by have:=hb.2 x hx;omega⟩
theorem Hul.every62 {h:Hul} (hv:h.Valid):0≤h.every∧h.every<2^62:=by
 unfold Hul.every
 have h0:=two_pow_pos h.k
 have h1:=two_pow_le (show h.k≤40 by have:=hv.k8;omega)
 have :(2:Int)^40<2^62:=by decide
 omega
theorem Hul.Pre.nil (h:Hul):h.Pre []:=⟨by simp,by simp⟩
section
variable {F n₀:Nat} {inr:Bool} {keep:List Nat} {t:Option Nat} {K:KT} {Q:Post} {tm:TM} {df:DF} {hp:Heap}
end
end Go.Cw
end
section
namespace Go.Cw
open Go Go.Proofs
def Hul.clashB (h:Hul):Nat→Int
 | 0=>h.every
 | k+1=>if sizeS k<sizeS (h.clashB k)∧h.truths k=[] then k else h.clashB k
noncomputable def Hul.clashV (h:Hul):AVal:=if h.Valid then (if h.truths h.every=[] then .tup [.int .i64 (h.clashB (2^h.k)),.int .i64 0] else .tup [.int .i64 0,.int .i64 4]) else .tup [.int .i64 0,.int .i64 1]
def leaksT (t:List Int):Int:=bits (fun i=>decide (0<ofL t i)) t.length
end Go.Cw
end
section
namespace Go.Cw
open Go Go.Proofs
theorem leak_within_ok (n lo hi:Int):APure Pg fn_leak_within [.int .i64 n,.int .i64 lo,.int .i64 hi] (.bool (decide (lo≤n∧n≤hi))):=by
 refine leak_within.e.p (by simp) ?_
 by_cases h:lo≤n<;>simp[h]<;>refine RetV.refl ?_<;>simp_all
def refV (e:Int):AVal:=.iface 215 (.agg [.int .i64 e])
theorem leak_want_ok (e:Int):APure Pg fn_leak_want [.bool true,.int .i64 e] (.tup []):=by
 refine leak_want.e.p (by simp) ?_
 simp
 exact RetV.refl rfl
theorem leak_want_pan (e:Int):APan Pg fn_leak_want [.bool false,.int .i64 e] (refV e):=by
 refine APan.of_nil (leak_want.e 0 (by simp) ?_)
 simp
 exact ⟨_,HLe.refl _,rfl⟩
theorem leak_said_nil (p:AVal):APure Pg fn_leak_said [.nili,p] (.tup []):=by
 refine leak_said.e.p (by simp) ?_
 simp
 exact RetV.refl rfl
theorem leak_said_ref (e x:Int) (r s:Nat) (K:AEnd→Heap→Prop) (hK:K (.ret (.tup [])) (hpV [(r,.row [.int .i64 e] s)])):ACalls Pg fn_leak_said [refV e,.ptr r 0 s] (hpV [(r,.row [.int .i64 x] s)]) K:=by
 obtain ⟨F,hF⟩ : ∃F,r<F:=⟨r+1,by omega⟩
 have e1:∀k,¬F+k=r:=fun k=>by omega
 have e2:∀k,¬r=F+k:=fun k=>by omega
 refine leak_said.e F (by simp) ?_
 simp[refV,e1,e2]
 intro s1
 exact RetV.view [(r,.row [.int .i64 e] s)] (by simp) hK
theorem leak_flows_ok (l:List Int) (hl:l.length≤100) (hx:∀x∈l,0≤x∧x≤1000000):APure Pg fn_leak_flows [L l] (.int .i64 l.sum):=by
 have hs:∀k,0≤(l.take k).sum∧(l.take k).sum≤k*1000000:=by
  intro k
  induction k with
  | zero=>simp
  | succ k ih=>
    by_cases hk:k<l.length
    ·have:=hx l[k] (by simp)
     rw[←List.take_append_getElem hk,List.sum_append_int]
     simp;omega
    ·rw[List.take_of_length_le (by omega)] at ih ⊢
     omega
 refine leak_flows.e.p (by simp) ?_
 simp
 refine Lp.intro (σ:=Nat) (inv:=fun k=>k≤l.length) (vw:=fun k=>[(2,.int .i64 (l.take k).sum),(5,L l),(6,.int .i64 l.length),(7,.int .i64 k)]) (hp:=fun _=>[]) (ms:=fun k=>l.length - k) 0 (by simp) (by simp) (by simp) ?_
 intro k hk J hJ
 by_cases hkc:k<l.length
 ·have h1:=hs k
  have h2:=hx l[k] (by simp)
  have h3 :(l.take (k+1)).sum =(l.take k).sum+l[k]:=by rw[←List.take_append_getElem hkc,List.sum_append_int];simp
  simp[hkc]
  (repeat first|refine And.intro (by omega) ?_|refine And.intro (Fits.of (by omega) (by omega)) ?_)
  exact hJ.next (k+1) (by omega) (by omega) (by simp[h3]) (by simp)
 ·obtain rfl:k=l.length:=by omega
  simp
  refine hJ.exit ?_
  simp
  exact RetV.refl rfl
theorem leak_set_has_ok (s:Int) (hs:0≤s∧s<2^62) (i:Nat) (hi:i≤60):APure Pg fn_leak_set_has [.int .u64 s,.int .i64 i] (.bool (inS s i)):=by
 have h0:=two_pow_pos i
 have h2:0≤s / 2^i:=Int.ediv_nonneg hs.1 (by omega)
 have h3:s / 2^i≤s:=Int.ediv_le_self _ hs.1
 have h4:=bitU_and1 h2 (by omega)
 refine leak_set_has.e.p (by simp) ?_
 simp[h4]
 exact ⟨by omega,RetV.refl (by simp[inS])⟩
@[reducible] def inf (c:Nat→Int):AVal:=.agg (ints (tab 6 c))
section
variable {F n₀:Nat} {inr:Bool} {keep:List Nat} {t:Option Nat} {K:KT} {Q:Post} {tm:TM} {df:DF} {hp:Heap}
theorem FCall.flows2 {a b:Int} (ha:0≤a∧a≤1000000) (hb:0≤b∧b≤1000000) {r s:Nat} {cap:Cap} (hr:hp r=.row [.int .i64 a,.int .i64 b] s)
 (k:K (putD tm t (.int .i64 (a+b))) df (upd hp r .dead)):FCall ⟨Pg,F,n₀,inr,keep⟩ (.func (.func fn_leak_flows) [] []) [.sl r 0 s 2 cap] [] [] t K Q tm df hp:=by
 have:=PInv.func (first:=[]) (cap:=[]) (args:=[L [a,b]]) (leak_flows_ok [a,b] (by simp) (by simp;omega))
 refine FCall.frz1 r hr (v:=.int .i64 (a+b)) ?_ trivial ⟨trivial,k⟩
 simpa[L] using this
end
theorem leak_inflow_sum_ok (c:Nat→Int) (hc:∀i,i<6→0≤c i∧c i≤100) (s:Int) (hs:0≤s∧s<2^62):APure Pg fn_leak_inflow_sum [inf c,.int .u64 s] (.int .i64 (sumN 6 fun i=>if inS s i then c i else 0)):=by
 have hsum:∀k,k≤6→0≤sumN k (fun i=>if inS s i then c i else 0)∧sumN k (fun i=>if inS s i then c i else 0)≤k*100:=fun k hk=>
  ⟨sumN_nonneg fun j hj=>by have:=hc j (by omega);split<;>omega,sumN_le fun j hj=>by have:=hc j (by omega);split<;>omega⟩
 refine leak_inflow_sum.e.p (by simp) ?_
 simp
 intro s1
 refine Lp.intro (σ:=Nat) (inv:=fun k=>k≤6) (vw:=fun k=>[(1,.int .u64 s),(4,.int .i64 (sumN k fun i=>if inS s i then c i else 0)),(7,inf c),(8,.int .i64 k)]) (hp:=fun _=>[]) (ms:=fun k=>6 - k) 0 (by simp) (by simp[sumN]) (by simp) ?_
 intro k hk J hJ
 by_cases hkc:k<6
 ·have h1:=hsum k hk
  have h2:=hc k hkc
  simp[hkc,show (k:Int)<6 by omega]
  refine PCallK.intro (PInv.func (leak_set_has_ok s hs k (by omega))) ?_
  cases hw:inS s k
  ·simp
   (repeat first|refine And.intro (by omega) ?_|refine And.intro (Fits.of (by omega) (by omega)) ?_)
   exact hJ.next (k+1) (by omega) (by omega) (by simp[sumN,hw]) (by simp)
  ·simp
   intro s2
   refine FCall.flows2 (a:=sumN k fun i=>if inS s i then c i else 0) (b:=c k) (by omega) (by omega) (by simp) ?_
   simp
   (repeat first|refine And.intro (by omega) ?_|refine And.intro (Fits.of (by omega) (by omega)) ?_)
   exact hJ.next (k+1) (by omega) (by omega) (by simp[sumN,hw]) (by simp)
 ·obtain rfl:k=6:=by omega
  simp
  refine hJ.exit ?_
  simp
  exact RetV.refl rfl
theorem leak_inflow_leaks_ok (c:Nat→Int):APure Pg fn_leak_inflow_leaks [inf c] (.int .u64 (bits (fun i=>decide (0<c i)) 6)):=by
 refine leak_inflow_leaks.e.p (by simp) ?_
 simp
 intro s1
 refine Lp.intro (σ:=Nat) (inv:=fun k=>k≤6) (vw:=fun k=>[(2,.int .u64 (bits (fun i=>decide (0<c i)) k)),(5,inf c),(6,.int .i64 k)]) (hp:=fun _=>[]) (ms:=fun k=>6 - k) 0 (by simp) (by simp[bits]) (by simp) ?_
 intro k hk J hJ
 by_cases hkc:k<6
 ·by_cases hw:0<c k
  ·simp[hkc,show (k:Int)<6 by omega,hw,wrapU_pow (show k≤60 by omega),bitsU_add _ k (show k≤60 by omega)]
   (repeat first|refine And.intro (by omega) ?_|refine And.intro (Fits.of (by omega) (by omega)) ?_)
   exact hJ.next (k+1) (by omega) (by omega) (by simp[bits,hw]) (by simp)
  ·simp[hkc,show (k:Int)<6 by omega,hw]
   (repeat first|refine And.intro (by omega) ?_|refine And.intro (Fits.of (by omega) (by omega)) ?_)
   exact hJ.next (k+1) (by omega) (by omega) (by simp[bits,hw]) (by simp)
 ·obtain rfl:k=6:=by omega
  simp
  refine hJ.exit ?_
  simp
  exact RetV.refl rfl
theorem leak_isPlace_ok (d l:Int):APure Pg fn_leak_place_isPlace [.agg [.int .i64 d,.int .i64 l]] (.bool (decide (Hul.At d l))):=by
 refine leak_place_isPlace.e.p (by simp) ?_
 simp
 intro s
 refine PCallK.intro (PInv.func (leak_within_ok _ _ _)) ?_
 by_cases h1:0≤d∧d≤12
 ·simp[h1]
  refine PCallK.intro (PInv.func (leak_within_ok _ _ _)) ?_
  simp
  exact RetV.refl (by simp[Hul.At,h1])
 ·simp[h1]
  exact RetV.refl (by simp[Hul.At,h1])
def leastW (w:Int) (c:Nat→Int) (from':Nat):Int:=sumN 6 fun i=>if inS w i && decide (i<from') then c i else 0
def mostW (w:Int) (ms:List Int) (from' k:Nat):Int:=sumN k fun i=>if inS w i && decide (from'≤i) then ofL ms i else 0
theorem bits_below {n:Nat} (hn:n≤6):bits (fun i=>decide (i<n)) 6=2^n - 1:=by
 match n,hn with
 | 0,_=>rfl
 | 1,_=>rfl
 | 2,_=>rfl
 | 3,_=>rfl
 | 4,_=>rfl
 | 5,_=>rfl
 | 6,_=>rfl
theorem leak_wet_ends_ok (w:Int) (hw:0≤w∧w<64) (c:Nat→Int) (hc:∀i,i<6→0≤c i∧c i≤100) (fr:Nat) (hf:fr≤6) (ms:List Int) (hm:ms.length≤6) (hms:∀i,0≤ofL ms i∧ofL ms i≤100) :
 APure Pg fn_leak_wet_ends [.agg [.int .u64 w],inf c,.int .i64 fr,L ms] (.tup [.int .i64 (leastW w c fr),.int .i64 (leastW w c fr+mostW w ms fr ms.length)]):=by
 have hb:=bits_of hw.1 (n:=6) hw.2
 have hand:bitI .and .u64 w (2^fr - 1)=bits (fun i=>inS w i && decide (i<fr)) 6:=by
  rw[←bits_below hf]
  conv=>lhs;rw[←hb]
  exact bitsU_and _ _ (by omega)
 have hbl:=bits_lt (fun i=>inS w i && decide (i<fr)) 6
 have e64 :(2:Int)^6<2^62:=by decide
 have hp:=two_pow_le hf
 have hp0:=two_pow_pos fr
 have hle:sumN 6 (fun i=>if inS (bits (fun i=>inS w i && decide (i<fr)) 6) i then c i else 0)=leastW w c fr:=sumN_congr fun j hj=>by rw[inS_bits _ hj]
 have hlb:0≤leastW w c fr∧leastW w c fr≤600:=⟨sumN_nonneg fun j hj=>by have:=hc j hj;split<;>omega,by
  have:=sumN_le (n:=6) (c:=fun i=>if inS w i && decide (i<fr) then c i else 0) (m:=100) (fun j hj=>by have:=hc j hj;split<;>omega)
  unfold leastW;omega⟩
 have hmb:∀k,k≤6→0≤mostW w ms fr k∧mostW w ms fr k≤600:=fun k hk=>⟨sumN_nonneg fun j hj=>by have:=hms j;split<;>omega,by
  have:=sumN_le (n:=k) (c:=fun i=>if inS w i && decide (fr≤i) then ofL ms i else 0) (m:=100) (fun j hj=>by have:=hms j;split<;>omega)
  unfold mostW;omega⟩
 refine leak_wet_ends.e.p (by simp) ?_
 simp[wrapU_pow (show fr≤60 by omega),wrapU_pow1 (show fr≤60 by omega),hand]
 intro s1 s2
 refine ⟨by omega,PCallK.intro (PInv.func (leak_inflow_sum_ok c hc _ ⟨hbl.1,by omega⟩)) ?_⟩
 rw[hle]
 simp
 have hz:mostW w ms fr (min fr ms.length)=0:=by
  unfold mostW
  have:sumN (min fr ms.length) (fun i=>if inS w i && decide (fr≤i) then ofL ms i else 0)=sumN (min fr ms.length) fun _=>0:=sumN_congr fun j hj=>by
   rw[if_neg];simp;omega
  rw[this]
  have:∀n,sumN n (fun _=>0)=0:=fun n=>by
   induction n with
   | zero=>rfl
   | succ n ih=>simp only[sumN,ih];rfl
  exact this _
 by_cases hfm:ms.length<fr
 ·refine Lp.intro (σ:=Nat) (inv:=fun k=>k=0) (vw:=fun k=>[(4,.ptr 4 0 (s1+1)),(3,L ms),(8,.int .i64 (leastW w c fr)),(9,.int .i64 (leastW w c fr)),(10,.int .i64 fr)]) (hp:=fun _=>[(4,.row [.int .u64 w] (s1+1))]) (ms:=fun k=>0) 0 rfl (by simp) (by simp) ?_
  rintro k rfl J hJ
  simp[show ¬fr<ms.length by omega]
  refine hJ.exit ?_
  simp
  rw[show min fr ms.length=ms.length by omega] at hz
  exact RetV.refl (by simp[hz])
 refine Lp.intro (σ:=Nat) (inv:=fun k=>fr≤k∧k≤ms.length) (vw:=fun k=>[(4,.ptr 4 0 (s1+1)),(3,L ms),(8,.int .i64 (leastW w c fr)),(9,.int .i64 (leastW w c fr+mostW w ms fr k)),(10,.int .i64 k)]) (hp:=fun _=>[(4,.row [.int .u64 w] (s1+1))]) (ms:=fun k=>ms.length - k) fr (by omega) (by rw[show min fr ms.length=fr by omega] at hz;simp[hz]) (by simp) ?_
 rintro k ⟨hk1,hk2⟩ J hJ
 by_cases hkc:k<ms.length
 ·have h1:=hmb k (by omega)
  have h2:=hms k
  have h3:=ofL_at _ hkc
  have h4:mostW w ms fr (k+1)=mostW w ms fr k+if inS w k then ofL ms k else 0:=by
   unfold mostW;simp only[sumN];rw[show decide (fr≤k)=true by simpa using hk1,Bool.and_true]
  simp[hkc]
  refine PCallK.intro (PInv.func (leak_set_has_ok w (by omega) k (by omega))) ?_
  cases hwk:inS w k
  ·simp
   (repeat first|refine And.intro (by omega) ?_|refine And.intro (Fits.of (by omega) (by omega)) ?_)
   exact hJ.next (k+1) (by omega) (by omega) (by simp[h4,hwk]) (by simp)
  ·simp[hkc,h3]
   intro s3
   refine FCall.flows2 (a:=leastW w c fr+mostW w ms fr k) (b:=ofL ms k) (by omega) (by omega) (by simp) ?_
   simp
   (repeat first|refine And.intro (by omega) ?_|refine And.intro (Fits.of (by omega) (by omega)) ?_)
   exact hJ.next (k+1) (by omega) (by omega) (by simp[h4,hwk];omega) (by simp)
 ·obtain rfl:k=ms.length:=by omega
  simp
  refine hJ.exit ?_
  simp
  exact RetV.refl rfl
def canW (w lo hi:Int) (c:Nat→Int) (ms:List Int) (from':Nat):Bool:=decide (leastW w c from'≤hi) && decide (lo≤leastW w c from'+mostW w ms from' ms.length)
theorem leak_sounding_can_ok (w lo hi:Int) (hw:0≤w∧w<64) (c:Nat→Int) (hc:∀i,i<6→0≤c i∧c i≤100) (fr:Nat) (hf:fr≤6) (ms:List Int) (hm:ms.length≤6) (hms:∀i,0≤ofL ms i∧ofL ms i≤100) :
 APure Pg fn_leak_sounding_can [.agg [.int .u64 w,.int .i64 lo,.int .i64 hi],inf c,.int .i64 fr,L ms] (.bool (canW w lo hi c ms fr)):=by
 refine leak_sounding_can.e.p (by simp) ?_
 simp
 intro s1 s2
 refine FCall.pure (PInv.func (leak_wet_ends_ok w hw c hc fr hf ms hm hms)) ?_
 by_cases h1:leastW w c fr≤hi
 ·simp[h1]
  exact RetV.refl (by simp[canW,h1])
 ·simp[h1]
  exact RetV.refl (by simp[canW,h1])
theorem leak_none_can_ok (fr:Nat) (ms:List Int) (c:Nat→Int):APure Pg fn_leak_none_can [.agg [],inf c,.int .i64 fr,L ms] (.bool true):=by
 refine leak_none_can.e.p (by simp) ?_
 simp
 exact fun _ _=>RetV.refl rfl
end Go.Cw
end
section
namespace Go.Cw
open Go Go.Proofs
def Hul.memo (h:Hul) (M:List (List Int)):List (AVal×AVal):=entsI (fun l=>.int .u64 (h.wet (ofL l 0) (ofL l 1))) M
@[reducible] def Hul.H (h:Hul) (m s:Nat):AVal:=.pv [LS h.seams,LD h.snds,L h.mosts,.map m s]
theorem leak_hull_wet_ok (h:Hul) (hv:h.Valid) (d l:Int) (ha:Hul.At d l) (m s:Nat) (M:List (List Int)) (hM:∀l∈M,l.length=2)
 (K:AEnd→Heap→Prop) (hK:∀M',(∀l∈M',l.length=2)→K (.ret (.int .u64 (h.wet d l))) (hpV [(m,.map (h.memo M') s)])):ACalls Pg fn_leak_hull_wet [h.H m s,.agg [.int .i64 d,.int .i64 l]] (hpV [(m,.map (h.memo M) s)]) K:=by
 obtain ⟨F,hF⟩ : ∃F,m<F:=⟨m+1,by omega⟩
 have e1:∀k,¬F+k=m:=fun k=>by omega
 have e2:∀k,¬m=F+k:=fun k=>by omega
 have hn6:=hv.n6
 have hl:h.seams.length=h.n:=rfl
 have hlk:∀hh:Heap,hh m=.map (h.memo M) s→∀zero,aLookup hh (true,[.i,.i]) true zero (.map m s) (.agg [.int .i64 d,.int .i64 l])=some (if [d,l]∈M then .tup [.int .u64 (h.wet d l),.bool true] else .tup [zero,.bool false]):=by
  intro hh hh1 zero
  have:=aLookup_ints (n:=2) (k:=[d,l]) (by simp) hM hh1 zero
  exact this
 refine leak_hull_wet.e F (by simp) ?_
 simp[e1,e2]
 intro s1
 rw[hlk _ (by simp[e2])]
 by_cases hkm:[d,l]∈M
 ·simp[hkm,e1,e2]
  refine RetV.view [(m,.map (h.memo M) s)] (by simp[e1,e2]) ?_
  exact hK M hM
 simp[hkm,e1,e2]
 refine Lp.intro (σ:=Nat) (inv:=fun k=>k≤h.n)
  (vw:=fun k=>[(0,h.H m s),(3,.ptr (F+3) 0 (s1+1)),(7,.int .u64 (bits (h.wetP d l) k)),(25,LS h.seams),(26,.int .i64 h.n),(27,.int .i64 k)])
  (hp:=fun _=>[(F+3,.row [.int .i64 d,.int .i64 l] (s1+1)),(m,.map (h.memo M) s)]) (ms:=fun k=>h.n - k) 0 (by omega) (by simp[bits,hl]) (by simp[e1,e2]) ?_
 intro k hk J hJ
 by_cases hkc:k<h.n
 ·have hkl:k<h.seams.length:=hkc
  obtain ⟨a,hak⟩ : ∃a,h.seams[k]=a:=⟨_,rfl⟩
  have hok:=hv.sm a (by rw[←hak];simp)
  unfold Hul.OkS at hok
  unfold Hul.At at ha
  have hp:h.wetP d l k=decide (a.h≤d+a.s*l):=by simp[Hul.wetP,hkl,hak]
  have hmul : -3≤a.s*l∧a.s*l≤3:=by
   have:a.s = -1∨a.s=0∨a.s=1:=by omega
   rcases this with e|e|e<;>rw[e]<;>omega
  by_cases hw:a.h≤d+a.s*l
  ·simp[hkc,hkl,hak,hw,e1,e2,wrapU_pow (show k≤60 by omega),bitsU_add _ k (show k≤60 by omega)]
   refine ⟨by omega,fun s2=>?_⟩
   (repeat first|refine And.intro (by omega) ?_|refine And.intro (Fits.of (by omega) (by omega)) ?_)
   exact hJ.next (k+1) (by omega) (by omega) (by simp[bits,hp,hw]) (by simp[e1,e2])
  ·simp[hkc,hkl,hak,hw,e1,e2]
   refine ⟨by omega,fun s2=>?_⟩
   (repeat first|refine And.intro (by omega) ?_|refine And.intro (Fits.of (by omega) (by omega)) ?_)
   exact hJ.next (k+1) (by omega) (by omega) (by simp[bits,hp,hw]) (by simp[e1,e2])
 obtain rfl:k=h.n:=by omega
 simp
 refine hJ.exit ?_
 simp[e1,e2]
 refine osat_iff.2 ⟨_,mapU_ints (n:=2) (k:=[d,l]) (f:=fun l=>.int .u64 (h.wet (ofL l 0) (ofL l 1))) (M:=M) (m:=m) (s:=s) (by simp) hM hkm ?_ (by simp) (by simp) ?_,?_⟩
 ·simp[e2];rfl
 ·simp[ofL];rfl
 ·simp[e1,e2]
  refine RetV.view [(m,.map (h.memo (M++[[d,l]])) s)] (by simp[e1,e2];rfl) ?_
  exact hK (M++[[d,l]]) (fun l hl=>by
   rcases List.mem_append.1 hl with h|h
   ·exact hM l h
   ·simp at h;simp[h])
theorem leak_hull_every_ok (h:Hul) (hv:h.Valid) (m s:Nat):APure Pg fn_leak_hull_every [h.H m s] (.int .u64 h.every):=by
 have hk:h.snds.length=h.k:=rfl
 have hk8:=hv.k8
 refine leak_hull_every.e.p (by simp) ?_
 simp
 refine ⟨by omega,RetV.refl ?_⟩
 rw[hk,wrapU_pow (by omega),wrapU_pow1 (by omega)]
 rfl
theorem leak_open_all (h:Hul) (hs:h.Small) (is:Bool) (m:Nat) (K:AEnd→Heap→Prop) (hK1:h.Valid→is=true→∀s,K (.ret (h.H m s)) (hpV [(m,.map [] s)]))
 (hK2:¬h.Valid→∀hh,K (.pan (refV 1)) hh) (hK3:h.Valid→is=false→∀hh,K (.pan (refV 2)) hh):ACalls Pg fn_leak_open [h.v,.bool is] (hpV [(m,.dead)]) K:=by
 have h40:=hs.s
 have d40:=hs.d
 obtain ⟨F,hF⟩ : ∃F,m<F:=⟨m+1,by omega⟩
 have e1:∀k,¬F+k=m:=fun k=>by omega
 have e2:∀k,¬m=F+k:=fun k=>by omega
 have bad:∀{p:Prop},(h.Valid→p)→¬p→∀hh,K (.pan (refV 1)) hh:=fun a b=>hK2 fun v=>b (a v)
 have hn:h.seams.length=h.n:=rfl
 have hk:h.snds.length=h.k:=rfl
 refine leak_open.e F (by simp) ?_
 simp[e1,e2]
 intro s1
 refine PCallK.intro (PInv.func (leak_within_ok _ _ _)) ?_
 by_cases h1:¬((1:Int)≤h.seams.length∧(h.seams.length:Int)≤6)
 ·simp[h1]
  refine FCall.pan (PInvPan.func (leak_want_pan 1)) ?_
  simp
  exact ⟨_,HLe.refl _,bad (fun v=>(⟨v.n1,v.n6⟩ : 1≤h.n∧h.n≤6)) (by omega) _⟩
 replace h1:=Classical.not_not.1 h1
 by_cases h2:¬(h.snds.length:Int)≤8
 ·simp[h1,h2]
  refine FCall.pan (PInvPan.func (leak_want_pan 1)) ?_
  simp
  exact ⟨_,HLe.refl _,bad (fun v=>v.k8) (by omega) _⟩
 replace h2:=Classical.not_not.1 h2
 simp[h1,h2]
 refine FCall.pure (PInv.func (leak_want_ok 1)) ?_
 simp[e1,e2]
 intro sm s2
 refine Lp.intro' (σ:=Nat×Nat) (inv:=fun x=>x.1≤h.n∧∀j a,j<x.1→h.seams[j]? = some a→Hul.OkS a)
  (vw:=fun x=>[(1,.bool is),(2,.ptr (F+2) 0 (s1+1)),(5,.ptr (F+24) 0 (s2+1)),(26,LS h.seams),(27,.int .i64 h.n),(28,.int .i64 x.1)])
  (hp:=fun x=>[(F+2,.row h.cells (s1+1)),(F+22,.map [] (sm+1)),(F+24,.row [LS h.seams,LD h.snds,gS 1 (F+54) x.1 x.2,.map (F+22) (sm+1)] (s2+1)),(F+54,gO x.1 (ints (h.mosts.take x.1)) x.2)]) (ms:=fun x=>h.n - x.1) (0,0) (by simp)
  (Sl.rowLe (F+24) (s:=s2+1) (cells:=[LS h.seams,LD h.snds,.nils,.map (F+22) (sm+1)]) [LS h.seams,LD h.snds,.es,.map (F+22) (sm+1)] (by simp) ⟨ALe.refl _,ALe.refl _,ALe.nils_es,ALe.refl _,trivial⟩ (Sl.refl ⟨rfl,?_,?_⟩)) ?_
 ·simp[hn]
 ·simp[Hul.cells]
 rintro ⟨k,st⟩ ⟨hkn,inv⟩ J hJ
 simp at hkn inv
 by_cases hkc:k<h.n
 ·have hkl:k<h.seams.length:=hkc
  obtain ⟨a,hak⟩ : ∃a,h.seams[k]=a:=⟨_,rfl⟩
  have bad2:¬Hul.OkS a→∀hh,K (.pan (refV 1)) hh:=bad fun v=>v.sm a (by rw[←hak];simp)
  unfold Hul.OkS at bad2
  have htk:h.mosts.take (k+1)=h.mosts.take k++[a.m]:=by
   have h1:k<h.mosts.length:=by simpa using hkc
   rw[←List.take_append_getElem h1]
   simp[Hul.mosts,hak]
  simp[hkc,hkl,hak]
  refine ⟨by omega,fun s3=>PCallK.intro (PInv.func (leak_within_ok _ _ _)) ?_⟩
  by_cases q1:¬(0≤a.h∧a.h≤12)
  ·simp[q1]
   refine FCall.pan (PInvPan.func (leak_want_pan 1)) ?_
   simp
   refine hJ.pan ?_
   simp
   exact ⟨_,HLe.refl _,bad2 (fun x=>q1 x.1) _⟩
  replace q1:=Classical.not_not.1 q1
  simp[q1]
  refine PCallK.intro (PInv.func (leak_within_ok _ _ _)) ?_
  by_cases q2:¬(-1≤a.s∧a.s≤1)
  ·simp[q2]
   refine FCall.pan (PInvPan.func (leak_want_pan 1)) ?_
   simp
   refine hJ.pan ?_
   simp
   exact ⟨_,HLe.refl _,bad2 (fun x=>q2 x.2.1) _⟩
  replace q2:=Classical.not_not.1 q2
  simp[q2]
  refine PCallK.intro (PInv.func (leak_within_ok _ _ _)) ?_
  by_cases q3:¬(0≤a.m∧a.m≤4)
  ·simp[q3]
   refine FCall.pan (PInvPan.func (leak_want_pan 1)) ?_
   simp
   refine hJ.pan ?_
   simp
   exact ⟨_,HLe.refl _,bad2 (fun x=>q3 x.2.2) _⟩
  replace q3:=Classical.not_not.1 q3
  simp[q3]
  refine FCall.pure (PInv.func (leak_want_ok 1)) ?_
  simp
  intro s4 s5
  refine xApN_gS (cells:=ints (h.mosts.take k)) (by simp) (by simp;omega) (by omega) (by omega) ?_
  simp
  (repeat first|refine And.intro (by omega) ?_|refine And.intro (Fits.of (by omega) (by omega)) ?_)
  refine hJ.next (k+1,s5+1) ⟨by simp;omega,fun j b hj hb=>?_⟩ (by simp;omega) (by simp) (by simp[htk])
  by_cases e:j=k
  ·subst e
   obtain rfl:a=b:=by simpa[hkl,hak] using hb
   exact ⟨q1,q2,q3⟩
  ·exact inv j b (by simp at hj;omega) hb
 obtain rfl:k=h.n:=by omega
 have htk:h.mosts.take h.n=h.mosts:=List.take_of_length_le (by simp)
 simp[htk]
 refine hJ.exitS (Sl.vle 5 (h.H (F+22) (sm+1)) (h':=hpV [(F+2,.row h.cells (s1+1)),(F+22,.map [] (sm+1))]) ?_ (Sl.refl ?_))
 ·have e:h.H (F+22) (sm+1)=.pv [LS h.seams,LD h.snds,.vl h.n (ints h.mosts),.map (F+22) (sm+1)]:=by simp[Hul.H,L]
  rw[e]
  simp
  refine VLe.trans (v₂:=.pv ([LS h.seams,LD h.snds,gS 1 (F+54) h.n st,.map (F+22) (sm+1)].drop 0)) (VLe.ptr (r:=F+24) (off:=0) (s:=s2+1) (cells:=[LS h.seams,LD h.snds,gS 1 (F+54) h.n st,.map (F+22) (sm+1)]) (by simp)) ?_
  refine VLe.trans (VLe.pv (LLe.cons (VLe.refl _ _) (LLe.cons (VLe.refl _ _) (LLe.cons (VLe.gS (cells:=ints h.mosts) (by simp) (by simp)) (LLe.cons (VLe.refl _ _) (LLe.nil _))))) rfl) ?_
  exact VLe.wk (HLe.view (k:=[(F+2,.row h.cells (s1+1)),(F+22,.map [] (sm+1))]) (by simp))
 simp[Hul.cells]
 refine Lp.intro (σ:=Nat) (inv:=fun k=>k≤h.k∧∀j a,j<k→h.snds[j]? = some a→Hul.OkD a)
  (vw:=fun k=>[(1,.bool is),(5,h.H (F+22) (sm+1)),(59,LD h.snds),(60,.int .i64 h.k),(61,.int .i64 k)])
  (hp:=fun _=>[(F+22,.map [] (sm+1))]) (ms:=fun k=>h.k - k) 0 (by simp) ?_ ?_ ?_
 ·simp[hk]
 ·simp
 rintro k ⟨hkn2,inv2⟩ J2 hJ2
 by_cases hkc:k<h.k
 ·have hkl:k<h.snds.length:=hkc
  obtain ⟨a,hak⟩ : ∃a,h.snds[k]=a:=⟨_,rfl⟩
  have bad2:¬Hul.OkD a→∀hh,K (.pan (refV 1)) hh:=bad fun v=>v.sd a (by rw[←hak];simp)
  unfold Hul.OkD at bad2
  simp[hkc,hkl,hak]
  refine ⟨by omega,fun s3=>PCallK.intro (PInv.func (leak_isPlace_ok _ _)) ?_⟩
  by_cases q1:¬Hul.At a.d a.l
  ·simp[q1]
   refine FCall.pan (PInvPan.func (leak_want_pan 1)) ?_
   simp
   refine hJ2.pan ?_
   simp
   exact ⟨_,HLe.refl _,bad2 (fun x=>q1 x.1) _⟩
  replace q1:=Classical.not_not.1 q1
  simp[q1]
  refine PCallK.intro (PInv.func (leak_within_ok _ _ _)) ?_
  by_cases q2:¬(0≤a.lo∧a.lo≤a.hi)
  ·simp[q2]
   refine FCall.pan (PInvPan.func (leak_want_pan 1)) ?_
   simp
   refine hJ2.pan ?_
   simp
   exact ⟨_,HLe.refl _,bad2 (fun x=>q2 ⟨x.2.1,x.2.2.1⟩) _⟩
  replace q2:=Classical.not_not.1 q2
  by_cases q4:¬a.hi≤24
  ·simp[q2,q4]
   refine FCall.pan (PInvPan.func (leak_want_pan 1)) ?_
   simp
   refine hJ2.pan ?_
   simp
   exact ⟨_,HLe.refl _,bad2 (fun x=>q4 x.2.2.2) _⟩
  replace q4:=Classical.not_not.1 q4
  simp[q2,q4]
  refine FCall.pure (PInv.func (leak_want_ok 1)) ?_
  simp
  (repeat first|refine And.intro (by omega) ?_|refine And.intro (Fits.of (by omega) (by omega)) ?_)
  refine hJ2.next (k+1) ⟨by omega,fun j b hj hb=>?_⟩ (by omega) (by simp) (by simp)
  by_cases e:j=k
  ·subst e
   obtain rfl:a=b:=by simpa[hkl,hak] using hb
   exact ⟨q1,q2.1,q2.2,q4⟩
  ·exact inv2 j b (by omega) hb
 obtain rfl:k=h.k:=by omega
 simp
 refine hJ2.exit ?_
 have hV:h.Valid:=⟨by omega,by omega,by omega,fun a ha=>by
  obtain ⟨j,hj,e⟩:=List.getElem_of_mem ha
  exact inv j a hj (by rw[←e];simp),fun a ha=>by
  obtain ⟨j,hj,e⟩:=List.getElem_of_mem ha
  exact inv2 j a hj (by rw[←e];simp)⟩
 cases is
 ·simp
  refine FCall.pan (PInvPan.func (leak_want_pan 2)) ?_
  simp
  exact ⟨_,HLe.refl _,hK3 hV rfl _⟩
 ·simp
  refine FCall.pure (PInv.func (leak_want_ok 2)) ?_
  simp
  refine RetV.le (VLe.pv (LLe.cons (VLe.refl _ _) (LLe.cons (VLe.refl _ _) (LLe.cons (VLe.refl _ _) (LLe.cons (VLe.move (F+22) m) (LLe.nil _))))) rfl) ?_
  refine RetV.view [(m,.map [] (sm+1))] (by simp[e1,e2]) ?_
  simpa[e1,e2] using hK1 hV rfl (sm+1)
theorem hpV_dead1 (m:Nat):hpV [(m,.dead)]=nilH:=by
 funext x
 simp only[hpV,upd]
 split<;>rfl
theorem leak_open_ok (h:Hul) (hs:h.Small) (hv:h.Valid) (m:Nat) (K:AEnd→Heap→Prop) (hK:∀s,K (.ret (h.H m s)) (hpV [(m,.map [] s)])):ACalls Pg fn_leak_open [h.v,.bool true] (hpV [(m,.dead)]) K:=
 leak_open_all h hs true m K (fun _ _=>hK) (fun a _=>absurd hv a) (fun _ a=>by simp at a)
theorem leak_open_arg (h:Hul) (hs:h.Small) (hv:¬h.Valid) (is:Bool):APan Pg fn_leak_open [h.v,.bool is] (refV 1):=by
 refine APan.of_nil ?_
 have:=leak_open_all h hs is 0 (fun e _=>e=.pan (refV 1)) (fun a=>absurd a hv) (fun _ _=>rfl) (fun a=>absurd a hv)
 rw[hpV_dead1] at this
 exact this
theorem leak_open_range (h:Hul) (hs:h.Small) (hv:h.Valid):APan Pg fn_leak_open [h.v,.bool false] (refV 2):=by
 refine APan.of_nil ?_
 have:=leak_open_all h hs false 0 (fun e _=>e=.pan (refV 2)) (fun _ a=>by simp at a) (fun a=>absurd hv a) (fun _ _ _=>rfl)
 rw[hpV_dead1] at this
 exact this
end Go.Cw
end
section
namespace Go.Cw
open Go Go.Proofs
def Hul.cond (h:Hul) (a:Sd):AVal:=.iface 349 (.agg [.int .u64 (h.wet a.d a.l),.int .i64 a.lo,.int .i64 a.hi])
def Hul.condL (h:Hul) (q:Int):Nat→List AVal
 | 0=>[.iface 345 (.agg [])]
 | k+1=>h.condL q k++(match h.snds[k]? with
   | some a=>if inS q k then [h.cond a] else []
   | none=>[])
theorem Hul.condL_len (h:Hul) (q:Int) (k:Nat):1≤(h.condL q k).length∧(h.condL q k).length≤k+1:=by
 induction k with
 | zero=>simp[Hul.condL]
 | succ k ih=>
   simp only[Hul.condL,List.length_append]
   split
   ·split<;>simp<;>omega
   ·simp;omega
theorem Hul.condL_one (h:Hul) (q:Int) (k:Nat) (h1 :(h.condL q k).length=1):h.condL q k=[.iface 345 (.agg [])]:=by
 induction k with
 | zero=>rfl
 | succ k ih=>
   have:=h.condL_len q k
   simp only[Hul.condL,List.length_append] at h1
   have h2:=ih (by omega)
   have h3 :(match h.snds[k]? with
   | some a=>if inS q k then [h.cond a] else []
   | none=>[])=[]:=List.eq_nil_of_length_eq_zero (by omega)
   simp only[Hul.condL,h2,h3,List.append_nil]
theorem Hul.Valid.wet64 {h:Hul} (hv:h.Valid) (d l:Int):0≤h.wet d l∧h.wet d l<64:=by
 have h1:=h.wet_lt d l
 have h2:=two_pow_le hv.n6
 have e :(2:Int)^6=64:=by decide
 omega
section
variable {F n₀:Nat} {inr:Bool} {keep:List Nat} {fa fl:List It} {t:Option Nat} {K:KT} {Q:Post} {tm:TM} {df:DF} {hp:Heap}
theorem FCall.wet {h:Hul} (hv:h.Valid) {d l:Int} (ha:Hul.At d l) {m s:Nat} {M:List (List Int)} (hM:∀l∈M,l.length=2) (hm:hp m=.map (h.memo M) s) (f:FaOk F fa tm hp)
 (k:∀M',(∀l∈M',l.length=2)→FlOk fl (putD tm t (.int .u64 (h.wet d l))) (upd hp m (.map (h.memo M') s))∧K (putD tm t (.int .u64 (h.wet d l))) df (upd hp m (.map (h.memo M') s))) :
 FCall ⟨Pg,F,n₀,inr,keep⟩ (.func (.func fn_leak_hull_wet) [] []) [h.H m s,.agg [.int .i64 d,.int .i64 l]] fa fl t K Q tm df hp:=by
 refine FCall.cps [(m,.map (h.memo M) s)] (fun _ : {M':List (List Int) // ∀l∈M',l.length=2}=>.int .u64 (h.wet d l)) (fun M'=>[(m,.map (h.memo M'.1) s)]) (fun _=>True) (fun K' hK'=>AInvoke.func ?_) ⟨hm,trivial⟩ (fun _=>rfl) f (fun M' _=>k M'.1 M'.2)
 exact leak_hull_wet_ok h hv d l ha m s M hM K' fun M' hM'=>hK' ⟨M',hM'⟩ trivial
end
theorem leak_hull_conditions_ok (h:Hul) (hv:h.Valid) (q:Int) (hq:0≤q∧q<2^62) (m s:Nat) (M:List (List Int)) (hM:∀l∈M,l.length=2)
 (K:AEnd→Heap→Prop) (hK:∀M',(∀l∈M',l.length=2)→K (.ret (.vl (h.condL q h.k).length (h.condL q h.k))) (hpV [(m,.map (h.memo M') s)])):ACalls Pg fn_leak_hull_conditions [h.H m s,.int .u64 q] (hpV [(m,.map (h.memo M) s)]) K:=by
 obtain ⟨F,hF⟩ : ∃F,m<F:=⟨m+1,by omega⟩
 have e1:∀k,¬F+k=m:=fun k=>by omega
 have e2:∀k,¬m=F+k:=fun k=>by omega
 have hk8:=hv.k8
 have hl:h.snds.length=h.k:=rfl
 refine leak_hull_conditions.e F (by simp) ?_
 simp[e1,e2]
 intro s1
 refine Lp.intro (σ:=Nat×List (List Int)×Nat) (inv:=fun x=>x.1≤h.k∧∀l∈x.2.1,l.length=2)
  (vw:=fun x=>[(0,h.H m s),(1,.int .u64 q),(5,if (h.condL q x.1).length=1 then .sl (F+10) 0 (s1+1) 1 (.ex 1) else .sl (F+41) 0 x.2.2 (h.condL q x.1).length (.gr 1)),(15,LD h.snds),(16,.int .i64 h.k),(17,.int .i64 x.1)])
  (hp:=fun x=>(m,.map (h.memo x.2.1) s) ::(if (h.condL q x.1).length=1 then [(F+10,.row (h.condL q x.1) (s1+1))] else [(F+41,.row (h.condL q x.1) x.2.2)])) (ms:=fun x=>h.k - x.1) (0,M,0) ⟨by simp,hM⟩ (by simp[Hul.condL,hl]) (by simp[Hul.condL,e1,e2]) ?_
 rintro ⟨k,M1,st⟩ ⟨hk,hM1⟩ J hJ
 simp at hk hM1
 have hcl:=h.condL_len q k
 by_cases hkc:k<h.k
 ·have hkl:k<h.snds.length:=hkc
  obtain ⟨a,hak⟩ : ∃a,h.snds[k]=a:=⟨_,rfl⟩
  have hok:=hv.sd a (by rw[←hak];simp)
  unfold Hul.OkD at hok
  have hcs:h.condL q (k+1)=h.condL q k++(if inS q k then [h.cond a] else []):=by simp[Hul.condL,hkl,hak]
  have h0:=two_pow_pos k
  have hdv:0≤q / 2^k:=Int.ediv_nonneg hq.1 (by omega)
  have hdl:q / 2^k≤q:=Int.ediv_le_self _ hq.1
  have hand:=bitU_and1 hdv (by omega)
  have hin:decide (q / 2^k % 2=1)=inS q k:=rfl
  cases hw:inS q k with
  | false=>
    rw[hw] at hcs hin
    simp at hcs
    have hin':¬q / 2^k % 2=1:=by simpa using hin
    by_cases h1 :(h.condL q k).length=1
    ·simp[hkc,hkl,hak,h1,hand,hin',e1,e2]
     refine ⟨by omega,fun s2=>?_⟩
     (repeat first|refine And.intro (by omega) ?_|refine And.intro (Fits.of (by omega) (by omega)) ?_)
     exact hJ.next (k+1,M1,st) ⟨by simp;omega,hM1⟩ (by simp;omega) (by simp[hcs,h1]) (by simp[hcs,h1,e1,e2])
    ·simp[hkc,hkl,hak,h1,hand,hin',e1,e2]
     refine ⟨by omega,fun s2=>?_⟩
     (repeat first|refine And.intro (by omega) ?_|refine And.intro (Fits.of (by omega) (by omega)) ?_)
     exact hJ.next (k+1,M1,st) ⟨by simp;omega,hM1⟩ (by simp;omega) (by simp[hcs,h1]) (by simp[hcs,h1,e1,e2])
  | true=>
    rw[hw] at hcs hin
    simp at hcs
    have hin':q / 2^k % 2=1:=by simpa using hin
    have hcn:¬(h.condL q (k+1)).length=1:=by rw[hcs,List.length_append,List.length_singleton];omega
    by_cases h1 :(h.condL q k).length=1
    ·have hone:=h.condL_one q k h1
     simp[hkc,hkl,hak,h1,hand,hin',e1,e2]
     refine ⟨by omega,fun s2=>⟨by omega,?_⟩⟩
     refine FCall.wet hv hok.1 hM1 (by simp[e1,e2]) (by simp) fun M2 hM2=>⟨by simp[e1,e2],?_⟩
     simp[e1,e2]
     intro s3 s4
     refine ⟨by omega,?_⟩
     (repeat first|refine And.intro (by omega) ?_|refine And.intro (Fits.of (by omega) (by omega)) ?_)
     refine hJ.next (k+1,M2,s4+1) ⟨by simp;omega,hM2⟩ (by simp;omega) (by simp only[if_neg hcn];simp[hcs,h1]) ?_
     simp only[if_neg hcn]
     simp[hcs,e1,e2,Hul.cond,hone]
    ·simp[hkc,hkl,hak,h1,hand,hin',e1,e2]
     refine ⟨by omega,fun s2=>⟨by omega,?_⟩⟩
     refine FCall.wet hv hok.1 hM1 (by simp[e1,e2]) (by simp) fun M2 hM2=>⟨by simp[e1,e2],?_⟩
     simp[e1,e2]
     intro s3 s4
     refine ⟨by omega,?_⟩
     (repeat first|refine And.intro (by omega) ?_|refine And.intro (Fits.of (by omega) (by omega)) ?_)
     refine hJ.next (k+1,M2,s4+1) ⟨by simp;omega,hM2⟩ (by simp;omega) (by simp only[if_neg hcn];simp[hcs]) ?_
     simp only[if_neg hcn]
     simp[hcs,e1,e2,Hul.cond]
 obtain rfl:k=h.k:=by omega
 by_cases h1 :(h.condL q h.k).length=1
 ·simp[h1]
  refine hJ.exit ?_
  simp[e1,e2]
  refine RetV.le (VLe.sl (cells:=h.condL q h.k) (by simp[e1,e2])) (RetV.view [(m,.map (h.memo M1) s)] (by simp[e1,e2]) ?_)
  have:=hK M1 hM1
  rw[h1] at this
  simpa using this
 ·simp[h1]
  refine hJ.exit ?_
  simp[e1,e2]
  refine RetV.le (VLe.sl (cells:=h.condL q h.k) (by simp[e1,e2])) (RetV.view [(m,.map (h.memo M1) s)] (by simp[e1,e2]) ?_)
  simpa using hK M1 hM1
end Go.Cw
end
section
namespace Go.Cw
open Go
theorem sumN_add (n:Nat) (c d:Nat→Int):sumN n (fun i=>c i+d i)=sumN n c+sumN n d:=by
 induction n with
 | zero=>rfl
 | succ n ih=>simp only[sumN,ih];omega
namespace Hul
def canB (h:Hul) (q:Int) (b:List Int) (fr:Nat):Bool:=(List.range h.k).all fun j=>match h.snds[j]? with
 | some a=>!inS q j || canW (h.wet a.d a.l) a.lo a.hi (ofL b) h.mosts fr
 | none=>true
theorem least_sum {h:Hul} (hv:h.Valid) (w:Int) {b:List Int} (hb:b.length≤h.n):leastW w (ofL b) b.length=sumN h.n fun i=>if inS w i && decide (i<b.length) then ofL b i else 0:=by
 unfold leastW
 refine sumN_ext hv.n6 fun i hi=>?_
 rw[if_neg];simp;omega
theorem sum_between {h:Hul} (hv:h.Valid) (w:Int) {b r:List Int} (hb:b.length≤h.n) (hr:r∈allT (h.mosts.drop b.length)) :
 leastW w (ofL b) b.length≤sumT (b++r) w∧sumT (b++r) w≤leastW w (ofL b) b.length+mostW w h.mosts b.length h.mosts.length:=by
 obtain ⟨h1,h2⟩:=mem_allT.1 hr
 have hl :(b++r).length=h.n:=by simp[h1,mosts_length];omega
 rw[least_sum hv w hb]
 unfold sumT mostW
 rw[hl,mosts_length,←sumN_add]
 have lo:∀i,i<b.length→ofL (b++r) i=ofL b i:=fun i hi=>by
  unfold ofL;simp[List.getElem?_append_left hi]
 have hi:∀i,b.length≤i→i<h.n→0≤ofL (b++r) i∧ofL (b++r) i≤ofL h.mosts i:=fun i hi hn=>by
  have:=h2 (i - b.length) (by simp[mosts_length];omega)
  have e1:ofL (b++r) i=ofL r (i - b.length):=by unfold ofL;simp[List.getElem?_append_right hi]
  have e2:ofL (h.mosts.drop b.length) (i - b.length)=ofL h.mosts i:=by
   unfold ofL
   simp[show b.length+(i - b.length)=i by omega]
  rw[e1,←e2];exact this
 constructor
 ·refine sumN_mono fun i hn=>?_
  cases hw:inS w i
  ·simp
  ·by_cases hb:i<b.length
   ·simp[hb,lo i hb]
   ·have:=hi i (by omega) hn
    simp[hb];omega
 ·refine sumN_mono fun i hn=>?_
  cases hw:inS w i
  ·simp
  ·by_cases hb:i<b.length
   ·simp[hb,lo i hb,show ¬b.length≤i by omega]
   ·have:=hi i (by omega) hn
    simp[hb,show b.length≤i by omega];omega
theorem right_at {h:Hul} {q:Int} {t:List Int} : h.right q t=true↔∀j a,h.snds[j]? = some a→inS q j=true→a.lo≤sumT t (h.wet a.d a.l)∧sumT t (h.wet a.d a.l)≤a.hi:=by
 unfold right
 rw[List.all_eq_true]
 constructor
 ·intro x j a ha hq
  have hj:j<h.k:=(List.getElem?_eq_some_iff.1 ha).1
  have:=x j (by simpa using hj)
  simpa[sndB,ha,hq] using this
 ·intro x j hj
  unfold sndB
  cases ha:h.snds[j]? with
  | none=>rfl
  | some a=>
    cases hq:inS q j
    ·simp
    ·simpa[hq] using x j a ha hq
theorem canB_at {h:Hul} {q:Int} {b:List Int} {fr:Nat} : h.canB q b fr=true↔∀j a,h.snds[j]? = some a→inS q j=true→canW (h.wet a.d a.l) a.lo a.hi (ofL b) h.mosts fr=true:=by
 unfold canB
 rw[List.all_eq_true]
 constructor
 ·intro x j a ha hq
  have hj:j<h.k:=(List.getElem?_eq_some_iff.1 ha).1
  have:=x j (by simpa using hj)
  simpa[ha,hq] using this
 ·intro x j hj
  cases ha:h.snds[j]? with
  | none=>rfl
  | some a=>
    cases hq:inS q j
    ·simp
    ·simpa[hq] using x j a ha hq
theorem prune {h:Hul} (hv:h.Valid) {q:Int} {b:List Int} (hb:b.length≤h.n) (hc:h.canB q b b.length=false):h.ext q b=[]:=by
 cases he:h.ext q b with
 | nil=>rfl
 | cons t l=>
   exfalso
   have ht:t∈h.ext q b:=by rw[he];simp
   unfold ext at ht
   obtain ⟨h1,h2⟩:=List.mem_filter.1 ht
   obtain ⟨r,hr,rfl⟩:=List.mem_map.1 h1
   have:h.canB q b b.length=true:=canB_at.2 fun j a ha hq=>by
    have h3:=right_at.1 h2 j a ha hq
    have h4:=sum_between hv (h.wet a.d a.l) hb hr
    simp only[mosts_length] at h4
    unfold canW
    simp
    omega
   rw[this] at hc
   exact absurd hc (by decide)
theorem canB_all {h:Hul} (hv:h.Valid) {q:Int} {b:List Int} (hb:b.length=h.n):h.canB q b b.length=h.right q b:=by
 have key:h.canB q b b.length=true↔h.right q b=true:=by
  rw[canB_at,right_at]
  have hr :([]:List Int)∈allT (h.mosts.drop b.length):=by rw[List.drop_eq_nil_of_le (by rw[mosts_length];omega)];simp[allT]
  have e:∀w,leastW w (ofL b) b.length+mostW w h.mosts b.length h.mosts.length=leastW w (ofL b) b.length:=fun w=>by
   have:mostW w h.mosts b.length h.mosts.length=sumN h.mosts.length fun _=>0:=sumN_congr fun j hj=>by
    rw[mosts_length] at hj;rw[if_neg];simp;omega
   rw[this]
   have:∀n,sumN n (fun _=>0)=0:=fun n=>by
    induction n with
    | zero=>rfl
    | succ n ih=>simp only[sumN,ih];rfl
   rw[this];omega
  constructor
  ·intro x j a ha hq
   have h1:=x j a ha hq
   have h2:=sum_between hv (h.wet a.d a.l) (by omega) hr
   have h3:=e (h.wet a.d a.l)
   unfold canW at h1
   simp at h1
   rw[List.append_nil] at h2
   simp only[mosts_length] at h2 h3
   omega
  ·intro x j a ha hq
   have h1:=x j a ha hq
   have h2:=sum_between hv (h.wet a.d a.l) (by omega) hr
   have h3:=e (h.wet a.d a.l)
   unfold canW
   simp
   rw[List.append_nil] at h2
   simp only[mosts_length] at h2 h3
   omega
 cases h1:h.canB q b b.length<;>cases h2:h.right q b<;>simp_all
end Hul
end Go.Cw
end
section
namespace Go.Cw
open Go Go.Proofs
namespace Hul
def clo (h:Hul) (q:Int):Nat→List (Option Sd)
 | 0=>[none]
 | k+1=>h.clo q k++(match h.snds[k]? with
   | some a=>if inS q k then [some a] else []
   | none=>[])
def condV (h:Hul):Option Sd→AVal
 | none=>.iface 345 (.agg [])
 | some a=>h.cond a
def canO (h:Hul) (c:Nat→Int) (fr:Nat):Option Sd→Bool
 | none=>true
 | some a=>canW (h.wet a.d a.l) a.lo a.hi c h.mosts fr
theorem condL_clo (h:Hul) (q:Int) (k:Nat):h.condL q k =(h.clo q k).map h.condV:=by
 induction k with
 | zero=>rfl
 | succ k ih=>
   simp only[condL,clo,ih,List.map_append]
   congr 1
   cases hs:h.snds[k]? with
   | none=>rfl
   | some a=>cases hq:inS q k<;>simp[condV]
theorem canB_clo (h:Hul) (q:Int) (b:List Int) (fr:Nat):h.canB q b fr =(h.clo q h.k).all (h.canO (ofL b) fr):=by
 unfold canB
 have:∀k,((List.range k).all fun j=>match h.snds[j]? with
  | some a=>!inS q j || canW (h.wet a.d a.l) a.lo a.hi (ofL b) h.mosts fr
  | none=>true) =(h.clo q k).all (h.canO (ofL b) fr):=by
  intro k
  induction k with
  | zero=>rfl
  | succ k ih=>
    rw[List.range_succ,List.all_append,ih]
    simp only[clo,List.all_append]
    congr 1
    cases hs:h.snds[k]? with
    | none=>simp[hs]
    | some a=>cases hq:inS q k<;>simp[hs,hq,canO]
 exact this h.k
end Hul
theorem can_sounding : MethAt Pg 349 "caulkworks/leak.can" fn_leak_sounding_can:=⟨fun _ _=>by kernel_rfl⟩
theorem can_none : MethAt Pg 345 "caulkworks/leak.can" fn_leak_none_can:=⟨fun _ _=>by kernel_rfl⟩
theorem fine_sounding : fineM Pg 349 "caulkworks/leak.can" = true:=by kernel_rfl
theorem fine_none : fineM Pg 345 "caulkworks/leak.can" = true:=by kernel_rfl
theorem aNilck_cond (h:Hul) (o:Option Sd):aNilck Pg (.func (.method "caulkworks/leak.can") [h.condV o] [])=some (.func (.method "caulkworks/leak.can") [h.condV o] []):=by
 cases o<;>simp[Hul.condV,Hul.cond,fine_sounding,fine_none]
theorem leak_can_ok {h:Hul} (hv:h.Valid) (o:Option Sd) (c:Nat→Int) (hc:∀i,i<6→0≤c i∧c i≤100) (fr:Nat) (hf:fr≤6) :
 PInv Pg (.func (.method "caulkworks/leak.can") [h.condV o] []) [inf c,.int .i64 fr,L h.mosts] (.bool (h.canO c fr o)):=by
 intro hh
 cases o with
 | none=>exact AInvoke.meth can_none (leak_none_can_ok fr h.mosts c hh)
 | some a=>
   refine AInvoke.meth can_sounding (leak_sounding_can_ok _ a.lo a.hi (hv.wet64 a.d a.l) c hc fr hf h.mosts (by rw[Hul.mosts_length];exact hv.n6) (fun i=>?_) hh)
   by_cases hi:i<h.mosts.length
   ·have:=hv.most (List.getElem?_eq_getElem hi)
    rw[ofL_at _ hi] at this
    omega
   ·rw[ofL_none _ (by omega)];omega
theorem ofL_push (b:List Int) (x:Int):ofL (b++[x])=upd (ofL b) b.length x:=by
 funext i
 unfold upd
 by_cases hi:i=b.length
 ·subst hi;simp[ofL]
 ·rw[if_neg hi]
  unfold ofL
  by_cases h:i<b.length
  ·simp[List.getElem?_append_left h]
  ·simp[show b.length+1≤i by omega,show b.length≤i by omega]
theorem setRange_1 {cells:List AVal} {i:Nat} {v:AVal} (hi:i<cells.length):setRange cells i [v]=cells.set i v:=by
 rw[List.set_eq_take_append_cons_drop,if_pos hi]
 simp[setRange]
def outp {α:Type} (stop:Bool) (E:List α):List α:=if stop then E.take 1 else E
def goes {α:Type} (stop:Bool) (E:List α):Bool:=!(stop && !E.isEmpty)
def onV (h:Hul) (m ms:Nat) (C:AVal) (sy s:Nat):AVal:=.func (.func fn_leak_hull_inflows_1_1) [] [.pv [h.H m ms],.ptr 303 0 sy,.pv [C],.ptr 304 0 s]
theorem leak_on_ok (h:Hul) (hv:h.Valid) (q:Int) (m ms:Nat) (stop:Bool)
 {τ:Type} (row:τ→List (Nat×AObj)) (hb:RowsB row 300) (pr:τ→List (List Int)) (yr ys:Nat)
 (hy:∀t x (K:AEnd→Heap→Prop),(pr t).length<100000→(stop=true→pr t=[])→x.length=h.n→(∀t',pr t'=pr t++[x]→K (.ret (.bool (!stop))) (hpV (row t')))→AInvoke Pg (.yield yr ys) [inf (ofL x)] (hpV (row t)) K) (s sy:Nat) :
 ∀(j:Nat) (b:List Int) (t₀:τ),b.length+j=h.n→h.Pre b→(j=0→h.right q b=true)→(stop=true→pr t₀=[])→(pr t₀).length+(h.ext q b).length≤100000→
 ∀K:AEnd→Heap→Prop,(∀t,pr t=pr t₀++outp stop (h.ext q b)→K (.ret (.bool (goes stop (h.ext q b)))) (hpV ((304,.row [onV h m ms (.vl (h.condL q h.k).length (h.condL q h.k)) sy s] s) ::(303,.row [.yield yr ys] sy)::row t)))→
  ACalls Pg fn_leak_hull_inflows_1_1 [inf (ofL b),.int .i64 b.length,.pv [h.H m ms],.ptr 303 0 sy,.pv [.vl (h.condL q h.k).length (h.condL q h.k)],.ptr 304 0 s] (hpV ((304,.row [onV h m ms (.vl (h.condL q h.k).length (h.condL q h.k)) sy s] s) ::(303,.row [.yield yr ys] sy)::row t₀)) K:=by
 have hn6:=hv.n6
 intro j
 induction j with
 | zero=>
   intro b t₀ hbn hpre hr hst0 hlen K hK
   have hr':=hr rfl
   have hbm:b.length=h.n:=hbn
   rw[Hul.ext_end hbm,hr'] at hK hlen
   simp at hlen
   refine leak_hull_inflows_1_1.e 320 (by simp) ?_
   simp[hbm]
   intro s1
   refine FCall.cps (σ:={t':τ // pr t'=pr t₀++[b]}) (row t₀) (fun _=>.bool (!stop)) (fun t'=>row t'.1) (fun _=>True) (fun K' hK'=>hy t₀ b K' (by omega) hst0 hbm fun t' ht'=>hK' ⟨t',ht'⟩ trivial) (by simp[hb.upd,hb.self]) (fun t'=>hb.hn _ _) trivial (fun t' _=>⟨trivial,?_⟩)
   obtain ⟨t',ht'⟩:=t'
   simp
   refine RetV.view ((304,.row [onV h m ms (.vl (h.condL q h.k).length (h.condL q h.k)) sy s] s) ::(303,.row [.yield yr ys] sy)::row t') (by simp[hb.upd,hb.updL,hb.updL_self]) ?_
   have:=hK t' (by rw[ht'];cases stop<;>simp[outp])
   cases stop<;>simpa[goes] using this
 | succ j ih=>
   intro b t₀ hbn hpre hr hst0 hlen K hK
   have hbb:b.length<h.mosts.length:=by rw[Hul.mosts_length];omega
   obtain ⟨mo,hmo⟩ : ∃mo,h.mosts[b.length]? = some mo:=⟨_,List.getElem?_eq_getElem hbb⟩
   have hm4:=hv.most hmo
   have hbl:¬b.length=h.n:=by omega
   have hbl2:b.length<h.n:=by omega
   rw[Hul.ext_step hmo] at hK hlen
   obtain ⟨E,hE⟩ : ∃E:Nat→List (List Int),E=fun k=>(List.range k).flatMap fun (k:Nat)=>h.ext q (b++[(k:Int)]):=⟨_,rfl⟩
   have hE0:E 0=[]:=by rw[hE];rfl
   have hEs:∀k,E (k+1)=E k++h.ext q (b++[(k:Int)]):=by
    intro k;rw[hE];simp only[List.range_succ,List.flatMap_append];simp
   have hEm:∀k n,(E k).length≤(E (k+n)).length:=by
    intro k n
    induction n with
    | zero=>exact Nat.le_refl _
    | succ n ih=>rw[←Nat.add_assoc,hEs,List.length_append];omega
   have hEp:∀k n,∃r,E (k+n)=E k++r:=by
    intro k n
    induction n with
    | zero=>exact ⟨[],by simp⟩
    | succ n ih=>obtain ⟨r,hr⟩:=ih;exact ⟨r++h.ext q (b++[((k+n:Nat):Int)]),by rw[←Nat.add_assoc,hEs,hr];simp⟩
   rw[show ((List.range (mo+1).toNat).flatMap fun (k:Nat)=>h.ext q (b++[(k:Int)]))=E (mo+1).toNat by rw[hE]] at hK hlen
   clear hE
   obtain ⟨C,hC⟩ : ∃C,C=AVal.vl (h.condL q h.k).length (h.condL q h.k):=⟨_,rfl⟩
   rw[←hC] at hK ih ⊢
   obtain ⟨me,hme⟩ : ∃me,me=onV h m ms C sy s:=⟨_,rfl⟩
   rw[←hme] at hK ih ⊢
   refine leak_hull_inflows_1_1.e 320 (by simp) ?_
   simp[hbl]
   intro s1
   refine Lp.intro (σ:=Nat×Int×τ) (inv:=fun x=>x.1≤(mo+1).toNat∧pr x.2.2=pr t₀++E x.1∧(stop=true→E x.1=[]))
    (vw:=fun x=>[(1,.int .i64 b.length),(2,.pv [h.H m ms]),(3,.ptr 303 0 sy),(4,.pv [C]),(5,.ptr 304 0 s),(6,.ptr 326 0 (s1+1)),(9,.int .i64 x.1)])
    (hp:=fun x=>(326,.row (ints (tab 6 (upd (ofL b) b.length x.2.1))) (s1+1)) ::(304,.row [me] s) ::(303,.row [.yield yr ys] sy)::row x.2.2) (ms:=fun x=>(mo+1).toNat - x.1) (0,0,t₀) (by simp[hE0]) (by simp) ?_ ?_
   ·have h00:upd (ofL b) b.length 0=ofL b:=by
     funext i
     unfold upd
     split
     ·rename_i e;rw[e,ofL_none _ (by omega)]
     ·rfl
    simp[h00,hb.upd,hb.self]
   have hmo':h.mosts[b.length]=mo:=(List.getElem?_eq_some_iff.1 hmo).2
   rintro ⟨k,x,t⟩ ⟨hk,hpt,hst⟩ J hJ
   simp at hk hpt hst
   by_cases hkc:k<(mo+1).toNat
   ·have hle :(k:Int)≤mo:=by omega
    have hpre':h.Pre (b++[(k:Int)]):=⟨by simp;omega,fun x hx=>by
     rcases List.mem_append.1 hx with hx|hx
     ·exact hpre.2 x hx
     ·obtain rfl:x=k:=by simpa using hx
      omega⟩
    have hcc:∀i,i<6→0≤ofL (b++[(k:Int)]) i∧ofL (b++[(k:Int)]) i≤100:=fun i _=>(hpre'.in4 hv).at i
    have hpush:=ofL_push b k
    have hclo:=h.condL_clo q h.k
    have hclen :(h.clo q h.k).length≤h.k+1:=by have:=(h.condL_len q h.k).2;rw[hclo,List.length_map] at this;exact this
    have hk8:=hv.k8
    have hlenb :(b++[(k:Int)]).length=b.length+1:=by simp
    have hone :(E (k+1)).length≤(E (mo+1).toNat).length:=by
     obtain ⟨n,hn⟩:=Nat.exists_eq_add_of_le hkc
     have:=hEm (k+1) n
     rw[←hn] at this
     exact this
    have hset:setRange (ints (tab 6 (upd (ofL b) b.length x))) b.length [.int .i64 k]=ints (tab 6 (ofL (b++[(k:Int)]))):=by
     rw[setRange_1 (by simp;omega),ints_set,tab_set,hpush,upd_upd]
    simp[hmo',hle,hbl2,hb.upd,hb.self,hC,hset]
    refine ⟨by omega,by omega,?_⟩
    refine Lp.intro (σ:=Nat) (inv:=fun i=>i≤(h.clo q h.k).length∧∀o∈(h.clo q h.k).take i,h.canO (ofL (b++[(k:Int)])) (b.length+1) o=true)
     (vw:=fun i=>[(1,.int .i64 b.length),(2,.pv [h.H m ms]),(3,.ptr 303 0 sy),(4,.pv [C]),(5,.ptr 304 0 s),(6,.ptr 326 0 (s1+1)),(9,.int .i64 k),(36,C),(37,.int .i64 (h.clo q h.k).length),(38,.int .i64 i)])
     (hp:=fun _=>(326,.row (ints (tab 6 (ofL (b++[(k:Int)])))) (s1+1)) ::(304,.row [me] s) ::(303,.row [.yield yr ys] sy)::row t) (ms:=fun i=>(h.clo q h.k).length - i) 0 (by simp) ?_ ?_ ?_
    ·simp[hC,hclo]
    ·simp[hb.upd,hb.self]
    rintro i ⟨hi,hall⟩ J2 hJ2
    have hext:=hEs k
    by_cases hic:i<(h.clo q h.k).length
    ·obtain ⟨ob,hob⟩ : ∃ob,(h.clo q h.k)[i]=ob:=⟨_,rfl⟩
     have hcan:=leak_can_ok hv ob (ofL (b++[(k:Int)])) hcc (b.length+1) (by omega)
     simp[hic,hC,hclo,hob,hb.upd,hb.self,aNilck_cond]
     (repeat first|refine And.intro (by omega) ?_|refine And.intro (Fits.of (by omega) (by omega)) ?_)
     refine FCall.pure (v:=.bool (h.canO (ofL (b++[(k:Int)])) (b.length+1) ob)) ?_ ?_
     ·simpa using hcan
     cases hco:h.canO (ofL (b++[(k:Int)])) (b.length+1) ob with
     | true=>
       simp
       (repeat first|refine And.intro (by omega) ?_|refine And.intro (Fits.of (by omega) (by omega)) ?_)
       refine hJ2.next (i+1) ⟨by omega,fun o ho=>?_⟩ (by omega) (by simp[hC,hclo]) (by simp[hb.upd,hb.self])
       rw[←List.take_append_getElem hic] at ho
       rcases List.mem_append.1 ho with ho|ho
       ·exact hall o ho
       ·obtain rfl:o=ob:=by rw[hob] at ho;simpa using ho
        exact hco
     | false=>
       have hnone:h.ext q (b++[(k:Int)])=[]:=by
        refine Hul.prune hv (by rw[hlenb];omega) ?_
        rw[Hul.canB_clo,hlenb,List.all_eq_false]
        exact ⟨ob,by rw[←hob];simp,by simp[hco]⟩
       rw[hnone,List.append_nil] at hext
       simp
       refine hJ2.exit ?_
       simp
       (repeat first|refine And.intro (by omega) ?_|refine And.intro (Fits.of (by omega) (by omega)) ?_)
       exact hJ.next (k+1,k,t) ⟨by simp;omega,by simpa[hext] using hpt,by simpa[hext] using hst⟩ (by simp;omega) (by simp[hC,hclo]) (by simp[hb.upd,hb.self,hpush])
    obtain rfl:i =(h.clo q h.k).length:=by omega
    rw[List.take_length] at hall
    have hcb:h.canB q (b++[(k:Int)]) (b++[(k:Int)]).length=true:=by
     rw[Hul.canB_clo,hlenb,List.all_eq_true]
     exact hall
    simp[hic]
    refine hJ2.exit ?_
    simp[hb.upd,hb.self]
    (repeat first|refine And.intro (by omega) ?_|refine And.intro (Fits.of (by omega) (by omega)) ?_)
    have hlt :(pr t).length+(h.ext q (b++[(k:Int)])).length≤100000:=by
     rw[hpt,List.length_append,Nat.add_assoc,←List.length_append,←hext];omega
    refine FCall.cps (σ:={t':τ // pr t'=pr t++outp stop (h.ext q (b++[(k:Int)]))}) ((304,.row [me] s) ::(303,.row [.yield yr ys] sy)::row t) (fun _=>.bool (goes stop (h.ext q (b++[(k:Int)])))) (fun t'=>(304,.row [me] s) ::(303,.row [.yield yr ys] sy)::row t'.1) (fun _=>True) (fun K' hK'=>?_) (by simp[hb.upd,hb.self]) (fun t'=>by simp[hb.hn t'.1 t]) trivial (fun t' _=>⟨trivial,?_⟩)
    ·suffices x:AInvoke Pg (onV h m ms C sy s) [.agg (ints (tab 6 (ofL (b++[(k:Int)])))),.int .i64 ((b.length:Int)+1)] (hpV ((304,.row [me] s) ::(303,.row [.yield yr ys] sy)::row t)) K' by
      rw[←hme] at x;exact x
     unfold onV
     refine AInvoke.func ?_
     have:=ih (b++[(k:Int)]) t (by rw[hlenb];omega) hpre' (fun hj0=>by rw[Hul.canB_all hv (by rw[hlenb];omega)] at hcb;exact hcb) (fun hs=>by rw[hpt,hst hs,hst0 hs];rfl) hlt K' (fun t' ht'=>hK' ⟨t',ht'⟩ trivial)
     simpa using this
    obtain ⟨t',ht'⟩:=t'
    cases hg:goes stop (h.ext q (b++[(k:Int)])) with
    | true=>
      simp
      (repeat first|refine And.intro (by omega) ?_|refine And.intro (Fits.of (by omega) (by omega)) ?_)
      refine hJ.next (k+1,k,t') ⟨by simp;omega,?_,fun hs=>?_⟩ (by simp;omega) (by simp) (by simp[hb.upd,hb.self,hb.updL,hb.updL_self,hpush])
      ·simp only[ht',hpt,hext,List.append_assoc]
       cases hs:stop
       ·rfl
       ·have:h.ext q (b++[(k:Int)])=[]:=by
         rw[hs] at hg;simpa[goes] using hg
        rw[this];rfl
      ·have:h.ext q (b++[(k:Int)])=[]:=by
        rw[hs] at hg;simpa[goes] using hg
       simp only[hext,hst hs,this,List.append_nil]
    | false=>
      have hs:stop=true:=by cases hs:stop<;>simp_all[goes]
      have hne:h.ext q (b++[(k:Int)])≠[]:=by rw[hs] at hg;simpa[goes] using hg
      obtain ⟨n,hn⟩:=Nat.exists_eq_add_of_le hkc
      obtain ⟨r,hr2⟩:=hEp (k+1) n
      rw[←hn,hext,hst hs,List.nil_append] at hr2
      obtain ⟨y,l,hyl⟩:=List.exists_cons_of_ne_nil hne
      simp
      refine hJ.ret ?_
      simp
      refine RetV.view ((304,.row [me] s) ::(303,.row [.yield yr ys] sy)::row t') (by simp[hb.upd,hb.self,hb.updL,hb.updL_self]) ?_
      have:=hK t' (by rw[ht',hpt,hst hs,hr2,hyl,hs];simp[outp])
      rw[hr2,hyl,hs] at this
      simpa[goes] using this
   have hle:¬(k:Int)≤mo:=by omega
   simp[hmo',hle,hbl2,hb.upd,hb.self]
   refine hJ.exit ?_
   simp
   obtain rfl:k =(mo+1).toNat:=by omega
   refine RetV.view ((304,.row [me] s) ::(303,.row [.yield yr ys] sy)::row t) (by simp[hb.upd,hb.self]) ?_
   have:=hK t (by rw[hpt];cases hs:stop<;>simp[outp];rw[hst hs];rfl)
   cases hs:stop
   ·rw[hs] at this;simpa[goes] using this
   ·rw[hs,hst hs] at this;simpa[goes] using this
end Go.Cw
end
section
namespace Go.Cw
open Go Go.Proofs
@[reducible] def Hul.C (h:Hul) (q:Int):AVal:=.vl (h.condL q h.k).length (h.condL q h.k)
theorem leak_hull_inflows_ok (h:Hul) (hv:h.Valid) (q:Int) (hq:0≤q∧q<2^62) (m s:Nat) (M:List (List Int)) (hM:∀l∈M,l.length=2)
 (K:AEnd→Heap→Prop) (hK:∀M',(∀l∈M',l.length=2)→K (.ret (.func (.func fn_leak_hull_inflows_1) [] [.pv [h.H m s],.pv [h.C q]])) (hpV [(m,.map (h.memo M') s)])) :
 ACalls Pg fn_leak_hull_inflows [h.H m s,.int .u64 q] (hpV [(m,.map (h.memo M) s)]) K:=by
 obtain ⟨F,hF⟩ : ∃F,m<F:=⟨m+1,by omega⟩
 have e1:∀k,¬F+k=m:=fun k=>by omega
 have e2:∀k,¬m=F+k:=fun k=>by omega
 refine leak_hull_inflows.e F (by simp) ?_
 simp[e1,e2]
 intro s1
 refine FCall.cps [(m,.map (h.memo M) s)] (fun _ : {M':List (List Int) // ∀l∈M',l.length=2}=>h.C q) (fun M'=>[(m,.map (h.memo M'.1) s)]) (fun _=>True) (fun K' hK'=>AInvoke.func ?_) (by simp[e1,e2]) (fun _=>rfl) trivial (fun M' _=>⟨trivial,?_⟩)
 ·exact leak_hull_conditions_ok h hv q hq m s M hM K' fun M' hM'=>hK' ⟨M',hM'⟩ trivial
 simp[e1,e2]
 intro s2
 refine RetV.frz (F+2) (cells:=[h.H m s]) (s:=s1+1) ?_ (RetV.frz (F+5) (cells:=[h.C q]) (s:=s2+1) ?_ (RetV.view [(m,.map (h.memo M'.1) s)] ?_ ?_))
 ·simp[e1,e2]
 ·simp[e1,e2]
 ·simp[e1,e2]
 simpa[e1,e2] using hK M'.1 M'.2
theorem leak_hull_inflows_1_ok (h:Hul) (hv:h.Valid) (q:Int) (m ms:Nat) (stop:Bool)
 {τ:Type} (row:τ→List (Nat×AObj)) (hb:RowsB row 300) (pr:τ→List (List Int)) (yr ys:Nat)
 (hy:∀t x (K:AEnd→Heap→Prop),(pr t).length<100000→(stop=true→pr t=[])→x.length=h.n→(∀t',pr t'=pr t++[x]→K (.ret (.bool (!stop))) (hpV (row t')))→AInvoke Pg (.yield yr ys) [inf (ofL x)] (hpV (row t)) K)
 (t₀:τ) (h0:pr t₀=[]) (K:AEnd→Heap→Prop) (hK:∀t,pr t=outp stop (h.truths q)→K (.ret (.tup [])) (hpV (row t))) :
 ACalls Pg fn_leak_hull_inflows_1 [.yield yr ys,.pv [h.H m ms],.pv [h.C q]] (hpV (row t₀)) K:=by
 have hn1:=hv.n1
 have hlen:=hv.ext_len q []
 refine leak_hull_inflows_1.e 300 (by simp) ?_
 simp
 intro sy s
 have hz:[AVal.int .i64 0,.int .i64 0,.int .i64 0,.int .i64 0,.int .i64 0,.int .i64 0]=ints (tab 6 (ofL [])):=rfl
 rw[hz]
 have hC:h.C q=.vl (h.condL q h.k).length (h.condL q h.k):=rfl
 refine FCall.cps (σ:={t':τ // pr t'=outp stop (h.truths q)}) ((304,.row [onV h m ms (h.C q) (sy+1) (s+1)] (s+1)) ::(303,.row [.yield yr ys] (sy+1))::row t₀) (fun _=>.bool (goes stop (h.truths q))) (fun t'=>(304,.row [onV h m ms (h.C q) (sy+1) (s+1)] (s+1)) ::(303,.row [.yield yr ys] (sy+1))::row t'.1) (fun _=>True) (fun K' hK'=>?_) ?_ (fun t'=>by simp[hb.hn t'.1 t₀]) trivial (fun t' _=>⟨trivial,?_⟩)
 ·refine AInvoke.func ?_
  have:=leak_on_ok h hv q m ms stop row hb pr yr ys hy (s+1) (sy+1) h.n [] t₀ (by simp) (Hul.Pre.nil h) (fun h0=>by omega) (fun _=>h0) (by rw[h0];simp;omega) K' (fun t' ht'=>by
   rw[←Hul.truths_ext]
   exact hK' ⟨t',by rw[ht',h0,←Hul.truths_ext];rfl⟩ trivial)
  simpa[hC] using this
 ·simp[hb.upd,hb.self,onV]
 obtain ⟨t',ht'⟩:=t'
 simp
 refine RetV.view (row t') (by simp[hb.upd,hb.self,hb.updL,hb.updL_self]) ?_
 exact hK t' ht'
def canRow (h:Hul) (M:List (List Int)) (s s4 sd:Nat) (L:Jm→AObj) (t:List (List Int)):List (Nat×AObj):=
 [(4,.row [.bool (!t.isEmpty)] s4),(100,if t.isEmpty then L .go else L .ret),(101,.dfr false sd),(200,.map (h.memo M) s)]
theorem canRow_b (h:Hul) (M:List (List Int)) (s s4 sd:Nat) (L:Jm→AObj):RowsB (canRow h M s s4 sd L) 300:=⟨fun _ _=>rfl,fun t x hx=>by simp[canRow] at hx;omega,fun t=>by simp[canRow]⟩
theorem leak_hull_can_ok (h:Hul) (hv:h.Valid) (q:Int) (hq:0≤q∧q<2^62) (s:Nat) (M:List (List Int)) (hM:∀l∈M,l.length=2)
 (K:AEnd→Heap→Prop) (hK:∀M',(∀l∈M',l.length=2)→K (.ret (.bool (!(h.truths q).isEmpty))) (hpV [(200,.map (h.memo M') s)])) :
 ACalls Pg fn_leak_hull_can [h.H 200 s,.int .u64 q] (hpV [(200,.map (h.memo M) s)]) K:=by
 refine leak_hull_can.e 0 (by simp) ?_
 simp
 intro s4
 refine FCall.cps [(200,.map (h.memo M) s)] (fun _ : {M':List (List Int) // ∀l∈M',l.length=2}=>.func (.func fn_leak_hull_inflows_1) [] [.pv [h.H 200 s],.pv [h.C q]]) (fun M'=>[(200,.map (h.memo M'.1) s)]) (fun _=>True) (fun K' hK'=>AInvoke.func ?_) (by simp) (fun _=>rfl) trivial (fun M' _=>⟨trivial,?_⟩)
 ·exact leak_hull_inflows_ok h hv q hq 200 s M hM K' fun M' hM'=>hK' ⟨M',hM'⟩ trivial
 simp
 refine RF.intro 100 101 rfl (by simp) (by simp) (by simp) fun sl sd LO LB yl=>?_
 refine ACalls.cps (σ:=List (List Int)) (canRow h M'.1 s (s4+1) sd LO []) (fun _=>.tup []) (fun t=>canRow h M'.1 s (s4+1) sd LO t) (fun t=>t=outp true (h.truths q)) (fun K' hK'=>?_) (by simp[canRow]) (fun _=>rfl) fun t ht=>?_
 ·refine leak_hull_inflows_1_ok h hv q 200 s true (canRow h M'.1 s (s4+1) sd LO) (canRow_b _ _ _ _ _ _) (fun t=>t) 100 sl (fun t x K hlt hst hx hk=>?_) [] rfl K' fun t ht=>hK' t ht
  obtain rfl:t=[]:=hst rfl
  refine AInvoke.wk (yl _ _ _ rfl (by simp[canRow]) ?_)
  simp[canRow]
  exact Wk.view (canRow h M'.1 s (s4+1) sd LO [x]) (by simp[canRow]) (by simpa using hk [x] rfl)
 ·cases hT:h.truths q with
  | nil=>
    obtain rfl:t=[]:=by rw[ht,hT];rfl
    refine ⟨.go,by simp[canRow],?_⟩
    simp[canRow]
    refine RetV.view [(200,.map (h.memo M'.1) s)] (by simp) ?_
    have:=hK M'.1 M'.2
    rw[hT] at this
    simpa using this
  | cons y l=>
    obtain rfl:t=[y]:=by rw[ht,hT];rfl
    refine ⟨.ret,by simp[canRow],?_⟩
    simp[canRow]
    refine RetV.view [(200,.map (h.memo M'.1) s)] (by simp) ?_
    have:=hK M'.1 M'.2
    rw[hT] at this
    simpa using this
end Go.Cw
end
section
namespace Go.Cw
open Go Go.Proofs
def pop1 (x:Int):Int:=IntKind.u64.wrap (bitI .and .u64 (x / 2) 6148914691236517205+bitI .and .u64 x 6148914691236517205)
def pop2 (x:Int):Int:=IntKind.u64.wrap (bitI .and .u64 (x / 4) 3689348814741910323+bitI .and .u64 x 3689348814741910323)
def pop3 (x:Int):Int:=bitI .and .u64 (IntKind.u64.wrap (x / 16+x)) 1085102592571150095
def pop4 (x:Int):Int:=IntKind.u64.wrap (x+x / 256)
def pop5 (x:Int):Int:=IntKind.u64.wrap (x+x / 65536)
def pop6 (x:Int):Int:=IntKind.u64.wrap (x+x / 4294967296)
def popA (x:Int):Int:=pop6 (pop5 (pop4 (pop3 (pop2 (pop1 x)))))
theorem pop_all : ∀n:Nat,n<256→(popA n<1000∧0≤popA n)∧bitI .and .i64 (popA n) 127=sumN 8 (fun i=>if inS n i then 1 else 0):=by decide +kernel
end Go.Cw
end
section
namespace Go.Cw
open Go Go.Proofs
section
variable {F n₀:Nat} {inr:Bool} {keep:List Nat} {t:Option Nat} {K:KT} {Q:Post} {tm:TM} {df:DF} {hp:Heap}
theorem FCall.can {h:Hul} (hv:h.Valid) {q:Int} (hq:0≤q∧q<2^62) {s:Nat} {M:List (List Int)} (hM:∀l∈M,l.length=2) (hm:hp 200=.map (h.memo M) s)
 (k:∀M',(∀l∈M',l.length=2)→K (putD tm t (.bool (!(h.truths q).isEmpty))) df (upd hp 200 (.map (h.memo M') s))) :
 FCall ⟨Pg,F,n₀,inr,keep⟩ (.func (.func fn_leak_hull_can) [] []) [h.H 200 s,.int .u64 q] [] [] t K Q tm df hp:=by
 refine FCall.cps [(200,.map (h.memo M) s)] (fun _ : {M':List (List Int) // ∀l∈M',l.length=2}=>.bool (!(h.truths q).isEmpty)) (fun M'=>[(200,.map (h.memo M'.1) s)]) (fun _=>True) (fun K' hK'=>AInvoke.func ?_) ⟨hm,trivial⟩ (fun _=>rfl) trivial (fun M' _=>⟨trivial,k M'.1 M'.2⟩)
 exact leak_hull_can_ok h hv q hq s M hM K' fun M' hM'=>hK' ⟨M',hM'⟩ trivial
end
end Go.Cw
end
section
namespace Go.Cw
open Go Go.Proofs
def infs (l:List (List Int)):List AVal:=l.flatMap fun x=>ints (tab 6 (ofL x))
theorem infs_len (l:List (List Int)) :(infs l).length=l.length*6:=by
 induction l with
 | nil=>rfl
 | cons x l ih=>simp only[infs,List.flatMap_cons,List.length_append] at ih ⊢;rw[ih];simp;omega
theorem infs_push (l:List (List Int)) (x:List Int):infs l++ints (tab 6 (ofL x))=infs (l++[x]):=by simp[infs]
def LI (l:List (List Int)):AVal:=.vl l.length (infs l)
def seqRow (s sd:Nat) (L:Jm→AObj) (t:List (List Int)×Nat):List (Nat×AObj):=
 [(2,.row [gS 6 11 t.1.length t.2] s),(11,gO t.1.length (infs t.1) t.2),(100,L .go),(101,.dfr false sd)]
theorem seqRow_b (s sd:Nat) (L:Jm→AObj):RowsB (seqRow s sd L) 300:=⟨fun _ _=>rfl,fun t x hx=>by simp[seqRow] at hx;omega,fun t=>by simp[seqRow]⟩
theorem slices_AppendSeq_ok (h:Hul) (hv:h.Valid) (q:Int) (m ms:Nat) :
 APure Pg fn_slices_AppendSeq_leak_inflow_leak_inflow [.nils,.func (.func fn_leak_hull_inflows_1) [] [.pv [h.H m ms],.pv [h.C q]]] (LI (h.truths q)):=by
 refine slices_AppendSeq_leak_inflow_leak_inflow.e.p (by simp) ?_
 simp
 intro s
 refine RF.intro 100 101 rfl (by simp) (by simp) (by simp) fun sl sd LO LB yl=>?_
 refine ACalls.rowLe 2 [.es] rfl (by simpa using ALe.nils_es) ?_
 refine ACalls.cps (σ:=List (List Int)×Nat) (seqRow (s+1) sd LO ([],0)) (fun _=>.tup []) (fun t=>seqRow (s+1) sd LO t) (fun t=>t.1=h.truths q) (fun K' hK'=>?_) (by simp[seqRow]) (fun _=>rfl) fun t ht=>?_
 ·refine leak_hull_inflows_1_ok h hv q m ms false (seqRow (s+1) sd LO) (seqRow_b _ _ _) (fun t=>t.1) 100 sl (fun t x K hlt hst hx hk=>?_) ([],0) rfl K' fun t ht=>hK' t ht
  refine AInvoke.wk (yl _ _ _ rfl (by simp[seqRow]) ?_)
  simp[seqRow]
  intro s5 s6 s7
  refine xApN_gS (cells:=infs t.1) (by simp) (by rw[infs_len]) (by omega) (by omega) ?_
  rw[infs_push]
  simp
  exact Wk.view (seqRow (s+1) sd LO (t.1++[x],s7+1)) (by simp[seqRow]) (by simpa using hk (t.1++[x],s7+1) rfl)
 ·refine ⟨.go,by simp[seqRow],?_⟩
  simp[seqRow]
  refine RetV.le (VLe.gS (cells:=infs t.1) (s:=t.2) (by simp) (by rw[infs_len])) (RetV.refl ?_)
  rw[ht];rfl
theorem slices_Collect_ok (h:Hul) (hv:h.Valid) (q:Int) (m ms:Nat) :
 APure Pg fn_slices_Collect_leak_inflow [.func (.func fn_leak_hull_inflows_1) [] [.pv [h.H m ms],.pv [h.C q]]] (LI (h.truths q)):=by
 refine slices_Collect_leak_inflow.e.p (by simp) ?_
 simp
 refine FCall.pure (PInv.func (slices_AppendSeq_ok h hv q m ms)) ?_
 simp
 exact RetV.refl rfl
section
variable (l : List (List Int))
@[simp] theorem aLen_LI : aLen (LI l)=some (.int .i64 l.length):=(rfl)
@[simp] theorem frz_LI (r s:Nat) (cells:List AVal):frz r s cells (LI l)=LI l:=(rfl)
end
theorem leak_hull_truths_ok (h:Hul) (hv:h.Valid) (s:Nat) (M:List (List Int)) (hM:∀l∈M,l.length=2) (ht:h.truths h.every≠[])
 (K:AEnd→Heap→Prop) (hK:∀M',(∀l∈M',l.length=2)→K (.ret (LI (h.truths h.every))) (hpV [(200,.map (h.memo M') s)])) :
 ACalls Pg fn_leak_hull_truths [h.H 200 s] (hpV [(200,.map (h.memo M) s)]) K:=by
 have hlen:0<(h.truths h.every).length:=List.length_pos_iff.2 ht
 refine leak_hull_truths.e 0 (by simp) ?_
 simp
 refine FCall.pure (PInv.func (leak_hull_every_ok h hv 200 s)) ?_
 simp
 refine FCall.cps [(200,.map (h.memo M) s)] (fun _ : {M':List (List Int) // ∀l∈M',l.length=2}=>.func (.func fn_leak_hull_inflows_1) [] [.pv [h.H 200 s],.pv [h.C h.every]]) (fun M'=>[(200,.map (h.memo M'.1) s)]) (fun _=>True) (fun K' hK'=>AInvoke.func ?_) (by simp) (fun _=>rfl) trivial (fun M' _=>⟨trivial,?_⟩)
 ·exact leak_hull_inflows_ok h hv h.every (Hul.every62 hv) 200 s M hM K' fun M' hM'=>hK' ⟨M',hM'⟩ trivial
 simp
 refine FCall.pure (PInv.func (slices_Collect_ok h hv h.every 200 s)) ?_
 simp[hlen]
 refine FCall.pure (PInv.func (leak_want_ok 10)) ?_
 simp
 refine RetV.view [(200,.map (h.memo M'.1) s)] (by simp) ?_
 simpa using hK M'.1 M'.2
end Go.Cw
end
section
namespace Go.Cw
open Go Go.Proofs
noncomputable def Hul.wetV (h:Hul) (d l:Int):AVal:=if h.Valid then (if Hul.At d l then .tup [.int .i64 (h.wet d l),.int .i64 0] else .tup [.int .i64 0,.int .i64 2]) else .tup [.int .i64 0,.int .i64 1]
end Go.Cw
end
section
namespace Go.Cw
open Go Go.Proofs
theorem inf_w (x:List Int) :(ints (tab 6 (ofL x))).length=6:=by simp
section
variable (l : List (List Int))
@[simp] theorem infs_length :(infs l).length=l.length*6:=infs_len l
@[simp] theorem infs_drop (k:Nat) :(infs l).drop (k*6)=infs (l.drop k):=fl_drop inf_w l k
@[simp] theorem infs_take6 :(infs l).take 6 =(l.head?.map fun x=>ints (tab 6 (ofL x))).getD []:=fl_take inf_w l
@[simp] theorem satIxS_LI (k:IntKind) (n:Int) (K:AVal→Prop):satIxS 6 (LI l) (.int k n) K =((0≤n∧n<l.length)∧K (.pv (infs (l.drop n.toNat)))):=by simp[LI]
end
theorem leak_sums_ok (l:List (List Int)) (hl:l≠[]) (hl2:l.length≤100000) (f:AVal) (g:List Int→Int) (hf:∀x∈l,PInv Pg f [inf (ofL x)] (.int .i64 (g x))):APure Pg fn_leak_sums [LI l,f] (SP2 (spanOf (l.map g))):=by
 obtain ⟨a,l',hal⟩:=List.exists_cons_of_ne_nil hl
 have ha:a∈l:=by rw[hal];simp
 have hh:l.head? = some a:=by rw[hal];rfl
 have h0:0<l.length:=by rw[hal];simp
 refine leak_sums.e.p (by simp) ?_
 have h6:6≤l.length*6:=by omega
 simp[h0,hh]
 intro s1
 refine ⟨h6,FCall.pure' (hf a ha) (by simp) (by simp[h0,hh,h6]) ?_⟩
 simp
 refine FCall.pure' (hf a ha) (by simp) (by simp) ?_
 simp
 intro s2
 refine Lp.intro (σ:=Nat) (inv:=fun k=>k≤l.length) (vw:=fun k=>[(1,f),(4,.ptr 4 0 (s1+1)),(5,.ptr 5 0 (s2+1)),(19,LI l),(20,.int .i64 l.length),(21,.int .i64 k)])
  (hp:=fun k=>[(4,.row [.int .i64 0,.int .i64 0] (s1+1)),(5,.row [.int .i64 (((l.map g).take k).foldl min (g a)),.int .i64 (((l.map g).take k).foldl max (g a))] (s2+1))]) (ms:=fun k=>l.length - k) 0 (by simp) (by simp) (by simp) ?_
 intro k hk J hJ
 by_cases hkc:k<l.length
 ·have hkm:k<(l.map g).length:=by simpa using hkc
  have e1 :((l.map g).take (k+1)).foldl min (g a)=min (((l.map g).take k).foldl min (g a)) (g l[k]):=by
   rw[←List.take_append_getElem hkm,List.foldl_append];simp
  have e2 :((l.map g).take (k+1)).foldl max (g a)=max (((l.map g).take k).foldl max (g a)) (g l[k]):=by
   rw[←List.take_append_getElem hkm,List.foldl_append];simp
  have hfk:=hf l[k] (by simp)
  have h6k:6≤(l.length - k)*6:=by omega
  simp[hkc]
  refine ⟨by omega,fun s3=>?_⟩
  refine FCall.pure' hfk (by simp) (by simp) ?_
  simp
  refine FCall.pure' hfk (by simp) (by simp) ?_
  simp
  (repeat first|refine And.intro (by omega) ?_|refine And.intro (Fits.of (by omega) (by omega)) ?_)
  exact hJ.next (k+1) (by omega) (by omega) (by simp) (by simp[e1,e2])
 obtain rfl:k=l.length:=by omega
 have ht :(l.map g).take l.length=l.map g:=List.take_of_length_le (by simp)
 simp
 refine hJ.exit ?_
 rw[ht]
 simp
 exact RetV.refl (by simp[SP2,spanOf,hh])
theorem truths_in {h:Hul} (hv:h.Valid) {q:Int} {t:List Int} (ht:t∈h.truths q):t.length=h.n∧∀i,0≤ofL t i∧ofL t i≤4:=by
 unfold Hul.truths at ht
 obtain ⟨h1,h2⟩:=mem_allT.1 (List.mem_filter.1 ht).1
 rw[Hul.mosts_length] at h1 h2
 refine ⟨h1,fun i=>?_⟩
 by_cases hi:i<h.n
 ·have:=h2 i hi
  have hm:=hv.most (List.getElem?_eq_getElem (show i<h.mosts.length by rw[Hul.mosts_length];exact hi))
  rw[ofL_at _ (show i<h.mosts.length by rw[Hul.mosts_length];exact hi)] at hm
  omega
 ·rw[ofL_none _ (by omega)];omega
theorem leak_hull_total_1_ok (c:Nat→Int) (hc:∀i,i<6→0≤c i∧c i≤100) (s:Int) (hs:0≤s∧s<2^62) :
 APure Pg fn_leak_hull_total_1 [inf c,.pv [.func (.func fn_leak_inflow_sum) [] []],.pv [.int .u64 s]] (.int .i64 (sumN 6 fun i=>if inS s i then c i else 0)):=by
 refine leak_hull_total_1.e.p (by simp) ?_
 simp
 intro s1
 refine FCall.pure (PInv.func (leak_inflow_sum_ok c hc s hs)) ?_
 simp
 exact RetV.refl rfl
end Go.Cw
end
section
namespace Go.Cw
open Go Go.Proofs
section
variable {F n₀:Nat} {inr:Bool} {keep:List Nat} {t:Option Nat} {K:KT} {Q:Post} {tm:TM} {df:DF} {hp:Heap}
theorem FCall.truths {h:Hul} (hv:h.Valid) {s:Nat} {M:List (List Int)} (hM:∀l∈M,l.length=2) (ht:h.truths h.every≠[]) (hm:hp 200=.map (h.memo M) s)
 (k:∀M',(∀l∈M',l.length=2)→K (putD tm t (LI (h.truths h.every))) df (upd hp 200 (.map (h.memo M') s))) :
 FCall ⟨Pg,F,n₀,inr,keep⟩ (.func (.func fn_leak_hull_truths) [] []) [h.H 200 s] [] [] t K Q tm df hp:=by
 refine FCall.cps [(200,.map (h.memo M) s)] (fun _ : {M':List (List Int) // ∀l∈M',l.length=2}=>LI (h.truths h.every)) (fun M'=>[(200,.map (h.memo M'.1) s)]) (fun _=>True) (fun K' hK'=>AInvoke.func ?_) ⟨hm,trivial⟩ (fun _=>rfl) trivial (fun M' _=>⟨trivial,k M'.1 M'.2⟩)
 exact leak_hull_truths_ok h hv s M hM ht K' fun M' hM'=>hK' ⟨M',hM'⟩ trivial
end
theorem sumT_six {h:Hul} (hv:h.Valid) {q:Int} {t:List Int} (ht:t∈h.truths q) (s:Int) :(sumN 6 fun i=>if inS s i then ofL t i else 0)=Hul.sumT t s:=by
 obtain ⟨h1,_⟩:=truths_in hv ht
 unfold Hul.sumT
 refine sumN_ext (by have:=hv.n6;omega) fun i hi=>?_
 rw[ofL_none _ hi];simp
theorem leak_hull_total_ok (h:Hul) (hv:h.Valid) (q:Int) (hq:0≤q∧q<2^62) (s:Nat) (M:List (List Int)) (hM:∀l∈M,l.length=2) (ht:h.truths h.every≠[])
 (K:AEnd→Heap→Prop) (hK:∀M',(∀l∈M',l.length=2)→K (.ret (SP2 (spanOf ((h.truths h.every).map (Hul.sumT · q))))) (hpV [(200,.map (h.memo M') s)])) :
 ACalls Pg fn_leak_hull_total [h.H 200 s,.int .u64 q] (hpV [(200,.map (h.memo M) s)]) K:=by
 have hlen:=hv.ext_len h.every []
 rw[←Hul.truths_ext] at hlen
 refine leak_hull_total.e 0 (by simp) ?_
 simp
 intro s3 s4 s5
 refine FCall.truths hv hM ht (by simp) fun M2 hM2=>?_
 simp
 refine FCall.frz2 5 3 (cells:=[.func (.func fn_leak_inflow_sum) [] []]) (cells':=[.int .u64 q]) (s:=s5+1) (s':=s3+1) (v:=SP2 (spanOf ((h.truths h.every).map (Hul.sumT · q)))) (by simp) (by simp) (by omega) ?_ trivial ⟨trivial,?_⟩
 ·simp
  refine PInv.func (leak_sums_ok (h.truths h.every) ht (by omega) _ (Hul.sumT · q) fun x hx=>?_)
  have hx4:=(truths_in hv hx).2
  have:=PInv.func (first:=[]) (cap:=[.pv [.func (.func fn_leak_inflow_sum) [] []],.pv [.int .u64 q]]) (args:=[inf (ofL x)]) (leak_hull_total_1_ok (ofL x) (fun i _=>by have:=hx4 i;omega) q hq)
  rw[sumT_six hv hx] at this
  exact this
 simp[SP2]
 refine RetV.view [(200,.map (h.memo M2) s)] (by simp) ?_
 simpa[SP2] using hK M2 hM2
end Go.Cw
end
section
namespace Go.Cw
open Go Go.Proofs
def deads (hs:List (Nat×AObj)):List (Nat×AObj):=hs.map fun x=>(x.1,.dead)
theorem deads_fst (hs:List (Nat×AObj)) :(deads hs).map Prod.fst=hs.map Prod.fst:=by simp[deads]
theorem hpV_deads (hs:List (Nat×AObj)) (r:Nat):hpV (deads hs) r=.dead:=by
 induction hs with
 | nil=>rfl
 | cons x hs ih=>
   obtain ⟨a,o⟩:=x
   show upd (hpV (deads hs)) a .dead r=.dead
   unfold upd
   split
   ·rfl
   ·exact ih
section
variable {E : Env} {fv v:AVal} {args:List AVal} {fl:List It} {d:Option Nat} {K:KT} {Q:Post} {tm:TM} {df:DF} {h:Heap}
theorem FCall.panV (hs:List (Nat×AObj)) (hw:Hw hs h) (a:AInvoke E.P fv args (hpV hs) fun e _=>e=.pan v) (k:Q (.panic v) (kpT E.keep tm) df (updL h (deads hs))):FCall E fv args [] fl d K Q tm df h:=by
 refine ⟨hpV hs,HLe.view hw,trivial,a.mono ?_⟩
 rintro e h' rfl
 simp only[CallK]
 refine ⟨updL h (deads hs),fun r=>?_,trivial,k⟩
 by_cases hr:r∈hs.map Prod.fst
 ·right
  rw[updL_some (by rw[deads_fst];exact hr),hpV_deads]
 ·have e1:updL h (deads hs) r=h r:=updL_none (by rw[deads_fst];exact hr)
  by_cases hd:h r=.dead
  ·right;rw[e1,hd]
  ·left;rw[e1];exact (glue_out (hpV_none hr) hd).symm
end
theorem leak_hull_truths_pan (h:Hul) (hv:h.Valid) (s:Nat) (M:List (List Int)) (hM:∀l∈M,l.length=2) (ht:h.truths h.every=[]) :
 ACalls Pg fn_leak_hull_truths [h.H 200 s] (hpV [(200,.map (h.memo M) s)]) fun e _=>e=.pan (refV 10):=by
 refine leak_hull_truths.e 0 (by simp) ?_
 simp
 refine FCall.pure (PInv.func (leak_hull_every_ok h hv 200 s)) ?_
 simp
 refine FCall.cps [(200,.map (h.memo M) s)] (fun _ : {M':List (List Int) // ∀l∈M',l.length=2}=>.func (.func fn_leak_hull_inflows_1) [] [.pv [h.H 200 s],.pv [h.C h.every]]) (fun M'=>[(200,.map (h.memo M'.1) s)]) (fun _=>True) (fun K' hK'=>AInvoke.func ?_) (by simp) (fun _=>rfl) trivial (fun M' _=>⟨trivial,?_⟩)
 ·exact leak_hull_inflows_ok h hv h.every (Hul.every62 hv) 200 s M hM K' fun M' hM'=>hK' ⟨M',hM'⟩ trivial
 simp
 refine FCall.pure (PInv.func (slices_Collect_ok h hv h.every 200 s)) ?_
 simp[ht]
 refine FCall.pan (PInvPan.func (leak_want_pan 10)) ?_
 simp
 exact ⟨_,HLe.refl _,trivial⟩
theorem leak_hull_total_pan (h:Hul) (hv:h.Valid) (q:Int) (s:Nat) (M:List (List Int)) (hM:∀l∈M,l.length=2) (ht:h.truths h.every=[]) :
 ACalls Pg fn_leak_hull_total [h.H 200 s,.int .u64 q] (hpV [(200,.map (h.memo M) s)]) fun e _=>e=.pan (refV 10):=by
 refine leak_hull_total.e 0 (by simp) ?_
 simp
 intro s3 s4 s5
 refine FCall.panV [(200,.map (h.memo M) s)] (by simp) (AInvoke.func (leak_hull_truths_pan h hv s M hM ht)) ?_
 simp
 exact ⟨_,HLe.refl _,trivial⟩
end Go.Cw
end
section
namespace Go.Cw
open Go Go.Proofs
noncomputable def Hul.sumV (h:Hul) (ok:Prop) [Decidable ok] (q:Int):AVal:=if h.Valid then (if ok then (if h.truths h.every=[] then .tup [SP2 (0,0),.int .i64 10] else .tup [SP2 (spanOf ((h.truths h.every).map (Hul.sumT · q))),.int .i64 0]) else .tup [SP2 (0,0),.int .i64 2]) else .tup [SP2 (0,0),.int .i64 1]
end Go.Cw
end
section
namespace Go.Cw
open Go Go.Proofs
theorem leak_Flow_ok (h:Hul) (hs:h.Small) (d l:Int):APure Pg fn_leak_Flow [h.v,.int .i64 d,.int .i64 l] (h.sumV (Hul.At d l) (h.wet d l)):=by
 refine leak_Flow.e.p (by simp) ?_
 simp
 intro s1 s2 s3 s4
 refine PCallK.intro (PInv.func (leak_isPlace_ok d l)) ?_
 simp
 by_cases hv:¬h.Valid
 ·refine FCall.pan (PInvPan.func (leak_open_arg h hs hv _)) ?_
  simp
  refine RetD.panic rfl leak_Flow_1.recClo ?_
  refine ACalls.cps [(7,.row [.int .i64 0] (s3+1))] (fun _:Unit=>.tup []) (fun _=>[(7,.row [.int .i64 1] (s3+1))]) (fun _=>True) (fun K' hK'=>leak_said_ref _ _ _ _ K' (hK' () trivial)) (by simp) (fun _=>rfl) fun _ _=>?_
  simp
  exact RetV.refl (by simp[Hul.sumV,hv,SP2])
 replace hv:=Classical.not_not.1 hv
 by_cases ha:¬Hul.At d l
 ·simp[ha]
  refine FCall.pan (PInvPan.func (leak_open_range h hs hv)) ?_
  simp
  refine RetD.panic rfl leak_Flow_1.recClo ?_
  refine ACalls.cps [(7,.row [.int .i64 0] (s3+1))] (fun _:Unit=>.tup []) (fun _=>[(7,.row [.int .i64 2] (s3+1))]) (fun _=>True) (fun K' hK'=>leak_said_ref _ _ _ _ K' (hK' () trivial)) (by simp) (fun _=>rfl) fun _ _=>?_
  simp
  exact RetV.refl (by simp[Hul.sumV,hv,ha,SP2])
 replace ha:=Classical.not_not.1 ha
 have hq:=Hul.wet62 hv d l
 simp[ha]
 refine FCall.cps [(200,.dead)] (fun s:Nat=>h.H 200 s) (fun s=>[(200,.map [] s)]) (fun _=>True) (fun K' hK'=>AInvoke.func (leak_open_ok h hs hv 200 K' fun s=>hK' s trivial)) (by simp) (fun _=>rfl) trivial (fun s _=>⟨trivial,?_⟩)
 simp
 refine FCall.wet hv ha (M:=[]) (by simp) (by simp;rfl) trivial fun M0 hM0=>⟨trivial,?_⟩
 simp
 by_cases ht:h.truths h.every=[]
 ·refine FCall.panV [(200,.map (h.memo M0) s)] (by simp) (AInvoke.func (leak_hull_total_pan h hv (h.wet d l) s M0 hM0 ht)) ?_
  simp[deads]
  refine RetD.panic rfl leak_Flow_1.recClo ?_
  refine ACalls.cps [(7,.row [.int .i64 0] (s3+1))] (fun _:Unit=>.tup []) (fun _=>[(7,.row [.int .i64 10] (s3+1))]) (fun _=>True) (fun K' hK'=>leak_said_ref _ _ _ _ K' (hK' () trivial)) (by simp) (fun _=>rfl) fun _ _=>?_
  simp
  exact RetV.refl (by simp[Hul.sumV,hv,ha,ht,SP2])
 refine FCall.cps [(200,.map (h.memo M0) s)] (fun _ : {M':List (List Int) // ∀l∈M',l.length=2}=>SP2 (spanOf ((h.truths h.every).map (Hul.sumT · (h.wet d l))))) (fun M'=>[(200,.map (h.memo M'.1) s)]) (fun _=>True) (fun K' hK'=>AInvoke.func ?_) (by simp) (fun _=>rfl) trivial (fun M' _=>⟨trivial,?_⟩)
 ·exact leak_hull_total_ok h hv (h.wet d l) hq s M0 hM0 ht K' fun M' hM'=>hK' ⟨M',hM'⟩ trivial
 simp[SP2]
 refine RetD.ret rfl leak_Flow_1.recClo ((leak_said_nil _ _).mono ?_)
 rintro e h' ⟨rfl,rfl⟩
 simp
 exact RetV.refl (by simp[Hul.sumV,hv,ha,ht,SP2])
end Go.Cw
end
section
namespace Go.Cw
open Go Go.Proofs
theorem leak_Rate_ok (h:Hul) (hs:h.Small) (q:Int):APure Pg fn_leak_Rate [h.v,.int .i64 q] (h.sumV (h.Seam q) (2^q.toNat)):=by
 refine leak_Rate.e.p (by simp) ?_
 simp
 intro s1 s2 s3
 have h40:h.n≤40:=hs.s
 have hl:h.seams.length=h.n:=rfl
 refine ⟨by unfold Fits;omega,PCallK.intro (PInv.func (leak_within_ok _ _ _)) ?_⟩
 have hsm:decide (0≤q∧q≤(h.seams.length:Int) - 1)=decide (h.Seam q):=by
  rw[decide_eq_decide];unfold Hul.Seam;omega
 rw[hsm]
 simp
 by_cases hv:¬h.Valid
 ·refine FCall.pan (PInvPan.func (leak_open_arg h hs hv _)) ?_
  simp
  refine RetD.panic rfl leak_Rate_1.recClo ?_
  refine ACalls.cps [(5,.row [.int .i64 0] (s3+1))] (fun _:Unit=>.tup []) (fun _=>[(5,.row [.int .i64 1] (s3+1))]) (fun _=>True) (fun K' hK'=>leak_said_ref _ _ _ _ K' (hK' () trivial)) (by simp) (fun _=>rfl) fun _ _=>?_
  simp
  exact RetV.refl (by simp[Hul.sumV,hv,SP2])
 replace hv:=Classical.not_not.1 hv
 by_cases ha:¬h.Seam q
 ·simp[ha]
  refine FCall.pan (PInvPan.func (leak_open_range h hs hv)) ?_
  simp
  refine RetD.panic rfl leak_Rate_1.recClo ?_
  refine ACalls.cps [(5,.row [.int .i64 0] (s3+1))] (fun _:Unit=>.tup []) (fun _=>[(5,.row [.int .i64 2] (s3+1))]) (fun _=>True) (fun K' hK'=>leak_said_ref _ _ _ _ K' (hK' () trivial)) (by simp) (fun _=>rfl) fun _ _=>?_
  simp
  exact RetV.refl (by simp[Hul.sumV,hv,ha,SP2])
 replace ha:=Classical.not_not.1 ha
 obtain ⟨i,rfl⟩:=Int.eq_ofNat_of_zero_le ha.1
 have hi:i<h.n:=by have:=ha.2;omega
 have hq :(0:Int)≤2^i∧(2:Int)^i<2^62:=by
  have h0:=two_pow_pos i
  have h2:=two_pow_le (show i≤40 by omega)
  have :(2:Int)^40<2^62:=by decide
  exact ⟨by omega,by omega⟩
 have hw:=wrapU_pow (show i≤60 by omega)
 simp[ha]
 refine FCall.cps [(200,.dead)] (fun s:Nat=>h.H 200 s) (fun s=>[(200,.map [] s)]) (fun _=>True) (fun K' hK'=>AInvoke.func (leak_open_ok h hs hv 200 K' fun s=>hK' s trivial)) (by simp) (fun _=>rfl) trivial (fun s _=>⟨trivial,?_⟩)
 simp[hw]
 refine ⟨by omega,?_⟩
 by_cases ht:h.truths h.every=[]
 ·refine FCall.panV [(200,.map (h.memo []) s)] (by simp;rfl) (AInvoke.func (leak_hull_total_pan h hv (2^i) s [] (by simp) ht)) ?_
  simp[deads]
  refine RetD.panic rfl leak_Rate_1.recClo ?_
  refine ACalls.cps [(5,.row [.int .i64 0] (s3+1))] (fun _:Unit=>.tup []) (fun _=>[(5,.row [.int .i64 10] (s3+1))]) (fun _=>True) (fun K' hK'=>leak_said_ref _ _ _ _ K' (hK' () trivial)) (by simp) (fun _=>rfl) fun _ _=>?_
  simp
  exact RetV.refl (by simp[Hul.sumV,hv,ha,ht,SP2])
 refine FCall.cps [(200,.map (h.memo []) s)] (fun _ : {M':List (List Int) // ∀l∈M',l.length=2}=>SP2 (spanOf ((h.truths h.every).map (Hul.sumT · (2^i))))) (fun M'=>[(200,.map (h.memo M'.1) s)]) (fun _=>True) (fun K' hK'=>AInvoke.func ?_) (by simp;rfl) (fun _=>rfl) trivial (fun M' _=>⟨trivial,?_⟩)
 ·exact leak_hull_total_ok h hv (2^i) hq s [] (by simp) ht K' fun M' hM'=>hK' ⟨M',hM'⟩ trivial
 simp[SP2]
 refine RetD.ret rfl leak_Rate_1.recClo ((leak_said_nil _ _).mono ?_)
 rintro e h' ⟨rfl,rfl⟩
 simp
 exact RetV.refl (by simp[Hul.sumV,hv,ha,ht,SP2])
end Go.Cw
end
section
namespace Go.Cw
open Go Go.Proofs
def canL (l:List (List Int)) (i:Nat):Bool:=l.any fun t=>decide (0<ofL t i)
def sureL (l:List (List Int)) (i:Nat):Bool:=l.all fun t=>decide (0<ofL t i)
noncomputable def Hul.leaksV (h:Hul):AVal:=if h.Valid then (if h.truths h.every=[] then .tup [.int .i64 0,.int .i64 0,.int .i64 10] else .tup [.int .i64 (bits (canL (h.truths h.every)) 6),.int .i64 (bits (sureL (h.truths h.every)) 6),.int .i64 0]) else .tup [.int .i64 0,.int .i64 0,.int .i64 1]
theorem leak_Leaks_ok (h:Hul) (hs:h.Small):APure Pg fn_leak_Leaks [h.v] h.leaksV:=by
 refine leak_Leaks.e.p (by simp) ?_
 simp
 intro s1 s2
 by_cases hv:¬h.Valid
 ·refine FCall.pan (PInvPan.func (leak_open_arg h hs hv _)) ?_
  simp
  refine RetD.panic rfl leak_Leaks_1.recClo ?_
  refine ACalls.cps [(4,.row [.int .i64 0] (s2+1))] (fun _:Unit=>.tup []) (fun _=>[(4,.row [.int .i64 1] (s2+1))]) (fun _=>True) (fun K' hK'=>leak_said_ref _ _ _ _ K' (hK' () trivial)) (by simp) (fun _=>rfl) fun _ _=>?_
  simp
  exact RetV.refl (by simp[Hul.leaksV,hv])
 replace hv:=Classical.not_not.1 hv
 refine FCall.cps [(200,.dead)] (fun s:Nat=>h.H 200 s) (fun s=>[(200,.map [] s)]) (fun _=>True) (fun K' hK'=>AInvoke.func (leak_open_ok h hs hv 200 K' fun s=>hK' s trivial)) (by simp) (fun _=>rfl) trivial (fun s _=>⟨trivial,?_⟩)
 simp
 by_cases ht:h.truths h.every=[]
 ·refine FCall.panV [(200,.map (h.memo []) s)] (by simp;rfl) (AInvoke.func (leak_hull_truths_pan h hv s [] (by simp) ht)) ?_
  simp[deads]
  refine RetD.panic rfl leak_Leaks_1.recClo ?_
  refine ACalls.cps [(4,.row [.int .i64 0] (s2+1))] (fun _:Unit=>.tup []) (fun _=>[(4,.row [.int .i64 10] (s2+1))]) (fun _=>True) (fun K' hK'=>leak_said_ref _ _ _ _ K' (hK' () trivial)) (by simp) (fun _=>rfl) fun _ _=>?_
  simp
  exact RetV.refl (by simp[Hul.leaksV,hv,ht])
 have hlen:=hv.ext_len h.every []
 rw[←Hul.truths_ext] at hlen
 refine FCall.truths hv (M:=[]) (by simp) ht (by simp;rfl) fun M2 hM2=>?_
 obtain ⟨T,hT⟩ : ∃T,T=h.truths h.every:=⟨_,rfl⟩
 rw[←hT] at hlen ⊢
 simp
 refine Lp.intro (σ:=Nat) (inv:=fun k=>k≤T.length) (vw:=fun k=>[(4,.ptr 4 0 (s2+1)),(5,.int .u64 (bits (sureL (T.take k)) 6)),(6,.int .u64 (bits (canL (T.take k)) 6)),(13,LI T),(14,.int .i64 T.length),(15,.int .i64 k)])
  (hp:=fun _=>[(4,.row [.int .i64 0] (s2+1))]) (ms:=fun k=>T.length - k) 0 (by simp) (by simp[bits,sureL,canL]) (by simp) ?_
 intro k hk J hJ
 by_cases hkc:k<T.length
 ·have e1 :(fun i=>sureL (T.take k) i && decide (0<ofL T[k] i))=sureL (T.take (k+1)):=by
   funext i;unfold sureL;rw[←List.take_append_getElem hkc,List.all_append];simp
  have e2 :(fun i=>canL (T.take k) i || decide (0<ofL T[k] i))=canL (T.take (k+1)):=by
   funext i;unfold canL;rw[←List.take_append_getElem hkc,List.any_append];simp
  have a1:=bitsU_and (sureL (T.take k)) (fun i=>decide (0<ofL T[k] i)) (show 6≤60 by omega)
  have a2:=bitsU_or (canL (T.take k)) (fun i=>decide (0<ofL T[k] i)) (show 6≤60 by omega)
  rw[e1] at a1
  rw[e2] at a2
  have hlk:=PInv.func (first:=[inf (ofL T[k])]) (cap:=[]) (args:=[]) (leak_inflow_leaks_ok (ofL T[k]))
  simp[hkc]
  refine ⟨by omega,fun s3=>?_⟩
  refine FCall.pure (v:=.int .u64 (bits (fun i=>decide (0<ofL T[k] i)) 6)) hlk ?_
  simp[a1]
  refine FCall.pure (v:=.int .u64 (bits (fun i=>decide (0<ofL T[k] i)) 6)) hlk ?_
  simp[a2]
  (repeat first|refine And.intro (by omega) ?_|refine And.intro (Fits.of (by omega) (by omega)) ?_)
  exact hJ.next (k+1) (by omega) (by omega) (by simp) (by simp)
 obtain rfl:k=T.length:=by omega
 have b1:=bits_lt (canL T) 6
 have b2:=bits_lt (sureL T) 6
 have e6 :(2:Int)^6=64:=by decide
 simp
 refine hJ.exit ?_
 simp
 refine ⟨by unfold Fits;omega,by unfold Fits;omega,?_⟩
 refine RetD.ret rfl leak_Leaks_1.recClo ((leak_said_nil _ _).mono ?_)
 rintro e h' ⟨rfl,rfl⟩
 simp
 refine RetV.refl ?_
 rw[hT] at *
 simp[Hul.leaksV,hv,ht]
end Go.Cw
end
