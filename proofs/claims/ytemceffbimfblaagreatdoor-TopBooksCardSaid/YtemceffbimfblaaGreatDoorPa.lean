/-
  What the functions of layers 6 and 10 compute, and the document's references for them.
-/
import Derived.Test.YtemceffbimfblaaGreatDoorGb
import Derived.Test.YtemceffbimfblaaGreatDoorAf
set_option linter.unusedSectionVars false
set_option linter.unusedSimpArgs false
set_option linter.unusedVariables false
set_option maxRecDepth 100000
section
namespace Go.Cw
open Go Go.Proofs
theorem pitch_within_ok (n lo hi:Int):APure Pg fn_pitch_within [.int .i64 n,.int .i64 lo,.int .i64 hi] (.bool (decide (lo≤n∧n≤hi))):=by
 refine pitch_within.e.p (by simp) ?_
 by_cases h:lo≤n<;>simp[h]<;>refine RetV.refl ?_<;>simp_all
def ptV (e:Int):AVal:=.iface 230 (.agg [.int .i64 e])
namespace Pt
def sumN : Nat→(Nat→Int)→Int
 | 0,_=>0
 | k+1,c=>sumN k c+c k
def inS (s:Int) (i:Nat):Bool:=decide (s / 2^i % 2=1)
def size (s:Int):Int:=sumN 12 fun i=>if inS s i then 1 else 0
def pop1 (x:Int):Int:=IntKind.u64.wrap (bitI .and .u64 (x / 2) 6148914691236517205+bitI .and .u64 x 6148914691236517205)
def pop2 (x:Int):Int:=IntKind.u64.wrap (bitI .and .u64 (x / 4) 3689348814741910323+bitI .and .u64 x 3689348814741910323)
def pop3 (x:Int):Int:=bitI .and .u64 (IntKind.u64.wrap (x / 16+x)) 1085102592571150095
def pop4 (x:Int):Int:=IntKind.u64.wrap (x+x / 256)
def pop5 (x:Int):Int:=IntKind.u64.wrap (x+x / 65536)
def pop6 (x:Int):Int:=IntKind.u64.wrap (x+x / 4294967296)
def popA (x:Int):Int:=pop6 (pop5 (pop4 (pop3 (pop2 (pop1 x)))))
theorem pop_0 : ∀n:Nat,n<1024→(popA n<100000∧0≤popA n)∧bitI .and .i64 (popA n) 127=size n:=by decide +kernel
theorem pop_1 : ∀n:Nat,n<1024→(popA (1024+n:Nat)<100000∧0≤popA (1024+n:Nat))∧bitI .and .i64 (popA (1024+n:Nat)) 127=size (1024+n:Nat):=by decide +kernel
theorem pop_2 : ∀n:Nat,n<1024→(popA (2048+n:Nat)<100000∧0≤popA (2048+n:Nat))∧bitI .and .i64 (popA (2048+n:Nat)) 127=size (2048+n:Nat):=by decide +kernel
theorem pop_3 : ∀n:Nat,n<1024→(popA (3072+n:Nat)<100000∧0≤popA (3072+n:Nat))∧bitI .and .i64 (popA (3072+n:Nat)) 127=size (3072+n:Nat):=by decide +kernel
theorem pop_all (n:Nat) (hn:n<4096) :(popA n<100000∧0≤popA n)∧bitI .and .i64 (popA n) 127=size n:=by
 rcases (show n<1024∨(1024≤n∧n<2048)∨(2048≤n∧n<3072)∨3072≤n by omega) with h|h|h|h
 ·exact pop_0 n h
 ·have:=pop_1 (n - 1024) (by omega);rwa [show 1024+(n - 1024)=n by omega] at this
 ·have:=pop_2 (n - 2048) (by omega);rwa [show 2048+(n - 2048)=n by omega] at this
 ·have:=pop_3 (n - 3072) (by omega);rwa [show 3072+(n - 3072)=n by omega] at this
end Pt
theorem pt_OnesCount64_ok (x:Int) (hx:0≤x∧x<4096):APure Pg fn_math_bits_OnesCount64 [.int .u64 x] (.int .i64 (Pt.size x)):=by
 obtain ⟨n,rfl⟩:=Int.eq_ofNat_of_zero_le hx.1
 obtain ⟨h1,h2⟩:=Pt.pop_all n (by omega)
 rw[←h2]
 refine math_bits_OnesCount64.e.p (by simp) ?_
 simp
 refine ⟨?_,RetV.refl rfl⟩
 show Fits (Pt.popA n)
 unfold Fits;omega
theorem pt_OnesCount_ok (x:Int) (hx:0≤x∧x<4096):APure Pg fn_math_bits_OnesCount [.int .u64 x] (.int .i64 (Pt.size x)):=by
 refine math_bits_OnesCount.e.p (by simp) ?_
 simp
 refine PCallK.intro (PInv.func (pt_OnesCount64_ok x hx)) ?_
 simp
 exact RetV.refl rfl
theorem pitch_hours_count_ok (x:Int) (hx:0≤x∧x<4096):APure Pg fn_pitch_hours_count [.int .u64 x] (.int .i64 (Pt.size x)):=by
 refine pitch_hours_count.e.p (by simp) ?_
 simp
 refine PCallK.intro (PInv.func (pt_OnesCount_ok x hx)) ?_
 simp
 exact RetV.refl rfl
end Go.Cw
end
section
namespace Go.Cw
open Go Go.Proofs
namespace Pt
def str (a b:Nat):Nat:=2^b - 2^a
theorem p12 {k:Nat} (h:k≤12):2^k≤4096:=Nat.pow_le_pow_right (n:=2) (by decide) h
theorem str_lt {a b:Nat} (hb:b≤12):str a b<4096:=by
 have:=p12 hb
 have:=Nat.two_pow_pos a
 unfold str;omega
theorem and_lt {a:Nat} (b:Nat) (h:a<4096):a &&& b<4096:=Nat.lt_of_le_of_lt Nat.and_le_left h
theorem or_lt {a b:Nat} (h:a<4096) (k:b<4096):a ||| b<4096:=Nat.or_lt_two_pow (n:=12) h k
theorem lt62 {a:Nat} (h:a<4096):a<2^62:=Nat.lt_of_lt_of_le h (by decide)
def us (l:List Nat):List AVal:=l.map fun (n:Nat)=>.int .u64 n
end Pt
open Pt in
theorem pitch_stretch_ok {a b:Nat} (hab:a≤b) (hb:b≤12):APure Pg fn_pitch_stretch [.int .i64 a,.int .i64 b] (.int .u64 (str a b:Nat)):=by
 have e :(4096:Int)<2^62:=by decide
 have h1 :((2^b:Nat):Int)≤4096:=by exact_mod_cast p12 hb
 have h2 :((2^a:Nat):Int)≤4096:=by exact_mod_cast p12 (show a≤12 by omega)
 have h3 :(2^a:Nat)≤2^b:=Nat.pow_le_pow_right (by decide) hab
 have h4 :((str a b:Nat):Int) =(2:Int)^b - (2:Int)^a:=by unfold str;rw[Int.natCast_sub h3];simp
 have h5:=str_lt (a:=a) hb
 have w1:IntKind.u64.wrap (2^b)=2^b:=by have:=wrap_u64 (n:=((2^b:Nat):Int)) (Int.natCast_nonneg _) (by omega);simpa using this
 have w2:IntKind.u64.wrap (2^a)=2^a:=by have:=wrap_u64 (n:=((2^a:Nat):Int)) (Int.natCast_nonneg _) (by omega);simpa using this
 have w3:IntKind.u64.wrap (2^b - 2^a) =(str a b:Nat):=by rw[←h4];exact wrap_u64 (Int.natCast_nonneg _) (by omega)
 refine pitch_stretch.e.p (by simp) ?_
 simp[w1,w2,w3]
 exact ⟨by omega,by omega,RetV.refl rfl⟩
theorem pitch_hours_meets_ok {x y:Nat} (hx:x<2^62) (hy:y<2^62):APure Pg fn_pitch_hours_meets [.int .u64 x,.int .u64 y] (.bool (decide (x &&& y≠0))):=by
 refine pitch_hours_meets.e.p (by simp) ?_
 simp[bitU_and x y hx hy]
 exact RetV.refl (by simp)
open Pt in
theorem pitch_joined_ok {l:List Nat} (hl:∀x∈l,x<4096) (hn:l.length<100):APure Pg fn_pitch_joined [.vl l.length (us l)] (.int .u64 (l.foldl (· ||| ·) 0:Nat)):=by
 have hf:∀k,(l.take k).foldl (· ||| ·) 0<4096:=by
  intro k
  induction k with
  | zero=>simp
  | succ k ih=>
    by_cases hk:k<l.length
    ·rw[←List.take_append_getElem hk,List.foldl_append]
     exact or_lt ih (hl _ (by simp))
    ·rw[List.take_of_length_le (by omega)] at ih ⊢;exact ih
 refine pitch_joined.e.p (by simp) ?_
 simp
 refine Lp.intro (σ:=Nat) (inv:=fun k=>k≤l.length) (vw:=fun k=>[(2,.int .u64 ((l.take k).foldl (· ||| ·) 0:Nat)),(5,.vl l.length (us l)),(6,.int .i64 l.length),(7,.int .i64 k)]) (hp:=fun _=>[]) (ms:=fun k=>l.length - k) 0 (by simp) (by simp) (by simp) ?_
 intro k hk J hJ
 by_cases hkl:k<l.length
 ·have hx :((us l).drop k).head? = some (.int .u64 (l[k]:Nat)):=by simp[us,hkl]
  simp[hkl,hx,bitU_or _ _ (lt62 (hf k)) (lt62 (hl l[k] (by simp)))]
  refine ⟨by simp[Fits];omega,?_⟩
  refine hJ.next (k+1) (by omega) (by omega) ?_ (by simp)
  simp only[Vw_cons,Vw_nil,and_true]
  refine ⟨?_,by simp,by simp,by simp⟩
  rw[←List.take_append_getElem hkl,List.foldl_append]
  simp
 ·simp[hkl]
  refine hJ.exit ?_
  obtain rfl:k=l.length:=by omega
  simp
  exact RetV.refl rfl
end Go.Cw
end
section
namespace Go.Cw
open Go Go.Proofs
structure Pot where
 h:Int
 f:Int
 b:Int
 deriving DecidableEq
def Pot.c (a:Pot):List AVal:=[.int .i64 a.h,.int .i64 a.f,.int .i64 a.b]
theorem Pot.w (a:Pot):a.c.length=3:=rfl
def pots (l:List Pot):List AVal:=fl Pot.c l
section
variable (l : List Pot)
@[simp] theorem pots_length :(pots l).length=l.length*3:=fl_len Pot.w l
@[simp] theorem pots_drop (k:Nat) :(pots l).drop (k*3)=pots (l.drop k):=fl_drop Pot.w l k
@[simp] theorem pots_head :(pots l).head? = l.head?.map fun a=>.int .i64 a.h:=by cases l<;>rfl
@[simp] theorem pots_get1 :(pots l)[1]? = l.head?.map fun a=>.int .i64 a.f:=by cases l<;>rfl
@[simp] theorem pots_get2 :(pots l)[2]? = l.head?.map fun a=>.int .i64 a.b:=by cases l<;>rfl
@[simp] theorem pots_take3 :(pots l).take 3 =(l.head?.map fun a=>[.int .i64 a.h,.int .i64 a.f,.int .i64 a.b]).getD []:=by cases l<;>rfl
end
def LPo (l:List Pot):AVal:=.vl l.length (pots l)
section
variable (l : List Pot)
@[simp] theorem frz_LPo (r s:Nat) (cells:List AVal):frz r s cells (LPo l)=LPo l:=(rfl)
@[simp] theorem aLen_LPo : aLen (LPo l)=some (.int .i64 l.length):=(rfl)
@[simp] theorem satIxS_LPo (k:IntKind) (n:Int) (K:AVal→Prop):satIxS 3 (LPo l) (.int k n) K =((0≤n∧n<l.length)∧K (.pv (pots (l.drop n.toNat)))):=by
 simp[LPo]
end
structure Pit where
 hr:Int
 fr:Int
 pe:Int
 fires:List Int
 pots:List Pot
 deriving DecidableEq
namespace Pit
variable (p : Pit)
def c : List AVal:=[.int .i64 p.hr,.int .i64 p.fr,.int .i64 p.pe,L p.fires,LPo p.pots]
def v : AVal:=.agg p.c
def H : Nat:=p.hr.toNat
def cold : Nat:=p.fr.toNat
def colder : Nat:=p.fr.toNat ||| p.pe.toNat
def pv : AVal:=.pv [.int .i64 p.hr,.int .i64 p.fr,.int .i64 p.pe,L p.fires,LPo p.pots,.int .u64 (p.cold:Nat),.int .u64 (p.colder:Nat)]
def isSet (n:Int):Prop:=0≤n∧n≤2^p.H - 1
instance (n : Int):Decidable (p.isSet n):=inferInstanceAs (Decidable (_∧_))
structure Valid : Prop where
 hr:0≤p.hr∧p.hr≤12
 nf:p.fires.length≤3
 np:p.pots.length≤4
 fr:p.isSet p.fr
 pe:p.isSet p.pe
 fi:∀x∈p.fires,p.isSet x
 po:∀t∈p.pots,(1≤t.h∧t.h≤12)∧(0≤t.f∧t.f≤p.hr)∧0≤t.b∧t.b≤p.hr
def pot (i:Nat):Pot:=p.pots.getD i ⟨0,0,0⟩
def fire (i:Nat):Nat:=(p.fires.getD i 0).toNat
def hotG (heat:Int) (hour fr:Nat):Nat→Nat→Nat
 | 0,e=>e
 | k+1,e=>if heat≤2*Pt.size (Pt.str hour e:Nat) - Pt.size (Pt.str hour e &&& fr:Nat) then e else hotG heat hour fr k (e+1)
def hot (pot hour fr:Nat):Nat:=hotG (p.pot pot).h hour fr (p.H - hour) (hour+1)
def takes (pot hour:Nat):Nat:=Pt.str hour (min p.H (p.hot pot hour p.colder))
def broken1 (pot hour:Nat):Bool:=decide ((hour:Int)<(p.pot pot).f)
def broken2 (pot hour:Nat):Bool:=decide ((p.hot pot hour p.colder:Int) >(p.pot pot).b)
def broken3 (pot fire hour:Nat):Bool:=decide (p.takes pot hour &&& p.fire fire≠0)
def alone (pot fire hour:Nat):Bool:=!p.broken1 pot hour && (!p.broken2 pot hour && !p.broken3 pot fire hour)
variable {p}
theorem hotG_le {heat:Int} {hour fr:Nat} : ∀{k e:Nat},e≤hotG heat hour fr k e∧hotG heat hour fr k e≤e+k
 | 0,e=>⟨Nat.le_refl _,Nat.le_refl _⟩
 | k+1,e=>by
   unfold hotG
   split
   ·omega
   ·have:=@hotG_le heat hour fr k (e+1)
    omega
theorem hot_gt (pot fr:Nat) {hour:Nat} : hour+1≤p.hot pot hour fr:=hotG_le.1
theorem _root_.Go.Cw.Pt.size_range (x:Int):0≤Pt.size x∧Pt.size x≤12:=by
 have:∀n,0≤Pt.sumN n (fun i=>if Pt.inS x i then 1 else 0)∧Pt.sumN n (fun i=>if Pt.inS x i then 1 else 0)≤n:=by
  intro n
  induction n with
  | zero=>exact ⟨Int.le_refl _,Int.le_refl _⟩
  | succ n ih=>unfold Pt.sumN;show _+(if Pt.inS x n then 1 else 0)≥_∧_+(if Pt.inS x n then 1 else 0)≤_;split<;>omega
 exact this 12
namespace Valid
variable (hv : p.Valid)
include hv
theorem H12 : p.H≤12:=by have:=hv.hr;unfold H;omega
theorem hrH : p.hr=p.H:=by have:=hv.hr;unfold H;omega
theorem set_lt {n:Int} (h:p.isSet n):n.toNat<4096:=by
 have h1:=Pt.p12 hv.H12
 have h2 :((2^p.H:Nat):Int)≤4096:=by exact_mod_cast h1
 have:=h.2
 simp at h2
 omega
theorem set_u {n:Int} (h:p.isSet n):IntKind.u64.wrap n =(n.toNat:Nat):=by
 have h1:=hv.set_lt h
 have h2:=h.1
 have e :(4096:Int)<2^62:=by decide
 rw[wrap_u64 h.1 (by omega)];omega
theorem cold_lt : p.cold<4096:=hv.set_lt hv.fr
theorem colder_lt : p.colder<4096:=Pt.or_lt (hv.set_lt hv.fr) (hv.set_lt hv.pe)
theorem fire_lt (i:Nat):p.fire i<4096:=by
 unfold fire
 rw[List.getD_eq_getElem?_getD]
 cases h:p.fires[i]? with
 | none=>simp
 | some x=>simpa using hv.set_lt (hv.fi x (List.mem_of_getElem? h))
theorem takes_lt (pot hour:Nat):p.takes pot hour<4096:=Pt.str_lt (by have:=hv.H12;omega)
theorem pot_at {i:Nat} (h:i<p.pots.length):p.pots[i]? = some (p.pot i):=by
 unfold pot;simp[List.getD_eq_getElem?_getD,h]
end Valid
end Pit
theorem pitch_hot_ok {p:Pit} (hv:p.Valid) {i hour fr:Nat} (hi:i<p.pots.length) (hh:hour≤p.H) (hf:fr<4096):APure Pg fn_pitch_pitch_hot [p.pv,.int .i64 i,.int .i64 hour,.int .u64 fr] (.int .i64 (p.hot i hour fr:Nat)):=by
 have h12:=hv.H12
 have hr:=hv.hrH
 have hpo:p.pots[i]=p.pot i:=by have:=hv.pot_at hi;rw[List.getElem?_eq_getElem hi] at this;simpa using this
 refine pitch_pitch_hot.e.p (by simp) ?_
 simp[Pit.pv]
 refine ⟨by simp[Fits];omega,?_⟩
 refine Lp.intro (σ:=Nat) (inv:=fun e=>hour+1≤e∧e≤p.H+1∧Pit.hotG (p.pot i).h hour fr (p.H+1 - e) e=p.hot i hour fr)
  (vw:=fun e=>[(0,p.pv),(1,.int .i64 i),(2,.int .i64 hour),(3,.int .u64 fr),(9,.func (.func fn_pitch_hours_count) [] []),(10,.int .i64 e)]) (hp:=fun _=>[]) (ms:=fun e=>p.H+1 - e) (hour+1) ?_ (by simp[Pit.pv]) (by simp) ?_
 ·exact ⟨Nat.le_refl _,by omega,by unfold Pit.hot;congr 1;omega⟩
 rintro e ⟨h1,h2,h3⟩ J hJ
 by_cases he:e≤p.H
 ·have c1:APure Pg fn_pitch_hours_count [.int .u64 (Pt.str hour e:Nat)] (.int .i64 (Pt.size (Pt.str hour e:Nat))):=pitch_hours_count_ok _ ⟨Int.natCast_nonneg _,by have:=Pt.str_lt (a:=hour) (b:=e) (by omega);omega⟩
  have c2:APure Pg fn_pitch_hours_count [.int .u64 (Pt.str hour e &&& fr:Nat)] (.int .i64 (Pt.size (Pt.str hour e &&& fr:Nat))):=pitch_hours_count_ok _ ⟨Int.natCast_nonneg _,by have:=Pt.and_lt fr (Pt.str_lt (a:=hour) (b:=e) (by omega));omega⟩
  have hb:=bitU_and (Pt.str hour e) fr (Pt.lt62 (Pt.str_lt (by omega))) (Pt.lt62 hf)
  simp[Pit.pv,hr,he]
  refine PCallK.intro (PInv.func (pitch_stretch_ok (a:=hour) (b:=e) (by omega) (by omega))) ?_
  simp[hb,hi,hpo]
  refine FCall.pure' (PInv.func c1) (by simp) (by simp[hi,hpo]) ?_
  have z1:=Pt.size_range (Pt.str hour e:Nat)
  have z2:=Pt.size_range (Pt.str hour e &&& fr:Nat)
  simp
  refine ⟨by simp[Fits];omega,?_⟩
  refine FCall.pure' (PInv.func c2) (by simp) (by simp[hi,hpo]) ?_
  simp
  refine ⟨by simp[Fits];omega,?_⟩
  have hs:Pit.hotG (p.pot i).h hour fr (p.H+1 - e) e=if (p.pot i).h≤2*Pt.size (Pt.str hour e:Nat) - Pt.size (Pt.str hour e &&& fr:Nat) then e else Pit.hotG (p.pot i).h hour fr (p.H - e) (e+1):=by
   rw[show p.H+1 - e =(p.H - e)+1 by omega]
   rfl
  rw[hs] at h3
  by_cases hc :(p.pot i).h≤2*Pt.size (Pt.str hour e:Nat) - Pt.size (Pt.str hour e &&& fr:Nat)
  ·rw[if_pos hc] at h3
   simp[hc]
   refine hJ.ret ?_
   simp
   exact RetV.refl (by simp[h3])
  ·rw[if_neg hc] at h3
   simp[hc]
   refine ⟨by simp[Fits];omega,?_⟩
   exact hJ.next (e+1) ⟨by omega,by omega,by rw[←h3];congr 1;omega⟩ (by omega) (by simp[Pit.pv,hr]) (by simp)
 ·have hlast:p.H+1 - e=0:=by omega
  rw[hlast] at h3
  simp[Pit.pv,hr,he]
  refine hJ.exit ?_
  simp
  refine ⟨by simp[Fits];omega,RetV.refl ?_⟩
  have:e=p.H+1:=by omega
  rw[←h3,this]
  simp[Pit.hotG]
theorem pitch_takes_ok {p:Pit} (hv:p.Valid) {i hour:Nat} (hi:i<p.pots.length) (hh:hour≤p.H):APure Pg fn_pitch_pitch_takes [p.pv,.int .i64 i,.int .i64 hour] (.int .u64 (p.takes i hour:Nat)):=by
 have h12:=hv.H12
 have hr:=hv.hrH
 have h1:=Pit.hot_gt (p:=p) i p.colder (hour:=hour)
 refine pitch_pitch_takes.e.p (by simp) ?_
 simp[Pit.pv]
 refine PCallK.intro (PInv.func (pitch_hot_ok hv hi hh hv.colder_lt)) ?_
 have hm:min (p.hr:Int) (p.hot i hour p.colder:Nat) =(min p.H (p.hot i hour p.colder):Nat):=by rw[hr];omega
 simp[hm]
 refine PCallK.intro (PInv.func (by simpa using pitch_stretch_ok (a:=hour) (b:=min p.H (p.hot i hour p.colder)) (by omega) (by omega))) ?_
 simp
 exact RetV.refl rfl
theorem pitch_isPot_ok (p:Pit) (h:p.Valid) (n:Int):APure Pg fn_pitch_pitch_isPot [p.pv,.int .i64 n] (.bool (decide (0≤n∧n≤p.pots.length - 1))):=by
 have:=h.np
 refine pitch_pitch_isPot.e.p (by simp) ?_
 simp[Pit.pv]
 refine ⟨by simp[Fits];omega,?_⟩
 refine PCallK.intro (PInv.func (pitch_within_ok _ _ _)) ?_
 simp
 exact RetV.refl (by simp)
theorem pitch_isHour_ok (p:Pit) (h:p.Valid) (n:Int):APure Pg fn_pitch_pitch_isHour [p.pv,.int .i64 n] (.bool (decide (0≤n∧n≤p.hr - 1))):=by
 have:=h.hr
 refine pitch_pitch_isHour.e.p (by simp) ?_
 simp[Pit.pv]
 refine ⟨by simp[Fits];omega,?_⟩
 refine PCallK.intro (PInv.func (pitch_within_ok _ _ _)) ?_
 simp
 exact RetV.refl (by simp)
end Go.Cw
end
section
namespace Go.Cw
open Go Go.Proofs
def plV (f h:Nat):AVal:=.agg [.int .i64 f,.int .i64 h]
section
variable {p : Pit} (hv:p.Valid) {i f h:Nat} (hi:i<p.pots.length) (hh:h≤p.H) (hf:f<p.fires.length)
include hv hi
theorem pitch_early_ok : APure Pg fn_pitch_early_broken [.agg [],p.pv,.int .i64 i,plV f h] (.bool (p.broken1 i h)):=by
 have hpo:p.pots[i]=p.pot i:=by have:=hv.pot_at hi;rw[List.getElem?_eq_getElem hi] at this;simpa using this
 refine pitch_early_broken.e.p (by simp) ?_
 simp[Pit.pv,plV,hi,hpo]
 intro s1 s2
 exact RetV.refl rfl
include hh
theorem pitch_late_ok : APure Pg fn_pitch_late_broken [.agg [],p.pv,.int .i64 i,plV f h] (.bool (p.broken2 i h)):=by
 have hpo:p.pots[i]=p.pot i:=by have:=hv.pot_at hi;rw[List.getElem?_eq_getElem hi] at this;simpa using this
 refine pitch_late_broken.e.p (by simp) ?_
 simp[Pit.pv,plV,hi,hpo]
 intro s1 s2
 refine PCallK.intro (PInv.func (pitch_hot_ok hv hi hh hv.colder_lt)) ?_
 simp[hi,hpo]
 exact RetV.refl (by simp[Pit.broken2])
include hf
theorem pitch_hull_ok : APure Pg fn_pitch_hull_broken [.agg [],p.pv,.int .i64 i,plV f h] (.bool (p.broken3 i f h)):=by
 have hx:p.isSet p.fires[f]:=hv.fi _ (by simp)
 have hfi :(p.fires[f]).toNat=p.fire f:=by simp[Pit.fire,hf]
 refine pitch_hull_broken.e.p (by simp) ?_
 simp[Pit.pv,plV,hf]
 intro s1 s2
 refine PCallK.intro (PInv.func (pitch_takes_ok hv hi hh)) ?_
 simp[hf,hv.set_u hx,hfi]
 refine PCallK.intro (PInv.func (pitch_hours_meets_ok (Pt.lt62 (hv.takes_lt _ _)) (Pt.lt62 (hv.fire_lt _)))) ?_
 simp
 exact RetV.refl (by simp[Pit.broken3])
end
theorem meth_early : MethAt Pg 303 "caulkworks/pitch.broken" fn_pitch_early_broken:=⟨fun _ _=>by kernel_rfl⟩
theorem meth_late : MethAt Pg 304 "caulkworks/pitch.broken" fn_pitch_late_broken:=⟨fun _ _=>by kernel_rfl⟩
theorem meth_hull : MethAt Pg 305 "caulkworks/pitch.broken" fn_pitch_hull_broken:=⟨fun _ _=>by kernel_rfl⟩
def ruleV : AVal:=.vl 3 [.iface 303 (.agg []),.iface 304 (.agg []),.iface 305 (.agg [])]
theorem pitch_broken_ok {p:Pit} (hv:p.Valid) {i f h:Nat} (hi:i<p.pots.length) (hh:h≤p.H) (hf:f<p.fires.length) :
 APure Pg fn_pitch_pitch_broken [p.pv,.int .i64 i,plV f h,ruleV] (.int .i64 (if p.broken1 i h then 1 else if p.broken2 i h then 2 else if p.broken3 i f h then 3 else 0)):=by
 refine pitch_pitch_broken.e.p (by simp) ?_
 simp[plV,ruleV]
 intro s1
 have m1:PInv Pg (.func (.method "caulkworks/pitch.broken") [.iface 303 (.agg [])] []) [p.pv,.int .i64 i,.agg [.int .i64 f,.int .i64 h]] (.bool (p.broken1 i h)):=fun hp=>AInvoke.meth meth_early (pitch_early_ok hv hi hp)
 have m2:PInv Pg (.func (.method "caulkworks/pitch.broken") [.iface 304 (.agg [])] []) [p.pv,.int .i64 i,.agg [.int .i64 f,.int .i64 h]] (.bool (p.broken2 i h)):=fun hp=>AInvoke.meth meth_late (pitch_late_ok hv hi hh hp)
 have m3:PInv Pg (.func (.method "caulkworks/pitch.broken") [.iface 305 (.agg [])] []) [p.pv,.int .i64 i,.agg [.int .i64 f,.int .i64 h]] (.bool (p.broken3 i f h)):=fun hp=>AInvoke.meth meth_hull (pitch_hull_ok hv hi hh hf hp)
 refine Lp.rounds 4 (LpI.round fun J hJ=>?_)
 simp
 refine FCall.pure m1 ?_
 cases h1:p.broken1 i h with
 | true=>
   simp
   (repeat first|refine And.intro (by omega) ?_|refine And.intro (Fits.of (by omega) (by omega)) ?_)
   refine hJ.ret ?_
   simp
   exact RetV.refl (by simp[*])
 | false=>
   simp
   (repeat first|refine And.intro (by omega) ?_|refine And.intro (Fits.of (by omega) (by omega)) ?_)
   refine hJ.go (LpI.round fun J hJ=>?_)
   simp
   refine FCall.pure m2 ?_
   cases h2:p.broken2 i h with
   | true=>
     simp
     (repeat first|refine And.intro (by omega) ?_|refine And.intro (Fits.of (by omega) (by omega)) ?_)
     refine hJ.ret ?_
     simp
     exact RetV.refl (by simp[*])
   | false=>
     simp
     (repeat first|refine And.intro (by omega) ?_|refine And.intro (Fits.of (by omega) (by omega)) ?_)
     refine hJ.go (LpI.round fun J hJ=>?_)
     simp
     refine FCall.pure m3 ?_
     cases h3:p.broken3 i f h with
     | true=>
       simp
       (repeat first|refine And.intro (by omega) ?_|refine And.intro (Fits.of (by omega) (by omega)) ?_)
       refine hJ.ret ?_
       simp
       exact RetV.refl (by simp[*])
     | false=>
       simp
       (repeat first|refine And.intro (by omega) ?_|refine And.intro (Fits.of (by omega) (by omega)) ?_)
       refine hJ.go (LpI.round fun J hJ=>?_)
       simp
       refine hJ.exit ?_
       simp
       exact RetV.refl (by simp[*])
theorem pitch_alone_ok {p:Pit} (hv:p.Valid) {i f h:Nat} (hi:i<p.pots.length) (hh:h≤p.H) (hf:f<p.fires.length) :
 APure Pg fn_pitch_pitch_alone [p.pv,.int .i64 i,plV f h] (.bool (p.alone i f h)):=by
 refine pitch_pitch_alone.e.p (by simp) ?_
 simp[plV]
 intro s1 s2
 refine FCall.frz1 (v:=.int .i64 (if p.broken1 i h then 1 else if p.broken2 i h then 2 else if p.broken3 i f h then 3 else 0)) 16 (cells:=[.iface 303 (.agg []),.iface 304 (.agg []),.iface 305 (.agg [])]) (s:=s2+1) (by simp) ?_ (by simp) ?_
 ·simpa[Pit.pv,plV,ruleV] using PInv.func (pitch_broken_ok hv hi hh hf)
 simp
 refine RetV.wk (h':=nilH) (nilH_le _) ?_
 simp only[AEnd.ret.injEq,AVal.bool.injEq,Pit.alone]
 cases p.broken1 i h<;>cases p.broken2 i h<;>cases p.broken3 i f h<;>simp
end Go.Cw
end
section
namespace Go.Cw
open Go Go.Proofs
structure Mrk where
 n:Nat
 a:Nat
 b:Nat
 c:Nat
 deriving DecidableEq
namespace Mrk
variable (m : Mrk)
def cs : List AVal:=[.int .i64 m.n,.int .u64 m.a,.int .u64 m.b,.int .u64 m.c]
def v : AVal:=.agg m.cs
@[simp] theorem cs_len : m.cs.length=4:=rfl
@[simp] theorem cs_take : m.cs.take 4=m.cs:=rfl
@[simp] theorem cs_head : m.cs.head? = some (.int .i64 m.n):=rfl
@[simp] theorem cs_set (a b c d:AVal):setRange [a,b,c,d] 0 m.cs=m.cs:=rfl
@[simp] theorem acells_v : acells m.v=some m.cs:=rfl
def at' (f:Nat):Nat:=if f=0 then m.a else if f=1 then m.b else m.c
def next (f own:Nat):Mrk:=if f=0 then ⟨m.n+1,m.a ||| own,m.b,m.c⟩ else if f=1 then ⟨m.n+1,m.a,m.b ||| own,m.c⟩ else ⟨m.n+1,m.a,m.b,m.c ||| own⟩
structure Ok : Prop where
 a:m.a<4096
 b:m.b<4096
 c:m.c<4096
variable {m}
theorem Ok.at' (h:m.Ok) (f:Nat):m.at' f<4096:=by
 unfold Mrk.at'
 split
 ·exact h.a
 split
 ·exact h.b
 exact h.c
theorem Ok.next (h:m.Ok) (f:Nat) {own:Nat} (ho:own<4096) :(m.next f own).Ok:=by
 unfold Mrk.next
 split
 ·exact ⟨Pt.or_lt h.a ho,h.b,h.c⟩
 split
 ·exact ⟨h.a,Pt.or_lt h.b ho,h.c⟩
 exact ⟨h.a,h.b,Pt.or_lt h.c ho⟩
theorem next_n (f own:Nat) :(m.next f own).n=m.n+1:=by unfold Mrk.next;split <;>(try split)<;>rfl
theorem keyLaw : KeyLaw (true,[.i,.i,.i,.i]) Mrk.v:=⟨fun x y=>by
 obtain ⟨n,a,b,c⟩:=x
 obtain ⟨n',a',b',c'⟩:=y
 simp only[keyEq,Mrk.v,Mrk.cs,if_true,flatEq_i,flatEq_nil,Option.map_some,Mrk.mk.injEq]
 congr 1
 rw[Bool.eq_iff_iff]
 simp⟩
end Mrk
theorem flatMap_split {α:Type} (g:Nat→List α) {k n:Nat} (h:k<n):∃r,(List.range n).flatMap g =(List.range k).flatMap g++(g k++r):=by
 obtain ⟨d,rfl⟩:=Nat.exists_eq_add_of_lt h
 induction d with
 | zero=>exact ⟨[],by simp[List.range_succ]⟩
 | succ d ih=>
   obtain ⟨r,hr⟩:=ih (by omega)
   refine ⟨r++g (k+d+1),?_⟩
   rw[show k+(d+1)+1 =(k+d+1)+1 by omega,List.range_succ,List.flatMap_append,hr]
   simp
namespace Pit
variable (p : Pit)
def step1 (m:Mrk) (f h:Nat):List ((Nat×Nat)×Mrk):=if p.takes m.n h &&& m.at' f≠0 then [] else if p.alone m.n f h then [((f,h),m.next f (p.takes m.n h))] else []
def stepsF (m:Mrk) (f:Nat):List ((Nat×Nat)×Mrk):=(List.range p.H).flatMap (p.step1 m f)
def steps (m:Mrk):List ((Nat×Nat)×Mrk):=(List.range p.fires.length).flatMap (p.stepsF m)
def pre (m:Mrk) (f h:Nat):List ((Nat×Nat)×Mrk):=(List.range f).flatMap (p.stepsF m)++(List.range h).flatMap (p.step1 m f)
theorem pre_succ (m:Mrk) (f h:Nat):p.pre m f (h+1)=p.pre m f h++p.step1 m f h:=by simp[pre,List.range_succ]
theorem pre_row (m:Mrk) (f:Nat):p.pre m (f+1) 0=p.pre m f p.H:=by simp[pre,List.range_succ,stepsF]
theorem pre_end (m:Mrk):p.pre m p.fires.length 0=p.steps m:=by simp[pre,steps]
theorem pre_at {m:Mrk} {f h:Nat} (hf:f<p.fires.length) (hh:h<p.H) {e :(Nat×Nat)×Mrk} (he:p.step1 m f h=[e]) :(p.steps m)[(p.pre m f h).length]? = some e:=by
 obtain ⟨r,hr⟩:=flatMap_split (p.stepsF m) hf
 obtain ⟨r',hr'⟩:=flatMap_split (p.step1 m f) hh
 have:p.steps m=p.pre m f h++(e ::(r'++r)):=by
  unfold steps;rw[hr];unfold pre;rw[show p.stepsF m f =(List.range p.H).flatMap (p.step1 m f) from rfl,hr',he];simp
 rw[this]
 simp
theorem steps_mem {m:Mrk} {e :(Nat×Nat)×Mrk} (h:e∈p.steps m):e.1.1<p.fires.length∧e.1.2<p.H∧e.2=m.next e.1.1 (p.takes m.n e.1.2):=by
 simp only[steps,stepsF,List.mem_flatMap,List.mem_range] at h
 obtain ⟨f,hf,hh,hh',he⟩:=h
 unfold step1 at he
 split at he
 ·cases he
 split at he
 ·simp at he;subst he;exact ⟨hf,hh',rfl⟩
 ·cases he
end Pit
theorem pitch_steps_1_ok {p:Pit} (hv:p.Valid) {m:Mrk} (hm:m.n<p.pots.length) (ho:m.Ok) {τ:Type} (row:τ→List (Nat×AObj)) (hb:RowsB row 300) (yr ys:Nat) (I:Nat→τ→Prop) (D:τ→Prop)
 (hy:∀k t (x:Nat×Nat) nx,I k t→(p.steps m)[k]? = some (x,nx)→∀K:AEnd→Heap→Prop,(∀t',I (k+1) t'→K (.ret (.bool true)) (hpV (row t')))→(∀t',D t'→K (.ret (.bool false)) (hpV (row t')))→
   AInvoke Pg (.yield yr ys) [plV x.1 x.2,nx.v] (hpV (row t)) K)
 (t₀:τ) (h0:I 0 t₀) (K:AEnd→Heap→Prop) (hK:∀t,I (p.steps m).length t∨D t→K (.ret (.tup [])) (hpV (row t))) :
 ACalls Pg fn_pitch_pitch_steps_1 [.yield yr ys,.pv [p.pv],.pv m.cs] (hpV (row t₀)) K:=by
 have hr:=hv.hrH
 have h12:=hv.H12
 have hnf:=hv.nf
 have hnp:=hv.np
 refine pitch_pitch_steps_1.e 300 (by simp) ?_
 simp[Pit.pv]
 refine Lp.intro (σ:=Nat×τ) (inv:=fun x=>x.1≤p.fires.length∧I (p.pre m x.1 0).length x.2)
  (vw:=fun x=>[(0,.yield yr ys),(1,.pv [p.pv]),(2,.pv m.cs),(4,.func (.func fn_pitch_pitch_alone) [p.pv] []),(17,.int .i64 p.fires.length),(18,.int .i64 x.1)]) (hp:=fun x=>row x.2) (ms:=fun x=>p.fires.length - x.1) (0,t₀)
  ⟨Nat.zero_le _,h0⟩ (by simp[Pit.pv]) (by simp[hb.self]) ?_
 rintro ⟨f,t⟩ ⟨hf,hI⟩ J hJ
 simp only at hf hI
 by_cases hfl:f<p.fires.length
 ·simp[Pit.pv,hfl,hr]
  refine Lp.intro (σ:=Nat×τ) (inv:=fun x=>x.1≤p.H∧I (p.pre m f x.1).length x.2)
   (vw:=fun x=>[(0,.yield yr ys),(1,.pv [p.pv]),(2,.pv m.cs),(4,.func (.func fn_pitch_pitch_alone) [p.pv] []),(5,.int .i64 f),(17,.int .i64 p.fires.length),(18,.int .i64 f),(25,.int .i64 p.H),(26,.int .i64 x.1)]) (hp:=fun x=>row x.2) (ms:=fun x=>p.H - x.1) (0,t)
   ⟨Nat.zero_le _,hI⟩ (by simp[Pit.pv,hr]) (by simp[hb.self]) ?_
  rintro ⟨h,t⟩ ⟨hh,hI⟩ J2 hJ2
  simp only at hh hI
  by_cases hhl:h<p.H
  ·have hta:=pitch_takes_ok hv hm (hour:=h) (by omega)
   have htl:=hv.takes_lt m.n h
   simp[Pit.pv,hhl,hr,Mrk.cs,hb.hpV]
   intro s1
   refine PCallK.intro (PInv.func (by simpa[Pit.pv,hr] using hta)) ?_
   have hat:[AVal.int .u64 m.a,.int .u64 m.b,.int .u64 m.c][f]? = some (.int .u64 (m.at' f:Nat)):=by
    unfold Mrk.at'
    rcases (show f=0∨f=1∨f=2 by omega) with rfl|rfl|rfl<;>simp
   simp[hat]
   (repeat first|refine And.intro (by omega) ?_|refine And.intro (Fits.of (by omega) (by omega)) ?_)
   refine PCallK.intro (PInv.func (pitch_hours_meets_ok (Pt.lt62 htl) (Pt.lt62 (ho.at' f)))) ?_
   have hskip:p.step1 m f h=[]→I (p.pre m f (h+1)).length t:=fun e=>by rw[Pit.pre_succ,e,List.append_nil];exact hI
   by_cases hmt:p.takes m.n h &&& m.at' f≠0
   ·have hs1:p.step1 m f h=[]:=by unfold Pit.step1;rw[if_pos hmt]
    simp[hmt]
    (repeat first|refine And.intro (by omega) ?_|refine And.intro (Fits.of (by omega) (by omega)) ?_)
    exact hJ2.next (h+1,t) ⟨hhl,hskip hs1⟩ (by simp;omega) (by simp[Pit.pv,Mrk.cs,hr]) (by simp[hb.upd,hb.self])
   have hmt':p.takes m.n h &&& m.at' f=0:=by simpa using hmt
   have hal:=pitch_alone_ok hv hm (f:=f) (h:=h) (by omega) hfl
   simp[hmt']
   refine FCall.pure (v:=.bool (p.alone m.n f h)) (PInv.func (by simpa[Pit.pv,hr,plV] using hal)) ?_
   cases ha:p.alone m.n f h with
   | false=>
     have hs1:p.step1 m f h=[]:=by unfold Pit.step1;rw[if_neg hmt,ha];rfl
     simp
     (repeat first|refine And.intro (by omega) ?_|refine And.intro (Fits.of (by omega) (by omega)) ?_)
     exact hJ2.next (h+1,t) ⟨hhl,hskip hs1⟩ (by simp;omega) (by simp[Pit.pv,Mrk.cs,hr]) (by simp[hb.upd,hb.self])
   | true=>
     have hs1:p.step1 m f h=[((f,h),m.next f (p.takes m.n h))]:=by unfold Pit.step1;rw[if_neg hmt,ha];rfl
     simp[hat]
     intro s2
     have hset:setRange [AVal.int .i64 ((m.n:Int)+1),.int .u64 m.a,.int .u64 m.b,.int .u64 m.c] (1+f) [.int .u64 (m.at' f ||| p.takes m.n h:Nat)] =(m.next f (p.takes m.n h)).cs:=by
      unfold Mrk.at' Mrk.next
      rcases (show f=0∨f=1∨f=2 by omega) with rfl|rfl|rfl<;>simp[setRange,Mrk.cs]
     refine ⟨Fits.of (by omega) (by omega),by omega,fun s3=>?_⟩
     refine FCall.frz1 (v:=.int .u64 (m.at' f ||| p.takes m.n h:Nat)) 362 (cells:=[.int .u64 (m.at' f:Nat),.int .u64 (p.takes m.n h:Nat)]) (s:=s3+1) (by simp) ?_ (by simp) ?_
     ·have:=pitch_joined_ok (l:=[m.at' f,p.takes m.n h]) (by simp;exact ⟨ho.at' f,htl⟩) (by simp)
      exact PInv.func (by simpa[Pt.us] using this)
     simp[hset]
     refine ⟨by omega,by omega,?_⟩
     have hI':=Pit.pre_at (p:=p) hfl hhl hs1
     refine FCall.cps (σ:={x:Bool×τ // if x.1=true then I ((p.pre m f h).length+1) x.2 else D x.2}) (row t) (fun x=>.bool x.1.1) (fun x=>row x.1.2) (fun _=>True) (fun K' hK'=>hy _ t (f,h) _ hI hI' K' (fun t' h1=>hK' ⟨(true,t'),by simpa using h1⟩ trivial) (fun t' h1=>hK' ⟨(false,t'),by simpa using h1⟩ trivial)) (by simp[hb.upd,hb.self]) (fun x=>hb.hn _ _) trivial (fun x _=>⟨trivial,?_⟩)
     obtain ⟨⟨b,t'⟩,hx⟩:=x
     cases b with
     | true=>
       simp at hx ⊢
       (repeat first|refine And.intro (by omega) ?_|refine And.intro (Fits.of (by omega) (by omega)) ?_)
       exact hJ2.next (h+1,t') ⟨hhl,by rw[Pit.pre_succ,hs1];simpa using hx⟩ (by simp;omega) (by simp[Pit.pv,Mrk.cs,hr]) (by simp[hb.upd,hb.updL_self,hb.updL])
     | false=>
       simp at hx ⊢
       refine hJ2.ret (hJ.ret ?_)
       simp
       refine RetV.view (row t') (by simp[hb.upd,hb.updL,hb.updL_self]) (hK t' (.inr hx))
  ·obtain rfl:h=p.H:=by omega
   simp[hhl]
   refine hJ2.exit ?_
   simp
   (repeat first|refine And.intro (by omega) ?_|refine And.intro (Fits.of (by omega) (by omega)) ?_)
   exact hJ.next (f+1,t) ⟨hfl,by rw[Pit.pre_row];exact hI⟩ (by simp;omega) (by simp[Pit.pv,hr]) (by simp[hb.self])
 ·obtain rfl:f=p.fires.length:=by omega
  simp[hfl]
  refine hJ.exit ?_
  simp
  refine RetV.view (row t) (by simp[hb.self]) (hK t (.inl (by rw[←Pit.pre_end];exact hI)))
end Go.Cw
end
section
namespace Go.Cw
open Go Go.Proofs
@[simp] theorem acells_Pit (p:Pit):acells p.pv=some [p.pv]:=rfl
theorem pitch_steps_ok (p:Pit) (m:Mrk):APure Pg fn_pitch_pitch_steps [p.pv,m.v] (.func (.func fn_pitch_pitch_steps_1) [] [.pv [p.pv],.pv m.cs]):=by
 refine pitch_pitch_steps.e.p (by simp) ?_
 simp
 intro s1 s2
 refine RetV.frz 2 (cells:=[p.pv]) (s:=s1+1) (by simp) (RetV.frz 3 (cells:=m.cs) (s:=s2+1) (by simp) ?_)
 exact RetV.refl (by simp)
structure Tly where
 e:Int
 fm:AVal
 fj:AVal
 more:Nat→Nat×Nat→Int→Int
 join:Int→Int→Int
structure Tly.Ok (T:Tly) (p:Pit):Prop where
 hm:∀i x r,i<p.pots.length→x.1<p.fires.length→x.2<p.H→PInv Pg T.fm [.int .i64 (i:Nat),plV x.1 x.2,.int .i64 r] (.int .i64 (T.more i x r))
 hj:∀a b,PInv Pg T.fj [.int .i64 a,.int .i64 b] (.int .i64 (T.join a b))
 zm:∀r s cells,frz r s cells T.fm=T.fm
 zj:∀r s cells,frz r s cells T.fj=T.fj
 cm:acells T.fm=some [T.fm]
 cj:acells T.fj=some [T.fj]
namespace Tly
variable (T : Tly) (p:Pit)
def cs : List AVal:=[.int .i64 T.e,T.fm,T.fj]
def one (tl:Mrk→Option Int) (i:Nat) (acc:Option Int) (x :(Nat×Nat)×Mrk):Option Int:=
 match tl x.2 with
 | none=>acc
 | some r=>some (match acc with
   | some a=>T.join a (T.more i x.1 r)
   | none=>T.more i x.1 r)
def tellF : Nat→Mrk→Option Int
 | 0,_=>some T.e
 | k+1,m=>(p.steps m).foldl (T.one (tellF k) m.n) none
def tell (m:Mrk):Option Int:=T.tellF p (p.pots.length - m.n) m
def outV (o:Option Int):AVal:=match o with
 | some r=>.tup [.int .i64 r,.bool true]
 | none=>.tup [.int .i64 0,.bool false]
def knC (o:Option Int):List AVal:=match o with
 | some r=>[.int .i64 r,.bool true]
 | none=>[.int .i64 0,.bool false]
def ents (M:List Mrk):List (AVal×AVal):=entsK Mrk.v (fun m=>.agg (knC (T.tell p m))) M
def onV (sm so:Nat):AVal:=.func (.func fn_pitch_tell_int_1) [] [.pv [p.pv],.pv T.cs,.pv [.map 207 sm],.ptr 206 0 so]
def rows (sm so:Nat) (M:List Mrk):List (Nat×AObj):=[(206,.row [T.onV p sm so] so),(207,.map (T.ents p M) sm)]
end Tly
theorem pitch_tell_ok (p:Pit) (T:Tly) (hT:T.Ok p) (K:AEnd→Heap→Prop) (hK:∀sm so,K (.ret (T.onV p sm so)) (hpV (T.rows p sm so []))) :
 ACalls Pg fn_pitch_tell_int [p.pv,.agg T.cs] nilH K:=by
 refine pitch_tell_int.e 200 (by simp) ?_
 simp[Tly.cs,hT.cm,hT.cj]
 intro s1 s2 s3 s4 s5
 refine RetV.frzH 202 (cells:=[p.pv]) (s:=s1+1) (by simp) ?_
 simp[hT.zm,hT.zj]
 refine RetV.frzH 203 (cells:=T.cs) (s:=s2+1) (by simp[Tly.cs,hT.zm,hT.zj]) ?_
 simp[hT.zm,hT.zj]
 refine RetV.frzH 205 (cells:=[.map 207 (s3+1)]) (s:=s4+1) (by simp) ?_
 simp[hT.zm,hT.zj]
 refine RetV.view (T.rows p (s3+1) (s5+1) []) (by simp[Tly.rows,Tly.onV,Tly.ents]) ?_
 exact hK (s3+1) (s5+1)
section
variable (p : Pit) (T:Tly)
def tellRow (m:Mrk) (sm so s5 s10 sd:Nat) (L:Jm→AObj) (t:Option Int×List Mrk):List (Nat×AObj):=
 (5,.row m.cs s5) ::(10,.row (Tly.knC t.1) s10) ::(100,L .go) ::(101,.dfr false sd)::T.rows p sm so t.2
theorem tellRow_b (m:Mrk) (sm so s5 s10 sd:Nat) (L:Jm→AObj):RowsB (tellRow p T m sm so s5 s10 sd L) 300:=⟨fun _ _=>rfl,fun t x hx=>by simp[tellRow,Tly.rows] at hx;omega,fun t=>by simp[tellRow,Tly.rows]⟩
end
theorem Mrk.start_ok {p:Pit} (hv:p.Valid) {m:Mrk} (ho:m.Ok) {e :(Nat×Nat)×Mrk} (h:e∈p.steps m):e.2.Ok∧e.2.n=m.n+1:=by
 obtain ⟨_,_,h3⟩:=Pit.steps_mem p h
 rw[h3]
 exact ⟨ho.next _ (hv.takes_lt _ _),Mrk.next_n _ _⟩
theorem pitch_on_ok {p:Pit} (hv:p.Valid) {T:Tly} (hT:T.Ok p) (sm so:Nat):∀(k:Nat) (m:Mrk) (M:List Mrk),m.n+k=p.pots.length→m.Ok→M.Nodup→
 ∀K:AEnd→Heap→Prop,(∀M',M'.Nodup→K (.ret (Tly.outV (T.tellF p k m))) (hpV (T.rows p sm so M')))→
  ACalls Pg fn_pitch_tell_int_1 [m.v,.pv [p.pv],.pv T.cs,.pv [.map 207 sm],.ptr 206 0 so] (hpV (T.rows p sm so M)) K:=by
 have hnp:=hv.np
 intro k
 induction k with
 | zero=>
   intro m M hk ho hM K hK
   refine pitch_tell_int_1.e 0 (by simp) ?_
   have hn:m.n=p.pots.length:=by omega
   simp[Pit.pv,hn,Tly.cs]
   intro s1
   refine RetV.view (T.rows p sm so M) (by simp[Tly.rows]) ?_
   simpa[Tly.tellF,Tly.outV] using hK M hM
 | succ k ih=>
   intro m M hk ho hM K hK
   have hne:¬m.n=p.pots.length:=by omega
   have hlk:∀(hh:Heap),hh 207=.map (T.ents p M) sm→∀zero,aLookup hh (true,[.i,.i,.i,.i]) true zero (.map 207 sm) m.v=some (if m∈M then .tup [.agg (Tly.knC (T.tell p m)),.bool true] else .tup [zero,.bool false]):=fun hh hm zero=>aLookup_K Mrk.keyLaw hm zero
   refine pitch_tell_int_1.e 0 (by simp) ?_
   have hmv:AVal.agg m.cs=m.v:=rfl
   simp[Pit.pv,hne]
   intro s1
   rw[hmv,hlk _ (by simp[Tly.rows])]
   have hte:T.tell p m=T.tellF p (k+1) m:=by unfold Tly.tell;rw[show p.pots.length - m.n=k+1 by omega]
   by_cases hmM:m∈M
   ·simp[hmM]
    intro s2
    rw[hte]
    cases hr:T.tellF p (k+1) m with
    | none=>
      simp[Tly.knC]
      refine RetV.view (T.rows p sm so M) (by simp[Tly.rows]) ?_
      simpa[hr,Tly.outV] using hK M hM
    | some r=>
      simp[Tly.knC]
      refine RetV.view (T.rows p sm so M) (by simp[Tly.rows]) ?_
      simpa[hr,Tly.outV] using hK M hM
   simp[hmM]
   intro s2 s10
   refine FCall.pure (PInv.func (by simpa[Pit.pv,Mrk.v] using pitch_steps_ok p m)) ?_
   simp
   refine RF.intro 100 101 rfl (by simp) (by simp[Tly.rows]) (by simp[Tly.rows]) fun sl sd LO LB yl=>?_
   refine ACalls.cps (σ:=Option Int×List Mrk) (tellRow p T m sm so (s1+1) (s10+1) sd LO (none,M)) (fun _=>.tup []) (fun t=>tellRow p T m sm so (s1+1) (s10+1) sd LO t) (fun t=>t.1=T.tellF p (k+1) m∧t.2.Nodup) (fun K' hK'=>?_) (by simp[tellRow,Tly.rows,Tly.knC]) (fun _=>rfl) fun t ht=>?_
   ·refine pitch_steps_1_ok hv (by omega) ho (tellRow p T m sm so (s1+1) (s10+1) sd LO) (tellRow_b _ _ _ _ _ _ _ _ _) 100 sl
     (fun i t=>t.1 =((p.steps m).take i).foldl (T.one (T.tellF p k) m.n) none∧t.2.Nodup) (fun _=>False) (fun i t x nx hI hx K0 hgo _=>?_) (none,M) ⟨rfl,hM⟩ K' (fun t ht=>?_)
    ·obtain ⟨acc,M1⟩:=t
     obtain ⟨hacc,hM1⟩:=hI
     have hi:=(List.getElem?_eq_some_iff.1 hx).1
     have hxe:=(List.getElem?_eq_some_iff.1 hx).2
     have hmem :(x,nx)∈p.steps m:=List.mem_of_getElem? hx
     obtain ⟨hf,hh,hnx⟩:=Pit.steps_mem p hmem
     obtain ⟨hno,hnn⟩:=Mrk.start_ok hv ho hmem
     simp only at hf hh hnx hno hnn hacc hM1
     refine AInvoke.wk (yl _ _ _ rfl (by simp[tellRow]) ?_)
     simp[plV,tellRow,Tly.rows]
     intro s11 s12
     rw[show AVal.agg nx.cs=nx.v from rfl]
     refine FCall.cps (T.rows p sm so M1) (fun _ : {M':List Mrk // M'.Nodup}=>Tly.outV (T.tellF p k nx)) (fun M'=>T.rows p sm so M'.1) (fun _=>True) (fun K' hK'=>?_) (by simp[Tly.rows]) (fun _=>rfl) (by simp) (fun M' _=>⟨by simp,?_⟩)
     ·refine AInvoke.func ?_
      simpa using ih nx M1 (by omega) hno hM1 K' fun M' hM'=>hK' ⟨M',hM'⟩ trivial
     obtain ⟨M',hM'⟩:=M'
     have hstep :((p.steps m).take (i+1)).foldl (T.one (T.tellF p k) m.n) none=T.one (T.tellF p k) m.n acc (x,nx):=by
      rw[←List.take_append_getElem hi,List.foldl_append,hxe,←hacc];rfl
     cases hr:T.tellF p k nx with
     | none=>
       have hone:T.one (T.tellF p k) m.n acc (x,nx)=acc:=by simp[Tly.one,hr]
       simp[Tly.outV,Tly.rows]
       exact Wk.view (tellRow p T m sm so (s1+1) (s10+1) sd LO (acc,M')) (by simp[tellRow,Tly.rows]) (hgo _ ⟨by rw[hstep,hone],hM'⟩)
     | some r=>
       have hmo:=hT.hm m.n x r (by omega) hf hh
       simp only[plV] at hmo
       simp[Tly.outV,Tly.rows,Tly.cs]
       refine FCall.pure hmo ?_
       cases acc with
       | none=>
         have hone:T.one (T.tellF p k) m.n none (x,nx)=some (T.more m.n x r):=by simp[Tly.one,hr]
         simp[Tly.knC]
         exact Wk.view (tellRow p T m sm so (s1+1) (s10+1) sd LO (some (T.more m.n x r),M')) (by simp[tellRow,Tly.rows,Tly.knC]) (hgo _ ⟨by rw[hstep,hone],hM'⟩)
       | some a=>
         have hone:T.one (T.tellF p k) m.n (some a) (x,nx)=some (T.join a (T.more m.n x r)):=by simp[Tly.one,hr]
         simp[Tly.knC]
         refine FCall.pure (hT.hj a (T.more m.n x r)) ?_
         simp
         exact Wk.view (tellRow p T m sm so (s1+1) (s10+1) sd LO (some (T.join a (T.more m.n x r)),M')) (by simp[tellRow,Tly.rows,Tly.knC]) (hgo _ ⟨by rw[hstep,hone],hM'⟩)
    ·rcases ht with ⟨h1,h2⟩ | h
     ·refine hK' t ⟨?_,h2⟩
      rw[h1,List.take_length];rfl
     ·exact h.elim
   ·obtain ⟨acc,M1⟩:=t
    obtain ⟨rfl,hM1⟩:=ht
    refine ⟨.go,by simp[tellRow],?_⟩
    simp[tellRow,Tly.rows,hmv]
    refine ⟨by cases T.tellF p (k+1) m<;>simp[Tly.knC],?_⟩
    refine osat_iff.2 ⟨_,mapU_K Mrk.keyLaw (k:=m) (M:=M1) (f:=fun m=>.agg (Tly.knC (T.tell p m))) (f':=fun m=>.agg (Tly.knC (T.tell p m))) (m:=207) (s:=sm) hM1 ?_ (by simp) (by simp) ?_ (fun _ _ _=>rfl),?_⟩
    ·simp[Tly.ents]
    ·simp[hte]
     cases T.tellF p (k+1) m<;>simp[Tly.knC]
    cases hr:T.tellF p (k+1) m with
    | none=>
      simp[Tly.knC]
      refine RetV.view (T.rows p sm so (insK m M1)) (by simp[Tly.rows,Tly.ents,Tly.knC]) ?_
      simpa[hr,Tly.outV] using hK _ (nodup_insK hM1)
    | some r=>
      simp[Tly.knC]
      refine RetV.view (T.rows p sm so (insK m M1)) (by simp[Tly.rows,Tly.ents,Tly.knC]) ?_
      simpa[hr,Tly.outV] using hK _ (nodup_insK hM1)
end Go.Cw
end
section
namespace Go.Cw
open Go Go.Proofs
theorem pitch_ask_ok (e:Int):APure Pg fn_pitch_ask [.bool true,.int .i64 e] (.tup []):=by
 refine pitch_ask.e.p (by simp) ?_
 simp
 exact RetV.refl rfl
theorem pitch_ask_no (e:Int):APan Pg fn_pitch_ask [.bool false,.int .i64 e] (.iface 230 (.int .i64 e)):=by
 refine APan.of_nil (pitch_ask.e 0 (by simp) ?_)
 simp
 exact Wk.view [] trivial (by simp)
theorem pitch_answer_ok {p:AVal} {h:Heap} {K:Heap→Prop} (k:K h):AAns Pg fn_pitch_answer .nili p h K:=by
 refine pitch_answer.ans 0 ?_
 simp
 exact k
theorem pitch_answer_no {r s:Nat} {x:Int} {n:Int} {h:Heap} {K:Heap→Prop} (hr:h r=.row [.int .i64 x] s) (k:K (upd h r (.row [.int .i64 n] s))):AAns Pg fn_pitch_answer (.iface 230 (.int .i64 n)) (.ptr r 0 s) h K:=by
 refine pitch_answer.ans 0 ?_
 simp[hr]
 exact k
theorem pitch_always_ok (a:AVal):APure Pg fn_pitch_always [a] (.bool true):=by
 refine pitch_always.e.p (by simp) ?_
 simp
 exact RetV.refl rfl
@[simp] theorem acells_Pitv (p:Pit):acells p.v=some p.c:=rfl
@[simp] theorem Pit.c_len (p:Pit):p.c.length=5:=rfl
@[simp] theorem Pit.c_0 (p:Pit):p.c.head? = some (.int .i64 p.hr):=rfl
@[simp] theorem Pit.c_1 (p:Pit):p.c[1]? = some (.int .i64 p.fr):=rfl
@[simp] theorem Pit.c_2 (p:Pit):p.c[2]? = some (.int .i64 p.pe):=rfl
@[simp] theorem Pit.c_3 (p:Pit):p.c[3]? = some (L p.fires):=rfl
@[simp] theorem Pit.c_4 (p:Pit):p.c[4]? = some (LPo p.pots):=rfl
@[simp] theorem Pit.c_take (p:Pit):p.c.take 5=p.c:=rfl
theorem pitch_open_1_ok {p:Pit} (hv:p.Valid) (n:Int):APure Pg fn_pitch_open_1 [.int .i64 n,.pv p.c] (.bool (decide (p.isSet n))):=by
 have h12:=Pt.p12 hv.H12
 have h1 :((2^p.H:Nat):Int)≤4096:=by exact_mod_cast h12
 have h2:=two_pow_pos p.H
 simp at h1
 have hH:=hv.H12
 refine pitch_open_1.e.p (by simp) ?_
 simp[Pit.c,hv.hrH]
 refine ⟨by omega,Fits.of (by omega) (by omega),Fits.of (by omega) (by omega),?_⟩
 refine PCallK.intro (PInv.func (pitch_within_ok _ _ _)) ?_
 simp
 refine RetV.refl ?_
 simp only[AEnd.ret.injEq,AVal.bool.injEq]
 rw[Bool.eq_iff_iff]
 simp
 exact Iff.rfl
theorem pitch_open_ok {p:Pit} (hv:p.Valid) {fv:AVal} (hz:∀r s cells,frz r s cells fv=fv) (hf:PInv Pg fv [p.pv] (.bool true)):APure Pg fn_pitch_open [p.v,fv] p.pv:=by
 have hhr:=hv.hr
 have hnf :(p.fires.length:Int)≤3:=by have:=hv.nf;omega
 have hnp :(p.pots.length:Int)≤4:=by have:=hv.np;omega
 have ho:=fun n (h:p.isSet n)=>show PInv Pg (.func (.func fn_pitch_open_1) [] [.pv p.c]) [.int .i64 n] (.bool true) from PInv.func (by simpa[h] using pitch_open_1_ok hv n)
 have ask1:=fun e=>show PInv Pg (.func (.func fn_pitch_ask) [] []) [.bool true,.int .i64 e] (.tup []) from PInv.func (pitch_ask_ok e)
 refine pitch_open.e.p (by simp) ?_
 simp
 intro s1
 refine PCallK.intro (PInv.func (pitch_within_ok _ _ _)) ?_
 simp[hhr,hnf,hnp]
 refine FCall.pure (ask1 _) ?_
 simp
 refine Sl.frzHp 2 (cells:=p.c) (s:=s1+1) (by simp) (Sl.refl ?_)
 simp
 refine FCall.pure (ho _ hv.fr) ?_
 simp
 refine FCall.pure (ho _ hv.pe) ?_
 simp
 refine FCall.pure (ask1 _) ?_
 simp
 refine Lp.intro (σ:=Nat) (inv:=fun k=>k≤p.fires.length) (vw:=fun k=>[(1,fv),(2,.pv p.c),(5,.func (.func fn_pitch_open_1) [] [.pv p.c]),(40,L p.fires),(41,.int .i64 p.fires.length),(42,.int .i64 k)]) (hp:=fun _=>[]) (ms:=fun k=>p.fires.length - k) 0 (by simp) (by simp[hz]) (by simp) ?_
 intro k hk J hJ
 by_cases hkl:k<p.fires.length
 ·simp[hkl]
  refine FCall.pure (ho _ (hv.fi p.fires[k] (by simp))) ?_
  simp
  refine FCall.pure (ask1 _) ?_
  simp
  (repeat first|refine And.intro (by omega) ?_|refine And.intro (Fits.of (by omega) (by omega)) ?_)
  exact hJ.next (k+1) hkl (by omega) (by simp) (by simp)
 simp[hkl]
 refine hJ.exit ?_
 simp
 refine Lp.intro (σ:=Nat) (inv:=fun k=>k≤p.pots.length) (vw:=fun k=>[(1,fv),(2,.pv p.c),(52,LPo p.pots),(53,.int .i64 p.pots.length),(54,.int .i64 k)]) (hp:=fun _=>[]) (ms:=fun k=>p.pots.length - k) 0 (by simp) (by simp) (by simp) ?_
 intro k hk J2 hJ2
 by_cases hkl:k<p.pots.length
 ·obtain ⟨h1,h2,h3⟩:=hv.po p.pots[k] (by simp)
  simp[hkl]
  refine ⟨by omega,fun s2=>?_⟩
  refine PCallK.intro (PInv.func (pitch_within_ok _ _ _)) ?_
  simp[h1]
  refine PCallK.intro (PInv.func (pitch_within_ok _ _ _)) ?_
  simp[h2]
  refine PCallK.intro (PInv.func (pitch_within_ok _ _ _)) ?_
  simp[h3]
  refine FCall.pure (ask1 _) ?_
  simp
  (repeat first|refine And.intro (by omega) ?_|refine And.intro (Fits.of (by omega) (by omega)) ?_)
  exact hJ2.next (k+1) hkl (by omega) (by simp) (by simp)
 simp[hkl]
 refine hJ2.exit ?_
 obtain ⟨a,ha⟩ : ∃a:Nat,p.fr.toNat=a:=⟨_,rfl⟩
 obtain ⟨b,hb⟩ : ∃b:Nat,p.pe.toNat=b:=⟨_,rfl⟩
 have hua:=hv.set_u hv.fr
 have hub:=hv.set_u hv.pe
 have hla:=hv.set_lt hv.fr
 have hlb:=hv.set_lt hv.pe
 rw[ha] at hua hla
 rw[hb] at hub hlb
 have hcold:p.cold=a:=ha
 have hcol:p.colder=a ||| b:=by unfold Pit.colder;rw[ha,hb]
 simp[hua,hub]
 intro s2
 refine FCall.frz1 (v:=.int .u64 (a ||| b:Nat)) 87 (cells:=[.int .u64 (a:Nat),.int .u64 (b:Nat)]) (s:=s2+1) (by simp) ?_ (by simp) ?_
 ·have:=pitch_joined_ok (l:=[a,b]) (by simp;exact ⟨hla,hlb⟩) (by simp)
  exact PInv.func (by simpa[Pt.us] using this)
 simp[Pit.c]
 intro s3
 refine Sl.frzHp 90 (cells:=[.int .i64 p.hr,.int .i64 p.fr,.int .i64 p.pe,L p.fires,LPo p.pots,.int .u64 (a:Nat),.int .u64 (a ||| b:Nat)]) (s:=s3+1) (by simp) (Sl.refl ?_)
 simp[hz]
 refine FCall.pure (v:=.bool true) (by simpa[Pit.pv,hcold,hcol] using hf) ?_
 simp
 refine FCall.pure (PInv.func (pitch_ask_ok _)) ?_
 simp
 exact RetV.refl (by simp[Pit.pv,hcold,hcol])
def waysT : Tly where
 e:=1
 fm:=.func (.func fn_pitch_rest_int) [] []
 fj:=.func (.func fn_pitch_pitch_ways_1) [] []
 more _ _ r:=r
 join a b:=IntKind.i64.wrap (a+b)
theorem waysT_ok (p:Pit):waysT.Ok p where
 hm i x r _ _ _:=PInv.func (by
  refine pitch_rest_int.e.p (by simp) ?_
  simp[plV,waysT]
  intro s1
  exact RetV.refl (by simp[waysT]))
 hj a b:=PInv.func (by
  refine pitch_pitch_ways_1.e.p (by simp) ?_
  simp[waysT,abin,arI,isSh]
  exact RetV.refl (by simp))
 zm _ _ _:=by simp[waysT]
 zj _ _ _:=by simp[waysT]
 cm:=rfl
 cj:=rfl
section
variable {F n₀:Nat} {inr:Bool} {keep:List Nat} {t:Option Nat} {K:KT} {Q:Post} {tm:TM} {df:DF} {hp:Heap} {p:Pit} {T:Tly}
theorem dead2 (a b:Nat):hpV [(a,.dead),(b,.dead)]=nilH:=by
 funext x;simp only[hpV,upd];repeat' split
 all_goals rfl
theorem FCall.pitchTell (hT:T.Ok p) (h6:hp 206=.dead) (h7:hp 207=.dead) (k:∀sm so,K (putD tm t (T.onV p sm so)) df (updL hp (T.rows p sm so []))) :
 FCall ⟨Pg,F,n₀,inr,keep⟩ (.func (.func fn_pitch_tell_int) [] []) [p.pv,.agg T.cs] [] [] t K Q tm df hp:=by
 refine FCall.cps [(206,.dead),(207,.dead)] (fun x:Nat×Nat=>T.onV p x.1 x.2) (fun x=>T.rows p x.1 x.2 []) (fun _=>True) (fun K' hK'=>AInvoke.func ?_) ⟨h6,h7,trivial⟩ (fun _=>rfl) trivial (fun x _=>⟨trivial,k x.1 x.2⟩)
 rw[dead2]
 exact pitch_tell_ok p T hT K' fun sm so=>hK' (sm,so) trivial
theorem FCall.pitchOn (hv:p.Valid) (hT:T.Ok p) {m:Mrk} (hm:m.n≤p.pots.length) (ho:m.Ok) {sm so:Nat} {M:List Mrk} (hM:M.Nodup) (hw:Hw (T.rows p sm so M) hp)
 (k:∀M',M'.Nodup→K (putD tm t (Tly.outV (T.tell p m))) df (updL hp (T.rows p sm so M'))):FCall ⟨Pg,F,n₀,inr,keep⟩ (T.onV p sm so) [m.v] [] [] t K Q tm df hp:=by
 refine FCall.cps (T.rows p sm so M) (fun _ : {M':List Mrk // M'.Nodup}=>Tly.outV (T.tell p m)) (fun M'=>T.rows p sm so M'.1) (fun _=>True) (fun K' hK'=>?_) hw (fun _=>rfl) trivial (fun M' _=>⟨trivial,k M'.1 M'.2⟩)
 refine AInvoke.func ?_
 simpa using pitch_on_ok hv hT sm so (p.pots.length - m.n) m M (by omega) ho hM K' fun M' hM'=>hK' ⟨M',hM'⟩ trivial
end
def Mrk.zero : Mrk:=⟨0,0,0,0⟩
theorem Mrk.zero_ok : Mrk.zero.Ok:=⟨by decide,by decide,by decide⟩
def Pit.ways (p:Pit):Int:=(waysT.tell p .zero).getD 0
theorem pitch_ways_ok {p:Pit} (hv:p.Valid):APure Pg fn_pitch_pitch_ways [p.pv] (.int .i64 p.ways):=by
 refine pitch_pitch_ways.e.p (by simp) ?_
 simp
 refine FCall.pitchTell (T:=waysT) (waysT_ok p) (by simp) (by simp) fun sm so=>?_
 simp[Tly.rows]
 refine FCall.pitchOn (m:=.zero) hv (waysT_ok p) (Nat.zero_le _) Mrk.zero_ok (M:=[]) (by simp) (by simp[Tly.rows]) fun M' hM'=>?_
 have:p.ways=match waysT.tell p .zero with|some r=>r|none=>0:=by unfold Pit.ways;cases waysT.tell p .zero<;>rfl
 rw[this]
 cases waysT.tell p .zero<;>simp[Tly.outV]<;>exact RetV.wk (nilH_le _) (by simp)
theorem pitch_Count_ok {p:Pit} (hv:p.Valid):APure Pg fn_pitch_Count [p.v] (.tup [.int .i64 p.ways,.int .i64 0]):=by
 refine pitch_Count.e.p (by simp) ?_
 simp
 intro s1 s2
 refine FCall.pure (PInv.func (pitch_open_ok hv (fun _ _ _=>by simp) (PInv.func (pitch_always_ok _)))) ?_
 simp
 refine PCallK.intro (PInv.func (pitch_ways_ok hv)) ?_
 simp
 refine RetA.ret rfl (pitch_answer_ok ?_)
 simp
 exact RetV.wk (nilH_le _) (by simp)
end Go.Cw
end
section
namespace Go.Cw
open Go Go.Proofs
namespace Pit
variable (p : Pit)
def bestT : Tly where
 e:=0
 fm:=.func (.func fn_pitch_Best_1) [] [.pv [p.pv]]
 fj:=.func (.func fn_pitch_Best_2) [] []
 more i x r:=max r (p.hot i x.2 p.colder:Nat)
 join a b:=min a b
def good (n:Int) (m:Mrk) (x :(Nat×Nat)×Mrk):Bool:=match p.bestT.tell p x.2 with
 | some r=>decide (p.bestT.more m.n x.1 r≤n)
 | none=>false
def planF (n:Int):Nat→Mrk→List (Nat×Nat)
 | 0,_=>[]
 | k+1,m=>match (p.steps m).find? (p.good n m) with
   | some x=>x.1::planF n k x.2
   | none=>[]
def best : Option Int:=p.bestT.tell p .zero
def plan : List (Nat×Nat):=match p.best with
 | some n=>p.planF n p.pots.length .zero
 | none=>[]
def bestV : AVal:=match p.best with
 | some n=>.tup [.int .i64 n,.vl p.pots.length (fl (fun x:Nat×Nat=>[.int .i64 x.1,.int .i64 x.2]) p.plan),.int .i64 0]
 | none=>.tup [.int .i64 0,.nils,.int .i64 4]
end Pit
theorem bestT_ok {p:Pit} (hv:p.Valid):p.bestT.Ok p where
 hm i x r hi hf hh:=PInv.func (by
  have hhot:=pitch_hot_ok hv hi (hour:=x.2) (by omega) hv.colder_lt
  refine pitch_Best_1.e.p (by simp) ?_
  simp[plV,Pit.pv]
  intro s1
  refine PCallK.intro (PInv.func hhot) ?_
  simp
  exact RetV.wk (nilH_le _) (by simp[Pit.bestT]))
 hj a b:=PInv.func (by
  refine pitch_Best_2.e.p (by simp) ?_
  simp
  exact RetV.wk (nilH_le _) (by simp[Pit.bestT]))
 zm _ _ _:=by simp[Pit.bestT]
 zj _ _ _:=by simp[Pit.bestT]
 cm:=rfl
 cj:=rfl
namespace Pit
theorem fold_min {α:Type} (g:α→Option Int):∀(l:List α) (acc:Option Int) (r:Int),
 l.foldl (fun acc x=>match g x with|none=>acc|some v=>some (match acc with|some a=>min a v|none=>v)) acc=some r→acc=some r∨∃x∈l,g x=some r
 | [],acc,r,h=>.inl h
 | x::l,acc,r,h=>by
   rw[List.foldl_cons] at h
   rcases fold_min g l _ r h with h|⟨y,hy,hr⟩
   ·cases hg:g x with
    | none=>rw[hg] at h;exact .inl h
    | some v=>
      rw[hg] at h
      cases acc with
      | none=>
        right
        exact ⟨x,by simp,by rw[hg];exact h⟩
      | some a=>
        simp only[Option.some.injEq] at h
        by_cases hav:a≤v
        ·left;rw[Int.min_eq_left hav] at h;simp[h]
        ·right;rw[Int.min_eq_right (by omega)] at h;exact ⟨x,by simp,by rw[hg,h]⟩
   ·exact .inr ⟨y,List.mem_cons_of_mem _ hy,hr⟩
variable {p : Pit}
theorem tell_some (hv:p.Valid) {m:Mrk} (ho:m.Ok) (hm:m.n<p.pots.length) {r:Int} (h:p.bestT.tell p m=some r):∃x∈p.steps m,∃r',p.bestT.tell p x.2=some r'∧p.bestT.more m.n x.1 r'=r:=by
 unfold Tly.tell at h
 obtain ⟨k,hk⟩:=Nat.exists_eq_add_of_lt hm
 rw[show p.pots.length - m.n=k+1 by omega] at h
 have he:∀x∈p.steps m,p.bestT.tellF p k x.2=p.bestT.tell p x.2:=by
  intro x hx
  have:=(Mrk.start_ok hv ho hx).2
  unfold Tly.tell
  rw[this,show p.pots.length - (m.n+1)=k by omega]
 have h2 :(p.steps m).foldl (fun acc x=>match (p.bestT.tellF p k x.2).map (p.bestT.more m.n x.1) with|none=>acc|some v=>some (match acc with|some a=>min a v|none=>v)) none=some r:=by
  rw[←h,show p.bestT.tellF p (k+1) m =(p.steps m).foldl (p.bestT.one (p.bestT.tellF p k) m.n) none from rfl]
  congr 1
  funext acc x
  unfold Tly.one
  generalize p.bestT.tellF p k x.2=o
  cases o with
  | none=>rfl
  | some v=>cases acc<;>rfl
 rcases fold_min (fun x :(Nat×Nat)×Mrk=>(p.bestT.tellF p k x.2).map (p.bestT.more m.n x.1)) _ _ _ h2 with h|⟨x,hx,hr⟩
 ·cases h
 ·obtain ⟨r',h3,h4⟩:=Option.map_eq_some_iff.1 hr
  exact ⟨x,hx,r',by rw[←he x hx];exact h3,h4⟩
theorem find_good (hv:p.Valid) {m:Mrk} (ho:m.Ok) (hm:m.n<p.pots.length) {n r:Int} (h:p.bestT.tell p m=some r) (hr:r≤n) :
 ∃x,(p.steps m).find? (p.good n m)=some x∧x∈p.steps m∧∃r',p.bestT.tell p x.2=some r'∧r'≤n:=by
 obtain ⟨x,hx,r',h1,h2⟩:=tell_some hv ho hm h
 have hg:p.good n m x=true:=by unfold good;rw[h1];simp[h2,hr]
 cases hf :(p.steps m).find? (p.good n m) with
 | none=>exact absurd hg (by simpa using List.find?_eq_none.1 hf x hx)
 | some y=>
   refine ⟨y,rfl,List.mem_of_find?_eq_some hf,?_⟩
   have hy:=List.find?_some hf
   unfold good at hy
   split at hy
   ·rename_i r2 h3
    refine ⟨r2,h3,?_⟩
    have:p.bestT.more m.n y.1 r2≤n:=of_decide_eq_true hy
    unfold bestT at this
    simp only at this
    omega
   ·cases hy
theorem planF_len (hv:p.Valid) {n:Int} : ∀(k:Nat) {m:Mrk} {r:Int},m.Ok→m.n+k=p.pots.length→p.bestT.tell p m=some r→r≤n→(p.planF n k m).length=k
 | 0,_,_,_,_,_,_=>rfl
 | k+1,m,r,ho,hk,h,hr=>by
   obtain ⟨x,h1,h2,r',h3,h4⟩:=find_good hv ho (by omega) h hr
   obtain ⟨h5,h6⟩:=Mrk.start_ok hv ho h2
   unfold planF
   rw[h1]
   simp only[List.length_cons]
   rw[planF_len hv k h5 (by omega) h3 h4]
theorem plan_len (hv:p.Valid) {n:Int} (h:p.best=some n):p.plan.length=p.pots.length:=by
 unfold plan
 rw[h]
 exact planF_len hv _ Mrk.zero_ok (by simp[Mrk.zero]) h (Int.le_refl _)
def plC (l:List (Nat×Nat)):List AVal:=fl (fun x:Nat×Nat=>[.int .i64 x.1,.int .i64 x.2]) l
theorem plC_len (l:List (Nat×Nat)) :(plC l).length=l.length*2:=fl_len (w:=2) (fun _=>rfl) l
theorem plC_set (l:List (Nat×Nat)) (x:Nat×Nat) (k:Nat):setRange (plC l++List.replicate (2*k+2) (.int .i64 0)) (l.length*2) [.int .i64 x.1,.int .i64 x.2]=plC (l++[x])++List.replicate (2*k) (.int .i64 0):=by
 have h:=plC_len l
 have e:plC (l++[x])=plC l++[.int .i64 x.1,.int .i64 x.2]:=by simp[plC,fl]
 unfold setRange
 rw[←h,List.take_left,e,List.append_assoc]
 congr 1
 rw[List.drop_append]
 simp
end Pit
@[simp] theorem acells_onV (p:Pit) (T:Tly) (sm so:Nat):acells (T.onV p sm so)=some [T.onV p sm so]:=rfl
def bestRow (p:Pit) (n:Int) (sm so s4 s6 s7 s8 s10 s11 sd:Nat) (L:Jm→AObj) (D:List Nat) (plan:List (Nat×Nat)) (m:Mrk) (t:Option ((Nat×Nat)×Mrk)×List Mrk):List (Nat×AObj):=
 (4,.row [.int .i64 0] s4) ::(6,.row [p.bestT.fm] s6) ::(7,.row [p.bestT.onV p sm so] s7) ::(8,.row [.int .i64 n] s8) ::
 (10,.row (match t.1 with|none=>Pit.plC plan++List.replicate (8 - plan.length*2) (.int .i64 0)|some x=>Pit.plC (plan++[x.1])++List.replicate (8 - (plan.length+1)*2) (.int .i64 0)) s10) ::
 (11,.row (match t.1 with|none=>m.cs|some x=>x.2.cs) s11) ::
 (100,match t.1 with|none=>L .go|some _=>L (.exit 2)) ::(D.length+250,.dfr false sd) ::(p.bestT.rows p sm so t.2++mkH 250 D)
theorem bestRow_b (p:Pit) (n:Int) (sm so s4 s6 s7 s8 s10 s11 sd:Nat) (L:Jm→AObj) {D:List Nat} (hD:D.length≤4) (plan:List (Nat×Nat)) (m:Mrk):RowsB (bestRow p n sm so s4 s6 s7 s8 s10 s11 sd L D plan m) 300:=by
 refine ⟨fun _ _=>by simp[bestRow,Tly.rows],fun t x hx=>?_,fun t=>?_⟩
 ·simp only[bestRow,Tly.rows,List.cons_append,List.nil_append,List.map_cons,List.mem_cons,mkH_mem] at hx
  omega
 ·simp only[bestRow,Tly.rows,List.cons_append,List.nil_append,List.map_cons,List.nodup_cons,List.mem_cons,mkH_mem]
  refine ⟨by omega,by omega,by omega,by omega,by omega,by omega,by omega,by omega,by omega,by omega,mkH_nodup _ _⟩
def bestH (p:Pit) (n:Int) (sm so s4 s6 s7 s8 s10 s11:Nat) (D:List Nat) (plan:List (Nat×Nat)) (m:Mrk) (M:List Mrk):List (Nat×AObj):=
 (4,.row [.int .i64 0] s4) ::(6,.row [p.bestT.fm] s6) ::(7,.row [p.bestT.onV p sm so] s7) ::(8,.row [.int .i64 n] s8) ::
 (10,.row (Pit.plC plan++List.replicate (8 - plan.length*2) (.int .i64 0)) s10) ::(11,.row m.cs s11) ::(p.bestT.rows p sm so M++mkH 250 D)
theorem pitch_Best_ok {p:Pit} (hv:p.Valid):APure Pg fn_pitch_Best [p.v] p.bestV:=by
 have hnp:=hv.np
 refine pitch_Best.e.p (by simp) ?_
 simp
 intro s1 s4
 refine FCall.pure (PInv.func (pitch_open_ok hv (fun _ _ _=>by simp) (PInv.func (pitch_always_ok _)))) ?_
 simp
 intro s5
 refine Sl.frzHp 5 (cells:=[p.pv]) (s:=s5+1) (by simp) (Sl.refl ?_)
 simp
 intro s6
 refine FCall.pitchTell (T:=p.bestT) (bestT_ok hv) (by simp) (by simp) fun sm so=>?_
 simp[Tly.rows]
 intro s7
 refine FCall.pitchOn (m:=.zero) hv (bestT_ok hv) (Nat.zero_le _) Mrk.zero_ok (M:=[]) (by simp) (by simp[Tly.rows]) fun M0 hM0=>?_
 cases hb:p.bestT.tell p .zero with
 | none=>
   simp[Tly.outV,Tly.rows]
   intro s8
   refine FCall.pan (PInvPan.func (pitch_ask_no 4)) ?_
   simp
   refine RetA.panic rfl (pitch_answer_no (x:=0) (s:=s4+1) (by simp) ?_)
   simp
   exact RetV.wk (nilH_le _) (by simp[Pit.bestV,Pit.best,hb])
 | some n=>
   simp[Tly.outV,Tly.rows]
   intro s8
   refine FCall.pure (PInv.func (pitch_ask_ok 4)) ?_
   simp
   intro s10 s11
   have hbest:p.best=some n:=hb
   refine Lp.introE (σ:=List Nat×List (Nat×Nat)×Mrk×List Mrk)
    (inv:=fun x=>x.1.length=x.2.1.length∧x.2.2.1.Ok∧x.2.2.1.n=x.2.1.length∧x.2.1.length≤p.pots.length∧(∃r,p.bestT.tell p x.2.2.1=some r∧r≤n)∧x.2.1++p.planF n (p.pots.length - x.2.1.length) x.2.2.1=p.plan∧x.2.2.2.Nodup)
    (vw:=fun _=>[(4,.ptr 4 0 (s4+1)),(5,.pv [p.pv]),(6,.ptr 6 0 (s6+1)),(7,.ptr 7 0 (s7+1)),(8,.ptr 8 0 (s8+1)),(10,.ptr 10 0 (s10+1)),(11,.ptr 11 0 (s11+1))])
    (hp:=fun x=>bestH p n sm so (s4+1) (s6+1) (s7+1) (s8+1) (s10+1) (s11+1) x.1 x.2.1 x.2.2.1 x.2.2.2) (dfs:=fun x=>mkD 250 x.1++[(.func (.func fn_pitch_answer) [] [],[.ptr 4 0 (s4+1)])]) (ms:=fun x=>p.pots.length - x.2.1.length) ([],[],.zero,M0)
    ⟨rfl,Mrk.zero_ok,rfl,Nat.zero_le _,⟨n,hb,Int.le_refl _⟩,by simp[Pit.plan,hbest],hM0⟩ (by simp) (by simp) (by simp[bestH,Tly.rows,Pit.bestT,Pit.plC,Mrk.zero,Mrk.cs,List.replicate]) ?_
   rintro ⟨D,plan,m,M⟩ ⟨hD,ho,hmn,hle,⟨r,hr1,hr2⟩,hpl,hM⟩ J hJ
   simp only at hD ho hmn hle hr1 hpl hM
   by_cases hlt:plan.length<p.pots.length
   ·obtain ⟨e,hf,he,r',hr3,hr4⟩:=Pit.find_good hv ho (by omega) hr1 hr2
    simp[bestH,Tly.rows,Pit.pv,hmn,hlt]
    refine FCall.pure (PInv.func (by simpa[Pit.pv,Mrk.v] using pitch_steps_ok p m)) ?_
    simp
    have hD4:D.length≤4:=by omega
    refine RF.intro 100 (D.length+250) rfl (by omega) (by simp[mkH_lo]) (by simp) fun sl sd LO LB yl=>?_
    have hmo:=fun (x:Nat×Nat) (r:Int) (h1:x.1<p.fires.length) (h2:x.2<p.H)=>(bestT_ok hv).hm m.n x r (by omega) h1 h2
    refine ACalls.cps (σ:=Option ((Nat×Nat)×Mrk)×List Mrk) (bestRow p n sm so (s4+1) (s6+1) (s7+1) (s8+1) (s10+1) (s11+1) sd LO D plan m (none,M)) (fun _=>.tup []) (fun t=>bestRow p n sm so (s4+1) (s6+1) (s7+1) (s8+1) (s10+1) (s11+1) sd LO D plan m t) (fun t=>t.1=some e∧t.2.Nodup) (fun K' hK'=>?_) (by simp[bestRow,Tly.rows,mkH_lo,mkH_upd]) (fun _=>rfl) fun t ht=>?_
    ·refine pitch_steps_1_ok hv (by omega) ho (bestRow p n sm so (s4+1) (s6+1) (s7+1) (s8+1) (s10+1) (s11+1) sd LO D plan m) (bestRow_b _ _ _ _ _ _ _ _ _ _ _ _ hD4 _ _) 100 sl
      (fun i t=>t.1=none∧t.2.Nodup∧∀j,j<i→∀x,(p.steps m)[j]? = some x→p.good n m x=false) (fun t=>t.1=some e∧t.2.Nodup) (fun i t x nx hI hx K0 hgo hst=>?_) (none,M) ⟨rfl,hM,fun j hj=>by omega⟩ K' (fun t ht=>?_)
     ·obtain ⟨f,M1⟩:=t
      obtain ⟨hn,hM1,hall⟩:=hI
      simp only at hn hM1
      subst hn
      have hmem :(x,nx)∈p.steps m:=List.mem_of_getElem? hx
      obtain ⟨hff,hhh,hnx⟩:=Pit.steps_mem p hmem
      obtain ⟨hno,hnn⟩:=Mrk.start_ok hv ho hmem
      simp only at hff hhh hnx hno hnn
      refine AInvoke.wk (yl _ _ _ rfl (by simp[bestRow]) ?_)
      simp[plV,bestRow,Tly.rows]
      intro s12 s13
      rw[show AVal.agg nx.cs=nx.v from rfl]
      refine FCall.pitchOn hv (bestT_ok hv) (by omega) hno hM1 (by simp[Tly.rows]) fun M2 hM2=>?_
      have hnext:∀(b:Bool),p.good n m (x,nx)=false→∀j,j<i+1→∀y,(p.steps m)[j]? = some y→p.good n m y=false:=fun _ hg j hj y hy=>by
       by_cases hji:j<i
       ·exact hall j hji y hy
       ·obtain rfl:j=i:=by omega
        rw[hx] at hy;cases hy;exact hg
      cases hr:p.bestT.tell p nx with
      | none=>
        have hg:p.good n m (x,nx)=false:=by simp[Pit.good,hr]
        simp[Tly.outV,Tly.rows]
        exact Wk.view (bestRow p n sm so (s4+1) (s6+1) (s7+1) (s8+1) (s10+1) (s11+1) sd LO D plan m (none,M2)) (by simp[bestRow,Tly.rows,mkH_lo,mkH_upd]) (hgo _ ⟨rfl,hM2,hnext true hg⟩)
      | some r=>
        have hm1:=hmo x r hff hhh
        simp only[plV] at hm1
        simp[Tly.outV,Tly.rows]
        refine FCall.pure' hm1 (by simp) (by simp) ?_
        by_cases hrn:p.bestT.more m.n x r≤n
        ·have hg:p.good n m (x,nx)=true:=by simp[Pit.good,hr,hrn]
         have hfe :(p.steps m).find? (p.good n m)=some (x,nx):=by
          rw[List.find?_eq_some_iff_getElem]
          obtain ⟨hi,hxe⟩:=List.getElem?_eq_some_iff.1 hx
          refine ⟨hg,i,hi,hxe,fun j hj=>?_⟩
          have:=hall j hj _ (List.getElem?_eq_getElem (by omega))
          simp[this]
         rw[hf] at hfe
         obtain rfl:e =(x,nx):=by simpa using hfe
         obtain ⟨k,hk⟩ : ∃k,8 - plan.length*2=2*k+2:=⟨3 - plan.length,by omega⟩
         have hset:=Pit.plC_set plan x k
         have hpl8:=Pit.plC_len plan
         simp[hrn,hk,hpl8]
         refine ⟨by omega,by omega,?_⟩
         refine Wk.view (bestRow p n sm so (s4+1) (s6+1) (s7+1) (s8+1) (s10+1) (s11+1) sd LO D plan m (some (x,nx),M2)) ?_ (hst _ ⟨rfl,hM2⟩)
         simp only[bestRow,hmn,hset,show 8 - (plan.length+1)*2=2*k by omega,show setRange m.cs 0 nx.cs=nx.cs from rfl]
         simp[Tly.rows,mkH_lo,mkH_upd]
        ·have hg:p.good n m (x,nx)=false:=by simp[Pit.good,hr,hrn]
         simp[hrn]
         exact Wk.view (bestRow p n sm so (s4+1) (s6+1) (s7+1) (s8+1) (s10+1) (s11+1) sd LO D plan m (none,M2)) (by simp[bestRow,Tly.rows,mkH_lo,mkH_upd]) (hgo _ ⟨rfl,hM2,hnext true hg⟩)
     ·rcases ht with ⟨h1,h2,h3⟩ | ht
      ·obtain ⟨j,hj,hje⟩:=List.getElem_of_mem he
       have:=h3 j hj e (by rw[List.getElem?_eq_getElem hj,hje])
       rw[List.find?_some hf] at this
       cases this
      ·exact hK' t ht
    ·obtain ⟨f,M1⟩:=t
     obtain ⟨rfl,hM1⟩:=ht
     refine ⟨.exit 2,by simp[bestRow],?_⟩
     simp[bestRow,Tly.rows]
     obtain ⟨h5,h6⟩:=Mrk.start_ok hv ho he
     refine hJ.next (sd::D,plan++[e.1],e.2,M1) ⟨by simp[hD],h5,?_,?_,⟨r',hr3,hr4⟩,?_,hM1⟩ ?_ ?_ ?_ ?_
     ·simp;omega
     ·simp;omega
     ·have hk:p.pots.length - plan.length =(p.pots.length - (plan.length+1))+1:=by omega
      rw[hk] at hpl
      simp only[Pit.planF,hf] at hpl
      simpa using hpl
     ·simp;omega
     ·simp
     ·simp[Pit.pv]
     ·simp[bestH,Tly.rows,mkH_lo,mkH_upd]
   ·have hpe:plan=p.plan:=by
     rw[show p.pots.length - plan.length=0 by omega] at hpl
     simpa[Pit.planF] using hpl
    have hpl4:plan.length=p.pots.length:=by omega
    have hpl8:=Pit.plC_len plan
    simp[bestH,Tly.rows,Pit.pv,hmn,hlt]
    refine hJ.exit ?_
    simp[hpl8]
    intro s76
    refine ⟨⟨by omega,by omega⟩,by omega,by omega,?_⟩
    have hrow:setRange (List.replicate p.pots.length [AVal.int .i64 0,AVal.int .i64 0]).flatten 0 (List.take (min 4 p.pots.length*2) (List.take 8 (Pit.plC plan++List.replicate (8 - plan.length*2) (AVal.int .i64 0))))=Pit.plC p.plan:=by
     rw[List.take_take,show min (min 4 p.pots.length*2) 8 =(Pit.plC plan).length by omega,List.take_left]
     rw[←hpe];simp[setRange,hpl8,hpl4]
    rw[hrow]
    refine RetA.marks (by simp[mkH_upd]) (RetA.ret rfl (pitch_answer_ok ?_))
    simp[dropM_lo,mkH_lo]
    refine RetV.frz 76 (cells:=Pit.plC p.plan) (s:=s76+1) (by simp[dropM_lo,mkH_lo]) ?_
    simp
    exact RetV.wk (nilH_le _) (by simp[Pit.bestV,hbest,Pit.plC])
end Go.Cw
end
section
namespace Go.Cw
open Go Go.Proofs
structure Mak where
 f:Int
 lo:Int
 hi:Int
 deriving DecidableEq,Inhabited
structure Clm where
 s:Int
 o:Int
 n:Bool
 deriving DecidableEq,Inhabited
def Mak.c (a:Mak):List AVal:=[.int .i64 a.f,.int .i64 a.lo,.int .i64 a.hi]
def Clm.c (a:Clm):List AVal:=[.int .i64 a.s,.int .i64 a.o,.bool a.n]
theorem Mak.w (a:Mak):a.c.length=3:=rfl
theorem Clm.w (a:Clm):a.c.length=3:=rfl
def maks (l:List Mak):List AVal:=fl Mak.c l
def clms (l:List Clm):List AVal:=fl Clm.c l
section
variable (l : List Mak)
@[simp] theorem maks_nil : maks []=[]:=rfl
@[simp] theorem maks_length :(maks l).length=l.length*3:=fl_len Mak.w l
@[simp] theorem maks_drop (k:Nat) :(maks l).drop (k*3)=maks (l.drop k):=fl_drop Mak.w l k
@[simp] theorem maks_take3 :(maks l).take 3 =(l.head?.map fun a=>[.int .i64 a.f,.int .i64 a.lo,.int .i64 a.hi]).getD []:=by cases l<;>rfl
end
section
variable (l : List Clm)
@[simp] theorem clms_length :(clms l).length=l.length*3:=fl_len Clm.w l
@[simp] theorem clms_drop (k:Nat) :(clms l).drop (k*3)=clms (l.drop k):=fl_drop Clm.w l k
@[simp] theorem clms_take3 :(clms l).take 3 =(l.head?.map fun a=>[.int .i64 a.s,.int .i64 a.o,.bool a.n]).getD []:=by cases l<;>rfl
end
section
variable (l : List Clm)
@[simp] theorem clms_head :(clms l).head? = l.head?.map fun a=>.int .i64 a.s:=by cases l<;>rfl
@[simp] theorem clms_get1 :(clms l)[1]? = l.head?.map fun a=>.int .i64 a.o:=by cases l<;>rfl
end
section
variable (l : List Mak)
end
def LMk (l:List Mak):AVal:=.vl l.length (maks l)
def LCl (l:List Clm):AVal:=.vl l.length (clms l)
def LM (l:List (List Mak)):List AVal:=l.map LMk
def LLM (l:List (List Mak)):AVal:=.vl l.length (LM l)
section
variable (l : List Mak)
@[simp] theorem acells_LMk : acells (LMk l)=some [LMk l]:=(rfl)
@[simp] theorem aLen_LMk : aLen (LMk l)=some (.int .i64 l.length):=(rfl)
@[simp] theorem satIxS_LMk (k:IntKind) (n:Int) (K:AVal→Prop):satIxS 3 (LMk l) (.int k n) K =((0≤n∧n<l.length)∧K (.pv (maks (l.drop n.toNat)))):=by
 simp[LMk]
end
section
variable (l : List Clm)
@[simp] theorem frz_LCl (r s:Nat) (cells:List AVal):frz r s cells (LCl l)=LCl l:=(rfl)
@[simp] theorem aLen_LCl : aLen (LCl l)=some (.int .i64 l.length):=(rfl)
@[simp] theorem satIxS_LCl (k:IntKind) (n:Int) (K:AVal→Prop):satIxS 3 (LCl l) (.int k n) K =((0≤n∧n<l.length)∧K (.pv (clms (l.drop n.toNat)))):=by
 simp[LCl]
end
section
variable (l : List (List Mak))
@[simp] theorem LM_nil : LM []=[]:=(rfl)
@[simp] theorem LM_length :(LM l).length=l.length:=by simp[LM]
@[simp] theorem LM_drop (i:Nat) :(LM l).drop i=LM (l.drop i):=by simp[LM]
@[simp] theorem LM_head :(LM l).head? = l.head?.map LMk:=by simp[LM]
@[simp] theorem frz_LLM (r s:Nat) (cells:List AVal):frz r s cells (LLM l)=LLM l:=(rfl)
@[simp] theorem aLen_LLM : aLen (LLM l)=some (.int .i64 l.length):=(rfl)
@[simp] theorem satIxS_LLM (k:IntKind) (n:Int) (K:AVal→Prop):satIxS 1 (LLM l) (.int k n) K =((0≤n∧n<l.length)∧K (.pv (LM (l.drop n.toNat)))):=by
 simp[LLM]
end
section
variable (l : List (List Int))
end
structure Irn where
 ft:Int
 own:List (List Int)
 most:List Int
 strk:List (List Mak)
 clm:List Clm
 deriving DecidableEq
namespace Irn
variable (x : Irn)
def c : List AVal:=[.int .i64 x.ft,LLv x.own,L x.most,LLM x.strk,LCl x.clm]
def v : AVal:=.agg x.c
def ss : Nat:=2^x.strk.length - 1
def cs : Nat:=2^x.clm.length - 1
def pc : List AVal:=[.int .i64 x.ft,LLv x.own,L x.most,LLM x.strk,LCl x.clm,.int .u64 (x.ss:Nat),.int .u64 (x.cs:Nat),.bool false]
def pv : AVal:=.pv x.pc
def mark (m:Mak) (o:Nat):Int:=(x.own.getD o []).getD m.f.toNat 0
def fit (o:Nat) (m:Mak):Bool:=decide (m.lo≤x.mark m o∧x.mark m o≤m.hi)
def fits (o s:Nat):Bool:=(x.strk.getD s []).all (x.fit o)
end Irn
namespace Ir
def right (c:Clm) (o:Int):Bool:=if c.n then o != c.o else o == c.o
def plus (a b:Int×Int):Int×Int:=(IntKind.i64.wrap (a.1+b.1),IntKind.i64.wrap (a.2+b.2))
def less (a b:Int×Int):Bool:=decide (a.1<b.1) || (decide (a.1=b.1) && decide (a.2<b.2))
def wv (a:Int×Int):AVal:=.agg [.int .i64 a.1,.int .i64 a.2]
end Ir
namespace Irn
variable (x : Irn)
def wrN (s o:Int):Nat→Int×Int
 | 0=>(0,0)
 | k+1=>if (x.clm.getD k default).s=s∧Ir.right (x.clm.getD k default) o=false then Ir.plus (wrN s o k) (1,2^k) else wrN s o k
def wrong (s o:Int):Int×Int:=x.wrN s o x.clm.length
structure Good : Prop where
 no:x.own.length≤5
 nm:x.most.length=x.own.length
 ns:x.strk.length≤6
 nc:x.clm.length≤8
 ol:∀l∈x.own,(l.length:Int)=x.ft
 ml:∀l∈x.strk,l.length≤7
 mf:∀l∈x.strk,∀m∈l,0≤m.f∧m.f<x.ft
variable {x}
theorem own_get {o:Nat} (h:o<x.own.length):x.own[o]=x.own.getD o []:=by simp[h]
theorem strk_get {o:Nat} (h:o<x.strk.length):x.strk[o]=x.strk.getD o []:=by simp[h]
theorem clm_get {o:Nat} (h:o<x.clm.length):x.clm[o]=x.clm.getD o default:=by simp[h]
end Irn
theorem iron_within_ok (n lo hi:Int):APure Pg fn_iron_within [.int .i64 n,.int .i64 lo,.int .i64 hi] (.bool (decide (lo≤n∧n≤hi))):=by
 refine iron_within.e.p (by simp) ?_
 by_cases h:lo≤n<;>simp[h]<;>refine RetV.refl ?_<;>simp_all
theorem iron_his_ok (c o:Int):APure Pg fn_iron_his_right [.agg [.int .i64 c],.int .i64 o] (.bool (o == c)):=by
 refine iron_his_right.e.p (by simp) ?_
 simp
 intro s
 exact RetV.refl rfl
theorem iron_other_ok (c o:Int):APure Pg fn_iron_other_right [.agg [.int .i64 c],.int .i64 o] (.bool (o != c)):=by
 refine iron_other_right.e.p (by simp) ?_
 simp
 intro s
 exact RetV.refl rfl
theorem meth_other : MethAt Pg 360 "caulkworks/iron.right" fn_iron_other_right:=⟨fun _ _=>by kernel_rfl⟩
theorem meth_his : MethAt Pg 361 "caulkworks/iron.right" fn_iron_his_right:=⟨fun _ _=>by kernel_rfl⟩
def Clm.r (c:Clm):AVal:=if c.n then .iface 360 (.agg [.int .i64 c.o]) else .iface 361 (.agg [.int .i64 c.o])
theorem iron_claimOf_ok (c:Clm):APure Pg fn_iron_claimOf [.agg [.int .i64 c.s,.int .i64 c.o,.bool c.n]] c.r:=by
 obtain ⟨s,o,n⟩:=c
 refine iron_claimOf.e.p (by simp) ?_
 cases n<;>simp<;>intro s<;>exact RetV.refl rfl
theorem iron_right_ok (c:Clm) (o:Int):PInv Pg (.func (.method "caulkworks/iron.right") [c.r] []) [.int .i64 o] (.bool (Ir.right c o)):=by
 obtain ⟨s,q,n⟩:=c
 cases n with
 | true=>exact fun hp=>AInvoke.meth meth_other (iron_other_ok q o hp)
 | false=>exact fun hp=>AInvoke.meth meth_his (iron_his_ok q o hp)
theorem iron_less_ok (a b:Int×Int):APure Pg fn_iron_wrong_less [Ir.wv a,Ir.wv b] (.bool (Ir.less a b)):=by
 refine iron_wrong_less.e.p (by simp) ?_
 simp[Ir.wv]
 intro s1 s2
 by_cases h:a.1<b.1
 ·simp[h]
  exact RetV.refl (by simp[Ir.less,h])
 by_cases h2:a.1=b.1
 ·simp[h2]
  exact RetV.refl (by simp[Ir.less,h2])
 ·simp[h,h2]
  exact RetV.refl (by simp[Ir.less,h,h2])
theorem iron_plus_ok (a b:Int×Int):APure Pg fn_iron_wrong_plus [Ir.wv a,.vl 1 [.int .i64 b.1,.int .i64 b.2]] (Ir.wv (Ir.plus a b)):=by
 refine iron_wrong_plus.e.p (by simp) ?_
 simp[Ir.wv]
 intro s1 s2
 refine Lp.rounds 2 (LpI.round fun J hJ=>?_)
 simp
 intro s3
 simp[abin,arI,isSh]
 refine ⟨by unfold Fits;omega,hJ.go (LpI.round fun J hJ=>?_)⟩
 simp
 refine hJ.exit ?_
 simp
 exact RetV.wk (nilH_le _) (by simp[Ir.plus])
theorem Irn.shr_one {n k:Nat} (hk:k<n) (hn:n≤8):bitI .and .u64 (((2^n - 1:Nat):Int) / 2^k) 1=1:=by
 have:∀n,n≤8→∀k,k<n→bitI .and .u64 (((2^n - 1:Nat):Int) / 2^k) 1=1:=by decide
 exact this n hn k hk
theorem iron_wrong_ok {x:Irn} (hx:x.Good) (s o:Int):APure Pg fn_iron_irons_wrong [x.pv,.int .i64 s,.int .i64 o] (Ir.wv (x.wrong s o)):=by
 have hc8:=hx.nc
 refine iron_irons_wrong.e.p (by simp) ?_
 simp[Irn.pv,Irn.pc]
 intro s1
 refine Lp.intro (σ:=Nat) (inv:=fun k=>k≤x.clm.length) (vw:=fun k=>[(0,x.pv),(1,.int .i64 s),(2,.int .i64 o),(6,.ptr 6 0 (s1+1)),(7,.func (.func fn_iron_wrong_plus) [] []),(14,LCl x.clm),(15,.int .i64 x.clm.length),(16,.int .i64 k)])
  (hp:=fun k=>[(6,.row [.int .i64 (x.wrN s o k).1,.int .i64 (x.wrN s o k).2] (s1+1))]) (ms:=fun k=>x.clm.length - k) 0 (Nat.zero_le _) (by simp[Irn.pv,Irn.pc]) (by simp[Irn.wrN]) ?_
 intro k hk J hJ
 by_cases hlt:k<x.clm.length
 ·have hg:=Irn.clm_get hlt
  obtain ⟨c,hcd⟩ : ∃c,c=x.clm.getD k default:=⟨_,rfl⟩
  rw[←hcd] at hg
  have hco:=iron_claimOf_ok c
  have hri:=iron_right_ok c o
  have hsh:bitI .and .u64 ((x.cs:Nat) / 2^k) 1=1:=Irn.shr_one hlt hc8
  have hk64 :(k:Int)<64:=by omega
  have hk1:x.wrN s o (k+1)=if c.s=s∧Ir.right c o=false then Ir.plus (x.wrN s o k) (1,2^k) else x.wrN s o k:=by rw[hcd];rfl
  simp[Irn.pv,Irn.pc,hlt,hg]
  refine ⟨by omega,fun s2=>?_⟩
  by_cases hcs:c.s=s
  ·simp[hcs,hk64,hsh]
   refine PCallK.intro (PInv.func (by simpa[hcs] using hco)) ?_
   simp
   refine FCall.pure' hri (by simp) (by simp) ?_
   cases hr:Ir.right c o with
   | true=>
     rw[if_neg (fun h=>by rw[hr] at h;cases h.2)] at hk1
     simp
     refine ⟨by unfold Fits;omega,?_⟩
     exact hJ.next (k+1) hlt (by omega) (by simp[Irn.pv,Irn.pc]) (by simp[hk1])
   | false=>
     rw[if_pos ⟨hcs,hr⟩] at hk1
     have hpl:=iron_plus_ok (x.wrN s o k) (1,2^k)
     have h2k :(2:Int)^k≤2^8:=two_pow_le (by omega)
     have h2p:=two_pow_pos k
     simp[hk64]
     refine ⟨by unfold Fits;omega,fun s3=>?_⟩
     refine FCall.frz1 (v:=Ir.wv (Ir.plus (x.wrN s o k) (1,2^k))) 47 (cells:=[.int .i64 1,.int .i64 (2^k)]) (s:=s3+1) (by simp) (PInv.func (by simpa[Ir.wv] using hpl)) (by simp) ?_
     simp[Ir.wv]
     refine ⟨by unfold Fits;omega,?_⟩
     exact hJ.next (k+1) hlt (by omega) (by simp[Irn.pv,Irn.pc]) (by simp[hk1])
  ·rw[if_neg (fun h=>hcs h.1)] at hk1
   simp[hcs]
   refine ⟨by unfold Fits;omega,?_⟩
   exact hJ.next (k+1) hlt (by omega) (by simp[Irn.pv,Irn.pc]) (by simp[hk1])
 ·obtain rfl:k=x.clm.length:=by omega
  simp[Irn.pv,Irn.pc]
  refine hJ.exit ?_
  simp
  exact RetV.wk (nilH_le _) (by simp[Ir.wv,Irn.wrong])
theorem iron_fits_ok {x:Irn} (hx:x.Good) {o s:Nat} (ho:o<x.own.length) (hs:s<x.strk.length):APure Pg fn_iron_irons_fits [x.pv,.int .i64 o,.int .i64 s] (.bool (x.fits o s)):=by
 have hg:=Irn.strk_get hs
 have hgo:=Irn.own_get ho
 obtain ⟨ms,hms⟩ : ∃ms,ms=x.strk.getD s []:=⟨_,rfl⟩
 obtain ⟨ol,hol⟩ : ∃ms,ms=x.own.getD o []:=⟨_,rfl⟩
 rw[←hms] at hg
 rw[←hol] at hgo
 have hmf:=hx.mf x.strk[s] (by simp)
 have hml:=hx.ml x.strk[s] (by simp)
 rw[hg] at hml
 have hlo:=hx.ol x.own[o] (by simp)
 rw[hg] at hmf
 rw[hgo] at hlo
 refine iron_irons_fits.e.p (by simp) ?_
 simp[Irn.pv,Irn.pc,hs,hg]
 refine Lp.intro (σ:=Nat) (inv:=fun k=>k≤ms.length∧∀j (h:j<ms.length),j<k→x.fit o ms[j]=true) (vw:=fun k=>[(0,x.pv),(1,.int .i64 o),(2,.int .i64 s),(16,LMk ms),(17,.int .i64 ms.length),(18,.int .i64 k)])
  (hp:=fun _=>[]) (ms:=fun k=>ms.length - k) 0 ⟨Nat.zero_le _,fun j _ h=>by omega⟩ (by simp[Irn.pv,Irn.pc]) (by simp) ?_
 rintro k ⟨hk,hall⟩ J hJ
 by_cases hlt:k<ms.length
 ·obtain ⟨h1,h2⟩:=hmf ms[k] (by simp)
  obtain ⟨m,hm⟩ : ∃m,m=ms[k]:=⟨_,rfl⟩
  rw[←hm] at h1 h2
  obtain ⟨f,hf⟩ : ∃f:Nat,m.f=f:=⟨m.f.toNat,by omega⟩
  have hfl:f<ol.length:=by omega
  have hv:ol[f]=x.mark m o:=by unfold Irn.mark;rw[←hol,hf];simp[hfl]
  simp[Irn.pv,Irn.pc,hlt,ho,hgo,←hm,hf]
  refine ⟨by omega,fun s1=>⟨hfl,?_⟩⟩
  simp[hfl,hv]
  refine PCallK.intro (PInv.func (iron_within_ok _ _ _)) ?_
  by_cases hw:m.lo≤x.mark m o∧x.mark m o≤m.hi
  ·simp[hw]
   refine ⟨by unfold Fits;omega,?_⟩
   refine hJ.next (k+1) ⟨hlt,fun j hj hjk=>?_⟩ (by omega) (by simp[Irn.pv,Irn.pc]) (by simp)
   by_cases hjk':j<k
   ·exact hall j hj hjk'
   ·obtain rfl:j=k:=by omega
    rw[←hm];simp[Irn.fit,hw]
  ·simp only[hw,decide_false]
   simp
   refine hJ.ret ?_
   simp
   refine RetV.wk (nilH_le _) ?_
   have:x.fits o s=false:=by
    unfold Irn.fits;rw[←hms,List.all_eq_false]
    exact ⟨m,by rw[hm];simp,by unfold Irn.fit;rw[decide_eq_true_iff];exact hw⟩
   simp[this]
 ·simp[Irn.pv,Irn.pc,hlt]
  refine hJ.exit ?_
  simp
  refine RetV.wk (nilH_le _) ?_
  have:x.fits o s=true:=by
   unfold Irn.fits;rw[←hms,List.all_eq_true]
   intro m hm
   obtain ⟨j,hj,rfl⟩:=List.getElem_of_mem hm
   exact hall j hj (by omega)
  simp[this]
theorem iron_irons_isStrake_ok {x:Irn} (hx:x.Good) (n:Int):APure Pg fn_iron_irons_isStrake [x.pv,.int .i64 n] (.bool (decide (0≤n∧n≤x.strk.length - 1))):=by
 have:=hx.ns
 refine iron_irons_isStrake.e.p (by simp) ?_
 simp[Irn.pv,Irn.pc]
 refine ⟨by unfold Fits;omega,?_⟩
 refine PCallK.intro (PInv.func (iron_within_ok _ _ _)) ?_
 simp
 exact RetV.refl (by simp)
theorem iron_isStrake_1_ok {x:Irn} (hx:x.Good) (n:Int):APure Pg fn_iron_isStrake_1 [x.pv,.pv [.int .i64 n]] (.bool (decide (0≤n∧n≤x.strk.length - 1))):=by
 refine iron_isStrake_1.e.p (by simp) ?_
 simp
 refine PCallK.intro (PInv.func (iron_irons_isStrake_ok hx n)) ?_
 simp
 exact RetV.refl (by simp)
theorem iron_isStrake_ok (n:Int):APure Pg fn_iron_isStrake [.int .i64 n] (.func (.func fn_iron_isStrake_1) [] [.pv [.int .i64 n]]):=by
 refine iron_isStrake.e.p (by simp) ?_
 simp
 intro s
 refine RetV.frz 1 (cells:=[.int .i64 n]) (s:=s+1) (by simp) ?_
 exact RetV.refl (by simp)
end Go.Cw
end
section
namespace Go.Cw
open Go Go.Proofs
structure Giv where
 n:Nat
 a:Nat
 b:Nat
 c:Nat
 d:Nat
 e:Nat
 deriving DecidableEq
namespace Giv
variable (g : Giv)
def cs : List AVal:=[.int .i64 g.n,.int .i64 g.a,.int .i64 g.b,.int .i64 g.c,.int .i64 g.d,.int .i64 g.e]
def v : AVal:=.agg g.cs
def zero : Giv:=⟨0,0,0,0,0,0⟩
@[simp] theorem cs_len : g.cs.length=6:=rfl
@[simp] theorem cs_take : g.cs.take 6=g.cs:=rfl
@[simp] theorem cs_head : g.cs.head? = some (.int .i64 g.n):=rfl
@[simp] theorem cs_set (a b c d e f:AVal):setRange [a,b,c,d,e,f] 0 g.cs=g.cs:=rfl
@[simp] theorem acells_v : acells g.v=some g.cs:=rfl
def at' (o:Nat):Nat:=if o=0 then g.a else if o=1 then g.b else if o=2 then g.c else if o=3 then g.d else g.e
def next (o:Nat):Giv:=
 if o=0 then ⟨g.n+1,g.a+1,g.b,g.c,g.d,g.e⟩ else if o=1 then ⟨g.n+1,g.a,g.b+1,g.c,g.d,g.e⟩ else if o=2 then ⟨g.n+1,g.a,g.b,g.c+1,g.d,g.e⟩
 else if o=3 then ⟨g.n+1,g.a,g.b,g.c,g.d+1,g.e⟩ else ⟨g.n+1,g.a,g.b,g.c,g.d,g.e+1⟩
structure Ok : Prop where
 a:g.a≤g.n
 b:g.b≤g.n
 c:g.c≤g.n
 d:g.d≤g.n
 e:g.e≤g.n
theorem zero_ok : zero.Ok:=⟨by decide,by decide,by decide,by decide,by decide⟩
variable {g}
theorem Ok.at' (h:g.Ok) (f:Nat):g.at' f≤g.n:=by
 obtain ⟨h1,h2,h3,h4,h5⟩:=h
 unfold Giv.at'
 repeat' split
 all_goals assumption
theorem Ok.next (h:g.Ok) (f:Nat) :(g.next f).Ok:=by
 obtain ⟨h1,h2,h3,h4,h5⟩:=h
 unfold Giv.next
 repeat' split
 all_goals constructor<;>simp<;>omega
theorem next_n (f:Nat) :(g.next f).n=g.n+1:=by unfold Giv.next;repeat' split
                                               all_goals rfl
theorem keyLaw : KeyLaw (true,[.i,.i,.i,.i,.i,.i]) Giv.v:=⟨fun x y=>by
 obtain ⟨n,a,b,c,d,e⟩:=x
 obtain ⟨n',a',b',c',d',e'⟩:=y
 simp only[keyEq,Giv.v,Giv.cs,if_true,flatEq_i,flatEq_nil,Option.map_some,Giv.mk.injEq]
 congr 1
 rw[Bool.eq_iff_iff]
 simp⟩
end Giv
namespace Irn
variable (x : Irn)
def step1 (g:Giv) (o:Nat):List (Nat×Giv):=if (g.at' o:Int)=x.most.getD o 0 then [] else if x.fits o g.n then [(o,g.next o)] else []
def steps (g:Giv):List (Nat×Giv):=(List.range x.own.length).flatMap (x.step1 g)
def pre (g:Giv) (o:Nat):List (Nat×Giv):=(List.range o).flatMap (x.step1 g)
theorem pre_succ (g:Giv) (o:Nat):x.pre g (o+1)=x.pre g o++x.step1 g o:=by simp[pre,List.range_succ]
theorem pre_at {g:Giv} {o:Nat} (ho:o<x.own.length) {e:Nat×Giv} (he:x.step1 g o=[e]) :(x.steps g)[(x.pre g o).length]? = some e:=by
 obtain ⟨r,hr⟩:=flatMap_split (x.step1 g) ho
 have:x.steps g=x.pre g o++(e::r):=by unfold steps;rw[hr,he];rfl
 rw[this]
 simp
theorem steps_mem {g:Giv} {e:Nat×Giv} (h:e∈x.steps g):e.1<x.own.length∧e.2=g.next e.1:=by
 simp only[steps,List.mem_flatMap,List.mem_range] at h
 obtain ⟨o,ho,he⟩:=h
 unfold step1 at he
 split at he
 ·cases he
 split at he
 ·simp at he;subst he;exact ⟨ho,rfl⟩
 ·cases he
theorem most_get {x:Irn} {o:Nat} (h:o<x.most.length):x.most[o]=x.most.getD o 0:=by simp[h]
end Irn
theorem iron_next_1_ok {x:Irn} (hx:x.Good) {g:Giv} (hm:g.n<x.strk.length) (hg:g.Ok) {τ:Type} (row:τ→List (Nat×AObj)) (hb:RowsB row 300) (yr ys:Nat) (I:Nat→τ→Prop) (D:τ→Prop)
 (hy:∀k t (o:Nat) nx,I k t→(x.steps g)[k]? = some (o,nx)→∀K:AEnd→Heap→Prop,(∀t',I (k+1) t'→K (.ret (.bool true)) (hpV (row t')))→(∀t',D t'→K (.ret (.bool false)) (hpV (row t')))→
   AInvoke Pg (.yield yr ys) [.int .i64 (o:Nat),nx.v] (hpV (row t)) K)
 (t₀:τ) (h0:I 0 t₀) (K:AEnd→Heap→Prop) (hK:∀t,I (x.steps g).length t∨D t→K (.ret (.tup [])) (hpV (row t))) :
 ACalls Pg fn_iron_irons_next_1 [.yield yr ys,.pv g.cs,.pv [x.pv]] (hpV (row t₀)) K:=by
 have hno:=hx.no
 have hns:=hx.ns
 have hnm:=hx.nm
 have hss:bitI .and .u64 ((x.ss:Nat) / 2^g.n) 1=1:=Irn.shr_one hm (by omega)
 have hg64 :(g.n:Int)<64:=by omega
 refine iron_irons_next_1.e 300 (by simp) ?_
 simp[Irn.pv,Irn.pc,hb.hpV]
 intro s4
 simp[hss,hg64]
 refine ⟨by unfold Fits;omega,?_⟩
 refine Lp.intro (σ:=Nat×τ) (inv:=fun k=>k.1≤x.own.length∧I (x.pre g k.1).length k.2)
  (vw:=fun k=>[(0,.yield yr ys),(1,.pv g.cs),(2,.pv [x.pv]),(4,.ptr 304 0 (s4+1)),(5,.func (.func fn_iron_irons_fits) [x.pv] []),(32,.int .i64 x.own.length),(33,.int .i64 k.1)])
  (hp:=fun k=>(304,.row [.int .i64 (g.n+1),.int .i64 g.a,.int .i64 g.b,.int .i64 g.c,.int .i64 g.d,.int .i64 g.e] (s4+1))::row k.2) (ms:=fun k=>x.own.length - k.1) (0,t₀)
  ⟨Nat.zero_le _,h0⟩ (by simp[Irn.pv,Irn.pc]) (by simp[hb.upd,hb.self,Giv.cs]) ?_
 rintro ⟨o,t⟩ ⟨ho,hI⟩ J hJ
 simp only at ho hI
 by_cases hlt:o<x.own.length
 ·have hmg:=Irn.most_get (x:=x) (o:=o) (by omega)
  obtain ⟨mo,hmo⟩ : ∃mo,mo=x.most.getD o 0:=⟨_,rfl⟩
  rw[←hmo] at hmg
  have hfi:=iron_fits_ok hx hlt hm
  have hat:[AVal.int .i64 g.a,.int .i64 g.b,.int .i64 g.c,.int .i64 g.d,.int .i64 g.e][o]? = some (.int .i64 (g.at' o:Nat)):=by
   unfold Giv.at'
   rcases (show o=0∨o=1∨o=2∨o=3∨o=4 by omega) with rfl|rfl|rfl|rfl|rfl<;>simp
  have hskip:x.step1 g o=[]→I (x.pre g (o+1)).length t:=fun e=>by rw[Irn.pre_succ,e,List.append_nil];exact hI
  have ho5 :(o:Int)<5:=by omega
  have hgo:=hg.at' o
  simp[Irn.pv,Irn.pc,hlt,hnm,Giv.cs,hat,hmg]
  refine ⟨ho5,?_⟩
  by_cases hqe :(g.at' o:Int)=mo
  ·have hs1:x.step1 g o=[]:=by unfold Irn.step1;rw[←hmo,if_pos hqe]
   simp[hqe]
   refine ⟨by unfold Fits;omega,?_⟩
   exact hJ.next (o+1,t) ⟨hlt,hskip hs1⟩ (by simp;omega) (by simp[Irn.pv,Irn.pc,Giv.cs]) (by simp[hb.upd,hb.self])
  simp[hqe]
  refine FCall.pure (v:=.bool (x.fits o g.n)) (PInv.func (by simpa[Irn.pv,Irn.pc] using hfi)) ?_
  cases hf:x.fits o g.n with
  | false=>
    have hs1:x.step1 g o=[]:=by unfold Irn.step1;rw[←hmo,if_neg hqe,hf];rfl
    simp
    refine ⟨by unfold Fits;omega,?_⟩
    exact hJ.next (o+1,t) ⟨hlt,hskip hs1⟩ (by simp;omega) (by simp[Irn.pv,Irn.pc,Giv.cs]) (by simp[hb.upd,hb.self])
  | true=>
    have hs1:x.step1 g o=[(o,g.next o)]:=by unfold Irn.step1;rw[←hmo,if_neg hqe,hf];rfl
    have hset:setRange [AVal.int .i64 ((g.n:Int)+1),.int .i64 g.a,.int .i64 g.b,.int .i64 g.c,.int .i64 g.d,.int .i64 g.e] (1+o) [.int .i64 ((g.at' o:Nat)+1)] =(g.next o).cs:=by
     unfold Giv.at' Giv.next
     rcases (show o=0∨o=1∨o=2∨o=3∨o=4 by omega) with rfl|rfl|rfl|rfl|rfl<;>simp[setRange,Giv.cs]
    simp[hb.hpV,hat]
    intro s7
    have hat1:[AVal.int .i64 ((g.n:Int)+1),.int .i64 g.a,.int .i64 g.b,.int .i64 g.c,.int .i64 g.d,.int .i64 g.e][1+o]? = some (.int .i64 (g.at' o:Nat)):=by
     rw[Nat.add_comm 1 o,List.getElem?_cons_succ];exact hat
    have ho6:1+o<6:=by omega
    simp[ho5,hat1,hset]
    refine ⟨by unfold Fits;omega,by omega,?_⟩
    have hI':=Irn.pre_at (x:=x) hlt hs1
    rw[show AVal.agg (g.next o).cs =(g.next o).v from rfl]
    refine FCall.cps (σ:={z:Bool×τ // if z.1=true then I ((x.pre g o).length+1) z.2 else D z.2}) (row t) (fun z=>.bool z.1.1) (fun z=>row z.1.2) (fun _=>True) (fun K' hK'=>hy _ t o _ hI hI' K' (fun t' h1=>hK' ⟨(true,t'),by simpa using h1⟩ trivial) (fun t' h1=>hK' ⟨(false,t'),by simpa using h1⟩ trivial)) (by simp[hb.upd,hb.self]) (fun z=>hb.hn _ _) trivial (fun z _=>⟨trivial,?_⟩)
    obtain ⟨⟨b,t'⟩,hz⟩:=z
    cases b with
    | true=>
      simp at hz ⊢
      refine ⟨by unfold Fits;omega,?_⟩
      exact hJ.next (o+1,t') ⟨hlt,by rw[Irn.pre_succ,hs1];simpa using hz⟩ (by simp;omega) (by simp[Irn.pv,Irn.pc,Giv.cs]) (by simp[hb.upd,hb.updL_self,hb.updL])
    | false=>
      simp at hz ⊢
      refine hJ.ret ?_
      simp
      refine RetV.view (row t') (by simp[hb.upd,hb.updL,hb.updL_self]) (hK t' (.inr hz))
 ·obtain rfl:o=x.own.length:=by omega
  simp[Irn.pv,Irn.pc]
  refine hJ.exit ?_
  simp
  refine RetV.view (row t) (by simp[hb.upd,hb.self]) (hK t (.inl hI))
end Go.Cw
end
section
namespace Go.Cw
open Go Go.Proofs
@[simp] theorem acells_Irn (x:Irn):acells x.pv=some [x.pv]:=rfl
@[simp] theorem frz_Irn (r s:Nat) (cells:List AVal) (x:Irn):frz r s cells x.pv=x.pv:=by simp[Irn.pv]
theorem iron_next_ok (x:Irn) (g:Giv):APure Pg fn_iron_irons_next [x.pv,g.v] (.func (.func fn_iron_irons_next_1) [] [.pv g.cs,.pv [x.pv]]):=by
 refine iron_irons_next.e.p (by simp) ?_
 simp
 intro s1 s2
 refine RetV.frz 2 (cells:=[x.pv]) (s:=s1+1) (by simp) (RetV.frz 3 (cells:=g.cs) (s:=s2+1) (by simp) ?_)
 exact RetV.refl (by simp)
structure ITl (ρ:Type) where
 e:ρ
 fm:AVal
 fj:AVal
 more:Nat→Nat→ρ→ρ
 join:ρ→ρ→ρ
structure ITl.Ok {ρ:Type} (T:ITl ρ) (x:Irn) (rv:ρ→AVal):Prop where
 hm:∀s o r,s<x.strk.length→o<x.own.length→PInv Pg T.fm [.int .i64 (s:Nat),.int .i64 (o:Nat),rv r] (rv (T.more s o r))
 hj:∀a b,PInv Pg T.fj [rv a,rv b] (rv (T.join a b))
 zm:∀r s cells,frz r s cells T.fm=T.fm
 zj:∀r s cells,frz r s cells T.fj=T.fj
 cm:acells T.fm=some [T.fm]
 cj:acells T.fj=some [T.fj]
namespace ITl
variable {ρ : Type} (T:ITl ρ) (x:Irn)
def one (tl:Giv→Option ρ) (i:Nat) (acc:Option ρ) (y:Nat×Giv):Option ρ:=
 match tl y.2 with
 | none=>acc
 | some r=>some (match acc with
   | some a=>T.join a (T.more i y.1 r)
   | none=>T.more i y.1 r)
def tellF : Nat→Giv→Option ρ
 | 0,_=>some T.e
 | k+1,g=>(x.steps g).foldl (T.one (tellF k) g.n) none
def tell (g:Giv):Option ρ:=T.tellF x (x.strk.length - g.n) g
end ITl
theorem Giv.start_ok {x:Irn} {g:Giv} (ho:g.Ok) {e:Nat×Giv} (h:e∈x.steps g):e.2.Ok∧e.2.n=g.n+1:=by
 obtain ⟨_,h3⟩:=Irn.steps_mem x h
 rw[h3]
 exact ⟨ho.next _,Giv.next_n _⟩
namespace II
variable (T : ITl Int) (x:Irn)
def cs : List AVal:=[.int .i64 T.e,T.fm,T.fj]
def outV (o:Option Int):AVal:=match o with
 | some r=>.tup [.int .i64 r,.bool true]
 | none=>.tup [.int .i64 0,.bool false]
def knC (o:Option Int):List AVal:=match o with
 | some r=>[.int .i64 r,.bool true]
 | none=>[.int .i64 0,.bool false]
def ents (M:List Giv):List (AVal×AVal):=entsK Giv.v (fun g=>.agg (knC (T.tell x g))) M
def onV (sm so:Nat):AVal:=.func (.func fn_iron_tell_int_1) [] [.pv [x.pv],.pv (cs T),.pv [.map 207 sm],.ptr 206 0 so]
def rows (sm so:Nat) (M:List Giv):List (Nat×AObj):=[(206,.row [onV T x sm so] so),(207,.map (ents T x M) sm)]
def tellRow (g:Giv) (sm so s5 s10 sd:Nat) (L:Jm→AObj) (t:Option Int×List Giv):List (Nat×AObj):=
 (5,.row g.cs s5) ::(10,.row (knC t.1) s10) ::(100,L .go) ::(101,.dfr false sd)::rows T x sm so t.2
theorem tellRow_b (g:Giv) (sm so s5 s10 sd:Nat) (L:Jm→AObj):RowsB (tellRow T x g sm so s5 s10 sd L) 300:=⟨fun _ _=>rfl,fun t y hy=>by simp[tellRow,rows] at hy;omega,fun t=>by simp[tellRow,rows]⟩
end II
theorem iron_tell_ok (x:Irn) (T:ITl Int) (hT:T.Ok x (AVal.int .i64)) (K:AEnd→Heap→Prop) (hK:∀sm so,K (.ret (II.onV T x sm so)) (hpV (II.rows T x sm so []))) :
 ACalls Pg fn_iron_tell_int [x.pv,.agg (II.cs T)] nilH K:=by
 refine iron_tell_int.e 200 (by simp) ?_
 simp[II.cs,hT.cm,hT.cj]
 intro s1 s2 s3 s4 s5
 refine RetV.frzH 202 (cells:=[x.pv]) (s:=s1+1) (by simp) ?_
 simp[hT.zm,hT.zj]
 refine RetV.frzH 203 (cells:=II.cs T) (s:=s2+1) (by simp[II.cs,hT.zm,hT.zj]) ?_
 simp[hT.zm,hT.zj]
 refine RetV.frzH 205 (cells:=[.map 207 (s3+1)]) (s:=s4+1) (by simp) ?_
 simp[hT.zm,hT.zj]
 refine RetV.view (II.rows T x (s3+1) (s5+1) []) (by simp[II.rows,II.onV,II.ents]) ?_
 exact hK (s3+1) (s5+1)
theorem iron_on_ok {x:Irn} (hx:x.Good) {T:ITl Int} (hT:T.Ok x (AVal.int .i64)) (sm so:Nat):∀(k:Nat) (g:Giv) (M:List Giv),g.n+k=x.strk.length→g.Ok→M.Nodup→
 ∀K:AEnd→Heap→Prop,(∀M',M'.Nodup→K (.ret (II.outV (T.tellF x k g))) (hpV (II.rows T x sm so M')))→
  ACalls Pg fn_iron_tell_int_1 [g.v,.pv [x.pv],.pv (II.cs T),.pv [.map 207 sm],.ptr 206 0 so] (hpV (II.rows T x sm so M)) K:=by
 have hnp:=hx.ns
 intro k
 induction k with
 | zero=>
   intro g M hk ho hM K hK
   refine iron_tell_int_1.e 0 (by simp) ?_
   have hn:g.n=x.strk.length:=by omega
   simp[Irn.pv,Irn.pc,hn,II.cs]
   intro s1
   refine RetV.view (II.rows T x sm so M) (by simp[II.rows]) ?_
   simpa[ITl.tellF,II.outV] using hK M hM
 | succ k ih=>
   intro g M hk ho hM K hK
   have hne:¬g.n=x.strk.length:=by omega
   have hlk:∀(hh:Heap),hh 207=.map (II.ents T x M) sm→∀zero,aLookup hh (true,[.i,.i,.i,.i,.i,.i]) true zero (.map 207 sm) g.v=some (if g∈M then .tup [.agg (II.knC (T.tell x g)),.bool true] else .tup [zero,.bool false]):=fun hh hm zero=>aLookup_K Giv.keyLaw hm zero
   refine iron_tell_int_1.e 0 (by simp) ?_
   have hmv:AVal.agg g.cs=g.v:=rfl
   simp[Irn.pv,Irn.pc,hne]
   intro s1
   rw[hmv,hlk _ (by simp[II.rows])]
   have hte:T.tell x g=T.tellF x (k+1) g:=by unfold ITl.tell;rw[show x.strk.length - g.n=k+1 by omega]
   by_cases hmM:g∈M
   ·simp[hmM]
    intro s2
    rw[hte]
    cases hr:T.tellF x (k+1) g with
    | none=>
      simp[II.knC]
      refine RetV.view (II.rows T x sm so M) (by simp[II.rows]) ?_
      simpa[hr,II.outV] using hK M hM
    | some r=>
      simp[II.knC]
      refine RetV.view (II.rows T x sm so M) (by simp[II.rows]) ?_
      simpa[hr,II.outV] using hK M hM
   simp[hmM]
   intro s2 s10
   refine FCall.pure (PInv.func (by simpa[Irn.pv,Irn.pc,Giv.v] using iron_next_ok x g)) ?_
   simp
   refine RF.intro 100 101 rfl (by simp) (by simp[II.rows]) (by simp[II.rows]) fun sl sd LO LB yl=>?_
   refine ACalls.cps (σ:=Option Int×List Giv) (II.tellRow T x g sm so (s1+1) (s10+1) sd LO (none,M)) (fun _=>.tup []) (fun t=>II.tellRow T x g sm so (s1+1) (s10+1) sd LO t) (fun t=>t.1=T.tellF x (k+1) g∧t.2.Nodup) (fun K' hK'=>?_) (by simp[II.tellRow,II.rows,II.knC]) (fun _=>rfl) fun t ht=>?_
   ·refine iron_next_1_ok hx (by omega) ho (II.tellRow T x g sm so (s1+1) (s10+1) sd LO) (II.tellRow_b _ _ _ _ _ _ _ _ _) 100 sl
     (fun i t=>t.1 =((x.steps g).take i).foldl (T.one (T.tellF x k) g.n) none∧t.2.Nodup) (fun _=>False) (fun i t o nx hI hox K0 hgo _=>?_) (none,M) ⟨rfl,hM⟩ K' (fun t ht=>?_)
    ·obtain ⟨acc,M1⟩:=t
     obtain ⟨hacc,hM1⟩:=hI
     have hi:=(List.getElem?_eq_some_iff.1 hox).1
     have hxe:=(List.getElem?_eq_some_iff.1 hox).2
     have hmem :(o,nx)∈x.steps g:=List.mem_of_getElem? hox
     obtain ⟨hf,hnx⟩:=Irn.steps_mem x hmem
     obtain ⟨hno,hnn⟩:=Giv.start_ok ho hmem
     simp only at hf hnx hno hnn hacc hM1
     refine AInvoke.wk (yl _ _ _ rfl (by simp[II.tellRow]) ?_)
     simp[II.tellRow,II.rows]
     intro s12
     rw[show AVal.agg nx.cs=nx.v from rfl]
     refine FCall.cps (II.rows T x sm so M1) (fun _ : {M':List Giv // M'.Nodup}=>II.outV (T.tellF x k nx)) (fun M'=>II.rows T x sm so M'.1) (fun _=>True) (fun K' hK'=>?_) (by simp[II.rows]) (fun _=>rfl) (by simp) (fun M' _=>⟨by simp,?_⟩)
     ·refine AInvoke.func ?_
      simpa using ih nx M1 (by omega) hno hM1 K' fun M' hM'=>hK' ⟨M',hM'⟩ trivial
     obtain ⟨M',hM'⟩:=M'
     have hstep :((x.steps g).take (i+1)).foldl (T.one (T.tellF x k) g.n) none=T.one (T.tellF x k) g.n acc (o,nx):=by
      rw[←List.take_append_getElem hi,List.foldl_append,hxe,←hacc];rfl
     cases hr:T.tellF x k nx with
     | none=>
       have hone:T.one (T.tellF x k) g.n acc (o,nx)=acc:=by simp[ITl.one,hr]
       simp[II.outV,II.rows]
       skip
       exact Wk.view (II.tellRow T x g sm so (s1+1) (s10+1) sd LO (acc,M')) (by simp[II.tellRow,II.rows]) (hgo _ ⟨by rw[hstep,hone],hM'⟩)
     | some r=>
       have hmo:=hT.hm g.n o r (by omega) hf
       simp[II.outV,II.rows,II.cs]
       skip
       refine FCall.pure hmo ?_
       cases acc with
       | none=>
         have hone:T.one (T.tellF x k) g.n none (o,nx)=some (T.more g.n o r):=by simp[ITl.one,hr]
         simp[II.knC]
         skip
         exact Wk.view (II.tellRow T x g sm so (s1+1) (s10+1) sd LO (some (T.more g.n o r),M')) (by simp[II.tellRow,II.rows,II.knC]) (hgo _ ⟨by rw[hstep,hone],hM'⟩)
       | some a=>
         have hone:T.one (T.tellF x k) g.n (some a) (o,nx)=some (T.join a (T.more g.n o r)):=by simp[ITl.one,hr]
         simp[II.knC]
         skip
         refine FCall.pure (hT.hj a (T.more g.n o r)) ?_
         simp
         exact Wk.view (II.tellRow T x g sm so (s1+1) (s10+1) sd LO (some (T.join a (T.more g.n o r)),M')) (by simp[II.tellRow,II.rows,II.knC]) (hgo _ ⟨by rw[hstep,hone],hM'⟩)
    ·rcases ht with ⟨h1,h2⟩ | h
     ·refine hK' t ⟨?_,h2⟩
      rw[h1,List.take_length];rfl
     ·exact h.elim
   ·obtain ⟨acc,M1⟩:=t
    obtain ⟨rfl,hM1⟩:=ht
    refine ⟨.go,by simp[II.tellRow],?_⟩
    simp[II.tellRow,II.rows,hmv]
    refine ⟨by cases T.tellF x (k+1) g<;>simp[II.knC],?_⟩
    refine osat_iff.2 ⟨_,mapU_K Giv.keyLaw (k:=g) (M:=M1) (f:=fun g=>.agg (II.knC (T.tell x g))) (f':=fun g=>.agg (II.knC (T.tell x g))) (m:=207) (s:=sm) hM1 ?_ (by simp) (by simp) ?_ (fun _ _ _=>rfl),?_⟩
    ·simp[II.ents]
    ·simp[hte]
     cases T.tellF x (k+1) g<;>simp[II.knC]
    cases hr:T.tellF x (k+1) g with
    | none=>
      simp[II.knC]
      refine RetV.view (II.rows T x sm so (insK g M1)) (by simp[II.rows,II.ents,II.knC]) ?_
      simpa[hr,II.outV] using hK _ (nodup_insK hM1)
    | some r=>
      simp[II.knC]
      refine RetV.view (II.rows T x sm so (insK g M1)) (by simp[II.rows,II.ents,II.knC]) ?_
      simpa[hr,II.outV] using hK _ (nodup_insK hM1)
end Go.Cw
end
section
namespace Go.Cw
open Go Go.Proofs
namespace IW
variable (T : ITl (Int×Int)) (x:Irn)
def cs : List AVal:=[.int .i64 T.e.1,.int .i64 T.e.2,T.fm,T.fj]
def outV (o:Option (Int×Int)):AVal:=match o with
 | some r=>.tup [Ir.wv r,.bool true]
 | none=>.tup [Ir.wv (0,0),.bool false]
def knC (o:Option (Int×Int)):List AVal:=match o with
 | some r=>[.int .i64 r.1,.int .i64 r.2,.bool true]
 | none=>[.int .i64 0,.int .i64 0,.bool false]
def ents (M:List Giv):List (AVal×AVal):=entsK Giv.v (fun g=>.agg (knC (T.tell x g))) M
def onV (sm so:Nat):AVal:=.func (.func fn_iron_tell_iron_wrong_1) [] [.pv [x.pv],.pv (cs T),.pv [.map 207 sm],.ptr 206 0 so]
def rows (sm so:Nat) (M:List Giv):List (Nat×AObj):=[(206,.row [onV T x sm so] so),(207,.map (ents T x M) sm)]
def tellRow (g:Giv) (sm so s5 s6 s10 sd:Nat) (L:Jm→AObj) (t:Option (Int×Int)×List Giv):List (Nat×AObj):=
 (5,.row g.cs s5) ::(6,.row [.int .i64 0,.int .i64 0] s6) ::(10,.row (knC t.1) s10) ::(100,L .go) ::(101,.dfr false sd)::rows T x sm so t.2
theorem tellRow_b (g:Giv) (sm so s5 s6 s10 sd:Nat) (L:Jm→AObj):RowsB (tellRow T x g sm so s5 s6 s10 sd L) 300:=⟨fun _ _=>rfl,fun t y hy=>by simp[tellRow,rows] at hy;omega,fun t=>by simp[tellRow,rows]⟩
end IW
theorem iron_tellW_ok (x:Irn) (T:ITl (Int×Int)) (hT:T.Ok x Ir.wv) (K:AEnd→Heap→Prop) (hK:∀sm so,K (.ret (IW.onV T x sm so)) (hpV (IW.rows T x sm so []))) :
 ACalls Pg fn_iron_tell_iron_wrong [x.pv,.agg (IW.cs T)] nilH K:=by
 refine iron_tell_iron_wrong.e 200 (by simp) ?_
 simp[IW.cs,hT.cm,hT.cj]
 intro s1 s2 s3 s4 s5
 refine RetV.frzH 202 (cells:=[x.pv]) (s:=s1+1) (by simp) ?_
 simp[hT.zm,hT.zj]
 refine RetV.frzH 203 (cells:=IW.cs T) (s:=s2+1) (by simp[IW.cs,hT.zm,hT.zj]) ?_
 simp[hT.zm,hT.zj]
 refine RetV.frzH 205 (cells:=[.map 207 (s3+1)]) (s:=s4+1) (by simp) ?_
 simp[hT.zm,hT.zj]
 refine RetV.view (IW.rows T x (s3+1) (s5+1) []) (by simp[IW.rows,IW.onV,IW.ents]) ?_
 exact hK (s3+1) (s5+1)
theorem iron_onW_ok {x:Irn} (hx:x.Good) {T:ITl (Int×Int)} (hT:T.Ok x Ir.wv) (sm so:Nat):∀(k:Nat) (g:Giv) (M:List Giv),g.n+k=x.strk.length→g.Ok→M.Nodup→
 ∀K:AEnd→Heap→Prop,(∀M',M'.Nodup→K (.ret (IW.outV (T.tellF x k g))) (hpV (IW.rows T x sm so M')))→
  ACalls Pg fn_iron_tell_iron_wrong_1 [g.v,.pv [x.pv],.pv (IW.cs T),.pv [.map 207 sm],.ptr 206 0 so] (hpV (IW.rows T x sm so M)) K:=by
 have hnp:=hx.ns
 intro k
 induction k with
 | zero=>
   intro g M hk ho hM K hK
   refine iron_tell_iron_wrong_1.e 0 (by simp) ?_
   have hn:g.n=x.strk.length:=by omega
   simp[Irn.pv,Irn.pc,hn,IW.cs]
   intro s1 s6
   refine RetV.view (IW.rows T x sm so M) (by simp[IW.rows]) ?_
   simpa[ITl.tellF,IW.outV,Ir.wv] using hK M hM
 | succ k ih=>
   intro g M hk ho hM K hK
   have hne:¬g.n=x.strk.length:=by omega
   have hlk:∀(hh:Heap),hh 207=.map (IW.ents T x M) sm→∀zero,aLookup hh (true,[.i,.i,.i,.i,.i,.i]) true zero (.map 207 sm) g.v=some (if g∈M then .tup [.agg (IW.knC (T.tell x g)),.bool true] else .tup [zero,.bool false]):=fun hh hm zero=>aLookup_K Giv.keyLaw hm zero
   refine iron_tell_iron_wrong_1.e 0 (by simp) ?_
   have hmv:AVal.agg g.cs=g.v:=rfl
   simp[Irn.pv,Irn.pc,hne]
   intro s1 s6
   rw[hmv,hlk _ (by simp[IW.rows])]
   have hte:T.tell x g=T.tellF x (k+1) g:=by unfold ITl.tell;rw[show x.strk.length - g.n=k+1 by omega]
   by_cases hmM:g∈M
   ·simp[hmM]
    intro s2
    rw[hte]
    cases hr:T.tellF x (k+1) g with
    | none=>
      simp[IW.knC]
      refine RetV.view (IW.rows T x sm so M) (by simp[IW.rows]) ?_
      simpa[hr,IW.outV,Ir.wv] using hK M hM
    | some r=>
      simp[IW.knC]
      refine RetV.view (IW.rows T x sm so M) (by simp[IW.rows]) ?_
      simpa[hr,IW.outV,Ir.wv] using hK M hM
   simp[hmM]
   intro s2 s10
   refine FCall.pure (PInv.func (by simpa[Irn.pv,Irn.pc,Giv.v] using iron_next_ok x g)) ?_
   simp
   refine RF.intro 100 101 rfl (by simp) (by simp[IW.rows]) (by simp[IW.rows]) fun sl sd LO LB yl=>?_
   refine ACalls.cps (σ:=Option (Int×Int)×List Giv) (IW.tellRow T x g sm so (s1+1) (s6+1) (s10+1) sd LO (none,M)) (fun _=>.tup []) (fun t=>IW.tellRow T x g sm so (s1+1) (s6+1) (s10+1) sd LO t) (fun t=>t.1=T.tellF x (k+1) g∧t.2.Nodup) (fun K' hK'=>?_) (by simp[IW.tellRow,IW.rows,IW.knC]) (fun _=>rfl) fun t ht=>?_
   ·refine iron_next_1_ok hx (by omega) ho (IW.tellRow T x g sm so (s1+1) (s6+1) (s10+1) sd LO) (IW.tellRow_b _ _ _ _ _ _ _ _ _ _) 100 sl
     (fun i t=>t.1 =((x.steps g).take i).foldl (T.one (T.tellF x k) g.n) none∧t.2.Nodup) (fun _=>False) (fun i t o nx hI hox K0 hgo _=>?_) (none,M) ⟨rfl,hM⟩ K' (fun t ht=>?_)
    ·obtain ⟨acc,M1⟩:=t
     obtain ⟨hacc,hM1⟩:=hI
     have hi:=(List.getElem?_eq_some_iff.1 hox).1
     have hxe:=(List.getElem?_eq_some_iff.1 hox).2
     have hmem :(o,nx)∈x.steps g:=List.mem_of_getElem? hox
     obtain ⟨hf,hnx⟩:=Irn.steps_mem x hmem
     obtain ⟨hno,hnn⟩:=Giv.start_ok ho hmem
     simp only at hf hnx hno hnn hacc hM1
     refine AInvoke.wk (yl _ _ _ rfl (by simp[IW.tellRow]) ?_)
     simp[IW.tellRow,IW.rows]
     intro s12
     rw[show AVal.agg nx.cs=nx.v from rfl]
     refine FCall.cps (IW.rows T x sm so M1) (fun _ : {M':List Giv // M'.Nodup}=>IW.outV (T.tellF x k nx)) (fun M'=>IW.rows T x sm so M'.1) (fun _=>True) (fun K' hK'=>?_) (by simp[IW.rows]) (fun _=>rfl) (by simp) (fun M' _=>⟨by simp,?_⟩)
     ·refine AInvoke.func ?_
      simpa using ih nx M1 (by omega) hno hM1 K' fun M' hM'=>hK' ⟨M',hM'⟩ trivial
     obtain ⟨M',hM'⟩:=M'
     have hstep :((x.steps g).take (i+1)).foldl (T.one (T.tellF x k) g.n) none=T.one (T.tellF x k) g.n acc (o,nx):=by
      rw[←List.take_append_getElem hi,List.foldl_append,hxe,←hacc];rfl
     cases hr:T.tellF x k nx with
     | none=>
       have hone:T.one (T.tellF x k) g.n acc (o,nx)=acc:=by simp[ITl.one,hr]
       simp[IW.outV,IW.rows,Ir.wv]
       intro s13
       exact Wk.view (IW.tellRow T x g sm so (s1+1) (s6+1) (s10+1) sd LO (acc,M')) (by simp[IW.tellRow,IW.rows]) (hgo _ ⟨by rw[hstep,hone],hM'⟩)
     | some r=>
       have hmo:=hT.hm g.n o r (by omega) hf
       simp[IW.outV,IW.rows,IW.cs,Ir.wv]
       intro s13
       refine FCall.pure hmo ?_
       cases acc with
       | none=>
         have hone:T.one (T.tellF x k) g.n none (o,nx)=some (T.more g.n o r):=by simp[ITl.one,hr]
         simp[IW.knC,Ir.wv]
         intro s15
         exact Wk.view (IW.tellRow T x g sm so (s1+1) (s6+1) (s10+1) sd LO (some (T.more g.n o r),M')) (by simp[IW.tellRow,IW.rows,IW.knC]) (hgo _ ⟨by rw[hstep,hone],hM'⟩)
       | some a=>
         have hone:T.one (T.tellF x k) g.n (some a) (o,nx)=some (T.join a (T.more g.n o r)):=by simp[ITl.one,hr]
         simp[IW.knC,Ir.wv]
         intro s15
         refine FCall.pure (hT.hj a (T.more g.n o r)) ?_
         simp[Ir.wv]
         exact Wk.view (IW.tellRow T x g sm so (s1+1) (s6+1) (s10+1) sd LO (some (T.join a (T.more g.n o r)),M')) (by simp[IW.tellRow,IW.rows,IW.knC]) (hgo _ ⟨by rw[hstep,hone],hM'⟩)
    ·rcases ht with ⟨h1,h2⟩ | h
     ·refine hK' t ⟨?_,h2⟩
      rw[h1,List.take_length];rfl
     ·exact h.elim
   ·obtain ⟨acc,M1⟩:=t
    obtain ⟨rfl,hM1⟩:=ht
    refine ⟨.go,by simp[IW.tellRow],?_⟩
    simp[IW.tellRow,IW.rows,hmv]
    refine ⟨by cases T.tellF x (k+1) g<;>simp[IW.knC],?_⟩
    refine osat_iff.2 ⟨_,mapU_K Giv.keyLaw (k:=g) (M:=M1) (f:=fun g=>.agg (IW.knC (T.tell x g))) (f':=fun g=>.agg (IW.knC (T.tell x g))) (m:=207) (s:=sm) hM1 ?_ (by simp) (by simp) ?_ (fun _ _ _=>rfl),?_⟩
    ·simp[IW.ents]
    ·simp[hte]
     cases T.tellF x (k+1) g<;>simp[IW.knC]
    cases hr:T.tellF x (k+1) g with
    | none=>
      simp[IW.knC]
      refine RetV.view (IW.rows T x sm so (insK g M1)) (by simp[IW.rows,IW.ents,IW.knC]) ?_
      simpa[hr,IW.outV,Ir.wv] using hK _ (nodup_insK hM1)
    | some r=>
      simp[IW.knC]
      refine RetV.view (IW.rows T x sm so (insK g M1)) (by simp[IW.rows,IW.ents,IW.knC]) ?_
      simpa[hr,IW.outV,Ir.wv] using hK _ (nodup_insK hM1)
end Go.Cw
end
section
namespace Go.Cw
open Go Go.Proofs
theorem iron_ask_ok (e:Int):APure Pg fn_iron_ask [.bool true,.int .i64 e] (.tup []):=by
 refine iron_ask.e.p (by simp) ?_
 simp
 exact RetV.refl rfl
theorem iron_ask_no (e:Int):APan Pg fn_iron_ask [.bool false,.int .i64 e] (.iface 243 (.int .i64 e)):=by
 refine APan.of_nil (iron_ask.e 0 (by simp) ?_)
 simp
 exact Wk.view [] trivial (by simp)
theorem iron_answer_ok {p:AVal} {h:Heap} {K:Heap→Prop} (k:K h):AAns Pg fn_iron_answer .nili p h K:=by
 refine iron_answer.ans 0 ?_
 simp
 exact k
theorem iron_answer_no {r s:Nat} {x:Int} {n:Int} {h:Heap} {K:Heap→Prop} (hr:h r=.row [.int .i64 x] s) (k:K (upd h r (.row [.int .i64 n] s))):AAns Pg fn_iron_answer (.iface 243 (.int .i64 n)) (.ptr r 0 s) h K:=by
 refine iron_answer.ans 0 ?_
 simp[hr]
 exact k
theorem iron_always_ok (a:AVal):APure Pg fn_iron_always [a] (.bool true):=by
 refine iron_always.e.p (by simp) ?_
 simp
 exact RetV.refl rfl
namespace Irn
structure Valid (x:Irn):Prop where
 ft:0≤x.ft∧x.ft≤4
 no:x.own.length≤5
 nm:x.most.length=x.own.length
 ns:x.strk.length≤6
 nc:x.clm.length≤8
 ol:∀l∈x.own,(l.length:Int)=x.ft
 ov:∀l∈x.own,∀n∈l,0≤n∧n≤9
 mo:∀n∈x.most,0≤n∧n≤6
 ml:∀l∈x.strk,l.length≤6
 mf:∀l∈x.strk,∀m∈l,(0≤m.f∧m.f≤x.ft - 1)∧0≤m.lo∧m.lo≤m.hi∧m.hi≤9
 cl:∀c∈x.clm,(0≤c.s∧c.s≤x.strk.length - 1)∧0≤c.o∧c.o≤x.own.length - 1
theorem Valid.good {x:Irn} (h:x.Valid):x.Good where
 no:=h.no
 nm:=h.nm
 ns:=h.ns
 nc:=h.nc
 ol:=h.ol
 ml:=fun l hl=>by have:=h.ml l hl;omega
 mf:=fun l hl m hm=>by have:=(h.mf l hl m hm).1;omega
@[simp] theorem acells_v (x:Irn):acells x.v=some x.c:=rfl
@[simp] theorem c_len (x:Irn):x.c.length=5:=rfl
@[simp] theorem c_0 (x:Irn):x.c.head? = some (.int .i64 x.ft):=rfl
@[simp] theorem c_1 (x:Irn):x.c[1]? = some (LLv x.own):=rfl
@[simp] theorem c_2 (x:Irn):x.c[2]? = some (L x.most):=rfl
@[simp] theorem c_3 (x:Irn):x.c[3]? = some (LLM x.strk):=rfl
@[simp] theorem c_4 (x:Irn):x.c[4]? = some (LCl x.clm):=rfl
@[simp] theorem c_take (x:Irn):x.c.take 5=x.c:=rfl
theorem pow_u {n:Nat} (h:n≤8):IntKind.u64.wrap (IntKind.u64.wrap (2^n) - 1) =((2^n - 1:Nat):Int):=by
 have:∀n,n≤8→IntKind.u64.wrap (IntKind.u64.wrap (2^n) - 1) =((2^n - 1:Nat):Int):=by decide
 exact this n h
end Irn
theorem iron_open_ok {x:Irn} (hv:x.Valid) {fv:AVal} (hz:∀r s cells,frz r s cells fv=fv) (hf:PInv Pg fv [x.pv] (.bool true)):APure Pg fn_iron_open [x.v,fv] x.pv:=by
 have hft:=hv.ft
 have hno :(x.own.length:Int)≤5:=by have:=hv.no;omega
 have hns :(x.strk.length:Int)≤6:=by have:=hv.ns;omega
 have hnc :(x.clm.length:Int)≤8:=by have:=hv.nc;omega
 have hnm:=hv.nm
 have ask1:=fun e=>show PInv Pg (.func (.func fn_iron_ask) [] []) [.bool true,.int .i64 e] (.tup []) from PInv.func (iron_ask_ok e)
 refine iron_open.e.p (by simp) ?_
 simp
 intro s1
 refine PCallK.intro (PInv.func (iron_within_ok _ _ _)) ?_
 simp[hft,hno,hns,hnc,hnm]
 refine FCall.pure (ask1 _) ?_
 simp
 have hrow:∀{h:Heap},h 2=.row x.c (s1+1)→h 2=.row x.c (s1+1):=fun h=>h
 refine Lp.intro (σ:=Nat) (inv:=fun k=>k≤x.own.length) (vw:=fun k=>[(1,fv),(2,.ptr 2 0 (s1+1)),(48,LLv x.own),(49,.int .i64 x.own.length),(50,.int .i64 k)]) (hp:=fun _=>[(2,.row x.c (s1+1))]) (ms:=fun k=>x.own.length - k) 0 (by simp) (by simp) (by simp) ?_
 intro k hk J hJ
 by_cases hkl:k<x.own.length
 ·obtain ⟨l,hl⟩ : ∃l,l=x.own[k]:=⟨_,rfl⟩
  have hlm:l∈x.own:=by rw[hl];simp
  have hlo:=hv.ol l hlm
  have hlv:=hv.ov l hlm
  have hmo:=hv.mo (x.most[k]'(by omega)) (by simp)
  simp[hkl,←hl,hlo,hnm]
  refine PCallK.intro (PInv.func (iron_within_ok _ _ _)) ?_
  simp[hmo]
  refine FCall.pure (ask1 _) ?_
  simp
  refine Lp.intro (σ:=Nat) (inv:=fun j=>j≤l.length) (vw:=fun j=>[(1,fv),(2,.ptr 2 0 (s1+1)),(48,LLv x.own),(49,.int .i64 x.own.length),(50,.int .i64 k),(69,L l),(70,.int .i64 l.length),(71,.int .i64 j)]) (hp:=fun _=>[(2,.row x.c (s1+1))]) (ms:=fun j=>l.length - j) 0 (by simp) (by simp[hlo]) (by simp) ?_
  intro j hj J2 hJ2
  by_cases hjl:j<l.length
  ·have hn:=hlv l[j] (by simp)
   simp[hjl]
   refine PCallK.intro (PInv.func (iron_within_ok _ _ _)) ?_
   simp[hn]
   refine FCall.pure (ask1 _) ?_
   simp
   (repeat first|refine And.intro (by omega) ?_|refine And.intro (Fits.of (by omega) (by omega)) ?_)
   exact hJ2.next (j+1) hjl (by omega) (by simp) (by simp)
  simp[hjl]
  refine hJ2.exit ?_
  simp
  (repeat first|refine And.intro (by omega) ?_|refine And.intro (Fits.of (by omega) (by omega)) ?_)
  exact hJ.next (k+1) hkl (by omega) (by simp) (by simp)
 simp[hkl]
 refine hJ.exit ?_
 simp
 refine Lp.intro (σ:=Nat) (inv:=fun k=>k≤x.strk.length) (vw:=fun k=>[(1,fv),(2,.ptr 2 0 (s1+1)),(81,LLM x.strk),(82,.int .i64 x.strk.length),(83,.int .i64 k)]) (hp:=fun _=>[(2,.row x.c (s1+1))]) (ms:=fun k=>x.strk.length - k) 0 (by simp) (by simp) (by simp) ?_
 intro k hk J hJ
 by_cases hkl:k<x.strk.length
 ·obtain ⟨l,hl⟩ : ∃l,l=x.strk[k]:=⟨_,rfl⟩
  have hlm:l∈x.strk:=by rw[hl];simp
  have hll :(l.length:Int)≤6:=by have:=hv.ml l hlm;omega
  have hmf:=hv.mf l hlm
  simp[hkl,←hl,hll]
  refine FCall.pure (ask1 _) ?_
  simp
  refine Lp.intro (σ:=Nat) (inv:=fun j=>j≤l.length) (vw:=fun j=>[(1,fv),(2,.ptr 2 0 (s1+1)),(81,LLM x.strk),(82,.int .i64 x.strk.length),(83,.int .i64 k),(91,LMk l),(92,.int .i64 l.length),(93,.int .i64 j)]) (hp:=fun _=>[(2,.row x.c (s1+1))]) (ms:=fun j=>l.length - j) 0 (by simp) (by simp) (by simp) ?_
  intro j hj J2 hJ2
  by_cases hjl:j<l.length
  ·obtain ⟨h1,h2,h3,h4⟩:=hmf l[j] (by simp)
   simp[hjl]
   refine ⟨by omega,fun s2=>⟨by unfold Fits;omega,?_⟩⟩
   refine PCallK.intro (PInv.func (iron_within_ok _ _ _)) ?_
   simp[h1,h2,h3,h4]
   refine FCall.pure (ask1 _) ?_
   simp
   (repeat first|refine And.intro (by omega) ?_|refine And.intro (Fits.of (by omega) (by omega)) ?_)
   exact hJ2.next (j+1) hjl (by omega) (by simp) (by simp)
  simp[hjl]
  refine hJ2.exit ?_
  simp
  (repeat first|refine And.intro (by omega) ?_|refine And.intro (Fits.of (by omega) (by omega)) ?_)
  exact hJ.next (k+1) hkl (by omega) (by simp) (by simp)
 simp[hkl]
 refine hJ.exit ?_
 have hss:IntKind.u64.wrap (IntKind.u64.wrap (2^x.strk.length) - 1) =(x.ss:Nat):=Irn.pow_u (by have:=hv.ns;omega)
 have hcs:IntKind.u64.wrap (IntKind.u64.wrap (2^x.clm.length) - 1) =(x.cs:Nat):=Irn.pow_u (by have:=hv.nc;omega)
 have h64 :(x.strk.length:Int)<64:=by omega
 have h64' :(x.clm.length:Int)<64:=by omega
 simp[Irn.c,hss,hcs,h64,h64']
 intro s3
 refine Lp.intro' (σ:=Nat) (inv:=fun k=>k≤x.clm.length) (vw:=fun k=>[(1,fv),(2,.ptr 2 0 (s1+1)),(13,x.pv),(137,LCl x.clm),(138,.int .i64 x.clm.length),(139,.int .i64 k)]) (hp:=fun _=>[(2,.row x.c (s1+1))]) (ms:=fun k=>x.clm.length - k) 0 (by simp) (Sl.frzHp 135 (cells:=x.pc) (s:=s3+1) (by simp[Irn.pc]) (Sl.refl (by simp[hz,Irn.pc,Irn.pv,Irn.c]))) ?_
 intro k hk J hJ
 by_cases hkl:k<x.clm.length
 ·obtain ⟨⟨h1,h2⟩,h3⟩:=hv.cl x.clm[k] (by simp)
  simp[hkl]
  refine ⟨by omega,fun s4=>?_⟩
  refine PCallK.intro (PInv.func (iron_irons_isStrake_ok hv.good _)) ?_
  simp[h1,h2]
  refine ⟨by unfold Fits;omega,?_⟩
  refine PCallK.intro (PInv.func (iron_within_ok _ _ _)) ?_
  simp[h3]
  refine FCall.pure (ask1 _) ?_
  simp
  (repeat first|refine And.intro (by omega) ?_|refine And.intro (Fits.of (by omega) (by omega)) ?_)
  exact hJ.next (k+1) hkl (by omega) (by simp) (by simp)
 simp[hkl]
 refine hJ.exit ?_
 simp
 refine Sl.refl ?_
 simp
 refine FCall.pure hf ?_
 simp
 refine FCall.pure (ask1 _) ?_
 simp
 exact RetV.wk (nilH_le _) (by simp)
end Go.Cw
end
section
namespace Go.Cw
open Go Go.Proofs
section
variable {F n₀:Nat} {inr:Bool} {keep:List Nat} {t:Option Nat} {K:KT} {Q:Post} {tm:TM} {df:DF} {hp:Heap} {x:Irn}
theorem FCall.ironTell {T:ITl Int} (hT:T.Ok x (AVal.int .i64)) (h6:hp 206=.dead) (h7:hp 207=.dead) (k:∀sm so,K (putD tm t (II.onV T x sm so)) df (updL hp (II.rows T x sm so []))) :
 FCall ⟨Pg,F,n₀,inr,keep⟩ (.func (.func fn_iron_tell_int) [] []) [x.pv,.agg (II.cs T)] [] [] t K Q tm df hp:=by
 refine FCall.cps [(206,.dead),(207,.dead)] (fun y:Nat×Nat=>II.onV T x y.1 y.2) (fun y=>II.rows T x y.1 y.2 []) (fun _=>True) (fun K' hK'=>AInvoke.func ?_) ⟨h6,h7,trivial⟩ (fun _=>rfl) trivial (fun y _=>⟨trivial,k y.1 y.2⟩)
 rw[dead2]
 exact iron_tell_ok x T hT K' fun sm so=>hK' (sm,so) trivial
theorem FCall.ironOn (hx:x.Good) {T:ITl Int} (hT:T.Ok x (AVal.int .i64)) {g:Giv} (hm:g.n≤x.strk.length) (ho:g.Ok) {sm so:Nat} {M:List Giv} (hM:M.Nodup) (hw:Hw (II.rows T x sm so M) hp)
 (k:∀M',M'.Nodup→K (putD tm t (II.outV (T.tell x g))) df (updL hp (II.rows T x sm so M'))):FCall ⟨Pg,F,n₀,inr,keep⟩ (II.onV T x sm so) [g.v] [] [] t K Q tm df hp:=by
 refine FCall.cps (II.rows T x sm so M) (fun _ : {M':List Giv // M'.Nodup}=>II.outV (T.tell x g)) (fun M'=>II.rows T x sm so M'.1) (fun _=>True) (fun K' hK'=>?_) hw (fun _=>rfl) trivial (fun M' _=>⟨trivial,k M'.1 M'.2⟩)
 refine AInvoke.func ?_
 simpa using iron_on_ok hx hT sm so (x.strk.length - g.n) g M (by omega) ho hM K' fun M' hM'=>hK' ⟨M',hM'⟩ trivial
theorem FCall.ironTellW {T:ITl (Int×Int)} (hT:T.Ok x Ir.wv) (h6:hp 206=.dead) (h7:hp 207=.dead) (k:∀sm so,K (putD tm t (IW.onV T x sm so)) df (updL hp (IW.rows T x sm so []))) :
 FCall ⟨Pg,F,n₀,inr,keep⟩ (.func (.func fn_iron_tell_iron_wrong) [] []) [x.pv,.agg (IW.cs T)] [] [] t K Q tm df hp:=by
 refine FCall.cps [(206,.dead),(207,.dead)] (fun y:Nat×Nat=>IW.onV T x y.1 y.2) (fun y=>IW.rows T x y.1 y.2 []) (fun _=>True) (fun K' hK'=>AInvoke.func ?_) ⟨h6,h7,trivial⟩ (fun _=>rfl) trivial (fun y _=>⟨trivial,k y.1 y.2⟩)
 rw[dead2]
 exact iron_tellW_ok x T hT K' fun sm so=>hK' (sm,so) trivial
theorem FCall.ironOnW (hx:x.Good) {T:ITl (Int×Int)} (hT:T.Ok x Ir.wv) {g:Giv} (hm:g.n≤x.strk.length) (ho:g.Ok) {sm so:Nat} {M:List Giv} (hM:M.Nodup) (hw:Hw (IW.rows T x sm so M) hp)
 (k:∀M',M'.Nodup→K (putD tm t (IW.outV (T.tell x g))) df (updL hp (IW.rows T x sm so M'))):FCall ⟨Pg,F,n₀,inr,keep⟩ (IW.onV T x sm so) [g.v] [] [] t K Q tm df hp:=by
 refine FCall.cps (IW.rows T x sm so M) (fun _ : {M':List Giv // M'.Nodup}=>IW.outV (T.tell x g)) (fun M'=>IW.rows T x sm so M'.1) (fun _=>True) (fun K' hK'=>?_) hw (fun _=>rfl) trivial (fun M' _=>⟨trivial,k M'.1 M'.2⟩)
 refine AInvoke.func ?_
 simpa using iron_onW_ok hx hT sm so (x.strk.length - g.n) g M (by omega) ho hM K' fun M' hM'=>hK' ⟨M',hM'⟩ trivial
end
namespace Irn
variable (x : Irn)
def waysT : ITl Int where
 e:=1
 fm:=.func (.func fn_iron_irons_ways_1) [] []
 fj:=.func (.func fn_iron_irons_ways_2) [] []
 more _ _ r:=r
 join a b:=IntKind.i64.wrap (a+b)
def ways : Int:=(waysT.tell x .zero).getD 0
def ownersT (s:Int):ITl Int where
 e:=0
 fm:=.func (.func fn_iron_irons_owners_1) [] [.pv [.int .i64 s]]
 fj:=.func (.func fn_iron_irons_owners_2) [] []
 more i o r:=if (i:Int)=s then 2^o else r
 join a b:=bitI .or .i64 a b
def owners (s:Int):Int:=((ownersT s).tell x .zero).getD 0
def leastT : ITl (Int×Int) where
 e:=(0,0)
 fm:=.func (.func fn_iron_irons_least_1) [] [.pv [x.pv]]
 fj:=.func (.func fn_iron_irons_least_2) [] []
 more s o r:=Ir.plus r (x.wrong s o)
 join a b:=if Ir.less b a then b else a
def least : Option (Int×Int):=(x.leastT).tell x .zero
variable {x}
theorem waysT_ok : waysT.Ok x (AVal.int .i64) where
 hm s o r _ _:=PInv.func (by
  refine iron_irons_ways_1.e.p (by simp) ?_
  simp[waysT]
  exact RetV.refl (by simp[waysT]))
 hj a b:=PInv.func (by
  refine iron_irons_ways_2.e.p (by simp) ?_
  simp[waysT,abin,arI,isSh]
  exact RetV.refl (by simp))
 zm _ _ _:=by simp[waysT]
 zj _ _ _:=by simp[waysT]
 cm:=rfl
 cj:=rfl
theorem ownersT_ok (hx:x.Good) (s:Int) :(ownersT s).Ok x (AVal.int .i64) where
 hm i o r hi ho:=PInv.func (by
  have h5:=hx.no
  have h2k :(2:Int)^o≤2^5:=two_pow_le (by omega)
  have h2p:=two_pow_pos o
  have ho64 :(o:Int)<64:=by omega
  refine iron_irons_owners_1.e.p (by simp) ?_
  simp[ownersT]
  by_cases his :(i:Int)=s
  ·simp[his,ho64]
   refine ⟨by unfold Fits;omega,?_⟩
   exact RetV.refl (by simp[his])
  ·simp[his]
   exact RetV.refl (by simp[his]))
 hj a b:=PInv.func (by
  refine iron_irons_owners_2.e.p (by simp) ?_
  simp[ownersT,abin,arI,isSh]
  exact RetV.refl (by simp))
 zm _ _ _:=by simp[ownersT]
 zj _ _ _:=by simp[ownersT]
 cm:=rfl
 cj:=rfl
theorem leastT_ok (hx:x.Good) :(x.leastT).Ok x Ir.wv where
 hm i o r hi ho:=PInv.func (by
  have hpl:=iron_plus_ok r (x.wrong i o)
  refine iron_irons_least_1.e.p (by simp) ?_
  simp[leastT,Ir.wv]
  intro s1 s2
  refine PCallK.intro (PInv.func (iron_wrong_ok hx i o)) ?_
  simp[Ir.wv]
  intro s3
  refine FCall.frz1 (v:=Ir.wv (Ir.plus r (x.wrong i o))) 13 (cells:=[.int .i64 (x.wrong i o).1,.int .i64 (x.wrong i o).2]) (s:=s3+1) (by simp) (PInv.func (by simpa[Ir.wv] using hpl)) (by simp) ?_
  simp[Ir.wv]
  exact RetV.wk (nilH_le _) (by simp))
 hj a b:=PInv.func (by
  refine iron_irons_least_2.e.p (by simp) ?_
  simp[leastT,Ir.wv]
  intro s1 s2 s3
  refine PCallK.intro (PInv.func (by simpa[Ir.wv] using iron_less_ok b a)) ?_
  cases hl:Ir.less b a with
  | true=>
    simp
    exact RetV.wk (nilH_le _) (by simp)
  | false=>
    simp
    exact RetV.wk (nilH_le _) (by simp))
 zm _ _ _:=by simp[leastT]
 zj _ _ _:=by simp[leastT]
 cm:=rfl
 cj:=rfl
end Irn
def Irn.leastV (x:Irn):AVal:=match x.least with
 | some w=>.tup [Ir.wv w,.bool true]
 | none=>.tup [Ir.wv (0,0),.bool false]
theorem iron_ways_ok {x:Irn} (hx:x.Good):APure Pg fn_iron_irons_ways [x.pv] (.int .i64 x.ways):=by
 refine iron_irons_ways.e.p (by simp) ?_
 simp
 refine FCall.ironTell (T:=Irn.waysT) Irn.waysT_ok (by simp) (by simp) fun sm so=>?_
 simp[II.rows]
 refine FCall.ironOn (g:=.zero) hx Irn.waysT_ok (Nat.zero_le _) Giv.zero_ok (M:=[]) (by simp) (by simp[II.rows]) fun M' hM'=>?_
 have:x.ways=match Irn.waysT.tell x .zero with|some r=>r|none=>0:=by unfold Irn.ways;cases Irn.waysT.tell x .zero<;>rfl
 rw[this]
 cases Irn.waysT.tell x .zero<;>simp[II.outV]<;>exact RetV.wk (nilH_le _) (by simp)
theorem iron_owners_ok {x:Irn} (hx:x.Good) (s:Int):APure Pg fn_iron_irons_owners [x.pv,.int .i64 s] (.int .i64 (x.owners s)):=by
 refine iron_irons_owners.e.p (by simp) ?_
 simp
 intro s3
 refine Sl.frzHp 3 (cells:=[.int .i64 s]) (s:=s3+1) (by simp) (Sl.refl ?_)
 simp
 refine FCall.ironTell (T:=Irn.ownersT s) (Irn.ownersT_ok hx s) (by simp) (by simp) fun sm so=>?_
 simp[II.rows]
 refine FCall.ironOn (g:=.zero) hx (Irn.ownersT_ok hx s) (Nat.zero_le _) Giv.zero_ok (M:=[]) (by simp) (by simp[II.rows]) fun M' hM'=>?_
 have:x.owners s=match (Irn.ownersT s).tell x .zero with|some r=>r|none=>0:=by unfold Irn.owners;cases (Irn.ownersT s).tell x .zero<;>rfl
 rw[this]
 cases (Irn.ownersT s).tell x .zero<;>simp[II.outV]<;>exact RetV.wk (nilH_le _) (by simp)
theorem iron_least_ok {x:Irn} (hx:x.Good):APure Pg fn_iron_irons_least [x.pv] x.leastV:=by
 refine iron_irons_least.e.p (by simp) ?_
 simp
 intro s1 s2
 refine Sl.frzHp 1 (cells:=[x.pv]) (s:=s1+1) (by simp) (Sl.refl ?_)
 simp
 refine FCall.ironTellW (T:=x.leastT) (Irn.leastT_ok hx) (by simp) (by simp) fun sm so=>?_
 simp[IW.rows]
 refine FCall.ironOnW (g:=.zero) hx (Irn.leastT_ok hx) (Nat.zero_le _) Giv.zero_ok (M:=[]) (by simp) (by simp[IW.rows]) fun M' hM'=>?_
 have:x.leastV=match x.leastT.tell x .zero with|some w=>.tup [Ir.wv w,.bool true] | none=>.tup [Ir.wv (0,0),.bool false]:=rfl
 rw[this]
 cases x.leastT.tell x .zero with
 | none=>
   simp[IW.outV,Ir.wv,IW.rows]
   exact RetV.wk (nilH_le _) (by simp)
 | some w=>
   simp[IW.outV,Ir.wv,IW.rows]
   exact RetV.wk (nilH_le _) (by simp)
theorem iron_told_ok {x:Irn} (hx:x.Good) (h:x.ways>0):APure Pg fn_iron_irons_told [x.pv] x.pv:=by
 refine iron_irons_told.e.p (by simp) ?_
 simp
 refine PCallK.intro (PInv.func (iron_ways_ok hx)) ?_
 simp[h]
 refine FCall.pure (PInv.func (iron_ask_ok _)) ?_
 simp
 exact RetV.refl rfl
theorem iron_told_no {x:Irn} (hx:x.Good) (h:¬x.ways>0):APan Pg fn_iron_irons_told [x.pv] (.iface 243 (.int .i64 10)):=by
 refine APan.of_nil (iron_irons_told.e 0 (by simp) ?_)
 simp
 refine PCallK.intro (PInv.func (iron_ways_ok hx)) ?_
 simp[h]
 refine FCall.pan (PInvPan.func (iron_ask_no 10)) ?_
 simp
 exact Wk.view [] trivial (by simp)
theorem iron_Count_ok {x:Irn} (hv:x.Valid):APure Pg fn_iron_Count [x.v] (.tup [.int .i64 x.ways,.int .i64 0]):=by
 refine iron_Count.e.p (by simp) ?_
 simp
 intro s1 s2
 refine FCall.pure (PInv.func (iron_open_ok hv (fun _ _ _=>by simp) (PInv.func (iron_always_ok _)))) ?_
 simp
 refine PCallK.intro (PInv.func (iron_ways_ok hv.good)) ?_
 simp
 refine RetA.ret rfl (iron_answer_ok ?_)
 simp
 exact RetV.wk (nilH_le _) (by simp)
def Irn.falseV (x:Irn):AVal:=match x.least with
 | some w=>.tup [.int .i64 w.1,.int .i64 w.2,.int .i64 0]
 | none=>.tup [.int .i64 0,.int .i64 0,.int .i64 10]
theorem iron_False_ok {x:Irn} (hv:x.Valid):APure Pg fn_iron_False [x.v] x.falseV:=by
 refine iron_False.e.p (by simp) ?_
 simp
 intro s1 s4
 refine FCall.pure (PInv.func (iron_open_ok hv (fun _ _ _=>by simp) (PInv.func (iron_always_ok _)))) ?_
 simp
 refine PCallK.intro (PInv.func (iron_least_ok hv.good)) ?_
 unfold Irn.falseV Irn.leastV
 cases x.least with
 | none=>
   simp[Ir.wv]
   intro s5
   refine FCall.pan (PInvPan.func (iron_ask_no 10)) ?_
   simp
   refine RetA.panic rfl (iron_answer_no (x:=0) (s:=s4+1) (by simp) ?_)
   simp
   exact RetV.wk (nilH_le _) (by simp)
 | some w=>
   simp[Ir.wv]
   intro s5
   refine FCall.pure (PInv.func (iron_ask_ok 10)) ?_
   simp
   refine RetA.ret rfl (iron_answer_ok ?_)
   simp
   exact RetV.wk (nilH_le _) (by simp)
def Irn.canV (x:Irn) (s:Int):AVal:=if x.ways>0 then .tup [.int .i64 (x.owners s),.int .i64 0] else .tup [.int .i64 0,.int .i64 10]
theorem iron_Can_ok {x:Irn} (hv:x.Valid) {s:Int} (hs:0≤s∧s≤x.strk.length - 1):APure Pg fn_iron_Can [x.v,.int .i64 s] (x.canV s):=by
 refine iron_Can.e.p (by simp) ?_
 simp
 intro s2 s5
 refine FCall.pure' (PInv.func (iron_isStrake_ok s)) (by simp) (by simp) ?_
 simp
 refine FCall.pure (PInv.func (iron_open_ok hv (fun _ _ _=>by simp) (PInv.func (by simpa[hs] using iron_isStrake_1_ok hv.good s)))) ?_
 simp
 unfold Irn.canV
 by_cases hw:x.ways>0
 ·refine FCall.pure (PInv.func (iron_told_ok hv.good hw)) ?_
  simp
  refine PCallK.intro (PInv.func (iron_owners_ok hv.good s)) ?_
  simp
  refine RetA.ret rfl (iron_answer_ok ?_)
  simp
  exact RetV.wk (nilH_le _) (by simp[hw])
 ·refine FCall.pan (PInvPan.func (iron_told_no hv.good hw)) ?_
  simp
  refine RetA.panic rfl (iron_answer_no (x:=0) (s:=s5+1) (by simp) ?_)
  simp
  exact RetV.wk (nilH_le _) (by simp[hw])
end Go.Cw
end
section
namespace Go.Cw
open Go Go.Proofs
section
variable (r s:Nat) (cells:List AVal)
theorem frzL_map (l:List AVal):frzL r s cells l=l.map (frz r s cells):=by induction l<;>simp[*]
theorem frzL_setRange (l vs:List AVal) (k:Nat):frzL r s cells (setRange l k vs)=setRange (frzL r s cells l) k (frzL r s cells vs):=by
 simp[frzL_map,setRange]
@[simp] theorem frzL_LL (l:List (List Int)):frzL r s cells (LL l)=LL l:=by
 rw[frzL_map];unfold LL;rw[List.map_map];rfl
@[simp] theorem frzL_LM (l:List (List Mak)):frzL r s cells (LM l)=LM l:=by
 rw[frzL_map];unfold LM;rw[List.map_map];rfl
end
namespace Irn
variable (x : Irn)
def ownW (o:Nat):List (List Int):=x.own.mapIdx fun i l=>l++[if i=o then 1 else 0]
def ownK (o k:Nat):List (List Int):=x.own.mapIdx fun i l=>if i<k then l++[if i=o then 1 else 0] else l
theorem ownK_zero (o:Nat):x.ownK o 0=x.own:=by
 apply List.ext_getElem? ;intro i;simp[ownK,List.getElem?_mapIdx]
theorem ownK_end (o:Nat):x.ownK o x.own.length=x.ownW o:=by
 apply List.ext_getElem? ;intro i;simp only[ownK,ownW,List.getElem?_mapIdx]
 cases h:x.own[i]? with
 | none=>rfl
 | some l=>have:=(List.getElem?_eq_some_iff.1 h).1;simp[this]
@[simp] theorem ownK_len (o k:Nat) :(x.ownK o k).length=x.own.length:=by simp[ownK]
theorem ownK_at {o k:Nat} (h:k<x.own.length) :(x.ownK o k)[k]? = some (x.own[k]):=by simp[ownK,List.getElem?_mapIdx,h]
theorem ownK_set {o k:Nat} (h:k<x.own.length):setRange (LL (x.ownK o k)) k [L (x.own[k]++[if k=o then 1 else 0])]=LL (x.ownK o (k+1)):=by
 rw[setRange_one _ _ _ (by simpa using h)]
 unfold LL
 rw[←List.map_set]
 congr 1
 apply List.ext_getElem?
 intro i
 rw[List.getElem?_set]
 by_cases hik:k=i
 ·subst hik;simp[ownK,List.getElem?_mapIdx,h]
 ·rw[if_neg hik]
  simp only[ownK,List.getElem?_mapIdx]
  cases x.own[i]? with
  | none=>rfl
  | some l=>simp;by_cases h1:i<k
            ·simp[h1,show i<k+1 by omega]
            ·simp[h1,show ¬i<k+1 by omega]
def wth (s o:Nat):Irn where
 ft:=x.ft+1
 own:=x.ownW o
 most:=x.most
 strk:=x.strk.set s (x.strk.getD s []++[⟨x.ft,1,1⟩])
 clm:=x.clm
end Irn
theorem iron_with_ok {x:Irn} (hv:x.Valid) {s o:Nat} (hs:s<x.strk.length) (ho:o<x.own.length):APure Pg fn_iron_irons_with [x.pv,.int .i64 s,.int .i64 o] (.tup [(x.wth s o).pv,.bool (x.fits o s)]):=by
 have hft:=hv.ft
 have hno :(x.own.length:Int)≤5:=by have:=hv.no;omega
 have hns :(x.strk.length:Int)≤6:=by have:=hv.ns;omega
 refine iron_irons_with.e.p (by simp) ?_
 simp[Irn.pv,Irn.pc]
 intro s8 s21
 refine ⟨⟨by omega,by omega⟩,?_⟩
 have hco:setRange (List.replicate x.own.length AVal.nils) 0 (List.take x.own.length (LL x.own))=LL x.own:=by
  rw[List.take_of_length_le (by simp)]
  simp[setRange]
 simp[LLv,hco]
 obtain ⟨res,hres⟩ : ∃res,res=AVal.tup [(x.wth s o).pv,.bool (x.fits o s)]:=⟨_,rfl⟩
 refine ⟨by unfold Fits;omega,?_⟩
 refine Lp.intro (σ:=Nat) (inv:=fun k=>k≤x.own.length) (vw:=fun k=>[(0,x.pv),(1,.int .i64 s),(2,.int .i64 o),(8,.ptr 8 0 (s8+1)),(41,.sl 21 0 (s21+1) x.own.length (.ex x.own.length)),(42,.int .i64 x.own.length),(43,.int .i64 k)])
  (hp:=fun k=>[(8,.row [.int .i64 (x.ft+1),.sl 21 0 (s21+1) x.own.length (.ex x.own.length),L x.most,LLM x.strk,LCl x.clm,.int .u64 (x.ss:Nat),.int .u64 (x.cs:Nat),.bool false] (s8+1)),(21,.row (LL (x.ownK o k)) (s21+1))])
  (ms:=fun k=>x.own.length - k) 0 (Nat.zero_le _) (by simp[Irn.pv,Irn.pc,LLv]) (by simp[Irn.ownK_zero,List.take_of_length_le]) ?_
 intro k hk J hJ
 by_cases hkl:k<x.own.length
 ·obtain ⟨l,hl⟩ : ∃l,l=x.own[k]:=⟨_,rfl⟩
  have hlo:=hv.ol l (by rw[hl];simp)
  have hka:=Irn.ownK_at (x:=x) (o:=o) hkl
  rw[←hl] at hka
  have hkd :(x.ownK o k)[k]'(by simpa using hkl)=l:=by
   rw[List.getElem?_eq_getElem (by simpa using hkl)] at hka;simpa using hka
  have hset:=Irn.ownK_set (x:=x) (o:=o) hkl
  rw[←hl] at hset
  simp[Irn.pv,Irn.pc,LLv,hkl,hka,hkd]
  refine Br.intro (fun hko=>?_) (fun hko=>?_)
  ·have hko:k=o:=by simpa using hko
   rw[if_pos hko] at hset
   simp[hkl]
   intro s55 s59 s57
   refine xAp_cp (by simp) (by simp) (by omega) ?_
   simp
   intro s60
   refine xApN_cp (cs:=ints l) (s':=s57+1) (by simp) (by simp) (by simp) (by omega) (by omega) ?_
   simp[hkl]
   refine ⟨hkl,by unfold Fits;omega,?_⟩
   refine hJ.next' (k+1) hkl (by omega) (Sl.frzHp 60 (cells:=ints (l++[1])) (s:=s60+1) (by simp) (Sl.refl ?_))
   simp[frzL_setRange,Irn.pv,Irn.pc,LLv]
   rw[←hset]
   simp[L]
  ·have hko:¬k=o:=by simpa using hko
   rw[if_neg hko] at hset
   simp[hkl]
   intro s55 s59 s57
   refine xAp_cp (by simp) (by simp) (by omega) ?_
   simp
   intro s60
   refine xApN_cp (cs:=ints l) (s':=s57+1) (by simp) (by simp) (by simp) (by omega) (by omega) ?_
   simp[hkl]
   refine ⟨hkl,by unfold Fits;omega,?_⟩
   refine hJ.next' (k+1) hkl (by omega) (Sl.frzHp 60 (cells:=ints (l++[0])) (s:=s60+1) (by simp) (Sl.refl ?_))
   simp[frzL_setRange,Irn.pv,Irn.pc,LLv]
   rw[←hset]
   simp[L]
 ·obtain rfl:k=x.own.length:=by omega
  obtain ⟨l,hl⟩ : ∃l,l=x.strk[s]:=⟨_,rfl⟩
  have hll:=hv.ml l (by rw[hl];simp)
  have hco2:setRange (List.replicate x.strk.length AVal.nils) 0 (List.take x.strk.length (LM x.strk))=LM x.strk:=by
   rw[List.take_of_length_le (by simp)]
   simp[setRange]
  simp[Irn.pv,Irn.pc,LLv]
  refine hJ.exit ?_
  simp[LLM]
  intro s69
  refine ⟨⟨by omega,by omega⟩,?_⟩
  simp[hco2,hs,←hl,List.take_of_length_le]
  intro s85 s101 s94
  simp[LMk]
  refine xAp_cp (by simp) (by simp) (by omega) ?_
  simp
  intro s102
  refine xApN_cp (cs:=maks l) (s':=s94+1) (by simp) (by simp[List.take_of_length_le]) (by simp) (by omega) (by omega) ?_
  simp[hs]
  refine ⟨hs,?_⟩
  refine PCallK.intro (PInv.func (by simpa[Irn.pv,Irn.pc,LLv,LLM] using iron_fits_ok hv.good ho hs)) ?_
  simp
  have hme:maks l++[.int .i64 x.ft,.int .i64 1,.int .i64 1]=maks (l++[⟨x.ft,1,1⟩]):=fl_one l ⟨x.ft,1,1⟩
  rw[hme]
  have htk :(maks l).take (l.length*3)=maks l:=List.take_of_length_le (by simp)
  have hsetS:setRange (LM x.strk) s [.vl (l.length+1) (maks (l++[⟨x.ft,1,1⟩]))]=LM (x.strk.set s (l++[⟨x.ft,1,1⟩])):=by
   rw[setRange_one _ _ _ (by simpa using hs)]
   have e :(AVal.vl (l.length+1) (maks (l++[⟨x.ft,1,1⟩])))=LMk (l++[⟨x.ft,1,1⟩]):=by simp[LMk]
   rw[e];unfold LM
   rw[←List.map_set]
  refine RetV.frzH 102 (cells:=maks (l++[⟨x.ft,1,1⟩])) (s:=s102+1) (by simp) ?_
  simp[frzL_setRange]
  refine RetV.frzH 69 (cells:=LM (x.strk.set s (l++[⟨x.ft,1,1⟩]))) (s:=s69+1) (by simp[frzL_setRange,hsetS]) ?_
  simp[frzL_setRange]
  refine RetV.frzH 21 (cells:=LL (x.ownK o x.own.length)) (s:=s21+1) (by simp) ?_
  simp
  refine RetV.frz 8 (cells:=(x.wth s o).pc) (s:=s8+1) ?_ ?_
  ·have hss :(x.wth s o).ss=x.ss:=by simp[Irn.ss,Irn.wth]
   have hcs :(x.wth s o).cs=x.cs:=by simp[Irn.cs,Irn.wth]
   have hg:x.strk.getD s []=l:=by rw[hl,Irn.strk_get hs]
   simp[Irn.pc,hss,hcs,LLv,LLM]
   simp only[List.getD_eq_getElem?_getD] at hg
   simp[Irn.wth,hg,Irn.ownK_end,Irn.ownW]
  ·exact RetV.wk (nilH_le _) (by simp[Irn.pc,LLv,LLM])
theorem Irn.Valid.wth {x:Irn} (hv:x.Valid) (s o:Nat) :(x.wth s o).Good:=by
 have hft:=hv.ft
 refine ⟨by simp[Irn.wth,Irn.ownW];exact hv.no,by simp[Irn.wth,Irn.ownW];exact hv.nm,by simp[Irn.wth];exact hv.ns,hv.nc,?_,?_,?_⟩
 ·intro l hl
  simp only[Irn.wth,Irn.ownW,List.mem_mapIdx] at hl ⊢
  obtain ⟨i,hi,rfl⟩:=hl
  have:=hv.ol x.own[i] (by simp)
  simp;omega
 ·intro l hl
  simp only[Irn.wth] at hl
  rcases List.mem_or_eq_of_mem_set hl with h|rfl
  ·have:=hv.ml l h;omega
  ·rw[List.length_append,List.getD_eq_getElem?_getD]
   cases h:x.strk[s]? with
   | none=>simp
   | some l=>have:=hv.ml l (List.mem_of_getElem? h);simp;omega
 ·intro l hl m hm
  simp only[Irn.wth] at hl ⊢
  rcases List.mem_or_eq_of_mem_set hl with h|rfl
  ·have:=(hv.mf l h m hm).1;omega
  ·rcases List.mem_append.1 hm with hm|hm
   ·rw[List.getD_eq_getElem?_getD] at hm
    cases h:x.strk[s]? with
    | none=>rw[h] at hm;cases hm
    | some l=>rw[h] at hm;have:=(hv.mf l (List.mem_of_getElem? h) m hm).1;omega
   ·obtain rfl:=List.mem_singleton.1 hm
    simp;omega
namespace Irn
variable (x : Irn)
def same (s o:Nat):Bool:=x.fits o s && (match (x.wth s o).least,x.least with
 | some v,some w=>v.1 == w.1
 | some v,none=>v.1 == 0
 | none,_=>false)
def likely (s:Nat):Int:=bits (x.same s) x.own.length
def likV (s:Nat):AVal:=if x.ways>0 then .tup [.int .i64 (x.likely s),.int .i64 0] else .tup [.int .i64 0,.int .i64 10]
def lw : Int×Int:=x.least.getD (0,0)
theorem leastV_eq : x.leastV=.tup [Ir.wv x.lw,.bool x.least.isSome]:=by unfold leastV lw;cases x.least<;>rfl
theorem same_eq (s o:Nat):x.same s o =(x.fits o s && ((x.wth s o).least.isSome && ((x.wth s o).lw.1 == x.lw.1))):=by
 unfold same lw
 cases (x.wth s o).least<;>cases x.least<;>simp
end Irn
theorem iron_Likely_ok {x:Irn} (hv:x.Valid) {s:Nat} (hs:s<x.strk.length):APure Pg fn_iron_Likely [x.v,.int .i64 s] (x.likV s):=by
 have hno:=hv.no
 refine iron_Likely.e.p (by simp) ?_
 simp
 intro s2 s5
 refine FCall.pure' (PInv.func (iron_isStrake_ok s)) (by simp) (by simp) ?_
 simp
 refine FCall.pure (PInv.func (iron_open_ok hv (fun _ _ _=>by simp) (PInv.func (by simpa[show (s:Int)≤x.strk.length - 1 by omega] using iron_isStrake_1_ok hv.good s)))) ?_
 simp
 unfold Irn.likV
 by_cases hw:x.ways>0
 ·refine FCall.pure (PInv.func (iron_told_ok hv.good hw)) ?_
  simp
  refine PCallK.intro (PInv.func (iron_least_ok hv.good)) ?_
  rw[Irn.leastV_eq]
  simp[Ir.wv]
  intro s7
  refine Lp.intro (σ:=Nat) (inv:=fun k=>k≤x.own.length) (vw:=fun k=>[(1,.int .i64 s),(5,.ptr 5 0 (s5+1)),(6,x.pv),(7,.ptr 7 0 (s7+1)),(9,.int .i64 (bits (x.same s) k)),(27,.int .i64 x.own.length),(28,.int .i64 k)])
   (hp:=fun _=>[(5,.row [.int .i64 0] (s5+1)),(7,.row [.int .i64 x.lw.1,.int .i64 x.lw.2] (s7+1))]) (ms:=fun k=>x.own.length - k) 0 (Nat.zero_le _) (by simp[bits]) (by simp) ?_
  intro k hk J hJ
  by_cases hkl:k<x.own.length
  ·have hb1:bits (x.same s) (k+1)=if x.same s k=true then bits (x.same s) k+2^k else bits (x.same s) k:=by rw[bits];split<;>simp
   have hse:=x.same_eq s k
   have hbo:=bits_or (x.same s) k (by omega)
   have hk64 :(k:Int)<64:=by omega
   have h2k :(2:Int)^k≤2^5:=two_pow_le (by omega)
   have h2p:=two_pow_pos k
   simp[hkl]
   refine PCallK.intro (PInv.func (iron_with_ok hv hs hkl)) ?_
   cases hf:x.fits k s with
   | false=>
     rw[hf] at hse
     simp
     refine ⟨by unfold Fits;omega,?_⟩
     exact hJ.next (k+1) hkl (by omega) (by simp[hb1,hse]) (by simp)
   | true=>
     rw[hf] at hse
     simp
     refine PCallK.intro (PInv.func (iron_least_ok (hv.wth s k))) ?_
     rw[Irn.leastV_eq]
     cases hl :(x.wth s k).least.isSome with
     | false=>
       rw[hl] at hse
       simp[Ir.wv]
       intro s13
       refine ⟨by unfold Fits;omega,?_⟩
       exact hJ.next (k+1) hkl (by omega) (by simp[hb1,hse]) (by simp)
     | true=>
       rw[hl] at hse
       by_cases he :(x.wth s k).lw.1=x.lw.1
       ·replace hse:x.same s k=true:=by rw[hse];simp[he]
        simp[Ir.wv,he,hk64,hbo]
        intro s13
        refine ⟨by unfold Fits;omega,by unfold Fits;omega,?_⟩
        exact hJ.next (k+1) hkl (by omega) (by simp[hb1,hse]) (by simp)
       ·replace hse:x.same s k=false:=by rw[hse];simp[he]
        simp[Ir.wv,he]
        intro s13
        refine ⟨by unfold Fits;omega,?_⟩
        exact hJ.next (k+1) hkl (by omega) (by simp[hb1,hse]) (by simp)
  ·obtain rfl:k=x.own.length:=by omega
   simp
   refine hJ.exit ?_
   simp
   refine RetA.ret rfl (iron_answer_ok ?_)
   simp
   exact RetV.wk (nilH_le _) (by simp[hw,Irn.likely])
 ·refine FCall.pan (PInvPan.func (iron_told_no hv.good hw)) ?_
  simp
  refine RetA.panic rfl (iron_answer_no (x:=0) (s:=s5+1) (by simp) ?_)
  simp
  exact RetV.wk (nilH_le _) (by simp[hw])
end Go.Cw
end
section
namespace Go.Cw
open Go Go.Proofs
open Classical in
noncomputable def isB (p:Prop):Bool:=decide p
theorem isB_true {p:Prop} (h:p):isB p=true:=by simp[isB,h]
theorem isB_false {p:Prop} (h:¬p):isB p=false:=by simp[isB,h]
theorem ref06_in_ok (n lo hi:Int):APure Pg fn_ref06_in [.int .i64 n,.int .i64 lo,.int .i64 hi] (.bool (decide (lo≤n∧n≤hi))):=by
 refine ref06_in.e.p (by simp) ?_
 by_cases h:lo≤n<;>simp[h]<;>refine RetV.refl ?_<;>simp_all
theorem ref06_power_ok (n:Nat) (hn:n≤60):APure Pg fn_ref06_power [.int .i64 n] (.int .i64 (2^n)):=by
 refine ref06_power.e.p (by simp) ?_
 simp
 refine Lp.intro (σ:=Nat) (inv:=fun k=>k≤n) (vw:=fun k=>[(0,.int .i64 n),(3,.int .i64 (2^k)),(4,.int .i64 k)]) (hp:=fun _=>[]) (ms:=fun k=>n - k) 0 (by simp) (by simp) (by simp) ?_
 intro k hk J hJ
 by_cases hkc:k<n
 ·simp[hkc]
  have :(2:Int)^(k+1)≤2^60:=two_pow_le (by omega)
  have h0:=two_pow_pos (k+1)
  have h2 :(2:Int)^(k+1)=2*2^k:=by rw[Int.pow_succ,Int.mul_comm]
  rw[h2] at this h0
  refine ⟨by unfold Fits;omega,Fits.of (by omega) (by omega),hJ.next (k+1) (by omega) (by omega) (by simp[h2]) (by simp)⟩
 ·obtain rfl:k=n:=by omega
  simp
  refine hJ.exit ?_
  simp
  exact RetV.refl rfl
theorem ref06_Pitch_ok {p:Pit} (hf:p.fires.length≤40) (hp:p.pots.length≤40):APure Pg fn_ref06_Pitch [p.v] (.bool (isB p.Valid)):=by
 refine ref06_Pitch.e.p (by simp) ?_
 simp
 intro s1
 refine PCallK.intro (PInv.func (ref06_in_ok _ _ _)) ?_
 by_cases h1:0≤p.hr∧p.hr≤12
 rotate_left
 ·simp[h1]
  exact RetV.refl (by rw[isB_false fun hv=>h1 hv.hr])
 by_cases h2:3<p.fires.length
 ·simp[h1,h2,show (3:Int)<p.fires.length by omega]
  exact RetV.refl (by rw[isB_false fun hv=>by have:=hv.nf;omega])
 by_cases h3:4<p.pots.length
 ·simp[h1,h2,h3,show ¬(3:Int)<p.fires.length by omega,show (4:Int)<p.pots.length by omega]
  exact RetV.refl (by rw[isB_false fun hv=>by have:=hv.np;omega])
 have hH:p.hr =(p.H:Nat):=by unfold Pit.H;omega
 have hp2:=two_pow_pos p.H
 have hp3 :(2:Int)^p.H≤2^12:=two_pow_le (by unfold Pit.H;omega)
 simp[h1,show ¬(3:Int)<p.fires.length by omega,show ¬(4:Int)<p.pots.length by omega]
 refine PCallK.intro (PInv.func (by simpa[hH] using ref06_power_ok p.H (by unfold Pit.H;omega))) ?_
 simp
 refine ⟨by unfold Fits;omega,?_⟩
 refine PCallK.intro (PInv.func (ref06_in_ok _ _ _)) ?_
 by_cases h4:p.isSet p.fr
 rotate_left
 ·have h4':¬(0≤p.fr∧p.fr≤2^p.H - 1):=h4
  simp[h4']
  exact RetV.refl (by rw[isB_false fun hv=>h4 hv.fr])
 have h4':0≤p.fr∧p.fr≤2^p.H - 1:=h4
 simp[h4']
 refine PCallK.intro (PInv.func (ref06_in_ok _ _ _)) ?_
 by_cases h5:p.isSet p.pe
 rotate_left
 ·have h5':¬(0≤p.pe∧p.pe≤2^p.H - 1):=h5
  simp[h5']
  exact RetV.refl (by rw[isB_false fun hv=>h5 hv.pe])
 have h5':0≤p.pe∧p.pe≤2^p.H - 1:=h5
 simp[h5']
 refine Lp.intro (σ:=Nat) (inv:=fun k=>k≤p.fires.length∧∀j (h:j<p.fires.length),j<k→p.isSet p.fires[j]) (vw:=fun k=>[(1,.ptr 1 0 (s1+1)),(3,.int .i64 (2^p.H - 1)),(4,.int .i64 k)]) (hp:=fun _=>[(1,.row p.c (s1+1))]) (ms:=fun k=>p.fires.length - k) 0
  ⟨Nat.zero_le _,fun j _ h=>by omega⟩ (by simp) (by simp) ?_
 rintro k ⟨hk,hall⟩ J hJ
 by_cases hkl:k<p.fires.length
 ·simp[hkl]
  refine PCallK.intro (PInv.func (ref06_in_ok _ _ _)) ?_
  by_cases h6:p.isSet p.fires[k]
  ·have h6':0≤p.fires[k]∧p.fires[k]≤2^p.H - 1:=h6
   simp[h6']
   refine ⟨by unfold Fits;omega,?_⟩
   refine hJ.next (k+1) ⟨hkl,fun j hj hjk=>?_⟩ (by omega) (by simp) (by simp)
   by_cases hjk':j<k
   ·exact hall j hj hjk'
   ·obtain rfl:j=k:=by omega
    exact h6
  ·have h6':¬(0≤p.fires[k]∧p.fires[k]≤2^p.H - 1):=h6
   simp[h6']
   refine hJ.ret ?_
   simp
   exact RetV.wk (nilH_le _) (by rw[isB_false fun hv=>h6 (hv.fi _ (by simp))])
 have hfi:∀y∈p.fires,p.isSet y:=fun y hy=>by
  obtain ⟨j,hj,rfl⟩:=List.getElem_of_mem hy
  exact hall j hj (by omega)
 simp[hkl]
 refine hJ.exit ?_
 simp
 refine Lp.intro (σ:=Nat) (inv:=fun k=>k≤p.pots.length∧∀j (h:j<p.pots.length),j<k→(1≤p.pots[j].h∧p.pots[j].h≤12)∧(0≤p.pots[j].f∧p.pots[j].f≤p.hr)∧0≤p.pots[j].b∧p.pots[j].b≤p.hr)
  (vw:=fun k=>[(1,.ptr 1 0 (s1+1)),(5,.int .i64 k)]) (hp:=fun _=>[(1,.row p.c (s1+1))]) (ms:=fun k=>p.pots.length - k) 0
  ⟨Nat.zero_le _,fun j _ h=>by omega⟩ (by simp) (by simp) ?_
 rintro k ⟨hk,hall⟩ J2 hJ2
 by_cases hkl:k<p.pots.length
 ·obtain ⟨t,ht⟩ : ∃t,t=p.pots[k]:=⟨_,rfl⟩
  have htm:t∈p.pots:=by rw[ht];simp
  simp[hkl,←ht]
  refine ⟨by omega,fun s6=>?_⟩
  refine PCallK.intro (PInv.func (ref06_in_ok _ _ _)) ?_
  by_cases h7:1≤t.h∧t.h≤12
  rotate_left
  ·simp[h7]
   refine hJ2.ret ?_
   simp
   exact RetV.wk (nilH_le _) (by rw[isB_false fun hv=>h7 (hv.po t htm).1])
  simp[h7]
  refine PCallK.intro (PInv.func (ref06_in_ok _ _ _)) ?_
  by_cases h8:0≤t.f∧t.f≤p.hr
  rotate_left
  ·simp[h8]
   refine hJ2.ret ?_
   simp
   exact RetV.wk (nilH_le _) (by rw[isB_false fun hv=>h8 (hv.po t htm).2.1])
  simp[h8]
  refine PCallK.intro (PInv.func (ref06_in_ok _ _ _)) ?_
  by_cases h9:0≤t.b∧t.b≤p.hr
  rotate_left
  ·simp[h9]
   refine hJ2.ret ?_
   simp
   exact RetV.wk (nilH_le _) (by rw[isB_false fun hv=>h9 (hv.po t htm).2.2])
  simp[h9]
  refine ⟨by unfold Fits;omega,?_⟩
  refine hJ2.next (k+1) ⟨hkl,fun j hj hjk=>?_⟩ (by omega) (by simp) (by simp)
  by_cases hjk':j<k
  ·exact hall j hj hjk'
  ·obtain rfl:j=k:=by omega
   rw[←ht];exact ⟨h7,h8,h9⟩
 simp[hkl]
 refine hJ2.exit ?_
 simp
 refine RetV.wk (nilH_le _) ?_
 rw[isB_true ⟨h1,by omega,by omega,h4,h5,hfi,fun y hy=>by
  obtain ⟨j,hj,rfl⟩:=List.getElem_of_mem hy
  exact hall j hj (by omega)⟩]
theorem ref06_Same_ok (l:List (Nat×Nat)) (hl:l.length≤40):APure Pg fn_ref06_Same [.vl l.length (Pit.plC l),.vl l.length (Pit.plC l)] (.bool true):=by
 have hpl:=Pit.plC_len l
 have hdr:∀k,(Pit.plC l).drop (k*2)=Pit.plC (l.drop k):=fun k=>fl_drop (w:=2) (fun _=>rfl) l k
 have htk:∀l,(Pit.plC l).take 2 =(l.head?.map fun x=>[AVal.int .i64 x.1,.int .i64 x.2]).getD []:=fun l=>by cases l<;>rfl
 refine ref06_Same.e.p (by simp) ?_
 simp
 refine Lp.intro (σ:=Nat) (inv:=fun k=>k≤l.length) (vw:=fun k=>[(0,.vl l.length (Pit.plC l)),(1,.vl l.length (Pit.plC l)),(5,.int .i64 k)]) (hp:=fun _=>[]) (ms:=fun k=>l.length - k) 0 (Nat.zero_le _) (by simp) (by simp) ?_
 intro k hk J hJ
 by_cases hkl:k<l.length
 ·simp[hkl,hdr,htk]
  refine ⟨by rw[Pit.plC_len];simp;omega,by unfold Fits;omega,?_⟩
  exact hJ.next (k+1) hkl (by omega) (by simp) (by simp)
 ·simp[hkl]
  refine hJ.exit ?_
  simp
  exact RetV.refl rfl
theorem ref08_Ints_ok (l:List Int) (hl:l.length≤40):APure Pg fn_ref08_Ints [L l,L l] (.bool true):=by
 refine ref08_Ints.e.p (by simp) ?_
 simp
 refine Lp.intro (σ:=Nat) (inv:=fun k=>k≤l.length) (vw:=fun k=>[(0,L l),(1,L l),(5,.int .i64 k)]) (hp:=fun _=>[]) (ms:=fun k=>l.length - k) 0 (Nat.zero_le _) (by simp) (by simp) ?_
 intro k hk J hJ
 by_cases hkl:k<l.length
 ·simp[hkl]
  refine ⟨by unfold Fits;omega,?_⟩
  exact hJ.next (k+1) hkl (by omega) (by simp) (by simp)
 ·simp[hkl]
  refine hJ.exit ?_
  simp
  exact RetV.refl rfl
end Go.Cw
end
section
namespace Go.Cw
open Go Go.Proofs
theorem ref10_in_ok (n lo hi:Int):APure Pg fn_ref10_in [.int .i64 n,.int .i64 lo,.int .i64 hi] (.bool (decide (lo≤n∧n≤hi))):=by
 refine ref10_in.e.p (by simp) ?_
 by_cases h:lo≤n<;>simp[h]<;>refine RetV.refl ?_<;>simp_all
structure Irn.Small (x:Irn):Prop where
 no:x.own.length≤40
 nm:x.most.length≤40
 ns:x.strk.length≤40
 nc:x.clm.length≤40
 lo:∀l∈x.own,l.length≤40
 ls:∀l∈x.strk,l.length≤40
theorem ref10_Strake_ok {x:Irn} (hs:x.Small) (n:Int):APure Pg fn_ref10_Strake [x.v,.int .i64 n] (.bool (decide (0≤n∧n≤x.strk.length - 1))):=by
 have:=hs.ns
 refine ref10_Strake.e.p (by simp) ?_
 simp
 intro s
 refine ⟨by unfold Fits;omega,?_⟩
 refine PCallK.intro (PInv.func (ref10_in_ok _ _ _)) ?_
 simp
 exact RetV.wk (nilH_le _) (by simp)
theorem ref10_Owner_ok {x:Irn} (hs:x.Small) (n:Int):APure Pg fn_ref10_Owner [x.v,.int .i64 n] (.bool (decide (0≤n∧n≤x.own.length - 1))):=by
 have:=hs.no
 refine ref10_Owner.e.p (by simp) ?_
 simp
 intro s
 refine ⟨by unfold Fits;omega,?_⟩
 refine PCallK.intro (PInv.func (ref10_in_ok _ _ _)) ?_
 simp
 exact RetV.wk (nilH_le _) (by simp)
theorem ref10_Irons_ok {x:Irn} (hs:x.Small):APure Pg fn_ref10_Irons [x.v] (.bool (isB x.Valid)):=by
 have bad:∀{h:Heap},¬x.Valid→RetV (fun e _=>e=.ret (.bool (isB x.Valid))) h (.bool false):=fun hn=>RetV.wk (nilH_le _) (by rw[isB_false hn])
 refine ref10_Irons.e.p (by simp) ?_
 simp
 intro s1
 refine PCallK.intro (PInv.func (ref10_in_ok _ _ _)) ?_
 by_cases h1:0≤x.ft∧x.ft≤4
 rotate_left
 ·simp[h1];exact bad fun hv=>h1 hv.ft
 by_cases h2 :(5:Int)<x.own.length
 ·simp[h1,h2];exact bad fun hv=>by have:=hv.no;omega
 by_cases h3:x.most.length=x.own.length
 rotate_left
 ·simp[h1,h2,show ¬(x.most.length:Int)=x.own.length by omega];exact bad fun hv=>h3 hv.nm
 by_cases h4 :(6:Int)<x.strk.length
 ·simp[h1,h2,h3,h4];exact bad fun hv=>by have:=hv.ns;omega
 by_cases h5 :(8:Int)<x.clm.length
 ·simp[h1,h2,h3,h4,h5];exact bad fun hv=>by have:=hv.nc;omega
 simp[h1,h2,h3,h4,h5]
 refine Lp.intro (σ:=Nat) (inv:=fun k=>k≤x.own.length∧∀j (h:j<x.own.length) (h':j<x.most.length),j<k→(x.own[j].length:Int)=x.ft∧(0≤x.most[j]∧x.most[j]≤6)∧∀n∈x.own[j],0≤n∧n≤9)
  (vw:=fun k=>[(1,.ptr 1 0 (s1+1)),(3,.int .i64 k)]) (hp:=fun _=>[(1,.row x.c (s1+1))]) (ms:=fun k=>x.own.length - k) 0
  ⟨Nat.zero_le _,fun j _ _ h=>by omega⟩ (by simp) (by simp) ?_
 rintro k ⟨hk,hall⟩ J hJ
 by_cases hkl:k<x.own.length
 ·obtain ⟨l,hl⟩ : ∃l,l=x.own[k]:=⟨_,rfl⟩
  have hlm:l∈x.own:=by rw[hl];simp
  obtain ⟨mo,hmo⟩ : ∃mo,mo=x.most[k]'(by omega):=⟨_,rfl⟩
  have hmm:mo∈x.most:=by rw[hmo];simp
  have hl40:=hs.lo l hlm
  have hkm:k<x.most.length:=by omega
  simp[hkl,←hl,h3,←hmo]
  by_cases h6 :(l.length:Int)=x.ft
  rotate_left
  ·simp[h6]
   refine hJ.ret ?_
   simp
   exact bad fun hv=>h6 (hv.ol l hlm)
  simp[h6,hkm,←hmo]
  refine PCallK.intro (PInv.func (ref10_in_ok _ _ _)) ?_
  by_cases h7:0≤mo∧mo≤6
  rotate_left
  ·simp[h7]
   refine hJ.ret ?_
   simp
   exact bad fun hv=>h7 (hv.mo mo hmm)
  simp[h7]
  refine Lp.intro (σ:=Nat) (inv:=fun i=>i≤l.length∧∀j (h:j<l.length),j<i→0≤l[j]∧l[j]≤9)
   (vw:=fun i=>[(1,.ptr 1 0 (s1+1)),(3,.int .i64 k),(4,.int .i64 i)]) (hp:=fun _=>[(1,.row x.c (s1+1))]) (ms:=fun i=>l.length - i) 0
   ⟨Nat.zero_le _,fun j _ h=>by omega⟩ (by simp) (by simp) ?_
  rintro i ⟨hi,hali⟩ J2 hJ2
  by_cases hil:i<l.length
  ·have hilz :(i:Int)<x.ft:=by omega
   simp[hilz,hkl,←hl,hil]
   refine PCallK.intro (PInv.func (ref10_in_ok _ _ _)) ?_
   by_cases h8:0≤l[i]∧l[i]≤9
   ·simp[h8]
    refine ⟨by unfold Fits;omega,?_⟩
    refine hJ2.next (i+1) ⟨hil,fun j hj hjk=>?_⟩ (by omega) (by simp) (by simp)
    by_cases hjk':j<i
    ·exact hali j hj hjk'
    ·obtain rfl:j=i:=by omega
     exact h8
   ·simp[h8]
    refine hJ2.ret (hJ.ret ?_)
    simp
    exact bad fun hv=>h8 (hv.ov l hlm _ (by simp))
  have hilz:¬(i:Int)<x.ft:=by omega
  simp[hilz]
  refine hJ2.exit ?_
  simp
  refine ⟨by unfold Fits;omega,?_⟩
  refine hJ.next (k+1) ⟨hkl,fun j hj hj' hjk=>?_⟩ (by omega) (by simp) (by simp)
  by_cases hjk':j<k
  ·exact hall j hj hj' hjk'
  ·obtain rfl:j=k:=by omega
   rw[←hl,←hmo]
   refine ⟨h6,h7,fun n hn=>?_⟩
   obtain ⟨j,hj,rfl⟩:=List.getElem_of_mem hn
   exact hali j hj (by omega)
 simp[hkl]
 refine hJ.exit ?_
 simp
 have hown:∀l∈x.own,(l.length:Int)=x.ft∧∀n∈l,0≤n∧n≤9:=fun l hl=>by
  obtain ⟨j,hj,rfl⟩:=List.getElem_of_mem hl
  obtain ⟨a,_,b⟩:=hall j hj (by omega) (by omega)
  exact ⟨a,b⟩
 have hmost:∀n∈x.most,0≤n∧n≤6:=fun n hn=>by
  obtain ⟨j,hj,rfl⟩:=List.getElem_of_mem hn
  exact (hall j (by omega) hj (by omega)).2.1
 refine Lp.intro (σ:=Nat) (inv:=fun k=>k≤x.strk.length∧∀j (h:j<x.strk.length),j<k→x.strk[j].length≤6∧∀m∈x.strk[j],(0≤m.f∧m.f≤x.ft - 1)∧0≤m.lo∧m.lo≤m.hi∧m.hi≤9)
  (vw:=fun k=>[(1,.ptr 1 0 (s1+1)),(5,.int .i64 k)]) (hp:=fun _=>[(1,.row x.c (s1+1))]) (ms:=fun k=>x.strk.length - k) 0
  ⟨Nat.zero_le _,fun j _ h=>by omega⟩ (by simp) (by simp) ?_
 rintro k ⟨hk,hall2⟩ J hJ
 by_cases hkl:k<x.strk.length
 ·obtain ⟨l,hl⟩ : ∃l,l=x.strk[k]:=⟨_,rfl⟩
  have hlm:l∈x.strk:=by rw[hl];simp
  have hl40:=hs.ls l hlm
  simp[hkl,←hl]
  by_cases h9 :(6:Int)<l.length
  ·simp[h9]
   refine hJ.ret ?_
   simp
   exact bad fun hv=>by have:=hv.ml l hlm;omega
  simp[h9]
  refine Lp.intro (σ:=Nat) (inv:=fun i=>i≤l.length∧∀j (h:j<l.length),j<i→(0≤l[j].f∧l[j].f≤x.ft - 1)∧0≤l[j].lo∧l[j].lo≤l[j].hi∧l[j].hi≤9)
   (vw:=fun i=>[(1,.ptr 1 0 (s1+1)),(5,.int .i64 k),(6,.int .i64 i)]) (hp:=fun _=>[(1,.row x.c (s1+1))]) (ms:=fun i=>l.length - i) 0
   ⟨Nat.zero_le _,fun j _ h=>by omega⟩ (by simp) (by simp) ?_
  rintro i ⟨hi,hali⟩ J2 hJ2
  by_cases hil:i<l.length
  ·obtain ⟨m,hm⟩ : ∃m,m=l[i]:=⟨_,rfl⟩
   have hmm:m∈l:=by rw[hm];simp
   simp[hkl,←hl,hil,←hm]
   refine ⟨by omega,fun s7=>⟨by unfold Fits;omega,?_⟩⟩
   refine PCallK.intro (PInv.func (ref10_in_ok _ _ _)) ?_
   by_cases h10:0≤m.f∧m.f≤x.ft - 1
   rotate_left
   ·simp only[h10,decide_false]
    simp
    refine hJ2.ret (hJ.ret ?_)
    simp
    exact bad fun hv=>h10 (hv.mf l hlm m hmm).1
   by_cases h11:m.lo<0
   ·simp[h10,h11]
    refine hJ2.ret (hJ.ret ?_)
    simp
    exact bad fun hv=>by have:=(hv.mf l hlm m hmm).2;omega
   by_cases h12:m.hi<m.lo
   ·simp[h10,h11,h12]
    refine hJ2.ret (hJ.ret ?_)
    simp
    exact bad fun hv=>by have:=(hv.mf l hlm m hmm).2;omega
   by_cases h13:9<m.hi
   ·simp[h10,h11,h12,h13]
    refine hJ2.ret (hJ.ret ?_)
    simp
    exact bad fun hv=>by have:=(hv.mf l hlm m hmm).2;omega
   simp[h10,h11,h12,h13]
   refine ⟨by unfold Fits;omega,?_⟩
   refine hJ2.next (i+1) ⟨hil,fun j hj hjk=>?_⟩ (by omega) (by simp) (by simp)
   by_cases hjk':j<i
   ·exact hali j hj hjk'
   ·obtain rfl:j=i:=by omega
    rw[←hm];exact ⟨h10,by omega,by omega,by omega⟩
  simp[hkl,←hl,hil]
  refine hJ2.exit ?_
  simp
  refine ⟨by unfold Fits;omega,?_⟩
  refine hJ.next (k+1) ⟨hkl,fun j hj hjk=>?_⟩ (by omega) (by simp) (by simp)
  by_cases hjk':j<k
  ·exact hall2 j hj hjk'
  ·obtain rfl:j=k:=by omega
   rw[←hl]
   refine ⟨by omega,fun n hn=>?_⟩
   obtain ⟨j,hj,rfl⟩:=List.getElem_of_mem hn
   exact hali j hj (by omega)
 simp[hkl]
 refine hJ.exit ?_
 simp
 have hstr:∀l∈x.strk,l.length≤6∧∀m∈l,(0≤m.f∧m.f≤x.ft - 1)∧0≤m.lo∧m.lo≤m.hi∧m.hi≤9:=fun l hl=>by
  obtain ⟨j,hj,rfl⟩:=List.getElem_of_mem hl
  exact hall2 j hj (by omega)
 refine Lp.intro (σ:=Nat) (inv:=fun k=>k≤x.clm.length∧∀j (h:j<x.clm.length),j<k→(0≤x.clm[j].s∧x.clm[j].s≤x.strk.length - 1)∧0≤x.clm[j].o∧x.clm[j].o≤x.own.length - 1)
  (vw:=fun k=>[(1,.ptr 1 0 (s1+1)),(8,.int .i64 k)]) (hp:=fun _=>[(1,.row x.c (s1+1))]) (ms:=fun k=>x.clm.length - k) 0
  ⟨Nat.zero_le _,fun j _ h=>by omega⟩ (by simp) (by simp) ?_
 rintro k ⟨hk,hall3⟩ J3 hJ3
 by_cases hkl:k<x.clm.length
 ·obtain ⟨c,hc⟩ : ∃c,c=x.clm[k]:=⟨_,rfl⟩
  have hcm:c∈x.clm:=by rw[hc];simp
  simp[hkl,←hc]
  refine PCallK.intro (show PInv Pg (.func (.func fn_ref10_Strake) [] []) [.agg x.c,.int .i64 c.s] (.bool (decide (0≤c.s∧c.s≤(x.strk.length:Int) - 1))) from PInv.func (ref10_Strake_ok hs c.s)) ?_
  by_cases h14:0≤c.s∧c.s≤x.strk.length - 1
  rotate_left
  ·rw[show decide (0≤c.s∧c.s≤(x.strk.length:Int) - 1)=false from decide_eq_false h14]
   simp
   refine hJ3.ret ?_
   simp
   exact bad fun hv=>h14 (hv.cl c hcm).1
  simp[h14,hkl,←hc]
  refine PCallK.intro (show PInv Pg (.func (.func fn_ref10_Owner) [] []) [.agg x.c,.int .i64 c.o] (.bool (decide (0≤c.o∧c.o≤(x.own.length:Int) - 1))) from PInv.func (ref10_Owner_ok hs c.o)) ?_
  by_cases h15:0≤c.o∧c.o≤x.own.length - 1
  rotate_left
  ·rw[show decide (0≤c.o∧c.o≤(x.own.length:Int) - 1)=false from decide_eq_false h15]
   simp
   refine hJ3.ret ?_
   simp
   exact bad fun hv=>h15 (hv.cl c hcm).2
  simp[h15]
  refine ⟨by unfold Fits;omega,?_⟩
  refine hJ3.next (k+1) ⟨hkl,fun j hj hjk=>?_⟩ (by omega) (by simp) (by simp)
  by_cases hjk':j<k
  ·exact hall3 j hj hjk'
  ·obtain rfl:j=k:=by omega
   rw[←hc];exact ⟨h14,h15⟩
 simp[hkl]
 refine hJ3.exit ?_
 simp
 refine RetV.wk (nilH_le _) ?_
 rw[isB_true ⟨h1,by omega,h3,by omega,by omega,fun l hl=>(hown l hl).1,fun l hl=>(hown l hl).2,hmost,fun l hl=>(hstr l hl).1,fun l hl=>(hstr l hl).2,fun c hc=>by
  obtain ⟨j,hj,rfl⟩:=List.getElem_of_mem hc
  exact hall3 j hj (by omega)⟩]
end Go.Cw
end
