/-
  Rows that are out of sight; plain reckoning; copies of lists; maps; texts, and what a builder builds: no program is named here.
-/
import Derived.Test.YtemceffbimfblaaGreatDoorAd
import Derived.Shelf.Sort.Plain
import Derived.Test.YtemceffbimfblaaGreatDoorAe
import Derived.Shelf.Strings.Builder1
import Derived.Shelf.Strings.Cut
import Derived.Shelf.Strconv.Itoa3
set_option linter.unusedSectionVars false
set_option linter.unusedSimpArgs false
set_option linter.unusedVariables false
set_option maxRecDepth 100000
section
namespace Go.Cw
open Go Go.Shelf Go.Sort
def sortI (l:List Int):List Int:=l.mergeSort fun x y=>decide (x≤y)
theorem sortI_length (l:List Int) :(sortI l).length=l.length:=by simp[sortI]
section
variable {Z : Snap} {μ:Mu} {h:Heap} {g:Nat} {w:World} {P:Program}
theorem VPre_ints {c:List Value} : ∀{l:List Int} {k:Nat},VPre Z μ g (ints l) (c.drop k)↔∀j,(hj:j<l.length)→c[k+j]? = some (.int .i64 l[j])
 | l,k=>by
   rw[VPre_iff]
   constructor
   ·intro hh j hj
    obtain ⟨v,hv,hr⟩:=hh j (.int .i64 l[j]) (by simp[ints,hj])
    simp only[VRel] at hr
    subst hr
    simpa using hv
   ·intro hh j a ha
    simp only[ints,List.getElem?_map,Option.map_eq_some_iff] at ha
    obtain ⟨x,hx,rfl⟩:=ha
    obtain ⟨hj,rfl⟩:=List.getElem?_eq_some_iff.1 hx
    exact ⟨_,by simpa using hh j hj,by simp[VRel]⟩
theorem ACalls.sort {ρ:Ren} (Ly:Go.Proofs.Lays.n189 P ρ) (he:Enters P (ρ.f 189)) {r s:Nat} {cap:Cap} {l:List Int} (hl:l.length<4611686018427387904) {K:AEnd→Heap→Prop} (k:K (.ret (.tup [])) (hpV [(r,.row (ints (sortI l)) s)])) :
 ACalls P (ρ.f 189) [.sl r 0 s l.length cap] (hpV [(r,.row (ints l) s)]) K:=by
 refine ⟨he,fun Z μ g w cargs S hsz hv=>?_⟩
 obtain ⟨v,rfl⟩ : ∃v,cargs = #[v]:=by
  match cargs,hsz with
  | ⟨[v]⟩,_=>exact ⟨v,rfl⟩
 have hv0:=(VPre_cons.1 hv).1
 simp only[VRel] at hv0
 obtain ⟨hs,cap',rfl,_,_⟩:=hv0
 have hrow:=S.rows r
 have hst :(hpV [(r,.row (ints l) s)]) r=.row (ints l) s:=by simp
 rw[hst] at hrow
 simp only[ORel] at hrow
 obtain ⟨_,c,elem,hw,hcs,hpre,hone⟩:=hrow
 have hlt:=(Array.getElem?_eq_some_iff.1 hw).1
 have hcell:∀j,(hj:j<l.length)→c[j]? = some (.int .i64 l[j]):=by
  intro j hj
  have:=(VPre_ints (k:=0) (c:=c.toList)).1 (by simpa using hpre) j hj
  simpa using this
 have hlen:l.length≤c.size:=by
  have:=hpre.len
  simpa using this
 have hH:Holds (Value.int .i64) w (μ s).blk 0 l.toArray:=by
  intro j hj
  have hj':j<l.length:=by simpa using hj
  refine ⟨?_,?_⟩
  ·simp only[World.cell?,hw,Nat.zero_add]
   have e:l.toArray[j]! = l[j]:=by simp[hj']
   rw[e]
   simpa using hcell j hj'
  ·simp[World.frozen?,hw]
 refine Calls.mono' (Go.Proofs.Any.slices_Sort_int Ly (μ s).blk 0 cap' l w hH hlt hl) ?_
 rintro e w' ⟨rfl,n,os,rfl⟩
 have hps :(putRow (Value.int .i64) (Sort.ahead w n) (μ s).blk 0 (sortI l).toArray).heap.size=w.heap.size:=by simp
 have hmod:∀b,b<w.heap.size→(grow (putRow (Value.int .i64) (Sort.ahead w n) (μ s).blk 0 (sortI l).toArray) os).heap[b]? =(w.heap.modify (μ s).blk (onCells (putCells (Value.int .i64) 0 (sortI l).toArray)))[b]?:=by
  intro b hb
  rw[heap_grow_old _ _ (by rw[hps];exact hb)]
  rfl
 obtain ⟨S',t'⟩:=S.put (μ':=μ) (g':=g) (o:=.row (ints (sortI l)) s) (b₀:=(μ s).blk) (w':=grow (putRow (Value.int .i64) (Sort.ahead w n) (μ s).blk 0 (sortI l).toArray) os) r (Ext.refl _ _ _) rfl rfl
  (by rw[size_grow,hps];omega)
  (fun b hb hne=>by
    rw[hmod b hb,Array.getElem?_modify,if_neg (fun x=>hne x.symm)])
  (.inr ⟨s,by rw[hst];rfl,rfl⟩) (by
    simp only[ORel]
    refine ⟨hs,putCells (Value.int .i64) 0 (sortI l).toArray c,elem,?_,?_,?_,?_⟩
    ·rw[hmod _ hlt,Array.getElem?_modify,if_pos rfl,hw];rfl
    ·simp[putCells,hcs]
    ·have:=(VPre_ints (Z:=Z) (μ:=μ) (g:=g) (k:=0) (l:=sortI l) (c:=(putCells (Value.int .i64) 0 (sortI l).toArray c).toList)).2 (by
      intro j hj
      have hj':j<l.length:=by rwa [sortI_length] at hj
      have hjc:j<c.size:=by omega
      have hj2:j<(sortI l).toArray.size:=by simpa using hj
      simp[putCells,hjc,hj])
     simpa using this
    ·intro v hv
     rw[List.mem_iff_getElem?] at hv
     obtain ⟨j,hj⟩:=hv
     rw[List.getElem?_take] at hj
     split at hj
     ·rename_i hjl
      have hj1:j<(sortI l).length:=by simpa using hjl
      have hj':j<l.length:=by rwa [sortI_length] at hj1
      have hjc:j<c.size:=by omega
      simp[putCells,hjc,hj1] at hj
      subst hj
      rfl
     ·cases hj)
 refine ⟨Z,μ,g,.ret (.tup []),_,k,⟨.tuple #[],by simp only[VRel];exact ⟨#[],rfl,rfl,VPre_nil _⟩,rfl⟩,?_,?_⟩
 ·have:upd (hpV [(r,.row (ints l) s)]) r (.row (ints (sortI l)) s)=hpV [(r,.row (ints (sortI l)) s)]:=by
   simp[hpV,upd_upd]
  rw[←this];exact S'
 ·have:upd (hpV [(r,.row (ints l) s)]) r (.row (ints (sortI l)) s)=hpV [(r,.row (ints (sortI l)) s)]:=by
   simp[hpV,upd_upd]
  rw[←this];exact t'
end
structure MethAt (P:Program) (T:TypeId) (nm:String) (F:FuncId):Prop where
 h:∀(recv:Value) (w:World),(Go.method (P.types.size+Made.depth) T recv nm).run P w=.ok (F,recv) w
theorem AInvoke.meth {P:Program} {T:TypeId} {nm:String} {F:FuncId} (m:MethAt P T nm F) {v:AVal} {args:List AVal} {h:Heap} {K:AEnd→Heap→Prop} (a:ACalls P F (v::args) h K):AInvoke P (.func (.method nm) [.iface T v] []) args h K:=by
 intro Z μ g w u cargs S hv hl ha
 simp only[VRel] at hv
 obtain ⟨_,f',c',rfl,h1,h2,h3,h4⟩:=hv
 obtain ⟨x,rfl⟩ : ∃x,f' = #[x]:=by
  match f',h1 with
  | ⟨[x]⟩,_=>exact ⟨x,rfl⟩
 have hx:=(VPre_cons.1 h3).1
 simp only[VRel] at hx
 obtain ⟨y,rfl,hy⟩:=hx
 have e0 :(#[Value.iface T y]++cargs)[0]? = some (.iface T y):=by
  rw[Array.getElem?_append_left (by simp)];rfl
 have e1 :(#[Value.iface T y]++cargs).extract 1 (#[Value.iface T y]++cargs).size=cargs:=by
  simp
 have hrun :(do let d ←Deferred.ofValue (.func (.method nm) #[.iface T y] c') cargs;invoke d.target d.args:Sem Next).run P w=.ok (.enter F (#[y]++cargs)) w:=by
  simp only[Deferred.ofValue,Sem.run_bind,Sem.run_pure,Result.andThen_ok,invoke,e0,e1,callMethod,run_program,m.h]
  exact Calls.enters a.1 _ w
 rw[hrun]
 refine ⟨rfl,a.2 Z μ g w _ S ?_ ?_⟩
 ·simp[hl];omega
 ·rw[Array.toList_append]
  exact VPre_cons.2 ⟨hy,ha⟩
end Go.Cw
end
section
namespace Go.Cw
open Go
structure RowsB {τ:Type} (row:τ→List (Nat×AObj)) (B:Nat):Prop where
 names:∀t t',(row t).map Prod.fst =(row t').map Prod.fst
 lt:∀t,∀x∈(row t).map Prod.fst,x<B
 nd:∀t,((row t).map Prod.fst).Nodup
theorem hw_append {h:Heap} : ∀{a b:List (Nat×AObj)},Hw (a++b) h↔Hw a h∧Hw b h
 | [],b=>by simp
 | (r,o)::a,b=>by
   simp only[List.cons_append,Hw_cons,hw_append,and_assoc]
theorem hw_upd {h:Heap} {x:Nat} {o:AObj} : ∀{l:List (Nat×AObj)},x∉l.map Prod.fst→(Hw l (upd h x o)↔Hw l h)
 | [],_=>by simp
 | (r,o')::l,hn=>by
   simp only[List.map_cons,List.mem_cons,not_or] at hn
   simp only[Hw_cons]
   rw[upd_ne _ _ (fun e=>hn.1 e.symm),hw_upd hn.2]
theorem hw_updL {h:Heap} : ∀{l:List (Nat×AObj)},(l.map Prod.fst).Nodup→Hw l (updL h l)
 | [],_=>trivial
 | (r,o)::l,hn=>by
   simp only[List.map_cons,List.nodup_cons] at hn
   refine ⟨by simp[upd_same],?_⟩
   rw[updL_cons,hw_upd hn.1]
   exact hw_updL hn.2
theorem hw_hpV : ∀{l:List (Nat×AObj)},(l.map Prod.fst).Nodup→Hw l (hpV l)
 | [],_=>trivial
 | (r,o)::l,hn=>by
   simp only[List.map_cons,List.nodup_cons] at hn
   refine ⟨by simp[upd_same],?_⟩
   rw[hpV_cons,hw_upd hn.1]
   exact hw_hpV hn.2
namespace RowsB
variable {τ : Type} {row:τ→List (Nat×AObj)} {B:Nat} (hb:RowsB row B)
include hb
theorem out {x:Nat} (hx:B≤x) (t:τ):x∉(row t).map Prod.fst:=fun hm=>by have:=hb.lt t x hm;omega
theorem hpV {x:Nat} (hx:B≤x) (t:τ):hpV (row t) x=.dead:=hpV_none (hb.out hx t)
theorem updL {x:Nat} (hx:B≤x) (t:τ) (h:Heap):updL h (row t) x=h x:=updL_none (hb.out hx t)
theorem upd {x:Nat} (hx:B≤x) (t:τ) (h:Heap) (o:AObj):Hw (row t) (upd h x o)=Hw (row t) h:=propext (hw_upd (hb.out hx t))
theorem self (t:τ):Hw (row t) (Cw.hpV (row t))=True:=eq_true (hw_hpV (hb.nd t))
theorem updL_self (t:τ) (h:Heap):Hw (row t) (Cw.updL h (row t))=True:=eq_true (hw_updL (hb.nd t))
theorem hn (t t':τ) :(row t').map Prod.fst =(row t).map Prod.fst:=hb.names _ _
end RowsB
theorem RF.intro {E:Env} {ps:List Nat} {A B:Post→KT} {Q:Post} {tm:TM} {df:DF} {h:Heap} {f:FuncId} {first cap:List AVal} (rl rd:Nat) (hi:E.inr=false) (hne:rl≠rd) (hl:h rl=.dead) (hd:h rd=.dead)
 (k:∀(sl sd:Nat) (L:Jm→AObj) (Lb:AObj),
   (∀args h' K,args.length=ps.length→h' rl=L .go→A (RdA B rl (L .go) Lb (RdB rl L Lb K)) (putL tm ps args) [] h'→AInvoke E.P (.yield rl sl) args h' K)→
   ACalls E.P f (first++[.yield rl sl]++cap) (upd (upd h rd (.dfr false sd)) rl (L .go)) (RFK E.keep Q tm ((.yield rd sd,[])::df) rl L)):RF E (.func (.func f) first cap) ps A B Q tm df h:=
 ⟨hi,f,first,cap,rfl,rl,rd,hne,hl,hd,k⟩
theorem ACalls.rowLe {P:Program} {f:FuncId} {args:List AVal} {h:Heap} {K:AEnd→Heap→Prop} (r:Nat) {s:Nat} {cells:List AVal} (cells':List AVal) (hr:h r=.row cells s) (hc:ALeL cells cells') (a:ACalls P f args (upd h r (.row cells' s)) K):ACalls P f args h K:=
 ⟨a.1,fun Z μ g w cargs S hl hv=>Calls.mono' (a.2 Z μ g w cargs (S.rowLe hr hc) hl hv) fun _ _ o=>o.pre (Tr.rowLe hr)⟩
theorem AInvoke.wk {P:Program} {fv:AVal} {args:List AVal} {h:Heap} {K:AEnd→Heap→Prop} (a:AInvoke P fv args h fun e=>Wk (K e)):AInvoke P fv args h K:=
 fun Z μ g w v cargs S hv hl ha=>(a Z μ g w v cargs S hv hl ha).mono fun _ _ o=>o.wk
theorem Wk.view {X:Heap→Prop} {h:Heap} (l:List (Nat×AObj)) (hw:Hw l h) (k:X (hpV l)):Wk X h:=⟨_,HLe.view hw,k⟩
theorem FCall.frz2 {E:Env} {fv v:AVal} {args:List AVal} {fa fl:List It} {d:Option Nat} {K:KT} {Q:Post} {tm:TM} {df:DF} {h:Heap} {cells cells':List AVal} {s s':Nat} (r r':Nat) (hr:h r=.row cells s) (hr':h r'=.row cells' s') (hne:r≠r')
 (p:PInv E.P (frz r' s' cells' (frz r s cells fv)) (frzL r' s' cells' (frzL r s cells args)) v) (f:FaOk E.F fa tm h)
 (k:FlOk fl (putD tm d v) (upd (upd h r' .dead) r .dead)∧K (putD tm d v) df (upd (upd h r' .dead) r .dead)):FCall E fv args fa fl d K Q tm df h:=by
 refine FCall.view [(r,.row cells s),(r',.row cells' s')] (X:=fun v' hs'=>v'=v∧hs'=[(r,.dead),(r',.dead)]) ?_ ⟨hr,hr',trivial⟩ f ?_
 ·refine AInvoke.frz (cells:=cells) (s:=s) r (upd_same _ _ _) ?_
  refine AInvoke.frz (cells:=cells') (s:=s') r' (by rw[upd_ne _ _ (Ne.symm hne),hpV_cons,upd_ne _ _ (Ne.symm hne),hpV_cons,upd_same]) ?_
  refine AInvoke.mono (p _) ?_
  rintro e h' ⟨rfl,rfl⟩
  refine ⟨v,[(r,.dead),(r',.dead)],rfl,?_,rfl,rfl,rfl⟩
  funext x
  simp only[hpV,upd]
  repeat' split
  all_goals rfl
 ·rintro v' hs' ⟨rfl,rfl⟩
  exact k
section
variable (P : Program) (rs:List RV) (K:AEnd→Heap→Prop) (tm:TM) (df:DF) (h:Heap) (r s:Nat) (l:List AVal)
end
end Go.Cw
end
section
namespace Go.Cw
open Go
def LL (l:List (List Int)):List AVal:=l.map L
@[simp] theorem LL_nil : LL []=[]:=(rfl)
@[simp] theorem LL_length (l:List (List Int)) :(LL l).length=l.length:=by simp[LL]
@[simp] theorem LL_append_one (l:List (List Int)) (x:List Int):LL l++[L x]=LL (l++[x]):=by simp[LL]
@[simp] theorem LL_get (l:List (List Int)) (i:Nat) :(LL l)[i]? = l[i]?.map L:=by simp[LL]
@[simp] theorem LL_drop (l:List (List Int)) (i:Nat) :(LL l).drop i=LL (l.drop i):=by simp[LL]
@[simp] theorem LL_head (l:List (List Int)) :(LL l).head? = l.head?.map L:=by simp[LL]
def LLv (l:List (List Int)):AVal:=.vl l.length (LL l)
@[simp] theorem frz_LLv (r s:Nat) (cells:List AVal) (l:List (List Int)):frz r s cells (LLv l)=LLv l:=(rfl)
@[simp] theorem aLen_LLv (l:List (List Int)):aLen (LLv l)=some (.int .i64 l.length):=(rfl)
@[simp] theorem satIxS_LLv (l:List (List Int)) (k:IntKind) (n:Int) (K:AVal→Prop):satIxS 1 (LLv l) (.int k n) K =((0≤n∧n<l.length)∧K (.pv (LL (l.drop n.toNat)))):=by
 simp[LLv]
def spanOf (l:List Int):Int×Int:=(l.foldl min (l.headD 0),l.foldl max (l.headD 0))
def SP2 (s:Int×Int):AVal:=.agg [.int .i64 s.1,.int .i64 s.2]
theorem gS_pos {esz r n s:Nat} (h:0<n):gS esz r n s=.sl r 0 s n (.gr esz):=if_neg (by omega)
theorem gO_pos {n s:Nat} {cells:List AVal} (h:0<n):gO n cells s=.row cells s:=if_neg (by omega)
def bits (p:Nat→Bool):Nat→Int
 | 0=>0
 | n+1=>bits p n+(if p n then 2^n else 0)
theorem two_pow_le {k n:Nat} (h:k≤n) :(2:Int)^k≤2^n:=by
 have:=Nat.pow_le_pow_right (n:=2) (by omega) h
 exact_mod_cast this
theorem two_pow_pos (k:Nat) :(0:Int)<2^k:=by
 have:=Nat.pow_pos (n:=k) (show 0<2 by omega)
 exact_mod_cast this
theorem bits_lt (p:Nat→Bool) (n:Nat):0≤bits p n∧bits p n<2^n:=by
 induction n with
 | zero=>simp[bits]
 | succ n ih=>
   have:=two_pow_pos n
   rw[Int.pow_succ]
   simp only[bits]
   split<;>omega
def plus (c:Nat→Int) (i:Nat) (x:Int):Nat→Int:=upd c i (c i+x)
theorem bitI_or (a b:Nat) (ha:a<2^62) (hb:b<2^62):bitI .or .i64 a b =(a ||| b:Nat):=by
 have h:=Nat.or_lt_two_pow ha hb
 unfold bitI
 simp only[BitVec.ofInt_natCast,BitVec.toNat_or,BitVec.toNat_ofNat]
 rw[show IntKind.i64.bits=64 from rfl,Nat.mod_eq_of_lt (by omega),Nat.mod_eq_of_lt (by omega)]
 show IntKind.i64.wrap (((a ||| b:Nat)):Int)=_
 have h2 :((a ||| b:Nat):Int)<2^62:=by exact_mod_cast h
 simp[IntKind.wrap,IntKind.signed,IntKind.bits]
 omega
theorem bits_or (p:Nat→Bool) (k:Nat) (hk:k≤60):bitI .or .i64 (bits p k) (2^k)=bits p k+2^k:=by
 obtain ⟨h1,h2⟩:=bits_lt p k
 obtain ⟨a,ha⟩:=Int.eq_ofNat_of_zero_le h1
 have ha2:a<2^k:=by rw[ha] at h2;exact_mod_cast h2
 have hk2:2^k<2^62:=Nat.pow_lt_pow_right (by omega) (by omega)
 have:=bitI_or a (2^k) (by omega) hk2
 rw[ha,show ((2:Int)^k) =((2^k:Nat):Int) by simp,this]
 have h3:=Nat.two_pow_add_eq_or_of_lt ha2 1
 rw[Nat.mul_one] at h3
 rw[Nat.or_comm,←h3]
 simp;omega
theorem bits_at (p:Nat→Bool):∀(n i:Nat),i<n→bits p n / 2^i % 2=if p i then 1 else 0:=by
 intro n
 induction n with
 | zero=>intro i hi;omega
 | succ n ih=>
   intro i hi
   have hb:=bits_lt p n
   have hp:=two_pow_pos i
   by_cases h:i=n
   ·subst h
    simp only[bits]
    cases p i
    ·rw[if_neg (by simp),Int.add_zero,Int.ediv_eq_zero_of_lt hb.1 hb.2];rfl
    ·rw[if_pos rfl,Int.add_ediv_of_dvd_right ⟨1,by omega⟩,Int.ediv_eq_zero_of_lt hb.1 hb.2,Int.ediv_self (by omega)];rfl
   ·have hin:i<n:=by omega
    rw[←ih i hin]
    simp only[bits]
    cases p n
    ·simp
    ·obtain ⟨m,rfl⟩ : ∃m,n=i+1+m:=⟨n - i - 1,by omega⟩
     have e :(2:Int)^(i+1+m)=2^i*(2*2^m):=by rw[Int.pow_add,Int.pow_succ,Int.mul_assoc]
     rw[if_pos rfl,e,Int.add_mul_ediv_left _ _ (by omega)]
     omega
theorem bits_zero {p:Nat→Bool} : ∀{n:Nat},bits p n=0↔∀i,i<n→p i=false
 | 0=>by simp[bits]
 | n+1=>by
   have h1:=bits_lt p n
   have h2:=two_pow_pos n
   have ih:=bits_zero (p:=p) (n:=n)
   simp only[bits]
   constructor
   ·intro h i hi
    have hp:p n=false:=by
     cases hp:p n with
     | false=>rfl
     | true=>rw[hp] at h;simp at h;omega
    by_cases hin:i=n
    ·subst hin;exact hp
    ·rw[hp] at h;exact ih.1 (by simpa using h) i (by omega)
   ·intro h
    rw[h n (by omega),ih.2 fun i hi=>h i (by omega)];rfl
def SortedI (l:List Int):Prop:=l.Pairwise (·≤·)
def upto (n:Nat):List Int:=(List.range n).map fun (i:Nat)=>(i:Int)
theorem wrap_u64 {n:Int} (h0:0≤n) (h1:n<2^62):IntKind.u64.wrap n=n:=by
 unfold IntKind.wrap
 simp only[IntKind.signed,IntKind.bits,Bool.false_and,Bool.false_eq_true,if_false]
 omega
theorem bitU_and (a b:Nat) (ha:a<2^62) (hb:b<2^62):bitI .and .u64 a b =(a &&& b:Nat):=by
 have h:a &&& b<2^62:=Nat.lt_of_le_of_lt Nat.and_le_left ha
 unfold bitI
 simp only[BitVec.ofInt_natCast,BitVec.toNat_and,BitVec.toNat_ofNat]
 rw[show IntKind.u64.bits=64 from rfl,Nat.mod_eq_of_lt (by omega),Nat.mod_eq_of_lt (by omega)]
 have h2 :((a &&& b:Nat):Int)<2^62:=by exact_mod_cast h
 exact wrap_u64 (Int.natCast_nonneg _) h2
theorem bitU_or (a b:Nat) (ha:a<2^62) (hb:b<2^62):bitI .or .u64 a b =(a ||| b:Nat):=by
 have h:=Nat.or_lt_two_pow ha hb
 unfold bitI
 simp only[BitVec.ofInt_natCast,BitVec.toNat_or,BitVec.toNat_ofNat]
 rw[show IntKind.u64.bits=64 from rfl,Nat.mod_eq_of_lt (by omega),Nat.mod_eq_of_lt (by omega)]
 have h2 :((a ||| b:Nat):Int)<2^62:=by exact_mod_cast h
 exact wrap_u64 (Int.natCast_nonneg _) h2
theorem bitU_and1 {a:Int} (h0:0≤a) (h1:a<2^62):bitI .and .u64 a 1=a % 2:=by
 obtain ⟨n,rfl⟩:=Int.eq_ofNat_of_zero_le h0
 have hn:n<2^62:=by exact_mod_cast h1
 have:=bitU_and n 1 hn (by omega)
 rw[Nat.and_one_is_mod] at this
 rw[show (1:Int) =((1:Nat):Int) from rfl,this]
 omega
def natB (p:Nat→Bool):Nat→Nat
 | 0=>0
 | n+1=>natB p n ||| (if p n then 2^n else 0)
theorem natB_bit (p:Nat→Bool) (n i:Nat) :(natB p n).testBit i =(decide (i<n) && p i):=by
 induction n with
 | zero=>simp[natB]
 | succ n ih=>
   simp only[natB,Nat.testBit_or,ih]
   by_cases h:i=n
   ·subst h
    cases hp:p i<;>simp[Nat.testBit_two_pow]
   ·have h1:decide (i<n+1)=decide (i<n):=by rw[decide_eq_decide];omega
    rw[h1]
    cases hp:p n
    ·simp
    ·simp[Nat.testBit_two_pow,Ne.symm h]
theorem natB_lt (p:Nat→Bool) (n:Nat):natB p n<2^n:=by
 refine Nat.lt_pow_two_of_testBit _ fun i hi=>?_
 rw[natB_bit]
 simp;omega
theorem bits_natB (p:Nat→Bool) (n:Nat):bits p n=natB p n:=by
 induction n with
 | zero=>rfl
 | succ n ih=>
   simp only[bits,natB,ih]
   cases p n
   ·simp
   ·have:=Nat.two_pow_add_eq_or_of_lt (natB_lt p n) 1
    rw[Nat.mul_one] at this
    rw[if_pos rfl,if_pos rfl,Nat.or_comm,←this]
    simp;omega
theorem natB_lt62 (p:Nat→Bool) {n:Nat} (hn:n≤60):natB p n<2^62:=
 Nat.lt_of_lt_of_le (natB_lt p n) (Nat.pow_le_pow_right (by omega) (by omega))
theorem natB_and (p q:Nat→Bool) (n:Nat):natB p n &&& natB q n=natB (fun i=>p i && q i) n:=by
 apply Nat.eq_of_testBit_eq
 intro i
 rw[Nat.testBit_and,natB_bit,natB_bit,natB_bit]
 cases decide (i<n)<;>simp
theorem natB_or (p q:Nat→Bool) (n:Nat):natB p n ||| natB q n=natB (fun i=>p i || q i) n:=by
 apply Nat.eq_of_testBit_eq
 intro i
 rw[Nat.testBit_or,natB_bit,natB_bit,natB_bit]
 cases decide (i<n)<;>simp
theorem bitsU_and (p q:Nat→Bool) {n:Nat} (hn:n≤60):bitI .and .u64 (bits p n) (bits q n)=bits (fun i=>p i && q i) n:=by
 rw[bits_natB,bits_natB,bits_natB,bitU_and _ _ (natB_lt62 p hn) (natB_lt62 q hn),natB_and]
theorem bitsU_or (p q:Nat→Bool) {n:Nat} (hn:n≤60):bitI .or .u64 (bits p n) (bits q n)=bits (fun i=>p i || q i) n:=by
 rw[bits_natB,bits_natB,bits_natB,bitU_or _ _ (natB_lt62 p hn) (natB_lt62 q hn),natB_or]
theorem bits_of {s:Int} (h0:0≤s) {n:Nat} (h1:s<2^n):bits (fun i=>decide (s / 2^i % 2=1)) n=s:=by
 obtain ⟨m,rfl⟩:=Int.eq_ofNat_of_zero_le h0
 have hm:m<2^n:=by exact_mod_cast h1
 rw[bits_natB]
 congr 1
 apply Nat.eq_of_testBit_eq
 intro i
 rw[natB_bit]
 have e :((m:Int) / 2^i % 2=1)↔(m / 2^i % 2=1):=by
  rw[show ((2:Int)^i) =((2^i:Nat):Int) by simp,←Int.natCast_ediv]
  omega
 have e2:decide ((m:Int) / 2^i % 2=1)=decide (m / 2^i % 2=1):=decide_eq_decide.2 e
 rw[Nat.testBit_eq_decide_div_mod_eq,e2]
 by_cases hi:i<n
 ·simp[hi]
 ·have:m / 2^i=0:=Nat.div_eq_of_lt (Nat.lt_of_lt_of_le hm (Nat.pow_le_pow_right (by omega) (by omega)))
  simp[hi,this]
end Go.Cw
end
section
namespace Go.Cw
open Go
section
variable (E : Env) (Q:Post) (op:IOp) (d t:Nat) (b:Bool) (r:List Stp) (K:KT) (tm:TM) (df:DF) (h:Heap)
@[simp] theorem AWops_IG (fd:Bool) (fa fl:List It):AWops E Q (⟨IG d t b op,fd,fa,fl⟩ :: r) K tm df h=GdK (tm t) b E Q op (some d) false false fd fa fl (AWops E Q r K) tm df h:=by
 show AWit _ _ _ _ _ _ _=_
 unfold AWit GdK
 simp only[IG,awx_guard]
end
def cpV (esz r s nm s' n:Nat):AVal:=if n=0 then .sl r 0 s 0 (.ex 0) else .sl nm 0 s' n (.gr esz)
def cpO (n:Nat) (ys:List AVal) (s':Nat):AObj:=if n=0 then .dead else .row ys s'
theorem xAp_cp {nm esz bytes s₀ r s n:Nat} {h:Heap} {K:AVal→Heap→Prop} {ys:List AVal} (hr:h r=.row [] s) (hd:h nm=.dead) (hb :(2*n+192)*bytes≤281474976710656)
 (hK:K (cpV esz r s nm (s₀+1) n) (upd h nm (cpO n ys (s₀+1)))):xAp nm esz bytes s₀ (.sl r 0 s 0 (.ex 0)) h K n ys:=by
 unfold cpV cpO at hK
 by_cases hn:n=0
 ·subst hn
  rw[if_pos rfl,if_pos rfl] at hK
  have e:upd h nm .dead=h:=by
   funext x
   by_cases hx:x=nm
   ·rw[hx,upd_same,hd]
   ·rw[upd_ne _ _ hx]
  rw[e] at hK
  simpa using hK
 ·rw[if_neg hn,if_neg hn] at hK
  rw[xAp_ne hn,xApN_sl,hr,xApR_ex]
  refine ⟨⟨rfl,by simp,by simpa using hb⟩,fun h1=>absurd h1 (by omega),fun _=>by simpa using hK⟩
theorem VLe.cp {esz r s nm s' n:Nat} {h:Heap} {cells:List AVal} (hh:h nm=cpO n cells s') (hl:cells.length=n*esz):VLe (cpV esz r s nm s' n) h (.vl n cells) (upd h nm .dead):=by
 unfold cpV
 unfold cpO at hh
 by_cases hn:n=0
 ·subst hn
  rw[if_pos rfl]
  have:cells=[]:=List.eq_nil_of_length_eq_zero (by omega)
  rw[this]
  refine VLe.trans (VLe.of_ale ((ALe.sl_es r 0 s).trans ALe.es_vl)) (VLe.wk fun x=>?_)
  by_cases hx:x=nm
  ·right;rw[hx,upd_same]
  ·left;rw[upd_ne _ _ hx]
 ·rw[if_neg hn] at hh ⊢
  exact VLe.sl hh
def cpW (esz r s nm s' k n:Nat):AVal:=if n=0 then .sl r 0 s k (.ex k) else .sl nm 0 s' (k+n) (.gr esz)
theorem xAp_cpW {nm esz bytes s₀ r s k n:Nat} {h:Heap} {K:AVal→Heap→Prop} {cs ys:List AVal} (hr:h r=.row cs s) (hk:cs.length=k*esz) (hd:h nm=.dead) (hb :(2*(k+n)+192)*bytes≤281474976710656)
 (hK:K (cpW esz r s nm (s₀+1) k n) (upd h nm (cpO n (cs++ys) (s₀+1)))):xAp nm esz bytes s₀ (.sl r 0 s k (.ex k)) h K n ys:=by
 unfold cpW cpO at hK
 by_cases hn:n=0
 ·subst hn
  rw[if_pos rfl,if_pos rfl] at hK
  have e:upd h nm .dead=h:=by
   funext x
   by_cases hx:x=nm
   ·rw[hx,upd_same,hd]
   ·rw[upd_ne _ _ hx]
  rw[e] at hK
  simpa using hK
 ·rw[if_neg hn,if_neg hn] at hK
  rw[xAp_ne hn,xApN_sl,hr,xApR_ex]
  refine ⟨⟨rfl,by omega,hb⟩,fun h1=>absurd h1 (by omega),fun _=>?_⟩
  rw[List.drop_zero,List.take_of_length_le (by omega)]
  exact hK
theorem VLe.cpW {esz r s nm s' k n:Nat} {h:Heap} {cs ys:List AVal} (hr:h r=.row cs s) (hh:h nm=cpO n (cs++ys) s') (hl:ys.length=n*esz):VLe (cpW esz r s nm s' k n) h (.vl (k+n) (cs++ys)) (upd (upd h r .dead) nm .dead):=by
 unfold Go.Cw.cpW
 unfold cpO at hh
 by_cases hn:n=0
 ·subst hn
  rw[if_pos rfl]
  have:ys=[]:=List.eq_nil_of_length_eq_zero (by omega)
  rw[this,List.append_nil]
  refine VLe.trans (VLe.sl hr) (VLe.wk fun x=>?_)
  by_cases hx:x=nm
  ·right;rw[hx,upd_same]
  ·left;rw[upd_ne _ _ hx]
 ·rw[if_neg hn] at hh ⊢
  refine VLe.trans (VLe.sl hh) (VLe.wk fun x=>?_)
  by_cases hx:x=nm
  ·left;rw[hx,upd_same,upd_same]
  ·rw[upd_ne _ _ hx,upd_ne _ _ hx]
   by_cases hy:x=r
   ·right;rw[hy,upd_same]
   ·left;rw[upd_ne _ _ hy]
theorem VLe.vl {us vs:List AVal} {h h':Heap} {n:Nat} (hn:0<n) (x:LLe us h vs h') (hl:us.length=vs.length):VLe (.vl n us) h (.vl n vs) h':=by
 intro Z μ g w u S hv
 simp only[VRel] at hv
 obtain ⟨a,cap,h1,h2,h3⟩:=hv
 rcases h3 with h3|⟨b,o,c,h4,h5,h6,h7⟩
 ·omega
 obtain ⟨Z',μ',g',S',hv',t⟩:=x Z μ g w _ S h6
 exact ⟨Z',μ',g',S',by simp only[VRel];exact ⟨a,cap,h1,h2,.inr ⟨b,o,c,h4,t.ext.imm _ _ h5,hv',by rw[←hl];exact h7⟩⟩,t⟩
section
variable {E : Env} {fv v:AVal} {fa fl:List It} {d:Option Nat} {K:KT} {Q:Post} {tm:TM} {df:DF} {h:Heap}
end
theorem bitsU_add (p:Nat→Bool) (k:Nat) (hk:k≤60):bitI .or .u64 (bits p k) (2^k)=bits p k+2^k:=by
 obtain ⟨h1,h2⟩:=bits_lt p k
 obtain ⟨a,ha⟩:=Int.eq_ofNat_of_zero_le h1
 have ha2:a<2^k:=by rw[ha] at h2;exact_mod_cast h2
 have hk2:2^k<2^62:=Nat.pow_lt_pow_right (by omega) (by omega)
 have:=bitU_or a (2^k) (by omega) hk2
 rw[ha,show ((2:Int)^k) =((2^k:Nat):Int) by simp,this]
 have h3:=Nat.two_pow_add_eq_or_of_lt ha2 1
 rw[Nat.mul_one] at h3
 rw[Nat.or_comm,←h3]
 simp;omega
theorem wrapU_pow {k:Nat} (hk:k≤60):IntKind.u64.wrap (2^k)=2^k:=by
 have h0:=two_pow_pos k
 have h1:=two_pow_le hk
 exact wrap_u64 (by omega) (Int.lt_of_le_of_lt h1 (by decide))
theorem wrapU_pow1 {k:Nat} (hk:k≤60):IntKind.u64.wrap (2^k - 1)=2^k - 1:=by
 have h0:=two_pow_pos k
 have h1:=two_pow_le hk
 have :(2:Int)^60<2^62:=by decide
 exact wrap_u64 (by omega) (by omega)
end Go.Cw
end
section
namespace Go.Cw
open Go
section
variable {κ : Type} [DecidableEq κ]
def entsK (ek f:κ→AVal) (M:List κ):List (AVal×AVal):=M.map fun k=>(ek k,f k)
@[simp] theorem entsK_length (ek f:κ→AVal) (M:List κ) :(entsK ek f M).length=M.length:=by simp[entsK]
@[simp] theorem entsK_nil (ek f:κ→AVal):entsK ek f []=[]:=(rfl)
theorem entsK_get (ek f:κ→AVal) (M:List κ) (i:Nat) :(entsK ek f M)[i]? = M[i]?.map fun k=>(ek k,f k):=by simp[entsK]
structure KeyLaw (kn:Bool×List Kd) (ek:κ→AVal):Prop where
 eq:∀a b,keyEq kn (ek a) (ek b)=some (decide (a=b))
def insK (k:κ) (M:List κ):List κ:=if k∈M then M else M++[k]
theorem nodup_insK {k:κ} {M:List κ} (h:M.Nodup) :(insK k M).Nodup:=by
 unfold insK
 split
 ·exact h
 ·rename_i hk
  rw[List.nodup_append]
  exact ⟨h,by simp,fun a ha b hb=>by simp at hb;subst hb;rintro rfl;exact hk ha⟩
variable {kn : Bool×List Kd} {ek f:κ→AVal}
theorem mfind_K (hl:KeyLaw kn ek) (k:κ):∀{M:List κ},
 (k∉M→mfind kn (ek k) (entsK ek f M)=some none)∧(k∈M→∃i,M[i]? = some k∧mfind kn (ek k) (entsK ek f M)=some (some (i,f k)))
 | []=>⟨fun _=>rfl,fun h=>by simp at h⟩
 | l::M=>by
   obtain ⟨h1,h2⟩:=mfind_K hl k (M:=M)
   have hc:mfind kn (ek k) (entsK ek f (l::M))=match some (decide (k=l)) with
    | none=>none
    | some true=>some (some (0,f l))
    | some false=>(mfind kn (ek k) (entsK ek f M)).map (Option.map fun x=>(x.1+1,x.2)):=by
    rw[←hl.eq];rfl
   by_cases hkl:k=l
   ·subst hkl
    refine ⟨fun h=>absurd (by simp) h,fun _=>⟨0,rfl,?_⟩⟩
    rw[hc];simp
   ·refine ⟨fun h=>?_,fun h=>?_⟩
    ·rw[hc,h1 (fun hm=>h (by simp[hm]))];simp[hkl]
    ·obtain ⟨i,hi,hf⟩:=h2 (by simpa[hkl] using h)
     refine ⟨i+1,by simpa using hi,?_⟩
     rw[hc,hf];simp[hkl]
theorem keyOk_K (hl:KeyLaw kn ek) (k:κ):keyOk kn (ek k)=true:=by simp[keyOk,hl.eq]
theorem aLookup_K (hl:KeyLaw kn ek) {k:κ} {M:List κ} {h:Heap} {m s:Nat} (hm:h m=.map (entsK ek f M) s) (zero:AVal) :
 aLookup h kn true zero (.map m s) (ek k)=some (if k∈M then .tup [f k,.bool true] else .tup [zero,.bool false]):=by
 obtain ⟨h1,h2⟩:=mfind_K hl k (f:=f) (M:=M)
 simp only[aLookup,keyOk_K hl,if_true,mapOf,hm]
 by_cases hkm:k∈M
 ·obtain ⟨i,_,hi⟩:=h2 hkm
  simp[hi,hkm]
 ·simp[h1 hkm,hkm]
theorem mset_K {k:κ} {M:List κ} (hn:M.Nodup) {i:Nat} (hi:M[i]? = some k) {v:AVal} {f':κ→AVal} (hv:f' k=v) (hf:∀x∈M,x≠k→f' x=f x):mset (entsK ek f M) i (ek k) v=entsK ek f' M:=by
 apply List.ext_getElem?
 intro j
 simp only[mset,List.getElem?_set,entsK_get,entsK_length]
 obtain ⟨hil,hik⟩:=List.getElem?_eq_some_iff.1 hi
 by_cases hij:i=j
 ·subst hij
  simp[hil,hik,hv]
 ·rw[if_neg hij]
  by_cases hj:j<M.length
  ·have hne:M[j]≠k:=by
    intro e
    rw[←hik] at e
    rcases Nat.lt_or_gt_of_ne hij with h|h
    ·exact (List.pairwise_iff_getElem.1 hn) i j hil hj h e.symm
    ·exact (List.pairwise_iff_getElem.1 hn) j i hj hil h e
   simp[hj,hf M[j] (by simp) hne]
  ·simp[hj]
theorem mapU_K (hl:KeyLaw kn ek) {k:κ} {M:List κ} (hn:M.Nodup) {h:Heap} {m s g:Nat} (hm:h m=.map (entsK ek f M) s) {ρ:Opd→AVal} {a b c:Opd} (ha:ρ a=.map m s) (hb:ρ b=ek k)
 {f':κ→AVal} (hc:ρ c=f' k) (hf:∀x∈M,x≠k→f' x=f x) :
 ixe (.mapU kn a b c) 0 ρ h g=some (.any,upd h m (.map (entsK ek f' (insK k M)) s),g):=by
 obtain ⟨h1,h2⟩:=mfind_K hl k (f:=f) (M:=M)
 simp only[ixe,ha,hm,hb,keyOk_K hl,and_self,if_true]
 by_cases hkm:k∈M
 ·obtain ⟨i,hi,hf2⟩:=h2 hkm
  simp only[hf2,hc,insK,if_pos hkm,mset_K hn hi (f':=f') rfl hf]
 ·simp only[h1 hkm,hc,insK,if_neg hkm]
  have:entsK ek f M=entsK ek f' M:=by
   unfold entsK
   refine List.map_congr_left fun x hx=>?_
   rw[hf x hx fun e=>hkm (e ▸ hx)]
  rw[this]
  simp[entsK]
def keysAt (M:List κ) (left:List Nat):List κ:=left.filterMap (M[·]?)
theorem keysAt_range (M:List κ):keysAt M (List.range M.length)=M:=by
 apply List.ext_getElem?
 intro i
 unfold keysAt
 have :(List.range M.length).filterMap (M[·]?)=M:=by
  induction M with
  | nil=>rfl
  | cons a M ih=>
    rw[List.length_cons,List.range_succ_eq_map,List.filterMap_cons]
    simp only[List.getElem?_cons_zero,List.filterMap_map]
    congr 1
 rw[this]
theorem keysAt_step {M D:List κ} {left:List Nat} {i:Nat} {k:κ} (hi:i∈left) (hk:M[i]? = some k) (h :(D++keysAt M left).Perm M) :(D++[k]++keysAt M (left.erase i)).Perm M:=by
 have h1 :(keysAt M left).Perm (k::keysAt M (left.erase i)):=by
  have:=(List.perm_cons_erase hi).filterMap (M[·]?)
  simpa[keysAt,hk] using this
 refine List.Perm.trans ?_ h
 rw[List.append_assoc]
 exact List.Perm.append_left D h1.symm
theorem xNextM_K {h:Heap} {r s m s₁ n:Nat} {left:List Nat} {M:List κ} {K:AVal→Heap→Prop} (hn:n=M.length) (h0:left=[]→K (.tup [.bool false]) h)
 (h1:∀i k,i∈left→M[i]? = some k→K (.tup [.bool true,ek k,f k]) (upd h r (.iter (some (m,s₁)) n (left.erase i) (some i) s))):xNextM (.map (entsK ek f M) s₁) h r s m s₁ n left K:=by
 refine xNextM_map (by simp[hn]) h0 fun i k v hi hkv=>?_
 rw[entsK_get] at hkv
 cases hM:M[i]? with
 | none=>rw[hM] at hkv;simp at hkv
 | some x=>
   rw[hM] at hkv
   simp only[Option.map_some,Option.some.injEq,Prod.mk.injEq] at hkv
   obtain ⟨rfl,rfl⟩:=hkv
   exact h1 i x hi hM
end
def lenMO (o:AObj) (s:Nat):Option AVal:=
 match o with
 | .map es s'=>if s=s' then some (.int .i64 es.length) else none
 | _=>none
def keysOf {κ:Type} [DecidableEq κ] (l:List κ):List κ:=l.foldl (fun M x=>insK x M) []
section
variable {κ : Type} [DecidableEq κ]
end
def maxL (l:List Int):Int:=l.foldl max 0
end Go.Cw
end
section
namespace Go.Cw
open Go
def frzO (r s:Nat) (cells:List AVal):AObj→AObj
 | .row cs s'=>.row (frzL r s cells cs) s'
 | o=>o
def frzH (r s:Nat) (cells:List AVal) (h:Heap):Heap:=fun x=>frzO r s cells (h x)
@[simp] theorem frzH_at (r s:Nat) (cells:List AVal) (h:Heap) (x:Nat):frzH r s cells h x=frzO r s cells (h x):=(rfl)
@[simp] theorem frzO_dead (r s:Nat) (cells:List AVal):frzO r s cells .dead=.dead:=(rfl)
@[simp] theorem frzO_row (r s:Nat) (cells cs:List AVal) (s':Nat):frzO r s cells (.row cs s')=.row (frzL r s cells cs) s':=(rfl)
@[simp] theorem frzO_map (r s:Nat) (cells:List AVal) (es:List (AVal×AVal)) (s':Nat):frzO r s cells (.map es s')=.map es s':=(rfl)
theorem frzO_stamp (r s:Nat) (cells:List AVal) (o:AObj) :(frzO r s cells o).stamp=o.stamp:=by cases o<;>rfl
@[simp] theorem frzL_ints (r s:Nat) (cells:List AVal) (l:List Int):frzL r s cells (ints l)=ints l:=by induction l<;>simp[*]
@[simp] theorem frzO_gO (r s:Nat) (cells:List AVal) (n:Nat) (cs:List AVal) (s':Nat):frzO r s cells (gO n cs s')=gO n (frzL r s cells cs) s':=by cases n<;>rfl
theorem SLe.frzHp {n:Nat} {tm:TM} {df:DF} {h:Heap} {cells:List AVal} {s:Nat} (r:Nat) (hr:h r=.row cells s):SLe n tm df h (frzT r s cells tm) df (frzH r s cells (upd h r .dead)):=by
 intro Z μ g w ca S T D
 obtain ⟨c,hz,h3,ho,S',t⟩:=S.freeze hr
 have h3':=VPre.mono t.ext _ _ h3
 refine ⟨_,μ,g,⟨fun x=>?_,fun x y s₁ s₂ hx hy hne=>?_,S'.imm,fun x s₁ hx=>?_⟩,⟨T.1,fun x=>frz_rel t.ext h3' ho hz _ _ (T.2 x)⟩,D.mono t.ext,
  ⟨t.ext,t.size,t.frame,fun x s₁ hx hlt=>?_,t.imm,t.env⟩⟩
 ·have hrow:=S'.rows x
  simp only[frzH_at]
  by_cases hxr:x=r
  ·subst hxr;rw[upd_same];simp[ORel]
  ·rw[upd_ne _ _ hxr] at hrow ⊢
   have hrow0:=S.rows x
   cases hx:h x with
   | row cs s'=>
     rw[hx] at hrow0
     simp only[frzO_row,ORel] at hrow0 ⊢
     obtain ⟨hs,c',elem,h1,h2,h4,h5⟩:=hrow0
     exact ⟨hs,c',elem,h1,h2,frzL_rel t.ext h3' ho hz _ _ h4,by simpa using h5⟩
   | _=>rw[hx] at hrow;exact hrow
 ·rw[frzH_at,frzO_stamp] at hx hy;exact S'.inj x y s₁ s₂ hx hy hne
 ·rw[frzH_at,frzO_stamp] at hx;exact S'.sep x s₁ hx
 ·rw[frzH_at,frzO_stamp] at hx;exact t.wr x s₁ hx hlt
theorem Sl.frzHp {n:Nat} {K:KT} {tm:TM} {df:DF} {h:Heap} {cells:List AVal} {s:Nat} (r:Nat) (hr:h r=.row cells s) (k:Sl n K (frzT r s cells tm) df (frzH r s cells (upd h r .dead))):Sl n K tm df h:=Sl.le (SLe.frzHp r hr) k
theorem Sl.gSH {n:Nat} {K:KT} {tm:TM} {df:DF} {h:Heap} {cells:List AVal} {m s:Nat} (r:Nat) (hm:0<m) (hr:h r=gO m cells s) (k:Sl n K (frzT r s cells tm) df (frzH r s cells (upd h r .dead))):Sl n K tm df h:=
 Sl.frzHp r (by rw[hr,gO_pos hm]) k
theorem xApN_cp {nm₁ nm₂ esz bytes s₀ r s s' n m:Nat} {h:Heap} {K:AVal→Heap→Prop} {cs ys:List AVal} (hr:h r=.row [] s) (h1:h nm₁=cpO n cs s') (hl:cs.length=n*esz) (hm:0<m) (hb :(2*(n+m)+192)*bytes≤281474976710656)
 (hK:K (.sl nm₂ 0 (s₀+1) (n+m) (.gr esz)) (upd (upd h nm₁ .dead) nm₂ (.row (cs++ys) (s₀+1)))):xApN nm₂ esz bytes s₀ (cpV esz r s nm₁ s' n) h K m ys:=by
 unfold cpO at h1
 unfold cpV
 by_cases hn:n=0
 ·subst hn
  rw[if_pos rfl] at h1 ⊢
  have hcs:cs=[]:=List.eq_nil_of_length_eq_zero (by omega)
  have e:upd h nm₁ .dead=h:=by
   funext x
   by_cases hx:x=nm₁
   ·rw[hx,upd_same,h1]
   ·rw[upd_ne _ _ hx]
  rw[e,hcs] at hK
  rw[xApN_sl,hr,xApR_ex]
  refine ⟨⟨rfl,by simp,by simpa using hb⟩,fun h1=>absurd h1 (by omega),fun _=>by simpa using hK⟩
 ·rw[if_neg hn] at h1 ⊢
  rw[xApN_sl,h1,xApR_gr]
  refine ⟨⟨rfl,by omega,by simpa using hb⟩,⟨rfl,rfl,by omega⟩,by simpa using hK⟩
def U16 (l:List Int):AVal:=.vl l.length (intsK .u16 l)
structure U16ok (l:List Int):Prop where
 len:l.length≤9223372036854775807
 rng:∀x∈l,0≤x∧x≤65535
end Go.Cw
end
section
namespace Go.Cw
open Go
def ZF (v:AVal):Prop:=∀Z Z' μ g u,VRel Z μ g v u→VRel Z' μ g v u
theorem ZF.int (k:IntKind) (n:Int):ZF (.int k n):=fun _ _ _ _ _ h=>by simpa[VRel] using h
theorem ZF.bool (b:Bool):ZF (.bool b):=fun _ _ _ _ _ h=>by simpa[VRel] using h
theorem ZF.nils : ZF .nils:=fun _ _ _ _ _ h=>by simpa[VRel] using h
theorem ZF.sl (r off s len:Nat) (cap:Cap):ZF (.sl r off s len cap):=fun _ _ _ _ _ h=>by simpa[VRel] using h
theorem ZF.pre : ∀{l:List AVal},(∀a∈l,ZF a)→∀Z Z' μ g us,VPre Z μ g l us→VPre Z' μ g l us
 | [],_,_,_,_,_,_,_=>by simp[VPre]
 | a::l,h,Z,Z',μ,g,[],hp=>by simp[VPre] at hp
 | a::l,h,Z,Z',μ,g,u::us,hp=>by
   simp only[VPre] at hp ⊢
   exact ⟨h a (by simp) Z Z' μ g u hp.1,ZF.pre (fun b hb=>h b (by simp[hb])) Z Z' μ g us hp.2⟩
theorem ZF.tup {l:List AVal} (h:∀a∈l,ZF a):ZF (.tup l):=fun Z Z' μ g u hu=>by
 simp only[VRel] at hu ⊢
 obtain ⟨x,h1,h2,h3⟩:=hu
 exact ⟨x,h1,h2,ZF.pre h Z Z' μ g _ h3⟩
theorem ZF.ints (l:List Int):∀a∈ints l,ZF a:=fun a ha=>by
 unfold Go.Cw.ints at ha
 obtain ⟨n,_,rfl⟩:=List.mem_map.1 ha
 exact ZF.int _ _
def RowsZ (h:Heap):Prop:=∀x,h x=.dead∨∃cells s,h x=.row cells s∧∀a∈cells,ZF a
theorem RowsZ.one (r:Nat) {cells:List AVal} (s:Nat) (hc:∀a∈cells,ZF a):RowsZ (hpV [(r,.row cells s)]):=fun x=>by
 rw[hpV_cons,hpV_nil]
 by_cases h:x=r
 ·subst h;exact .inr ⟨cells,s,upd_same _ _ _,hc⟩
 ·exact .inl (upd_ne _ _ h)
theorem RowsZ.nil : RowsZ nilH:=fun _=>.inl rfl
end Go.Cw
end
section
namespace Go.Cw
open Go
section
variable {n : Nat} {B:Post→KT} {Q:Post}
def LpIs (I:Nat→KT) (m m':Nat):KT:=fun tm df h=>m'<m∧I m' tm df h
theorem LpN_lt (I:Nat→KT) (m:Nat):LpN n (LpIs I m) m Q=LpN n I m Q:=by
 funext e tm df h
 cases e<;>simp only[LpN]
 congr 1
 funext tm df h
 exact propext ⟨fun ⟨m',h1,_,h2⟩=>⟨m',h1,h2⟩,fun ⟨m',h1,h2⟩=>⟨m',h1,h1,h2⟩⟩
noncomputable def LpI (n:Nat) (B:Post→KT) (Q:Post):Nat→KT:=
 Nat.lt_wfRel.wf.fix fun m rec=>B (LpN n (fun m' tm df h=>∃hm:m'<m,rec m' hm tm df h) m Q)
theorem LpI_eq (m:Nat):LpI n B Q m=B (LpN n (LpI n B Q) m Q):=by
 unfold LpI
 rw[WellFounded.fix_eq]
 show B (LpN n (fun m' tm df h=>∃_:m'<m,LpI n B Q m' tm df h) m Q)=B (LpN n (LpI n B Q) m Q)
 rw[←LpN_lt (LpI n B Q) m]
 congr 2
 funext m' tm df h
 exact propext ⟨fun ⟨h1,h2⟩=>⟨h1,h2⟩,fun ⟨h1,h2⟩=>⟨h1,h2⟩⟩
theorem Lp.rounds (m:Nat) {tm:TM} {df:DF} {h:Heap} (k:LpI n B Q m tm df h):Lp n B Q tm df h:=
 ⟨LpI n B Q,⟨m,Sl.refl k⟩,fun m _ _ _ k=>by rw[LpI_eq] at k;exact k⟩
structure UJ (n:Nat) (B:Post→KT) (Q:Post) (m:Nat) (J:Post):Prop where
 go:∀{tm df h},LpI n B Q m tm df h→J .normal tm df h
 goS:∀{tm df h},Sl n (LpI n B Q m) tm df h→J .normal tm df h
 exit:∀{id tm df h},Q (.exit id) tm df h→J (.exit id) tm df h
 exitS:∀{id tm df h},Sl n (Q (.exit id)) tm df h→J (.exit id) tm df h
 ret:∀{tm df h},Q .ret tm df h→J .ret tm df h
 retS:∀{tm df h},Sl n (Q .ret) tm df h→J .ret tm df h
 pan:∀{v tm df h},Q (.panic v) tm df h→J (.panic v) tm df h
theorem LpI.round {m:Nat} {tm:TM} {df:DF} {h:Heap} (k:∀J:Post,UJ n B Q m J→B J tm df h):LpI n B Q (m+1) tm df h:=by
 rw[LpI_eq]
 exact k _ ⟨fun k=>Sl.refl ⟨m,Nat.lt_succ_self m,k⟩,fun k=>Sl.mono (fun _ _ _ k=>⟨m,Nat.lt_succ_self m,k⟩) k,fun k=>Sl.refl k,fun k=>k,fun k=>Sl.refl k,fun k=>k,fun k=>k⟩
end
theorem VLe.of_sle {v:AVal} {h h':Heap} {tm':TM} {df':DF} (s:SLe 1 (upd anyT 0 v) [] h tm' df' h'):VLe v h (tm' 0) h':=by
 intro Z μ g w u S hv
 obtain ⟨Z',μ',g',S',T',_,t⟩:=s Z μ g w { tmps:=#[u],defers:=[] } S ⟨rfl,fun t=>by
  by_cases ht:t=0
  ·subst ht;simpa[upd_same] using hv
  ·rw[upd_ne _ _ ht];simp[anyT,VRel]⟩ (by simp[DRel])
 exact ⟨Z',μ',g',S',by simpa using T'.2 0,t⟩
theorem VLe.frzHp {v:AVal} {h:Heap} {cells:List AVal} {s:Nat} (r:Nat) (hr:h r=.row cells s):VLe v h (Go.Cw.frz r s cells v) (frzH r s cells (upd h r .dead)):=by
 have:=VLe.of_sle (v:=v) (SLe.frzHp (n:=1) (tm:=upd anyT 0 v) (df:=[]) r hr)
 simpa[frzT,upd_same] using this
theorem RetV.frzH {K:AEnd→Heap→Prop} {h:Heap} {v:AVal} {cells:List AVal} {s:Nat} (r:Nat) (hr:h r=.row cells s) (k:RetV K (Go.Cw.frzH r s cells (upd h r .dead)) (Go.Cw.frz r s cells v)):RetV K h v:=
 RetV.le (VLe.frzHp r hr) k
end Go.Cw
end
section
namespace Go.Cw
open Go
def mkD (b:Nat):List Nat→DF
 | []=>[]
 | s::l=>(.yield (l.length+b) s,[])::mkD b l
def mkH (b:Nat):List Nat→List (Nat×AObj)
 | []=>[]
 | s::l=>(l.length+b,.dfr false s)::mkH b l
def dropM (b n:Nat) (h:Heap):Heap:=fun x=>if b≤x∧x<b+n then .dead else h x
section
variable (b : Nat) (l:List Nat)
@[simp] theorem mkD_nil : mkD b []=[]:=(rfl)
@[simp] theorem mkH_nil : mkH b []=[]:=(rfl)
@[simp] theorem mkD_cons (s:Nat):mkD b (s::l) =(.yield (l.length+b) s,[])::mkD b l:=(rfl)
@[simp] theorem mkH_cons (s:Nat):mkH b (s::l) =(l.length+b,.dfr false s)::mkH b l:=(rfl)
@[simp] theorem mkH_mem (x:Nat):x∈(mkH b l).map Prod.fst↔b≤x∧x<l.length+b:=by
 induction l with
 | nil=>simp[mkH]
 | cons s l ih=>simp only[mkH,List.map_cons,List.mem_cons,ih,List.length_cons];omega
theorem mkH_nodup :((mkH b l).map Prod.fst).Nodup:=by
 induction l with
 | nil=>simp[mkH]
 | cons s l ih=>simp only[mkH,List.map_cons,List.nodup_cons,mkH_mem];exact ⟨by omega,ih⟩
end
theorem mkH_names (b:Nat):∀(l l':List Nat),l.length=l'.length→(mkH b l).map Prod.fst =(mkH b l').map Prod.fst
 | [],[],_=>rfl
 | s::l,s'::l',h=>by
   simp only[List.length_cons,Nat.add_right_cancel_iff] at h
   simp[mkH,h,mkH_names b l l' h]
theorem mkH_lo {b x:Nat} {l:List Nat} (h:x<b):hpV (mkH b l) x=.dead:=hpV_none (by simp;omega)
@[simp] theorem mkH_hi (b:Nat) (l:List Nat):hpV (mkH b l) (l.length+b)=.dead:=hpV_none (by simp)
theorem mkH_upd {b x:Nat} {l:List Nat} {h:Heap} {o:AObj} (hx:x<b):Hw (mkH b l) (upd h x o)=Hw (mkH b l) h:=propext (hw_upd (by simp;omega))
theorem mkH_upd' {b x:Nat} {l:List Nat} {h:Heap} {o:AObj} (hx:l.length+b≤x):Hw (mkH b l) (upd h x o)=Hw (mkH b l) h:=propext (hw_upd (by simp;omega))
@[simp] theorem mkH_upd_at {b:Nat} {l:List Nat} {h:Heap} {o:AObj} : Hw (mkH b l) (upd h (l.length+b) o)=Hw (mkH b l) h:=mkH_upd' (Nat.le_refl _)
@[simp] theorem mkH_self (b:Nat) (l:List Nat):Hw (mkH b l) (hpV (mkH b l))=True:=eq_true (hw_hpV (mkH_nodup b l))
@[simp] theorem mkH_updL (b:Nat) (l:List Nat) (h:Heap):Hw (mkH b l) (updL h (mkH b l))=True:=eq_true (hw_updL (mkH_nodup b l))
theorem dropM_lo {b n x:Nat} {h:Heap} (hx:x<b):dropM b n h x=h x:=if_neg (by omega)
theorem TakeK.marks {k:DF→Heap→Prop} {b:Nat} {df:DF} : ∀{l:List Nat} {h:Heap},Hw (mkH b l) h→TakeK k df (dropM b l.length h)→TakeK k (mkD b l++df) h
 | [],h,_,a=>by
   have e:dropM b 0 h=h:=funext fun x=>if_neg (by omega)
   rw[List.length_nil,e] at a
   exact a
 | s::l,h,hw,a=>by
   rw[mkD_cons,List.cons_append,TakeK_mark]
   rw[mkH_cons,Hw_cons] at hw
   refine ⟨hw.1,TakeK.marks (by rw[mkH_upd_at];exact hw.2) ?_⟩
   have e:dropM b l.length (upd h (l.length+b) .dead)=dropM b (s::l).length h:=by
    funext x
    simp only[dropM,upd,List.length_cons]
    by_cases h1:b≤x∧x<b+l.length
    ·rw[if_pos h1,if_pos (by omega)]
    ·rw[if_neg h1]
     by_cases h2:x=l.length+b
     ·rw[if_pos h2,if_pos (by omega)]
     ·rw[if_neg h2,if_neg (by omega)]
   rw[e];exact a
theorem RetA.marks {P:Program} {rs:List RV} {K:AEnd→Heap→Prop} {tm:TM} {df:DF} {h:Heap} {b:Nat} {l:List Nat} (hw:Hw (mkH b l) h) (a:RetA P rs K .ret tm df (dropM b l.length h)):RetA P rs K .ret tm (mkD b l++df) h:=TakeK.marks hw a
theorem RetK.marks {rs:List RV} {K:AEnd→Heap→Prop} {tm:TM} {df:DF} {h:Heap} {b:Nat} {l:List Nat} (hw:Hw (mkH b l) h) (a:RetK rs K .ret tm df (dropM b l.length h)):RetK rs K .ret tm (mkD b l++df) h:=TakeK.marks hw a
structure LpE {σ:Type} (n:Nat) (inv:σ→Prop) (vw:σ→List (Nat×AVal)) (hp:σ→List (Nat×AObj)) (dfs:σ→DF) (ms:σ→Nat) (s:σ) (Q J:Post):Prop where
 next:∀{tm df h} (s':σ),inv s'→ms s'<ms s→df=dfs s'→Vw (vw s') tm→Hw (hp s') h→J .normal tm df h
 exitS:∀{id tm df h},Sl n (Q (.exit id)) tm df h→J (.exit id) tm df h
 retS:∀{tm df h},Sl n (Q .ret) tm df h→J .ret tm df h
 pan:∀{v tm df h},Q (.panic v) tm df h→J (.panic v) tm df h
section
variable {σ : Type} {n:Nat} {inv:σ→Prop} {vw:σ→List (Nat×AVal)} {hp:σ→List (Nat×AObj)} {dfs:σ→DF} {ms:σ→Nat} {s:σ} {Q J:Post} (a:LpE n inv vw hp dfs ms s Q J)
include a
theorem LpE.exit {id:Nat} {tm:TM} {df:DF} {h:Heap} (k:Q (.exit id) tm df h):J (.exit id) tm df h:=a.exitS (Sl.refl k)
theorem LpE.ret {tm:TM} {df:DF} {h:Heap} (k:Q .ret tm df h):J .ret tm df h:=a.retS (Sl.refl k)
end
theorem Lp.introE {σ:Type} {n:Nat} {B:Post→KT} {Q:Post} {tm:TM} {df:DF} {h:Heap} (inv:σ→Prop) (vw:σ→List (Nat×AVal)) (hp:σ→List (Nat×AObj)) (dfs:σ→DF) (ms:σ→Nat) (s₀:σ) (hi:inv s₀) (hd:df=dfs s₀) (hv:Vw (vw s₀) tm) (hh:Hw (hp s₀) h)
 (round:∀s,inv s→∀J:Post,LpE n inv vw hp dfs ms s Q J→B J (tmV (vw s)) (dfs s) (hpV (hp s))):Lp n B Q tm df h:=by
 subst hd
 refine ⟨fun m tm df h=>∃s,inv s∧ms s=m∧tm=tmV (vw s)∧df=dfs s∧h=hpV (hp s),⟨ms s₀,_,_,_,SLe.view hv hh,s₀,hi,rfl,rfl,rfl,rfl⟩,?_⟩
 rintro m tm' df' h' ⟨s,hs,rfl,rfl,rfl,rfl⟩
 refine round s hs _ ⟨?_,fun k=>k,fun k=>k,fun k=>k⟩
 intro tm df h s' hi hm hd hv hh
 subst hd
 exact ⟨_,_,_,SLe.view hv hh,ms s',hm,s',hi,rfl,rfl,rfl,rfl⟩
end Go.Cw
end
section
namespace Go.Cw
open Go Go.Proofs Go.RowKit
section
variable {Z : Snap} {μ:Mu} {h:Heap} {g:Nat} {w w':World} {P:Program}
theorem Sim.same (S:Sim Z μ h g w) (hsz:w.heap.size≤w'.heap.size) (hfr:∀b,b<w.heap.size→w'.heap[b]? = w.heap[b]?) (he:SEnv w w'):Sim Z μ h g w'∧Tr Z μ h g w Z μ h g w':=by
 refine ⟨⟨fun r=>(S.rows r).mono (Ext.refl _ _ _) fun s hs=>hfr _ (S.lt hs).2,S.inj,fun b c hb=>?_,S.sep⟩,⟨Ext.refl _ _ _,hsz,fun b hb _=>hfr b hb,fun r s hs _=>⟨r,s,hs,rfl⟩,fun _ _ hb _=>.inl hb,he⟩⟩
 obtain ⟨arr,elem,fr,h1,h2⟩:=S.imm b c hb
 exact ⟨arr,elem,fr,by rw[hfr b (Array.getElem?_eq_some_iff.1 h1).1];exact h1,h2⟩
theorem APure.lib {f:FuncId} {args:List AVal} {v:AVal} (he:Enters P f)
 (k:∀Z μ h g w (cargs:Array Value),Sim Z μ h g w→cargs.size=args.length→VPre Z μ g args cargs.toList→Calls P f cargs w fun e w'=>(∃x,VRel Z μ g v x∧e=.returned x)∧w.heap.size≤w'.heap.size∧(∀b,b<w.heap.size→w'.heap[b]? = w.heap[b]?)∧SEnv w w'):APure P f args v:=fun h=>by
 refine ⟨he,fun Z μ g w cargs S hl hv=>Calls.mono' (k Z μ h g w cargs S hl hv) ?_⟩
 rintro e w' ⟨⟨x,hx,rfl⟩,h1,h2,h3⟩
 obtain ⟨S',t'⟩:=S.same h1 h2 h3
 exact ⟨Z,μ,g,.ret v,h,⟨rfl,rfl⟩,⟨x,hx,rfl⟩,S',t'⟩
theorem str_of (l:List UInt8):VRel Z μ g (.str l) (.string ⟨l.toArray⟩):=by simp only[VRel];exact ⟨_,rfl,rfl⟩
theorem APure.itoa {ρ:Go.Shelf.Ren} (Ly:LaysM.n171 P ρ) (he:Enters P (ρ.f 171)) {gp:Nat} (hg:P.globalNamed "internal/strconv.uint64pow10" = some gp) (hgt :(gp,Lib.pow10Tab.map fun z=>Value.int .u64 z)∈gtab)
 {n:Int} (h0 : -9223372036854775808≤n) (h1:n≤9223372036854775807):APure P (ρ.f 171) [.int .i64 n] (.str (Lib.itoa n)):=by
 refine APure.lib he fun Z μ h g w cargs S hl hv=>?_
 obtain ⟨x,rfl⟩ : ∃x,cargs = #[x]:=by
  match cargs,hl with
  | ⟨[x]⟩,_=>exact ⟨x,rfl⟩
 have hx:=(VPre_cons.1 hv).1
 simp only[VRel] at hx
 subst hx
 have htab:Lib.TabIs P w "internal/strconv.uint64pow10" .u64 Lib.pow10Tab:=by
  obtain ⟨arr,elem,fr,h1,h2⟩:=S.imm gp _ (Z.ok.1 gp _ hgt)
  unfold Lib.TabIs World.var?
  rw[hg,Option.bind_some,h1]
  simp only[←h2]
 refine Calls.mono' (Any.strconv_Itoa Ly n h0 h1 w htab) ?_
 rintro e w' ⟨rfl,k,os,rfl⟩
 refine ⟨⟨_,str_of _,rfl⟩,by simp[Sort.grow,World.drewN],fun b hb=>?_,rfl,rfl⟩
 simp only[Sort.grow]
 rw[Array.getElem?_append_left (by simpa[World.drewN] using hb)]
 rfl
theorem APure.cut {ρ:Go.Shelf.Ren} (Ly:Lays.n145 P ρ) (he:Enters P (ρ.f 145)) (hg:ρ.g 1∈gany) {s sep:List UInt8} (hs:s.length<4294967281) :
 APure P (ρ.f 145) [.str s,.str sep] (.tup [.str (Lib.cut s sep).1,.str (Lib.cut s sep).2.1,.bool (Lib.cut s sep).2.2]):=by
 refine APure.lib he fun Z μ h g w cargs S hl hv=>?_
 obtain ⟨x,y,rfl⟩ : ∃x y,cargs = #[x,y]:=by
  match cargs,hl with
  | ⟨[x,y]⟩,_=>exact ⟨x,y,rfl⟩
 have hx:=(VPre_cons.1 hv).1
 have hy:=(VPre_cons.1 (VPre_cons.1 hv).2).1
 simp only[VRel] at hx hy
 obtain ⟨bs,rfl,rfl⟩:=hx
 obtain ⟨bp,rfl,rfl⟩:=hy
 obtain ⟨m,hm⟩:=Z.ok.2 _ hg
 obtain ⟨arr,elem,fr,h1,h2⟩:=S.imm _ _ hm
 have hcell:w.cell? ⟨ρ.g 1,0,none⟩ = some (.int .i64 m):=by
  simp only[World.cell?,h1]
  rw[←Array.getElem?_toList,h2];rfl
 refine Calls.mono' (Any.strings_Cut Ly bs bp m w (by rw[Lib.size_eq];exact hs) hcell) ?_
 rintro e w' ⟨rfl,n,rfl⟩
 refine ⟨⟨_,?_,rfl⟩,Nat.le_refl _,fun b hb=>rfl,rfl,rfl⟩
 simp only[VRel]
 refine ⟨_,rfl,rfl,?_⟩
 simp only[VPre,VRel]
 exact ⟨⟨_,rfl,rfl⟩,⟨_,rfl,rfl⟩,True.intro,True.intro⟩
end
end Go.Cw
end
section
namespace Go.Cw
open Go Go.Proofs Go.RowKit Go.Shelf
section
variable {P : Program} {ρ:Ren}
theorem run_append_where (w:World) (base:Nat) (t u ty e:TypeId) (i:TypeInfo) (ht:P.underlying t=some (.slice e)) (hu:P.underlying u=some .string) (hi:P.info? e=some i) (hz:i.zero=some (.int .u8 0)) (hsize:i.size=1) (hby:i.bytes=1)
 (v:Value) (n:Nat) (xs:List Value) (hown:w.ownsRow base e 1 v n xs) (s:ByteArray) (h63:n+s.size≤maxLen) (hbytes:n+s.size≤140737488355328) {v':Value} {w':World}
 (hr :(Builtin.append_ #[t,u] ty #[v,.string s]).run P w=.ok v' w') :(v'.ownBlock=none∨v'.ownBlock=v.ownBlock∨v'.ownBlock=some w.heap.size)∧∀k,k<w.heap.size→some k≠v'.ownBlock→w'.heap[k]? = w.heap[k]?:=by
 have hxl:xs.length=n:=by simpa using hown.1
 have hsm:n+s.size≤9223372036854775807:=by simp only[maxLen] at h63;omega
 rcases hown.2 with ⟨rfl,rfl⟩ | ⟨g,cap,cur,rfl,hbg,hg,hnc,hcm,hcs,htake⟩
 ·by_cases hm:s.size=0
  ·have hf:=Lib.run_firstCells_string (P:=P) w 1 s
   rw[hm] at hf
   have hq :(Builtin.append_ #[t,u] ty #[.slice none 0 0,.string s]).run P w=.ok (.slice none 0 0) w:=by
    simp[Builtin.append_,run_underlying ht,run_underlying hu,sizeOf,typeInfo,hi,hsize,Builtin.lenOf,hm,hf]
   rw[hq] at hr
   cases hr
   exact ⟨.inl rfl,fun _ _ _=>rfl⟩
  ·rw[run_append_nil_string (P:=P) w t u ty e i (.int .u8 0) ht hu hi hz s (by omega) (by omega) (by rw[hby];omega)] at hr
   cases hr
   exact ⟨.inr (.inr rfl),fun k hk _=>heap_alloc_old w.drew _ hk⟩
 ·have hcs':cur.size=cap:=by simpa using hcs
  by_cases hroom:n+s.size≤cap
  ·rw[Lib.run_append_room_string (P:=P) w t u ty e i ht hu hi hsize g n cap cur hg s hroom (by omega)] at hr
   cases hr
   exact ⟨.inr (.inl rfl),fun k _ hk=>setRow_other w g k _ (fun e=>hk (by simp[Value.ownBlock,e]))⟩
  ·rw[Lib.run_append_grow_string (P:=P) w t u ty e i (.int .u8 0) ht hu hi hz ⟨g,0,none⟩ n cap xs (by rw[hsize];simpa using hxl) (hown.cells (g:=g) rfl) s (by omega) (by omega) (by rw[hby];exact growslice_fits (by omega) (by omega))] at hr
   cases hr
   exact ⟨.inr (.inr rfl),fun k hk _=>heap_alloc_old w.drew _ hk⟩
theorem wpList_append_str {ops:Array Oper} {rest:List Oper} {o:Oper} {a:Act} {Q:Exit→Act→World→Prop} (w:World) (hgd:o.guard=none) (sl x:Operand) (t u:TypeId)
 (ho:o.op=.call { callee:=.builtin .append,args:=#[sl,x],argTypes:=#[t,u] })
 (base:Nat) (e:TypeId) (i:TypeInfo) (ht:P.underlying t=some (.slice e)) (hu:P.underlying u=some .string) (hi:P.info? e=some i) (hz:i.zero=some (.int .u8 0))
 (hsize:i.size=1) (hby:i.bytes=1)
 (v:Value) (n:Nat) (xs:List Value) (hs:a.eval sl=v) (hown:w.ownsRow base e 1 v n xs) (s:ByteArray) (hx:a.eval x=.string s)
 (h63:n+s.size≤maxLen) (hbytes:n+s.size≤140737488355328) (hbase:base≤w.heap.size)
 (h:∀v' w',w'.ownsRow base e 1 v' (n+s.size) (xs++Lib.strCells s)→w.grownBy w' v.ownBlock→((v'.ownBlock=none∨v'.ownBlock=v.ownBlock∨v'.ownBlock=some w.heap.size)∧∀k,k<w.heap.size→some k≠v'.ownBlock→w'.heap[k]? = w.heap[k]?)→(v'=.slice none 0 0↔v=.slice none 0 0∧s.size=0)→wpList P ops Q rest (a.put o.dst v') w'):wpList P ops Q (o::rest) a w:=by
 refine wpList_plain hgd fun K hK=>?_
 obtain ⟨v',w',hr,h2,h3,h4⟩:=Lib.run_append_own_string (P:=P) w base t u o.type e i ht hu hi hz hsize hby v n xs hown s h63 hbytes hbase
 have h5:=run_append_where (P:=P) w base t u o.type e i ht hu hi hz hsize hby v n xs hown s h63 hbytes hr
 unfold Oper.wp execOp
 simp only[ho,resolve,invoke,builtin,Sem.run_bind,Sem.run_pure,Result.andThen_ok,List.map_toArray,List.map_cons,List.map_nil,hs,hx,hr]
 exact hK _ _ (h v' w' h2 h3 h5 h4)
structure But (w w':World) (b:Nat) (o:Option Nat):Prop where
 size:w.heap.size≤w'.heap.size
 env:SEnv w w'
 old:∀k,k<w.heap.size→k≠b→some k≠o→w'.heap[k]? = w.heap[k]?
theorem copyCheck_but (L:Lays.n240 P ρ) (X:Builder.X72 P ρ) (b:Nat) (p u:Value) (w:World) (hb:w.heap[b]? = some (.cells #[p,u] (ρ.t 72) (0,0))) (hp:p=.pointer none∨p=.pointer (some ⟨b,0,none⟩)) :
 Calls P (ρ.f 240) #[.pointer (some ⟨b,0,none⟩)] w fun e w'=>e=.returned (.tuple #[])∧w'.heap[b]? = some (.cells #[.pointer (some ⟨b,0,none⟩),u] (ρ.t 72) (0,0))∧But w w' b none∧w'.heap.size=w.heap.size:=by
 have c0:w.cell? ⟨b,0,none⟩ = some p:=by rw[Lib.cell_of_heap hb];rfl
 rcases hp with rfl|rfl
 ·refine (Any.Builder_copyCheck_fresh L X b w c0 (by simp[World.shape?,hb]) (Lib.frozen_of_heap hb 0)).mono ?_
  rintro e w' ⟨rfl,rfl⟩
  refine ⟨rfl,by simp[World.setCell,Array.getElem?_modify,hb],⟨by simp[World.setCell],⟨rfl,rfl⟩,fun k _ hk _=>Below.heap_setCell _ _ _ _ fun e=>hk (by simp[e])⟩,by simp[World.setCell]⟩
 ·refine (Any.Builder_copyCheck_used L X b w c0).mono ?_
  rintro e w' ⟨rfl,rfl⟩
  exact ⟨rfl,hb,⟨Nat.le_refl _,⟨rfl,rfl⟩,fun _ _ _ _=>rfl⟩,rfl⟩
set_option maxHeartbeats 2000000 in
set_option maxRecDepth 100000 in
theorem writeString_but (L:Lays.n166 P ρ) (X:Builder.Extra P ρ) (b:Nat) (p u:Value) (n:Nat) (bs:List Value) (s:ByteArray) (w:World) (hb:w.heap[b]? = some (.cells #[p,u] (ρ.t 72) (0,0))) (hp:p=.pointer none∨p=.pointer (some ⟨b,0,none⟩))
 (hown:w.ownsRow 0 (ρ.t 5) 1 u n bs) (hlen:n+s.size≤140737488355328) :
 Calls P (ρ.f 166) #[.pointer (some ⟨b,0,none⟩),.string s] w fun e w'=>e=.returned (.tuple #[.int .i64 s.size,.nilIface])∧
  ∃u',w'.heap[b]? = some (.cells #[.pointer (some ⟨b,0,none⟩),u'] (ρ.t 72) (0,0))∧w'.ownsRow 0 (ρ.t 5) 1 u' (n+s.size) (bs++Lib.strCells s)∧But w w' b u'.ownBlock∧(u'.ownBlock=none∨u'.ownBlock=u.ownBlock∨u'.ownBlock=some w.heap.size)∧(u'=.slice none 0 0↔u=.slice none 0 0∧s.size=0):=by
 obtain ⟨i0,hi,hz0,hz1,hz2⟩:=info_parts X.infoByte
 have hne:u.ownBlock≠some b:=Lib.ownBlock_ne hown hb X.neB5
 have mixed:=L.mixed
 have t72:=L.t72;have a72:=L.a72;have z72:=L.z72;have v72:=L.v72;have u72:=run_underlying L.t72
 have t70:=L.t70;have a70:=L.a70;have z70:=L.z70;have v70:=L.v70;have u70:=run_underlying L.t70
 have t37:=L.t37;have a37:=L.a37;have z37:=L.z37;have v37:=L.v37;have u37:=run_underlying L.t37
 have t3:=L.t3;have a3:=L.a3;have z3:=L.z3;have v3:=L.v3;have u3:=run_underlying L.t3
 have t9:=L.t9;have a9:=L.a9;have z9:=L.z9;have v9:=L.v9;have u9:=run_underlying L.t9
 have t4:=L.t4;have a4:=L.a4;have z4:=L.z4;have v4:=L.v4;have u4:=run_underlying L.t4
 have t164:=L.t164;have a164:=L.a164;have z164:=L.z164;have v164:=L.v164;have u164:=run_underlying L.t164
 have t5:=X.t5;have a5:=X.a5;have z5:=X.z5;have v5:=X.v5;have u5:=run_underlying X.t5
 have e240:∀args w,(callFunc (ρ.f 240) args).run P w=.ok (.enter (ρ.f 240) args) w:=enters_of L.f240 (by kernel_rfl) rfl
 go_enter L.f166,Body.n166_ntmps ρ
 go_wp2_with (go_at_fn (ρ.f 240);refine (copyCheck_but { L with } X.toX72 b p u _ hb hp).mono ?_)
 rintro e w1 ⟨rfl,hbk,hb1,hsz1⟩
 have hlt0:b<w.heap.size:=(Array.getElem?_eq_some_iff.1 hb).1
 have hown1:w1.ownsRow 0 (ρ.t 5) 1 u n bs:=by
  rcases hown.2 with ⟨rfl,rfl⟩ | ⟨g,cap,cur,rfl,h0,hg,r⟩
  ·exact ⟨hown.1,.inl ⟨rfl,rfl⟩⟩
  ·refine ⟨hown.1,.inr ⟨g,cap,cur,rfl,h0,?_,r⟩⟩
   rw[hb1.old g (Array.getElem?_eq_some_iff.1 hg).1 (fun e=>hne (by simp[Value.ownBlock,e])) (by simp)];exact hg
 have c0:w1.cell? ⟨b,0,none⟩ = some (.pointer (some ⟨b,0,none⟩)):=by rw[Lib.cell_of_heap hbk];rfl
 have c1:w1.cell? ⟨b,1,none⟩ = some u:=by rw[Lib.cell_of_heap hbk];rfl
 go_wp2_with (at_builtin;refine wpList_append_str _ rfl _ _ (ρ.t 37) (ρ.t 9) rfl 0 (ρ.t 5) i0 L.t37 L.t9 hi hz0 hz1 hz2 _ _ _ rfl hown1 s rfl ?c3 ?c4 ?c5 ?_)
 case c3=>unfold maxLen;omega
 case c4=>omega
 case c5=>omega
 intro v' w2 hown' hgrow hwh hsame hnil
 have hlt:b<w1.heap.size:=by have:=hb1.size;omega
 have hb2:w2.heap[b]? = some (.cells #[.pointer (some ⟨b,0,none⟩),u] (ρ.t 72) (0,0)):=by
  rw[hgrow.block b hlt (fun e=>hne e.symm)]
  exact hbk
 have d0:w2.cell? ⟨b,0,none⟩ = some (.pointer (some ⟨b,0,none⟩)):=by rw[Lib.cell_of_heap hb2];rfl
 have d1:w2.cell? ⟨b,1,none⟩ = some u:=by rw[Lib.cell_of_heap hb2];rfl
 have f1:w2.frozen? ⟨b,1,none⟩ = false:=Lib.frozen_of_heap hb2 1
 obtain ⟨ao,n',cap,rfl⟩ : ∃ao n' cap,v'=.slice ao n' cap:=by
  rcases hown'.2 with ⟨hv,_⟩ | ⟨g,cap,cur,hv,_⟩
  ·exact ⟨_,_,_,hv⟩
  ·exact ⟨_,_,_,hv⟩
 go_wp2
 go_ret2
 have hne':=Lib.ownBlock_ne hown' hb2 X.neB5
 refine ⟨rfl,.slice ao n' cap,by simp[World.setCell,Array.getElem?_modify,hb2],?_,⟨?_,?_,fun k hk hkb hko=>?_⟩,by first|exact hwh|(rw[←hsz1];exact hwh),by first|exact hnil|simpa using hnil⟩
 ·exact hown'.kept (row:=some b) ⟨rfl,rfl,rfl,by simp[World.setCell],fun k _ hk=>Below.heap_setCell _ _ _ _ (fun e=>hk (by simp[e]))⟩ (Or.inr hne')
 ·have:=hgrow.size;simp[World.setCell];omega
 ·exact ⟨(show (w2.setCell _ _).os=w.os from hgrow.os.trans hb1.env.1),(show (w2.setCell _ _).output=w.output from hgrow.output.trans hb1.env.2)⟩
 ·rw[Below.heap_setCell _ _ _ _ (fun e=>hkb (by simp[e])),hsame k hk hko,hb1.old k hk hkb (by simp)]
set_option maxHeartbeats 2000000 in
set_option maxRecDepth 100000 in
theorem string_but (L:Lays.n169 P ρ) (X:Builder.Extra P ρ) (b:Nat) (p u:Value) (l:List UInt8) (w:World) (hb:w.heap[b]? = some (.cells #[p,u] (ρ.t 72) (0,0))) (hown:w.ownsRow 0 (ρ.t 5) 1 u l.length (Lib.byteCells l)) (h0:l≠[]) :
 Calls P (ρ.f 169) #[.pointer (some ⟨b,0,none⟩)] w fun e w'=>e=.returned (.string ⟨l.toArray⟩)∧But w w' b u.ownBlock:=by
 have hl0:l.length≠0:=by simpa using h0
 obtain ⟨g,cap,cur,rfl,hbg,hg,hnc,hcm,hcs,htake⟩ : ∃g cap cur,u=.slice (some ⟨g,0,none⟩) l.length cap∧0≤g∧w.heap[g]? = some (.cells cur (ρ.t 5) (0,0))∧l.length≤cap∧cap≤maxLen∧cur.size=cap*1∧cur.toList.take (l.length*1)=Lib.byteCells l:=by
  rcases hown.2 with ⟨_,hz⟩ | ⟨g,cap,cur,hv,r⟩
  ·exact absurd hz hl0
  ·exact ⟨g,cap,cur,hv,r⟩
 have c1:w.drew.cell? ⟨b,1,none⟩ = some (.slice (some ⟨g,0,none⟩) l.length cap):=by
  have:w.drew.heap[b]? = some (.cells #[p,.slice (some ⟨g,0,none⟩) l.length cap] (ρ.t 72) (0,0)):=hb
  rw[Lib.cell_of_heap this];rfl
 have hSD :(Builtin.unsafeSliceData_ #[(ρ.t 37)] (ρ.t 127) #[.slice (some ⟨g,0,none⟩) l.length cap]).run P w.drew=.ok (.pointer (some ⟨g,0,none⟩)) w.drew:=
  Lib.run_unsafeSliceData_row _ _ _ _ _ _ (by omega)
 have hUS :(Builtin.unsafeString_ #[(ρ.t 127),(ρ.t 3)] (ρ.t 9) #[.pointer (some ⟨g,0,none⟩),.int .i64 l.length]).run P w.drew=.ok (.string ⟨l.toArray⟩) (w.drew.freeze ⟨g,0,none⟩ l.length):=by
  refine Lib.run_unsafeString_row w.drew (ρ.t 127) (ρ.t 3) (ρ.t 9) (ρ.t 5) L.t127 X.cellsByte g cur.size (by have hg':w.drew.heap[g]? = some (.cells cur (ρ.t 5) (0,0)):=hg;simp[World.shape?,hg']) l h0 (by omega) (by unfold maxLen at hcm;omega) ?_
  intro j x hx
  exact hown.cells (g:=g) rfl j (.int .u8 x.toNat) (by simp[Lib.byteCells,hx])
 have hbut:But w (w.drew.freeze ⟨g,0,none⟩ l.length) b (some g):=by
  unfold World.freeze
  rw[if_neg hl0]
  refine ⟨by simp,⟨rfl,rfl⟩,fun k _ _ hk=>?_⟩
  simp only[Array.getElem?_modify]
  rw[if_neg (fun e=>hk (by rw[e]))]
  rfl
 have mixed:=L.mixed
 have t72:=L.t72;have a72:=L.a72;have z72:=L.z72;have v72:=L.v72;have u72:=run_underlying L.t72
 have t70:=L.t70;have a70:=L.a70;have z70:=L.z70;have v70:=L.v70;have u70:=run_underlying L.t70
 have t37:=L.t37;have a37:=L.a37;have z37:=L.z37;have v37:=L.v37;have u37:=run_underlying L.t37
 have t127:=L.t127;have a127:=L.a127;have z127:=L.z127;have v127:=L.v127;have u127:=run_underlying L.t127
 have t3:=L.t3;have a3:=L.a3;have z3:=L.z3;have v3:=L.v3;have u3:=run_underlying L.t3
 have t9:=L.t9;have a9:=L.a9;have z9:=L.z9;have v9:=L.v9;have u9:=run_underlying L.t9
 have t5:=X.t5;have a5:=X.a5;have z5:=X.z5;have v5:=X.v5;have u5:=run_underlying X.t5
 go_enter L.f169,Body.n169_ntmps ρ
 go_wp2
 go_region_o
 all_goals (go_wp2;go_ret;exact ⟨rfl,hbut⟩)
set_option maxHeartbeats 2000000 in
set_option maxRecDepth 100000 in
theorem string_nil (L:Lays.n169 P ρ) (X:Builder.Extra P ρ) (b:Nat) (p:Value) (w:World) (hb:w.heap[b]? = some (.cells #[p,.slice none 0 0] (ρ.t 72) (0,0))) :
 Calls P (ρ.f 169) #[.pointer (some ⟨b,0,none⟩)] w fun e w'=>e=.returned (.string ⟨#[]⟩)∧But w w' b none:=by
 have hUS:=Any.unsafeString_none L X
 have c1:w.drew.cell? ⟨b,1,none⟩ = some (.slice none 0 0):=by
  have:w.drew.heap[b]? = some (.cells #[p,.slice none 0 0] (ρ.t 72) (0,0)):=hb
  rw[Lib.cell_of_heap this];rfl
 have hSD :(Builtin.unsafeSliceData_ #[(ρ.t 37)] (ρ.t 127) #[.slice none 0 0]).run P w.drew=.ok (.pointer none) w.drew:=rfl
 have hbut:But w w.drew b none:=⟨Nat.le_refl _,⟨rfl,rfl⟩,fun _ _ _ _=>rfl⟩
 have mixed:=L.mixed
 have t72:=L.t72;have a72:=L.a72;have z72:=L.z72;have v72:=L.v72;have u72:=run_underlying L.t72
 have t70:=L.t70;have a70:=L.a70;have z70:=L.z70;have v70:=L.v70;have u70:=run_underlying L.t70
 have t37:=L.t37;have a37:=L.a37;have z37:=L.z37;have v37:=L.v37;have u37:=run_underlying L.t37
 have t127:=L.t127;have a127:=L.a127;have z127:=L.z127;have v127:=L.v127;have u127:=run_underlying L.t127
 have t3:=L.t3;have a3:=L.a3;have z3:=L.z3;have v3:=L.v3;have u3:=run_underlying L.t3
 have t9:=L.t9;have a9:=L.a9;have z9:=L.z9;have v9:=L.v9;have u9:=run_underlying L.t9
 have t5:=X.t5;have a5:=X.a5;have z5:=X.z5;have v5:=X.v5;have u5:=run_underlying X.t5
 go_enter L.f169,Body.n169_ntmps ρ
 go_wp2
 go_region_o
 all_goals (go_wp2;go_ret;exact ⟨rfl,hbut⟩)
end
end Go.Cw
end
section
namespace Go.Cw
open Go Go.Proofs Go.RowKit Go.Shelf
def bdO (bs:List UInt8):Option Nat→AObj
 | none=>.dead
 | some s'=>.bby bs s'
@[simp] theorem bdO_none (bs:List UInt8):bdO bs none=.dead:=rfl
@[simp] theorem bdO_some (bs:List UInt8) (s:Nat):bdO bs (some s)=.bby bs s:=rfl
def bdH (r r':Nat) (o:Option Nat) (bs:List UInt8) (s:Nat):List (Nat×AObj):=[(r,.bst o bs.length s),(r',bdO bs o)]
def BdOk (o:Option Nat) (bs:List UInt8):Prop:=o=none↔bs=[]
section
variable {P : Program} {ρ:Ren} {Z:Snap} {μ:Mu} {h:Heap} {g:Nat} {w:World}
theorem Sim.builder (S:Sim Z μ h g w) {r r' s:Nat} {o:Option Nat} {bs:List UInt8} (hr:h r=.bst o bs.length s) (hr':h r'=bdO bs o) :
 s≤g∧∃p u,w.heap[(μ s).blk]? = some (.cells #[p,u] bTy (0,0))∧(p=.pointer none∨p=.pointer (some ⟨(μ s).blk,0,none⟩))∧(BdOk o bs→w.ownsRow 0 yTy 1 u bs.length (Lib.byteCells bs))∧
  (match o with|none=>u=.slice none 0 0|some s'=>s'≤g∧u=.slice (some ⟨(μ s').blk,0,none⟩) bs.length (μ s').size):=by
 have h1:=S.rows r
 rw[hr] at h1
 simp only[ORel] at h1
 obtain ⟨hs,p,u,h2,h3,h4⟩:=h1
 refine ⟨hs,p,u,h2,h3,?_,?_⟩
 ·intro hok
  cases o with
  | none=>
    have hb:=hok.1 rfl
    subst hb
    obtain ⟨_,rfl⟩:=h4
    exact World.ownsRow_nil _ _ _ _
  | some s'=>
    have h5:=S.rows r'
    rw[hr',bdO_some] at h5
    simp only[ORel] at h5
    obtain ⟨_,c,h6,h7,h8,h9,h10⟩:=h5
    obtain ⟨_,rfl⟩:=h4
    refine ⟨by simp[Lib.byteCells],.inr ⟨(μ s').blk,(μ s').size,c,rfl,Nat.zero_le _,h6,by omega,by omega,by omega,?_⟩⟩
    rw[Nat.mul_one,h10];rfl
 ·cases o with
  | none=>exact h4.2
  | some s'=>exact h4
theorem ACalls.writeString (L:Lays.n166 P ρ) (X:Builder.Extra P ρ) (he:Enters P (ρ.f 166)) (hT:ρ.t 72=bTy) (hY:ρ.t 5=yTy) {r r' s:Nat} {o:Option Nat} {bs t:List UInt8} (hne:r≠r') (hok:BdOk o bs) (hlen:bs.length+t.length≤140737488355328)
 {K:AEnd→Heap→Prop} (k:∀o',BdOk o' (bs++t)→K (.ret (.tup [.int .i64 t.length,.nili])) (hpV (bdH r r' o' (bs++t) s))):ACalls P (ρ.f 166) [.ptr r 0 s,.str t] (hpV (bdH r r' o bs s)) K:=by
 refine ⟨he,fun Z μ g w cargs S hl hv=>?_⟩
 obtain ⟨x,y,rfl⟩ : ∃x y,cargs = #[x,y]:=by
  match cargs,hl with
  | ⟨[x,y]⟩,_=>exact ⟨x,y,rfl⟩
 have hx:=(VPre_cons.1 hv).1
 have hy:=(VPre_cons.1 (VPre_cons.1 hv).2).1
 simp only[VRel] at hx hy
 obtain ⟨_,rfl⟩:=hx
 obtain ⟨tb,rfl,rfl⟩:=hy
 have e1:hpV (bdH r r' o bs s) r=.bst o bs.length s:=by simp[bdH,upd_same]
 have e2:hpV (bdH r r' o bs s) r'=bdO bs o:=by simp only[bdH,hpV_cons];rw[upd_ne _ _ (fun e=>hne e.symm),upd_same]
 obtain ⟨hs,p,u,hb,hp,how,hou⟩:=S.builder e1 e2
 have hown:=how hok
 have htl:tb.size=tb.data.toList.length:=Lib.size_eq tb
 rw[←hT] at hb
 rw[←hY] at hown
 refine Calls.mono' (writeString_but L X (μ s).blk p u bs.length (Lib.byteCells bs) tb w hb hp hown (by rw[htl];exact hlen)) ?_
 rintro e w' ⟨rfl,u',hb',hown',hbut,hwh,hnil⟩
 rw[hT] at hb'
 rw[hY] at hown'
 have hcells:Lib.byteCells bs++Lib.strCells tb=Lib.byteCells (bs++tb.data.toList):=by simp[Lib.byteCells,Lib.strCells]
 rw[hcells,htl] at hown'
 rw[hT] at hb
 have hlt:=(Array.getElem?_eq_some_iff.1 hb).1
 have ret:∀{Z':Snap} {μ':Mu} {g':Nat},EndRel Z' μ' g' (.ret (.tup [.int .i64 tb.data.toList.length,.nili])) (.returned (.tuple #[.int .i64 tb.size,.nilIface])):=fun {Z' μ' g'}=>by
  refine ⟨_,?_,rfl⟩
  simp only[VRel]
  refine ⟨_,rfl,rfl,?_⟩
  simp only[VPre,VRel]
  refine ⟨by rw[htl],True.intro,True.intro⟩
 have hst:∀{s₀:Nat},(hpV (bdH r r' o bs s) r').stamp=some s₀→o=some s₀:=fun {s₀} hq=>by
  rw[e2] at hq
  cases o with
  | none=>simp[AObj.stamp] at hq
  | some s'=>simpa[AObj.stamp] using hq
 rcases hown'.2 with ⟨rfl,h0⟩ | ⟨gb,cap,cur,rfl,_,hg,hnc,hcm,hcs,htake⟩
 ·
  obtain ⟨hu,h1⟩:=hnil.1 rfl
  have hoN:o=none:=by
   cases o with
   | none=>rfl
   | some s'=>simp only at hou;rw[hu] at hou;cases hou.2
  subst hoN
  have hbs:bs=[]:=hok.1 rfl
  subst hbs
  have ht:tb.data.toList=[]:=List.eq_nil_of_length_eq_zero (by omega)
  have hk:=k none (by rw[ht];exact ⟨fun _=>rfl,fun _=>rfl⟩)
  obtain ⟨S',t'⟩:=S.put (μ':=μ) (g':=g) (o:=.bst none 0 s) (b₀:=(μ s).blk) (w':=w') r (Ext.refl _ _ _) rfl rfl hbut.size (fun b hb1 hb2=>hbut.old b hb1 hb2 (by simp[Value.ownBlock])) (.inr ⟨s,by rw[e1];rfl,rfl⟩)
   (by simp only[ORel];exact ⟨hs,_,_,hb',.inr rfl,by simp⟩) hbut.env
  refine ⟨Z,μ,g,_,_,hk,ret,?_,?_⟩
  ·have:upd (hpV (bdH r r' none [] s)) r (.bst none 0 s)=hpV (bdH r r' none ([]++tb.data.toList) s):=by
    rw[ht];simp[bdH,hpV_cons,upd_upd]
   rw[←this];exact S'
  ·have:upd (hpV (bdH r r' none [] s)) r (.bst none 0 s)=hpV (bdH r r' none ([]++tb.data.toList) s):=by
    rw[ht];simp[bdH,hpV_cons,upd_upd]
   rw[←this];exact t'
 ·have hcs':cur.size=cap:=by simpa using hcs
  have hlen' :(bs++tb.data.toList).length=bs.length+tb.data.toList.length:=by simp
  have hne2:gb≠(μ s).blk:=by
   intro e
   rw[e,hb'] at hg
   simp only[Option.some.injEq,Obj.cells.injEq] at hg
   exact absurd hg.2.1 (by decide)
  have hnn:bs++tb.data.toList≠[]:=by
   intro e0
   have h1:bs.length+tb.data.toList.length=0:=by rw[←hlen',e0];rfl
   have hbs:bs=[]:=List.eq_nil_of_length_eq_zero (by omega)
   have hoN:=hok.2 hbs
   subst hoN
   have:=hnil.2 ⟨hou,by omega⟩
   cases this
  have hk:=k (some (g+1)) (show BdOk _ _ from ⟨fun e=>absurd e (by simp),fun e=>absurd e hnn⟩)
  obtain ⟨S₁,t₁⟩:=S.put (μ':=Mu.new μ g ⟨gb,cap⟩) (g':=g+1) (o:=.bby (bs++tb.data.toList) (g+1)) (b₀:=gb) (w':=World.putO w' (μ s).blk (.cells #[p,u] bTy (0,0))) r' (Ext.new _) rfl (by rw[Mu.new_blk])
   (by rw[putO_size];exact hbut.size)
   (fun b hb1 hb2=>by
     by_cases hbb:b =(μ s).blk
     ·subst hbb;rw[putO_at hb'];exact hb.symm
     ·rw[putO_other _ hbb];exact hbut.old b hb1 hbb (by simp[Value.ownBlock,hb2]))
   (by
     rcases hwh with h1|h1|h1
     ·simp[Value.ownBlock] at h1
     ·right
      cases o with
      | none=>simp only at hou;rw[hou] at h1;simp[Value.ownBlock] at h1
      | some s'=>
        refine ⟨s',by rw[e2];rfl,?_⟩
        rw[hou.2] at h1
        simpa[Value.ownBlock] using h1.symm
     ·left
      simp[Value.ownBlock] at h1
      omega)
   (by
     simp only[ORel,Mu.new_blk]
     refine ⟨Nat.le_refl _,cur,?_,hcs',by omega,by omega,?_⟩
     ·rw[putO_other _ hne2];exact hg
     ·rw[hlen']
      rw[Nat.mul_one] at htake
      rw[htake];rfl) ⟨hbut.env.1,hbut.env.2⟩
  obtain ⟨S₂,t₂⟩:=S₁.put (μ':=Mu.new μ g ⟨gb,cap⟩) (g':=g+1) (o:=.bst (some (g+1)) (bs++tb.data.toList).length s) (b₀:=(μ s).blk) (w':=w') r (Ext.refl _ _ _) rfl (by show (Mu.new μ g ⟨gb,cap⟩ s).blk=_;rw[Mu.new,upd_ne _ _ (by omega)])
   (by rw[putO_size];exact Nat.le_refl _)
   (fun b hb1 hb2=>by rw[putO_other _ hb2])
   (.inr ⟨s,by rw[upd_ne _ _ hne,e1];rfl,by rw[Mu.new,upd_ne _ _ (by omega)]⟩)
   (by
     simp only[ORel]
     have hμ:Mu.new μ g ⟨gb,cap⟩ s=μ s:=by rw[Mu.new,upd_ne _ _ (by omega)]
     rw[hμ]
     refine ⟨by omega,_,_,hb',.inr rfl,Nat.le_refl _,?_⟩
     rw[Mu.new_blk,hlen']) ⟨rfl,rfl⟩
  have hfin:upd (upd (hpV (bdH r r' o bs s)) r' (.bby (bs++tb.data.toList) (g+1))) r (.bst (some (g+1)) (bs++tb.data.toList).length s)=hpV (bdH r r' (some (g+1)) (bs++tb.data.toList) s):=by
   funext x
   simp only[bdH,hpV_cons,upd,hpV_nil]
   by_cases h1:x=r
   ·simp[h1]
   ·by_cases h2:x=r'
    ·simp[h1,h2]
    ·simp[h1,h2]
  rw[hfin] at S₂ t₂
  exact ⟨Z,_,_,_,_,hk,ret,S₂,t₁.trans t₂⟩
theorem ACalls.builderString (L:Lays.n169 P ρ) (X:Builder.Extra P ρ) (he:Enters P (ρ.f 169)) (hT:ρ.t 72=bTy) (hY:ρ.t 5=yTy) {r r' s:Nat} {o:Option Nat} {bs:List UInt8} (hne:r≠r') (hok:BdOk o bs)
 {K:AEnd→Heap→Prop} (k:K (.ret (.str bs)) nilH):ACalls P (ρ.f 169) [.ptr r 0 s] (hpV (bdH r r' o bs s)) K:=by
 refine ⟨he,fun Z μ g w cargs S hl hv=>?_⟩
 obtain ⟨x,rfl⟩ : ∃x,cargs = #[x]:=by
  match cargs,hl with
  | ⟨[x]⟩,_=>exact ⟨x,rfl⟩
 have hx:=(VPre_cons.1 hv).1
 simp only[VRel] at hx
 obtain ⟨_,rfl⟩:=hx
 have e1:hpV (bdH r r' o bs s) r=.bst o bs.length s:=by simp[bdH,upd_same]
 have e2:hpV (bdH r r' o bs s) r'=bdO bs o:=by simp only[bdH,hpV_cons];rw[upd_ne _ _ (fun e=>hne e.symm),upd_same]
 obtain ⟨hs,p,u,hb,hp,how,hou⟩:=S.builder e1 e2
 have hown:=how hok
 rw[←hT] at hb
 rw[←hY] at hown
 have fin:∀{e:Ending} {w':World} {q:Option Nat},e=.returned (.string ⟨bs.toArray⟩)→But w w' (μ s).blk q→(∀k,q=some k→∃s',(hpV (bdH r r' o bs s) r').stamp=some s'∧(μ s').blk=k)→OutC K Z μ (hpV (bdH r r' o bs s)) g w e w':=by
  rintro e w' q rfl hbut hq
  have old:∀k,k<w.heap.size→(∀r₁ s₁,(hpV (bdH r r' o bs s) r₁).stamp=some s₁→(μ s₁).blk≠k)→w'.heap[k]? = w.heap[k]?:=fun k hk hn=>by
   refine hbut.old k hk (fun e=>hn r s (by rw[e1];rfl) e.symm) (fun e=>?_)
   obtain ⟨s',h1,h2⟩:=hq k e.symm
   exact hn r' s' h1 h2
  refine ⟨Z,μ,g,_,_,k,⟨_,str_of _,rfl⟩,⟨fun r=>by simp[nilH,ORel],fun r₁ r₂ s₁ s₂ h1=>by simp[nilH,AObj.stamp] at h1,fun b c hbz=>?_,fun r₁ s₁ h1=>by simp[nilH,AObj.stamp] at h1⟩,
   ⟨Ext.refl _ _ _,hbut.size,old,fun r₁ s₁ h1=>by simp[nilH,AObj.stamp] at h1,fun _ _ hbz _=>.inl hbz,hbut.env⟩⟩
  obtain ⟨arr,elem,fr,h1,h2⟩:=S.imm b c hbz
  refine ⟨arr,elem,fr,?_,h2⟩
  rw[old b (S.imm_lt hbz) fun r₁ s₁ hs₁ e=>?_];exact h1
  have:=S.sep r₁ s₁ hs₁
  rw[e,hbz] at this
  cases this
 by_cases hbs:bs=[]
 ·subst hbs
  obtain rfl:=hok.2 rfl
  simp only at hou
  subst hou
  exact Calls.mono' (string_nil L X (μ s).blk p w hb) fun e w' ⟨h1,h2⟩=>fin h1 h2 fun k hk=>by cases hk
 ·refine Calls.mono' (string_but L X (μ s).blk p u bs w hb hown hbs) fun e w' ⟨h1,h2⟩=>fin h1 h2 fun k hk=>?_
  cases o with
  | none=>exact absurd (hok.1 rfl) hbs
  | some s'=>
    refine ⟨s',by rw[e2];rfl,?_⟩
    rw[hou.2] at hk
    simpa[Value.ownBlock] using hk
end
end Go.Cw
end
section
namespace Go.Cw
open Go
section
variable (E : Env) (Q:Post) (d:Option Nat) (pc raw fd:Bool) (fa fl:List It) (K:KT) (tm:TM) (df:DF) (h:Heap) (x:Opd)
@[simp] theorem AWy_allocB : AWy E Q .allocB d pc raw fd fa fl K tm df h=MemK E fd (nmOf E.F d) h fun s=>PutX fl K tm df d (.ptr (nmOf E.F d) 0 (s+1)) (upd h (nmOf E.F d) (.bst none 0 (s+1))):=(rfl)
def byA : AVal→Option AVal
 | .str s=>some (.vl s.length (byCells s))
 | _=>none
@[simp] theorem byA_str (s:List UInt8):byA (.str s)=some (.vl s.length (byCells s)):=(rfl)
@[simp] theorem AWy_toBy : AWy E Q (.toBy x) d pc raw fd fa fl K tm df h=MemK E fd (nmOf E.F d) h fun _=>osat (byA (ev tm x)) fun v=>PutX fl K tm df d v h:=by
 show ((fd=true→_)∧∀s:Nat,xsat _ _ _ _ _ _)=_
 congr 1
 apply propext
 constructor
 ·intro k s
  have:=k s
  simp only[xsat,ixe] at this
  unfold byA
  split at this
  ·rename_i s' hs;rw[hs];simpa using this
  ·simp at this
 ·intro k s
  have:=k s
  simp only[xsat,ixe]
  unfold byA at this
  split at this
  ·rename_i s' hs;rw[hs];simpa using this
  ·simp at this
@[simp] theorem byCells_length (s:List UInt8) :(byCells s).length=s.length:=by simp[byCells]
@[simp] theorem byCells_drop (s:List UInt8) (i:Nat) :(byCells s).drop i=byCells (s.drop i):=by simp[byCells]
@[simp] theorem byCells_head (s:List UInt8) :(byCells s).head? = s.head?.map fun x=>.int .u8 x.toNat:=by cases s<;>rfl
end
end Go.Cw
end
