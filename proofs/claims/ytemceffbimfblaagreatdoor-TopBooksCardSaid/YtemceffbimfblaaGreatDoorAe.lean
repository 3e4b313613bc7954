/-
  From contracts to a given statement: no program is named here.
-/
import Derived.Test.YtemceffbimfblaaGreatDoorAd
import Derived.ReadAgain
import Derived.ProofKit
import Derived.OpenShut
import Derived.RowKit3
import Derived.SizedLaws
import Derived.Deep.DeepHandedRow
set_option linter.unusedSectionVars false
set_option linter.unusedSimpArgs false
set_option linter.unusedVariables false
section
namespace Go.Cw
open Go Go.ChangeShapes Go.WideShapes
def rawZ (w:World):Nat→Option (List Value):=fun b=>match w.heap[b]? with
 | some (.cells arr _ _)=>some arr.toList
 | _=>none
theorem gOk_base : GOk (fun b=>(gtab.lookup b).orElse fun _=>if gany.contains b then some [.int .i64 0] else none):=by
 constructor
 ·intro g c h
  simp only[gtab,List.mem_cons,Prod.mk.injEq,List.not_mem_nil,or_false] at h
  rcases h with ⟨rfl,rfl⟩ | ⟨rfl,rfl⟩<;>rfl
 ·intro g h
  simp only[gany,List.mem_singleton] at h
  subst h
  exact ⟨0,rfl⟩
open Classical in
noncomputable def Zof (w:World):Snap:=if h:∃Z:Snap,Z.f=rawZ w then h.choose else ⟨fun b=>(gtab.lookup b).orElse fun _=>if gany.contains b then some [.int .i64 0] else none,gOk_base⟩
theorem Zof_raw {w:World} (hG:GOk (rawZ w)) :(Zof w).f=rawZ w:=by
 unfold Zof
 have h:∃Z:Snap,Z.f=rawZ w:=⟨⟨rawZ w,hG⟩,rfl⟩
 rw[dif_pos h]
 exact h.choose_spec
theorem Zof_cells {w:World} (hG:GOk (rawZ w)) {b:Nat} {arr:Array Value} {t:TypeId} {fr:Nat×Nat} (h:w.heap[b]? = some (.cells arr t fr)):Zof w b=some arr.toList:=by
 show (Zof w).f b=_
 rw[Zof_raw hG]
 simp[rawZ,h]
theorem Sim.all (w:World) (hG:GOk (rawZ w)) (μ:Mu):Sim (Zof w) μ nilH 0 w:=by
 refine ⟨fun r=>by simp[nilH,ORel],fun r r' s s' h=>by simp[nilH,AObj.stamp] at h,fun b c h=>?_,fun r s h=>by simp[nilH,AObj.stamp] at h⟩
 have h :(Zof w).f b=some c:=h
 rw[Zof_raw hG] at h
 unfold rawZ at h
 split at h
 ·rename_i arr t fr hb
  simp only[Option.some.injEq] at h
  exact ⟨arr,t,fr,hb,h⟩
 ·cases h
structure Stays (w w':World):Prop where
 os:w'.os=w.os
 output:w'.output=w.output
 old:∀b,b<w.heap.size→w'.heap[b]? = w.heap[b]?
theorem Tr.stays {Z Z':Snap} {μ μ':Mu} {g g':Nat} {h':Heap} {w w':World} (T:Tr Z μ nilH g w Z' μ' h' g' w'):Stays w w':=
 ⟨T.env.1,T.env.2,fun b hb=>T.frame b hb fun r s h=>by simp[nilH,AObj.stamp] at h⟩
theorem APure.calls {P:Program} {f:FuncId} {args:List AVal} {b:Bool} {w:World} (hG:GOk (rawZ w)) (a:APure P f args (.bool b)) {μ:Mu} {cargs:Array Value} (hl:cargs.size=args.length) (hv:VPre (Zof w) μ 0 args cargs.toList) :
 Calls P f cargs w fun e w'=>e=.returned (.bool b)∧Stays w w':=by
 refine Calls.mono' ((a nilH).2 (Zof w) μ 0 w cargs (Sim.all w hG μ) hl hv) ?_
 rintro e w' ⟨Z',μ',g',ae,h',⟨rfl,rfl⟩,hr,_,T⟩
 simp only[EndRel,VRel] at hr
 obtain ⟨v,rfl,rfl⟩:=hr
 exact ⟨rfl,T.stays⟩
theorem Stays.keptBut {w w':World} (h:Stays w w') (may:MemPlace→Prop):w.keptBut w' may:=by
 refine ⟨h.os,h.output,fun i hi=>?_⟩
 rw[h.old i hi]
 split
 ·rename_i h1 h2
  simp only[h1,Option.some.injEq,Obj.cells.injEq] at h2
  obtain ⟨rfl,rfl,rfl⟩:=h2
  exact ⟨rfl,rfl,rfl,fun _ _=>rfl⟩
 ·rename_i h1 h2
  simp only[h1,Option.some.injEq,Obj.map.injEq] at h2
  obtain ⟨rfl,rfl⟩:=h2
  exact .inr ⟨rfl,rfl⟩
 ·rfl
theorem Stays.frozen {w w':World} (h:Stays w w') {a:Addr} (ha:a.block<w.heap.size):w'.frozen? a=w.frozen? a:=by
 unfold World.frozen?
 rw[h.old _ ha]
theorem Stays.sameAt {w w':World} (h:Stays w w') {p:MemPlace} (hp:p.block<w.heap.size):w.sameAt w' p:=by
 cases p with
 | cell b off=>
   simp only[World.sameAt,World.cell?]
   rw[h.old b hp]
 | map b=>exact h.old b hp
section
variable {H : Type} {enc:TypeId×Value→H} {P:Program} {w w':World} {T:TypeId→Prop}
theorem DataW.Trod.stays {base:Nat} {sp:Nat→Bool} {held:Bool} {t:TypeId} {v:Value} {d:DataW H} {ps:List MemPlace} (hs:∀p∈ps,w.sameAt w' p) (h:DataW.Trod enc P w base sp held t v d ps):DataW.Trod enc P w' base sp held t v d ps:=by
 obtain ⟨n,hn⟩:=h
 exact ⟨n,DataW.trod_carry n _ _ _ hn hs⟩
theorem DataW.TrodAll.stays {base:Nat} {sp:Nat→Bool} {held:Bool} : ∀{ts:List TypeId} {vs:List Value} {ds:List (DataW H)} {ps:List MemPlace},(∀p∈ps,w.sameAt w' p)→DataW.TrodAll enc P w base sp held ts vs ds ps→DataW.TrodAll enc P w' base sp held ts vs ds ps
 | [],[],[],_,_,h=>h
 | _::_,_::_,_::_,_,hs,⟨p,q,h1,h2,e⟩=>⟨p,q,DataW.Trod.stays (fun x hx=>hs x (by rw[e];exact List.mem_append_left _ hx)) h1,DataW.TrodAll.stays (fun x hx=>hs x (by rw[e];exact List.mem_append_right _ hx)) h2,e⟩
theorem law_post {f:Func} {s:ChangeSpec} {fresh handsOn:Bool} {args:Array Value} {ds:List (DataW H)} {before:List MemPlace} {tb:TypeId} (K:Kids P T) (hz:∀t e,T t→P.underlying t=some (.slice e)→0<P.cellsOf e) (hT:∀t∈f.params.toList,T t)
 (hS:Stays w w') (hvars:s.vars=[]) (hres:f.resultTypes = #[tb]) (hb:P.underlying tb=some .bool) (hfn:s.fn H ds = { results:=[.lit (.bool true)],args:=ds })
 (hW:DataW.Whole enc P f.params.toList s.vars false w args.toList ds [] before):s.post enc P f false fresh handsOn false w args (.bool true) w':=by
 have hW':=hW
 obtain ⟨p,q,hA,hV,hpq,hfz,hnd⟩:=hW
 rw[hvars] at hV
 obtain ⟨_,rfl⟩:=trodVars_none hV
 obtain rfl:before=p:=by simpa using hpq
 have hlt:=hW'.lt
 have hsame:∀x∈before,w.sameAt w' x:=fun x hx=>hS.sameAt (hlt x hx)
 have hA':DataW.TrodAll enc P w' 0 (fun _=>true) true f.params.toList args.toList ds before:=DataW.TrodAll.stays hsame hA
 refine ⟨ds,[],before,[],before,[],hW',?_,?_,?_,hS.keptBut _,fun h=>by cases h⟩
 ·rw[List.append_nil,hfn,hres]
  refine ⟨[],[],⟨1,?_⟩,rfl,rfl⟩
  simp[DataW.trod,hb,Value.cells]
 ·rw[List.append_nil,hfn]
  exact DataW.TrodAll.respare K hz hT hA' fun x hx=>by simpa using hlt x hx
 ·rw[hvars,List.append_nil,hfn]
  rfl
end
def Opens (P:Program) (w:World) (μ:Mu) (t:TypeId) (V:List AVal→Prop):Prop:=
 ∀(_:GOk (rawZ w)) (H:Type) (enc:TypeId×Value→H) (sp:Nat→Bool) (held:Bool) (fuel:Nat) (cs:List Value) (x:DataW H×List MemPlace),DataW.trod enc P w 0 sp held fuel t cs=some x→(∀n∈x.1.weights P t,n≤reachBytes)→
  ∃av,V av∧av.length=P.cellsOf t∧cs.length=P.cellsOf t∧VPre (Zof w) μ 0 av cs∧One cs
section
variable {P : Program} {w:World} {μ:Mu} {t e:TypeId} {V V':List AVal→Prop}
theorem Opens.mono (h:Opens P w μ t V) (k:∀av,V av→V' av):Opens P w μ t V':=by
 intro hG H enc sp held fuel cs x hx hw
 obtain ⟨av,h1,h2⟩:=h hG H enc sp held fuel cs x hx hw
 exact ⟨av,k av h1,h2⟩
theorem Opens.int {k:IntKind} (ht:P.underlying t=some (.int k)) (hc:P.cellsOf t=1):Opens P w μ t fun av=>∃n,(Lit.int k n).wf=true∧av=[.int k n]:=by
 intro hG H enc sp held fuel cs x hx hw
 obtain ⟨n,rfl,_,hw⟩:=DataW.trod_int ht hx
 exact ⟨[.int k n],⟨n,hw,rfl⟩,by simp[hc],by simp[hc],by simp[VPre,VRel],by intro v hv;simp at hv;subst hv;rfl⟩
theorem Opens.bool (ht:P.underlying t=some .bool) (hc:P.cellsOf t=1):Opens P w μ t fun av=>∃b,av=[.bool b]:=by
 intro hG H enc sp held fuel cs x hx hw
 cases fuel with
 | zero=>simp[DataW.trod] at hx
 | succ n=>
   unfold DataW.trod at hx
   rw[ht] at hx
   split at hx<;>first|(cases hx;done)|(rename_i h1;cases h1;done)|skip
   rename_i b _
   exact ⟨[.bool b],⟨b,rfl⟩,by simp[hc],by simp[hc],by simp[VPre,VRel],by intro v hv;simp at hv;subst hv;rfl⟩
theorem Opens.string (ht:P.underlying t=some .string) (hc:P.cellsOf t=1):Opens P w μ t fun av=>∃s:List UInt8,s.length≤maxLen∧av=[.str s]:=by
 intro hG H enc sp held fuel cs x hx hw
 cases fuel with
 | zero=>simp[DataW.trod] at hx
 | succ n=>
   unfold DataW.trod at hx
   rw[ht] at hx
   split at hx<;>simp_all
   rename_i s
   obtain ⟨hs,_⟩:=hx
   exact ⟨[.str s.data.toList],⟨s.data.toList,by simpa using hs,rfl⟩,rfl,by simp[VPre,VRel],by intro v hv;simp at hv;subst hv;rfl⟩
def All2 : List (List AVal→Prop)→List (List AVal)→Prop
 | [],[]=>True
 | V::Vs,a::av=>V a∧All2 Vs av
 | _,_=>False
@[simp] theorem All2_nil (av:List (List AVal)):All2 [] av↔av=[]:=by cases av<;>simp[All2]
@[simp] theorem All2_cons (V:List AVal→Prop) (Vs:List (List AVal→Prop)) (av:List (List AVal)):All2 (V::Vs) av↔∃a r,av=a::r∧V a∧All2 Vs r:=by
 cases av with
 | nil=>simp[All2]
 | cons a r=>
   show V a∧All2 Vs r↔_
   constructor
   ·rintro ⟨h1,h2⟩;exact ⟨a,r,rfl,h1,h2⟩
   ·rintro ⟨a',r',h,h1,h2⟩;cases h;exact ⟨h1,h2⟩
theorem All2.two {V W:List AVal→Prop} {l:List (List AVal)} (h:All2 [V,W] l):∃a b,l=[a,b]∧V a∧W b:=by
 obtain ⟨a,r,rfl,h1,h⟩:=(All2_cons _ _ _).1 h
 obtain ⟨b,r,rfl,h2,h⟩:=(All2_cons _ _ _).1 h
 obtain rfl:=(All2_nil _).1 h
 exact ⟨a,b,rfl,h1,h2⟩
theorem All2.three {V W X:List AVal→Prop} {l:List (List AVal)} (h:All2 [V,W,X] l):∃a b c,l=[a,b,c]∧V a∧W b∧X c:=by
 obtain ⟨a,r,rfl,h1,h⟩:=(All2_cons _ _ _).1 h
 obtain ⟨b,c,rfl,h2,h3⟩:=All2.two h
 exact ⟨a,b,c,rfl,h1,h2,h3⟩
theorem All2.four {V W X Y:List AVal→Prop} {l:List (List AVal)} (h:All2 [V,W,X,Y] l):∃a b c d,l=[a,b,c,d]∧V a∧W b∧X c∧Y d:=by
 obtain ⟨a,r,rfl,h1,h⟩:=(All2_cons _ _ _).1 h
 obtain ⟨b,c,d,rfl,h2,h3⟩:=All2.three h
 exact ⟨a,b,c,d,rfl,h1,h2,h3⟩
def OpensL (P:Program) (w:World) (μ:Mu):List Field→List (List AVal→Prop)→Nat→Prop
 | [],[],_=>True
 | f::fs,V::Vs,off=>f.offset=off∧Opens P w μ f.type V∧OpensL P w μ fs Vs (off+P.cellsOf f.type)
 | _,_,_=>False
theorem One.split {l:List Value} {k:Nat} (h:One (l.take k)) (h':One (l.drop k)):One l:=by
 rw[←List.take_append_drop k l];exact h.append h'
theorem opens_fields (hG:GOk (rawZ w)) {H:Type} {enc:TypeId×Value→H} {sp:Nat→Bool} {held:Bool} {n:Nat} {cs:List Value} : ∀{fs:List Field} {Vs:List (List AVal→Prop)} {off:Nat},OpensL P w μ fs Vs off→
 (∀(i:Nat) (f:Field),fs[i]? = some f→∃y,DataW.trod enc P w 0 sp held n f.type ((cs.drop f.offset).take (P.cellsOf f.type))=some y∧∀m∈y.1.weights P f.type,m≤reachBytes)→cs.length=off+(fs.map fun f=>P.cellsOf f.type).sum→
 ∃ass,All2 Vs ass∧ass.flatten.length =(fs.map fun f=>P.cellsOf f.type).sum∧VPre (Zof w) μ 0 ass.flatten (cs.drop off)∧One (cs.drop off)
 | [],[],off,_,_,hl=>⟨[],by simp,by simp,by simp[VPre],by
    simp only[List.map_nil,List.sum_nil,Nat.add_zero] at hl
    rw[List.drop_of_length_le (by omega)]
    intro v hv;cases hv⟩
 | [],_::_,_,h,_,_=>h.elim
 | _::_,[],_,h,_,_=>h.elim
 | f::fs,V::Vs,off,h,hx,hl=>by
   obtain ⟨rfl,ho,hr⟩:=h
   simp only[List.map_cons,List.sum_cons] at hl
   obtain ⟨y,hy,hyw⟩:=hx 0 f rfl
   obtain ⟨av,h1,h2,h3,h4,h5⟩:=ho hG H enc sp held n _ y hy hyw
   obtain ⟨ass,k1,k2,k3,k4⟩:=opens_fields hG hr (fun i f' hi=>hx (i+1) f' (by simpa using hi)) (by omega)
   have hd:cs.drop (f.offset+P.cellsOf f.type) =(cs.drop f.offset).drop (P.cellsOf f.type):=by rw[List.drop_drop]
   rw[hd] at k3 k4
   refine ⟨av::ass,⟨h1,k1⟩,by simp only[List.flatten_cons,List.length_append,List.map_cons,List.sum_cons,h2,k2],?_,One.split h5 k4⟩
   rw[List.flatten_cons,←List.take_append_drop (P.cellsOf f.type) (cs.drop f.offset)]
   exact h4.append (by rw[h3,h2]) k3
theorem Opens.struct {fs:Array Field} {Vs:List (List AVal→Prop)} (ht:P.underlying t=some (.struct fs)) (hc:P.cellsOf t =(fs.toList.map fun f=>P.cellsOf f.type).sum) (h:OpensL P w μ fs.toList Vs 0) :
 Opens P w μ t fun av=>∃ass,All2 Vs ass∧av=ass.flatten:=by
 intro hG H enc sp held fuel cs x hx hw
 obtain ⟨xs,n,_,rfl,hl,hlen,hf⟩:=DataW.trod_struct ht hx
 obtain ⟨ass,h1,h2,h3,h4⟩:=opens_fields hG (enc:=enc) (sp:=sp) (held:=held) (n:=n) (cs:=cs) h (fun i f hi=>by
  have hi':fs[i]? = some f:=by simpa using hi
  have hlt:i<xs.length:=by rw[hlen];exact (Array.getElem?_eq_some_iff.1 hi').1
  refine ⟨xs[i],by rw[hf i f hi'];exact List.getElem?_eq_getElem hlt,fun m hm=>hw m ?_⟩
  simp only[DataW.weights,ht]
  exact DataW.weights_mem_each (j:=i) (t:=f.type) (d:=xs[i].1) (by simp[hi']) (by simp[List.getElem?_eq_getElem hlt]) m hm) (by rw[hl,hc];simp)
 exact ⟨ass.flatten,⟨ass,h1,rfl⟩,by rw[h2,hc],hl,by simpa using h3,by simpa using h4⟩
theorem weights_all {H:Type} {d:DataW H} {m:Nat} : ∀{ds:List (DataW H)},d∈ds→m∈d.weights P e→m∈DataW.weightsAll P e ds
 | [],h,_=>by cases h
 | x::ds,h,hm=>by
   simp only[DataW.weightsAll,List.mem_append]
   rcases List.mem_cons.1 h with rfl|h
   ·exact .inl hm
   ·exact .inr (weights_all h hm)
theorem opens_elems (hG:GOk (rawZ w)) {H:Type} {enc:TypeId×Value→H} {sp:Nat→Bool} {held:Bool} {n k:Nat} {cs:List Value} (ho:Opens P w μ e V):∀(m:Nat),
 (∀i,i<m→∃y,DataW.trod enc P w 0 sp held n e ((cs.drop (k+i*P.cellsOf e)).take (P.cellsOf e))=some y∧∀m∈y.1.weights P e,m≤reachBytes)→
 ∃ass:List (List AVal),ass.length=m∧(∀a∈ass,V a)∧ass.flatten.length=m*P.cellsOf e∧VPre (Zof w) μ 0 ass.flatten (cs.drop k)∧One ((cs.drop k).take (m*P.cellsOf e))
 | 0,_=>⟨[],rfl,by simp,by simp,by simp[VPre],by intro v hv;simp at hv⟩
 | m+1,hx=>by
   obtain ⟨ass,h1,h2,h3,h4,h5⟩:=opens_elems hG ho m fun i hi=>hx i (by omega)
   obtain ⟨y,hy,hyw⟩:=hx m (by omega)
   obtain ⟨av,k1,k2,k3,k4,k5⟩:=ho hG H enc sp held n _ y hy hyw
   have hlen:k+m*P.cellsOf e+P.cellsOf e≤cs.length∨P.cellsOf e=0:=by
    simp only[List.length_take,List.length_drop] at k3
    omega
   have hm :(m+1)*P.cellsOf e=m*P.cellsOf e+P.cellsOf e:=by rw[Nat.add_mul,Nat.one_mul]
   have e1 :(cs.drop k).take ((m+1)*P.cellsOf e) =(cs.drop k).take (m*P.cellsOf e)++((cs.drop (k+m*P.cellsOf e)).take (P.cellsOf e)):=by
    rw[hm,List.take_add,List.drop_drop]
   refine ⟨ass++[av],by simp[h1],by simpa[or_imp,forall_and] using ⟨h2,k1⟩,by simp only[List.flatten_append,List.length_append,h3,List.flatten_cons,List.flatten_nil,List.append_nil,k2,hm],?_,?_⟩
   ·have e2:cs.drop k =((cs.drop k).take (m*P.cellsOf e))++(((cs.drop (k+m*P.cellsOf e)).take (P.cellsOf e))++cs.drop (k+(m+1)*P.cellsOf e)):=by
     rw[←List.append_assoc,←e1,←List.drop_drop (i:=(m+1)*P.cellsOf e) (j:=k)]
     exact (List.take_append_drop _ _).symm
    rw[e2,List.flatten_append]
    refine VPre.append ?_ ?_ ?_
    ·have:=h4.take (m*P.cellsOf e)
     rwa [List.take_of_length_le (by omega)] at this
    ·simp only[List.length_take,List.length_drop,h3]
     rcases hlen with hl|hl
     ·omega
     ·rw[hl];omega
    ·simp only[List.flatten_cons,List.flatten_nil,List.append_nil]
     exact k4.more _
   ·rw[e1]
    exact h5.append k5
theorem Opens.array {n:Nat} (ht:P.underlying t=some (.array n e)) (hc:P.cellsOf t=n*P.cellsOf e) (h:Opens P w μ e V):Opens P w μ t fun av=>∃ass:List (List AVal),ass.length=n∧(∀a∈ass,V a)∧av=ass.flatten:=by
 intro hG H enc sp held fuel cs x hx hw
 obtain ⟨xs,m,_,rfl,hl,hlen,hf⟩:=DataW.trod_array ht hx
 obtain ⟨ass,h1,h2,h3,h4,h5⟩:=opens_elems hG (k:=0) h n fun i hi=>⟨xs[i]'(by omega),by rw[Nat.zero_add,hf i hi];exact List.getElem?_eq_getElem _,fun m hm=>hw m (by
  simp only[DataW.weights,ht]
  exact weights_all (d:=(xs[i]'(by omega)).1) (List.mem_map.2 ⟨_,List.getElem_mem _,rfl⟩) hm)⟩
 refine ⟨ass.flatten,⟨ass,h1,h2,rfl⟩,by rw[h3,hc],hl,by simpa using h4,?_⟩
 rw[List.drop_zero,List.take_of_length_le (by rw[hl,hc];exact Nat.le_refl _)] at h5
 exact h5
theorem cells?_drop {b off k m:Nat} {arr:Array Value} {te:TypeId} {fr:Nat×Nat} {cs:List Value} (hb:w.heap[b]? = some (.cells arr te fr)) (h:w.cells? 0 ((⟨b,off,none⟩ : Addr).add k) m=some cs):cs =(arr.toList.drop (off+k)).take m:=by
 rw[add_plain] at h
 unfold World.cells? at h
 rw[if_pos (Nat.zero_le _)] at h
 have hl:cs.length=m:=by simpa using mapM_some_length h
 apply List.ext_getElem?
 intro i
 by_cases hi:i<m
 ·have h1:=mapM_some_get h i i (by simp[hi])
  have h2:w.cell? ((⟨b,off+k,none⟩ : Addr).add i)=arr[off+k+i]?:=by
   rw[add_plain];simp[World.cell?,hb]
  rw[h2] at h1
  rw[List.getElem?_take,if_pos hi,List.getElem?_drop,←h1]
  simp
 ·rw[List.getElem?_eq_none (by omega),List.getElem?_take,if_neg hi]
theorem Opens.sliceW (ht:P.underlying t=some (.slice e)) (hc:P.cellsOf t=1) (hp:0<P.cellsOf e) (h:Opens P w μ e V):Opens P w μ t fun av=>∃ass:List (List AVal),(ass.length≤maxLen∧ass.length*P.bytesOf e≤reachBytes)∧(∀a∈ass,V a)∧av=[.vl ass.length ass.flatten]:=by
 intro hG H enc sp held fuel cs x hx hw
 rcases DataW.trod_slice ht hx with ⟨rfl,_⟩ | ⟨a,len,cap,elems,rest,n,_,rfl,rfl,_,hle,hmax,hel,hread,_,_⟩
 ·refine ⟨[.vl 0 []],⟨[],by simp,by simp,rfl⟩,by simp[hc],by simp[hc],?_,by intro v hv;simp at hv;subst hv;rfl⟩
  simp only[VPre,VRel,and_true]
  exact ⟨none,0,rfl,Nat.le_refl _,by simp⟩
 ·cases len with
  | zero=>
    refine ⟨[.vl 0 []],⟨[],by simp,by simp,rfl⟩,by simp[hc],by simp[hc],?_,by intro v hv;simp at hv;subst hv;rfl⟩
    simp only[VPre,VRel,and_true]
    exact ⟨some a,cap,rfl,hle,by simp⟩
  | succ len=>
    simp only[DataW.weights,ht,List.length_map] at hw
    have hall:∀i,i<len+1→∃y,(w.cells? 0 (a.add (i*P.cellsOf e)) (P.cellsOf e)).bind (DataW.trod enc P w 0 sp held n e)=some y∧∀m∈y.1.weights P e,m≤reachBytes:=fun i hi=>
     ⟨elems[i]'(by omega),by rw[hread i hi];exact List.getElem?_eq_getElem _,fun m hm=>hw m (by
      simp only[List.mem_cons,List.mem_append]
      exact .inr (.inl (weights_all (d:=(elems[i]'(by omega)).1) (List.mem_map.2 ⟨_,List.getElem_mem _,rfl⟩) hm)))⟩
    have hroom :(len+1)*P.bytesOf e≤reachBytes:=by
     have h1:=hw _ (List.mem_cons_self ..)
     have h2 :(len+1)*P.bytesOf e≤(elems.length+rest.length)*P.bytesOf e:=Nat.mul_le_mul_right _ (by omega)
     omega
    obtain ⟨y0,hy0,_⟩:=hall 0 (by omega)
    rw[Option.bind_eq_some_iff] at hy0
    obtain ⟨c0,hc0,_⟩:=hy0
    have hcell:∃v,w.cell? a=some v:=by
     unfold World.cells? at hc0
     rw[if_pos (Nat.zero_le _)] at hc0
     have hl0:c0.length=P.cellsOf e:=by simpa using mapM_some_length hc0
     have:=mapM_some_get hc0 0 0 (by simp[hp])
     rw[List.getElem?_eq_getElem (by omega)] at this
     exact ⟨_,by simpa[Addr.add] using this⟩
    obtain ⟨v0,hv0⟩:=hcell
    have hspot:=World.cell?_spot hv0
    obtain ⟨b,off,spot⟩:=a
    simp only at hspot
    subst hspot
    have hblk:∃arr te fr,w.heap[b]? = some (.cells arr te fr):=by
     unfold World.cell? at hv0
     split at hv0
     ·rename_i c1 _ _ hb;exact ⟨_,_,_,hb⟩
     ·cases hv0
    obtain ⟨arr,te,fr,hb⟩:=hblk
    obtain ⟨ass,h1,h2,h3,h4,h5⟩:=opens_elems hG (cs:=arr.toList) (k:=off) (n:=n) (enc:=enc) (sp:=sp) (held:=held) h (len+1) fun i hi=>by
     obtain ⟨y,hy,hyw⟩:=hall i hi
     rw[Option.bind_eq_some_iff] at hy
     obtain ⟨ci,hci,hy⟩:=hy
     rw[cells?_drop hb hci] at hy
     exact ⟨y,hy,hyw⟩
    refine ⟨[.vl ass.length ass.flatten],⟨ass,⟨by omega,by rw[h1];exact hroom⟩,h2,rfl⟩,by simp[hc],by simp[hc],?_,by intro v hv;simp at hv;subst hv;rfl⟩
    simp only[VPre,VRel,and_true]
    refine ⟨some ⟨b,off,none⟩,cap,by rw[h1],by omega,.inr ⟨b,off,arr.toList,rfl,Zof_cells hG hb,h4,?_⟩⟩
    rw[h3];exact h5
theorem Opens.slice (ht:P.underlying t=some (.slice e)) (hc:P.cellsOf t=1) (hp:0<P.cellsOf e) (h:Opens P w μ e V):Opens P w μ t fun av=>∃ass:List (List AVal),ass.length≤maxLen∧(∀a∈ass,V a)∧av=[.vl ass.length ass.flatten]:=
 (Opens.sliceW ht hc hp h).mono fun _ ⟨ass,h1,h2,h3⟩=>⟨ass,h1.1,h2,h3⟩
theorem Opens.arg (hG:GOk (rawZ w)) {H:Type} {enc:TypeId×Value→H} {sp:Nat→Bool} {held:Bool} {v:Value} {d:DataW H} {ps:List MemPlace} (h:Opens P w μ t V) (hc:P.cellsOf t=1) (hx:DataW.Trod enc P w 0 sp held t v d ps) (hw:∀n∈d.weights P t,n≤reachBytes) (hv:∀cs,v≠.agg cs) :
 ∃a,V [a]∧VRel (Zof w) μ 0 a v:=by
 obtain ⟨n,hn⟩:=hx
 obtain ⟨av,h1,h2,h3,h4,h5⟩:=h hG H enc sp held n _ _ hn hw
 have hcs:v.cells.toList=[v]:=by
  cases v<;>first|rfl|exact absurd rfl (hv _)
 rw[hcs] at h4
 match av,h2,h4 with
 | [a],_,h4=>exact ⟨a,h1,by simpa[VPre] using h4⟩
 | [],h2,_=>simp[hc] at h2
 | _::_::_,h2,_=>simp[hc] at h2
theorem Opens.argS (hG:GOk (rawZ w)) {H:Type} {enc:TypeId×Value→H} {sp:Nat→Bool} {held:Bool} {cs:Array Value} {d:DataW H} {ps:List MemPlace} (h:Opens P w μ t V) (hx:DataW.Trod enc P w 0 sp held t (.agg cs) d ps) (hw:∀n∈d.weights P t,n≤reachBytes) :
 ∃av,V av∧VRel (Zof w) μ 0 (.agg av) (.agg cs):=by
 obtain ⟨n,hn⟩:=hx
 obtain ⟨av,h1,h2,h3,h4,h5⟩:=h hG H enc sp held n _ _ hn hw
 refine ⟨av,h1,?_⟩
 simp only[VRel]
 have h3':cs.size=P.cellsOf t:=by simpa[Value.cells] using h3
 exact ⟨cs,rfl,by rw[h2,h3'],by simpa[Value.cells] using h4,by simpa[Value.cells] using h5⟩
end
inductive OpensA (P:Program) (w:World) (μ:Mu):List TypeId→(List AVal→Prop)→Prop where
 | nil {X:List AVal→Prop} (h:X []):OpensA P w μ [] X
 | cell {t:TypeId} {ts:List TypeId} {V:List AVal→Prop} {X:List AVal→Prop} (ho:Opens P w μ t V) (hc:P.cellsOf t=1) (hs:∀fs,P.underlying t≠some (.struct fs)) (ha:∀n e,P.underlying t≠some (.array n e)) (r:∀a,V [a]→OpensA P w μ ts fun av=>X (a::av)):OpensA P w μ (t::ts) X
 | struct {t:TypeId} {ts:List TypeId} {V:List AVal→Prop} {X:List AVal→Prop} {fs:Array Field} (ho:Opens P w μ t V) (hs:P.underlying t=some (.struct fs)) (r:∀av,V av→OpensA P w μ ts fun bs=>X (.agg av::bs)):OpensA P w μ (t::ts) X
theorem okWide_cell {P:Program} {w:World} {base:Nat} {t:TypeId} {cs:Array Value} (hs:∀fs,P.underlying t≠some (.struct fs)) (ha:∀n e,P.underlying t≠some (.array n e)) (h:Value.okWide P w .any base t (.agg cs)):False:=by
 unfold Value.okWide at h
 split at h
 ·rename_i h1;exact hs _ h1
 ·rename_i h1;exact ha _ _ h1
 ·unfold Cell.okWide at h
  split at h<;>first|(exact h.elim)|skip
  all_goals first|(unfold Cell.ok at h;split at h<;>simp_all;done)|skip
  all_goals simp_all
theorem OpensA.args {P:Program} {w:World} (hG:GOk (rawZ w)) {H:Type} {enc:TypeId×Value→H} {μ:Mu} {base:Nat} {sp:Nat→Bool} {held:Bool} : ∀{ts:List TypeId} {X:List AVal→Prop},OpensA P w μ ts X→∀{vs:List Value} {ds:List (DataW H)} {ps:List MemPlace},
 DataW.TrodAll enc P w 0 sp held ts vs ds ps→(∀n∈DataW.weightsEach P ts ds,n≤reachBytes)→(∀(j:Nat) t v,ts[j]? = some t→vs[j]? = some v→Value.okWide P w .any base t v)→∃av,X av∧av.length=vs.length∧VPre (Zof w) μ 0 av vs:=by
 intro ts X h
 induction h with
 | nil hx=>
   intro vs ds ps hA _ _
   obtain ⟨rfl,rfl,rfl⟩:=trodAll_nil hA
   exact ⟨[],hx,rfl,by simp[VPre]⟩
 | cell ho hc hs ha r ih=>
   intro vs ds ps hA hw hk
   obtain ⟨v,vs,d,ds,p,q,rfl,rfl,rfl,h1,h2⟩:=trodAll_cons hA
   obtain ⟨a,hV,hr⟩:=ho.arg hG hc h1 (fun n hn=>hw n (by simp only[DataW.weightsEach,List.mem_append];exact .inl hn)) fun cs e=>okWide_cell hs ha (by rw[←e];exact hk 0 _ _ rfl rfl)
   obtain ⟨av,hX,hl,hv⟩:=ih a hV h2 (fun n hn=>hw n (by simp only[DataW.weightsEach,List.mem_append];exact .inr hn)) fun j t v ht hv=>hk (j+1) t v (by simpa using ht) (by simpa using hv)
   exact ⟨a::av,hX,by simp[hl],by simpa[VPre] using ⟨hr,hv⟩⟩
 | struct ho hs r ih=>
   intro vs ds ps hA hw hk
   obtain ⟨v,vs,d,ds,p,q,rfl,rfl,rfl,h1,h2⟩:=trodAll_cons hA
   obtain ⟨cs,rfl,_⟩:=okWide_struct hs (hk 0 _ _ rfl rfl)
   obtain ⟨as₀,hV,hr⟩:=ho.argS hG h1 fun n hn=>hw n (by simp only[DataW.weightsEach,List.mem_append];exact .inl hn)
   obtain ⟨av,hX,hl,hv⟩:=ih as₀ hV h2 (fun n hn=>hw n (by simp only[DataW.weightsEach,List.mem_append];exact .inr hn)) fun j t v ht hv=>hk (j+1) t v (by simpa using ht) (by simpa using hv)
   exact ⟨.agg as₀::av,hX,by simp[hl],by simpa[VPre] using ⟨hr,hv⟩⟩
theorem weightsEach_left {H:Type} {P:Program} {n:Nat} : ∀{ts ts':List TypeId} {ds ds':List (DataW H)},n∈DataW.weightsEach P ts ds→n∈DataW.weightsEach P (ts++ts') (ds++ds')
 | [],_,_,_,h=>by simp[DataW.weightsEach] at h
 | _::_,_,[],_,h=>by simp[DataW.weightsEach] at h
 | t::ts,ts',d::ds,ds',h=>by
   simp only[List.cons_append,DataW.weightsEach,List.mem_append] at h ⊢
   exact h.imp id weightsEach_left
theorem law_lifted {C:Checked} {f:FuncId} {fn:Func} {s:ChangeSpec} {fresh handsOn:Bool} {tb:TypeId} {T:TypeId→Prop} {os:Os} (started:os.Started) {H:Type} {enc:TypeId×Value→H} {F:Stop.Interp} {laid:List (String×DataW Unit)}
 (own:ownKnob C.prog.godebug=none) (noInit:C.prog.inits.idxOf? f=none) (hfn:C.prog.funcs[f]? = some fn)
 (witness:∃(w:World) (tape:Tape) (i:Input),w.os=os∧(w.forCall tape i).Shaped C.prog∧i.vars=[]∧Input.okWide C.prog (w.forCall tape i) .any w.heap.size f i∧
   (OpenSpec.ofChange s).preRow enc C.prog fn [] false laid (w.forCall tape i).memory i.args∧({} : Assume).holds C.prog (lone (Frame.enter C.prog f i.args .normal) [] (w.forCall tape i)))
 (K:Kids C.prog T) (hz:∀t e,T t→C.prog.underlying t=some (.slice e)→0<C.prog.cellsOf e) (hT:∀t∈fn.params.toList,T t)
 (hvars:s.vars=[]) (hres:fn.resultTypes = #[tb]) (hb:C.prog.underlying tb=some .bool) (hspec:∀ds:List (DataW H),ds.length=fn.params.size→s.fn H ds = { results:=[.lit (.bool true)],args:=ds })
 (gok:∀W:World,laidMetH C.prog laid W→W.ShapedOpen C.prog→GOk (rawZ W))
 (law:∀(w:World),OpensA C.prog w (fun _=>⟨0,0⟩) fn.params.toList fun av=>APure C.prog f av (.bool true)) :
 ReturnsInHanded {} C os f .any ((OpenSpec.ofChange s).preRow enc C.prog fn [] false laid) (((OpenSpec.ofChange s).at F).post enc C.prog fn false fresh handsOn false):=by
 refine returnsInHanded_of_row (s:=OpenSpec.ofChange s) own started noInit hfn witness ?_
 intro W base args ds gs before hval hW _ _ hsz hL hsh _
 have hG:=gok W hL hsh
 have hW':=hW
 obtain ⟨p,q,hA,hV,hpq,hfz,hnd⟩:=hW
 have hV':=hV
 have hvars' :(OpenSpec.ofChange s).vars=[]:=hvars
 rw[hvars'] at hV'
 obtain ⟨rfl,rfl⟩:=trodVars_none hV'
 have hlen:∀{ts:List TypeId} {vs:List Value} {ds:List (DataW H)} {ps:List MemPlace},DataW.TrodAll enc C.prog W 0 (fun _=>true) true ts vs ds ps→ds.length=ts.length:=by
  intro ts
  induction ts with
  | nil=>intro vs ds ps h;obtain ⟨_,rfl,_⟩:=trodAll_nil h;rfl
  | cons t ts ih=>intro vs ds ps h;obtain ⟨_,_,_,_,_,_,_,rfl,_,_,h2⟩:=trodAll_cons h;simp[ih h2]
 have hsz':∀n∈DataW.weightsEach C.prog fn.params.toList ds,n≤reachBytes:=by
  intro n hn
  have:=List.all_eq_true.1 hsz n (weightsEach_left hn)
  simpa using this
 obtain ⟨av,ha,hl,hv⟩:=(law W).args hG hA hsz' fun j t v ht hv=>hval j t v (by simpa using ht) (by simpa using hv)
 refine Calls.mono' (ha.calls hG (by simpa using hl.symm) hv) ?_
 rintro e W' ⟨rfl,hS⟩
 refine ⟨_,rfl,law_post (s:=(OpenSpec.ofChange s).at F) K hz hT hS hvars hres hb (hspec ds ?_) hW'⟩
 have:=hlen hA
 simpa using this
end Go.Cw
end
section
namespace Go.Cw
open Go
def intsK (k:IntKind) (l:List Int):List AVal:=l.map (.int k)
theorem flat_intsK {k:IntKind} : ∀{ass:List (List AVal)},(∀a∈ass,∃n,(Lit.int k n).wf=true∧a=[.int k n])→∃l:List Int,l.length=ass.length∧(∀n∈l,(Lit.int k n).wf=true)∧ass.flatten=intsK k l
 | [],_=>⟨[],rfl,by simp,rfl⟩
 | a::ass,h=>by
   obtain ⟨l,h1,h2,h3⟩:=flat_intsK fun b hb=>h b (List.mem_cons_of_mem _ hb)
   obtain ⟨n,h4,h5⟩:=h a (by simp)
   exact ⟨n::l,by simp[h1],by simpa using ⟨h4,h2⟩,by simp[h5,h3,intsK]⟩
theorem flat_prs : ∀{ass:List (List AVal)},(∀a∈ass,∃p:Int×Int,a=[.int .i64 p.1,.int .i64 p.2])→∃l:List (Int×Int),l.length=ass.length∧ass.flatten=prs l
 | [],_=>⟨[],rfl,rfl⟩
 | a::ass,h=>by
   obtain ⟨l,h1,h2⟩:=flat_prs fun b hb=>h b (List.mem_cons_of_mem _ hb)
   obtain ⟨p,h3⟩:=h a (by simp)
   exact ⟨p::l,by simp[h1],by simp[h3,h2]⟩
section
variable {P : Program} {w:World} {μ:Mu} {t e:TypeId}
theorem Opens.intsK {k:IntKind} (ht:P.underlying t=some (.slice e)) (hc:P.cellsOf t=1) (he:P.underlying e=some (.int k)) (hce:P.cellsOf e=1):Opens P w μ t fun av=>∃l:List Int,l.length≤maxLen∧(∀n∈l,(Lit.int k n).wf=true)∧av=[.vl l.length (Cw.intsK k l)]:=
 (Opens.slice ht hc (by omega) (Opens.int he hce)).mono fun av ⟨ass,h1,h2,h3⟩=>by
   obtain ⟨l,h4,h5,h6⟩:=flat_intsK h2
   exact ⟨l,by omega,h5,by rw[h3,h6,h4]⟩
theorem Opens.ints (ht:P.underlying t=some (.slice e)) (hc:P.cellsOf t=1) (he:P.underlying e=some (.int .i64)) (hce:P.cellsOf e=1):Opens P w μ t fun av=>∃l:List Int,av=[L l]:=
 (Opens.intsK ht hc he hce).mono fun _ ⟨l,_,_,h⟩=>⟨l,h⟩
theorem Opens.prs (ht:P.underlying t=some (.slice e)) (hc:P.cellsOf t=1) (hce:P.cellsOf e=2) (he:Opens P w μ e fun av=>∃p:Int×Int,av=[.int .i64 p.1,.int .i64 p.2]):Opens P w μ t fun av=>∃l:List (Int×Int),av=[LP l]:=
 (Opens.slice ht hc (by omega) he).mono fun av ⟨ass,h1,h2,h3⟩=>by
   obtain ⟨l,h4,h5⟩:=flat_prs h2
   exact ⟨l,by rw[h3,h5,←h4];rfl⟩
theorem Opens.two (ht:P.underlying t=some (.array 2 e)) (hc:P.cellsOf t=2) (he:P.underlying e=some (.int .i64)) (hce:P.cellsOf e=1):Opens P w μ t fun av=>∃p:Int×Int,av=[.int .i64 p.1,.int .i64 p.2]:=
 (Opens.array ht (by omega) (Opens.int he hce)).mono fun av ⟨ass,h1,h2,h3⟩=>by
   obtain ⟨l,h4,_,h6⟩:=flat_intsK h2
   match l,h4,h6 with
   | [a,b],_,h6=>exact ⟨(a,b),by rw[h3,h6];rfl⟩
   | [],h4,_=>simp at h4;omega
   | [_],h4,_=>simp at h4;omega
   | _::_::_::_,h4,_=>simp at h4;omega
end
end Go.Cw
end
section
namespace Go.Cw
open Go
def fl {α:Type} (f:α→List AVal) (l:List α):List AVal:=l.flatMap f
section
variable {α : Type} {f:α→List AVal} {w:Nat}
@[simp] theorem fl_nil : fl f []=[]:=(rfl)
theorem fl_cons (a:α) (l:List α):fl f (a::l)=f a++fl f l:=by simp[fl]
theorem fl_one (l:List α) (a:α):fl f l++f a=fl f (l++[a]):=by simp[fl]
theorem fl_len (hw:∀a,(f a).length=w) (l:List α) :(fl f l).length=l.length*w:=by
 induction l with
 | nil=>simp
 | cons a l ih=>rw[fl_cons,List.length_append,hw,ih,List.length_cons,Nat.add_mul];omega
theorem fl_drop (hw:∀a,(f a).length=w) (l:List α) (k:Nat) :(fl f l).drop (k*w)=fl f (l.drop k):=by
 induction k generalizing l with
 | zero=>simp
 | succ k ih=>
   cases l with
   | nil=>simp
   | cons a l=>
     rw[fl_cons,Nat.add_mul,Nat.one_mul,Nat.add_comm (k*w) w,List.drop_append,List.drop_of_length_le (by rw[hw];omega),hw]
     simpa using ih l
theorem fl_take (hw:∀a,(f a).length=w) (l:List α) :(fl f l).take w =(l.head?.map f).getD []:=by
 cases l with
 | nil=>simp
 | cons a l=>rw[fl_cons,List.take_append_of_le_length (by rw[hw];exact Nat.le_refl _),List.take_of_length_le (by rw[hw];exact Nat.le_refl _)];rfl
end
theorem flat_fl {α:Type} {f:α→List AVal} {V:List AVal→Prop} (hV:∀a,V a→∃x,a=f x):∀{ass:List (List AVal)},(∀a∈ass,V a)→∃l:List α,l.length=ass.length∧ass.flatten=fl f l
 | [],_=>⟨[],rfl,rfl⟩
 | a::ass,h=>by
   obtain ⟨l,h1,h2⟩:=flat_fl hV fun b hb=>h b (List.mem_cons_of_mem _ hb)
   obtain ⟨x,h3⟩:=hV a (h a (by simp))
   exact ⟨x::l,by simp[h1],by rw[List.flatten_cons,h2,h3,fl_cons]⟩
theorem Opens.fl {P:Program} {w:World} {μ:Mu} {t e:TypeId} {α:Type} {f:α→List AVal} (ht:P.underlying t=some (.slice e)) (hc:P.cellsOf t=1) (hce:0<P.cellsOf e) (he:Opens P w μ e fun av=>∃x,av=f x) :
 Opens P w μ t fun av=>∃l:List α,av=[.vl l.length (Cw.fl f l)]:=
 (Opens.slice ht hc hce he).mono fun av ⟨ass,h1,h2,h3⟩=>by
   obtain ⟨l,h4,h5⟩:=flat_fl (f:=f) (fun a h=>h) h2
   exact ⟨l,by rw[h3,h5,←h4]⟩
end Go.Cw
end
