/-
  Functions; operations whose order is left open: no program is named here.
-/
import Derived.Test.YtemceffbimfblaaGreatDoorAb
import Derived.RangeFuncLeaves
import Derived.KernelRfl
set_option linter.unusedSectionVars false
set_option linter.unusedSimpArgs false
set_option linter.unusedVariables false
section
namespace Go.Cw
open Go
inductive RV where
 | tmp (t:Nat)
 | cell (t:Nat) (agg:Bool) (n:Nat)
def compRV (P:Program):ResultVar→Option RV
 | .tmp t=>some (.tmp t)
 | .cell a t=>match szOf P t,aggT P t with
   | some n,some b=>some (.cell a b n)
   | _,_=>none
def compRVs (P:Program):List ResultVar→Option (List RV)
 | []=>some []
 | r::rs=>match compRV P r,compRVs P rs with
   | some a,some as=>some (a::as)
   | _,_=>none
def loadO (o:AObj) (agg:Bool) (n off s:Nat):Option AVal:=
 match o with
 | .row cells s'=>if s=s' then loadC agg n (cells.drop off) else none
 | _=>none
theorem loadP_ptr (h:Heap) (agg:Bool) (n r off s:Nat):loadP h agg n (.ptr r off s)=loadO (h r) agg n off s:=by
 simp only[loadP,cellsAt,loadO]
 cases h r<;>simp
 split<;>simp
def aRes1 (r:RV) (tm:TM) (h:Heap):Option AVal:=
 match r with
 | .tmp t=>some (tm t)
 | .cell t agg n=>loadP h agg n (tm t)
def aResL (rs:List RV) (tm:TM) (h:Heap):Option (List AVal):=
 match rs with
 | []=>some []
 | r::rs=>match aRes1 r tm h,aResL rs tm h with
   | some a,some as=>some (a::as)
   | _,_=>none
def aRes (rs:List RV) (tm:TM) (h:Heap):Option AVal:=
 match rs with
 | [r]=>aRes1 r tm h
 | rs=>(aResL rs tm h).map .tup
@[simp] theorem loadO_row (cells:List AVal) (s':Nat) (agg:Bool) (n off s:Nat):loadO (.row cells s') agg n off s=if s=s' then loadC agg n (cells.drop off) else none:=(rfl)
@[simp] theorem loadC_true (n:Nat) (cells:List AVal):loadC true n cells=if n≤cells.length then some (.agg (cells.take n)) else none:=(rfl)
@[simp] theorem loadC_false (n:Nat) (cells:List AVal):loadC false n cells=cells.head?:=(rfl)
@[simp] theorem aRes1_tmp (t:Nat) (tm:TM) (h:Heap):aRes1 (.tmp t) tm h=some (tm t):=(rfl)
@[simp] theorem aRes1_cell (t:Nat) (agg:Bool) (n:Nat) (tm:TM) (h:Heap):aRes1 (.cell t agg n) tm h=loadP h agg n (tm t):=(rfl)
@[simp] theorem aRes_one (r:RV) (tm:TM) (h:Heap):aRes [r] tm h=aRes1 r tm h:=(rfl)
@[simp] theorem aRes_nil (tm:TM) (h:Heap):aRes [] tm h=some (.tup []):=(rfl)
@[simp] theorem aRes_two (a b:RV) (rs:List RV) (tm:TM) (h:Heap):aRes (a::b::rs) tm h =(aResL (a::b::rs) tm h).map .tup:=(rfl)
@[simp] theorem aResL_nil (tm:TM) (h:Heap):aResL [] tm h=some []:=(rfl)
@[simp] theorem aResL_cons (a:RV) (rs:List RV) (tm:TM) (h:Heap):aResL (a::rs) tm h=match aRes1 a tm h,aResL rs tm h with
 | some a,some as=>some (a::as)
 | _,_=>none:=(rfl)
attribute [simp] loadP_ptr
def VLe (v:AVal) (h:Heap) (v':AVal) (h':Heap):Prop:=
 ∀Z μ g w u,Sim Z μ h g w→VRel Z μ g v u→∃Z' μ' g',Sim Z' μ' h' g' w∧VRel Z' μ' g' v' u∧Tr Z μ h g w Z' μ' h' g' w
theorem VLe.refl (v:AVal) (h:Heap):VLe v h v h:=fun Z μ g _ _ S hv=>⟨Z,μ,g,S,hv,Tr.refl⟩
theorem VLe.wk {v:AVal} {h h':Heap} (hle:HLe h' h):VLe v h v h':=fun Z μ g _ _ S hv=>⟨Z,μ,g,S.weaken hle,hv,Tr.refl.weaken hle⟩
theorem VLe.trans {v₁ v₂ v₃:AVal} {h₁ h₂ h₃:Heap} (a:VLe v₁ h₁ v₂ h₂) (b:VLe v₂ h₂ v₃ h₃):VLe v₁ h₁ v₃ h₃:=by
 intro Z μ g w u S hv
 obtain ⟨Z',μ',g',S',hv',t⟩:=a Z μ g w u S hv
 obtain ⟨Z'',μ'',g'',S'',hv'',t'⟩:=b Z' μ' g' w u S' hv'
 exact ⟨Z'',μ'',g'',S'',hv'',t.trans t'⟩
def RetV (K:AEnd→Heap→Prop) (h:Heap) (v:AVal):Prop:=∃v' h',VLe v h v' h'∧K (.ret v') h'
theorem RetV.refl {K:AEnd→Heap→Prop} {h:Heap} {v:AVal} (k:K (.ret v) h):RetV K h v:=⟨v,h,VLe.refl v h,k⟩
theorem RetV.wk {K:AEnd→Heap→Prop} {h h':Heap} {v:AVal} (hle:HLe h' h) (k:K (.ret v) h'):RetV K h v:=⟨v,h',VLe.wk hle,k⟩
def TakeK (k:DF→Heap→Prop):DF→Heap→Prop
 | [],h=>k [] h
 | (.yield r s,_)::df,h=>h r=.dfr false s∧TakeK k df (upd h r .dead)
 | x::df,h=>k (x::df) h
section
variable (k : DF→Heap→Prop) (df:DF) (h:Heap)
@[simp] theorem TakeK_nil : TakeK k [] h=k [] h:=(rfl)
@[simp] theorem TakeK_mark (r s:Nat) (l:List AVal):TakeK k ((.yield r s,l)::df) h =(h r=.dfr false s∧TakeK k df (upd h r .dead)):=(rfl)
end
def RetK (rs:List RV) (K:AEnd→Heap→Prop):Post
 | .normal,tm,df,h=>TakeK (fun df h=>df=[]∧osat (aRes rs tm h) (RetV K h)) df h
 | .ret,tm,df,h=>TakeK (fun df h=>df=[]∧osat (aRes rs tm h) (RetV K h)) df h
 | .panic v,_,df,h=>TakeK (fun df h=>df=[]∧Wk (K (.pan v)) h) df h
 | .exit _,_,_,_=>False
section
variable (rs : List RV) (K:AEnd→Heap→Prop) (tm:TM) (df:DF) (h:Heap)
@[simp] theorem RetK_normal : RetK rs K .normal tm df h=TakeK (fun df h=>df=[]∧osat (aRes rs tm h) (RetV K h)) df h:=(rfl)
@[simp] theorem RetK_ret : RetK rs K .ret tm df h=TakeK (fun df h=>df=[]∧osat (aRes rs tm h) (RetV K h)) df h:=(rfl)
@[simp] theorem RetK_panic (v:AVal):RetK rs K (.panic v) tm df h=TakeK (fun df h=>df=[]∧Wk (K (.pan v)) h) df h:=(rfl)
end
def initT (args:List AVal):TM:=fun t=>(args[t]?).getD undefA
@[simp] theorem initT_at (args:List AVal) (t:Nat):initT args t =(args[t]?).getD undefA:=(rfl)
section
variable {Z : Snap} {μ:Mu} {h:Heap} {g:Nat} {w:World} {P:Program}
theorem loadVar_asAddr {t:TypeId} {v u:Value} (hl :(Instr.loadAt t v).run P w=.ok u w) :(do loadVar t (←asAddr v):Sem Value).run P w=.ok u w:=by
 cases v with
 | pointer a=>
   cases a with
   | some a=>simpa[Instr.loadAt,Instr.sureAddr,asAddr] using hl
   | none=>simp[Instr.loadAt,Instr.sureAddr,stuck] at hl
 | _=>simp[Instr.loadAt,Instr.sureAddr,stuck] at hl
theorem aRes1_sound (S:Sim Z μ h g w) {n:Nat} {tm:TM} {tmps:Array Value} (T:TRel Z μ g n tm tmps) {r:ResultVar} {rv:RV} (hc:compRV P r=some rv) {a:AVal} (ha:aRes1 rv tm h=some a) :
 ∃u,(match r with
  | .tmp t=>pure (tmps.getD t undef)
  | .cell a t=>do loadVar t (←asAddr (tmps.getD a undef)):Sem Value).run P w=.ok u w∧VRel Z μ g a u:=by
 cases r with
 | tmp t=>
   obtain rfl:RV.tmp t=rv:=by simpa[compRV] using hc
   obtain rfl:tm t=a:=by simpa[aRes1] using ha
   exact ⟨_,rfl,T.2 t⟩
 | cell b t=>
   simp only[compRV] at hc
   split at hc
   ·rename_i k agg h1 h2
    obtain rfl:RV.cell b agg k=rv:=by simpa using hc
    obtain ⟨u,hu,hv⟩:=loadP_sound (P:=P) S h2 h1 (T.2 b) ha
    exact ⟨u,loadVar_asAddr hu,hv⟩
   ·cases hc
theorem aResL_sound (S:Sim Z μ h g w) {n:Nat} {tm:TM} {tmps:Array Value} (T:TRel Z μ g n tm tmps):∀{rs:List ResultVar} {rvs:List RV},compRVs P rs=some rvs→∀{as:List AVal},aResL rvs tm h=some as→
 ∃us,(rs.mapM fun (r:ResultVar)=>(match r with
  | .tmp t=>pure (tmps.getD t undef)
  | .cell a t=>do loadVar t (←asAddr (tmps.getD a undef)):Sem Value)).run P w=.ok us w∧us.length=as.length∧VPre Z μ g as us
 | [],rvs,hc,as,ha=>by
   obtain rfl:[]=rvs:=by simpa[compRVs] using hc
   obtain rfl:[]=as:=by simpa using ha
   exact ⟨[],rfl,rfl,VPre_nil _⟩
 | r::rs,rvs,hc,as,ha=>by
   simp only[compRVs] at hc
   split at hc
   ·rename_i rv rvs' h1 h2
    obtain rfl:rv::rvs'=rvs:=by simpa using hc
    simp only[aResL_cons] at ha
    split at ha
    ·rename_i a as' h3 h4
     obtain rfl:a::as'=as:=by simpa using ha
     obtain ⟨u,hu,hv⟩:=aRes1_sound S T h1 h3
     obtain ⟨us,hus,hl,hvs⟩:=aResL_sound S T h2 h4
     refine ⟨u::us,?_,by simpa using hl,VPre_cons.2 ⟨hv,hvs⟩⟩
     rw[List.mapM_cons]
     simp only[Sem.run_bind,hu,Result.andThen_ok,hus,Sem.run_pure]
    ·cases ha
   ·cases hc
theorem aRes_sound (S:Sim Z μ h g w) {tm:TM} {tmps:Array Value} {n:Nat} (T:TRel Z μ g n tm tmps) {fn:Func} {rvs:List RV} (hc:compRVs P fn.results.toList=some rvs) {a:AVal} (ha:aRes rvs tm h=some a) :
 ∃u,(results fn tmps).run P w=.ok u w∧VRel Z μ g a u:=by
 have key:∀{as:List AVal},aResL rvs tm h=some as→∃us:Array Value,(results fn tmps).run P w=.ok (if hh:us.size=1 then us[0] else .tuple us) w∧us.size=as.length∧VPre Z μ g as us.toList:=by
  intro as has
  obtain ⟨us,hus,hl,hvs⟩:=aResL_sound S T hc has
  refine ⟨us.toArray,?_,by simpa using hl,by simpa using hvs⟩
  have hm :(fn.results.mapM fun (r:ResultVar)=>(match r with
   | .tmp t=>pure (tmps.getD t undef)
   | .cell a t=>do loadVar t (←asAddr (tmps.getD a undef)):Sem Value)).run P w=.ok us.toArray w:=by
   rw[Array.mapM_eq_mapM_toList]
   simp only[Sem.run_map,hus,Result.andThen_ok]
  unfold results
  simp only[Sem.run_bind]
  erw [hm]
  rfl
 unfold aRes at ha
 split at ha
 ·rename_i r
  obtain ⟨us,h1,h2,h3⟩:=key (as:=[a]) (by simp[ha])
  obtain ⟨u,rfl⟩ : ∃u,us = #[u]:=by
   match us,h2 with
   | ⟨[u]⟩,_=>exact ⟨u,rfl⟩
  refine ⟨u,by simpa using h1,(VPre_cons.1 h3).1⟩
 ·rename_i hne
  cases has:aResL rvs tm h with
  | none=>simp[has] at ha
  | some as=>
    obtain rfl:AVal.tup as=a:=by simpa[has] using ha
    obtain ⟨us,h1,h2,h3⟩:=key has
    refine ⟨.tuple us,?_,by simp only[VRel];exact ⟨us,rfl,h2,h3⟩⟩
    have hlen:∀{rs:List RV} {as:List AVal},aResL rs tm h=some as→as.length=rs.length:=by
     intro rs
     induction rs with
     | nil=>intro as h;simp only[aResL_nil,Option.some.injEq] at h;subst h;rfl
     | cons r rs ih=>
       intro as h
       simp only[aResL_cons] at h
       split at h
       ·rename_i h4 h5
        simp only[Option.some.injEq] at h
        subst h
        simp[ih h5]
       ·cases h
    have:us.size≠1:=by
     rw[h2,hlen has]
     intro he
     obtain ⟨r,hr⟩:=List.length_eq_one_iff.1 he
     exact hne r hr
    rw[h1,dif_neg this]
end
theorem DRel.mono' {Z Z':Snap} {μ μ':Mu} {g g':Nat} (e:Ext Z μ g Z' μ' g') {df:DF} {ds:List Deferred} (h:DRel Z μ g df ds):DRel Z' μ' g' df ds:=DRel.mono e h
theorem take_sound {P:Program} {fn:Func} {tmps:Array Value} {R:Ending→World→Prop} {u:FrameMode} (hu:u≠.run) {k:DF→Heap→Prop} : ∀{df:DF} {ds:List Deferred} {Z:Snap} {μ:Mu} {h:Heap} {g:Nat} {w:World},
 Sim Z μ h g w→DRel Z μ g df ds→TakeK k df h→
 (∀df' ds' Z' μ' h' g' w',k df' h'→Sim Z' μ' h' g' w'→DRel Z' μ' g' df' ds'→Tr Z μ h g w Z' μ' h' g' w'→LeavesInM (Fw none) 0 P fn tmps R ds' u w')→LeavesInM (Fw none) 0 P fn tmps R ds u w
 | [],ds,Z,μ,h,g,w,S,D,hk,cont=>cont _ _ _ _ _ _ _ hk S D Tr.refl
 | (v,l)::df,ds,Z,μ,h,g,w,S,D,hk,cont=>by
   cases v
   case yield r s=>
    simp only[TakeK_mark] at hk
    obtain ⟨hr,hk⟩:=hk
    simp only[DRel] at D
    obtain ⟨ds',hs,rfl,D'⟩:=D
    have hrow:=S.rows r
    rw[hr] at hrow
    simp only[ORel] at hrow
    obtain ⟨_,hw⟩:=hrow
    obtain ⟨S₁,t₁⟩:=S.write (r:=r) (s:=s) (o:=.dfr true s) (ob:=.deferred none) (by rw[hr];rfl) rfl (by
     simp only[ORel]
     exact ⟨hs,putO_at hw⟩)
    have hle:HLe (upd h r .dead) (upd h r (.dfr true s)):=by
     intro r'
     by_cases hr:r'=r
     ·subst hr;exact .inr (upd_same _ _ _)
     ·rw[upd_ne _ _ hr,upd_ne _ _ hr];exact .inl rfl
    have htake :(Instr.takeDeferred (μ s).blk).run P w=.ok [] (World.putO w (μ s).blk (.deferred none)):=by
     simp[Instr.takeDeferred,Sem.run_bind,run_getObj hw,run_setObj hw]
    refine ⟨hu,.inl ⟨(μ s).blk,_,rfl,htake,?_⟩⟩
    exact take_sound hu (S₁.weaken hle) D' hk fun df' ds'' Z' μ' h' g' w' hk' S' D'' t'=>cont _ _ _ _ _ _ _ hk' S' D'' ((t₁.weaken hle).trans t')
   all_goals exact cont _ _ _ _ _ _ _ hk S D Tr.refl
theorem ACalls.of_body {P:Program} {f:FuncId} {fn:Func} {c:Code} {args:List AVal} {h:Heap} {K:AEnd→Heap→Prop} (hf:P.funcs[f]? = some fn) (hn :(fn.name == "runtime.NumGoroutine")=false) (hb:fn.body=some c)
 {F:Nat} {kp:List Nat} {x:IR} {rs:List RV} (hfit:Fit ⟨P,F,fn.ntmps,false,kp⟩ c x) (hl:args.length≤fn.ntmps) (hrs:compRVs P fn.results.toList=some rs)
 (a:AW ⟨P,F,fn.ntmps,false,kp⟩ x (RetK rs K) (initT args) [] h):ACalls P f args h K:=by
 refine ⟨⟨fn,c,hf,hn,hb⟩,fun Z μ g w cargs S hsz hv=>?_⟩
 refine callsIn_wide (n:=0).1 (callsIn_of_wp_marks hf hb trivial ?_ rfl)
 have T:TRel Z μ g fn.ntmps (initT args) (cargs++Array.replicate (fn.ntmps - cargs.size) undef):=by
  refine ⟨by simp;omega,fun t=>?_⟩
  simp only[initT]
  by_cases ht:t<args.length
  ·rw[List.getElem?_eq_getElem ht,Option.getD_some]
   obtain ⟨v,hv1,hv2⟩:=VPre.get hv (List.getElem?_eq_getElem ht)
   have :(cargs++Array.replicate (fn.ntmps - cargs.size) undef).getD t undef=v:=by
    rw[Array.getElem?_toList] at hv1
    rw[Array.getD_eq_getD_getElem?,Array.getElem?_append_left (by omega),hv1];rfl
   rw[this];exact hv2
  ·rw[List.getElem?_eq_none (by omega),Option.getD_none]
   have :(cargs++Array.replicate (fn.ntmps - cargs.size) undef).getD t undef=undef:=by
    rw[Array.getD_eq_getD_getElem?,Array.getElem?_append_right (by omega),Array.getElem?_replicate]
    split<;>rfl
   rw[this];exact undef_rel
 refine wpIn_mono (hfit _ _ _ _ a none rfl Z μ g w { tmps:=_,defers:=[] } S T (by simp[DRel])) ?_
 rintro e ca' w' ⟨Z',μ',g',ae,tm',df',h',q,r,S',T',D',t⟩
 have fin:TakeK (fun df h=>df=[]∧osat (aRes rs tm' h) (RetV K h)) df' h'→LeavesInM (Fw none) 0 P fn ca'.tmps (OutC K Z μ h g w) ca'.defers .returning w':=by
  intro hk
  refine take_sound (by simp) S' D' hk fun df₁ ds₁ Z₁ μ₁ h₁ g₁ w₁ hk₁ S₁ D₁ t₁=>?_
  obtain ⟨rfl,ho⟩:=hk₁
  simp only[DRel] at D₁
  subst D₁
  obtain ⟨a,ha,v',h'',hvl,hk⟩:=osat_iff.1 ho
  obtain ⟨u,hu,hvu⟩:=aRes_sound (P:=P) S₁ (T'.mono t₁.ext) hrs ha
  obtain ⟨Z₂,μ₂,g₂,S₂,hv₂,t₂⟩:=hvl Z₁ μ₁ g₁ w₁ u S₁ hvu
  exact ⟨u,hu,Z₂,μ₂,g₂,.ret v',h'',hk,⟨u,hv₂,rfl⟩,S₂,(t.trans t₁).trans t₂⟩
 cases ae with
 | normal=>obtain rfl:e=.normal:=r;exact fin q
 | ret=>obtain rfl:e=.ret:=r;exact fin q
 | exit id=>exact q.elim
 | panic v=>
   obtain ⟨u,hu,rfl⟩:=r
   refine take_sound (by simp) S' D' q fun df₁ ds₁ Z₁ μ₁ h₁ g₁ w₁ hk₁ S₁ D₁ t₁=>?_
   obtain ⟨rfl,h₀,hle,hk⟩:=hk₁
   simp only[DRel] at D₁
   subst D₁
   exact ⟨Z₁,μ₁,g₁,.pan v,h₀,hk,⟨u,VRel.mono t₁.ext _ _ hu,rfl⟩,S₁.weaken hle,(t.trans t₁).weaken hle⟩
theorem putL_rel {Z:Snap} {μ:Mu} {g n:Nat} : ∀{ps:List Nat} {args:List AVal} {vs:List Value} {tm:TM} {tmps:Array Value},(∀t∈ps,t<n)→args.length=vs.length→TRel Z μ g n tm tmps→VPre Z μ g args vs→
 TRel Z μ g n (putL tm ps args) ((ps.zip vs).foldl (fun tmps (t,a)=>tmps.setIfInBounds t a) tmps)
 | [],_,_,_,_,_,_,T,_=>by simpa using T
 | t::ps,[],[],_,_,_,_,T,_=>by simpa using T
 | t::ps,a::as,[],_,_,_,h,_,_=>by simp at h
 | t::ps,[],v::vs,_,_,_,h,_,_=>by simp at h
 | t::ps,a::as,v::vs,tm,tmps,hp,hl,T,hv=>by
   simp only[VPre] at hv
   simp only[putL_cons,List.zip_cons_cons,List.foldl_cons]
   exact putL_rel (fun x hx=>hp x (List.mem_cons_of_mem _ hx)) (by simpa using hl) (T.put t (hp t List.mem_cons_self) hv.1) hv.2
def lpO (st:LoopState) (pd:Option Code) (fn:FuncId) (tm:TM) (n:Nat) (ps:Array Tmp) (A B:Code) (sd sl:Nat):AObj:=.loop st pd fn tm n ps.toList A B sd sl
def jmL (fn:FuncId) (tm:TM) (n:Nat) (ps:Array Tmp) (A B:Code) (sd sl:Nat):Jm→AObj
 | .go=>lpO .ready none fn tm n ps A B sd sl
 | .ret=>lpO .done (some .ret) fn tm n ps A B sd sl
 | .exit id=>lpO .done (some (.exit id)) fn tm n ps A B sd sl
section
variable {E : Env} {Z:Snap} {μ:Mu} {h:Heap} {g:Nat} {w:World} {P:Program}
theorem lpO_at (S:Sim Z μ h g w) {rl:Nat} {st:LoopState} {pd:Option Code} {fn:FuncId} {tm:TM} {n:Nat} {ps:Array Tmp} {A B:Code} {sd sl:Nat} (hr:h rl=lpO st pd fn tm n ps A B sd sl) :
 sl≤g∧sd≤g∧∃tmps:Array Value,TRel Z μ g n tm tmps∧w.heap[(μ sl).blk]? = some (.loop { state:=st,pending:=pd,fn,tmps,params:=ps,assign:=A,body:=B,defers:=(μ sd).blk }):=by
 have:=S.rows rl
 rw[hr] at this
 simp only[lpO,ORel] at this
 obtain ⟨h1,tmps,h2,h3,h4⟩:=this
 exact ⟨h1,h3,tmps,h2,by simpa using h4⟩
theorem lpO_put (S:Sim Z μ h g w) {rl:Nat} {st st':LoopState} {pd pd':Option Code} {fn:FuncId} {tm:TM} {n:Nat} {ps:Array Tmp} {A B:Code} {sd sl:Nat} (hr:h rl=lpO st pd fn tm n ps A B sd sl)
 {tmps:Array Value} (T:TRel Z μ g n tm tmps) :
 Sim Z μ (upd h rl (lpO st' pd' fn tm n ps A B sd sl)) g (World.putO w (μ sl).blk (.loop { state:=st',pending:=pd',fn,tmps,params:=ps,assign:=A,body:=B,defers:=(μ sd).blk }))∧
  Tr Z μ h g w Z μ (upd h rl (lpO st' pd' fn tm n ps A B sd sl)) g (World.putO w (μ sl).blk (.loop { state:=st',pending:=pd',fn,tmps,params:=ps,assign:=A,body:=B,defers:=(μ sd).blk })):=by
 obtain ⟨h1,h2,t,h3,h4⟩:=lpO_at S hr
 refine S.write (s:=sl) (by rw[hr];rfl) rfl ?_
 simp only[lpO,ORel]
 exact ⟨h1,tmps,T,h2,by simpa using putO_at h4⟩
theorem run_getLoop {l:Nat} {r:Loop} (h:w.heap[l]? = some (.loop r)) :(Instr.getLoop l).run P w=.ok r w:=by
 simp[Instr.getLoop,Sem.run_bind,run_getObj h]
theorem lpO_begin {l:Nat} {r:Loop} (h:w.heap[l]? = some (.loop r)) (hs:r.state=.ready) :(Instr.beginRound l).run P w=.ok () (World.putO w l (.loop { r with state:=.busy })):=by
 simp[Instr.beginRound,Sem.run_bind,run_getLoop h,run_setObj h,hs]
theorem lpO_end {l:Nat} {r:Loop} (h:w.heap[l]? = some (.loop r)) (j:Option Code) :
 (Instr.endRound l j).run P w=.ok (.bool j.isNone) (World.putO w l (.loop { r with state:=if j.isNone then .ready else .done,pending:=j })):=by
 simp[Instr.endRound,Sem.run_bind,run_getLoop h,run_setObj h]
theorem lpO_over {l:Nat} {r:Loop} (h:w.heap[l]? = some (.loop r)) (hs:r.state≠.busy) :
 (Instr.endLoop l).run P w=.ok r.pending (World.putO w l (.loop { r with state:=.exhausted })):=by
 simp[Instr.endLoop,Sem.run_bind,run_getLoop h,run_setObj h,hs]
theorem AInvoke.round {A B:Code} {x y:IR} {ps:Array Tmp} (hps:∀t∈ps.toList,t<E.n) (a:Fit { E with inr:=true } A x) (b:Fit { E with inr:=true } B y) {fn:FuncId} {tm:TM} {sd sl rl:Nat} {args:List AVal} {K:AEnd→Heap→Prop}
 (hl:args.length=ps.toList.length) (hr:h rl=jmL fn tm E.n ps A B sd sl .go)
 (k:AW { E with inr:=true } x (RdA (AW { E with inr:=true } y) rl (jmL fn tm E.n ps A B sd sl .go) (lpO .busy none fn tm E.n ps A B sd sl) (RdB rl (jmL fn tm E.n ps A B sd sl) (lpO .busy none fn tm E.n ps A B sd sl) K)) (putL tm ps.toList args) [] h) :
 AInvoke E.P (.yield rl sl) args h K:=by
 intro Z μ g w v cargs S hv hsz ha
 simp only[VRel] at hv
 obtain ⟨hle,rfl⟩:=hv
 obtain ⟨_,_,tmps,T,hw⟩:=lpO_at S hr
 have hrun :(do let d ←Deferred.ofValue (.func (.yield (μ sl).blk) #[] #[]) cargs;invoke d.target d.args:Sem Next).run E.P w =
  .ok (.round (μ sl).blk fn ((ps.zip cargs).foldl (fun tmps (t,a)=>tmps.setIfInBounds t a) tmps) A B) w:=by
  have hne:¬(cargs.size≠ps.size):=by rw[hsz,hl];simp
  simp only[Deferred.ofValue,Sem.run_bind,Sem.run_pure,Result.andThen_ok,invoke,Instr.yield,run_getLoop hw]
  simp[hne]
 rw[hrun]
 refine ⟨rfl,roundIn_of_wpIn trivial ?_⟩
 have T':TRel Z μ g E.n (putL tm ps.toList args) ((ps.zip cargs).foldl (fun tmps (t,a)=>tmps.setIfInBounds t a) tmps):=by
  have:=putL_rel (vs:=cargs.toList) hps (by simp[hsz]) T ha
  rw[←Array.foldl_toList,Array.toList_zip]
  exact this
 refine wpIn_mono (a _ _ _ _ k (some (μ sl).blk) rfl Z μ g w _ S T' (by simp[DRel])) ?_
 rintro e ca w₁ ⟨Z₁,μ₁,g₁,ae,tm₁,df₁,h₁,q,r,S₁,T₁,D₁,t₁⟩
 cases ae with
 | exit id=>exact q.elim
 | ret=>exact q.elim
 | panic v=>exact q.elim
 | normal=>
   obtain rfl:e=.normal:=r
   obtain ⟨rfl,hr₁,q⟩:=q
   obtain ⟨_,_,tmps₁,U₁,hw₁⟩:=lpO_at S₁ hr₁
   have hbk :(μ₁ sl).blk =(μ sl).blk:=by rw[t₁.ext.loc sl hle]
   obtain ⟨S₂,t₂⟩:=lpO_put (st':=.busy) (pd':=none) S₁ hr₁ U₁
   rw[hbk] at hw₁ S₂ t₂
   refine ⟨_,lpO_begin hw₁ rfl,?_⟩
   refine wpIn_mono (b _ _ _ _ q (some (μ sl).blk) rfl Z₁ μ₁ g₁ _ ca S₂ T₁ D₁) ?_
   rintro e₂ ca₂ w₂ ⟨Z₃,μ₃,g₃,ae,tm₃,df₃,h₃,q₃,r₃,S₃,T₃,D₃,t₃⟩
   have hbk₃ :(μ₃ sl).blk =(μ sl).blk:=by rw[t₃.ext.loc sl (Nat.le_trans hle t₁.ext.cnt),hbk]
   have fin:∀(j:Option Code) (o:Jm),jmL fn tm E.n ps A B sd sl o=lpO (if j.isNone then .ready else .done) j fn tm E.n ps A B sd sl→h₃ rl=lpO .busy none fn tm E.n ps A B sd sl→K (.ret (.bool j.isNone)) (upd h₃ rl (jmL fn tm E.n ps A B sd sl o))→
    ∃v w',(Instr.endRound (μ sl).blk j).run E.P w₂=.ok v w'∧OutC K Z μ h g w (.returned v) w':=by
    intro j o hj hr₃ hk
    obtain ⟨_,_,tmps₃,U₃,hw₃⟩:=lpO_at S₃ hr₃
    obtain ⟨S₄,t₄⟩:=lpO_put (st':=if j.isNone then .ready else .done) (pd':=j) S₃ hr₃ U₃
    rw[hbk₃] at hw₃ S₄ t₄
    refine ⟨_,_,lpO_end hw₃ j,Z₃,μ₃,g₃,_,_,hk,⟨_,by simp[VRel],rfl⟩,?_,?_⟩
    ·rw[hj];exact S₄
    ·rw[hj];exact (t₁.trans t₂).trans (t₃.trans t₄)
   cases ae with
   | panic v=>exact q₃.elim
   | normal=>obtain rfl:e₂=.normal:=r₃;exact fin none .go rfl q₃.1 q₃.2
   | ret=>obtain rfl:e₂=.ret:=r₃;exact fin (some .ret) .ret rfl q₃.1 q₃.2
   | exit id=>obtain rfl:e₂=.exit id:=r₃;exact fin (some (.exit id)) (.exit id) rfl q₃.1 q₃.2
theorem Fit.rangeF {G:Operand} {go:Opd} {ps:Array Tmp} {A B:Code} {x y:IR} (hg:cOpd G=some go) (hps:∀t∈ps.toList,t<E.n) (a:Fit { E with inr:=true } A x) (b:Fit { E with inr:=true } B y) :
 Fit E (.rangeFunc G ps A B) (.rangeF go ps.toList x y):=by
 rintro Q tm df h ⟨hinr,f,first,cap,hgv,rl,rd,hne,hrl,hrd,hall⟩
 intro ro hro Z μ g w ca S T D
 obtain rfl:ro=none:=by
  cases ro with
  | none=>rfl
  | some r=>rw[hinr] at hro;cases hro
 refine wpIn_rangeFunc fun fn _=>?_
 obtain ⟨S₁,t₁⟩:=S.alloc (r:=rd) (size:=0) (o:=.dfr false (g+1)) (ob:=.deferred (some [])) rfl (by
  simp only[ORel,Mu.new_blk]
  exact ⟨Nat.le_refl _,alloc_at _⟩)
 have hsz₁ :(w.alloc (.deferred (some []))).heap.size=w.heap.size+1:=by simp
 have hd₁ :((Mu.new μ g ⟨w.heap.size,0⟩) (g+1)).blk=w.heap.size:=by rw[Mu.new_blk]
 generalize hμ₁:Mu.new μ g ⟨w.heap.size,0⟩ = μ₁ at S₁ t₁ hd₁
 generalize hw₁:w.alloc (.deferred (some []))=w₁ at S₁ t₁ hsz₁
 have T₁:=T.mono t₁.ext
 let μ₂:=Mu.new μ₁ (g+1) ⟨w₁.heap.size,0⟩
 have e₂:Ext Z μ₁ (g+1) Z μ₂ (g+1+1):=Ext.new _
 obtain ⟨S₂,t₂⟩:=S₁.alloc (r:=rl) (size:=0) (o:=lpO .ready none fn tm E.n ps A B (g+1) (g+1+1)) (ob:=.loop { state:=.ready,pending:=none,fn,tmps:=ca.tmps,params:=ps,assign:=A,body:=B,defers:=w.heap.size }) rfl (by
  simp only[lpO,ORel,Mu.new_blk]
  refine ⟨Nat.le_refl _,ca.tmps,T₁.mono e₂,by omega,?_⟩
  have hdd :(Mu.new μ₁ (g+1) ⟨w₁.heap.size,0⟩ (g+1)).blk=w.heap.size:=(congrArg Loc.blk (e₂.loc (g+1) (Nat.le_refl _))).trans hd₁
  rw[hdd]
  simpa using alloc_at _)
 have hl₂ :(μ₂ (g+1+1)).blk=w.heap.size+1:=by rw[←hsz₁];exact congrArg Loc.blk (Mu.new_blk _)
 have hd₂ :(μ₂ (g+1)).blk=w.heap.size:=by rw[e₂.loc (g+1) (Nat.le_refl _),hd₁]
 generalize hw₂:w₁.alloc (.loop { state:=.ready,pending:=none,fn,tmps:=ca.tmps,params:=ps,assign:=A,body:=B,defers:=w.heap.size })=w₂ at S₂ t₂
 obtain ⟨hent,hc⟩:=hall (g+1+1) (g+1) (jmL fn tm E.n ps A B (g+1) (g+1+1)) (lpO .busy none fn tm E.n ps A B (g+1) (g+1+1)) (fun args h' K hl hr k=>AInvoke.round hps a b (by simpa using hl) hr k)
 have hv:=VRel.mono (t₁.trans t₂).ext _ _ (opd_rel T hg)
 rw[hgv] at hv
 simp only[VRel] at hv
 obtain ⟨_,f',c',hval,hs1,hs2,hv1,hv2⟩:=hv
 refine ⟨w.heap.size+1,[{ target:=.collected w.heap.size,args:=#[] }],w₂,{ target:=.fn (.func f) c',args:=f'++#[.func (.yield (w.heap.size+1)) #[] #[]] },w₂,f,f'++#[.func (.yield (w.heap.size+1)) #[] #[]]++c',w₂,?_,?_,fun _ _=>trivial,?_,fun hx=>by simp[Fw] at hx,?_⟩
 ·have hn:∀(w:World) (o:Obj),(newObj o).run E.P w=.ok w.heap.size (w.alloc o):=fun _ _=>rfl
  simp only[Instr.enterLoop,Fw,Sem.run_bind,Sem.run_pure,Result.andThen_ok,hn,hw₁,hsz₁,hw₂]
 ·have hval':ca.eval G=.func (.func f) f' c':=hval
  simp only[resolve,rangeCall,hval',Deferred.ofValue,Sem.run_pure]
  simp[Act.eval]
 ·simp only[invoke]
  exact Calls.enters hent _ _
 ·refine CallsIn.mono (callsIn_Fw (hc Z μ₂ (g+1+1) w₂ _ S₂ ?_ ?_)) ?_
  ·simp only[Array.size_append,List.length_append,hs1,hs2];rfl
  ·rw[Array.toList_append,Array.toList_append]
   refine VPre.append (VPre.append hv1 (by simpa using hs1) ?_) ?_ hv2
   ·simp only[VPre_cons,VRel]
    exact ⟨⟨Nat.le_refl _,by rw[hl₂]⟩,VPre_nil _⟩
   ·simp only[List.length_append,Array.length_toList,hs1];rfl
  ·rintro e w₃ ⟨Z₃,μ₃,g₃,ae,h₃,hk,r,S₃,t₃⟩
   have D₃:DRel Z₃ μ₃ g₃ ((.yield rd (g+1),[])::df) ([{ target:=.collected w.heap.size,args:=#[] }]++ca.defers):=by
    simp only[DRel]
    refine ⟨ca.defers,?_,?_,D.mono ((t₁.trans t₂).trans t₃).ext⟩
    ·exact Nat.le_trans (by omega) t₃.ext.cnt
    ·rw[t₃.ext.loc (g+1) (by omega),hd₂];rfl
   have T₃:=(T₁.mono e₂).mono t₃.ext
   cases ae with
   | pan v=>
     obtain ⟨u,hu,rfl⟩:=r
     obtain ⟨h₄,hle,q⟩:=hk
     exact ⟨Z₃,μ₃,g₃,.panic v,_,_,h₄,q,⟨u,hu,rfl⟩,S₃.weaken hle,kpT_rel _ T₃,D₃,((t₁.trans t₂).trans t₃).weaken hle⟩
   | ret v=>
     obtain ⟨u,hu,rfl⟩:=r
     obtain ⟨j,hr₃,q⟩:=hk
     obtain ⟨st,pd,hj,hst⟩ : ∃st pd,jmL fn tm E.n ps A B (g+1) (g+1+1) j=lpO st pd fn tm E.n ps A B (g+1) (g+1+1)∧st≠.busy:=by
      cases j<;>exact ⟨_,_,rfl,by simp⟩
     rw[hj] at hr₃
     obtain ⟨_,_,tmps₃,U₃,hw₃⟩:=lpO_at S₃ hr₃
     have hl₃ :(μ₃ (g+1+1)).blk=w.heap.size+1:=by rw[t₃.ext.loc _ (Nat.le_refl _),hl₂]
     obtain ⟨S₄,t₄⟩:=lpO_put (st':=.exhausted) (pd':=pd) S₃ hr₃ U₃
     rw[hl₃] at hw₃ S₄ t₄
     have hle:HLe (upd h₃ rl .dead) (upd h₃ rl (lpO .exhausted pd fn tm E.n ps A B (g+1) (g+1+1))):=by
      intro r
      by_cases hr:r=rl
      ·subst hr;exact .inr (upd_same _ _ _)
      ·rw[upd_ne _ _ hr,upd_ne _ _ hr];exact .inl rfl
     have S₅:=S₄.weaken hle
     have t₅:=(((t₁.trans t₂).trans t₃).trans t₄).weaken hle
     refine ⟨pd,_,lpO_over hw₃ hst,?_⟩
     cases j with
     | go=>
       have:pd=none:=by simp only[jmL,lpO,AObj.loop.injEq] at hj;exact hj.2.1.symm
       subst this
       exact ⟨Z₃,μ₃,g₃,.normal,tm,_,_,q,rfl,S₅,T₃,D₃,t₅⟩
     | ret=>
       have:pd=some .ret:=by simp only[jmL,lpO,AObj.loop.injEq] at hj;exact hj.2.1.symm
       subst this
       exact wpIn_ret ⟨Z₃,μ₃,g₃,.ret,tm,_,_,q,rfl,S₅,T₃,D₃,t₅⟩
     | exit id=>
       have:pd=some (.exit id):=by simp only[jmL,lpO,AObj.loop.injEq] at hj;exact hj.2.1.symm
       subst this
       exact wpIn_exit ⟨Z₃,μ₃,g₃,.exit id,tm,_,_,q,rfl,S₅,T₃,D₃,t₅⟩
end
end Go.Cw
end
section
namespace Go.Cw
open Go
def IOp.opds : IOp→List Opd
 | .toStr x | .toBy x | .mv x | .fAddr _ x | .zAddr x | .fld _ _ _ x | .eqN _ _ x | .un _ x | .conv _ x | .convT x | .mkI _ x | .nilck _ x | .ext x _ | .tyAs _ _ _ x | .len x | .lenT x | .load _ _ x | .lenM x | .box x | .range x | .next x | .entry x | .panic x=>[x]
 | .pick c x y=>[c,x,y]
 | .ixA _ _ x i | .ixS _ x i | .ixV _ _ _ x i | .ixT x i=>[x,i]
 | .bin _ x y | .eqB _ x y | .eqA _ _ x y=>[x,y]
 | .mkF _ f c=>f++c
 | .slA _ _ x lo hi mx | .slS _ x lo hi mx=>x ::(lo.toList++(hi.toList++mx.toList))
 | .slT x lo hi=>x ::(lo.toList++hi.toList)
 | .lenA _ | .alloc _ | .mkmap | .recov | .allocB=>[]
 | .mm _ xs=>xs
 | .build _ ps=>ps.map (·.2.2)
 | .bsl _ _ ps=>ps.map (·.2.2)
 | .lookup _ _ _ m k=>[m,k]
 | .mksl _ _ l c=>[l,c]
 | .store _ x v=>[x,v]
 | .app _ _ x y | .copy _ x y=>[x,y]
 | .mapU _ m k v=>[m,k,v]
 | .mapE _ _ m k=>[m,k]
 | .entS m s v=>[m,s,v]
 | .call f as=>f::as
 | .inv r _ as=>r::as
 | .defer f as=>f::as
def opdT : Opd→List Nat
 | .t n=>[n]
 | .c _=>[]
def It.rd (x:It):List Nat:=
 (match x.guard with
   | some (t,_)=>[t]
   | none=>[])++x.op.opds.flatMap opdT
def isA : IOp→Bool
 | .box _ | .alloc _ | .bsl _ _ _ | .mksl _ _ _ _ | .mkmap=>true
 | _=>false
def It.look (x:It):Bool:=
 match x.op with
 | .call _ _ | .inv _ _ _=>x.pc
 | .panic _ | .defer _ _ | .next _ | .entry _=>false
 | io=>!isMem io
def It.isC (x:It):Bool:=
 match x.op with
 | .call _ _ | .inv _ _ _=>true
 | _=>false
def It.isL (x:It):Bool:=
 match x.op with
 | .load _ _ _ | .zAddr _ | .lookup _ _ _ _ _ | .lenM _=>true
 | _=>false
section
variable {ρ ρ':Opd→AVal}
theorem evs_congr : ∀{l:List Opd},(∀x∈l,ρ x=ρ' x)→evs ρ l=evs ρ' l
 | [],_=>rfl
 | x::l,h=>by rw[evs_cons,evs_cons,h x (List.mem_cons_self),evs_congr fun y hy=>h y (List.mem_cons_of_mem _ hy)]
theorem evParts_congr : ∀{l:List (Nat×Nat×Opd)},(∀x∈l.map (·.2.2),ρ x=ρ' x)→evParts ρ l=evParts ρ' l
 | [],_=>rfl
 | (a,b,x)::l,h=>by rw[evParts_cons,evParts_cons,h x (by simp),evParts_congr fun y hy=>h y (by simp only[List.map_cons,List.mem_cons];exact .inr hy)]
theorem optmap_congr {o:Option Opd} (h:∀x∈o.toList,ρ x=ρ' x):o.map ρ=o.map ρ':=by
 cases o with
 | none=>rfl
 | some x=>simp[h x (by simp)]
theorem isat_congr {io:IOp} {h:Heap} {K:AVal→Prop} (hc:∀x∈io.opds,ρ x=ρ' x):isat io ρ h K=isat io ρ' h K:=by
 cases io<;>simp only[IOp.opds,List.mem_cons,List.not_mem_nil,or_false,forall_eq_or_imp,forall_eq,List.mem_append] at hc
 case slA=>simp only[isat_slA,hc.1,optmap_congr fun x hx=>hc.2 x (.inl hx),optmap_congr fun x hx=>hc.2 x (.inr (.inl hx)),optmap_congr fun x hx=>hc.2 x (.inr (.inr hx))]
 case slS=>simp only[isat_slS,hc.1,optmap_congr fun x hx=>hc.2 x (.inl hx),optmap_congr fun x hx=>hc.2 x (.inr (.inl hx)),optmap_congr fun x hx=>hc.2 x (.inr (.inr hx))]
 case slT=>simp only[isat_slT,hc.1,optmap_congr fun x hx=>hc.2 x (.inl hx),optmap_congr fun x hx=>hc.2 x (.inr hx)]
 case mkF=>simp only[isat_mkF,evs_congr fun x hx=>hc x (.inl hx),evs_congr fun x hx=>hc x (.inr hx)]
 case mm=>simp only[isat_mm,evs_congr hc]
 case build=>simp only[isat_build,evParts_congr hc]
 case app=>simp only[isat,iev]
 case copy=>simp only[isat,iev]
 all_goals simp_all[isat,iev]
theorem iev_congr {io:IOp} {h:Heap} (hc:∀x∈io.opds,ρ x=ρ' x):iev io ρ h=iev io ρ' h:=by
 cases io<;>simp only[IOp.opds,List.mem_cons,List.not_mem_nil,or_false,forall_eq_or_imp,forall_eq,List.mem_append] at hc
 case slA=>simp only[iev,hc.1,optmap_congr fun x hx=>hc.2 x (.inl hx),optmap_congr fun x hx=>hc.2 x (.inr (.inl hx)),optmap_congr fun x hx=>hc.2 x (.inr (.inr hx))]
 case slS=>simp only[iev,hc.1,optmap_congr fun x hx=>hc.2 x (.inl hx),optmap_congr fun x hx=>hc.2 x (.inr (.inl hx)),optmap_congr fun x hx=>hc.2 x (.inr (.inr hx))]
 case slT=>simp only[iev,hc.1,optmap_congr fun x hx=>hc.2 x (.inl hx),optmap_congr fun x hx=>hc.2 x (.inr hx)]
 case mkF=>simp only[iev,evs_congr fun x hx=>hc x (.inl hx),evs_congr fun x hx=>hc x (.inr hx)]
 case mm=>simp only[iev,evs_congr hc]
 case build=>simp only[iev,evParts_congr hc]
 all_goals simp_all[iev]
theorem xsat_congr {io:IOp} {nm:Nat} {h:Heap} {s:Nat} {K:AVal→Heap→Prop} (hc:∀x∈io.opds,ρ x=ρ' x):xsat io nm ρ h s K=xsat io nm ρ' h s K:=by
 cases io<;>simp only[IOp.opds,List.mem_cons,List.not_mem_nil,or_false,forall_eq_or_imp,forall_eq,List.mem_append] at hc
 case bsl=>simp only[xsat_bsl,evParts_congr hc]
 all_goals simp_all[xsat,ixe]
end
theorem osat_det {α:Type} {o:Option α} {K:α→Prop} (h:osat o K):∃r,(∀K':α→Prop,K' r→osat o K')∧K r:=by
 obtain ⟨r,rfl,k⟩:=osat_iff.1 h
 exact ⟨r,fun K' k'=>k',k⟩
theorem ckI_det {k:IntKind} {n:Int} {K:AVal→Prop} (h:ckI k n K):∃r,(∀K':AVal→Prop,K' r→ckI k n K')∧K r:=by
 unfold ckI at h
 split at h
 ·exact ⟨_,fun K' k'=>⟨h.1,k'⟩,h.2⟩
 ·rename_i hk
  refine ⟨_,fun K' k'=>?_,h⟩
  unfold ckI
  split
  ·exact absurd rfl hk
  ·exact k'
theorem satAr_det {op:BinOp} {k:IntKind} {a b:Int} {K:AVal→Prop} (h:satAr op k a b K):∃r,(∀K':AVal→Prop,K' r→satAr op k a b K')∧K r:=by
 cases op
 case add=>exact ckI_det h
 case sub=>exact ckI_det h
 case mul=>exact ckI_det h
 case quo=>obtain ⟨r,h1,h2⟩:=ckI_det h.2;exact ⟨r,fun K' k'=>⟨h.1,h1 K' k'⟩,h2⟩
 case rem=>exact ⟨_,fun K' k'=>⟨h.1,k'⟩,h.2⟩
 all_goals first|exact ⟨_,fun K' k'=>k',h⟩ | exact h.elim
theorem satBin_det {op:BinOp} {x y:AVal} {K:AVal→Prop} (h:satBin op x y K):∃r,(∀K':AVal→Prop,K' r→satBin op x y K')∧K r:=by
 cases x with
 | int k a=>
   cases y with
   | int k' b=>
     cases hop:isSh op with
     | false=>
       rw[satBin_ar _ _ _ _ _ _ hop] at h
       obtain ⟨r,h1,h2⟩:=satAr_det h.2
       refine ⟨r,fun K' k''=>?_,h2⟩
       rw[satBin_ar _ _ _ _ _ _ hop]
       exact ⟨h.1,h1 K' k''⟩
     | true=>
       cases op<;>simp only[isSh] at hop<;>first|cases hop;done|skip
       ·obtain ⟨r,h1,h2⟩:=ckI_det h.2;exact ⟨r,fun K' k'=>⟨h.1,h1 K' k'⟩,h2⟩
       ·exact ⟨_,fun K' k'=>⟨h.1,k'⟩,h.2⟩
   | _=>exact h.elim
 | str a=>
   cases y with
   | str b=>
     cases op<;>first
      | exact h.elim
      | exact ⟨_,fun K' k'=>⟨h.1,k'⟩,h.2⟩
      | exact ⟨_,fun K' k'=>k',h⟩
   | _=>exact h.elim
 | _=>exact h.elim
theorem satL_det {agg:Bool} {n:Nat} {cells:List AVal} {K:AVal→Prop} (h:satL agg n cells K):∃r,(∀K':AVal→Prop,K' r→satL agg n cells K')∧K r:=by
 cases agg with
 | true=>exact ⟨_,fun K' k'=>⟨h.1,k'⟩,h.2⟩
 | false=>exact osat_det h
theorem satLoad_det {h:Heap} {agg:Bool} {n:Nat} {a:AVal} {K:AVal→Prop} (hs:satLoad h agg n a K):∃r,(∀K':AVal→Prop,K' r→satLoad h agg n a K')∧K r:=by
 cases a with
 | ptr r off s=>
   rw[satLoad_ptr] at hs
   cases hr:h r with
   | row cells s'=>
     rw[hr] at hs
     obtain ⟨r',h1,h2⟩:=satL_det hs.2
     refine ⟨r',fun K' k'=>?_,h2⟩
     rw[satLoad_ptr,hr]
     exact ⟨hs.1,h1 K' k'⟩
   | _=>rw[hr] at hs;exact hs.elim
 | pv cells=>exact satL_det hs
 | _=>exact hs.elim
theorem satSlS_det {esz:Nat} {x:AVal} {lo hi mx:Option AVal} {K:AVal→Prop} (h:satSlS esz x lo hi mx K):∃r,(∀K':AVal→Prop,K' r→satSlS esz x lo hi mx K')∧K r:=by
 cases x with
 | vl n cells=>cases mx with
   | none=>exact ⟨_,fun K' k'=>⟨h.1,k'⟩,h.2⟩
   | some m=>exact osat_det h
 | sl r off s len c=>cases c with
   | ex c=>rw[satSlS_ex] at h;exact ⟨_,fun K' k'=>by rw[satSlS_ex];exact ⟨h.1,k'⟩,h.2⟩
   | gr e=>cases mx with
     | none=>exact ⟨_,fun K' k'=>⟨h.1,k'⟩,h.2⟩
     | some m=>simp only[satSlS] at h ⊢;exact osat_det h
 | _=>cases mx <;>(simp only[satSlS] at h ⊢;exact osat_det h)
theorem isat_det {io:IOp} {ρ:Opd→AVal} {h:Heap} {K:AVal→Prop} (hs:isat io ρ h K):∃r,(∀K':AVal→Prop,K' r→isat io ρ h K')∧K r:=by
 cases io
 case mv=>exact ⟨_,fun K' k'=>k',hs⟩
 case pick c x y=>
  simp only[isat_pick] at hs ⊢
  cases hc:ρ c with
  | bool b=>rw[hc] at hs;exact ⟨_,fun K' k'=>k',hs⟩
  | _=>rw[hc] at hs;exact hs.elim
 case bin=>exact satBin_det hs
 case un op x=>
  simp only[isat_un] at hs ⊢
  unfold satUn at hs
  split at hs
  ·rename_i hx;obtain ⟨r,h1,h2⟩:=ckI_det hs;rw[hx];exact ⟨r,fun K' k'=>h1 K' k',h2⟩
  ·rename_i hx;rw[hx];exact ⟨_,fun K' k'=>k',hs⟩
  ·rename_i h1 h2
   obtain ⟨r,h3,h4⟩:=osat_det hs
   refine ⟨r,fun K' k'=>?_,h4⟩
   unfold satUn
   split
   ·rename_i hx;exact absurd hx (h1 _ _ rfl)
   ·rename_i hx;exact absurd hx (h2 _ rfl)
   ·exact h3 K' k'
 case conv k x=>
  simp only[isat_conv] at hs ⊢
  cases hx:ρ x with
  | int k' n=>rw[hx] at hs;exact ckI_det hs
  | _=>rw[hx] at hs;exact hs.elim
 case ixA len esz x i=>
  simp only[isat_ixA] at hs ⊢
  unfold satIxA at hs
  split at hs
  ·rename_i h1 h2;rw[h1,h2];exact ⟨_,fun K' k'=>⟨hs.1,k'⟩,hs.2⟩
  ·rename_i h1 h2;rw[h1,h2];exact ⟨_,fun K' k'=>⟨hs.1,k'⟩,hs.2⟩
  ·exact hs.elim
 case ixS esz x i=>
  simp only[isat_ixS] at hs ⊢
  unfold satIxS at hs
  split at hs
  ·rename_i h1 h2;rw[h1,h2];exact ⟨_,fun K' k'=>⟨hs.1,k'⟩,hs.2⟩
  ·rename_i h1 h2;rw[h1,h2];exact ⟨_,fun K' k'=>⟨hs.1,k'⟩,hs.2⟩
  ·exact hs.elim
 case ixV len esz agg x i=>
  simp only[isat_ixV] at hs ⊢
  unfold satIxV at hs
  split at hs
  ·rename_i h1 h2;rw[h1,h2];obtain ⟨r,h3,h4⟩:=satL_det hs.2;exact ⟨r,fun K' k'=>⟨hs.1,h3 K' k'⟩,h4⟩
  ·exact hs.elim
 case ixT x i=>
  simp only[isat_ixT] at hs ⊢
  unfold satIxT at hs
  split at hs
  ·rename_i h1 h2;rw[h1,h2];exact ⟨_,fun K' k'=>⟨hs.1,k'⟩,hs.2⟩
  ·exact hs.elim
 case slA len esz x lo hi mx=>
  simp only[isat_slA] at hs ⊢
  cases hx:ρ x with
  | ptr r off s=>rw[hx] at hs;exact ⟨_,fun K' k'=>⟨hs.1,k'⟩,hs.2⟩
  | pv cells=>rw[hx] at hs;exact ⟨_,fun K' k'=>⟨hs.1,k'⟩,hs.2⟩
  | _=>rw[hx] at hs;exact hs.2.elim
 case slS=>exact satSlS_det hs
 case slT x lo hi=>
  simp only[isat_slT] at hs ⊢
  cases hx:ρ x with
  | str s=>rw[hx] at hs;exact ⟨_,fun K' k'=>⟨hs.1,k'⟩,hs.2⟩
  | _=>rw[hx] at hs;exact hs.elim
 case fld agg off n x=>
  simp only[isat_fld] at hs ⊢
  cases hx:ρ x with
  | agg cs=>rw[hx] at hs;exact satL_det hs
  | _=>rw[hx] at hs;exact hs.elim
 case load=>exact satLoad_det hs
 case mkI=>exact ⟨_,fun K' k'=>k',hs⟩
 case mkF=>exact ⟨_,fun K' k'=>k',hs⟩
 case lenA=>exact ⟨_,fun K' k'=>k',hs⟩
 all_goals first|exact osat_det hs|exact hs.elim
theorem isat_mono {io:IOp} {ρ:Opd→AVal} {h:Heap} {K K':AVal→Prop} (hs:isat io ρ h K) (hk:∀v,K v→K' v):isat io ρ h K':=
 let ⟨_,h1,h2⟩:=isat_det hs;h1 K' (hk _ h2)
theorem isat_same {io:IOp} {ρ:Opd→AVal} {h:Heap} {a b:AVal} (ha:isat io ρ h (· = a)) (hb:isat io ρ h (· = b)):a=b:=by
 obtain ⟨r,h1,rfl⟩:=isat_sound ha
 obtain ⟨r',h2,rfl⟩:=isat_sound hb
 exact Option.some.inj (h1.symm.trans h2)
inductive Mk where
 | ptr (cells:List AVal)
 | sl (cells:List AVal) (len cap:Nat)
 | map
def Mk.val (nm s:Nat):Mk→AVal
 | .ptr _=>.ptr nm 0 (s+1)
 | .sl _ len cap=>.sl nm 0 (s+1) len (.ex cap)
 | .map=>.map nm (s+1)
def Mk.obj (s:Nat):Mk→AObj
 | .ptr cells=>.row cells (s+1)
 | .sl cells _ _=>.row cells (s+1)
 | .map=>.map [] (s+1)
open Classical in
noncomputable def mkf (io:IOp) (ρ:Opd→AVal):Option Mk:=
 match io with
 | .box x=>(acells (ρ x)).map .ptr
 | .alloc cells=>some (.ptr cells)
 | .bsl len cells parts=>(afill cells (evParts ρ parts)).map fun cs=>.sl cs len len
 | .mksl bytes zero l c=>match ρ l,ρ c with
   | .int _ l,.int _ c=>if 0≤l∧l≤c∧bytes*c≤281474976710656∧c≤9223372036854775807 then some (.sl (List.replicate c.toNat zero).flatten l.toNat c.toNat) else none
   | _,_=>none
 | .mkmap=>some .map
 | _=>none
theorem mk_iff {io:IOp} (hA:isA io=true) {ρ:Opd→AVal} {nm s:Nat} {h:Heap} {K:AVal→Heap→Prop} :
 xsat io nm ρ h s K↔∃c,mkf io ρ=some c∧K (c.val nm s) (upd h nm (c.obj s)):=by
 cases io<;>first|cases hA;done|skip
 case box x=>
  simp only[xsat_box,mkf]
  cases acells (ρ x) with
  | none=>simp[xBox]
  | some cs=>simp[Mk.val,Mk.obj]
 case alloc cells=>simp[mkf,Mk.val,Mk.obj]
 case bsl len cells parts=>
  simp only[xsat_bsl,mkf]
  cases afill cells (evParts ρ parts) with
  | none=>simp[xBsl]
  | some cs=>simp[Mk.val,Mk.obj]
 case mksl bytes zero l c=>
  simp only[xsat_mksl,mkf]
  cases hl:ρ l<;>cases hc:ρ c<;>simp only[xMk,reduceCtorEq,false_and,exists_false]
  constructor
  ·rintro ⟨h1,h2⟩
   exact ⟨_,if_pos h1,h2⟩
  ·rintro ⟨c,h1,h2⟩
   split at h1
   ·rename_i hk
    simp only[Option.some.injEq] at h1
    subst h1
    exact ⟨hk,h2⟩
   ·cases h1
 case mkmap=>simp[mkf,Mk.val,Mk.obj]
theorem mkf_congr {io:IOp} {ρ ρ':Opd→AVal} (hc:∀x∈io.opds,ρ x=ρ' x):mkf io ρ=mkf io ρ':=by
 cases io<;>simp only[IOp.opds,List.mem_cons,List.not_mem_nil,or_false,forall_eq_or_imp,forall_eq] at hc
 case bsl=>simp only[mkf,evParts_congr hc]
 all_goals simp_all[mkf]
theorem Mk.stamp (c:Mk) (s:Nat) :(c.obj s).stamp=some (s+1):=by cases c<;>rfl
theorem isat_made {io:IOp} {ρ:Opd→AVal} {h:Heap} {nm:Nat} {o:Nat→AObj} (ho:∀s,(o s).stamp=some (s+1)) {K:Nat→AVal→Prop} (hs:∀s,isat io ρ (upd h nm (o s)) (K s)) :
 ∃v,isat io ρ h (· = v)∧∀s,isat io ρ (upd h nm (o s)) (· = v)∧K s v:=by
 have flat :(∀h₁ h₂:Heap,∀K,isat io ρ h₁ K=isat io ρ h₂ K)→∃v,isat io ρ h (· = v)∧∀s,isat io ρ (upd h nm (o s)) (· = v)∧K s v:=by
  intro hh
  obtain ⟨v,h1,_⟩:=isat_det (hs 0)
  refine ⟨v,by rw[hh h (upd h nm (o 0))];exact h1 _ rfl,fun s=>?_⟩
  obtain ⟨v',h1',h2'⟩:=isat_det (hs s)
  obtain rfl:v=v':=isat_same (io:=io) (ρ:=ρ) (h:=upd h nm (o s)) (by rw[hh _ (upd h nm (o 0))];exact h1 _ rfl) (h1' _ rfl)
  exact ⟨h1' _ rfl,h2'⟩
 have rowmap:∀{r s₀:Nat},(∀s,∃x,(upd h nm (o s)) r=x∧x.stamp=some s₀)→r≠nm:=by
  rintro r s₀ hx rfl
  obtain ⟨x,h1,h2⟩:=hx s₀
  rw[upd_same] at h1
  subst h1
  rw[ho s₀] at h2
  simp at h2
 have same:∀{r:Nat},r≠nm→∀s,upd h nm (o s) r=h r:=fun hr s=>upd_ne _ _ hr
 have conc:∀{r:Nat},r≠nm→(∀h₁ h₂:Heap,h₁ r=h₂ r→∀K,isat io ρ h₁ K=isat io ρ h₂ K)→∃v,isat io ρ h (· = v)∧∀s,isat io ρ (upd h nm (o s)) (· = v)∧K s v:=by
  intro r hr hh
  obtain ⟨v,h1,_⟩:=isat_det (hs 0)
  refine ⟨v,by rw[hh h (upd h nm (o 0)) (same hr 0).symm];exact h1 _ rfl,fun s=>?_⟩
  obtain ⟨v',h1',h2'⟩:=isat_det (hs s)
  obtain rfl:v=v':=isat_same (io:=io) (ρ:=ρ) (h:=upd h nm (o s)) (by rw[hh _ (upd h nm (o 0)) ((same hr s).trans (same hr 0).symm)];exact h1 _ rfl) (h1' _ rfl)
  exact ⟨h1' _ rfl,h2'⟩
 cases io
 case load agg n x=>
  cases hx:ρ x with
  | ptr r off s₀=>
    have hr:r≠nm:=rowmap (r:=r) (s₀:=s₀) fun s=>by
     have:=hs s
     rw[isat_load,hx,satLoad_ptr] at this
     cases hu:upd h nm (o s) r with
     | row cells s'=>rw[hu] at this;exact ⟨_,rfl,by rw[this.1];rfl⟩
     | _=>rw[hu] at this;exact this.elim
    exact conc hr fun h₁ h₂ he K=>by simp only[isat_load,hx,satLoad_ptr,he]
  | pv cells=>exact flat fun h₁ h₂ K=>by simp only[isat_load,hx,satLoad_pv]
  | _=>have:=hs 0;rw[isat_load,hx] at this;exact this.elim
 case zAddr x=>
  cases hx:ρ x with
  | ptr r off s₀=>
    have hr:r≠nm:=rowmap (r:=r) (s₀:=s₀) fun s=>by
     have:=hs s
     rw[isat_zAddr,hx,aZAddr_ptr] at this
     cases hu:upd h nm (o s) r with
     | row cells s'=>
       rw[hu] at this
       obtain ⟨v,h1,_⟩:=osat_iff.1 this
       simp only[zSel] at h1
       split at h1
       ·rename_i e;exact ⟨_,rfl,by rw[e];rfl⟩
       ·cases h1
     | _=>
       rw[hu] at this
       obtain ⟨v,h1,_⟩:=osat_iff.1 this
       simp[zSel] at h1
    exact conc hr fun h₁ h₂ he K=>by simp only[isat_zAddr,hx,aZAddr_ptr,he]
  | _=>
    have:=hs 0
    rw[isat_zAddr,hx] at this
    obtain ⟨v,h1,_⟩:=osat_iff.1 this
    simp[aZAddr] at h1
 case lookup kn ok zero m k=>
  have hm:∀s,∃es,mapOf (upd h nm (o s)) (ρ m)=some es:=by
   intro s
   have:=hs s
   rw[isat_lookup] at this
   obtain ⟨r,h1,_⟩:=osat_iff.1 this
   unfold aLookup at h1
   split at h1
   ·split at h1
    ·rename_i es he;exact ⟨es,he⟩
    ·cases h1
   ·cases h1
  cases hx:ρ m with
  | map r s₀=>
    have hr:r≠nm:=rowmap (r:=r) (s₀:=s₀) fun s=>by
     obtain ⟨es,he⟩:=hm s
     rw[hx] at he
     simp only[mapOf] at he
     split at he
     ·rename_i es' s' hu
      split at he
      ·rename_i hss;exact ⟨_,hu,by rw[hss];rfl⟩
      ·cases he
     ·cases he
    exact conc hr fun h₁ h₂ he K=>by simp only[isat_lookup,aLookup,hx,mapOf,he]
  | nilm=>exact flat fun h₁ h₂ K=>by simp only[isat_lookup,aLookup,hx,mapOf]
  | _=>obtain ⟨es,he⟩:=hm 0;rw[hx] at he;simp[mapOf] at he
 case lenM m=>
  have hm:∀s,∃es,mapOf (upd h nm (o s)) (ρ m)=some es:=by
   intro s
   have:=hs s
   rw[isat_lenM] at this
   obtain ⟨r,h1,_⟩:=osat_iff.1 this
   unfold aLenM at h1
   obtain ⟨es,h2,_⟩:=Option.map_eq_some_iff.1 h1
   exact ⟨es,h2⟩
  cases hx:ρ m with
  | map r s₀=>
    have hr:r≠nm:=rowmap (r:=r) (s₀:=s₀) fun s=>by
     obtain ⟨es,he⟩:=hm s
     rw[hx] at he
     simp only[mapOf] at he
     split at he
     ·rename_i es' s' hu
      split at he
      ·rename_i hss;exact ⟨_,hu,by rw[hss];rfl⟩
      ·cases he
     ·cases he
    exact conc hr fun h₁ h₂ he K=>by simp only[isat_lenM,hx,mapOf,he]
  | nilm=>exact flat fun h₁ h₂ K=>by simp only[isat_lenM,hx,mapOf]
  | _=>obtain ⟨es,he⟩:=hm 0;rw[hx] at he;simp[mapOf] at he
 all_goals exact flat fun h₁ h₂ K=>rfl
theorem isat_past {io:IOp} {ρ:Opd→AVal} {h:Heap} {nm:Nat} {o:AObj} {K:AVal→Prop} (hd:h nm=.dead) (hs:isat io ρ h K):isat io ρ (upd h nm o) K:=by
 have same:∀{r:Nat},h r≠.dead→upd h nm o r=h r:=fun hr=>upd_ne _ _ fun he=>hr (he ▸ hd)
 cases io
 case load agg n x=>
  cases hx:ρ x with
  | ptr r off s₀=>
    rw[isat_load,hx,satLoad_ptr] at hs ⊢
    rw[same]
    ·exact hs
    ·intro he;rw[he] at hs;exact hs.elim
  | pv cells=>rw[isat_load,hx] at hs ⊢;exact hs
  | _=>rw[isat_load,hx] at hs;exact hs.elim
 case zAddr x=>
  cases hx:ρ x with
  | ptr r off s₀=>
    rw[isat_zAddr,hx,aZAddr_ptr] at hs ⊢
    rw[same]
    ·exact hs
    ·intro he
     rw[he] at hs
     obtain ⟨v,h1,_⟩:=osat_iff.1 hs
     simp[zSel] at h1
  | _=>
    rw[isat_zAddr,hx] at hs
    obtain ⟨v,h1,_⟩:=osat_iff.1 hs
    simp[aZAddr] at h1
 case lookup kn ok zero m k=>
  rw[isat_lookup] at hs ⊢
  have:aLookup (upd h nm o) kn ok zero (ρ m) (ρ k)=aLookup h kn ok zero (ρ m) (ρ k):=by
   unfold aLookup
   cases hx:ρ m with
   | map r s₀=>
     by_cases hr:h r=.dead
     ·exfalso
      obtain ⟨v,h1,_⟩:=osat_iff.1 hs
      rw[hx] at h1
      simp[aLookup,mapOf,hr] at h1
     ·simp only[mapOf,same hr]
   | _=>rfl
  rw[this];exact hs
 case lenM m=>
  rw[isat_lenM] at hs ⊢
  have:mapOf (upd h nm o) (ρ m)=mapOf h (ρ m):=by
   cases hx:ρ m with
   | map r s₀=>
     by_cases hr:h r=.dead
     ·exfalso
      obtain ⟨v,h1,_⟩:=osat_iff.1 hs
      rw[hx] at h1
      simp[mapOf,hr,aLenM] at h1
     ·simp only[mapOf,same hr]
   | _=>rfl
  rw[this];exact hs
 all_goals exact hs
end Go.Cw
end
section
namespace Go.Cw
open Go
theorem xEl_det {h:Heap} {esz:Nat} {y:AVal} {K:Nat→List AVal→Prop} (hs:xEl h esz y K):∃n ys,(∀K':Nat→List AVal→Prop,K' n ys→xEl h esz y K')∧K n ys:=by
 cases y with
 | sl r off s len c=>
   rw[xEl_sl] at hs
   cases hr:h r with
   | row cells s'=>rw[hr] at hs;exact ⟨_,_,fun K' k'=>by rw[xEl_sl,hr];exact ⟨hs.1,k'⟩,hs.2⟩
   | _=>rw[hr] at hs;exact hs.elim
 | vl n cells=>exact ⟨_,_,fun K' k'=>⟨hs.1,k'⟩,hs.2⟩
 | nils=>exact ⟨_,_,fun K' k'=>k',hs⟩
 | es=>exact ⟨_,_,fun K' k'=>k',hs⟩
 | _=>exact hs.elim
theorem xStR_det {o:AObj} {h:Heap} {r off s:Nat} {vs:List AVal} {v:AVal} {K:AVal→Heap→Prop} (hs:xStR o h r off s vs v K) :
 ∃u h',(∀K':AVal→Heap→Prop,K' u h'→xStR o h r off s vs v K')∧K u h':=by
 cases o with
 | row cells s'=>exact ⟨_,_,fun K' k'=>⟨hs.1,k'⟩,hs.2⟩
 | _=>exact hs.elim
theorem xAp_det {nm esz bytes s₀:Nat} {x:AVal} {h:Heap} {K:AVal→Heap→Prop} {n:Nat} {ys:List AVal} (hs:xAp nm esz bytes s₀ x h K n ys) :
 ∃u h',(∀K':AVal→Heap→Prop,K' u h'→xAp nm esz bytes s₀ x h K' n ys)∧K u h':=by
 by_cases hn:n=0
 ·obtain ⟨h1,h2⟩:=hs.1 hn
  exact ⟨_,_,fun K' k'=>⟨fun _=>⟨h1,k'⟩,fun hn'=>absurd hn hn'⟩,h2⟩
 ·have hs:=hs.2 hn
  have key :(∃u h',(∀K':AVal→Heap→Prop,K' u h'→xApN nm esz bytes s₀ x h K' n ys)∧K u h')→∃u h',(∀K':AVal→Heap→Prop,K' u h'→xAp nm esz bytes s₀ x h K' n ys)∧K u h':=by
   rintro ⟨u,h',a,b⟩
   exact ⟨u,h',fun K' k'=>⟨fun hn'=>absurd hn' hn,fun _=>a K' k'⟩,b⟩
  apply key
  cases x with
  | nils=>exact ⟨_,_,fun K' k'=>⟨hs.1,k'⟩,hs.2⟩
  | es=>exact ⟨_,_,fun K' k'=>⟨hs.1,k'⟩,hs.2⟩
  | sl r off s len c=>
    simp only[xApN_sl] at hs ⊢
    cases hr:h r with
    | row cells s'=>
      rw[hr] at hs
      cases c with
      | ex c=>
        obtain ⟨h1,h2,h3⟩:=hs
        by_cases hc:len+n≤c
        ·exact ⟨_,_,fun K' k'=>⟨h1,fun _=>⟨(h2 hc).1,k'⟩,fun hlt=>absurd hlt (by omega)⟩,(h2 hc).2⟩
        ·exact ⟨_,_,fun K' k'=>⟨h1,fun hle=>absurd hle hc,fun _=>k'⟩,h3 (by omega)⟩
      | gr e=>exact ⟨_,_,fun K' k'=>⟨hs.1,hs.2.1,k'⟩,hs.2.2⟩
    | _=>rw[hr] at hs;exact hs.elim
  | _=>exact hs.elim
theorem xsat_det {io:IOp} {nm:Nat} {ρ:Opd→AVal} {h:Heap} {s:Nat} {K:AVal→Heap→Prop} (hs:xsat io nm ρ h s K) :
 ∃u h',(∀K':AVal→Heap→Prop,K' u h'→xsat io nm ρ h s K')∧K u h':=by
 by_cases hA:isA io=true
 ·obtain ⟨c,h1,h2⟩:=(mk_iff hA).1 hs
  exact ⟨_,_,fun K' k'=>(mk_iff hA).2 ⟨c,h1,k'⟩,h2⟩
 ·cases io
  case store n x v=>
   simp only[xsat_store] at hs ⊢
   cases hv:acells (ρ v) with
   | none=>rw[hv] at hs;exact hs.elim
   | some vs=>
     rw[hv] at hs
     cases hx:ρ x with
     | ptr r off s=>
       rw[hx] at hs
       obtain ⟨u,h',h1,h2⟩:=xStR_det hs.2
       exact ⟨u,h',fun K' k'=>⟨hs.1,h1 K' k'⟩,h2⟩
     | _=>rw[hx] at hs;exact hs.2.elim
  case app esz bytes x y=>
   obtain ⟨n,ys,h1,h2⟩:=xEl_det hs
   obtain ⟨u,h',h3,h4⟩:=xAp_det h2
   exact ⟨u,h',fun K' k'=>h1 _ (h3 K' k'),h4⟩
  case copy esz x y=>
   obtain ⟨n,ys,h1,h2⟩:=xEl_det hs
   cases hx:ρ x with
   | sl r off s len c=>
     rw[hx] at h2
     obtain ⟨u,h',h3,h4⟩:=xStR_det h2
     exact ⟨u,h',fun K' k'=>h1 _ (by rw[hx];exact h3 K' k'),h4⟩
   | nils=>rw[hx] at h2;exact ⟨_,_,fun K' k'=>h1 _ (by rw[hx];exact k'),h2⟩
   | es=>rw[hx] at h2;exact ⟨_,_,fun K' k'=>h1 _ (by rw[hx];exact k'),h2⟩
   | _=>rw[hx] at h2;exact h2.elim
  case box=>exact absurd rfl hA
  case alloc=>exact absurd rfl hA
  case bsl=>exact absurd rfl hA
  case mksl=>exact absurd rfl hA
  case mkmap=>exact absurd rfl hA
  all_goals
   simp only[xsat] at hs ⊢
   obtain ⟨⟨u,h',s'⟩,h1,h2⟩:=osat_iff.1 hs
   exact ⟨u,h',fun K' k'=>osat_iff.2 ⟨_,h1,k'⟩,h2⟩
theorem xsat_mono {io:IOp} {nm:Nat} {ρ:Opd→AVal} {h:Heap} {s:Nat} {K K':AVal→Heap→Prop} (hs:xsat io nm ρ h s K) (hk:∀u h',K u h'→K' u h'):xsat io nm ρ h s K':=
 let ⟨_,_,h1,h2⟩:=xsat_det hs;h1 K' (hk _ _ h2)
def isXo : IOp→Bool
 | .store _ _ _ | .app _ _ _ _ | .copy _ _ _=>true
 | _=>false
section
variable {h : Heap} {nt:Nat} {o:Nat→AObj} (ho:∀s,(o s).stamp=some (s+1)) (hd:h nt=.dead)
include ho
theorem row_ne {r s:Nat} (hr:∀s₀,∃cells,upd h nt (o s₀) r=.row cells s):r≠nt:=by
 rintro rfl
 obtain ⟨cells,hc⟩:=hr s
 rw[upd_same] at hc
 have:=ho s
 rw[hc] at this
 simp[AObj.stamp] at this
include hd
theorem xEl_made {esz:Nat} {y:AVal} {K:Nat→Nat→List AVal→Prop} (hs:∀s₀,xEl (upd h nt (o s₀)) esz y (K s₀)) :
 ∃n ys,(∀K':Nat→List AVal→Prop,K' n ys→xEl h esz y K')∧∀s₀,K s₀ n ys:=by
 cases y with
 | sl r off s len c=>
   have hr:r≠nt:=row_ne ho (r:=r) (s:=s) fun s₀=>by
    have:=hs s₀
    rw[xEl_sl] at this
    cases hu:upd h nt (o s₀) r with
    | row cells s'=>rw[hu] at this;exact ⟨cells,by rw[this.1.1]⟩
    | _=>rw[hu] at this;exact this.elim
   have hs':∀s₀,xElR (h r) esz off s len (K s₀):=fun s₀=>by have:=hs s₀;rwa [xEl_sl,upd_ne _ _ hr] at this
   cases hx:h r with
   | row cells s'=>
     simp only[hx] at hs'
     exact ⟨_,_,fun K' k'=>by rw[xEl_sl,hx];exact ⟨(hs' 0).1,k'⟩,fun s₀=>(hs' s₀).2⟩
   | _=>simp only[hx] at hs';exact (hs' 0).elim
 | vl n cells=>exact ⟨_,_,fun K' k'=>⟨(hs 0).1,k'⟩,fun s₀=>(hs s₀).2⟩
 | nils=>exact ⟨_,_,fun K' k'=>k',hs⟩
 | es=>exact ⟨_,_,fun K' k'=>k',hs⟩
 | _=>exact (hs 0).elim
theorem xStR_made {r off s:Nat} {vs:List AVal} {v:AVal} {K:Nat→AVal→Heap→Prop} (hs:∀s₀,xStR (upd h nt (o s₀) r) (upd h nt (o s₀)) r off s vs v (K s₀)) :
 ∃u h',(∀K':AVal→Heap→Prop,K' u h'→xStR (h r) h r off s vs v K')∧h' nt=.dead∧∀s₀,K s₀ u (upd h' nt (o s₀)):=by
 have hr:r≠nt:=row_ne ho (r:=r) (s:=s) fun s₀=>by
  have:=hs s₀
  cases hu:upd h nt (o s₀) r with
  | row cells s'=>rw[hu] at this;exact ⟨cells,by rw[this.1.1]⟩
  | _=>rw[hu] at this;exact this.elim
 have hs':∀s₀,xStR (h r) (upd h nt (o s₀)) r off s vs v (K s₀):=fun s₀=>by have:=hs s₀;rwa [upd_ne _ _ hr] at this
 cases hx:h r with
 | row cells s'=>
   simp only[hx] at hs'
   refine ⟨_,_,fun K' k'=>⟨(hs' 0).1,k'⟩,by rw[upd_ne _ _ (Ne.symm hr)];exact hd,fun s₀=>?_⟩
   have:=(hs' s₀).2
   rwa [upd_comm _ _ _ (Ne.symm hr)] at this
 | _=>simp only[hx] at hs';exact (hs' 0).elim
theorem xo_made {io:IOp} (hio:isXo io=true) {nm:Nat} (hne:nm≠nt) {ρ:Opd→AVal} {s:Nat} {K:Nat→AVal→Heap→Prop} (hs:∀s₀,xsat io nm ρ (upd h nt (o s₀)) s (K s₀)) :
 ∃u h',(∀K':AVal→Heap→Prop,K' u h'→xsat io nm ρ h s K')∧h' nt=.dead∧∀s₀,K s₀ u (upd h' nt (o s₀)):=by
 cases io<;>first|cases hio;done|skip
 case store n x v=>
  simp only[xsat_store] at hs ⊢
  cases hv:acells (ρ v) with
  | none=>rw[hv] at hs;exact (hs 0).elim
  | some vs=>
    rw[hv] at hs
    cases hx:ρ x with
    | ptr r off s=>
      rw[hx] at hs
      obtain ⟨u,h',h1,h2⟩:=xStR_made ho hd fun s₀=>(hs s₀).2
      exact ⟨u,h',fun K' k'=>⟨(hs 0).1,h1 K' k'⟩,h2⟩
    | _=>rw[hx] at hs;exact (hs 0).2.elim
 case copy esz x y=>
  simp only[xsat_copy] at hs ⊢
  obtain ⟨n,ys,h1,h2⟩:=xEl_made ho hd hs
  cases hx:ρ x with
  | sl r off s len c=>
    rw[hx] at h2
    obtain ⟨u,h',h3,h4⟩:=xStR_made ho hd h2
    exact ⟨u,h',fun K' k'=>h1 _ (h3 K' k'),h4⟩
  | nils=>rw[hx] at h2;exact ⟨_,h,fun K' k'=>h1 _ k',hd,h2⟩
  | es=>rw[hx] at h2;exact ⟨_,h,fun K' k'=>h1 _ k',hd,h2⟩
  | _=>rw[hx] at h2;exact (h2 0).elim
 case app esz bytes x y=>
  simp only[xsat_app] at hs ⊢
  obtain ⟨n,ys,h1,h2⟩:=xEl_made ho hd hs
  by_cases hn:n=0
  ·exact ⟨_,h,fun K' k'=>h1 _ ⟨fun _=>⟨((h2 0).1 hn).1,k'⟩,fun hn'=>absurd hn hn'⟩,hd,fun s₀=>((h2 s₀).1 hn).2⟩
  ·have h2:=fun s₀=>(h2 s₀).2 hn
   have key :(∃u h',(∀K':AVal→Heap→Prop,K' u h'→xApN nm esz bytes s (ρ x) h K' n ys)∧h' nt=.dead∧∀s₀,K s₀ u (upd h' nt (o s₀)))→
    ∃u h',(∀K':AVal→Heap→Prop,K' u h'→xEl h esz (ρ y) (xAp nm esz bytes s (ρ x) h K'))∧h' nt=.dead∧∀s₀,K s₀ u (upd h' nt (o s₀)):=by
    rintro ⟨u,h',a,b⟩
    exact ⟨u,h',fun K' k'=>h1 _ ⟨fun hn'=>absurd hn' hn,fun _=>a K' k'⟩,b⟩
   apply key
   have new:∀{cells:List AVal} {len:Nat} {s₁:Nat},(∀s₀,K s₀ (.sl nm 0 s₁ len (.gr esz)) (upd (upd h nt (o s₀)) nm (.row cells s₁)))→
    (upd h nm (.row cells s₁)) nt=.dead∧∀s₀,K s₀ (.sl nm 0 s₁ len (.gr esz)) (upd (upd h nm (.row cells s₁)) nt (o s₀)):=by
    intro cells len s₁ hk
    refine ⟨by rw[upd_ne _ _ (Ne.symm hne)];exact hd,fun s₀=>?_⟩
    have:=hk s₀
    rwa [upd_comm _ _ _ (Ne.symm hne)] at this
   cases hx:ρ x with
   | nils=>rw[hx] at h2;exact ⟨_,_,fun K' k'=>⟨(h2 0).1,k'⟩,new fun s₀=>(h2 s₀).2⟩
   | es=>rw[hx] at h2;exact ⟨_,_,fun K' k'=>⟨(h2 0).1,k'⟩,new fun s₀=>(h2 s₀).2⟩
   | sl r off s' len c=>
     rw[hx] at h2
     simp only[xApN_sl] at h2 ⊢
     have hr:r≠nt:=row_ne ho (r:=r) (s:=s') fun s₀=>by
      have:=h2 s₀
      cases hu:upd h nt (o s₀) r with
      | row cells s'=>rw[hu] at this;exact ⟨cells,by rw[this.1.1]⟩
      | _=>rw[hu] at this;exact this.elim
     simp only[upd_ne _ _ hr] at h2
     cases hx':h r with
     | row cells s''=>
       simp only[hx'] at h2
       cases c with
       | ex c=>
         by_cases hc:len+n≤c
         ·refine ⟨_,_,fun K' k'=>⟨(h2 0).1,fun _=>⟨((h2 0).2.1 hc).1,k'⟩,fun hlt=>absurd hlt (by omega)⟩,by rw[upd_ne _ _ (Ne.symm hr)];exact hd,fun s₀=>?_⟩
          have:=((h2 s₀).2.1 hc).2
          rwa [upd_comm _ _ _ (Ne.symm hr)] at this
         ·exact ⟨_,_,fun K' k'=>⟨(h2 0).1,fun hle=>absurd hle hc,fun _=>k'⟩,new fun s₀=>(h2 s₀).2.2 (by omega)⟩
       | gr e=>
         refine ⟨_,_,fun K' k'=>⟨(h2 0).1,(h2 0).2.1,k'⟩,by rw[upd_ne _ _ (Ne.symm hne),upd_ne _ _ (Ne.symm hr)];exact hd,fun s₀=>?_⟩
         have:=(h2 s₀).2.2
         rwa [upd_comm _ _ _ (Ne.symm hr),upd_comm _ _ _ (Ne.symm hne)] at this
     | _=>simp only[hx'] at h2;exact (h2 0).elim
   | _=>rw[hx] at h2;exact (h2 0).elim
end
end Go.Cw
end
section
namespace Go.Cw
open Go
def Fire (x:It) (tm:TM):Option Bool:=
 match x.guard with
 | none=>some true
 | some (t,b)=>match tm t with
   | .bool c=>some (c == b)
   | .tup []=>some false
   | _=>none
theorem awit_iff {E:Env} {Q:Post} {x:Stp} {K:KT} {tm:TM} {df:DF} {h:Heap} :
 AWit E Q x K tm df h↔(Fire x.it tm=some true∧AWx E Q x K tm df h)∨(Fire x.it tm=some false∧K (putD tm x.it.dst undefA) df h):=by
 unfold AWit Fire
 cases hg:x.it.guard with
 | none=>simp
 | some tb=>
   obtain ⟨t,b⟩:=tb
   cases hv:tm t with
   | bool c=>by_cases hcb:c=b<;>simp[Gd,hcb,hv]
   | tup l=>cases l<;>simp[Gd,hv]
   | _=>simp[Gd,hv]
def Off (d:Option Nat) (tm tm':TM):Prop:=∀t,d≠some t→tm t=tm' t
theorem Off.put (d:Option Nat) (tm:TM) (v:AVal):Off d tm (putD tm d v):=by
 intro t ht
 cases d with
 | none=>rfl
 | some d=>exact (upd_ne _ _ (fun he=>ht (by rw[he]))).symm
theorem Off.symm {d:Option Nat} {tm tm':TM} (h:Off d tm tm'):Off d tm' tm:=fun t ht=>(h t ht).symm
theorem putD_comm {d e:Option Nat} (h:d≠e∨d=none) (tm:TM) (u v:AVal):putD (putD tm d u) e v=putD (putD tm e v) d u:=by
 cases d with
 | none=>rfl
 | some d=>
   cases e with
   | none=>rfl
   | some e=>exact upd_comm _ _ _ (fun he=>by rcases h with h|h<;>simp_all)
theorem Off.putD {d e:Option Nat} {tm tm':TM} (h:Off d tm tm') (v:AVal):Off d (putD tm e v) (putD tm' e v):=by
 intro t ht
 cases e with
 | none=>exact h t ht
 | some e=>
   by_cases hte:t=e
   ·subst hte;simp[upd_same]
   ·simp only[putD_some,upd_ne _ _ hte];exact h t ht
def nr (d:Option Nat) (x:It):Prop:=∀t,d=some t→t∉x.rd
theorem ev_off {d:Option Nat} {tm tm':TM} (ho:Off d tm tm') {x:It} (hn:nr d x):∀y∈x.op.opds,ev tm y=ev tm' y:=by
 intro y hy
 cases y with
 | c v=>rfl
 | t n=>
   refine ho n fun he=>hn n he ?_
   simp only[It.rd,List.mem_append,List.mem_flatMap]
   exact .inr ⟨_,hy,by simp[opdT]⟩
theorem fire_off {d:Option Nat} {tm tm':TM} (ho:Off d tm tm') {x:It} (hn:nr d x):Fire x tm=Fire x tm':=by
 unfold Fire
 cases hg:x.guard with
 | none=>rfl
 | some tb=>
   obtain ⟨t,b⟩:=tb
   simp only[]
   rw[ho t fun he=>hn t he (by simp[It.rd,hg])]
def Lk (E:Env) (x:It) (tm:TM) (h:Heap) (v:AVal):Prop:=
 match x.op with
 | .call f args=>PInv E.P (ev tm f) (evs (ev tm) args) v
 | .inv r nm args=>PInv E.P (.func (.method nm) [ev tm r] []) (evs (ev tm) args) v
 | io=>if x.raw then iev io (ev tm) h=some v else isat io (ev tm) h (· = v)
theorem look_iff {E:Env} {Q:Post} {x:Stp} (hl:x.it.look=true) {K:KT} {tm:TM} {df:DF} {h:Heap} :
 AWx E Q x K tm df h↔∃v,Lk E x.it tm h v∧K (putD tm x.it.dst v) df h:=by
 unfold AWx Lk
 unfold It.look at hl
 cases hop:x.it.op<;>simp only[hop] at hl ⊢
 case call=>rw[if_pos hl];rfl
 case inv=>rw[if_pos hl];rfl
 all_goals first|cases hl;done|skip
 all_goals simp only[isMem,Bool.not_false,Bool.false_eq_true,if_false] at hl ⊢
 all_goals first|cases hl;done|skip
 all_goals
  split
  ·constructor
   ·intro ha;obtain ⟨r,h1,h2⟩:=osat_iff.1 ha;exact ⟨r,h1,h2⟩
   ·rintro ⟨v,h1,h2⟩;exact osat_iff.2 ⟨v,h1,h2⟩
  ·constructor
   ·intro ha;obtain ⟨r,h1,h2⟩:=isat_det ha;exact ⟨r,h1 _ rfl,h2⟩
   ·rintro ⟨v,h1,h2⟩;exact isat_mono h1 fun u hu=>by subst hu;exact h2
theorem lk_off {E:Env} {d:Option Nat} {tm tm':TM} (ho:Off d tm tm') {x:It} (hn:nr d x) (h:Heap) (v:AVal):Lk E x tm h v=Lk E x tm' h v:=by
 have hc:=ev_off ho hn
 unfold Lk
 cases hop:x.op<;>rw[hop] at hc
 case call f args=>
  simp only[IOp.opds,List.mem_cons,forall_eq_or_imp] at hc
  simp only[hc.1,evs_congr hc.2]
 case inv r nm args=>
  simp only[IOp.opds,List.mem_cons,forall_eq_or_imp] at hc
  simp only[hc.1,evs_congr hc.2]
 all_goals simp only[iev_congr hc,isat_congr hc]
theorem lk_heap {E:Env} {tm:TM} {x:It} (hx:x.isL=false) (hl:x.look=true) (h h':Heap) (v:AVal):Lk E x tm h v=Lk E x tm h' v:=by
 unfold Lk
 unfold It.isL at hx
 unfold It.look at hl
 cases hop:x.op<;>simp only[hop] at hx hl ⊢
 all_goals first|cases hx;done|cases hl;done|skip
 all_goals simp only[isMem,Bool.not_true,Bool.false_eq_true] at hl
 all_goals rfl
theorem lk_same {E:Env} {tm:TM} {x:It} (hx:x.isC=false) {h:Heap} {u v:AVal} (hu:Lk E x tm h u) (hv:Lk E x tm h v):u=v:=by
 have key:∀io:IOp,(if x.raw then iev io (ev tm) h=some u else isat io (ev tm) h (· = u))→(if x.raw then iev io (ev tm) h=some v else isat io (ev tm) h (· = v))→u=v:=by
  intro io hu hv
  split at hu
  ·rename_i hr;rw[if_pos hr] at hv;exact Option.some.inj (hu.symm.trans hv)
  ·rename_i hr;rw[if_neg hr] at hv;exact isat_same hu hv
 unfold Lk at hu hv
 unfold It.isC at hx
 cases hop:x.op<;>simp only[hop] at hx hu hv<;>first|cases hx;done|exact key _ hu hv
def Ef (E:Env) (x:It) (tm:TM) (h:Heap) (v:AVal):Prop:=(Fire x tm=some true∧Lk E x tm h v)∨(Fire x tm=some false∧v=undefA)
theorem ef_iff {E:Env} {Q:Post} {x:Stp} (hl:x.it.look=true) {K:KT} {tm:TM} {df:DF} {h:Heap} :
 AWit E Q x K tm df h↔∃v,Ef E x.it tm h v∧K (putD tm x.it.dst v) df h:=by
 rw[awit_iff,look_iff hl]
 unfold Ef
 constructor
 ·rintro (⟨h1,v,h2,h3⟩ | ⟨h1,h2⟩)
  ·exact ⟨v,.inl ⟨h1,h2⟩,h3⟩
  ·exact ⟨_,.inr ⟨h1,rfl⟩,h2⟩
 ·rintro ⟨v,⟨h1,h2⟩ | ⟨h1,rfl⟩,h3⟩
  ·exact .inl ⟨h1,v,h2,h3⟩
  ·exact .inr ⟨h1,h3⟩
theorem ef_off {E:Env} {d:Option Nat} {tm tm':TM} (ho:Off d tm tm') {x:It} (hn:nr d x) {h:Heap} {v:AVal} (he:Ef E x tm h v):Ef E x tm' h v:=by
 unfold Ef at *
 rwa [←fire_off ho hn,←lk_off ho hn]
theorem ef_heap {E:Env} {tm:TM} {x:It} (hx:x.isL=false) (hl:x.look=true) {h h':Heap} {v:AVal} (he:Ef E x tm h v):Ef E x tm h' v:=by
 unfold Ef at *
 rwa [lk_heap hx hl h' h]
theorem flIt_off {d:Option Nat} {tm tm':TM} (ho:Off d tm tm') {x:It} (hn:nr d x) (hd:∀t,d=some t→x.dst≠some t) {h:Heap} (hf:FlIt x tm h):FlIt x tm' h:=by
 unfold FlIt at *
 have hc:=ev_off ho hn
 cases hx:x.dst with
 | none=>simp
 | some e=>
   have he:tm e=tm' e:=ho e fun h1=>hd e h1 (by rw[hx])
   cases hg:x.guard with
   | none=>simp only[hx,hg] at hf ⊢;rw[←isat_congr hc,←he];exact hf
   | some tb=>
     obtain ⟨t,b⟩:=tb
     simp only[hx,hg] at hf ⊢
     rw[←ho t fun h1=>hn t h1 (by simp[It.rd,hg]),←isat_congr hc,←he]
     exact hf
theorem FlOk_iff {fl:List It} {tm:TM} {h:Heap} : FlOk fl tm h↔∀f∈fl,FlIt f tm h:=by
 induction fl with
 | nil=>simp
 | cons x r ih=>simp[ih]
theorem AWx_mono {E:Env} {Q:Post} {x:Stp} {K K':KT} (hk:∀tm df h,K tm df h→K' tm df h) {tm:TM} {df:DF} {h:Heap} (ha:AWx E Q x K tm df h):AWx E Q x K' tm df h:=by
 by_cases hl:x.it.look=true
 ·rw[look_iff hl] at ha ⊢
  obtain ⟨v,h1,h2⟩:=ha
  exact ⟨v,h1,hk _ _ _ h2⟩
 have fcall:∀{fv:AVal} {args:List AVal},FCall E fv args x.fa x.fl x.it.dst K Q tm df h→FCall E fv args x.fa x.fl x.it.dst K' Q tm df h:=by
  rintro fv args ⟨h₀,h1,h2,h3⟩
  refine ⟨h₀,h1,h2,h3.mono fun e h' hh=>?_⟩
  cases e with
  | ret v=>exact ⟨hh.1,hk _ _ _ hh.2⟩
  | pan v=>exact hh
 unfold AWx at ha ⊢
 unfold It.look at hl
 cases hop:x.it.op<;>simp only[hop] at hl ha ⊢
 case call=>rw[if_neg hl] at ha ⊢;exact fcall ha
 case inv=>rw[if_neg hl] at ha ⊢;exact fcall ha
 case panic=>exact ha
 case defer f args=>
  unfold DefK at *
  split at ha
  ·exact ⟨ha.1,hk _ _ _ ha.2⟩
  ·exact ha.elim
 case next=>exact xNx_mono ha fun u h' hu=>⟨hu.1,hk _ _ _ hu.2⟩
 case entry=>exact xNx_mono ha fun u h' hu=>⟨hu.1,hk _ _ _ hu.2⟩
 all_goals simp only[isMem,Bool.not_true,Bool.not_false,Bool.false_eq_true,not_false_eq_true,not_true_eq_false,if_true] at hl ha ⊢
 all_goals exact ⟨ha.1,fun s=>xsat_mono (ha.2 s) fun u h' hu=>⟨hu.1,hk _ _ _ hu.2⟩⟩
theorem AWit_mono {E:Env} {Q:Post} {x:Stp} {K K':KT} (hk:∀tm df h,K tm df h→K' tm df h) {tm:TM} {df:DF} {h:Heap} (ha:AWit E Q x K tm df h):AWit E Q x K' tm df h:=by
 rw[awit_iff] at ha ⊢
 rcases ha with ⟨h1,h2⟩ | ⟨h1,h2⟩
 ·exact .inl ⟨h1,AWx_mono hk h2⟩
 ·exact .inr ⟨h1,hk _ _ _ h2⟩
theorem AWops_mono {E:Env} {Q:Post} : ∀{l:List Stp} {K K':KT},(∀tm df h,K tm df h→K' tm df h)→∀{tm:TM} {df:DF} {h:Heap},AWops E Q l K tm df h→AWops E Q l K' tm df h
 | [],_,_,hk,_,_,_,ha=>hk _ _ _ ha
 | _::_,_,_,hk,_,_,_,ha=>AWit_mono (fun _ _ _ hh=>AWops_mono hk hh) ha
end Go.Cw
end
section
namespace Go.Cw
open Go
def Past (F:Nat) (s:Stp) (tm:TM) (h h₂:Heap):Prop:=
 h₂=h∨(isA s.it.op=true∧∃o,h₂=upd h (nmOf F s.it.dst) o∧(s.fd=true→h (nmOf F s.it.dst)=.dead))∨(s.it.look=false∧isA s.it.op=false∧FlOk s.fl tm h₂)
def loudB (x:It):Bool:=x.isC || (match x.op with
 | .panic _=>true
 | _=>false)
section
variable {E : Env} {Q:Post} {df:DF}
theorem kp_put {dt:Option Nat} (hkp:∀d,dt=some d→d∉E.keep) (tm:TM) (v:AVal):kpT E.keep (putD tm dt v)=kpT E.keep tm:=by
 cases dt with
 | none=>rfl
 | some d=>exact kpT_put v (hkp d rfl)
theorem past {s:Stp} {dt:Option Nat} {v:AVal} {K T:KT} {tm:TM} {h:Heap} {fl':List It} (hkp:loudB s.it=true→∀d,dt=some d→d∉E.keep) (hn:nr dt s.it) (hfl:∀f∈fl',f∈s.fl∧nr dt f∧∀t,dt=some t→f.dst≠some t)
 (ha:AWit E Q s K (putD tm dt v) df h)
 (hT:∀u df₂ h₂,Past E.F s (putD (putD tm dt v) s.it.dst u) h h₂→K (putD (putD tm dt v) s.it.dst u) df₂ h₂→T (putD tm s.it.dst u) df₂ h₂) :
 AWit E Q { s with fa:=[],fl:=fl' } T tm df h:=by
 have off:Off dt (putD tm dt v) tm:=(Off.put dt tm v).symm
 rw[awit_iff] at ha ⊢
 rw[fire_off off hn] at ha
 rcases ha.symm with ⟨h1,h2⟩ | ⟨h1,h2⟩
 ·exact .inr ⟨h1,hT _ _ _ (.inl rfl) h2⟩
 refine .inl ⟨h1,?_⟩
 have hfl':∀{u:AVal} {h₂:Heap},FlOk s.fl (putD (putD tm dt v) s.it.dst u) h₂→FlOk fl' (putD tm s.it.dst u) h₂:=by
  intro u h₂ hf
  rw[FlOk_iff] at hf ⊢
  intro f hm
  obtain ⟨h3,h4,h5⟩:=hfl f hm
  exact flIt_off (off.putD u) h4 h5 (hf f h3)
 by_cases hl:s.it.look=true
 ·rw[look_iff hl] at h2
  rw[look_iff (x:={ s with fa:=[],fl:=fl' }) hl]
  obtain ⟨u,h3,h4⟩:=h2
  exact ⟨u,by rw[←lk_off off hn];exact h3,hT _ _ _ (.inl rfl) h4⟩
 have hev:=ev_off off hn
 have hlf:s.it.look=false:=by simpa using hl
 have fcall:loudB s.it=true→isA s.it.op=false→∀{fv:AVal} {args:List AVal},FCall E fv args s.fa s.fl s.it.dst K Q (putD tm dt v) df h→FCall E fv args [] fl' s.it.dst T Q tm df h:=by
  rintro hq hA fv args ⟨h₀,h3,_,h5⟩
  refine ⟨h₀,h3,trivial,h5.mono fun e h' hh=>?_⟩
  cases e with
  | ret u=>exact ⟨hfl' hh.1,hT _ _ _ (.inr (.inr ⟨hlf,hA,hh.1⟩)) hh.2⟩
  | pan u=>obtain ⟨h₁,h6,_,h8⟩:=hh;exact ⟨h₁,h6,trivial,by rw[kp_put (hkp hq)] at h8;exact h8⟩
 unfold AWx at h2 ⊢
 unfold It.look at hl
 cases hop:s.it.op<;>rw[hop] at hev<;>simp only[hop] at hl h2 ⊢
 case call f args=>
  simp only[IOp.opds,List.mem_cons,forall_eq_or_imp] at hev
  rw[if_neg hl] at h2 ⊢
  rw[hev.1,evs_congr hev.2] at h2
  exact fcall (by unfold loudB It.isC;rw[hop];rfl) (by rw[hop];rfl) h2
 case inv r nm args=>
  simp only[IOp.opds,List.mem_cons,forall_eq_or_imp] at hev
  rw[if_neg hl] at h2 ⊢
  rw[hev.1,evs_congr hev.2] at h2
  exact fcall (by unfold loudB It.isC;rw[hop];rfl) (by rw[hop];rfl) h2
 case panic a=>
  simp only[IOp.opds,List.mem_singleton,forall_eq] at hev
  rw[hev] at h2
  unfold PanK at h2 ⊢
  split at h2
  ·rw[kp_put (hkp (by unfold loudB It.isC;rw[hop];rfl))] at h2;exact h2
  ·exact h2
 case defer f args=>
  simp only[IOp.opds,List.mem_cons,forall_eq_or_imp] at hev
  rw[hev.1,evs_congr hev.2] at h2
  unfold DefK at *
  split at h2
  ·exact ⟨h2.1,hT _ _ _ (.inl rfl) h2.2⟩
  ·exact h2.elim
 case next a=>
  simp only[IOp.opds,List.mem_singleton,forall_eq] at hev
  simp only[xNx,hev] at h2 ⊢
  exact xNext_mono h2 fun u h' hu=>⟨hfl' hu.1,hT _ _ _ (.inr (.inr ⟨hlf,by rw[hop];rfl,hu.1⟩)) hu.2⟩
 case entry a=>
  simp only[IOp.opds,List.mem_singleton,forall_eq] at hev
  simp only[xNx,hev] at h2 ⊢
  exact xEntry_mono h2 fun u hu=>⟨hfl' hu.1,hT _ _ _ (.inr (.inr ⟨hlf,by rw[hop];rfl,hu.1⟩)) hu.2⟩
 all_goals simp only[isMem,Bool.not_true,Bool.not_false,not_true_eq_false,if_true] at hl h2 ⊢
 all_goals
  refine ⟨h2.1,fun s₀=>?_⟩
  have h3:=h2.2 s₀
  rw[xsat_congr hev] at h3
 case toBy=>exact xsat_mono h3 fun u h' hu=>⟨hfl' hu.1,hT _ _ _ (.inr (.inr ⟨hlf,by rw[hop];rfl,hu.1⟩)) hu.2⟩
 case allocB=>exact xsat_mono h3 fun u h' hu=>⟨hfl' hu.1,hT _ _ _ (.inr (.inr ⟨hlf,by rw[hop];rfl,hu.1⟩)) hu.2⟩
 case store=>exact xsat_mono h3 fun u h' hu=>⟨hfl' hu.1,hT _ _ _ (.inr (.inr ⟨hlf,by rw[hop];rfl,hu.1⟩)) hu.2⟩
 case app=>exact xsat_mono h3 fun u h' hu=>⟨hfl' hu.1,hT _ _ _ (.inr (.inr ⟨hlf,by rw[hop];rfl,hu.1⟩)) hu.2⟩
 case copy=>exact xsat_mono h3 fun u h' hu=>⟨hfl' hu.1,hT _ _ _ (.inr (.inr ⟨hlf,by rw[hop];rfl,hu.1⟩)) hu.2⟩
 case mapU=>exact xsat_mono h3 fun u h' hu=>⟨hfl' hu.1,hT _ _ _ (.inr (.inr ⟨hlf,by rw[hop];rfl,hu.1⟩)) hu.2⟩
 case mapE=>exact xsat_mono h3 fun u h' hu=>⟨hfl' hu.1,hT _ _ _ (.inr (.inr ⟨hlf,by rw[hop];rfl,hu.1⟩)) hu.2⟩
 case range=>exact xsat_mono h3 fun u h' hu=>⟨hfl' hu.1,hT _ _ _ (.inr (.inr ⟨hlf,by rw[hop];rfl,hu.1⟩)) hu.2⟩
 case entS=>exact xsat_mono h3 fun u h' hu=>⟨hfl' hu.1,hT _ _ _ (.inr (.inr ⟨hlf,by rw[hop];rfl,hu.1⟩)) hu.2⟩
 all_goals
  obtain ⟨c,h4,h5⟩:=(mk_iff rfl).1 h3
  exact (mk_iff rfl).2 ⟨c,h4,hfl' h5.1,hT _ _ _ (.inr (.inl ⟨by rw[hop];rfl,_,rfl,h2.1⟩)) h5.2⟩
structure Apart (t s:It):Prop where
 a:nr t.dst s
 b:nr s.dst t
 c:t.dst≠s.dst∨t.dst=none
theorem comm_look {t s:Stp} {K:KT} {tm:TM} {h:Heap} {fl':List It} (hkp:loudB s.it=true→∀d,t.it.dst=some d→d∉E.keep) (ht:t.it.look=true) (hap:Apart t.it s.it)
 (hfl:∀f∈fl',f∈s.fl∧nr t.it.dst f∧∀d,t.it.dst=some d→f.dst≠some d)
 (hL:t.it.isL=true→t.it.raw=false∧(∃d,t.it.dst=some d)∧nr t.it.dst t.it∧(isA s.it.op=true→s.fd=true)∧(s.it.look=true∨isA s.it.op=true∨t.it∈s.fl))
 (ha:AWit E Q t (AWit E Q s K) tm df h):AWit E Q { s with fa:=[],fl:=fl' } (AWit E Q t K) tm df h:=by
 obtain ⟨v,he,ha⟩:=(ef_iff ht).1 ha
 refine past hkp hap.a hfl ha fun u df₂ h₂ hp hk=>(ef_iff ht).2 ⟨v,?_,?_⟩
 ·have he':=ef_off (Off.put s.it.dst tm u) hap.b he
  cases hx:t.it.isL with
  | false=>exact ef_heap hx ht he'
  | true=>
    obtain ⟨hraw,⟨d,hd⟩,hself,hA,hcl⟩:=hL hx
    have lkL:∀{tm:TM} {h:Heap} {v:AVal},Lk E t.it tm h v=isat t.it.op (ev tm) h (· = v):=by
     intro tm h v
     unfold It.isL at hx
     unfold Lk
     cases hop:t.it.op<;>simp only[hop] at hx<;>first|cases hx;done|simp only[hraw,Bool.false_eq_true,if_false]
    rcases hp with rfl|⟨h1,o,rfl,h2⟩ | ⟨h1,h2,hf⟩
    ·exact he'
    ·rcases he' with ⟨h3,h4⟩ | h3
     ·rw[lkL] at h4
      exact .inl ⟨h3,by rw[lkL];exact isat_past (h2 (hA h1)) h4⟩
     ·exact .inr h3
    ·have hmem:t.it∈s.fl:=by
      rcases hcl with hcl|hcl|hcl
      ·rw[hcl] at h1;cases h1
      ·rw[hcl] at h2;cases h2
      ·exact hcl
     rcases he' with ⟨h3,h4⟩ | h3
     ·refine .inl ⟨h3,?_⟩
      have hf:=FlOk_iff.1 hf _ hmem
      have off:Off t.it.dst (putD (putD tm t.it.dst v) s.it.dst u) (putD tm s.it.dst u):=(Off.put t.it.dst tm v).symm.putD u
      have hval:putD (putD tm t.it.dst v) s.it.dst u d=v:=by
       rw[putD_comm hap.c,hd];exact upd_same _ _ _
      rw[lkL,←isat_congr (ev_off off hself)]
      unfold FlIt at hf
      rw[hd] at hf
      unfold Fire at h3
      cases hg:t.it.guard with
      | none=>simp only[hg] at hf;rw[←hd,hval] at hf;exact hf
      | some tb=>
        obtain ⟨tg,b⟩:=tb
        simp only[hg] at hf h3
        have htg :(putD (putD tm (some d) v) s.it.dst u) tg=putD tm s.it.dst u tg:=by
         rw[←hd];exact off tg fun he=>hself tg he (by simp[It.rd,hg])
        rw[htg] at hf
        have:putD tm s.it.dst u tg=.bool b:=by
         cases hv:putD tm s.it.dst u tg with
         | bool c=>rw[hv] at h3;simp at h3;rw[h3]
         | tup l=>rw[hv] at h3;cases l<;>simp at h3
         | _=>rw[hv] at h3;simp at h3
        have hf:=hf this
        rw[←hd,hval] at hf
        exact hf
     ·exact .inr h3
 ·rw[putD_comm hap.c] at hk
  exact hk
theorem comm_off {t s:Stp} {K:KT} {tm:TM} {h:Heap} {fl':List It} (hkp:loudB s.it=true→∀d,t.it.dst=some d→d∉E.keep) (hap:Apart t.it s.it) (hfl:∀f∈fl',f∈s.fl∧nr t.it.dst f∧∀d,t.it.dst=some d→f.dst≠some d)
 (hf:Fire t.it tm=some false) (ha:AWit E Q s K (putD tm t.it.dst undefA) df h) (fa':List It):AWit E Q { s with fa:=[],fl:=fl' } (AWit E Q { t with fa:=fa' } K) tm df h:=by
 refine past hkp hap.a hfl ha fun u df₂ h₂ _ hk=>?_
 rw[awit_iff]
 refine .inr ⟨by rw[←fire_off (Off.put s.it.dst tm u) hap.b];exact hf,?_⟩
 rw[putD_comm hap.c] at hk
 exact hk
theorem awx_mk {t:Stp} (hA:isA t.it.op=true) {K:KT} {tm:TM} {h:Heap} :
 AWx E Q t K tm df h↔(t.fd=true→h (nmOf E.F t.it.dst)=.dead)∧∃c,mkf t.it.op (ev tm)=some c∧∀s₀,FlOk t.fl (putD tm t.it.dst (c.val (nmOf E.F t.it.dst) s₀)) (upd h (nmOf E.F t.it.dst) (c.obj s₀))∧
  K (putD tm t.it.dst (c.val (nmOf E.F t.it.dst) s₀)) df (upd h (nmOf E.F t.it.dst) (c.obj s₀)):=by
 have hx:AWx E Q t K tm df h =((t.fd=true→h (nmOf E.F t.it.dst)=.dead)∧∀s,xsat t.it.op (nmOf E.F t.it.dst) (ev tm) h s (PutX t.fl K tm df t.it.dst)):=by
  unfold AWx
  cases hop:t.it.op<;>rw[hop] at hA<;>first|cases hA;done|simp only[isMem,if_true]
 rw[hx]
 constructor
 ·rintro ⟨h1,h2⟩
  refine ⟨h1,?_⟩
  obtain ⟨c,h3,_⟩:=(mk_iff hA).1 (h2 0)
  refine ⟨c,h3,fun s₀=>?_⟩
  obtain ⟨c',h4,h5⟩:=(mk_iff hA).1 (h2 s₀)
  obtain rfl:c=c':=Option.some.inj (h3.symm.trans h4)
  exact h5
 ·rintro ⟨h1,c,h2,h3⟩
  exact ⟨h1,fun s₀=>(mk_iff hA).2 ⟨c,h2,h3 s₀⟩⟩
theorem isXo_isMem {io:IOp} (h:isXo io=true):isMem io=true:=by cases io<;>first|cases h;done|rfl
theorem awx_mem {t:Stp} (hm:isMem t.it.op=true) {K:KT} {tm:TM} {h:Heap} :
 AWx E Q t K tm df h =((t.fd=true→h (nmOf E.F t.it.dst)=.dead)∧∀s,xsat t.it.op (nmOf E.F t.it.dst) (ev tm) h s (PutX t.fl K tm df t.it.dst)):=by
 unfold AWx
 cases hop:t.it.op<;>rw[hop] at hm<;>first|cases hm;done|simp only[isMem,if_true]
theorem comm_made {t s:Stp} {K:KT} {tm:TM} {h:Heap} {fl':List It} (hkp:loudB s.it=true→∀d,t.it.dst=some d→d∉E.keep) (ht:isA t.it.op=true) (hfl0:t.fl=[]) (hap:Apart t.it s.it)
 (hfl:∀f∈fl',f∈s.fl∧nr t.it.dst f∧∀d,t.it.dst=some d→f.dst≠some d)
 (hs :(s.it.look=true∧s.it.isC=false∧(s.it.isL=true→s.it.raw=false))∨(isA s.it.op=true∧s.fl=[]∧nmOf E.F s.it.dst≠nmOf E.F t.it.dst)∨(isXo s.it.op=true∧t.fd=true∧nmOf E.F s.it.dst≠nmOf E.F t.it.dst))
 (ha:AWit E Q t (AWit E Q s K) tm df h):AWit E Q { s with fa:=[],fl:=fl' } (AWit E Q t K) tm df h:=by
 rcases awit_iff.1 ha with ⟨hf,hx⟩ | ⟨hf,hk⟩
 rotate_left
 ·exact comm_off hkp hap hfl hf hk t.fa
 obtain ⟨hfd,c,hc,hall⟩:=(awx_mk ht).1 hx
 have hst:=c.stamp
 have back:∀{u:AVal} {df₂:DF} {h₂:Heap},(t.fd=true→h₂ (nmOf E.F t.it.dst)=.dead)→(∀s₀,K (putD (putD tm t.it.dst (c.val (nmOf E.F t.it.dst) s₀)) s.it.dst u) df₂ (upd h₂ (nmOf E.F t.it.dst) (c.obj s₀)))→
  AWit E Q t K (putD tm s.it.dst u) df₂ h₂:=by
  intro u df₂ h₂ hd hk
  rw[awit_iff]
  refine .inl ⟨by rw[←fire_off (Off.put s.it.dst tm u) hap.b];exact hf,(awx_mk ht).2 ⟨hd,c,?_,fun s₀=>⟨by rw[hfl0];trivial,?_⟩⟩⟩
  ·rw[←mkf_congr (ev_off (Off.put s.it.dst tm u) hap.b)];exact hc
  ·rw[←putD_comm hap.c];exact hk s₀
 have off:∀v,Off t.it.dst (putD tm t.it.dst v) tm:=fun v=>(Off.put t.it.dst tm v).symm
 have hall':∀s₀,(Fire s.it tm=some true∧AWx E Q s K (putD tm t.it.dst (c.val (nmOf E.F t.it.dst) s₀)) df (upd h (nmOf E.F t.it.dst) (c.obj s₀)))∨
  (Fire s.it tm=some false∧K (putD (putD tm t.it.dst (c.val (nmOf E.F t.it.dst) s₀)) s.it.dst undefA) df (upd h (nmOf E.F t.it.dst) (c.obj s₀))):=by
  intro s₀
  have:=awit_iff.1 (hall s₀).2
  rwa [fire_off (off _) hap.a] at this
 rw[awit_iff]
 rcases hall' 0 with ⟨hfs,_⟩ | ⟨hfs,_⟩
 rotate_left
 ·refine .inr ⟨hfs,back hfd fun s₀=>?_⟩
  rcases hall' s₀ with ⟨h1,_⟩ | ⟨_,h2⟩
  ·rw[hfs] at h1;cases h1
  ·exact h2
 refine .inl ⟨hfs,?_⟩
 have hx':∀s₀,AWx E Q s K (putD tm t.it.dst (c.val (nmOf E.F t.it.dst) s₀)) df (upd h (nmOf E.F t.it.dst) (c.obj s₀)):=by
  intro s₀
  rcases hall' s₀ with ⟨_,h2⟩ | ⟨h1,_⟩
  ·exact h2
  ·rw[hfs] at h1;cases h1
 rcases hs with ⟨hl,hC,hraw⟩ | ⟨hA,hfl1,hne⟩ | ⟨hX,hd,hne⟩
 ·rw[look_iff (x:={ s with fa:=[],fl:=fl' }) hl]
  have hlk:∀s₀,∃v,Lk E s.it tm (upd h (nmOf E.F t.it.dst) (c.obj s₀)) v∧K (putD (putD tm t.it.dst (c.val (nmOf E.F t.it.dst) s₀)) s.it.dst v) df (upd h (nmOf E.F t.it.dst) (c.obj s₀)):=by
   intro s₀
   obtain ⟨v,h1,h2⟩:=(look_iff hl).1 (hx' s₀)
   exact ⟨v,by rw[←lk_off (off _) hap.a];exact h1,h2⟩
  cases hL:s.it.isL with
  | false=>
    obtain ⟨v,h1,_⟩:=hlk 0
    refine ⟨v,by rw[lk_heap hL hl h];exact h1,back hfd fun s₀=>?_⟩
    obtain ⟨v',h3,h4⟩:=hlk s₀
    obtain rfl:v=v':=lk_same hC (by rw[lk_heap hL hl _ (upd h (nmOf E.F t.it.dst) (c.obj 0))];exact h1) h3
    exact h4
  | true=>
    have lkL:∀{tm:TM} {h:Heap} {v:AVal},Lk E s.it tm h v=isat s.it.op (ev tm) h (· = v):=by
     intro tm h v
     have hL':=hL
     unfold It.isL at hL'
     unfold Lk
     cases hop:s.it.op<;>simp only[hop] at hL'<;>first|cases hL';done|simp only[hraw hL,Bool.false_eq_true,if_false]
    obtain ⟨v,h1,h2⟩:=isat_made (io:=s.it.op) (ρ:=ev tm) (h:=h) (nm:=nmOf E.F t.it.dst) (o:=c.obj) hst (K:=fun s₀ v=>K (putD (putD tm t.it.dst (c.val (nmOf E.F t.it.dst) s₀)) s.it.dst v) df (upd h (nmOf E.F t.it.dst) (c.obj s₀)))
     (fun s₀=>by
       obtain ⟨v,h3,h4⟩:=hlk s₀
       rw[lkL] at h3
       exact isat_mono h3 fun w hw=>by subst hw;exact h4)
    exact ⟨v,by rw[lkL];exact h1,back hfd fun s₀=>(h2 s₀).2⟩
 ·refine (awx_mk (t:={ s with fa:=[],fl:=fl' }) hA).2 ?_
  obtain ⟨hfs0,c',hc',_⟩:=(awx_mk hA).1 (hx' 0)
  have e:fl'=[]:=by
   cases fl' with
   | nil=>rfl
   | cons f r=>have:=(hfl f (List.mem_cons_self)).1;rw[hfl1] at this;cases this
  refine ⟨fun hd=>by have:=hfs0 hd;rwa [upd_ne _ _ hne] at this,c',by rw[←mkf_congr (ev_off (off _) hap.a)];exact hc',fun s₁=>⟨by rw[e];trivial,back (fun hd=>?_) fun s₀=>?_⟩⟩
  ·show upd h (nmOf E.F s.it.dst) (c'.obj s₁) (nmOf E.F t.it.dst)=.dead
   rw[upd_ne _ _ (Ne.symm hne)];exact hfd hd
  ·obtain ⟨_,c'',hc'',hk⟩:=(awx_mk hA).1 (hx' s₀)
   obtain rfl:c'=c'':=by
    rw[mkf_congr (ev_off (off _) hap.a)] at hc' hc''
    exact Option.some.inj (hc'.symm.trans hc'')
   have:=(hk s₁).2
   rwa [upd_comm _ _ _ (Ne.symm hne)] at this
 ·rw[awx_mem (isXo_isMem hX) (t:={ s with fa:=[],fl:=fl' })]
  have hx'':∀s₀,(s.fd=true→upd h (nmOf E.F t.it.dst) (c.obj s₀) (nmOf E.F s.it.dst)=.dead)∧∀s₁,xsat s.it.op (nmOf E.F s.it.dst) (ev tm) (upd h (nmOf E.F t.it.dst) (c.obj s₀)) s₁ (PutX s.fl K (putD tm t.it.dst (c.val (nmOf E.F t.it.dst) s₀)) df s.it.dst):=by
   intro s₀
   have:=hx' s₀
   rw[awx_mem (isXo_isMem hX)] at this
   exact ⟨this.1,fun s₁=>by rw[←xsat_congr (ev_off (off _) hap.a)];exact this.2 s₁⟩
  refine ⟨fun hsd=>by have:=(hx'' 0).1 hsd;rwa [upd_ne _ _ hne] at this,fun s₁=>?_⟩
  obtain ⟨u,h₁,h1,h2,h3⟩:=xo_made hst (hfd hd) hX hne fun s₀=>(hx'' s₀).2 s₁
  refine h1 _ ⟨?_,back (fun _=>h2) fun s₀=>(h3 s₀).2⟩
  rw[FlOk_iff]
  intro f hm
  obtain ⟨h4,h5,h6⟩:=hfl f hm
  have hf':∀s₀,FlIt f (putD tm s.it.dst u) (upd h₁ (nmOf E.F t.it.dst) (c.obj s₀)):=fun s₀=>flIt_off ((off _).putD u) h5 h6 (FlOk_iff.1 (h3 s₀).1 f h4)
  unfold FlIt at hf' ⊢
  cases hfd':f.dst with
  | none=>simp
  | some d=>
    have go :(∀s₀,isat f.op (ev (putD tm s.it.dst u)) (upd h₁ (nmOf E.F t.it.dst) (c.obj s₀)) fun v=>v=putD tm s.it.dst u d)→isat f.op (ev (putD tm s.it.dst u)) h₁ fun v=>v=putD tm s.it.dst u d:=by
     intro hh
     obtain ⟨v,h7,h8⟩:=isat_made hst hh
     exact isat_mono h7 fun w hw=>by rw[hw];exact (h8 0).2
    cases hg:f.guard with
    | none=>simp only[hfd',hg] at hf' ⊢;exact go hf'
    | some tb=>
      obtain ⟨tg,b⟩:=tb
      simp only[hfd',hg] at hf' ⊢
      exact fun hb=>go fun s₀=>hf' s₀ hb
theorem FaOk_iff {F:Nat} {fa:List It} {tm:TM} {h:Heap} : FaOk F fa tm h↔∀x∈fa,x.guard=none∧xsat x.op 0 (ev tm) nilH 0 (fun _ _=>True)∧h (nmOf F x.dst)=.dead:=by
 induction fa with
 | nil=>simp
 | cons x r ih=>simp[ih]
theorem FaDead_iff {F:Nat} {fa:List It} {h:Heap} : FaDead F fa h↔∀x∈fa,h (nmOf F x.dst)=.dead:=by
 induction fa with
 | nil=>simp
 | cons x r ih=>simp[ih]
theorem glue_upd {h h₀ h':Heap} {nm:Nat} {o:AObj} (h0:h₀ nm=.dead) (ho:o≠.dead):glue (upd h nm o) h₀ h'=upd (glue h h₀ h') nm o:=by
 funext r
 by_cases hr:r=nm
 ·subst hr
  rw[upd_same,glue_out h0 (by rw[upd_same];exact ho),upd_same]
 ·rw[upd_ne _ _ hr]
  unfold glue
  rw[upd_ne _ _ hr]
def callV (x:It) (tm:TM):AVal:=
 match x.op with
 | .call f _=>ev tm f
 | .inv r nm _=>.func (.method nm) [ev tm r] []
 | _=>.any
def callA (x:It) (tm:TM):List AVal:=
 match x.op with
 | .call _ as=>evs (ev tm) as
 | .inv _ _ as=>evs (ev tm) as
 | _=>[]
theorem awx_call {t:Stp} (ht:t.it.isC=true) (htp:t.it.pc=false) {K:KT} {tm:TM} {h:Heap} :
 AWx E Q t K tm df h=FCall E (callV t.it tm) (callA t.it tm) t.fa t.fl t.it.dst K Q tm df h:=by
 unfold It.isC at ht
 unfold AWx callV callA
 cases hop:t.it.op<;>simp only[hop] at ht<;>first|cases ht;done|simp only[htp,Bool.false_eq_true,if_false]
theorem callV_off {d:Option Nat} {tm tm':TM} (ho:Off d tm tm') {x:It} (hn:nr d x):callV x tm=callV x tm'∧callA x tm=callA x tm':=by
 have hc:=ev_off ho hn
 unfold callV callA
 cases hop:x.op<;>rw[hop] at hc<;>simp only[and_self]
 case call f as=>
  simp only[IOp.opds,List.mem_cons,forall_eq_or_imp] at hc
  exact ⟨hc.1,evs_congr hc.2⟩
 case inv r nm as=>
  simp only[IOp.opds,List.mem_cons,forall_eq_or_imp] at hc
  exact ⟨by rw[hc.1],evs_congr hc.2⟩
theorem comm_call {t s:Stp} {K:KT} {tm:TM} {h:Heap} {fa':List It} (hkt:loudB s.it=true→∀d,t.it.dst=some d→d∉E.keep) (hkp:∀d,s.it.dst=some d→d∉E.keep) (ht:t.it.isC=true) (htp:t.it.pc=false) (hs:isA s.it.op=true) (hsfl:s.fl=[]) (hap:Apart t.it s.it) (hmem:s.it∈t.fa)
 (hfl:∀f∈t.fl,nr s.it.dst f∧∀d,s.it.dst=some d→f.dst≠some d) (hsd:s.fd=true)
 (hfa:∀x∈fa',x∈t.fa∧nr s.it.dst x∧nmOf E.F x.dst≠nmOf E.F s.it.dst)
 (ha:AWit E Q t (AWit E Q s K) tm df h):AWit E Q { s with fa:=[],fl:=[] } (AWit E Q { t with fa:=fa' } K) tm df h:=by
 rcases awit_iff.1 ha with ⟨hf,hx⟩ | ⟨hf,hk⟩
 rotate_left
 ·exact comm_off hkt hap (fun f hf=>by cases hf) hf hk fa'
 rw[awx_call ht htp] at hx
 obtain ⟨h₀,hle,hFa,hinv⟩:=hx
 obtain ⟨hg,hmk,hd⟩:=FaOk_iff.1 hFa _ hmem
 obtain ⟨c,hc,_⟩:=(mk_iff hs).1 hmk
 have h0:h₀ (nmOf E.F s.it.dst)=.dead:=by
  rcases hle (nmOf E.F s.it.dst) with e|e
  ·rw[e];exact hd
  ·exact e
 have hfire:∀tm,Fire s.it tm=some true:=fun tm=>by simp[Fire,hg]
 rw[awit_iff]
 refine .inl ⟨hfire tm,(awx_mk (t:={ s with fa:=[],fl:=[] }) hs).2 ⟨fun _=>hd,c,hc,fun s₀=>⟨trivial,?_⟩⟩⟩
 have off:∀v,Off s.it.dst tm (putD tm s.it.dst v):=fun v=>Off.put s.it.dst tm v
 rw[awit_iff]
 refine .inl ⟨by rw[←fire_off (off _) hap.b];exact hf,?_⟩
 rw[awx_call (t:={ t with fa:=fa' }) ht htp]
 have hon:c.obj s₀≠.dead:=fun he=>by have:=c.stamp s₀;rw[he] at this;simp[AObj.stamp] at this
 refine ⟨h₀,fun r=>?_,?_,?_⟩
 ·by_cases hr:r=nmOf E.F s.it.dst
  ·exact .inr (hr ▸ h0)
  ·simp only[upd_ne _ _ hr];exact hle r
 ·rw[FaOk_iff]
  intro x hxm
  obtain ⟨h1,h2,h3⟩:=hfa x hxm
  obtain ⟨h4,h5,h6⟩:=FaOk_iff.1 hFa x h1
  refine ⟨h4,by rw[←xsat_congr (ev_off (off _) h2)];exact h5,?_⟩
  show upd h (nmOf E.F s.it.dst) (c.obj s₀) (nmOf E.F x.dst)=.dead
  rw[upd_ne _ _ h3];exact h6
 ·have hv:=callV_off (off (c.val (nmOf E.F s.it.dst) s₀)) hap.b
  show AInvoke E.P (callV t.it (putD tm s.it.dst (c.val (nmOf E.F s.it.dst) s₀))) (callA t.it (putD tm s.it.dst (c.val (nmOf E.F s.it.dst) s₀))) h₀ _
  rw[←hv.1,←hv.2]
  refine hinv.mono fun e h' hh=>?_
  cases e with
  | ret v=>
    obtain ⟨hfo,hk⟩:=hh
    simp only[CallK]
    rw[glue_upd h0 hon]
    rw[awit_iff] at hk
    rcases hk with ⟨_,hk⟩ | ⟨hk,_⟩
    ·obtain ⟨hdd,c',hc',hall⟩:=(awx_mk hs).1 hk
     have hc'':mkf s.it.op (ev tm)=some c':=by rw[mkf_congr (ev_off (Off.put t.it.dst tm v) hap.a)];exact hc'
     obtain rfl:c=c':=Option.some.inj (hc.symm.trans hc'')
     refine ⟨?_,?_⟩
     ·rw[FlOk_iff] at hfo ⊢
      intro f hfm
      obtain ⟨h1,h2⟩:=hfl f hfm
      have hx:=hfo f hfm
      have hx:=flIt_off ((off (c.val (nmOf E.F s.it.dst) s₀)).putD v) h1 h2 hx
      unfold FlIt at hx ⊢
      cases hfd:f.dst with
      | none=>simp
      | some d=>
        cases hfg:f.guard with
        | none=>simp only[hfd,hfg] at hx ⊢;exact isat_past (hdd hsd) hx
        | some tb=>
          obtain ⟨tg,b⟩:=tb
          simp only[hfd,hfg] at hx ⊢
          exact fun hb=>isat_past (hdd hsd) (hx hb)
     ·have:=(hall s₀).2
      rw[putD_comm hap.c] at this
      exact this
    ·rw[hfire] at hk;cases hk
  | pan v=>
    obtain ⟨h₁,h1,h2,h3⟩:=hh
    have h4:=FaDead_iff.1 h2 _ hmem
    refine ⟨h₁,?_,?_,by rw[kp_put hkp];exact h3⟩
    ·show HLe h₁ (glue (upd h (nmOf E.F s.it.dst) (c.obj s₀)) h₀ h')
     rw[glue_upd h0 hon]
     intro r
     by_cases hr:r=nmOf E.F s.it.dst
     ·exact .inr (hr ▸ h4)
     ·rw[upd_ne _ _ hr];exact h1 r
    ·rw[FaDead_iff] at h2 ⊢
     exact fun x hx=>h2 x (hfa x hx).1
end
end Go.Cw
end
section
namespace Go.Cw
open Go
structure Ent where
 i:Nat
 fd:Bool
 fa:List Nat
 fl:List Nat
def Ent.stp (its:Nat→It) (e:Ent):Stp:=⟨its e.i,e.fd,e.fa.map its,e.fl.map its⟩
def nrB (d:Option Nat) (x:It):Bool:=
 match d with
 | some d=>!x.rd.contains d
 | none=>true
theorem nrB_iff {d:Option Nat} {x:It} : nrB d x=true↔nr d x:=by
 unfold nrB nr
 cases d<;>simp
def neB (d e:Option Nat):Bool:=
 match d,e with
 | some d,some e=>d != e
 | _,_=>true
theorem neB_iff {d e:Option Nat} : neB d e=true↔∀t,d=some t→e≠some t:=by
 unfold neB
 cases d with
 | none=>simp
 | some d=>
   cases e with
   | none=>simp
   | some e=>
     simp only[bne_iff_ne,ne_eq,Option.some.injEq]
     exact ⟨fun h t ht he=>h (ht.trans he.symm),fun h he=>h d rfl he.symm⟩
def apartB (a b:It):Bool:=nrB a.dst b && nrB b.dst a && neB a.dst b.dst
theorem apartB_iff {a b:It} (h:apartB a b=true):Apart a b:=by
 simp only[apartB,Bool.and_eq_true,nrB_iff,neB_iff] at h
 refine ⟨h.1.1,h.1.2,?_⟩
 cases hd:a.dst with
 | none=>exact .inr rfl
 | some t=>exact .inl fun he=>h.2 t hd he.symm
def nmD (x:It):Nat:=x.dst.getD 0
def commA (its:Nat→It) (t s:Ent):Bool:=
 let a:=its t.i
 let b:=its s.i
 apartB a b &&
 (if a.look then
   !a.isL || (!a.raw && a.dst.isSome && nrB a.dst a && (!isA b.op || s.fd) && (b.look || isA b.op || s.fl.contains t.i))
 else if isA a.op then
  t.fl.isEmpty && ((b.look && !b.isC && (!b.isL || !b.raw)) || (isA b.op && s.fl.isEmpty && nmD b != nmD a) || (isXo b.op && t.fd && nmD b != nmD a))
 else if a.isC && !a.pc then
  isA b.op && s.fd && s.fl.isEmpty && t.fa.contains s.i && (t.fl.all fun f=>nrB b.dst (its f) && neB b.dst (its f).dst) && (t.fa.all fun x=>x == s.i || (nrB b.dst (its x) && nmD (its x) != nmD b))
 else false)
def keepB (keep:List Nat) (t s:It):Bool:=
 (!loudB s || match t.dst with
   | some d=>!keep.contains d
   | none=>true) && (!loudB t || match s.dst with
   | some d=>!keep.contains d
   | none=>true)
theorem keepB_iff {keep:List Nat} {t s:It} (h:keepB keep t s=true) :(loudB s=true→∀d,t.dst=some d→d∉keep)∧(loudB t=true→∀d,s.dst=some d→d∉keep):=by
 simp only[keepB,Bool.and_eq_true,Bool.or_eq_true,Bool.not_eq_true'] at h
 refine ⟨fun hl d hd hm=>?_,fun hl d hd hm=>?_⟩
 ·rcases h.1 with h|h
  ·rw[hl] at h;cases h
  ·rw[hd] at h;simp[hm] at h
 ·rcases h.2 with h|h
  ·rw[hl] at h;cases h
  ·rw[hd] at h;simp[hm] at h
def commB (its:Nat→It) (keep:List Nat) (t s:Ent):Bool:=commA its t s && keepB keep (its t.i) (its s.i)
def stayB (its:Nat→It) (t s:Ent):Bool:=!(its t.i).isL || (nrB (its s.i).dst (its t.i) && neB (its s.i).dst (its t.i).dst)
def Ent.drop (i:Nat) (e:Ent):Ent:={ e with fa:=e.fa.filter (· != i) }
section
variable {E : Env} {Q:Post} {its:Nat→It}
theorem awit_fa {t:Stp} (h:t.it.isC=false∨t.it.pc=true) {K:KT} {fa:List It} {tm:TM} {df:DF} {hp:Heap} (ha:AWit E Q t K tm df hp):AWit E Q { t with fa:=fa } K tm df hp:=by
 rw[awit_iff] at ha ⊢
 rcases ha with ⟨h1,h2⟩ | ⟨h1,h2⟩
 ·refine .inl ⟨h1,?_⟩
  unfold AWx It.isC at *
  cases hop:t.it.op<;>simp only[hop] at h h2 ⊢<;>try exact h2
  all_goals
   rcases h with h|h
   ·cases h
   ·rw[if_pos h] at h2 ⊢;exact h2
 ·exact .inr ⟨h1,h2⟩
theorem awit_fl {t:Stp} {fl':List It} (hfl:∀f∈fl',f∈t.fl) {K:KT} {tm:TM} {df:DF} {hp:Heap} (ha:AWit E Q t K tm df hp):AWit E Q { t with fa:=[],fl:=fl' } K tm df hp:=
 past (dt:=none) (v:=.any) (fun _ t ht=>by cases ht) (fun t ht=>by cases ht) (fun f hf=>⟨hfl f hf,fun t ht=>by (cases ht),fun t ht=>by cases ht⟩) ha fun _ _ _ _ hk=>hk
theorem contains_iff {l:List Nat} {i:Nat} : l.contains i=true↔i∈l:=by simp
theorem step_left {t s:Ent} {G G':List Nat} (hG:∀f∈G,nr (its t.i).dst (its f)∧∀d,(its t.i).dst=some d→(its f).dst≠some d) (hG':∀f,f∈G→f∈G') (hL :(its t.i).isL=true→t.i∈G')
 (hc:commB its E.keep t s=true) {K:KT} {tm:TM} {df:DF} {hp:Heap}
 (ha:AWit E Q (t.stp its) (AWit E Q ⟨its s.i,s.fd,[],(s.fl.filter G'.contains).map its⟩ K) tm df hp) :
 AWit E Q ⟨its s.i,s.fd,[],(s.fl.filter G.contains).map its⟩ (AWit E Q ((t.drop s.i).stp its) K) tm df hp:=by
 obtain ⟨hc,hkp⟩:=Bool.and_eq_true_iff.1 hc
 obtain ⟨hkp,hkq⟩:=keepB_iff hkp
 simp only[commA,Bool.and_eq_true] at hc
 obtain ⟨hap,hc⟩:=hc
 have hap:=apartB_iff hap
 have hfl:∀f∈(s.fl.filter G.contains).map its,f∈(s.fl.filter G'.contains).map its∧nr (its t.i).dst f∧∀d,(its t.i).dst=some d→f.dst≠some d:=by
  intro f hf
  obtain ⟨j,hj,rfl⟩:=List.mem_map.1 hf
  obtain ⟨h1,h2⟩:=List.mem_filter.1 hj
  have h2:=contains_iff.1 h2
  exact ⟨List.mem_map.2 ⟨j,List.mem_filter.2 ⟨h1,contains_iff.2 (hG' j h2)⟩,rfl⟩,hG j h2⟩
 split at hc
 ·rename_i hl
  have:=comm_look (t:=t.stp its) (s:=⟨its s.i,s.fd,[],(s.fl.filter G'.contains).map its⟩) (fl':=(s.fl.filter G.contains).map its) hkp hl hap hfl ?_ ha
  ·refine AWit_mono (fun _ _ _ hk=>awit_fa (t:=t.stp its) ?_ hk) this
   unfold It.look at hl
   unfold It.isC
   show _∨(its t.i).pc=true
   cases hop :(its t.i).op<;>simp only[hop,Ent.stp] at hl ⊢<;>first|exact .inr hl|exact .inl rfl|exact .inl trivial
  ·intro hL'
   have hL'' :(its t.i).isL=true:=hL'
   simp only[hL'',Bool.not_true,Bool.false_or,Bool.and_eq_true,Bool.or_eq_true,Bool.not_eq_true',Option.isSome_iff_exists,nrB_iff] at hc
   obtain ⟨⟨⟨⟨h1,h2⟩,h3⟩,h4⟩,h5⟩:=hc
   refine ⟨h1,h2,h3,fun hA=>?_,?_⟩
   ·have hA:isA (its s.i).op=true:=hA
    rcases h4 with h4|h4
    ·rw[hA] at h4;cases h4
    ·exact h4
   ·rcases h5 with (h5|h5)|h5
    ·exact .inl h5
    ·exact .inr (.inl h5)
    ·exact .inr (.inr (List.mem_map.2 ⟨t.i,List.mem_filter.2 ⟨contains_iff.1 h5,contains_iff.2 (hL hL'')⟩,rfl⟩))
 ·split at hc
  ·rename_i hl hA
   simp only[Bool.and_eq_true,Bool.or_eq_true,Bool.not_eq_true',List.isEmpty_iff,bne_iff_ne,ne_eq] at hc
   obtain ⟨h0,h1⟩:=hc
   have:=comm_made (t:=t.stp its) (s:=⟨its s.i,s.fd,[],(s.fl.filter G'.contains).map its⟩) (fl':=(s.fl.filter G.contains).map its) hkp hA (by simp[Ent.stp,h0]) hap hfl ?_ ha
   ·refine AWit_mono (fun _ _ _ hk=>awit_fa (t:=t.stp its) (.inl ?_) hk) this
    unfold It.isC
    show (match (its t.i).op with | .call _ _=>true | .inv _ _ _=>true|_=>false)=false
    cases hop :(its t.i).op<;>rw[hop] at hA<;>first|rfl|cases hA
   ·have hnm:∀{x y:It},¬nmD x=nmD y→nmOf E.F x.dst≠nmOf E.F y.dst:=fun h he=>h (by simpa[nmOf,nmD] using he)
    rcases h1 with (⟨⟨h1,h2⟩,h3⟩ | ⟨⟨h1,h2⟩,h3⟩)|⟨⟨h1,h2⟩,h3⟩
    ·exact .inl ⟨h1,h2,fun hL'=>by
      have hL' :(its s.i).isL=true:=hL'
      rcases h3 with h3|h3
      ·rw[hL'] at h3;cases h3
      ·exact h3⟩
    ·exact .inr (.inl ⟨h1,by simp[h2],hnm h3⟩)
    ·exact .inr (.inr ⟨h1,h2,hnm h3⟩)
  ·split at hc
   ·rename_i hl hA hC
    simp only[Bool.and_eq_true,Bool.not_eq_true',List.isEmpty_iff,List.all_eq_true,Bool.or_eq_true,beq_iff_eq,nrB_iff,neB_iff,bne_iff_ne,ne_eq] at hc hC
    obtain ⟨⟨⟨⟨⟨h1,h2⟩,h3⟩,h4⟩,h5⟩,h6⟩:=hc
    have e:∀G:List Nat,(s.fl.filter G.contains).map its=[]:=fun G=>by rw[h3];rfl
    rw[e] at ha
    rw[e]
    refine comm_call (t:=t.stp its) (s:=⟨its s.i,s.fd,[],[]⟩) (fa':=(t.drop s.i).fa.map its) hkp (hkq (by unfold loudB;rw[show (its t.i).isC=true from hC.1];rfl)) hC.1 hC.2 h1 rfl hap (List.mem_map.2 ⟨s.i,contains_iff.1 h4,rfl⟩) (fun f hf=>?_) h2 (fun x hx=>?_) ha
    ·obtain ⟨j,hj,rfl⟩:=List.mem_map.1 hf
     exact h5 j hj
    ·obtain ⟨j,hj,rfl⟩:=List.mem_map.1 hx
     simp only[Ent.drop,List.mem_filter,bne_iff_ne,ne_eq] at hj
     refine ⟨List.mem_map.2 ⟨j,hj.1,rfl⟩,?_⟩
     rcases h6 j hj.1 with h7|h7
     ·exact absurd h7 hj.2
     ·exact ⟨h7.1,fun he=>h7.2 (by simpa[nmOf,nmD] using he)⟩
   ·cases hc
theorem to_front {s:Ent} {R2:List Ent} {K:KT} : ∀(R1:List Ent) (G:List Nat),(∀f∈G,∀r∈R1,nr (its r.i).dst (its f)∧∀d,(its r.i).dst=some d→(its f).dst≠some d)→(∀r∈R1,commB its E.keep r s=true)→
 R1.Pairwise (fun a b=>stayB its a b=true)→∀{tm:TM} {df:DF} {hp:Heap},AWops E Q ((R1++s::R2).map (Ent.stp its)) K tm df hp→
 AWit E Q ⟨its s.i,s.fd,[],(s.fl.filter G.contains).map its⟩ (AWops E Q ((R1.map (Ent.drop s.i)++R2).map (Ent.stp its)) K) tm df hp
 | [],G,_,_,_,tm,df,hp,ha=>by
   refine awit_fl (t:=s.stp its) (fun f hf=>?_) ha
   obtain ⟨j,hj,rfl⟩:=List.mem_map.1 hf
   exact List.mem_map.2 ⟨j,(List.mem_filter.1 hj).1,rfl⟩
 | r::R1,G,hG,hc,hp,tm,df,h,ha=>by
   have hp':=List.pairwise_cons.1 hp
   let G':=if (its r.i).isL=true then r.i::G else G
   have hG':∀f∈G',∀r'∈R1,nr (its r'.i).dst (its f)∧∀d,(its r'.i).dst=some d→(its f).dst≠some d:=by
    intro f hf r' hr'
    simp only[G'] at hf
    split at hf
    ·rename_i hL
     rcases List.mem_cons.1 hf with rfl|hf
     ·have:=hp'.1 r' hr'
      simp only[stayB,hL,Bool.not_true,Bool.false_or,Bool.and_eq_true,nrB_iff,neB_iff] at this
      exact this
     ·exact hG f hf r' (List.mem_cons_of_mem _ hr')
    ·exact hG f hf r' (List.mem_cons_of_mem _ hr')
   have ih:=fun {tm:TM} {df:DF} {h:Heap}=>to_front (s:=s) (R2:=R2) (K:=K) R1 G' hG' (fun x hx=>hc x (List.mem_cons_of_mem _ hx)) hp'.2 (tm:=tm) (df:=df) (hp:=h)
   refine step_left (t:=r) (G':=G') (fun f hf=>hG f hf r (List.mem_cons_self)) (fun f hf=>?_) (fun hL=>?_) (hc r (List.mem_cons_self)) (AWit_mono (fun _ _ _ hk=>ih hk) ha)
   ·simp only[G'];split
    ·exact List.mem_cons_of_mem _ hf
    ·exact hf
   ·simp only[G'];rw[if_pos hL];exact List.mem_cons_self
end
end Go.Cw
end
section
namespace Go.Cw
open Go
def maskOf (acc:List Nat) (o:Oper):Nat:=o.after.toList.foldl (fun s e=>if Region.binds .any e then s ||| 2^e.on ||| acc.getD e.on 0 else s) 0
def masks : List Oper→List Nat→List Nat
 | [],acc=>acc
 | o::r,acc=>masks r (acc++[maskOf acc o])
def Down (ops:Array Oper) (S:Nat→Prop):Prop:=∀j o,ops[j]? = some o→S j→∀e∈o.after,Region.binds .any e=true→S e.on
theorem maskOf_reach {ops:Array Oper} {acc:List Nat} (hacc:∀j i,(acc.getD j 0).testBit i=true→∀S,Down ops S→S j→S i) {o:Oper} {i:Nat} (hb :(maskOf acc o).testBit i=true)
 (S:Nat→Prop) (hS:Down ops S) (hpre:∀e∈o.after,Region.binds .any e=true→S e.on):S i:=by
 have key:∀(l:List Edge) (s:Nat),(l.foldl (fun s e=>if Region.binds .any e then s ||| 2^e.on ||| acc.getD e.on 0 else s) s).testBit i=true→
  s.testBit i=true∨∃e∈l,Region.binds .any e=true∧(i=e.on∨(acc.getD e.on 0).testBit i=true):=by
  intro l
  induction l with
  | nil=>intro s h;exact .inl h
  | cons e l ih=>
    intro s h
    simp only[List.foldl_cons] at h
    rcases ih _ h with h|⟨e',h1,h2⟩
    ·split at h
     ·rename_i hb
      rw[Nat.testBit_or,Nat.testBit_or,Bool.or_eq_true,Bool.or_eq_true] at h
      rcases h with (h|h)|h
      ·exact .inl h
      ·refine .inr ⟨e,List.mem_cons_self,hb,.inl ?_⟩
       rw[Nat.testBit_two_pow] at h
       simpa[eq_comm] using h
      ·exact .inr ⟨e,List.mem_cons_self,hb,.inr h⟩
     ·exact .inl h
    ·exact .inr ⟨e',List.mem_cons_of_mem _ h1,h2⟩
 rcases key _ _ hb with h|⟨e,h1,h2,h3⟩
 ·simp at h
 ·have he:=hpre e (by simpa using h1) h2
  rcases h3 with rfl|h3
  ·exact he
  ·exact hacc _ _ h3 S hS he
theorem masks_reach {ops:Array Oper} : ∀(l:List Oper) (acc:List Nat) (pre:List Oper),ops.toList=pre++l→acc.length=pre.length→(∀j i,(acc.getD j 0).testBit i=true→∀S,Down ops S→S j→S i)→
 ∀j i,((masks l acc).getD j 0).testBit i=true→∀S,Down ops S→S j→S i
 | [],acc,pre,_,_,hacc=>hacc
 | o::l,acc,pre,hops,hlen,hacc=>by
   refine masks_reach l _ (pre++[o]) (by simp[hops]) (by simp[hlen]) ?_
   intro j i hb S hS hj
   by_cases hjl:j<acc.length
   ·rw[List.getD_eq_getElem?_getD,List.getElem?_append_left hjl,←List.getD_eq_getElem?_getD] at hb
    exact hacc j i hb S hS hj
   ·by_cases hje:j=acc.length
    ·subst hje
     have :(acc++[maskOf acc o]).getD acc.length 0=maskOf acc o:=by simp
     rw[this] at hb
     have ho:ops[acc.length]? = some o:=by
      rw[←Array.getElem?_toList,hops,hlen];simp
     exact maskOf_reach hacc hb S hS fun e he hbe=>hS _ o ho hj e he hbe
    ·have :(acc++[maskOf acc o]).getD j 0=0:=by
      rw[List.getD_eq_getElem?_getD,List.getElem?_eq_none (by simp;omega)];rfl
     rw[this] at hb;simp at hb
def pairsB {α:Type} (p:α→α→Bool):List α→Bool
 | []=>true
 | x::r=>r.all (p x) && pairsB p r
theorem pairsB_iff {α:Type} {p:α→α→Bool} : ∀{l:List α},pairsB p l=true↔l.Pairwise fun a b=>p a b=true
 | []=>by simp[pairsB]
 | x::r=>by simp[pairsB,List.pairwise_cons,pairsB_iff (l:=r)]
def okDraw (ops:Array Oper) (its:Nat→It) (keep:List Nat) (l:List Ent):Bool:=
 let ms:=masks ops.toList []
 (l.length == ops.size) && (l.all fun e=>decide (e.i<ops.size)) && pairsB (fun a b=>a.i != b.i) l &&
 ((List.range ops.size).all fun i=>l.any fun e=>e.i == i) &&
 ((List.range ops.size).all fun i=>match ops[i]? with
   | some o=>o.after.toList.all fun e=>!Region.binds .any e || decide (e.on<i)
   | none=>true) &&
 pairsB (fun a b=>((ms.getD b.i 0).testBit a.i || commB its keep a b) && stayB its a b) l
section
variable {E : Env} {Q:Post} {its:Nat→It} {ops:Array Oper}
theorem drop_i (i:Nat) (e:Ent) :(e.drop i).i=e.i:=rfl
theorem commA_drop_left {i:Nat} {a b:Ent} (hb:b.i≠i) (h:commA its a b=true):commA its (a.drop i) b=true:=by
 unfold commA at *
 simp only[drop_i]
 simp only[Bool.and_eq_true] at h ⊢
 refine ⟨h.1,?_⟩
 have h:=h.2
 split
 ·rename_i hl;rw[if_pos hl] at h;exact h
 ·rename_i hl
  rw[if_neg hl] at h
  split
  ·rename_i hA;rw[if_pos hA] at h;exact h
  ·rename_i hA
   rw[if_neg hA] at h
   split
   ·rename_i hC
    rw[if_pos hC] at h
    simp only[Bool.and_eq_true,List.all_eq_true] at h ⊢
    obtain ⟨⟨⟨⟨⟨h1,h2⟩,h3⟩,h4⟩,h5⟩,h6⟩:=h
    refine ⟨⟨⟨⟨⟨h1,h2⟩,h3⟩,?_⟩,h5⟩,fun x hx=>h6 x (List.mem_filter.1 hx).1⟩
    rw[contains_iff] at h4 ⊢
    exact List.mem_filter.2 ⟨h4,by simpa using hb⟩
   ·rename_i hC;rw[if_neg hC] at h;exact h
theorem commB_drop_left {i:Nat} {keep:List Nat} {a b:Ent} (hb:b.i≠i) (h:commB its keep a b=true):commB its keep (a.drop i) b=true:=by
 obtain ⟨h1,h2⟩:=Bool.and_eq_true_iff.1 h
 exact Bool.and_eq_true_iff.2 ⟨commA_drop_left hb h1,h2⟩
theorem anyOrder {Z₀:Snap} {μ₀:Mu} {h₀:Heap} {g₀:Nat} {w₀:World} {ro:Option Nat} (hro:ro.isSome=E.inr) (hits:∀i,i<ops.size→∃o,ops[i]? = some o∧CompIt E.P E.n ops o (its i))
 (hback:∀i o,ops[i]? = some o→∀e∈o.after,Region.binds .any e=true→e.on<i) (anc:Nat→Nat→Bool) (hanc:∀i j,anc i j=true→∀S,Down ops S→S j→S i) :
 ∀(R:List Ent) (listed:Array Bool),listed.size=ops.size→(∀e∈R,e.i<ops.size)→R.Pairwise (fun a b=>a.i≠b.i)→(∀i,i<ops.size→(listed.getD i true=false↔∃e∈R,e.i=i))→
 Down ops (fun i=>listed.getD i false=true)→R.Pairwise (fun a b=>(anc a.i b.i=true∨commB its E.keep a b=true)∧stayB its a b=true)→
 ∀{Z:Snap} {μ:Mu} {h:Heap} {g:Nat} {w:World} {tm:TM} {df:DF} {ca:Act},Tr Z₀ μ₀ h₀ g₀ w₀ Z μ h g w→Sim Z μ h g w→TRel Z μ g E.n tm ca.tmps→DRel Z μ g df ca.defers→
 AWops E Q (R.map (Ent.stp its)) (Q .normal) tm df h→wpAnyIn (Fw ro) 0 E.P .any ops (Out E.n Q Z₀ μ₀ h₀ g₀ w₀) R.length listed ca w:=by
 intro R
 generalize hk:R.length=k
 induction k generalizing R with
 | zero=>
   intro listed hsz hlt hnd hlist hdown hpw Z μ h g w tm df ca T₀ S T D ha
   obtain rfl:R=[]:=List.eq_nil_of_length_eq_zero hk
   refine ⟨?_,Z,μ,g,.normal,tm,df,h,ha,rfl,S,T,D,T₀⟩
   rw[List.eq_nil_iff_forall_not_mem]
   intro i hi
   obtain ⟨h1,o,ho,_⟩:=mem_ready.1 hi
   have hi':i<ops.size:=(Array.getElem?_eq_some_iff.1 ho).1
   obtain ⟨e,he,_⟩:=(hlist i hi').1 h1
   cases he
 | succ k ih=>
   intro listed hsz hlt hnd hlist hdown hpw Z μ h g w tm df ca T₀ S T D ha
   have listed_of:∀{i:Nat},i<ops.size→(∀e∈R,e.i≠i)→listed.getD i false=true:=by
    intro i hi hne
    have h1:¬listed.getD i true=false:=fun hx=>by obtain ⟨e,he,h2⟩:=(hlist i hi).1 hx;exact hne e he h2
    have h2:i<listed.size:=by omega
    simp only[Array.getD_eq_getD_getElem?,Array.getElem?_eq_getElem h2,Option.getD_some] at h1 ⊢
    simpa using h1
   refine ⟨fun hr=>?_,fun i hi=>?_⟩
   ·exfalso
    have hne:∃i,∃e∈R,e.i=i:=by
     cases R with
     | nil=>simp at hk
     | cons e r=>exact ⟨e.i,e,List.mem_cons_self,rfl⟩
    obtain ⟨i,⟨e,he,rfl⟩,hmin⟩:=least hne
    have hi:=hlt e he
    obtain ⟨o,ho,_⟩:=hits _ hi
    have:e.i∈Region.ready .any ops listed:=by
     rw[mem_ready]
     refine ⟨(hlist _ hi).2 ⟨e,he,rfl⟩,o,ho,fun ed hed hb=>?_⟩
     have hlt':=hback _ o ho ed hed hb
     refine listed_of (by omega) fun e' he' heq=>?_
     have:=hmin e'.i ⟨e',he',rfl⟩
     omega
    rw[hr] at this;cases this
   ·obtain ⟨h1,o,ho,hall⟩:=mem_ready.1 hi
    have hi':i<ops.size:=(Array.getElem?_eq_some_iff.1 ho).1
    obtain ⟨s,hs,rfl⟩:=(hlist i hi').1 h1
    obtain ⟨R1,R2,rfl⟩:=List.append_of_mem hs
    have hpw':=List.pairwise_append.1 hpw
    have hnd':=List.pairwise_append.1 hnd
    have hs2:=(List.pairwise_cons.1 hpw'.2.1).1
    have hn2:=(List.pairwise_cons.1 hnd'.2.1).1
    have hneR:∀e∈R1++R2,e.i≠s.i:=by
     intro e he
     rcases List.mem_append.1 he with he|he
     ·exact hnd'.2.2 e he s List.mem_cons_self
     ·exact (hn2 e he).symm
    have hcm:∀r∈R1,commB its E.keep r s=true:=by
     intro r hr
     rcases (hpw'.2.2 r hr s List.mem_cons_self).1 with h2|h2
     ·exfalso
      have hS:Down ops (fun j=>listed.getD j false=true∨j=s.i):=by
       intro j o' ho' hj e he hb
       rcases hj with hj|rfl
       ·exact .inl (hdown j o' ho' hj e he hb)
       ·rw[ho] at ho';cases ho'
        exact .inl (hall e he hb)
      have hr':r.i≠s.i:=hneR r (List.mem_append_left _ hr)
      rcases hanc _ _ h2 _ hS (.inr rfl) with h3|h3
      ·have h4:=(hlist r.i (hlt r (List.mem_append_left _ hr))).2 ⟨r,List.mem_append_left _ hr,rfl⟩
       have h5:r.i<listed.size:=by rw[hsz];exact hlt r (List.mem_append_left _ hr)
       simp only[Array.getD_eq_getD_getElem?,Array.getElem?_eq_getElem h5,Option.getD_some] at h3 h4
       rw[h3] at h4;cases h4
      ·exact hr' h3
     ·exact h2
    have hfront:=to_front (E:=E) (Q:=Q) (its:=its) (R2:=R2) R1 [] (fun f hf=>by cases hf) hcm (hpw'.1.imp fun hx=>hx.2) ha
    obtain ⟨o',ho',hx⟩:=hits _ hi'
    rw[ho] at ho';cases ho'
    refine wpOpIn_mono (K:=OutK E.n (AWops E Q ((R1.map (Ent.drop s.i)++R2).map (Ent.stp its)) (Q .normal)) Z₀ μ₀ h₀ g₀ w₀) ?_ (aWit_sound T₀ S T D hro ho hx hfront)
    rintro ca' w' ⟨Z',μ',g',tm',df',h',hk',S',T',D',T₁⟩
    have hmem:∀{e:Ent},e∈R1.map (Ent.drop s.i)++R2→∃e'∈R1++R2,e'.i=e.i:=by
     intro e he
     rcases List.mem_append.1 he with he|he
     ·obtain ⟨e',h3,rfl⟩:=List.mem_map.1 he
      exact ⟨e',List.mem_append_left _ h3,rfl⟩
     ·exact ⟨e,List.mem_append_right _ he,rfl⟩
    have hmem':∀{e:Ent},e∈R1++R2→∃e'∈R1.map (Ent.drop s.i)++R2,e'.i=e.i:=by
     intro e he
     rcases List.mem_append.1 he with he|he
     ·exact ⟨_,List.mem_append_left _ (List.mem_map.2 ⟨e,he,rfl⟩),rfl⟩
     ·exact ⟨e,List.mem_append_right _ he,rfl⟩
    have hR:∀{e:Ent},e∈R1++R2→e∈R1++s::R2:=by
     intro e he
     rcases List.mem_append.1 he with he|he
     ·exact List.mem_append_left _ he
     ·exact List.mem_append_right _ (List.mem_cons_of_mem _ he)
    refine ih _ (by simp at hk ⊢;omega) _ (by simpa using hsz) (fun e he=>?_) ?_ (fun i hi=>?_) ?_ ?_ T₁ S' T' D' hk'
    ·obtain ⟨e',h3,h4⟩:=hmem he
     rw[←h4];exact hlt e' (hR h3)
    ·rw[List.pairwise_append,List.pairwise_map]
     refine ⟨hnd'.1.imp fun hx=>hx,(List.pairwise_cons.1 hnd'.2.1).2,fun a ha b hb=>?_⟩
     obtain ⟨a',h3,rfl⟩:=List.mem_map.1 ha
     exact hnd'.2.2 a' h3 b (List.mem_cons_of_mem _ hb)
    ·by_cases hie:i=s.i
     ·subst hie
      constructor
      ·intro hx
       have h5:s.i<listed.size:=by omega
       simp[h5] at hx
      ·rintro ⟨e,he,heq⟩
       obtain ⟨e',h3,h4⟩:=hmem he
       exact absurd (h4.trans heq) (hneR e' h3)
     ·rw[getD_set_ne true (Ne.symm hie),hlist i hi]
      constructor
      ·rintro ⟨e,he,rfl⟩
       have:e∈R1++R2:=by
        rcases List.mem_append.1 he with he|he
        ·exact List.mem_append_left _ he
        ·rcases List.mem_cons.1 he with rfl|he
         ·exact absurd rfl hie
         ·exact List.mem_append_right _ he
       exact hmem' this
      ·rintro ⟨e,he,rfl⟩
       obtain ⟨e',h3,h4⟩:=hmem he
       exact ⟨e',hR h3,h4⟩
    ·intro j o' ho' hj e he hb
     by_cases hjs:j=s.i
     ·subst hjs
      rw[ho] at ho';cases ho'
      exact getD_set_true (hall e he hb)
     ·rw[getD_set_ne false (Ne.symm hjs)] at hj
      exact getD_set_true (hdown j o' ho' hj e he hb)
    ·rw[List.pairwise_append,List.pairwise_map]
     refine ⟨?_,(List.pairwise_cons.1 hpw'.2.1).2,fun a ha b hb=>?_⟩
     ·refine List.Pairwise.imp_of_mem ?_ hpw'.1
      intro a b ha hb hx
      exact ⟨hx.1.imp id fun hc=>commB_drop_left (by rw[drop_i];exact hneR b (List.mem_append_left _ hb)) hc,hx.2⟩
     ·obtain ⟨a',h3,rfl⟩:=List.mem_map.1 ha
      have hx:=hpw'.2.2 a' h3 b (List.mem_cons_of_mem _ hb)
      exact ⟨hx.1.imp id fun hc=>commB_drop_left (hneR b (List.mem_append_right _ hb)) hc,hx.2⟩
theorem ok_draw {id:Nat} {tm:TM} {df:DF} {h:Heap} (hm:E.P.follows .mixedOrders=true) (hits:∀i,i<ops.size→∃o,ops[i]? = some o∧CompIt E.P E.n ops o (its i)) {l:List Ent} (hok:okDraw ops its E.keep l=true)
 (ha:AWops E Q (l.map (Ent.stp its)) (Q .normal) tm df h):Ok E (.region id ops true) Q tm df h:=by
 intro ro hro Z μ g w ca S T D
 refine wpIn_region_any hm ?_
 simp only[okDraw,Bool.and_eq_true,List.all_eq_true,decide_eq_true_eq,pairsB_iff,beq_iff_eq,bne_iff_ne,ne_eq,Bool.or_eq_true,List.mem_range,List.any_eq_true] at hok
 obtain ⟨⟨⟨⟨⟨h1,h2⟩,h3⟩,h0⟩,h4⟩,h5⟩:=hok
 have hback:∀i o,ops[i]? = some o→∀e∈o.after,Region.binds .any e=true→e.on<i:=by
  intro i o ho e he hb
  have:=h4 i (Array.getElem?_eq_some_iff.1 ho).1
  rw[ho] at this
  simp only[List.all_eq_true,Bool.or_eq_true,Bool.not_eq_true',decide_eq_true_eq] at this
  rcases this e (by simpa using he) with h6|h6
  ·rw[h6] at hb;cases hb
  ·exact h6
 have hfull:∀i,i<ops.size→∃e∈l,e.i=i:=by
  intro i hi
  obtain ⟨e,he,h6⟩:=h0 i hi
  exact ⟨e,he,h6⟩
 have key:=anyOrder (Q:=Q) (ops:=ops) (its:=its) hro hits hback (fun i j=>((masks ops.toList []).getD j 0).testBit i)
  (fun i j hij S hS hj=>masks_reach ops.toList [] [] rfl rfl (fun j i hb=>by simp at hb) j i hij S hS hj) l (Array.replicate ops.size false) (by simp) h2 h3
  (fun i hi=>⟨fun _=>hfull i hi,fun _=>by simp[hi]⟩)
  (fun j o ho hj=>by
    have hj':j<ops.size:=(Array.getElem?_eq_some_iff.1 ho).1
    simp[hj'] at hj) h5
  (Tr.of_heap (w:=w) (w':={ w with drawn:=w.drawn+1 }) rfl) (S.of_heap rfl) T D ha
 rw[h1] at key
 exact key
end
end Go.Cw
end
section
namespace Go.Cw
open Go
structure Cfg where
 pure:List Nat:=[]
 pcs:List Nat:=[]
 raw:List Nat:=[]
 cuts:List Nat:=[]
 draws:List (Nat×List Ent):=[]
 keep:List Nat:=[]
def pcOf (cfg:Cfg) (d:Option Nat):IOp→Bool
 | .call (.c (.func (.func f) [] [])) _=>cfg.pure.contains f || (match d with|some d=>cfg.pcs.contains d|none=>false)
 | .call _ _=>match d with|some d=>cfg.pcs.contains d|none=>false
 | .inv _ _ _=>match d with|some d=>cfg.pcs.contains d|none=>false
 | _=>false
def guardOf (n:Nat) (ops:Array Oper):Option (Nat×Bool)→Option (Option (Nat×Bool))
 | none=>some none
 | some (j,b)=>match (ops[j]?).bind (·.dst) with
   | some t=>if t<n then some (some (t,b)) else none
   | none=>none
def dstOk (n:Nat):Option Nat→Bool
 | none=>true
 | some d=>decide (d<n)
def compIt (P:Program) (n:Nat) (cfg:Cfg) (ops:Array Oper) (o:Oper):Option It:=
 match comp P o.op,guardOf n ops o.guard with
 | some io,some g=>if dstOk n o.dst then some ⟨o.dst,g,io,pcOf cfg o.dst io,match o.dst with|some d=>cfg.raw.contains d|none=>false⟩ else none
 | _,_=>none
def compIts (P:Program) (n:Nat) (cfg:Cfg) (ops:Array Oper):List Oper→Option (List It)
 | []=>some []
 | o::r=>match compIt P n cfg ops o,compIts P n cfg ops r with
   | some x,some xs=>some (x::xs)
   | _,_=>none
instance : Inhabited It:=⟨⟨none,none,.mkmap,false,false⟩⟩
def drawOf (cfg:Cfg) (id:Nat):Option (List Ent):=(cfg.draws.find? fun x=>x.1 == id).map (·.2)
def compR (P:Program) (n:Nat) (cfg:Cfg) (id:Nat) (ops:Array Oper) (d:Bool):Option IR:=
 match compIts P n cfg ops ops.toList with
 | none=>none
 | some its=>
   if d then
    match drawOf cfg id with
    | some l=>if okDraw ops (fun i=>its.getD i default) cfg.keep l then some (.ops fun _=>l.map (Ent.stp fun i=>its.getD i default)) else if okDraw ops (fun i=>its.getD i default) [] l then some (.nk (.ops fun _=>l.map (Ent.stp fun i=>its.getD i default))) else none
    | none=>none
   else some (.ops fun _=>its.map fun x=>⟨x,false,[],[]⟩)
def compC (P:Program) (n:Nat) (cfg:Cfg):Code→Option IR
 | .skip=>some .skip
 | .region id ops d=>match compR P n cfg id ops d with
   | some x=>some (if cfg.cuts.contains id then .cut x else x)
   | none=>none
 | .seq a b=>match compC P n cfg a,compC P n cfg b with
   | some x,some y=>some (.seq x y)
   | _,_=>none
 | .cond c a b=>match cOpd c,compC P n cfg a,compC P n cfg b with
   | some c',some x,some y=>some (.cond c' x y)
   | _,_,_=>none
 | .block id a=>match compC P n cfg a with
   | some x=>some (.block id x)
   | none=>none
 | .loop a=>match compC P n cfg a with
   | some x=>some (.loop x)
   | none=>none
 | .exit id=>some (.exit id)
 | .ret=>some .ret
 | .rangeFunc g ps a b=>match cOpd g,compC P n cfg a,compC P n cfg b with
   | some g',some x,some y=>if ps.toList.all (fun t=>decide (t<n)) then some (.rangeF g' ps.toList x y) else none
   | _,_,_=>none
 | .scope a=>compC P n cfg a
 | .label _=>some .skip
 | _=>none
theorem compIt_sound {P:Program} {n:Nat} {cfg:Cfg} {ops:Array Oper} {o:Oper} {x:It} (h:compIt P n cfg ops o=some x):CompIt P n ops o x:=by
 unfold compIt at h
 split at h
 ·rename_i io g h1 h2
  split at h
  ·rename_i hd
   simp only[Option.some.injEq] at h
   subst h
   refine ⟨h1,rfl,fun d hod=>?_,?_⟩
   ·rw[hod] at hd;simpa[dstOk] using hd
   ·unfold guardOf at h2
    split at h2
    ·rename_i hg;rw[hg];simpa[eq_comm] using h2
    ·rename_i j b hg
     rw[hg]
     simp only[]
     split at h2
     ·rename_i t ht
      split at h2
      ·rename_i hlt
       simp only[Option.some.injEq] at h2
       exact ⟨t,ht,hlt,h2.symm⟩
      ·cases h2
     ·cases h2
  ·cases h
 ·cases h
theorem compIts_sound {P:Program} {n:Nat} {cfg:Cfg} {ops:Array Oper} : ∀{l:List Oper} {xs:List It},compIts P n cfg ops l=some xs→xs.length=l.length∧∀i o,l[i]? = some o→CompIt P n ops o (xs.getD i default)
 | [],xs,h=>by
   simp only[compIts,Option.some.injEq] at h
   subst h
   exact ⟨rfl,fun i o hi=>by simp at hi⟩
 | o::l,xs,h=>by
   simp only[compIts] at h
   split at h
   ·rename_i x xs' h1 h2
    simp only[Option.some.injEq] at h
    subst h
    obtain ⟨h3,h4⟩:=compIts_sound h2
    refine ⟨by simp[h3],fun i o' hi=>?_⟩
    cases i with
    | zero=>simp only[List.getElem?_cons_zero,Option.some.injEq] at hi;subst hi;exact compIt_sound h1
    | succ i=>exact h4 i o' (by simpa using hi)
   ·cases h
theorem compR_fit {P:Program} {n:Nat} {cfg:Cfg} (hm:P.follows .mixedOrders=true) {id:Nat} {ops:Array Oper} {d:Bool} {x:IR} (h:compR P n cfg id ops d=some x) (F:Nat) (inr:Bool) :
 Fit ⟨P,F,n,inr,cfg.keep⟩ (.region id ops d) x:=by
 unfold compR at h
 split at h
 ·cases h
 ·rename_i its hits
  obtain ⟨h1,h2⟩:=compIts_sound hits
  have hall:∀i,i<ops.size→∃o,ops[i]? = some o∧CompIt P n ops o (its.getD i default):=fun i hi=>
   ⟨ops[i],Array.getElem?_eq_getElem hi,h2 i _ (by rw[Array.getElem?_toList,Array.getElem?_eq_getElem hi])⟩
  split at h
  ·rename_i hd
   subst hd
   split at h
   ·rename_i l hl
    split at h
    ·rename_i hok
     simp only[Option.some.injEq] at h
     subst h
     exact fun Q tm df h ha=>ok_draw (E:=⟨P,F,n,inr,cfg.keep⟩) (its:=fun i=>its.getD i default) hm hall hok ha
    split at h
    ·rename_i hok
     simp only[Option.some.injEq] at h
     subst h
     refine Fit.nk ?_
     exact fun Q tm df h ha=>ok_draw (E:=⟨P,F,n,inr,[]⟩) (its:=fun i=>its.getD i default) hm hall hok ha
    ·cases h
   ·cases h
  ·rename_i hd
   obtain rfl:d=false:=by simpa using hd
   simp only[Option.some.injEq] at h
   subst h
   intro Q tm df h ha
   refine ok_region (E:=⟨P,F,n,inr,cfg.keep⟩) (fun i=>⟨its.getD i default,false,[],[]⟩) hall ?_
   have :(List.range ops.size).map (fun i=>(⟨its.getD i default,false,[],[]⟩ : Stp))=its.map fun x=>⟨x,false,[],[]⟩:=by
    apply List.ext_getElem?
    intro i
    simp only[List.getElem?_map,List.getElem?_range']
    by_cases hi:i<ops.size
    ·have hi':i<its.length:=by rw[h1];simpa using hi
     simp[List.getElem?_range hi,List.getElem?_eq_getElem hi',List.getD_eq_getElem?_getD]
    ·have hi':its.length≤i:=by rw[h1];simpa using hi
     simp[List.getElem?_eq_none hi',hi]
   rw[this]
   exact ha
theorem compC_fit {P:Program} {n:Nat} {cfg:Cfg} (hm:P.follows .mixedOrders=true):∀{c:Code} {x:IR},compC P n cfg c=some x→∀(F:Nat) (inr:Bool),Fit ⟨P,F,n,inr,cfg.keep⟩ c x
 | .skip,x,h,F,inr=>by
   simp only[compC,Option.some.injEq] at h;subst h;exact Fit.skip
 | .region id ops d,x,h,F,inr=>by
   simp only[compC] at h
   split at h
   ·rename_i y hy
    simp only[Option.some.injEq] at h
    subst h
    split
    ·exact Fit.cut (compR_fit hm hy F inr)
    ·exact compR_fit hm hy F inr
   ·cases h
 | .seq a b,x,h,F,inr=>by
   simp only[compC] at h
   split at h
   ·rename_i h1 h2
    simp only[Option.some.injEq] at h;subst h
    exact Fit.seq (compC_fit hm h1 F inr) (compC_fit hm h2 F inr)
   ·cases h
 | .cond c a b,x,h,F,inr=>by
   simp only[compC] at h
   split at h
   ·rename_i h0 h1 h2
    simp only[Option.some.injEq] at h;subst h
    exact Fit.cond h0 (compC_fit hm h1 F inr) (compC_fit hm h2 F inr)
   ·cases h
 | .block id a,x,h,F,inr=>by
   simp only[compC] at h
   split at h
   ·rename_i h1
    simp only[Option.some.injEq] at h;subst h
    exact Fit.block (compC_fit hm h1 F inr)
   ·cases h
 | .loop a,x,h,F,inr=>by
   simp only[compC] at h
   split at h
   ·rename_i h1
    simp only[Option.some.injEq] at h;subst h
    exact Fit.loop (compC_fit hm h1 F inr)
   ·cases h
 | .exit id,x,h,F,inr=>by
   simp only[compC,Option.some.injEq] at h;subst h;exact Fit.exit id
 | .ret,x,h,F,inr=>by
   simp only[compC,Option.some.injEq] at h;subst h;exact Fit.ret
 | .rangeFunc g ps a b,x,h,F,inr=>by
   simp only[compC] at h
   split at h
   ·rename_i h0 h1 h2
    split at h
    ·rename_i hp
     simp only[Option.some.injEq] at h;subst h
     exact Fit.rangeF (E:=⟨P,F,n,inr,cfg.keep⟩) h0 (fun t ht=>by simpa using List.all_eq_true.1 hp t ht) (compC_fit hm h1 F true) (compC_fit hm h2 F true)
    ·cases h
   ·cases h
 | .scope a,x,h,F,inr=>by
   simp only[compC] at h
   exact Fit.scope (compC_fit hm h F inr)
 | .label l,x,h,F,inr=>by
   simp only[compC,Option.some.injEq] at h;subst h;exact Fit.label l
 | .goto _,_,h,_,_=>by simp[compC] at h
 | .refuse _,_,h,_,_=>by simp[compC] at h
def compF (P:Program) (cfg:Cfg) (fn:Func):Option (IR×List RV×Nat):=
 if fn.name == "runtime.NumGoroutine" then none else
 match fn.body,compRVs P fn.results.toList with
 | some c,some rs=>match compC P fn.ntmps cfg c with
   | some x=>some (x,rs,fn.ntmps)
   | none=>none
 | _,_=>none
theorem ACalls.of_comp {P:Program} (hm:P.follows .mixedOrders=true) {f:FuncId} {fn:Func} {cfg:Cfg} {x:IR} {rs:List RV} {n:Nat} (hf:P.funcs[f]? = some fn) (hc:compF P cfg fn=some (x,rs,n)) {args:List AVal} {h:Heap}
 {K:AEnd→Heap→Prop} {F:Nat} (hl:args.length≤n) (a:AW ⟨P,F,n,false,cfg.keep⟩ x (RetK rs K) (initT args) [] h):ACalls P f args h K:=by
 unfold compF at hc
 split at hc
 ·cases hc
 ·rename_i hn
  split at hc
  ·rename_i c rs' hb hr
   split at hc
   ·rename_i y hy
    simp only[Option.some.injEq,Prod.mk.injEq] at hc
    obtain ⟨rfl,rfl,rfl⟩:=hc
    exact ACalls.of_body hf (by simpa using hn) hb (compC_fit hm hy F false) hl hr a
   ·cases hc
  ·cases hc
def S (d:Nat) (op:IOp):Stp:=⟨⟨some d,none,op,false,false⟩,false,[],[]⟩
def SN (op:IOp):Stp:=⟨⟨none,none,op,false,false⟩,false,[],[]⟩
def SG (d t:Nat) (b:Bool) (op:IOp):Stp:=⟨⟨some d,some (t,b),op,false,false⟩,false,[],[]⟩
def SP (d:Nat) (op:IOp):Stp:=⟨⟨some d,none,op,true,false⟩,false,[],[]⟩
def SGP (d t:Nat) (b:Bool) (op:IOp):Stp:=⟨⟨some d,some (t,b),op,true,false⟩,false,[],[]⟩
def SD (d:Option Nat) (op:IOp) (fd:Bool) (fa fl:List It):Stp:=⟨⟨d,none,op,false,false⟩,fd,fa,fl⟩
def SR (d:Nat) (op:IOp):Stp:=⟨⟨some d,none,op,false,true⟩,false,[],[]⟩
def I (d:Nat) (op:IOp):It:=⟨some d,none,op,false,false⟩
def IG (d t:Nat) (b:Bool) (op:IOp):It:=⟨some d,some (t,b),op,false,false⟩
def AWy (E:Env) (Q:Post) (op:IOp) (d:Option Nat) (pc raw fd:Bool) (fa fl:List It) (K:KT) (tm:TM) (df:DF) (h:Heap):Prop:=AWx E Q ⟨⟨d,none,op,pc,raw⟩,fd,fa,fl⟩ K tm df h
def GdK (v:AVal) (b:Bool) (E:Env) (Q:Post) (op:IOp) (d:Option Nat) (pc raw fd:Bool) (fa fl:List It) (K:KT) (tm:TM) (df:DF) (h:Heap):Prop:=
 Gd v b (AWy E Q op d pc raw fd fa fl K tm df h) (K (putD tm d undefA) df h)
theorem awx_guard (E:Env) (Q:Post) (op:IOp) (d:Option Nat) (g:Option (Nat×Bool)) (pc raw fd:Bool) (fa fl:List It) (K:KT) (tm:TM) (df:DF) (h:Heap) :
 AWx E Q ⟨⟨d,g,op,pc,raw⟩,fd,fa,fl⟩ K tm df h=AWy E Q op d pc raw fd fa fl K tm df h:=by
 unfold AWy AWx;rfl
section
variable (E : Env) (Q:Post) (op:IOp) (d t:Nat) (b:Bool) (r:List Stp) (K:KT) (tm:TM) (df:DF) (h:Heap)
@[simp] theorem AWops_nil : AWops E Q [] K tm df h=K tm df h:=(rfl)
@[simp] theorem AWops_S : AWops E Q (S d op::r) K tm df h=AWy E Q op (some d) false false false [] [] (AWops E Q r K) tm df h:=(rfl)
@[simp] theorem AWops_SN : AWops E Q (SN op::r) K tm df h=AWy E Q op none false false false [] [] (AWops E Q r K) tm df h:=(rfl)
@[simp] theorem AWops_SP : AWops E Q (SP d op::r) K tm df h=AWy E Q op (some d) true false false [] [] (AWops E Q r K) tm df h:=(rfl)
@[simp] theorem AWops_SR : AWops E Q (SR d op::r) K tm df h=AWy E Q op (some d) false true false [] [] (AWops E Q r K) tm df h:=(rfl)
@[simp] theorem AWops_SD (d:Option Nat) (fd:Bool) (fa fl:List It):AWops E Q (SD d op fd fa fl::r) K tm df h=AWy E Q op d false false fd fa fl (AWops E Q r K) tm df h:=(rfl)
@[simp] theorem AWops_SG : AWops E Q (SG d t b op::r) K tm df h=GdK (tm t) b E Q op (some d) false false false [] [] (AWops E Q r K) tm df h:=by
 show AWit _ _ _ _ _ _ _=_
 unfold AWit GdK
 simp only[SG,awx_guard]
@[simp] theorem AWops_SGP : AWops E Q (SGP d t b op::r) K tm df h=GdK (tm t) b E Q op (some d) true false false [] [] (AWops E Q r K) tm df h:=by
 show AWit _ _ _ _ _ _ _=_
 unfold AWit GdK
 simp only[SGP,awx_guard]
end
section
variable (E : Env) (Q:Post) (op:IOp) (d:Option Nat) (pc raw fd:Bool) (fa fl:List It) (K:KT) (tm:TM) (df:DF) (h:Heap)
@[simp] theorem GdK_tt : GdK (.bool true) true E Q op d pc raw fd fa fl K tm df h=AWy E Q op d pc raw fd fa fl K tm df h:=Gd_tt _ _
@[simp] theorem GdK_ff : GdK (.bool false) false E Q op d pc raw fd fa fl K tm df h=AWy E Q op d pc raw fd fa fl K tm df h:=Gd_ff _ _
@[simp] theorem GdK_tf : GdK (.bool true) false E Q op d pc raw fd fa fl K tm df h=K (putD tm d undefA) df h:=Gd_tf _ _
@[simp] theorem GdK_ft : GdK (.bool false) true E Q op d pc raw fd fa fl K tm df h=K (putD tm d undefA) df h:=Gd_ft _ _
@[simp] theorem GdK_undef (b:Bool):GdK (.tup []) b E Q op d pc raw fd fa fl K tm df h=K (putD tm d undefA) df h:=(rfl)
theorem GdK.intro {c b:Bool} {E:Env} {Q:Post} {op:IOp} {d:Option Nat} {pc raw fd:Bool} {fa fl:List It} {K:KT} {tm:TM} {df:DF} {h:Heap} (hy:c=b→AWy E Q op d pc raw fd fa fl K tm df h) (hn:c = !b→K (putD tm d undefA) df h) :
 GdK (.bool c) b E Q op d pc raw fd fa fl K tm df h:=⟨hy,fun hne=>hn (by cases b<;>cases c<;>simp_all)⟩
variable (x y i m k c:Opd)
@[simp] theorem AWy_mv : AWy E Q (.mv x) d pc false fd fa fl K tm df h=K (putD tm d (ev tm x)) df h:=(rfl)
@[simp] theorem AWy_pick : AWy E Q (.pick c x y) d pc false fd fa fl K tm df h=satPick (ev tm c) (ev tm x) (ev tm y) (PutK K tm df h d):=(rfl)
@[simp] theorem AWy_bin (op:BinOp):AWy E Q (.bin op x y) d pc false fd fa fl K tm df h=satBin op (ev tm x) (ev tm y) (PutK K tm df h d):=(rfl)
@[simp] theorem AWy_un (op:UnOp):AWy E Q (.un op x) d pc false fd fa fl K tm df h=satUn op (ev tm x) (PutK K tm df h d):=(rfl)
@[simp] theorem AWy_conv (k:IntKind):AWy E Q (.conv k x) d pc false fd fa fl K tm df h=satConv k (ev tm x) (PutK K tm df h d):=(rfl)
@[simp] theorem AWy_ixA (len esz:Nat):AWy E Q (.ixA len esz x i) d pc false fd fa fl K tm df h=satIxA len esz (ev tm x) (ev tm i) (PutK K tm df h d):=(rfl)
@[simp] theorem AWy_ixS (esz:Nat):AWy E Q (.ixS esz x i) d pc false fd fa fl K tm df h=satIxS esz (ev tm x) (ev tm i) (PutK K tm df h d):=(rfl)
@[simp] theorem AWy_ixV (len esz:Nat) (agg:Bool):AWy E Q (.ixV len esz agg x i) d pc false fd fa fl K tm df h=satIxV len esz agg (ev tm x) (ev tm i) (PutK K tm df h d):=(rfl)
@[simp] theorem AWy_ixT : AWy E Q (.ixT x i) d pc false fd fa fl K tm df h=satIxT (ev tm x) (ev tm i) (PutK K tm df h d):=(rfl)
@[simp] theorem AWy_slA (len esz:Nat) (lo hi mx:Option Opd):AWy E Q (.slA len esz x lo hi mx) d pc false fd fa fl K tm df h=satSlA len esz (ev tm x) (lo.map (ev tm)) (hi.map (ev tm)) (mx.map (ev tm)) (PutK K tm df h d):=(rfl)
@[simp] theorem AWy_slS (esz:Nat) (lo hi mx:Option Opd):AWy E Q (.slS esz x lo hi mx) d pc false fd fa fl K tm df h=satSlS esz (ev tm x) (lo.map (ev tm)) (hi.map (ev tm)) (mx.map (ev tm)) (PutK K tm df h d):=(rfl)
@[simp] theorem AWy_slT (lo hi:Option Opd):AWy E Q (.slT x lo hi) d pc false fd fa fl K tm df h=satSlT (ev tm x) (lo.map (ev tm)) (hi.map (ev tm)) (PutK K tm df h d):=(rfl)
@[simp] theorem AWy_fld (agg:Bool) (off n:Nat):AWy E Q (.fld agg off n x) d pc false fd fa fl K tm df h=satFld agg off n (ev tm x) (PutK K tm df h d):=(rfl)
@[simp] theorem AWy_load (agg:Bool) (n:Nat):AWy E Q (.load agg n x) d pc false fd fa fl K tm df h=satLoad h agg n (ev tm x) (PutK K tm df h d):=(rfl)
@[simp] theorem AWy_mkI (t:TypeId):AWy E Q (.mkI t x) d pc false fd fa fl K tm df h=K (putD tm d (.iface t (ev tm x))) df h:=(rfl)
@[simp] theorem AWy_mkF (fn:Fn) (first cap:List Opd):AWy E Q (.mkF fn first cap) d pc false fd fa fl K tm df h=K (putD tm d (.func fn (evs (ev tm) first) (evs (ev tm) cap))) df h:=(rfl)
@[simp] theorem AWy_eqA (neg:Bool) (ks:List Kd):AWy E Q (.eqA neg ks x y) d pc false fd fa fl K tm df h=osat (aEqA neg ks (ev tm x) (ev tm y)) (PutK K tm df h d):=(rfl)
@[simp] theorem AWy_eqN (kd:NilK) (neg:Bool):AWy E Q (.eqN kd neg x) d pc false fd fa fl K tm df h=osat ((isNil kd (ev tm x)).map fun r=>.bool (if neg then !r else r)) (PutK K tm df h d):=(rfl)
@[simp] theorem AWy_nilck (P:Program):AWy E Q (.nilck P x) d pc false fd fa fl K tm df h=osat (aNilck P (ev tm x)) (PutK K tm df h d):=(rfl)
@[simp] theorem AWy_fAddr (off:Nat):AWy E Q (.fAddr off x) d pc false fd fa fl K tm df h=osat (aFAddr off (ev tm x)) (PutK K tm df h d):=(rfl)
@[simp] theorem AWy_ext (n:Nat):AWy E Q (.ext x n) d pc false fd fa fl K tm df h=osat (aExt (ev tm x) n) (PutK K tm df h d):=(rfl)
@[simp] theorem AWy_tyAs (t:TypeId) (ok:Bool) (zero:AVal):AWy E Q (.tyAs t ok zero x) d pc false fd fa fl K tm df h=osat (aTyAs t ok zero (ev tm x)) (PutK K tm df h d):=(rfl)
@[simp] theorem AWy_len : AWy E Q (.len x) d pc false fd fa fl K tm df h=osat (aLen (ev tm x)) (PutK K tm df h d):=(rfl)
@[simp] theorem AWy_lenT : AWy E Q (.lenT x) d pc false fd fa fl K tm df h=osat (aLenT (ev tm x)) (PutK K tm df h d):=(rfl)
@[simp] theorem AWy_mm (isMax:Bool) (xs:List Opd):AWy E Q (.mm isMax xs) d pc false fd fa fl K tm df h=osat (aMML isMax (evs (ev tm) xs)) (PutK K tm df h d):=by
 cases xs<;>rfl
@[simp] theorem AWy_build (zero:List AVal) (parts:List (Nat×Nat×Opd)):AWy E Q (.build zero parts) d pc false fd fa fl K tm df h=osat ((afill zero (evParts (ev tm) parts)).map .agg) (PutK K tm df h d):=(rfl)
@[simp] theorem AWy_lookup (kn:Bool×List Kd) (ok:Bool) (zero:AVal):AWy E Q (.lookup kn ok zero m k) d pc false fd fa fl K tm df h=osat (aLookup h kn ok zero (ev tm m) (ev tm k)) (PutK K tm df h d):=(rfl)
@[simp] theorem AWy_rbin (op:BinOp):AWy E Q (.bin op x y) d false true fd fa fl K tm df h=osat (abin op (ev tm x) (ev tm y)) (PutK K tm df h d):=(rfl)
@[simp] theorem AWy_call (f:Opd) (args:List Opd):AWy E Q (.call f args) d false raw fd fa fl K tm df h=FCall E (ev tm f) (evs (ev tm) args) fa fl d K Q tm df h:=(rfl)
@[simp] theorem AWy_pcall (f:Opd) (args:List Opd):AWy E Q (.call f args) d true raw fd fa fl K tm df h=PCallK E.P (ev tm f) (evs (ev tm) args) (PutK K tm df h d):=(rfl)
@[simp] theorem AWy_inv (nm:String) (args:List Opd):AWy E Q (.inv x nm args) d false raw fd fa fl K tm df h=FCall E (.func (.method nm) [ev tm x] []) (evs (ev tm) args) fa fl d K Q tm df h:=(rfl)
@[simp] theorem AWy_panic : AWy E Q (.panic x) d pc raw fd fa fl K tm df h=PanK E.keep Q (ev tm x) tm df h:=(rfl)
@[simp] theorem AWy_defer (f:Opd) (args:List Opd):AWy E Q (.defer f args) d pc raw fd fa fl K tm df h=DefK E.inr (ev tm f) (evs (ev tm) args) K (putD tm d undefA) df h:=(rfl)
def MemK (E:Env) (fd:Bool) (nm:Nat) (h:Heap) (X:Nat→Prop):Prop:=(fd=true→h nm=.dead)∧∀s,X s
@[simp] theorem MemK_false (nm:Nat) (h:Heap) (X:Nat→Prop):MemK E false nm h X = ∀s,X s:=by simp[MemK]
@[simp] theorem MemK_true (nm:Nat) (h:Heap) (X:Nat→Prop):MemK E true nm h X =(h nm=.dead∧∀s,X s):=by simp[MemK]
@[simp] theorem AWy_box : AWy E Q (.box x) d pc raw fd fa fl K tm df h=MemK E fd (nmOf E.F d) h fun s=>xBox (nmOf E.F d) s h (acells (ev tm x)) (PutX fl K tm df d):=(rfl)
@[simp] theorem AWy_alloc (cells:List AVal):AWy E Q (.alloc cells) d pc raw fd fa fl K tm df h=MemK E fd (nmOf E.F d) h fun s=>xBox (nmOf E.F d) s h (some cells) (PutX fl K tm df d):=(rfl)
@[simp] theorem AWy_bsl (len:Nat) (cells:List AVal) (parts:List (Nat×Nat×Opd)):AWy E Q (.bsl len cells parts) d pc raw fd fa fl K tm df h=MemK E fd (nmOf E.F d) h fun s=>xBsl (nmOf E.F d) s h len (afill cells (evParts (ev tm) parts)) (PutX fl K tm df d):=(rfl)
@[simp] theorem AWy_mksl (bytes:Nat) (zero:List AVal) (l c:Opd):AWy E Q (.mksl bytes zero l c) d pc raw fd fa fl K tm df h=MemK E fd (nmOf E.F d) h fun s=>xMk (nmOf E.F d) s h bytes zero (ev tm l) (ev tm c) (PutX fl K tm df d):=(rfl)
@[simp] theorem AWy_mkmap : AWy E Q .mkmap d pc raw fd fa fl K tm df h=MemK E fd (nmOf E.F d) h fun s=>PutX fl K tm df d (.map (nmOf E.F d) (s+1)) (upd h (nmOf E.F d) (.map [] (s+1))):=(rfl)
@[simp] theorem AWy_store (n:Nat):AWy E Q (.store n x y) d pc raw false fa fl K tm df h=xSto h n (acells (ev tm y)) (ev tm x) (PutX fl K tm df d):=by
 show ((false=true→_)∧∀s:Nat,_)=_
 simp[xsat_store]
@[simp] theorem AWy_app (esz bytes:Nat):AWy E Q (.app esz bytes x y) d pc raw fd fa fl K tm df h=MemK E fd (nmOf E.F d) h fun s=>xEl h esz (ev tm y) (xAp (nmOf E.F d) esz bytes s (ev tm x) h (PutX fl K tm df d)):=(rfl)
@[simp] theorem AWy_copy (esz:Nat):AWy E Q (.copy esz x y) d pc raw false fa fl K tm df h=xEl h esz (ev tm y) (xCop esz (ev tm x) h (PutX fl K tm df d)):=by
 show ((false=true→_)∧∀s:Nat,_)=_
 simp[xsat_copy]
@[simp] theorem AWy_mapU (kn:Bool×List Kd):AWy E Q (.mapU kn m k x) d pc raw false fa fl K tm df h=osat (ixe (.mapU kn m k x) 0 (ev tm) h 0) (fun r=>PutX fl K tm df d r.1 r.2.1):=by
 have hs:∀s,ixe (.mapU kn m k x) (nmOf E.F d) (ev tm) h s =(ixe (.mapU kn m k x) 0 (ev tm) h 0).map fun r=>(r.1,r.2.1,s):=by
  intro s
  simp only[ixe]
  repeat' split
  all_goals rfl
 show ((false=true→_)∧∀s:Nat,osat _ _)=_
 simp only[hs,Bool.false_eq_true,false_implies,true_and]
 cases ixe (.mapU kn m k x) 0 (ev tm) h 0 with
 | none=>simp
 | some r=>simp
@[simp] theorem AWy_range : AWy E Q (.range x) d pc raw fd fa fl K tm df h=MemK E fd (nmOf E.F d) h fun s=>xRan (nmOf E.F d) s h (ev tm x) (PutX fl K tm df d):=by
 show ((fd=true→_)∧∀s:Nat,xsat _ _ _ _ _ _)=_
 simp only[xsat_range]
 rfl
@[simp] theorem AWy_next : AWy E Q (.next x) d pc raw fd fa fl K tm df h=xNext h (ev tm x) (PutX fl K tm df d):=(rfl)
@[simp] theorem AWy_entry : AWy E Q (.entry x) d pc raw fd fa fl K tm df h=xEntry h (ev tm x) fun v=>PutX fl K tm df d v h:=(rfl)
end
@[simp] theorem upd_app {α:Type} (f:Nat→α) (i j:Nat) (x:α):upd f i x j=if j=i then x else f j:=(rfl)
end Go.Cw
end
