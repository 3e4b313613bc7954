/-
  Views, loops, calls, rows: no program is named here.
-/
import Derived.Test.YtemceffbimfblaaGreatDoorAc
set_option linter.unusedSectionVars false
set_option linter.unusedSimpArgs false
set_option linter.unusedVariables false
section
namespace Go.Cw
open Go
def tmV : List (Nat×AVal)→TM
 | []=>anyT
 | (t,v)::r=>upd (tmV r) t v
def Vw : List (Nat×AVal)→TM→Prop
 | [],_=>True
 | (t,v)::r,tm=>tm t=v∧Vw r tm
def hpV : List (Nat×AObj)→Heap
 | []=>nilH
 | (r,o)::l=>upd (hpV l) r o
def Hw : List (Nat×AObj)→Heap→Prop
 | [],_=>True
 | (r,o)::l,h=>h r=o∧Hw l h
@[simp] theorem tmV_nil (t:Nat):tmV [] t=.any:=(rfl)
@[simp] theorem tmV_cons (t:Nat) (v:AVal) (r:List (Nat×AVal)):tmV ((t,v)::r)=upd (tmV r) t v:=(rfl)
@[simp] theorem Vw_nil (tm:TM):Vw [] tm=True:=(rfl)
@[simp] theorem Vw_cons (t:Nat) (v:AVal) (r:List (Nat×AVal)) (tm:TM):Vw ((t,v)::r) tm =(tm t=v∧Vw r tm):=(rfl)
@[simp] theorem hpV_nil : hpV []=nilH:=(rfl)
@[simp] theorem hpV_cons (r:Nat) (o:AObj) (l:List (Nat×AObj)):hpV ((r,o)::l)=upd (hpV l) r o:=(rfl)
@[simp] theorem Hw_nil (h:Heap):Hw [] h=True:=(rfl)
@[simp] theorem Hw_cons (r:Nat) (o:AObj) (l:List (Nat×AObj)) (h:Heap):Hw ((r,o)::l) h =(h r=o∧Hw l h):=(rfl)
theorem HLe.view : ∀{k:List (Nat×AObj)} {h:Heap},Hw k h→HLe (hpV k) h
 | [],h,_=>nilH_le h
 | (r,o)::l,h,hw=>by
   have ih:=HLe.view hw.2
   intro x
   simp only[hpV,upd]
   split
   ·rename_i hx;rw[hx];exact .inl hw.1.symm
   ·exact ih x
theorem tmV_rel {Z:Snap} {μ:Mu} {g:Nat} {tm:TM} : ∀{l:List (Nat×AVal)},Vw l tm→∀(t:Nat) (u:Value),VRel Z μ g (tm t) u→VRel Z μ g (tmV l t) u
 | [],_,t,u,_=>by simp[VRel]
 | (t₀,v)::r,hw,t,u,hu=>by
   simp only[tmV,upd]
   split
   ·rename_i ht;rw[←hw.1,←ht];exact hu
   ·exact tmV_rel hw.2 t u hu
theorem SLe.view {n:Nat} {tm:TM} {df:DF} {h:Heap} {l:List (Nat×AVal)} {k:List (Nat×AObj)} (hv:Vw l tm) (hk:Hw k h):SLe n tm df h (tmV l) df (hpV k):=
 fun Z μ g _ _ S T D=>⟨Z,μ,g,S.weaken (HLe.view hk),⟨T.1,fun t=>tmV_rel hv t _ (T.2 t)⟩,D,Tr.refl.weaken (HLe.view hk)⟩
theorem Sl.view {n:Nat} {K:KT} {tm:TM} {df:DF} {h:Heap} (l:List (Nat×AVal)) (k:List (Nat×AObj)) (hv:Vw l tm) (hk:Hw k h) (hK:K (tmV l) df (hpV k)):Sl n K tm df h:=
 ⟨_,_,_,SLe.view hv hk,hK⟩
theorem Sl.le {n:Nat} {K:KT} {tm tm':TM} {df df':DF} {h h':Heap} (s:SLe n tm df h tm' df' h') (k:Sl n K tm' df' h'):Sl n K tm df h:=
 let ⟨_,_,_,a,b⟩:=k;⟨_,_,_,s.trans a,b⟩
structure LpJ {σ:Type} (n:Nat) (inv:σ→Prop) (vw:σ→List (Nat×AVal)) (hp:σ→List (Nat×AObj)) (ms:σ→Nat) (df₀:DF) (s:σ) (Q J:Post):Prop where
 next:∀{tm h} (s':σ),inv s'→ms s'<ms s→Vw (vw s') tm→Hw (hp s') h→J .normal tm df₀ h
 next':∀{tm h} (s':σ),inv s'→ms s'<ms s→Sl n (fun tm df' h=>df'=df₀∧Vw (vw s') tm∧Hw (hp s') h) tm df₀ h→J .normal tm df₀ h
 exitS:∀{id tm df h},Sl n (Q (.exit id)) tm df h→J (.exit id) tm df h
 retS:∀{tm df h},Sl n (Q .ret) tm df h→J .ret tm df h
 pan:∀{v tm df h},Q (.panic v) tm df h→J (.panic v) tm df h
section
variable {σ : Type} {n:Nat} {inv:σ→Prop} {vw:σ→List (Nat×AVal)} {hp:σ→List (Nat×AObj)} {ms:σ→Nat} {df₀:DF} {s:σ} {Q J:Post} (a:LpJ n inv vw hp ms df₀ s Q J)
include a
theorem LpJ.exit {id:Nat} {tm:TM} {df:DF} {h:Heap} (k:Q (.exit id) tm df h):J (.exit id) tm df h:=a.exitS (Sl.refl k)
theorem LpJ.ret {tm:TM} {df:DF} {h:Heap} (k:Q .ret tm df h):J .ret tm df h:=a.retS (Sl.refl k)
end
section
variable {σ : Type} {n:Nat} {B:Post→KT} {Q:Post} {tm:TM} {df:DF} {h:Heap}
theorem Lp.intro' (inv:σ→Prop) (vw:σ→List (Nat×AVal)) (hp:σ→List (Nat×AObj)) (ms:σ→Nat) (s₀:σ) (hi:inv s₀) (en:Sl n (fun tm df' h=>df'=df∧Vw (vw s₀) tm∧Hw (hp s₀) h) tm df h)
 (round:∀s,inv s→∀J:Post,LpJ n inv vw hp ms df s Q J→B J (tmV (vw s)) df (hpV (hp s))):Lp n B Q tm df h:=by
 obtain ⟨tm₁,df₁,h₁,a,rfl,hv,hh⟩:=en
 refine ⟨fun m tm df h=>∃s,inv s∧ms s=m∧tm=tmV (vw s)∧df=df₁∧h=hpV (hp s),⟨ms s₀,_,_,_,a.trans (SLe.view hv hh),s₀,hi,rfl,rfl,rfl,rfl⟩,?_⟩
 rintro m tm' df' h' ⟨s,hs,rfl,rfl,rfl,rfl⟩
 refine round s hs _ ⟨?_,?_,fun k=>k,fun k=>k,fun k=>k⟩
 ·intro tm h s' hi hm hv hh
  exact ⟨_,_,_,SLe.view hv hh,ms s',hm,s',hi,rfl,rfl,rfl,rfl⟩
 ·intro tm h s' hi hm ⟨tm₂,df₂,h₂,a,hd,hv,hh⟩
  subst hd
  exact ⟨_,_,_,a.trans (SLe.view hv hh),ms s',hm,s',hi,rfl,rfl,rfl,rfl⟩
theorem Lp.intro (inv:σ→Prop) (vw:σ→List (Nat×AVal)) (hp:σ→List (Nat×AObj)) (ms:σ→Nat) (s₀:σ) (hi:inv s₀) (hv:Vw (vw s₀) tm) (hh:Hw (hp s₀) h)
 (round:∀s,inv s→∀J:Post,LpJ n inv vw hp ms df s Q J→B J (tmV (vw s)) df (hpV (hp s))):Lp n B Q tm df h:=
 Lp.intro' inv vw hp ms s₀ hi (Sl.refl ⟨rfl,hv,hh⟩) round
end
mutual
def frz (r s:Nat) (cells:List AVal):AVal→AVal
 | .ptr r' off s'=>if r'=r then (if s'=s then .pv (cells.drop off) else .ptr r' off s') else .ptr r' off s'
 | .sl r' off s' len cap=>if r'=r then (if s'=s then .vl len (cells.drop off) else .sl r' off s' len cap) else .sl r' off s' len cap
 | .func fn a b=>.func fn (frzL r s cells a) (frzL r s cells b)
 | .iface t v=>.iface t (frz r s cells v)
 | .agg l=>.agg (frzL r s cells l)
 | .tup l=>.tup (frzL r s cells l)
 | v=>v
def frzL (r s:Nat) (cells:List AVal):List AVal→List AVal
 | []=>[]
 | a::l=>frz r s cells a::frzL r s cells l
end
section
variable (r s:Nat) (cells:List AVal)
@[simp] theorem frz_any : frz r s cells .any=.any:=(rfl)
@[simp] theorem frz_bool (b:Bool):frz r s cells (.bool b)=.bool b:=(rfl)
@[simp] theorem frz_int (k:IntKind) (n:Int):frz r s cells (.int k n)=.int k n:=(rfl)
@[simp] theorem frz_str (x:List UInt8):frz r s cells (.str x)=.str x:=(rfl)
@[simp] theorem frz_nilp : frz r s cells .nilp=.nilp:=(rfl)
@[simp] theorem frz_ptr (r' off s':Nat):frz r s cells (.ptr r' off s')=if r'=r then (if s'=s then .pv (cells.drop off) else .ptr r' off s') else .ptr r' off s':=(rfl)
@[simp] theorem frz_pv (l:List AVal):frz r s cells (.pv l)=.pv l:=(rfl)
@[simp] theorem frz_nils : frz r s cells .nils=.nils:=(rfl)
@[simp] theorem frz_es : frz r s cells .es=.es:=(rfl)
@[simp] theorem frz_sl (r' off s' len:Nat) (cap:Cap):frz r s cells (.sl r' off s' len cap)=if r'=r then (if s'=s then .vl len (cells.drop off) else .sl r' off s' len cap) else .sl r' off s' len cap:=(rfl)
@[simp] theorem frz_vl (n:Nat) (l:List AVal):frz r s cells (.vl n l)=.vl n l:=(rfl)
@[simp] theorem frz_nilm : frz r s cells .nilm=.nilm:=(rfl)
@[simp] theorem frz_map (a b:Nat):frz r s cells (.map a b)=.map a b:=(rfl)
@[simp] theorem frz_func (fn:Fn) (a b:List AVal):frz r s cells (.func fn a b)=.func fn (frzL r s cells a) (frzL r s cells b):=(rfl)
@[simp] theorem frz_yield (a b:Nat):frz r s cells (.yield a b)=.yield a b:=(rfl)
@[simp] theorem frz_nilf : frz r s cells .nilf=.nilf:=(rfl)
@[simp] theorem frz_iface (t:TypeId) (v:AVal):frz r s cells (.iface t v)=.iface t (frz r s cells v):=(rfl)
@[simp] theorem frz_nili : frz r s cells .nili=.nili:=(rfl)
@[simp] theorem frz_agg (l:List AVal):frz r s cells (.agg l)=.agg (frzL r s cells l):=(rfl)
@[simp] theorem frz_tup (l:List AVal):frz r s cells (.tup l)=.tup (frzL r s cells l):=(rfl)
@[simp] theorem frzL_nil : frzL r s cells []=[]:=(rfl)
@[simp] theorem frzL_cons (a:AVal) (l:List AVal):frzL r s cells (a::l)=frz r s cells a::frzL r s cells l:=(rfl)
@[simp] theorem frzL_length (l:List AVal) :(frzL r s cells l).length=l.length:=by induction l<;>simp[*]
end
section
variable {Z Z':Snap} {μ:Mu} {g:Nat} {r s:Nat} {cells:List AVal} {c:List Value} (e:Ext Z μ g Z' μ g) (h3:VPre Z' μ g cells c) (ho:One (c.take cells.length)) (hz:Z' (μ s).blk=some c)
include e h3 ho hz
mutual
theorem frz_rel : ∀(a:AVal) (v:Value),VRel Z μ g a v→VRel Z' μ g (frz r s cells a) v
 | .ptr r' off s',v,h=>by
   simp only[frz_ptr]
   split
   ·split
    ·rename_i hs;subst hs;exact VRel_ptr_freeze h3 ho hz (VRel.mono e _ _ h)
    ·exact VRel.mono e _ _ h
   ·exact VRel.mono e _ _ h
 | .sl r' off s' len cap,v,h=>by
   simp only[frz_sl]
   split
   ·split
    ·rename_i hs;subst hs;exact VRel_sl_freeze h3 ho hz (VRel.mono e _ _ h)
    ·exact VRel.mono e _ _ h
   ·exact VRel.mono e _ _ h
 | .func fn a b,v,h=>by
   simp only[frz_func,VRel] at h ⊢
   obtain ⟨hp,f',c',h1,h2,h4,h5,h6⟩:=h
   exact ⟨hp,f',c',h1,by simpa using h2,by simpa using h4,frzL_rel a _ h5,frzL_rel b _ h6⟩
 | .iface t a,v,h=>by
   simp only[frz_iface,VRel] at h ⊢
   obtain ⟨v',h1,h2⟩:=h
   exact ⟨v',h1,frz_rel a v' h2⟩
 | .agg l,v,h=>by
   simp only[frz_agg,VRel] at h ⊢
   obtain ⟨a,h1,h2,h4,h5⟩:=h
   exact ⟨a,h1,by simpa using h2,frzL_rel l _ h4,h5⟩
 | .tup l,v,h=>by
   simp only[frz_tup,VRel] at h ⊢
   obtain ⟨a,h1,h2,h4⟩:=h
   exact ⟨a,h1,by simpa using h2,frzL_rel l _ h4⟩
 | .any,v,h=>VRel.mono e _ _ h
 | .bool _,v,h=>VRel.mono e _ _ h
 | .int _ _,v,h=>VRel.mono e _ _ h
 | .str _,v,h=>VRel.mono e _ _ h
 | .nilp,v,h=>VRel.mono e _ _ h
 | .pv _,v,h=>VRel.mono e _ _ h
 | .nils,v,h=>VRel.mono e _ _ h
 | .es,v,h=>VRel.mono e _ _ h
 | .vl _ _,v,h=>VRel.mono e _ _ h
 | .nilm,v,h=>VRel.mono e _ _ h
 | .map _ _,v,h=>VRel.mono e _ _ h
 | .yield _ _,v,h=>VRel.mono e _ _ h
 | .nilf,v,h=>VRel.mono e _ _ h
 | .nili,v,h=>VRel.mono e _ _ h
theorem frzL_rel : ∀(as:List AVal) (vs:List Value),VPre Z μ g as vs→VPre Z' μ g (frzL r s cells as) vs
 | [],_,_=>by simp[VPre]
 | _::_,[],h=>by simp[VPre] at h
 | a::as,v::vs,h=>by
   simp only[VPre,frzL_cons] at h ⊢
   exact ⟨frz_rel a v h.1,frzL_rel as vs h.2⟩
end
end
def frzT (r s:Nat) (cells:List AVal) (tm:TM):TM:=fun t=>frz r s cells (tm t)
@[simp] theorem frzT_at (r s:Nat) (cells:List AVal) (tm:TM) (t:Nat):frzT r s cells tm t=frz r s cells (tm t):=(rfl)
theorem VLe.frz {v:AVal} {h:Heap} {r s:Nat} {cells:List AVal} (hr:h r=.row cells s):VLe v h (frz r s cells v) (upd h r .dead):=by
 intro Z μ g w u S hv
 obtain ⟨c,hz,h3,ho,S',T⟩:=S.freeze hr
 exact ⟨_,_,_,S',frz_rel T.ext (VPre.mono T.ext _ _ h3) ho hz _ _ hv,T⟩
theorem SLe.frz {n:Nat} {tm:TM} {df:DF} {h:Heap} {cells:List AVal} {s:Nat} (r:Nat) (hr:h r=.row cells s):SLe n tm df h (frzT r s cells tm) df (upd h r .dead):=by
 intro Z μ g w ca S T D
 obtain ⟨c,hz,h3,ho,S',t⟩:=S.freeze hr
 exact ⟨_,_,_,S',⟨T.1,fun x=>frz_rel t.ext (VPre.mono t.ext _ _ h3) ho hz _ _ (T.2 x)⟩,D.mono t.ext,t⟩
theorem RetV.frz {K:AEnd→Heap→Prop} {h:Heap} {v:AVal} {cells:List AVal} {s:Nat} (r:Nat) (hr:h r=.row cells s) (k:RetV K (upd h r .dead) (frz r s cells v)):RetV K h v:=by
 obtain ⟨v',h',a,b⟩:=k
 exact ⟨v',h',(VLe.frz hr).trans a,b⟩
theorem RetV.le {K:AEnd→Heap→Prop} {h h':Heap} {v v':AVal} (a:VLe v h v' h') (k:RetV K h' v'):RetV K h v:=by
 obtain ⟨v'',h'',b,c⟩:=k
 exact ⟨v'',h'',a.trans b,c⟩
def ALe (a b:AVal):Prop:=∀Z μ g u,VRel Z μ g a u→VRel Z μ g b u
theorem ALe.refl (a:AVal):ALe a a:=fun _ _ _ _ h=>h
theorem ALe.trans {a b c:AVal} (h:ALe a b) (k:ALe b c):ALe a c:=fun Z μ g u x=>k Z μ g u (h Z μ g u x)
theorem ALe.any (a:AVal):ALe a .any:=fun _ _ _ _ _=>by simp[VRel]
theorem ALe.nils_vl : ALe .nils (.vl 0 []):=fun _ _ _ _ h=>VRel_nils_vl h
theorem ALe.es_vl : ALe .es (.vl 0 []):=fun _ _ _ _ h=>VRel_es_vl h
theorem ALe.nils_es : ALe .nils .es:=fun _ _ _ _ h=>by simp only[VRel] at h ⊢;exact ⟨_,h⟩
theorem ALe.sl_es (r off s:Nat):ALe (.sl r off s 0 (.ex 0)) .es:=fun _ _ _ _ h=>by
 simp only[VRel] at h ⊢
 obtain ⟨_,cap',h1,_,rfl⟩:=h
 exact ⟨_,h1⟩
theorem ALe.vl_take {n:Nat} {cells:List AVal} (k:Nat):ALe (.vl n cells) (.vl n (cells.take k)):=fun _ _ _ _ h=>VRel_vl_take k h
theorem ALe.vl_pre {n:Nat} {cells cells':List AVal} (h:∃l,cells=cells'++l):ALe (.vl n cells) (.vl n cells'):=by
 obtain ⟨l,rfl⟩:=h
 intro Z μ g u hv
 have:=VRel_vl_take (cells'.length) hv
 simpa using this
def ALeL : List AVal→List AVal→Prop
 | [],[]=>True
 | a::as,b::bs=>ALe a b∧ALeL as bs
 | _,_=>False
@[simp] theorem ALeL_nil : ALeL [] []=True:=(rfl)
@[simp] theorem ALeL_cons (a b:AVal) (as bs:List AVal):ALeL (a::as) (b::bs) =(ALe a b∧ALeL as bs):=(rfl)
theorem ALeL.pre {Z:Snap} {μ:Mu} {g:Nat} : ∀{as bs:List AVal} {l:List Value},ALeL as bs→VPre Z μ g as l→VPre Z μ g bs l
 | [],[],_,_,_=>VPre_nil _
 | _::_,_::_,[],_,h=>by simp[VPre] at h
 | a::as,b::bs,v::vs,h,k=>by
   simp only[VPre] at k ⊢
   exact ⟨h.1 _ _ _ _ k.1,h.2.pre k.2⟩
 | [],_::_,_,h,_=>h.elim
 | _::_,[],_,h,_=>h.elim
theorem ALeL.len : ∀{as bs:List AVal},ALeL as bs→as.length=bs.length
 | [],[],_=>rfl
 | _::_,_::_,h=>by simp[h.2.len]
 | [],_::_,h=>h.elim
 | _::_,[],h=>h.elim
theorem ALe.agg {as bs:List AVal} (h:ALeL as bs):ALe (.agg as) (.agg bs):=fun _ _ _ _ hv=>by
 simp only[VRel] at hv ⊢
 obtain ⟨l,h1,h2,h3,h4⟩:=hv
 exact ⟨l,h1,by rw[h2,h.len],h.pre h3,h4⟩
theorem ALe.tup {as bs:List AVal} (h:ALeL as bs):ALe (.tup as) (.tup bs):=fun _ _ _ _ hv=>by
 simp only[VRel] at hv ⊢
 obtain ⟨l,h1,h2,h3⟩:=hv
 exact ⟨l,h1,by rw[h2,h.len],h.pre h3⟩
theorem ALe.iface {t:TypeId} {a b:AVal} (h:ALe a b):ALe (.iface t a) (.iface t b):=fun _ _ _ _ hv=>by
 simp only[VRel] at hv ⊢
 obtain ⟨v',h1,h2⟩:=hv
 exact ⟨v',h1,h _ _ _ _ h2⟩
theorem VLe.of_ale {a b:AVal} {h:Heap} (k:ALe a b):VLe a h b h:=fun Z μ g _ _ S hv=>⟨Z,μ,g,S,k _ _ _ _ hv,Tr.refl⟩
theorem RetV.ale {K:AEnd→Heap→Prop} {h:Heap} {v v':AVal} (a:ALe v v') (k:RetV K h v'):RetV K h v:=RetV.le (VLe.of_ale a) k
theorem SLe.wk {n:Nat} {tm:TM} {df:DF} {h:Heap} (t:Nat) (v:AVal) (a:ALe (tm t) v):SLe n tm df h (upd tm t v) df h:=by
 intro Z μ g w ca S T D
 refine ⟨Z,μ,g,S,⟨T.1,fun x=>?_⟩,D,Tr.refl⟩
 simp only[upd]
 split
 ·rename_i hx;subst hx;exact a _ _ _ _ (T.2 x)
 ·exact T.2 x
theorem Sl.frz {n:Nat} {K:KT} {tm:TM} {df:DF} {h:Heap} {cells:List AVal} {s:Nat} (r:Nat) (hr:h r=.row cells s) (k:Sl n K (frzT r s cells tm) df (upd h r .dead)):Sl n K tm df h:=Sl.le (SLe.frz r hr) k
theorem Sl.wk {n:Nat} {K:KT} {tm:TM} {df:DF} {h:Heap} (t:Nat) (v:AVal) (a:ALe (tm t) v) (k:Sl n K (upd tm t v) df h):Sl n K tm df h:=Sl.le (SLe.wk t v a) k
def gS (esz nm n s:Nat):AVal:=if n=0 then .es else .sl nm 0 s n (.gr esz)
def gO (n:Nat) (cells:List AVal) (s:Nat):AObj:=if n=0 then .dead else .row cells s
@[simp] theorem gS_zero (esz nm s:Nat):gS esz nm 0 s=.es:=(rfl)
@[simp] theorem gO_zero (cells:List AVal) (s:Nat):gO 0 cells s=.dead:=(rfl)
@[simp] theorem gS_succ (esz nm n s:Nat):gS esz nm (n+1) s=.sl nm 0 s (n+1) (.gr esz):=(rfl)
@[simp] theorem gO_succ (n:Nat) (cells:List AVal) (s:Nat):gO (n+1) cells s=.row cells (s):=(rfl)
end Go.Cw
end
section
namespace Go.Cw
open Go
@[simp] theorem natCast_eq (a b:Nat) :((a:Int) =(b:Int)) =(a=b):=by simp only[eq_iff_iff];omega
@[simp] theorem FlIt_I (d:Nat) (op:IOp) (tm:TM) (h:Heap):FlIt (I d op) tm h=isat op (ev tm) h fun v=>v=tm d:=(rfl)
@[simp] theorem FlIt_IG (d t:Nat) (b:Bool) (op:IOp) (tm:TM) (h:Heap):FlIt (IG d t b op) tm h =(tm t=.bool b→isat op (ev tm) h fun v=>v=tm d):=(rfl)
@[simp] theorem kpT_at (l:List Nat) (tm:TM) (t:Nat):kpT l tm t=if l.contains t then tm t else .any:=(rfl)
def APan (P:Program) (f:FuncId) (args:List AVal) (v:AVal):Prop:=∀h,ACalls P f args h fun e h'=>e=.pan v∧h'=h
def PInvPan (P:Program) (fv:AVal) (args:List AVal) (v:AVal):Prop:=∀h,AInvoke P fv args h fun e h'=>e=.pan v∧h'=h
theorem PInvPan.func {P:Program} {f:FuncId} {first cap args:List AVal} {v:AVal} (a:APan P f (first++args++cap) v):PInvPan P (.func (.func f) first cap) args v:=
 fun h=>AInvoke.func (a h)
theorem APan.of_nil {P:Program} {f:FuncId} {args:List AVal} {v:AVal} (a:ACalls P f args nilH fun e _=>e=.pan v):APan P f args v:=by
 intro h
 refine ACalls.wk ((ACalls.frame (nilH_le h) (ACalls.wk (K:=fun e h'=>e=.pan v∧h'=nilH) (a.mono fun e h' he=>⟨nilH,nilH_le h',he,rfl⟩))).mono ?_)
 rintro e hh ⟨h',⟨rfl,rfl⟩,rfl⟩
 rw[glue_nil h nilH fun _=>rfl]
 exact ⟨h,HLe.refl h,rfl,rfl⟩
section
variable {E : Env} {fv v:AVal} {args:List AVal} {fa fl:List It} {d:Option Nat} {K:KT} {Q:Post} {tm:TM} {df:DF} {h:Heap}
theorem FCall.pure' (p:PInv E.P fv args v) (a:FaOk E.F fa tm h) (f:FlOk fl (putD tm d v) h) (k:K (putD tm d v) df h):FCall E fv args fa fl d K Q tm df h:=by
 refine ⟨nilH,nilH_le h,a,(p nilH).mono ?_⟩
 rintro e h' ⟨rfl,rfl⟩
 simp only[CallK]
 rw[glue_nil h nilH fun _=>rfl]
 exact ⟨f,k⟩
theorem FCall.pure (p:PInv E.P fv args v) (k:K (putD tm d v) df h):FCall E fv args [] [] d K Q tm df h:=FCall.pure' p trivial trivial k
theorem FCall.pan (p:PInvPan E.P fv args v) (k:Q (.panic v) (kpT E.keep tm) df h):FCall E fv args [] [] d K Q tm df h:=by
 refine ⟨nilH,nilH_le h,trivial,(p nilH).mono ?_⟩
 rintro e h' ⟨rfl,rfl⟩
 simp only[CallK]
 refine ⟨h,?_,trivial,k⟩
 rw[glue_nil h nilH fun _=>rfl]
 exact HLe.refl h
theorem FCall.rows {K':AEnd→Heap→Prop} (hs:List (Nat×AObj)) (hw:Hw hs h) (a:AInvoke E.P fv args (hpV hs) K') (k:∀e h',K' e h'→CallK E.F E.keep fa fl d K Q tm df h (hpV hs) e h') (f:FaOk E.F fa tm h) :
 FCall E fv args fa fl d K Q tm df h:=⟨hpV hs,HLe.view hw,f,a.mono k⟩
end
def ints (l:List Int):List AVal:=l.map (.int .i64)
@[simp] theorem ints_nil : ints []=[]:=(rfl)
@[simp] theorem ints_cons (a:Int) (l:List Int):ints (a::l)=.int .i64 a::ints l:=(rfl)
@[simp] theorem ints_length (l:List Int) :(ints l).length=l.length:=by simp[ints]
@[simp] theorem ints_drop (l:List Int) (k:Nat) :(ints l).drop k=ints (l.drop k):=by simp[ints]
@[simp] theorem ints_take (l:List Int) (k:Nat) :(ints l).take k=ints (l.take k):=by simp[ints]
@[simp] theorem ints_append (l m:List Int):ints l++ints m=ints (l++m):=by simp[ints]
@[simp] theorem ints_head (l:List Int) :(ints l).head? = l.head?.map (.int .i64):=by simp[ints]
@[simp] theorem ints_set (l:List Int) (i:Nat) (n:Int) :(ints l).set i (.int .i64 n)=ints (l.set i n):=by simp[ints]
def L (l:List Int):AVal:=.vl l.length (ints l)
@[simp] theorem frz_L (r s:Nat) (cells:List AVal) (l:List Int):frz r s cells (L l)=L l:=(rfl)
@[simp] theorem acells_L (l:List Int):acells (L l)=some [L l]:=(rfl)
@[simp] theorem aLen_L (l:List Int):aLen (L l)=some (.int .i64 l.length):=(rfl)
@[simp] theorem satIxS_L (l:List Int) (k:IntKind) (n:Int) (K:AVal→Prop):satIxS 1 (L l) (.int k n) K =((0≤n∧n<l.length)∧K (.pv (ints (l.drop n.toNat)))):=by
 simp[L]
@[simp] theorem xEl_L (h:Heap) (l:List Int) (K:Nat→List AVal→Prop):xEl h 1 (L l) K=K l.length (ints l):=by
 simp[L]
@[simp] theorem setRange_nil (l:List AVal):setRange l 0 []=l:=by simp[setRange]
@[simp] theorem setRange_cons (x:AVal) (l:List AVal) (y:AVal) (m:List AVal):setRange (x::l) 0 (y::m)=y::setRange l 0 m:=by simp[setRange]
@[simp] theorem setRange_succ (x:AVal) (l:List AVal) (n:Nat) (m:List AVal):setRange (x::l) (n+1) m=x::setRange l n m:=by
 simp[setRange,Nat.add_right_comm]
@[simp] theorem setRange_ints (l:List Int) (i:Nat) (n:Int) (h:i<l.length):setRange (ints l) i [.int .i64 n]=ints (l.set i n):=by
 rw[←ints_set,setRange,List.set_eq_take_append_cons_drop]
 simp[h]
def tab (n:Nat) (c:Nat→Int):List Int:=(List.range n).map c
@[simp] theorem tab_length (n:Nat) (c:Nat→Int) :(tab n c).length=n:=by simp[tab]
theorem tab_get (n:Nat) (c:Nat→Int) (i:Nat) :(tab n c)[i]? = if i<n then some (c i) else none:=by
 simp only[tab,List.getElem?_map]
 split
 ·rename_i h;simp[List.getElem?_range h]
 ·rename_i h;rw[List.getElem?_eq_none (by simp;omega)];rfl
@[simp] theorem tab_get' (n:Nat) (c:Nat→Int) (i:Nat) (h:i<n) :(tab n c)[i]? = some (c i):=by rw[tab_get,if_pos h]
@[simp] theorem tab_set (n:Nat) (c:Nat→Int) (i:Nat) (v:Int) :(tab n c).set i v=tab n (upd c i v):=by
 apply List.ext_getElem?
 intro j
 rw[List.getElem?_set,tab_get,tab_get]
 simp only[tab_length,upd]
 by_cases h:i=j
 ·subst h;simp
 ·simp[h,Ne.symm h]
@[simp] theorem tab_at (n:Nat) (c:Nat→Int) (i:Nat) (h:i<(tab n c).length) :(tab n c)[i]=c i:=by
 have h':i<n:=by simpa using h
 have:=tab_get' n c i h'
 rw[List.getElem?_eq_getElem h] at this
 exact Option.some.inj this
@[simp] theorem tab_take (n m:Nat) (c:Nat→Int) :(tab n c).take m=tab (min m n) c:=by
 apply List.ext_getElem?
 intro j
 rw[List.getElem?_take,tab_get,tab_get]
 (repeat' split)<;>first|rfl|omega
@[simp] theorem setRange_full (cells vs:List AVal) (h:cells.length≤vs.length):setRange cells 0 vs=vs:=by
 simp[setRange,h]
theorem xAp_ne {nm esz bytes s₀ n:Nat} {x:AVal} {h:Heap} {K:AVal→Heap→Prop} {ys:List AVal} (hn:n≠0):xAp nm esz bytes s₀ x h K n ys=xApN nm esz bytes s₀ x h K n ys:=by
 simp[xAp,hn]
theorem xApN_gS {nm r esz bytes s₀ n s k:Nat} {h:Heap} {K:AVal→Heap→Prop} {cells ys:List AVal} (hr:h r=gO n cells s) (hl:cells.length=n*esz) (hb :(2*(n+k)+192)*bytes≤281474976710656) (hk:0<k)
 (hK:K (gS esz nm (n+k) (s₀+1)) (upd (upd h r .dead) nm (gO (n+k) (cells++ys) (s₀+1)))):xApN nm esz bytes s₀ (gS esz r n s) h K k ys:=by
 have h1:gS esz nm (n+k) (s₀+1)=.sl nm 0 (s₀+1) (n+k) (.gr esz):=if_neg (by omega)
 have h2:gO (n+k) (cells++ys) (s₀+1)=.row (cells++ys) (s₀+1):=if_neg (by omega)
 rw[h1,h2] at hK
 cases n with
 | zero=>
   simp only[gO_zero] at hr
   obtain rfl:cells=[]:=by simpa using hl
   have hd:upd h r .dead=h:=by rw[←hr];exact upd_self h r
   rw[hd] at hK
   simp only[gS_zero,xApN_es]
   refine ⟨by simpa using hb,by simpa using hK⟩
 | succ n=>
   simp only[gO_succ] at hr
   simp only[gS_succ,xApN_sl,hr,xApR_gr]
   exact ⟨⟨trivial,by omega,hb⟩,⟨trivial,trivial,by omega⟩,hK⟩
theorem frz_gS {r s esz r' n s':Nat} {cells:List AVal} (h:¬r'=r):frz r s cells (gS esz r' n s')=gS esz r' n s':=by
 cases n<;>simp[h]
def nats (l:List Nat):List Int:=l.map fun (i:Nat)=>(i:Int)
@[simp] theorem ints_append_one (l:List Int) (x:Int):ints l++[.int .i64 x]=ints (l++[x]):=by simp[ints]
theorem VLe.gS {esz r n s:Nat} {h:Heap} {cells:List AVal} (hr:h r=gO n cells s) (hl:cells.length=n*esz):VLe (gS esz r n s) h (.vl n cells) (upd h r .dead):=by
 cases n with
 | zero=>
   obtain rfl:cells=[]:=by simpa using hl
   have hd:upd h r .dead=h:=by rw[←(show h r=.dead from hr)];exact upd_self h r
   rw[hd]
   exact VLe.of_ale ALe.es_vl
 | succ n=>
   have:=VLe.frz (v:=.sl r 0 s (n+1) (.gr esz)) (h:=h) (r:=r) (s:=s) (cells:=cells) hr
   simpa using this
def prs (l:List (Int×Int)):List AVal:=l.flatMap fun p=>[.int .i64 p.1,.int .i64 p.2]
@[simp] theorem prs_cons (a:Int×Int) (l:List (Int×Int)):prs (a::l)=.int .i64 a.1 :: .int .i64 a.2::prs l:=by simp[prs]
def LP (l:List (Int×Int)):AVal:=.vl l.length (prs l)
theorem Fits.of {n:Int} (a : -1000000000000000000≤n) (b:n≤1000000000000000000):Fits n:=by unfold Fits;omega
theorem setRange_one (cells:List AVal) (i:Nat) (v:AVal) (hi:i<cells.length):setRange cells i [v]=cells.set i v:=by
 simp[setRange,List.set_eq_take_append_cons_drop,hi]
end Go.Cw
end
section
namespace Go.Cw
open Go
def updL (h:Heap):List (Nat×AObj)→Heap
 | []=>h
 | (r,o)::l=>upd (updL h l) r o
@[simp] theorem updL_nil (h:Heap):updL h []=h:=(rfl)
@[simp] theorem updL_cons (h:Heap) (r:Nat) (o:AObj) (l:List (Nat×AObj)):updL h ((r,o)::l)=upd (updL h l) r o:=(rfl)
theorem hpV_none {r:Nat} : ∀{l:List (Nat×AObj)},r∉l.map Prod.fst→hpV l r=.dead
 | [],_=>rfl
 | (r',o)::l,hn=>by
   simp only[List.map_cons,List.mem_cons,not_or] at hn
   rw[hpV_cons,upd_ne _ _ hn.1]
   exact hpV_none hn.2
theorem hpV_some {r:Nat} {h:Heap} : ∀{l:List (Nat×AObj)},Hw l h→r∈l.map Prod.fst→hpV l r=h r
 | [],_,hn=>by simp at hn
 | (r',o)::l,hw,hn=>by
   by_cases hr:r=r'
   ·subst hr;rw[hpV_cons,upd_same];exact hw.1.symm
   ·rw[hpV_cons,upd_ne _ _ hr]
    simp only[List.map_cons,List.mem_cons,hr,false_or] at hn
    exact hpV_some hw.2 hn
theorem updL_none {r:Nat} {h:Heap} : ∀{l:List (Nat×AObj)},r∉l.map Prod.fst→updL h l r=h r
 | [],_=>rfl
 | (r',o)::l,hn=>by
   simp only[List.map_cons,List.mem_cons,not_or] at hn
   rw[updL_cons,upd_ne _ _ hn.1]
   exact updL_none hn.2
theorem updL_some {r:Nat} {h:Heap} : ∀{l:List (Nat×AObj)},r∈l.map Prod.fst→updL h l r=hpV l r
 | [],hn=>by simp at hn
 | (r',o)::l,hn=>by
   by_cases hr:r=r'
   ·subst hr;rw[hpV_cons,updL_cons,upd_same,upd_same]
   ·rw[hpV_cons,updL_cons,upd_ne _ _ hr,upd_ne _ _ hr]
    simp only[List.map_cons,List.mem_cons,hr,false_or] at hn
    exact updL_some hn
theorem glue_view {h:Heap} {hs hs':List (Nat×AObj)} (hw:Hw hs h) (hn:hs'.map Prod.fst=hs.map Prod.fst):glue h (hpV hs) (hpV hs')=updL h hs':=by
 funext r
 by_cases hr:r∈hs.map Prod.fst
 ·have h1:=hpV_some hw hr
  have h2:glue h (hpV hs) (hpV hs') r=hpV hs' r:=by
   refine glue_in ?_
   rw[h1]
   by_cases hd:h r=.dead
   ·exact .inr hd
   ·exact .inl hd
  rw[h2,updL_some (by rw[hn];exact hr)]
 ·have h1:=hpV_none hr
  have h1':hpV hs' r=.dead:=hpV_none (by rw[hn];exact hr)
  rw[updL_none (by rw[hn];exact hr)]
  by_cases hd:h r=.dead
  ·rw[glue_in (.inr hd),h1',hd]
  ·exact glue_out h1 hd
section
variable {E : Env} {fv:AVal} {args:List AVal} {fa fl:List It} {d:Option Nat} {K:KT} {Q:Post} {tm:TM} {df:DF} {h:Heap}
theorem FCall.view (hs:List (Nat×AObj)) {X:AVal→List (Nat×AObj)→Prop} (a:AInvoke E.P fv args (hpV hs) (fun e h'=>∃v hs',e=.ret v∧h'=hpV hs'∧hs'.map Prod.fst=hs.map Prod.fst∧X v hs')) (hw:Hw hs h)
 (f:FaOk E.F fa tm h) (k:∀v hs',X v hs'→FlOk fl (putD tm d v) (updL h hs')∧K (putD tm d v) df (updL h hs')):FCall E fv args fa fl d K Q tm df h:=by
 refine ⟨hpV hs,HLe.view hw,f,a.mono ?_⟩
 rintro e h' ⟨v,hs',rfl,rfl,hn,hx⟩
 simp only[CallK,glue_view hw hn]
 exact k v hs' hx
end
section
variable {E : Env} {fv:AVal} {args:List AVal} {fa fl:List It} {d:Option Nat} {K:KT} {Q:Post} {tm:TM} {df:DF} {h:Heap}
theorem FCall.cps {σ:Type} (hs:List (Nat×AObj)) (V:σ→AVal) (H:σ→List (Nat×AObj)) (p:σ→Prop) (a:∀K':AEnd→Heap→Prop,(∀x,p x→K' (.ret (V x)) (hpV (H x)))→AInvoke E.P fv args (hpV hs) K')
 (hw:Hw hs h) (hn:∀x,(H x).map Prod.fst=hs.map Prod.fst) (f:FaOk E.F fa tm h) (k:∀x,p x→FlOk fl (putD tm d (V x)) (updL h (H x))∧K (putD tm d (V x)) df (updL h (H x))):FCall E fv args fa fl d K Q tm df h:=by
 refine FCall.view hs (X:=fun v hs'=>∃x,p x∧v=V x∧hs'=H x) ?_ hw f ?_
 ·exact a _ fun x hx=>⟨V x,H x,rfl,rfl,hn x,x,hx,rfl,rfl⟩
 ·rintro v hs' ⟨x,hx,rfl,rfl⟩
  exact k x hx
end
mutual
def ren (r nm:Nat):AVal→AVal
 | .ptr r' off s=>.ptr (if r'=r then nm else r') off s
 | .sl r' off s len cap=>.sl (if r'=r then nm else r') off s len cap
 | .map r' s=>.map (if r'=r then nm else r') s
 | .func fn a b=>.func fn (renL r nm a) (renL r nm b)
 | .iface t v=>.iface t (ren r nm v)
 | .agg l=>.agg (renL r nm l)
 | .tup l=>.tup (renL r nm l)
 | v=>v
def renL (r nm:Nat):List AVal→List AVal
 | []=>[]
 | a::l=>ren r nm a::renL r nm l
end
section
variable (r nm:Nat)
@[simp] theorem ren_any : ren r nm .any=.any:=(rfl)
@[simp] theorem ren_bool (b:Bool):ren r nm (.bool b)=.bool b:=(rfl)
@[simp] theorem ren_int (k:IntKind) (n:Int):ren r nm (.int k n)=.int k n:=(rfl)
@[simp] theorem ren_str (x:List UInt8):ren r nm (.str x)=.str x:=(rfl)
@[simp] theorem ren_nilp : ren r nm .nilp=.nilp:=(rfl)
@[simp] theorem ren_ptr (r' off s:Nat):ren r nm (.ptr r' off s)=.ptr (if r'=r then nm else r') off s:=(rfl)
@[simp] theorem ren_pv (l:List AVal):ren r nm (.pv l)=.pv l:=(rfl)
@[simp] theorem ren_nils : ren r nm .nils=.nils:=(rfl)
@[simp] theorem ren_es : ren r nm .es=.es:=(rfl)
@[simp] theorem ren_sl (r' off s len:Nat) (cap:Cap):ren r nm (.sl r' off s len cap)=.sl (if r'=r then nm else r') off s len cap:=(rfl)
@[simp] theorem ren_vl (n:Nat) (l:List AVal):ren r nm (.vl n l)=.vl n l:=(rfl)
@[simp] theorem ren_nilm : ren r nm .nilm=.nilm:=(rfl)
@[simp] theorem ren_map (a b:Nat):ren r nm (.map a b)=.map (if a=r then nm else a) b:=(rfl)
@[simp] theorem ren_func (fn:Fn) (a b:List AVal):ren r nm (.func fn a b)=.func fn (renL r nm a) (renL r nm b):=(rfl)
@[simp] theorem ren_yield (a b:Nat):ren r nm (.yield a b)=.yield a b:=(rfl)
@[simp] theorem ren_nilf : ren r nm .nilf=.nilf:=(rfl)
@[simp] theorem ren_iface (t:TypeId) (v:AVal):ren r nm (.iface t v)=.iface t (ren r nm v):=(rfl)
@[simp] theorem ren_nili : ren r nm .nili=.nili:=(rfl)
@[simp] theorem ren_agg (l:List AVal):ren r nm (.agg l)=.agg (renL r nm l):=(rfl)
@[simp] theorem ren_tup (l:List AVal):ren r nm (.tup l)=.tup (renL r nm l):=(rfl)
@[simp] theorem ren_L (l:List Int):ren r nm (L l)=L l:=(rfl)
@[simp] theorem ren_LP (l:List (Int×Int)):ren r nm (LP l)=LP l:=(rfl)
@[simp] theorem renL_nil : renL r nm []=[]:=(rfl)
@[simp] theorem renL_cons (a:AVal) (l:List AVal):renL r nm (a::l)=ren r nm a::renL r nm l:=(rfl)
@[simp] theorem renL_length (l:List AVal) :(renL r nm l).length=l.length:=by induction l<;>simp[*]
@[simp] theorem ren_gS (esz r' n s:Nat):ren r nm (gS esz r' n s)=gS esz (if r'=r then nm else r') n s:=by cases n<;>rfl
end
section
variable {Z : Snap} {μ:Mu} {g:Nat} {r nm:Nat}
mutual
theorem ren_rel : ∀(a:AVal) (v:Value),VRel Z μ g a v→VRel Z μ g (ren r nm a) v
 | .func fn a b,v,h=>by
   simp only[ren_func,VRel] at h ⊢
   obtain ⟨hp,f',c',h1,h2,h4,h5,h6⟩:=h
   exact ⟨hp,f',c',h1,by simpa using h2,by simpa using h4,renL_rel a _ h5,renL_rel b _ h6⟩
 | .iface t a,v,h=>by
   simp only[ren_iface,VRel] at h ⊢
   obtain ⟨v',h1,h2⟩:=h
   exact ⟨v',h1,ren_rel a v' h2⟩
 | .agg l,v,h=>by
   simp only[ren_agg,VRel] at h ⊢
   obtain ⟨a,h1,h2,h4,h5⟩:=h
   exact ⟨a,h1,by simpa using h2,renL_rel l _ h4,h5⟩
 | .tup l,v,h=>by
   simp only[ren_tup,VRel] at h ⊢
   obtain ⟨a,h1,h2,h4⟩:=h
   exact ⟨a,h1,by simpa using h2,renL_rel l _ h4⟩
 | .ptr _ _ _,v,h=>by simpa only[ren_ptr,VRel] using h
 | .sl _ _ _ _ _,v,h=>by simpa only[ren_sl,VRel] using h
 | .map _ _,v,h=>by simpa only[ren_map,VRel] using h
 | .any,v,h=>h
 | .bool _,v,h=>h
 | .int _ _,v,h=>h
 | .str _,v,h=>h
 | .nilp,v,h=>h
 | .pv _,v,h=>h
 | .nils,v,h=>h
 | .es,v,h=>h
 | .vl _ _,v,h=>h
 | .nilm,v,h=>h
 | .yield _ _,v,h=>h
 | .nilf,v,h=>h
 | .nili,v,h=>h
theorem renL_rel : ∀(as:List AVal) (vs:List Value),VPre Z μ g as vs→VPre Z μ g (renL r nm as) vs
 | [],_,_=>by simp[VPre]
 | _::_,[],h=>by simp[VPre] at h
 | a::as,v::vs,h=>by
   simp only[VPre,renL_cons] at h ⊢
   exact ⟨ren_rel a v h.1,renL_rel as vs h.2⟩
end
end
theorem Tr.move {Z:Snap} {μ:Mu} {h:Heap} {g:Nat} {w:World} (r nm:Nat):Tr Z μ h g w Z μ (upd (upd h r .dead) nm (h r)) g w:=by
 refine ⟨Ext.refl _ _ _,Nat.le_refl _,fun _ _ _=>rfl,fun r₁ s hs _=>?_,fun _ _ hb _=>.inl hb,rfl,rfl⟩
 by_cases h1:r₁=nm
 ·subst h1;rw[upd_same] at hs;exact ⟨r,s,hs,rfl⟩
 ·rw[upd_ne _ _ h1] at hs
  by_cases h2:r₁=r
  ·subst h2;rw[upd_same] at hs;simp[AObj.stamp] at hs
  ·rw[upd_ne _ _ h2] at hs;exact ⟨r₁,s,hs,rfl⟩
theorem VLe.move {v:AVal} {h:Heap} (r nm:Nat):VLe v h (ren r nm v) (upd (upd h r .dead) nm (h r)):=
 fun Z μ g _ _ S hv=>⟨Z,μ,g,S.move r nm rfl,ren_rel _ _ hv,Tr.move r nm⟩
theorem RetV.move {K:AEnd→Heap→Prop} {h:Heap} {v:AVal} (r nm:Nat) (k:RetV K (upd (upd h r .dead) nm (h r)) (ren r nm v)):RetV K h v:=RetV.le (VLe.move r nm) k
def renT (r nm:Nat) (tm:TM):TM:=fun t=>ren r nm (tm t)
@[simp] theorem renT_at (r nm:Nat) (tm:TM) (t:Nat):renT r nm tm t=ren r nm (tm t):=(rfl)
theorem Sl.move {n:Nat} {K:KT} {tm:TM} {df:DF} {h:Heap} (r nm:Nat) (k:Sl n K (renT r nm tm) df (upd (upd h r .dead) nm (h r))):Sl n K tm df h:=
 Sl.le (fun Z μ g _ _ S T D=>⟨Z,μ,g,S.move r nm rfl,⟨T.1,fun t=>ren_rel _ _ (T.2 t)⟩,D,Tr.move r nm⟩) k
theorem Goes.weakPre {P:Program} {w:World} {R R':Ending→World→Prop} {r:Result Next} (h:Goes P w R r) (hr:∀e w,R e w→R' e w):Goes P w R' r:=h.mono hr
theorem OutC.pre {K:AEnd→Heap→Prop} {Z Z₁:Snap} {μ μ₁:Mu} {h h₁:Heap} {g g₁:Nat} {w w₁:World} {e:Ending} {w':World} (t:Tr Z μ h g w Z₁ μ₁ h₁ g₁ w₁) (o:OutC K Z₁ μ₁ h₁ g₁ w₁ e w'):OutC K Z μ h g w e w':=by
 obtain ⟨Z',μ',g',ae,h',q,r,s,t'⟩:=o
 exact ⟨Z',μ',g',ae,h',q,r,s,t.trans t'⟩
theorem ACalls.frz {P:Program} {f:FuncId} {args:List AVal} {h:Heap} {K:AEnd→Heap→Prop} {cells:List AVal} {s:Nat} (r:Nat) (hr:h r=.row cells s) (a:ACalls P f (frzL r s cells args) (upd h r .dead) K):ACalls P f args h K:=by
 refine ⟨a.1,fun Z μ g w cargs S hl hv=>?_⟩
 obtain ⟨c,hz,h3,ho,S',t⟩:=S.freeze hr
 exact Calls.mono' (a.2 _ _ _ _ cargs S' (by simpa using hl) (frzL_rel t.ext (VPre.mono t.ext _ _ h3) ho hz _ _ hv)) fun _ _ o=>o.pre t
theorem AInvoke.frz {P:Program} {fv:AVal} {args:List AVal} {h:Heap} {K:AEnd→Heap→Prop} {cells:List AVal} {s:Nat} (r:Nat) (hr:h r=.row cells s) (a:AInvoke P (frz r s cells fv) (frzL r s cells args) (upd h r .dead) K):AInvoke P fv args h K:=by
 intro Z μ g w v cargs S hv hl ha
 obtain ⟨c,hz,h3,ho,S',t⟩:=S.freeze hr
 exact (a _ _ _ _ v cargs S' (frz_rel t.ext (VPre.mono t.ext _ _ h3) ho hz _ _ hv) (by simpa using hl) (frzL_rel t.ext (VPre.mono t.ext _ _ h3) ho hz _ _ ha)).mono fun _ _ o=>o.pre t
theorem AInvoke.ale {P:Program} {fv fv':AVal} {args args':List AVal} {h:Heap} {K:AEnd→Heap→Prop} (hf:ALe fv fv') (hargs:ALeL args args') (a:AInvoke P fv' args' h K):AInvoke P fv args h K:=
 fun Z μ g w v cargs S hv hl ha=>a Z μ g w v cargs S (hf _ _ _ _ hv) (by rw[hl,hargs.len]) (hargs.pre ha)
theorem AInvoke.heap {P:Program} {fv:AVal} {args:List AVal} {h h':Heap} {K:AEnd→Heap→Prop} (e:h=h') (a:AInvoke P fv args h' K):AInvoke P fv args h K:=e ▸ a
section
variable {E : Env} {fv v:AVal} {args:List AVal} {fa fl:List It} {d:Option Nat} {K:KT} {Q:Post} {tm:TM} {df:DF} {h:Heap}
theorem FCall.frz1 {cells:List AVal} {s:Nat} (r:Nat) (hr:h r=.row cells s) (p:PInv E.P (frz r s cells fv) (frzL r s cells args) v) (f:FaOk E.F fa tm h)
 (k:FlOk fl (putD tm d v) (upd h r .dead)∧K (putD tm d v) df (upd h r .dead)):FCall E fv args fa fl d K Q tm df h:=by
 refine FCall.view [(r,.row cells s)] (X:=fun v' hs'=>v'=v∧hs'=[(r,.dead)]) ?_ ⟨hr,trivial⟩ f ?_
 ·refine AInvoke.frz (cells:=cells) (s:=s) r (upd_same _ _ _) ?_
  refine AInvoke.mono (p _) ?_
  rintro e h' ⟨rfl,rfl⟩
  exact ⟨v,[(r,.dead)],rfl,by funext x;simp only[hpV,upd];split<;>rfl,rfl,rfl,rfl⟩
 ·rintro v' hs' ⟨rfl,rfl⟩
  exact k
end
theorem RetV.view {K:AEnd→Heap→Prop} {h:Heap} {v:AVal} (hs:List (Nat×AObj)) (hw:Hw hs h) (k:K (.ret v) (hpV hs)):RetV K h v:=RetV.wk (HLe.view hw) k
end Go.Cw
end
section
namespace Go.Cw
open Go
def recM : FrameMode→Value×FrameMode
 | .panicking ({ v,recovered:=false,goexit:=false } :: older)=>(v,.panicking ({ v,recovered:=true } :: older))
 | u=>(.nilIface,u)
theorem recoverD_recM (c:Frame) (cs:List Frame) :(match recoverD (c::cs) with|some (v,cs')=>(v,cs')|none=>(.nilIface,c::cs)) =((recM c.mode).1,{ c with mode:=(recM c.mode).2 } :: cs):=by
 obtain ⟨fn,tmps,todo,defers,mode,kind,ro⟩:=c
 cases mode with
 | run=>simp[recoverD,recM]
 | returning=>simp[recoverD,recM]
 | panicking l=>
   cases l with
   | nil=>simp[recoverD,recM]
   | cons p r=>
     obtain ⟨v,rec,ge⟩:=p
     cases rec<;>cases ge<;>simp[recoverD,recM]
section
variable {P : Program} {ops:Array Oper}
theorem step_rec {b:Frame} {a:Act} {k:List Item} {c₀:Frame} {cs:List Frame} {w:World} {o:Oper} {rest:List Nat} {u:FrameMode} (hbk:b.kind=.deferred) (hro:b.roundOf=none) (ho:ops[0]? = some o) (hog:o.guard=none)
 (hr:∀(ρ:Operand→Value) w,(execOp ρ o).run P w=.ok .recover w) (hu:c₀.mode=u) :
 step P (lone (b.atR a (.inRegion ops (0::rest)::k)) (c₀::cs) w)=.next (lone (b.atR (a.put o.dst (recM u).1) (.inRegion ops rest::k)) ({ c₀ with mode:=(recM u).2 } :: cs) w):=by
 have hw:Region.wanted o (yielded ops a.tmps)=true:=by simp[Region.wanted,hog]
 have hg:=stepGR_op (P:=P) (b:=b) (a:=a) (k:=k) (cs:=c₀::cs) (w:=w) (rest:=rest) ho hw
 rw[hro,Oper.semAt_none] at hg
 have hfin:∀v,(b.atR a (.inRegion ops (0::rest)::k)).finish v=b.atR (a.put o.dst v) (.inRegion ops rest::k):=by
  intro v;rw[Frame.finish_atR,ho];rfl
 have hk :(b.atR a (.inRegion ops (0::rest)::k)).kind=.deferred:=hbk
 have htr:=tryRecover_deferred hk (c₀::cs)
 have hrc:=recoverD_recM c₀ cs
 rw[hu] at hrc
 cases hx:recoverD (c₀::cs) with
 | none=>
   rw[hx] at hrc
   simp only[Prod.mk.injEq] at hrc
   obtain ⟨h1,h2⟩:=hrc
   rw[←h1,←h2]
   refine step_lone_go ?_
   rw[hg,←hfin]
   simp only[Frame.atR,hro] at htr ⊢
   simp[stepG.apply,hr,htr,hx]
 | some x=>
   obtain ⟨v,cs'⟩:=x
   rw[hx] at hrc
   simp only[Prod.mk.injEq] at hrc
   obtain ⟨h1,h2⟩:=hrc
   rw[←h1,←h2]
   refine step_lone_go ?_
   rw[hg,←hfin]
   simp only[Frame.atR,hro] at htr ⊢
   simp[stepG.apply,hr,htr,hx]
theorem callsDIn_rec {f:FuncId} {fn:Func} {id:Nat} {args:Array Value} {u:FrameMode} {w:World} {R:Ending→World→Prop} {o:Oper}
 (hf:P.funcs[f]? = some fn) (hb:fn.body=some (.region id ops false)) (hsz:ops.size=2) (ho:ops[0]? = some o) (hog:o.guard=none)
 (hr:∀(ρ:Operand→Value) w,(execOp ρ o).run P w=.ok .recover w)
 {Q:Exit→Act→World→Prop} (hQ:∀e a w,Q e a w→bodyPost P fn R e a w) (h:wpOpsIn (Fw none) 0 P ops Q [1] (({ tmps:=args++Array.replicate (fn.ntmps - args.size) undef,defers:=[] } : Act).put o.dst (recM u).1) w) :
 CallsDIn (Fw none) 0 P f args u w fun e u' w'=>u' =(recM u).2∧R e w':=by
 refine ⟨trivial,fun c₀ cs hu hroom=>?_⟩
 let b:Frame:={ (default:Frame) with fn:=f,kind:=.deferred,roundOf:=none }
 let a:Act:={ tmps:=args++Array.replicate (fn.ntmps - args.size) undef,defers:=[] }
 have henter:Frame.enter P f args .deferred=b.atR a [.code (.region id ops false)]:=by
  simp[Frame.enter,Frame.atR,hf,hb,b,a]
 have hrange:List.range ops.size=[0,1]:=by rw[hsz];rfl
 have h0 :(lone (b.atR a (.inRegion ops [0,1]::[])) (c₀::cs) w).fenced P (Fw none):=fenced_oper (n:=0) trivial hroom ho (fun _ _=>trivial)
 have hstep:=step_rec (P:=P) (b:=b) (a:=a) (k:=[]) (cs:=cs) (w:=w) (rest:=[1]) rfl rfl ho hog hr hu
 have hroom' :(Fw none).room (({ c₀ with mode:=(recM u).2 } :: cs).length+1+0):=hroom
 obtain ⟨e,a',w',hq,harr⟩:=wp_opsIn [1] _ w h b [] ({ c₀ with mode:=(recM u).2 } :: cs) rfl trivial hroom'
 have pre:StepsIn (Machine.fenced P (Fw none)) P (lone (b.atR a [.code (.region id ops false)]) (c₀::cs) w) (lone (b.atR (a.put o.dst (recM u).1) (.inRegion ops [1]::[])) ({ c₀ with mode:=(recM u).2 } :: cs) w):=by
  refine .head (fenced_calm (n:=0) trivial hroom rfl) stepR_region ?_
  rw[hrange]
  exact .one h0 hstep
 replace harr:=ArrivesIn.of_steps pre harr
 replace hq:=hQ _ _ _ hq
 rw[←henter] at harr
 cases e with
 | normal=>
   obtain ⟨hd,v,hrv,hR⟩:=hq
   exact ⟨.returned v,_,w',_,⟨rfl,hR⟩,StepsIn.trans harr (.one (fenced_calm (fr:=b.atR a' []) (n:=0) trivial hroom' rfl) (stepR_end rfl)),rfl,rfl,rfl,hd,fn,hf,hrv⟩
 | ret=>
   obtain ⟨hd,v,hrv,hR⟩:=hq
   obtain ⟨todo,hs⟩:=harr.1 rfl
   exact ⟨.returned v,_,w',_,⟨rfl,hR⟩,hs,rfl,rfl,rfl,hd,fn,hf,hrv⟩
 | panic chain=>
   obtain ⟨hd,hR⟩:=hq
   obtain ⟨todo,hs⟩:=harr
   exact ⟨.panicked chain,_,w',_,⟨rfl,hR⟩,hs,rfl,rfl,rfl,hd,fn,hf⟩
 | exit id=>exact hq.elim
 | goto l=>exact hq.elim
 | outgrown=>exact ⟨.outgrown,_,w',b,⟨rfl,hq⟩,harr.resolve_left (by simp[b]),rfl,rfl,trivial⟩
end
def recClo (P:Program) (fn:Func):Option FuncId:=
 if fn.name == "runtime.NumGoroutine" then none else
 if fn.ntmps=3∧fn.results.size=0 then
  match fn.body with
  | some (.region _ ops false)=>match ops.toList with
    | [a,b]=>match a.guard,a.dst,b.guard,b.dst,comp P a.op,comp P b.op with
      | none,some 1,none,some 2,some .recov,some (.call (.c (.func (.func s) [] [])) [.t 1,.t 0])=>some s
      | _,_,_,_,_,_=>none
    | _=>none
  | _=>none
 else none
structure RecClo (P:Program) (fc said:FuncId):Prop where
 h:∃fn,P.funcs[fc]? = some fn∧recClo P fn=some said
def RetE (P:Program) (rs:List RV) (K:AEnd→Heap→Prop) (v:AVal) (tm:TM) (df:DF) (h:Heap):Prop:=
 ∃fc said p,df=[(.func (.func fc) [] [p],[])]∧RecClo P fc said∧ACalls P said [v,p] h fun e h'=>(∃u,e=.ret u)∧osat (aRes rs tm h') (RetV K h')
def RetD (P:Program) (rs:List RV) (K:AEnd→Heap→Prop):Post
 | .normal,tm,df,h=>TakeK (RetE P rs K .nili tm) df h
 | .ret,tm,df,h=>TakeK (RetE P rs K .nili tm) df h
 | .panic v,tm,df,h=>TakeK (RetE P rs K v tm) df h
 | .exit _,_,_,_=>False
theorem glue_self (h h':Heap):glue h h h'=h':=by
 funext r
 refine glue_in ?_
 by_cases hr:h r=.dead
 ·exact .inr hr
 ·exact .inl hr
section
variable {P : Program}
theorem comp_recov {op:Op} (h:comp P op=some .recov):∃c,op=.call c∧c.callee=.builtin .recover:=by
 cases op
 case call c=>
  refine ⟨c,rfl,?_⟩
  simp only[comp,cCall] at h
  cases hc:c.callee with
  | builtin b=>
    rw[hc] at h
    cases b
    case recover=>rfl
    all_goals exfalso
    all_goals simp only[cBuiltin] at h
    all_goals repeat' split at h
    all_goals first
     | cases h;done
     | (simp only[Option.map_eq_some_iff,reduceCtorEq,and_false,exists_false] at h)
  | value f₀=>
    rw[hc] at h
    simp only[] at h
    split at h<;>cases h
  | invoke r nm=>
    rw[hc] at h
    simp only[] at h
    split at h<;>cases h
 all_goals exfalso
 all_goals simp only[comp,cBuild,cBsl,cMksl,cSlice,cIxAddr,cIx,cBin] at h
 all_goals repeat' split at h
 all_goals first
  | cases h;done
  | (simp only[Option.map_eq_some_iff,Option.bind_eq_some_iff,reduceCtorEq,and_false,exists_false] at h;done)
  | (rename_i hh;cases hh;done)
  | (rename_i hh _ _ _ _;cases hh;done)
  | (rename_i hh _ _ _;cases hh;done)
  | (rename_i hh _ _;cases hh;done)
  | (rename_i hh _;cases hh;done)
  | (rename_i hh _ _ _ _ _;cases hh;done)
  | (simp_all;done)
  | (simp only[Option.bind_eq_some_iff] at h;obtain ⟨s,_,h⟩:=h;first|(cases h;done)|(split at h<;>cases h))
theorem exec_recov {o:Oper} (h:comp P o.op=some .recov) (ρ:Operand→Value) (w:World) :(execOp ρ o).run P w=.ok .recover w:=by
 obtain ⟨c,h1,h2⟩:=comp_recov h
 simp[execOp,h1,resolve,h2,invoke,builtin]
theorem RecClo.calls {fc said:FuncId} (hc:RecClo P fc said) {u:FrameMode} {v p:AVal} {h:Heap} {K:AEnd→Heap→Prop} (ha:ACalls P said [v,p] h K) (hK:∀e h',K e h'→∃u,e=.ret u)
 {Z:Snap} {μ:Mu} {g:Nat} {w:World} {cargs:Array Value} (S:Sim Z μ h g w) (hl:cargs.size=1) (hp:VPre Z μ g [p] cargs.toList) (hv:VRel Z μ g v (recM u).1) :
 CallsDIn (Fw none) 0 P fc cargs u w fun e u' w'=>u' =(recM u).2∧(∃x,e=.returned x)∧∃Z' μ' g' x h',K (.ret x) h'∧Sim Z' μ' h' g' w'∧Tr Z μ h g w Z' μ' h' g' w':=by
 obtain ⟨fn,hf,hr⟩:=hc.h
 unfold recClo at hr
 split at hr
 ·cases hr
 split at hr
 rotate_left
 ·cases hr
 rename_i hnt
 split at hr
 rotate_left
 ·cases hr
 rename_i id ops hbody
 split at hr
 rotate_left
 ·cases hr
 rename_i o₀ o₁ hops
 split at hr
 rotate_left
 ·cases hr
 rename_i s hg0 hd0 hg1 hd1 hc0 hc1
 obtain rfl:s=said:=Option.some.inj hr
 have hsz:ops.size=2:=by rw[←Array.length_toList,hops];rfl
 have ho0:ops[0]? = some o₀:=by rw[←Array.getElem?_toList,hops];rfl
 have ho1:ops[1]? = some o₁:=by rw[←Array.getElem?_toList,hops];rfl
 let E:Env:=⟨P,0,3,false,[]⟩
 let Q:Post:=fun e _ df h'=>e=.normal∧df=[]∧∃x,K (.ret x) h'
 let st:Stp:=⟨⟨some 2,none,.call (.c (.func (.func s) [] [])) [.t 1,.t 0],false,false⟩,false,[],[]⟩
 have hci:CompIt P 3 ops o₁ st.it:=⟨hc1,hd1.symm,fun d hd=>by rw[hd1] at hd;cases hd;decide,by rw[hg1]⟩
 let tm:TM:=upd (initT [p]) 1 v
 have T:TRel Z μ g 3 tm (((cargs++Array.replicate (fn.ntmps - cargs.size) undef).setIfInBounds 1 (recM u).1)):=by
  refine TRel.put 1 (by decide) ⟨by simp[hl,hnt.1],fun t=>?_⟩ hv
  simp only[initT]
  by_cases ht:t<1
  ·obtain rfl:t=0:=by omega
   obtain ⟨x,hx1,hx2⟩:=VPre.get hp (i:=0) rfl
   have :(cargs++Array.replicate (fn.ntmps - cargs.size) undef).getD 0 undef=x:=by
    rw[Array.getElem?_toList] at hx1
    rw[Array.getD_eq_getD_getElem?,Array.getElem?_append_left (by omega),hx1];rfl
   rw[this];exact hx2
  ·have e1 :([p]:List AVal)[t]? = none:=List.getElem?_eq_none (by simp;omega)
   rw[e1,Option.getD_none]
   have :(cargs++Array.replicate (fn.ntmps - cargs.size) undef).getD t undef=undef:=by
    rw[Array.getD_eq_getD_getElem?,Array.getElem?_append_right (by omega),Array.getElem?_replicate]
    split<;>rfl
   rw[this];exact undef_rel
 have hAW:AWops E Q ([1].map fun _=>st) (Q .normal) tm [] h:=by
  show AWit E Q st (Q .normal) tm [] h
  unfold AWit AWx
  show FCall E (.func (.func s) [] []) [tm 1,tm 0] [] [] (some 2) (Q .normal) Q tm [] h
  refine ⟨h,HLe.refl h,trivial,AInvoke.func (ACalls.mono (K:=K) ?_ ?_)⟩
  ·simpa[tm] using ha
  ·intro e h' hk
   obtain ⟨x,rfl⟩:=hK _ _ hk
   simp only[CallK,glue_self]
   exact ⟨trivial,rfl,rfl,x,hk⟩
 have hw:=aWops_sound (E:=E) (Q:=Q) (ops:=ops) (ro:=none) rfl (fun _=>st) [1] (fun i hi=>by
  obtain rfl:i=1:=by simpa using hi
  exact ⟨o₁,ho1,hci⟩) (Z₀:=Z) (μ₀:=μ) (h₀:=h) (g₀:=g) (w₀:=w) (ca:=({ tmps:=cargs++Array.replicate (fn.ntmps - cargs.size) undef,defers:=[] } : Act).put o₀.dst (recM u).1) Tr.refl S (by rw[hd0];exact T) (by rw[put_defers];simp[DRel]) hAW
 refine CallsDIn.mono (callsDIn_rec (R:=fun e w'=>(∃x,e=.returned x)∧∃Z' μ' g' x h',K (.ret x) h'∧Sim Z' μ' h' g' w'∧Tr Z μ h g w Z' μ' h' g' w') hf hbody hsz ho0 hg0 (exec_recov hc0) ?_ hw) fun e u' w' hx=>hx
 rintro e a w' ⟨Z',μ',g',ae,tm',df',h',⟨rfl,rfl,x,hk⟩,r,S',T',D',t⟩
 obtain rfl:e=.normal:=r
 simp only[DRel] at D'
 refine ⟨D',?_⟩
 have hres:fn.results = #[]:=Array.size_eq_zero_iff.1 hnt.2
 refine ⟨.tuple #[],?_,⟨_,rfl⟩,Z',μ',g',x,h',hk,S',t⟩
 simp[results,hres]
theorem ACalls.of_body_defer {f:FuncId} {fn:Func} {c:Code} {args:List AVal} {h:Heap} {K:AEnd→Heap→Prop} (hf:P.funcs[f]? = some fn) (hn :(fn.name == "runtime.NumGoroutine")=false) (hb:fn.body=some c)
 {F:Nat} {kp:List Nat} {x:IR} {rs:List RV} (hfit:Fit ⟨P,F,fn.ntmps,false,kp⟩ c x) (hl:args.length≤fn.ntmps) (hrs:compRVs P fn.results.toList=some rs)
 (a:AW ⟨P,F,fn.ntmps,false,kp⟩ x (RetD P rs K) (initT args) [] h):ACalls P f args h K:=by
 refine ⟨⟨fn,c,hf,hn,hb⟩,fun Z μ g w cargs S hsz hv=>?_⟩
 refine callsIn_wide (n:=0).1 (callsIn_of_wp_marks hf hb trivial ?_ rfl)
 have T:TRel Z μ g fn.ntmps (initT args) (cargs++Array.replicate (fn.ntmps - cargs.size) undef):=by
  refine ⟨by simp;omega,fun t=>?_⟩
  simp only[initT]
  by_cases ht:t<args.length
  ·rw[List.getElem?_eq_getElem ht,Option.getD_some]
   obtain ⟨v,hv1,hv2⟩:=VPre.get hv (List.getElem?_eq_getElem ht)
   have :(cargs++Array.replicate (fn.ntmps - cargs.size) undef).getD t undef=v:=by
    rw[Array.getElem?_toList] at hv1
    rw[Array.getD_eq_getD_getElem?,Array.getElem?_append_left (by omega),hv1];rfl
   rw[this];exact hv2
  ·rw[List.getElem?_eq_none (by omega),Option.getD_none]
   have :(cargs++Array.replicate (fn.ntmps - cargs.size) undef).getD t undef=undef:=by
    rw[Array.getD_eq_getD_getElem?,Array.getElem?_append_right (by omega),Array.getElem?_replicate]
    split<;>rfl
   rw[this];exact undef_rel
 refine wpIn_mono (hfit _ _ _ _ a none rfl Z μ g w { tmps:=_,defers:=[] } S T (by simp[DRel])) ?_
 rintro e ca' w' ⟨Z',μ',g',ae,tm',df',h',q,r,S',T',D',t⟩
 have fin:∀(u:FrameMode) (v:AVal),u≠.run→settle (recM u).2=.returning→VRel Z' μ' g' v (recM u).1→TakeK (RetE P rs K v tm') df' h'→
  LeavesInM (Fw none) 0 P fn ca'.tmps (OutC K Z μ h g w) ca'.defers u w':=by
  intro u v hur hset hvr hk
  refine take_sound hur S' D' hk fun df₁ ds₁ Z₁ μ₁ h₁ g₁ w₁ hk₁ S₁ D₁ t₁=>?_
  obtain ⟨fc,said,p,rfl,hc,ha⟩:=hk₁
  replace hvr:=VRel.mono t₁.ext _ _ hvr
  simp only[DRel] at D₁
  obtain ⟨fn',f',c',args',ds',hvf,h1,h2,hds,rfl⟩:=D₁
  obtain rfl:args' = #[]:=Array.size_eq_zero_iff.1 (by simpa using h1)
  simp only[VRel] at hvf
  obtain ⟨_,f'',c'',hfe,h3,h4,h5,h6⟩:=hvf
  cases hfe
  obtain rfl:f' = #[]:=Array.size_eq_zero_iff.1 (by simpa using h3)
  rw[hds]
  have hent:∃fnc cc,P.funcs[fc]? = some fnc∧(fnc.name == "runtime.NumGoroutine")=false∧fnc.body=some cc:=by
   obtain ⟨fnc,hf1,hr1⟩:=hc.h
   unfold recClo at hr1
   split at hr1
   ·cases hr1
   rename_i hnm
   split at hr1
   ·split at hr1
    ·rename_i hbb;exact ⟨fnc,_,hf1,by simpa using hnm,hbb⟩
    ·cases hr1
   ·cases hr1
  have hinv :(invoke (.fn (.func fc) c') (#[]++#[])).run P w₁=.ok (.enter fc c') w₁:=by
   simp only[invoke]
   have:=Calls.enters hent c' w₁
   simpa using this
  refine ⟨hur,.inr ⟨fun hx=>by simp[Fw] at hx,_,_,_,_,rfl,hinv,fun _ _=>trivial,?_⟩⟩
  refine CallsDIn.mono (hc.calls ha (fun e h' hk=>hk.1) S₁ (by simpa using h4) (by simpa using h6) hvr) ?_
  rintro e u' w'' ⟨rfl,⟨y,rfl⟩,Z₂,μ₂,g₂,z,h₂,⟨_,ho⟩,S₂,t₂⟩
  simp only[hset,LeavesInM,LeavesIn]
  obtain ⟨a,har,v',h'',hvl,hk⟩:=osat_iff.1 ho
  obtain ⟨u₁,hu,hvu⟩:=aRes_sound (P:=P) S₂ ((T'.mono t₁.ext).mono t₂.ext) hrs har
  obtain ⟨Z₃,μ₃,g₃,S₃,hv₃,t₃⟩:=hvl Z₂ μ₂ g₂ w'' u₁ S₂ hvu
  exact ⟨u₁,hu,Z₃,μ₃,g₃,.ret v',h'',hk,⟨u₁,hv₃,rfl⟩,S₃,((t.trans t₁).trans t₂).trans t₃⟩
 cases ae with
 | normal=>obtain rfl:e=.normal:=r;exact fin .returning .nili (by simp) rfl (by simp[VRel,recM]) q
 | ret=>obtain rfl:e=.ret:=r;exact fin .returning .nili (by simp) rfl (by simp[VRel,recM]) q
 | exit id=>exact q.elim
 | panic v=>
   obtain ⟨y,hy,rfl⟩:=r
   exact fin (.panicking [{ v:=y,recovered:=false }]) v (by simp) (by simp[recM,settle]) (by simpa[recM] using hy) q
theorem ACalls.of_comp_defer (hm:P.follows .mixedOrders=true) {f:FuncId} {fn:Func} {cfg:Cfg} {x:IR} {rs:List RV} {n:Nat} (hf:P.funcs[f]? = some fn) (hc:compF P cfg fn=some (x,rs,n)) {args:List AVal} {h:Heap}
 {K:AEnd→Heap→Prop} {F:Nat} (hl:args.length≤n) (a:AW ⟨P,F,n,false,cfg.keep⟩ x (RetD P rs K) (initT args) [] h):ACalls P f args h K:=by
 unfold compF at hc
 split at hc
 ·cases hc
 ·rename_i hn
  split at hc
  ·rename_i h1 h2
   split at hc
   ·rename_i y h3
    simp only[Option.some.injEq,Prod.mk.injEq] at hc
    obtain ⟨rfl,rfl,rfl⟩:=hc
    exact ACalls.of_body_defer hf (by simpa using hn) h1 (compC_fit hm h3 F false) hl h2 a
   ·cases hc
  ·cases hc
end
end Go.Cw
end
section
namespace Go.Cw
open Go
theorem ACalls.cps {P:Program} {f:FuncId} {args:List AVal} {h:Heap} {K:AEnd→Heap→Prop} {σ:Type} (hs:List (Nat×AObj)) (V:σ→AVal) (H:σ→List (Nat×AObj)) (p:σ→Prop)
 (a:∀K':AEnd→Heap→Prop,(∀x,p x→K' (.ret (V x)) (hpV (H x)))→ACalls P f args (hpV hs) K') (hw:Hw hs h) (hn:∀x,(H x).map Prod.fst=hs.map Prod.fst) (k:∀x,p x→K (.ret (V x)) (updL h (H x))):ACalls P f args h K:=by
 refine ((a (fun e h'=>∃x,p x∧e=.ret (V x)∧h'=hpV (H x)) fun x hx=>⟨x,hx,rfl,rfl⟩).frame (HLe.view hw)).mono ?_
 rintro e hh ⟨h',⟨x,hx,rfl,rfl⟩,rfl⟩
 rw[glue_view hw (hn x)]
 exact k x hx
section
variable (P : Program) (rs:List RV) (K:AEnd→Heap→Prop) (tm:TM) (df:DF) (h:Heap)
end
theorem RetD.normal {P:Program} {rs:List RV} {K:AEnd→Heap→Prop} {tm:TM} {df:DF} {h:Heap} {fc said:FuncId} {p:AVal} (hd:df=[(.func (.func fc) [] [p],[])]) (hc:RecClo P fc said)
 (a:ACalls P said [.nili,p] h fun e h'=>(∃u,e=.ret u)∧osat (aRes rs tm h') (RetV K h')):RetD P rs K .normal tm df h:=by subst hd;exact ⟨fc,said,p,rfl,hc,a⟩
theorem RetD.ret {P:Program} {rs:List RV} {K:AEnd→Heap→Prop} {tm:TM} {df:DF} {h:Heap} {fc said:FuncId} {p:AVal} (hd:df=[(.func (.func fc) [] [p],[])]) (hc:RecClo P fc said)
 (a:ACalls P said [.nili,p] h fun e h'=>(∃u,e=.ret u)∧osat (aRes rs tm h') (RetV K h')):RetD P rs K .ret tm df h:=by subst hd;exact ⟨fc,said,p,rfl,hc,a⟩
theorem RetD.panic {P:Program} {rs:List RV} {K:AEnd→Heap→Prop} {tm:TM} {df:DF} {h:Heap} {fc said:FuncId} {v p:AVal} (hd:df=[(.func (.func fc) [] [p],[])]) (hc:RecClo P fc said)
 (a:ACalls P said [v,p] h fun e h'=>(∃u,e=.ret u)∧osat (aRes rs tm h') (RetV K h')):RetD P rs K (.panic v) tm df h:=by subst hd;exact ⟨fc,said,p,rfl,hc,a⟩
def LLe (as:List AVal) (h:Heap) (bs:List AVal) (h':Heap):Prop:=
 ∀Z μ g w us,Sim Z μ h g w→VPre Z μ g as us→∃Z' μ' g',Sim Z' μ' h' g' w∧VPre Z' μ' g' bs us∧Tr Z μ h g w Z' μ' h' g' w
theorem LLe.refl (as:List AVal) (h:Heap):LLe as h as h:=fun Z μ g _ _ S hv=>⟨Z,μ,g,S,hv,Tr.refl⟩
theorem LLe.nil (h:Heap):LLe [] h [] h:=LLe.refl _ _
theorem LLe.cons {a b:AVal} {as bs:List AVal} {h h₁ h₂:Heap} (x:VLe a h b h₁) (y:LLe as h₁ bs h₂):LLe (a::as) h (b::bs) h₂:=by
 intro Z μ g w us S hv
 cases us with
 | nil=>simp[VPre] at hv
 | cons u us=>
   simp only[VPre] at hv
   obtain ⟨Z₁,μ₁,g₁,S₁,hv₁,t₁⟩:=x Z μ g w u S hv.1
   obtain ⟨Z₂,μ₂,g₂,S₂,hv₂,t₂⟩:=y Z₁ μ₁ g₁ w us S₁ (VPre.mono t₁.ext _ _ hv.2)
   exact ⟨Z₂,μ₂,g₂,S₂,by simpa only[VPre] using ⟨VRel.mono t₂.ext _ _ hv₁,hv₂⟩,t₁.trans t₂⟩
theorem LLe.append {as bs cs ds:List AVal} {h h₁ h₂:Heap} (x:LLe as h bs h₁) (hl:as.length=bs.length) (y:LLe cs h₁ ds h₂):LLe (as++cs) h (bs++ds) h₂:=by
 induction as generalizing bs h with
 | nil=>
   obtain rfl:bs=[]:=by simpa using hl.symm
   intro Z μ g w us S hv
   obtain ⟨Z₁,μ₁,g₁,S₁,_,t₁⟩:=x Z μ g w [] S (VPre_nil _)
   obtain ⟨Z₂,μ₂,g₂,S₂,hv₂,t₂⟩:=y Z₁ μ₁ g₁ w us S₁ (VPre.mono t₁.ext _ _ hv)
   exact ⟨Z₂,μ₂,g₂,S₂,hv₂,t₁.trans t₂⟩
 | cons a as ih=>
   intro Z μ g w us S hv
   have hsplit:∃us₁ us₂,us=us₁++us₂∧us₁.length =(a::as).length:=by
    refine ⟨us.take (a::as).length,us.drop (a::as).length,(List.take_append_drop _ _).symm,?_⟩
    have:=VPre.len hv
    simp at this
    simp;omega
   obtain ⟨us₁,us₂,rfl,hlen⟩:=hsplit
   have h1:VPre Z μ g (a::as) us₁:=by
    rw[VPre_iff] at hv ⊢
    intro i b hb
    obtain ⟨v,hv1,hv2⟩:=hv i b (by rw[List.getElem?_append_left (List.getElem?_eq_some_iff.1 hb).1];exact hb)
    exact ⟨v,by rw[List.getElem?_append_left (by rw[hlen];exact (List.getElem?_eq_some_iff.1 hb).1)] at hv1;exact hv1,hv2⟩
   have h2:VPre Z μ g cs us₂:=by
    have:=VPre.drop (a::as).length hv
    rw[List.drop_left,←hlen,List.drop_left] at this
    exact this
   obtain ⟨Z₁,μ₁,g₁,S₁,hv₁,t₁⟩:=x Z μ g w us₁ S h1
   obtain ⟨Z₂,μ₂,g₂,S₂,hv₂,t₂⟩:=y Z₁ μ₁ g₁ w us₂ S₁ (VPre.mono t₁.ext _ _ h2)
   exact ⟨Z₂,μ₂,g₂,S₂,VPre.append (VPre.mono t₂.ext _ _ hv₁) (by rw[hlen,hl]) hv₂,t₁.trans t₂⟩
theorem VLe.pv {as bs:List AVal} {h h':Heap} (x:LLe as h bs h') (hl:as.length=bs.length):VLe (.pv as) h (.pv bs) h':=by
 intro Z μ g w u S hv
 simp only[VRel] at hv
 obtain ⟨b,o,c,h1,h2,h3,h4⟩:=hv
 obtain ⟨Z',μ',g',S',hv',t⟩:=x Z μ g w _ S h3
 exact ⟨Z',μ',g',S',by simp only[VRel];exact ⟨b,o,c,h1,t.ext.imm _ _ h2,hv',by rw[←hl];exact h4⟩,t⟩
theorem VLe.tup {as bs:List AVal} {h h':Heap} (x:LLe as h bs h') (hl:as.length=bs.length):VLe (.tup as) h (.tup bs) h':=by
 intro Z μ g w u S hv
 simp only[VRel] at hv
 obtain ⟨l,h1,h2,h3⟩:=hv
 obtain ⟨Z',μ',g',S',hv',t⟩:=x Z μ g w _ S h3
 exact ⟨Z',μ',g',S',by simp only[VRel];exact ⟨l,h1,by rw[h2,hl],hv'⟩,t⟩
theorem VLe.agg {as bs:List AVal} {h h':Heap} (x:LLe as h bs h') (hl:as.length=bs.length):VLe (.agg as) h (.agg bs) h':=by
 intro Z μ g w u S hv
 simp only[VRel] at hv
 obtain ⟨l,h1,h2,h3,h4⟩:=hv
 obtain ⟨Z',μ',g',S',hv',t⟩:=x Z μ g w _ S h3
 exact ⟨Z',μ',g',S',by simp only[VRel];exact ⟨l,h1,by rw[h2,hl],hv',h4⟩,t⟩
theorem VLe.ptr {r off s:Nat} {cells:List AVal} {h:Heap} (hr:h r=.row cells s):VLe (.ptr r off s) h (.pv (cells.drop off)) (upd h r .dead):=by
 have:=VLe.frz (v:=.ptr r off s) hr
 simpa using this
theorem VLe.sl {r off s n:Nat} {cap:Cap} {cells:List AVal} {h:Heap} (hr:h r=.row cells s):VLe (.sl r off s n cap) h (.vl n (cells.drop off)) (upd h r .dead):=by
 have:=VLe.frz (v:=.sl r off s n cap) hr
 simpa using this
end Go.Cw
end
section
namespace Go.Cw
open Go
def ofL (l:List Int) (i:Nat):Int:=l.getD i 0
theorem ofL_at (l:List Int) {i:Nat} (h:i<l.length):l[i]=ofL l i:=by simp[ofL,h]
theorem ofL_none (l:List Int) {i:Nat} (h:l.length≤i):ofL l i=0:=by simp[ofL,h]
theorem flatEq_ints : ∀{n:Nat} {a b:List Int},a.length=n→b.length=n→flatEq (List.replicate n .i) (ints a) (ints b)=some (decide (a=b))
 | 0,a,b,ha,hb=>by
   obtain rfl:a=[]:=List.eq_nil_of_length_eq_zero ha
   obtain rfl:b=[]:=List.eq_nil_of_length_eq_zero hb
   simp[flatEq]
 | n+1,a,b,ha,hb=>by
   cases a with
   | nil=>simp at ha
   | cons x a=>
     cases b with
     | nil=>simp at hb
     | cons y b=>
       simp only[List.replicate_succ,ints_cons,flatEq,if_true,flatEq_ints (n:=n) (a:=a) (b:=b) (by simpa using ha) (by simpa using hb),Option.map_some,List.cons.injEq]
       by_cases h1:x=y<;>by_cases h2:a=b<;>simp[h1,h2]
def entsI (f:List Int→AVal) (M:List (List Int)):List (AVal×AVal):=M.map fun l=>(.agg (ints l),f l)
theorem mfind_ints {n:Nat} {f:List Int→AVal} {k:List Int} (hk:k.length=n):∀{M:List (List Int)},(∀l∈M,l.length=n)→
 (k∉M→mfind (true,List.replicate n .i) (.agg (ints k)) (entsI f M)=some none)∧(k∈M→∃i,mfind (true,List.replicate n .i) (.agg (ints k)) (entsI f M)=some (some (i,f k)))
 | [],_=>⟨fun _=>rfl,fun h=>by simp at h⟩
 | l::M,hM=>by
   obtain ⟨h1,h2⟩:=mfind_ints hk (M:=M) (fun x hx=>hM x (by simp[hx])) (f:=f)
   have he:keyEq (true,List.replicate n .i) (.agg (ints k)) (.agg (ints l))=some (decide (k=l)):=by
    simp only[keyEq,if_true]
    exact flatEq_ints hk (hM l (by simp))
   have hc:mfind (true,List.replicate n .i) (.agg (ints k)) (entsI f (l::M))=match some (decide (k=l)) with
    | none=>none
    | some true=>some (some (0,f l))
    | some false=>(mfind (true,List.replicate n .i) (.agg (ints k)) (entsI f M)).map (Option.map fun x=>(x.1+1,x.2)):=by
    rw[←he];rfl
   by_cases hkl:k=l
   ·subst hkl
    refine ⟨fun h=>absurd (by simp) h,fun _=>⟨0,?_⟩⟩
    rw[hc];simp
   ·refine ⟨fun h=>?_,fun h=>?_⟩
    ·rw[hc,h1 (fun hm=>h (by simp[hm]))];simp[hkl]
    ·obtain ⟨i,hi⟩:=h2 (by simpa[hkl] using h)
     refine ⟨i+1,?_⟩
     rw[hc,hi];simp[hkl]
theorem keyOk_ints {n:Nat} {k:List Int} (hk:k.length=n):keyOk (true,List.replicate n .i) (.agg (ints k))=true:=by
 simp only[keyOk,keyEq,if_true,flatEq_ints hk hk,Option.isSome_some]
theorem aLookup_ints {n:Nat} {f:List Int→AVal} {k:List Int} (hk:k.length=n) {M:List (List Int)} (hM:∀l∈M,l.length=n) {h:Heap} {m s:Nat} (hm:h m=.map (entsI f M) s) (zero:AVal) :
 aLookup h (true,List.replicate n .i) true zero (.map m s) (.agg (ints k))=some (if k∈M then .tup [f k,.bool true] else .tup [zero,.bool false]):=by
 obtain ⟨h1,h2⟩:=mfind_ints hk hM (f:=f)
 simp only[aLookup,keyOk_ints hk,if_true,mapOf,hm]
 by_cases hkm:k∈M
 ·obtain ⟨i,hi⟩:=h2 hkm
  simp[hi,hkm]
 ·simp[h1 hkm,hkm]
theorem mapU_ints {n:Nat} {f:List Int→AVal} {k:List Int} (hk:k.length=n) {M:List (List Int)} (hM:∀l∈M,l.length=n) (hkm:k∉M) {h:Heap} {m s g:Nat} (hm:h m=.map (entsI f M) s) {ρ:Opd→AVal} {a b c:Opd} (ha:ρ a=.map m s) (hb:ρ b=.agg (ints k)) (hc:ρ c=f k) :
 ixe (.mapU (true,List.replicate n .i) a b c) 0 ρ h g=some (.any,upd h m (.map (entsI f (M++[k])) s),g):=by
 obtain ⟨h1,_⟩:=mfind_ints hk hM (f:=f)
 simp only[ixe,ha,hm,hb,keyOk_ints hk,and_self,if_true,h1 hkm]
 rw[hc]
 simp[entsI]
def renO (r nm:Nat):AObj→AObj
 | .row cells s=>.row (renL r nm cells) s
 | .map es s=>.map (es.map fun x=>(ren r nm x.1,ren r nm x.2)) s
 | .loop st pending fn tm nt params assign body dfr s=>.loop st pending fn (renT r nm tm) nt params assign body dfr s
 | o=>o
def renH (r nm:Nat) (h:Heap):Heap:=fun x=>renO r nm (h x)
@[simp] theorem renH_at (r nm:Nat) (h:Heap) (x:Nat):renH r nm h x=renO r nm (h x):=(rfl)
@[simp] theorem renO_row (r nm:Nat) (cells:List AVal) (s:Nat):renO r nm (.row cells s)=.row (renL r nm cells) s:=(rfl)
theorem renO_stamp (r nm:Nat) (o:AObj) :(renO r nm o).stamp=o.stamp:=by cases o<;>rfl
theorem renO_rel {Z:Snap} {μ:Mu} {g:Nat} {w:World} {r nm:Nat} {o:AObj} (h:ORel Z μ g w o):ORel Z μ g w (renO r nm o):=by
 cases o with
 | row cells s=>
   simp only[renO_row,ORel] at h ⊢
   obtain ⟨hs,c,elem,h1,h2,h3,h4⟩:=h
   exact ⟨hs,c,elem,h1,h2,renL_rel _ _ h3,by simpa using h4⟩
 | map es s=>
   simp only[renO,ORel] at h ⊢
   obtain ⟨hs,en,h1,h2,h3⟩:=h
   refine ⟨hs,en,by simpa using h1,by simpa using h2,fun i k v hi=>?_⟩
   rw[List.getElem?_map] at hi
   cases he:es[i]? with
   | none=>rw[he] at hi;simp at hi
   | some x=>
     rw[he] at hi
     simp only[Option.map_some,Option.some.injEq,Prod.mk.injEq] at hi
     obtain ⟨rfl,rfl⟩:=hi
     obtain ⟨e,h4,h5,h6,h7⟩:=h3 i x.1 x.2 he
     exact ⟨e,h4,h5,ren_rel _ _ h6,ren_rel _ _ h7⟩
 | loop st pending fn tm nt params assign body dfr s=>
   simp only[renO,ORel] at h ⊢
   obtain ⟨hs,tmps,h1,h2⟩:=h
   exact ⟨hs,tmps,⟨h1.1,fun t=>ren_rel _ _ (h1.2 t)⟩,h2⟩
 | dead=>exact h
 | iter _ _ _ _ _=>exact h
 | dfr _ _=>exact h
 | bst _ _ _=>exact h
 | bby _ _=>exact h
theorem Sim.ren {Z:Snap} {μ:Mu} {h:Heap} {g:Nat} {w:World} (r nm:Nat) (S:Sim Z μ h g w):Sim Z μ (renH r nm h) g w:=by
 refine ⟨fun x=>renO_rel (S.rows x),fun x y s s' hx hy hne=>?_,S.imm,fun x s hx=>?_⟩
 ·rw[renH_at,renO_stamp] at hx hy;exact S.inj x y s s' hx hy hne
 ·rw[renH_at,renO_stamp] at hx;exact S.sep x s hx
theorem Tr.ren {Z:Snap} {μ:Mu} {h h₀:Heap} {g g₀:Nat} {Z₀:Snap} {μ₀:Mu} {w₀ w:World} (r nm:Nat) (t:Tr Z₀ μ₀ h₀ g₀ w₀ Z μ h g w):Tr Z₀ μ₀ h₀ g₀ w₀ Z μ (renH r nm h) g w:=
 ⟨t.ext,t.size,t.frame,fun x s hx hlt=>by rw[renH_at,renO_stamp] at hx;exact t.wr x s hx hlt,t.imm,t.env⟩
theorem Sim.rowLe {Z:Snap} {μ:Mu} {h:Heap} {g:Nat} {w:World} (S:Sim Z μ h g w) {r s:Nat} {cells cells':List AVal} (hr:h r=.row cells s) (a:ALeL cells cells'):Sim Z μ (upd h r (.row cells' s)) g w:=by
 have st:∀x,((upd h r (.row cells' s)) x).stamp =(h x).stamp:=by
  intro x
  simp only[upd]
  split
  ·rename_i hx;rw[hx,hr];rfl
  ·rfl
 refine ⟨fun x=>?_,fun x y s₁ s₂ hx hy hne=>?_,S.imm,fun x s₁ hx=>?_⟩
 ·simp only[upd]
  split
  ·have:=S.rows r
   rw[hr] at this
   simp only[ORel] at this ⊢
   obtain ⟨hs,c,elem,h1,h2,h3,h4⟩:=this
   exact ⟨hs,c,elem,h1,h2,a.pre h3,by rw[←a.len];exact h4⟩
  ·exact S.rows x
 ·rw[st] at hx hy;exact S.inj x y s₁ s₂ hx hy hne
 ·rw[st] at hx;exact S.sep x s₁ hx
theorem Sl.rowLe {n:Nat} {K:KT} {tm:TM} {df:DF} {h:Heap} (r:Nat) {s:Nat} {cells:List AVal} (cells':List AVal) (hr:h r=.row cells s) (a:ALeL cells cells') (k:Sl n K tm df (upd h r (.row cells' s))):Sl n K tm df h:=by
 refine Sl.le (fun Z μ g _ _ S T D=>⟨Z,μ,g,S.rowLe hr a,T,D,⟨Ext.refl _ _ _,Nat.le_refl _,fun _ _ _=>rfl,fun x s₁ hx _=>?_,fun _ _ hb _=>.inl hb,rfl,rfl⟩⟩) k
 refine ⟨x,s₁,?_,rfl⟩
 simp only[upd] at hx
 split at hx
 ·rename_i hxr;rw[hxr,hr];exact hx
 ·exact hx
theorem Sl.vle {n:Nat} {K:KT} {tm:TM} {df:DF} {h h':Heap} (t:Nat) (v:AVal) (a:VLe (tm t) h v h') (k:Sl n K (upd tm t v) df h'):Sl n K tm df h:=by
 refine Sl.le (fun Z μ g w ca S T D=>?_) k
 obtain ⟨Z',μ',g',S',hv,tr⟩:=a Z μ g w _ S (T.2 t)
 refine ⟨Z',μ',g',S',⟨T.1,fun x=>?_⟩,D.mono tr.ext,tr⟩
 simp only[upd]
 split
 ·rename_i hx;subst hx;exact hv
 ·exact VRel.mono tr.ext _ _ (T.2 x)
theorem FaOk.dead {F:Nat} {fa:List It} {tm:TM} {h:Heap} (a:FaOk F fa tm h):FaDead F fa h:=by
 rw[FaOk_iff] at a
 rw[FaDead_iff]
 exact fun x hx=>(a x hx).2.2
@[simp] theorem I_guard (d:Nat) (op:IOp) :(I d op).guard=none:=(rfl)
@[simp] theorem I_op (d:Nat) (op:IOp) :(I d op).op=op:=(rfl)
@[simp] theorem I_dst (d:Nat) (op:IOp) :(I d op).dst=some d:=(rfl)
theorem Tr.rowLe {Z:Snap} {μ:Mu} {h:Heap} {g:Nat} {w:World} {r s:Nat} {cells cells':List AVal} (hr:h r=.row cells s):Tr Z μ h g w Z μ (upd h r (.row cells' s)) g w:=by
 refine ⟨Ext.refl _ _ _,Nat.le_refl _,fun _ _ _=>rfl,fun x s₁ hx _=>?_,fun _ _ hb _=>.inl hb,rfl,rfl⟩
 refine ⟨x,s₁,?_,rfl⟩
 simp only[upd] at hx
 split at hx
 ·rename_i hxr;rw[hxr,hr];exact hx
 ·exact hx
theorem AInvoke.rowLe {P:Program} {fv:AVal} {args:List AVal} {h:Heap} {K:AEnd→Heap→Prop} (r:Nat) {s:Nat} {cells:List AVal} (cells':List AVal) (hr:h r=.row cells s) (hc:ALeL cells cells') (a:AInvoke P fv args (upd h r (.row cells' s)) K):AInvoke P fv args h K:=
 fun Z μ g w v cargs S hv hl ha=>(a Z μ g w v cargs (S.rowLe hr hc) hv hl ha).mono fun _ _ o=>o.pre (Tr.rowLe hr)
end Go.Cw
end
section
namespace Go.Cw
open Go
namespace Sh
@[simp] def M (d x:Nat):Stp:=S d (.mv (.t x))
@[simp] def MI (d:Nat) (n:Int):Stp:=S d (.mv (.c (.int .i64 n)))
@[simp] def X (d x n:Nat):Stp:=S d (.ext (.t x) n)
@[simp] def Ld (d:Nat) (b:Bool) (n x:Nat):Stp:=S d (.load b n (.t x))
@[simp] def Fa (d n x:Nat):Stp:=S d (.fAddr n (.t x))
@[simp] def Bn (d:Nat) (op:BinOp) (x y:Nat):Stp:=S d (.bin op (.t x) (.t y))
@[simp] def Bi (d:Nat) (op:BinOp) (x:Nat) (n:Int):Stp:=S d (.bin op (.t x) (.c (.int .i64 n)))
@[simp] def Po (d a b:Nat):Stp:=S d (.pick (.t a) (.c (.bool true)) (.t b))
@[simp] def Pa (d a b:Nat):Stp:=S d (.pick (.t a) (.t b) (.c (.bool false)))
@[simp] def Mg (d t:Nat) (b:Bool) (x:Nat):Stp:=SG d t b (.mv (.t x))
@[simp] def fc (f:FuncId):Opd:=.c (.func (.func f) [] [])
@[simp] def ci (n:Int):Opd:=.c (.int .i64 n)
end Sh
def Entr (P:Program) (f:FuncId) (n:Nat) (keep:List Nat) (ir:IR) (ret :(AEnd→Heap→Prop)→Post):Prop:=
 ∀{args:List AVal} {h:Heap} {K:AEnd→Heap→Prop} (F:Nat) (hl:args.length≤n) (a:AW ⟨P,F,n,false,keep⟩ ir (ret K) (initT args) [] h),ACalls P f args h K
def Pur (P:Program) (f:FuncId) (n:Nat) (keep:List Nat) (ir:IR) (ret :(AEnd→Heap→Prop)→Post):Prop:=
 ∀{args:List AVal} {v:AVal} (hl:args.length≤n) (a:AW ⟨P,0,n,false,keep⟩ ir (ret fun e _=>e=.ret v) (initT args) [] nilH),APure P f args v
section
variable {P : Program} {f:FuncId} {fn:Func} {cfg:Cfg} {ir:IR} {rs:List RV} {n:Nat}
theorem Entr.of (hm:P.follows .mixedOrders=true) (hf:P.funcs[f]? = some fn) (hc:compF P cfg fn=some (ir,rs,n)):Entr P f n cfg.keep ir (RetK rs):=
 fun _ hl a=>ACalls.of_comp hm hf hc hl a
theorem Entr.ofD (hm:P.follows .mixedOrders=true) (hf:P.funcs[f]? = some fn) (hc:compF P cfg fn=some (ir,rs,n)):Entr P f n cfg.keep ir (RetD P rs):=
 fun _ hl a=>ACalls.of_comp_defer hm hf hc hl a
theorem Pur.of {keep:List Nat} {ret :(AEnd→Heap→Prop)→Post} (e:Entr P f n keep ir ret):Pur P f n keep ir ret:=
 fun hl a=>APure.of_nil (e 0 hl a)
end
end Go.Cw
end
section
namespace Go.Cw
open Go
def recAns (P:Program) (cfg:Cfg) (fn:Func):Option (IR×Nat×Nat×Nat):=
 if fn.name == "runtime.NumGoroutine" then none else
 if fn.results.size=0 then
  match fn.body with
  | some (.seq (.region _ ops false) rest)=>match ops.toList with
    | [a,b]=>match a.guard,a.dst,b.guard,b.dst,comp P a.op,comp P b.op with
      | none,some d₀,none,some d₁,some .recov,some (.mv (.t d))=>if d=d₀∧d₀<fn.ntmps∧d₁<fn.ntmps then (compC P fn.ntmps cfg rest).map fun x=>(x,fn.ntmps,d₀,d₁) else none
      | _,_,_,_,_,_=>none
    | _=>none
  | _=>none
 else none
def AAns (P:Program) (fa:FuncId) (v p:AVal) (h:Heap) (K:Heap→Prop):Prop:=
 Enters P fa∧∀Z μ g w (u:FrameMode) (cargs:Array Value),Sim Z μ h g w→cargs.size=1→VPre Z μ g [p] cargs.toList→VRel Z μ g v (recM u).1→
  CallsDIn (Fw none) 0 P fa cargs u w fun e u' w'=>u' =(recM u).2∧(∃x,e=.returned x)∧∃Z' μ' g' h',K h'∧Sim Z' μ' h' g' w'∧Tr Z μ h g w Z' μ' h' g' w'
section
variable {P : Program}
def AnsK (K:Heap→Prop):Post
 | .normal,_,df,h=>df=[]∧K h
 | .ret,_,df,h=>df=[]∧K h
 | _,_,_,_=>False
@[simp] theorem AnsK_normal (K:Heap→Prop) (tm:TM) (df:DF) (h:Heap):AnsK K .normal tm df h =(df=[]∧K h):=(rfl)
theorem AAns.of (hm:P.follows .mixedOrders=true) {fa:FuncId} {fn:Func} {cfg:Cfg} {x:IR} {n d₀ d₁ F:Nat} (hf:P.funcs[fa]? = some fn) (hr:recAns P cfg fn=some (x,n,d₀,d₁)) {v p:AVal} {h:Heap} {K:Heap→Prop}
 (hn:1≤n) (ha:AW ⟨P,F,n,false,cfg.keep⟩ x (AnsK K) (upd (upd (initT [p]) d₀ v) d₁ v) [] h):AAns P fa v p h K:=by
 unfold recAns at hr
 split at hr
 ·cases hr
 rename_i hnm
 split at hr
 rotate_left
 ·cases hr
 rename_i hres
 split at hr
 rotate_left
 ·cases hr
 rename_i id ops rest hbody
 split at hr
 rotate_left
 ·cases hr
 rename_i o₀ o₁ hops
 split at hr
 rotate_left
 ·cases hr
 rename_i e₀ e₁ d hg0 hd0 hg1 hd1 hc0 hc1
 split at hr
 rotate_left
 ·cases hr
 rename_i hdd
 obtain ⟨y,hy,hr⟩:=Option.map_eq_some_iff.1 hr
 simp only[Prod.mk.injEq] at hr
 obtain ⟨rfl,rfl,rfl,rfl⟩:=hr
 obtain ⟨rfl,hl0,hl1⟩:=hdd
 have hsz:ops.size=2:=by rw[←Array.length_toList,hops];rfl
 have ho0:ops[0]? = some o₀:=by rw[←Array.getElem?_toList,hops];rfl
 have ho1:ops[1]? = some o₁:=by rw[←Array.getElem?_toList,hops];rfl
 refine ⟨⟨fn,_,hf,by simpa using hnm,hbody⟩,fun Z μ g w u cargs S hl hp hv=>?_⟩
 refine callsDIn_of_wpSIn hf hbody trivial fun c₀ cs hu=>wpSIn_seq (wpSIn_region ?_)
 have hrange:List.range ops.size=[0,1]:=by rw[hsz];rfl
 rw[hrange]
 have ab:∀(f:FuncId),(Fw none).fn f:=fun _=>trivial
 have rm:=recoverD_recM c₀ cs
 rw[hu] at rm
 have T0:TRel Z μ g fn.ntmps (initT [p]) (cargs++Array.replicate (fn.ntmps - cargs.size) undef):=by
  refine ⟨by simp[hl];omega,fun t=>?_⟩
  simp only[initT]
  by_cases ht:t<1
  ·obtain rfl:t=0:=by omega
   obtain ⟨z,hx1,hx2⟩:=VPre.get hp (i:=0) rfl
   have :(cargs++Array.replicate (fn.ntmps - cargs.size) undef).getD 0 undef=z:=by
    rw[Array.getElem?_toList] at hx1
    rw[Array.getD_eq_getD_getElem?,Array.getElem?_append_left (by omega),hx1];rfl
   rw[this];exact hx2
  ·have e1 :([p]:List AVal)[t]? = none:=List.getElem?_eq_none (by simp;omega)
   rw[e1,Option.getD_none]
   have :(cargs++Array.replicate (fn.ntmps - cargs.size) undef).getD t undef=undef:=by
    rw[Array.getD_eq_getD_getElem?,Array.getElem?_append_right (by omega),Array.getElem?_replicate]
    split<;>rfl
   rw[this];exact undef_rel
 have main:∀(cs':List Frame) (rv:Value),rv =(recM u).1→cs' = { c₀ with mode:=(recM u).2 } :: cs→
  wpOpsSIn (Fw none) 0 P ops (Exit.thenS (rest.wpSIn (Fw none) 0 P (bodyPostS P fn c₀ cs fun e u' w'=>u' =(recM u).2∧(∃x,e=.returned x)∧∃Z' μ' g' h',K h'∧Sim Z' μ' h' g' w'∧Tr Z μ h g w Z' μ' h' g' w'))
   (bodyPostS P fn c₀ cs fun e u' w'=>u' =(recM u).2∧(∃x,e=.returned x)∧∃Z' μ' g' h',K h'∧Sim Z' μ' h' g' w'∧Tr Z μ h g w Z' μ' h' g' w'))
   [1] (({ tmps:=cargs++Array.replicate (fn.ntmps - cargs.size) undef,defers:=[] } : Act).put (some d) rv) cs' w:=by
  rintro cs' rv rfl rfl
  have T1:=put_rel (ca:={ tmps:=cargs++Array.replicate (fn.ntmps - cargs.size) undef,defers:=[] }) (d:=some d) (d':=some d) rfl T0 (fun t ht=>by cases ht;exact hl0) hv
  obtain ⟨z,hz1,hz2⟩:=iev_sound (o:=o₁) hc1 S T1 (r:=v) (by simp[iev,ev,upd_same])
  have hw1:Region.wanted o₁ (yielded ops (({ tmps:=cargs++Array.replicate (fn.ntmps - cargs.size) undef,defers:=[] } : Act).put (some d) (recM u).1).tmps)=true:=by simp[Region.wanted,hg1]
  simp only[wpOpsSIn,ho1,hw1,if_true,hz1]
  refine ⟨fun _ _=>trivial,?_⟩
  show rest.wpSIn _ _ _ _ _ _ _
  refine wpSIn_of_wpIn rfl ?_
  have T2:=put_rel (d:=o₁.dst) (d':=some e₁) (by rw[hd1]) T1 (fun t ht=>by rw[hd1] at ht;cases ht;exact hl1) hz2
  have hok:=(compC_fit hm hy F false) _ _ _ _ ha none rfl Z μ g w _ S T2 (by rw[put_defers,put_defers];simp[DRel])
  refine wpIn_mono hok ?_
  rintro e ca' w' ⟨Z',μ',g',ae,tm',df',h',q,r,S',T',D',t⟩
  have hres0:fn.results = #[]:=Array.size_eq_zero_iff.1 hres
  cases ae with
  | normal=>
    obtain rfl:e=.normal:=r
    obtain ⟨rfl,hk⟩:=q
    exact ⟨by simpa[DRel] using D',_,rfl,.tuple #[],by simp[results,hres0],rfl,⟨_,rfl⟩,Z',μ',g',h',hk,S',t⟩
  | ret=>
    obtain rfl:e=.ret:=r
    obtain ⟨rfl,hk⟩:=q
    exact ⟨by simpa[DRel] using D',_,rfl,.tuple #[],by simp[results,hres0],rfl,⟨_,rfl⟩,Z',μ',g',h',hk,S',t⟩
  | exit _=>exact q.elim
  | panic _=>exact q.elim
 have hw0:Region.wanted o₀ (yielded ops (cargs++Array.replicate (fn.ntmps - cargs.size) undef))=true:=by simp[Region.wanted,hg0]
 rw[wpOpsSIn]
 simp only[ho0,hw0,if_true,exec_recov hc0]
 refine ⟨fun _ _=>trivial,?_⟩
 rw[hd0]
 cases hx:recoverD (c₀::cs) with
 | none=>
   rw[hx] at rm
   simp only[Prod.mk.injEq] at rm
   simp only[]
   exact main _ _ rm.1 rm.2
 | some z=>
   obtain ⟨rv,cs'⟩:=z
   rw[hx] at rm
   simp only[Prod.mk.injEq] at rm
   simp only[]
   exact main _ _ rm.1 rm.2
def RetB (P:Program) (rs:List RV) (K:AEnd→Heap→Prop) (v:AVal) (tm:TM) (df:DF) (h:Heap):Prop:=
 ∃fa p,df=[(.func (.func fa) [] [],[p])]∧AAns P fa v p h fun h'=>osat (aRes rs tm h') (RetV K h')
def RetA (P:Program) (rs:List RV) (K:AEnd→Heap→Prop):Post
 | .normal,tm,df,h=>TakeK (RetB P rs K .nili tm) df h
 | .ret,tm,df,h=>TakeK (RetB P rs K .nili tm) df h
 | .panic v,tm,df,h=>TakeK (RetB P rs K v tm) df h
 | .exit _,_,_,_=>False
section
variable (rs : List RV) (K:AEnd→Heap→Prop) (tm:TM) (df:DF) (h:Heap)
end
theorem RetA.normal {rs:List RV} {K:AEnd→Heap→Prop} {tm:TM} {df:DF} {h:Heap} {fa:FuncId} {p:AVal} (hd:df=[(.func (.func fa) [] [],[p])]) (a:AAns P fa .nili p h fun h'=>osat (aRes rs tm h') (RetV K h')):RetA P rs K .normal tm df h:=by
 subst hd;exact ⟨fa,p,rfl,a⟩
theorem RetA.ret {rs:List RV} {K:AEnd→Heap→Prop} {tm:TM} {df:DF} {h:Heap} {fa:FuncId} {p:AVal} (hd:df=[(.func (.func fa) [] [],[p])]) (a:AAns P fa .nili p h fun h'=>osat (aRes rs tm h') (RetV K h')):RetA P rs K .ret tm df h:=by
 subst hd;exact ⟨fa,p,rfl,a⟩
theorem RetA.panic {rs:List RV} {K:AEnd→Heap→Prop} {tm:TM} {df:DF} {h:Heap} {fa:FuncId} {v p:AVal} (hd:df=[(.func (.func fa) [] [],[p])]) (a:AAns P fa v p h fun h'=>osat (aRes rs tm h') (RetV K h')):RetA P rs K (.panic v) tm df h:=by
 subst hd;exact ⟨fa,p,rfl,a⟩
theorem ACalls.of_body_ans {f:FuncId} {fn:Func} {c:Code} {args:List AVal} {h:Heap} {K:AEnd→Heap→Prop} (hf:P.funcs[f]? = some fn) (hn :(fn.name == "runtime.NumGoroutine")=false) (hb:fn.body=some c)
 {F:Nat} {kp:List Nat} {x:IR} {rs:List RV} (hfit:Fit ⟨P,F,fn.ntmps,false,kp⟩ c x) (hl:args.length≤fn.ntmps) (hrs:compRVs P fn.results.toList=some rs)
 (a:AW ⟨P,F,fn.ntmps,false,kp⟩ x (RetA P rs K) (initT args) [] h):ACalls P f args h K:=by
 refine ⟨⟨fn,c,hf,hn,hb⟩,fun Z μ g w cargs S hsz hv=>?_⟩
 refine callsIn_wide (n:=0).1 (callsIn_of_wp_marks hf hb trivial ?_ rfl)
 have T:TRel Z μ g fn.ntmps (initT args) (cargs++Array.replicate (fn.ntmps - cargs.size) undef):=by
  refine ⟨by simp;omega,fun t=>?_⟩
  simp only[initT]
  by_cases ht:t<args.length
  ·rw[List.getElem?_eq_getElem ht,Option.getD_some]
   obtain ⟨v,hv1,hv2⟩:=VPre.get hv (List.getElem?_eq_getElem ht)
   have :(cargs++Array.replicate (fn.ntmps - cargs.size) undef).getD t undef=v:=by
    rw[Array.getElem?_toList] at hv1
    rw[Array.getD_eq_getD_getElem?,Array.getElem?_append_left (by omega),hv1];rfl
   rw[this];exact hv2
  ·rw[List.getElem?_eq_none (by omega),Option.getD_none]
   have :(cargs++Array.replicate (fn.ntmps - cargs.size) undef).getD t undef=undef:=by
    rw[Array.getD_eq_getD_getElem?,Array.getElem?_append_right (by omega),Array.getElem?_replicate]
    split<;>rfl
   rw[this];exact undef_rel
 refine wpIn_mono (hfit _ _ _ _ a none rfl Z μ g w { tmps:=_,defers:=[] } S T (by simp[DRel])) ?_
 rintro e ca' w' ⟨Z',μ',g',ae,tm',df',h',q,r,S',T',D',t⟩
 have fin:∀(u:FrameMode) (v:AVal),u≠.run→settle (recM u).2=.returning→VRel Z' μ' g' v (recM u).1→TakeK (RetB P rs K v tm') df' h'→
  LeavesInM (Fw none) 0 P fn ca'.tmps (OutC K Z μ h g w) ca'.defers u w':=by
  intro u v hur hset hvr hk
  refine take_sound hur S' D' hk fun df₁ ds₁ Z₁ μ₁ h₁ g₁ w₁ hk₁ S₁ D₁ t₁=>?_
  obtain ⟨fa,p,rfl,ha⟩:=hk₁
  replace hvr:=VRel.mono t₁.ext _ _ hvr
  simp only[DRel] at D₁
  obtain ⟨fn',f',c',args',ds',hvf,h1,h2,hds,rfl⟩:=D₁
  simp only[VRel] at hvf
  obtain ⟨_,f'',c'',hfe,h3,h4,h5,h6⟩:=hvf
  cases hfe
  obtain rfl:f' = #[]:=Array.size_eq_zero_iff.1 (by simpa using h3)
  obtain rfl:c' = #[]:=Array.size_eq_zero_iff.1 (by simpa using h4)
  rw[hds]
  have hinv :(invoke (.fn (.func fa) #[]) (#[]++args')).run P w₁=.ok (.enter fa args') w₁:=by
   simp only[invoke]
   have:=Calls.enters ha.1 args' w₁
   simpa using this
  refine ⟨hur,.inr ⟨fun hx=>by simp[Fw] at hx,_,_,_,_,rfl,hinv,fun _ _=>trivial,?_⟩⟩
  refine CallsDIn.mono (ha.2 Z₁ μ₁ g₁ w₁ u args' S₁ (by simpa using h1) h2 hvr) ?_
  rintro e u' w'' ⟨rfl,⟨y,rfl⟩,Z₂,μ₂,g₂,h₂,ho,S₂,t₂⟩
  simp only[hset,LeavesInM,LeavesIn]
  obtain ⟨a,har,v',h'',hvl,hk⟩:=osat_iff.1 ho
  obtain ⟨u₁,hu,hvu⟩:=aRes_sound (P:=P) S₂ ((T'.mono t₁.ext).mono t₂.ext) hrs har
  obtain ⟨Z₃,μ₃,g₃,S₃,hv₃,t₃⟩:=hvl Z₂ μ₂ g₂ w'' u₁ S₂ hvu
  exact ⟨u₁,hu,Z₃,μ₃,g₃,.ret v',h'',hk,⟨u₁,hv₃,rfl⟩,S₃,((t.trans t₁).trans t₂).trans t₃⟩
 cases ae with
 | normal=>obtain rfl:e=.normal:=r;exact fin .returning .nili (by simp) rfl (by simp[VRel,recM]) q
 | ret=>obtain rfl:e=.ret:=r;exact fin .returning .nili (by simp) rfl (by simp[VRel,recM]) q
 | exit id=>exact q.elim
 | panic v=>
   obtain ⟨y,hy,rfl⟩:=r
   exact fin (.panicking [{ v:=y,recovered:=false }]) v (by simp) (by simp[recM,settle]) (by simpa[recM] using hy) q
theorem ACalls.of_comp_ans (hm:P.follows .mixedOrders=true) {f:FuncId} {fn:Func} {cfg:Cfg} {x:IR} {rs:List RV} {n:Nat} (hf:P.funcs[f]? = some fn) (hc:compF P cfg fn=some (x,rs,n)) {args:List AVal} {h:Heap}
 {K:AEnd→Heap→Prop} {F:Nat} (hl:args.length≤n) (a:AW ⟨P,F,n,false,cfg.keep⟩ x (RetA P rs K) (initT args) [] h):ACalls P f args h K:=by
 unfold compF at hc
 split at hc
 ·cases hc
 ·rename_i hn
  split at hc
  ·rename_i h1 h2
   split at hc
   ·rename_i y h3
    simp only[Option.some.injEq,Prod.mk.injEq] at hc
    obtain ⟨rfl,rfl,rfl⟩:=hc
    exact ACalls.of_body_ans hf (by simpa using hn) h1 (compC_fit hm h3 F false) hl h2 a
   ·cases hc
  ·cases hc
end
end Go.Cw
end
section
namespace Go.Cw
open Go
namespace Sh
@[simp] def Lg (d t:Nat) (b f:Bool) (n x:Nat):Stp:=SG d t b (.load f n (.t x))
@[simp] def Fg (d t:Nat) (b:Bool) (n x:Nat):Stp:=SG d t b (.fAddr n (.t x))
@[simp] def St (n x y:Nat):Stp:=SN (.store n (.t x) (.t y))
@[simp] def Ln (d x:Nat):Stp:=S d (.len (.t x))
@[simp] def Ix (d n x y:Nat):Stp:=S d (.ixS n (.t x) (.t y))
@[simp] def Cl (d:Nat) (f:FuncId) (l:List Opd):Stp:=S d (.call (.c (.func (.func f) [] [])) l)
@[simp] def Cp (d:Nat) (f:FuncId) (l:List Opd):Stp:=SP d (.call (.c (.func (.func f) [] [])) l)
@[simp] def Gp (d t:Nat) (b:Bool) (f:FuncId) (l:List Opd):Stp:=SGP d t b (.call (.c (.func (.func f) [] [])) l)
@[simp] def iz : AVal:=.int .i64 0
end Sh
def q (n:Nat):Ent:=⟨n,false,[],[]⟩
abbrev Rg : Type:=Unit→List Stp
section
variable {P : Program} {f:FuncId} {fn:Func} {cfg:Cfg} {ir:IR} {rs:List RV} {n:Nat}
theorem Entr.ofA (hm:P.follows .mixedOrders=true) (hf:P.funcs[f]? = some fn) (hc:compF P cfg fn=some (ir,rs,n)):Entr P f n cfg.keep ir (RetA P rs):=
 fun _ hl a=>ACalls.of_comp_ans hm hf hc hl a
theorem Entr.p {keep:List Nat} {ret :(AEnd→Heap→Prop)→Post} (e:Entr P f n keep ir ret):Pur P f n keep ir ret:=Pur.of e
end
end Go.Cw
end
