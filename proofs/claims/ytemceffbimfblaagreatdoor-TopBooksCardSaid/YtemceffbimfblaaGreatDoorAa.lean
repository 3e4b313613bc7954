/-
  Abstract values and heaps over the model's worlds, and operations that only look: no program is named here but by numbers of its package variables.
-/
import GoSem.Claim
import Derived.RangeFuncIn
import Derived.RecoverIn
import Derived.OrdersIn
import Derived.WalkKit
import Derived.Laws.BytesString
set_option linter.unusedSectionVars false
set_option linter.unusedSimpArgs false
set_option linter.unusedVariables false
section
namespace Go.Cw
open Go
def strV (l:List UInt8):Value:=.string ⟨l.toArray⟩
def gtab : List (Nat×List Value):=
 [(0,[strV [112],strV [107],strV [115]]),
  (2,[.int .u64 1,.int .u64 10,.int .u64 100,.int .u64 1000,.int .u64 10000,.int .u64 100000,.int .u64 1000000,.int .u64 10000000,.int .u64 100000000,.int .u64 1000000000,
   .int .u64 10000000000,.int .u64 100000000000,.int .u64 1000000000000,.int .u64 10000000000000,.int .u64 100000000000000,.int .u64 1000000000000000,.int .u64 10000000000000000,.int .u64 100000000000000000,.int .u64 1000000000000000000,.int .u64 10000000000000000000])]
def gany : List Nat:=[1]
def bTy : TypeId:=283
def yTy : TypeId:=5
end Go.Cw
end
section
namespace Go.Cw
open Go
inductive Cap where
 | ex (k:Nat)
 | gr (esz:Nat)
 deriving DecidableEq
inductive AVal where
 | any
 | bool (b:Bool)
 | int (k:IntKind) (n:Int)
 | str (s:List UInt8)
 | nilp
 | ptr (r off s:Nat)
 | pv (cells:List AVal)
 | nils
 | es
 | sl (r off s len:Nat) (cap:Cap)
 | vl (n:Nat) (cells:List AVal)
 | nilm
 | map (r s:Nat)
 | func (fn:Fn) (first cap:List AVal)
 | yield (r s:Nat)
 | nilf
 | iface (t:TypeId) (v:AVal)
 | nili
 | agg (cells:List AVal)
 | tup (vs:List AVal)
instance : Inhabited AVal:=⟨.any⟩
structure Loc where
 blk:Nat
 size:Nat
def GOk (f:Nat→Option (List Value)):Prop:=(∀g c,(g,c)∈gtab→f g=some c)∧∀g,g∈gany→∃m:Int,f g=some [.int .i64 m]
structure Snap where
 f:Nat→Option (List Value)
 ok:GOk f
instance : CoeFun Snap fun _=>Nat→Option (List Value):=⟨Snap.f⟩
abbrev Mu :=Nat→Loc
def plainFn : Fn→Bool
 | .yield _=>false
 | _=>true
def One (l:List Value):Prop:=∀v∈l,v.oneCell'=true
theorem One.drop {l:List Value} (k:Nat) (h:One l):One (l.drop k):=fun v hv=>h v (List.mem_of_mem_drop hv)
theorem One.take {l:List Value} (k:Nat) (h:One l):One (l.take k):=fun v hv=>h v (List.mem_of_mem_take hv)
theorem One.append {l m:List Value} (h:One l) (k:One m):One (l++m):=fun v hv=>(List.mem_append.1 hv).elim (h v) (k v)
mutual
def VRel (Z:Snap) (μ:Mu) (g:Nat):AVal→Value→Prop
 | .any,_=>True
 | .bool b,v=>v=.bool b
 | .int k n,v=>v=.int k n
 | .str s,v=>∃b:ByteArray,v=.string b∧b.data.toList=s
 | .nilp,v=>v=.pointer none
 | .ptr _ off s,v=>s≤g∧v=.pointer (some ⟨(μ s).blk,off,none⟩)
 | .pv cells,v=>∃b o c,v=.pointer (some ⟨b,o,none⟩)∧Z b=some c∧VPre Z μ g cells (c.drop o)∧One ((c.drop o).take cells.length)
 | .nils,v=>v=.slice none 0 0
 | .es,v=>∃a,v=.slice a 0 0
 | .sl _ off s len cap,v=>s≤g∧∃cap',v=.slice (some ⟨(μ s).blk,off,none⟩) len cap'∧len≤cap'∧(match cap with | .ex k=>cap'=k | .gr esz=>off+cap'*esz≤(μ s).size)
 | .vl n cells,v=>∃a cap',v=.slice a n cap'∧n≤cap'∧(n=0∨∃b o c,a=some ⟨b,o,none⟩∧Z b=some c∧VPre Z μ g cells (c.drop o)∧One ((c.drop o).take cells.length))
 | .nilm,v=>v=.map none
 | .map _ s,v=>s≤g∧v=.map (some (μ s).blk)
 | .func fn first cap,v=>plainFn fn=true∧∃f' c':Array Value,v=.func fn f' c'∧f'.size=first.length∧c'.size=cap.length∧VPre Z μ g first f'.toList∧VPre Z μ g cap c'.toList
 | .yield _ s,v=>s≤g∧v=.func (.yield (μ s).blk) #[] #[]
 | .nilf,v=>v=.nilFunc
 | .iface t a,v=>∃v',v=.iface t v'∧VRel Z μ g a v'
 | .nili,v=>v=.nilIface
 | .agg cs,v=>∃l:Array Value,v=.agg l∧l.size=cs.length∧VPre Z μ g cs l.toList∧One l.toList
 | .tup vs,v=>∃l:Array Value,v=.tuple l∧l.size=vs.length∧VPre Z μ g vs l.toList
def VPre (Z:Snap) (μ:Mu) (g:Nat):List AVal→List Value→Prop
 | [],_=>True
 | _::_,[]=>False
 | a::as,v::vs=>VRel Z μ g a v∧VPre Z μ g as vs
end
structure Ext (Z:Snap) (μ:Mu) (g:Nat) (Z':Snap) (μ':Mu) (g':Nat):Prop where
 imm:∀b c,Z b=some c→Z' b=some c
 loc:∀s,s≤g→μ' s=μ s
 cnt:g≤g'
theorem Ext.refl (Z:Snap) (μ:Mu) (g:Nat):Ext Z μ g Z μ g:=⟨fun _ _ h=>h,fun _ _=>rfl,Nat.le_refl _⟩
theorem Ext.trans {Z₁ Z₂ Z₃:Snap} {μ₁ μ₂ μ₃:Mu} {g₁ g₂ g₃:Nat} (h:Ext Z₁ μ₁ g₁ Z₂ μ₂ g₂) (k:Ext Z₂ μ₂ g₂ Z₃ μ₃ g₃):Ext Z₁ μ₁ g₁ Z₃ μ₃ g₃:=
 ⟨fun b c hb=>k.imm b c (h.imm b c hb),fun s hs=>(k.loc s (Nat.le_trans hs h.cnt)).trans (h.loc s hs),Nat.le_trans h.cnt k.cnt⟩
section mono
variable {Z Z':Snap} {μ μ':Mu} {g g':Nat} (e:Ext Z μ g Z' μ' g')
include e
mutual
theorem VRel.mono : ∀(a:AVal) (v:Value),VRel Z μ g a v→VRel Z' μ' g' a v
 | .any,_,_=>by simp[VRel]
 | .bool _,_,h=>by simpa[VRel] using h
 | .int _ _,_,h=>by simpa[VRel] using h
 | .str _,_,h=>by simpa[VRel] using h
 | .nilp,_,h=>by simpa[VRel] using h
 | .ptr _ _ s,_,h=>by
   simp only[VRel] at h ⊢
   exact ⟨Nat.le_trans h.1 e.cnt,by rw[e.loc s h.1];exact h.2⟩
 | .pv cells,_,h=>by
   simp only[VRel] at h ⊢
   obtain ⟨b,o,c,h1,h2,h3,h4⟩:=h
   exact ⟨b,o,c,h1,e.imm b c h2,VPre.mono cells _ h3,h4⟩
 | .nils,_,h=>by simpa[VRel] using h
 | .es,_,h=>by simpa[VRel] using h
 | .sl _ _ s _ _,_,h=>by
   simp only[VRel] at h ⊢
   exact ⟨Nat.le_trans h.1 e.cnt,by rw[e.loc s h.1];exact h.2⟩
 | .vl n cells,_,h=>by
   simp only[VRel] at h ⊢
   obtain ⟨a,cap',h1,h2,h3⟩:=h
   refine ⟨a,cap',h1,h2,h3.imp id ?_⟩
   rintro ⟨b,o,c,h4,h5,h6,h7⟩
   exact ⟨b,o,c,h4,e.imm b c h5,VPre.mono cells _ h6,h7⟩
 | .nilm,_,h=>by simpa[VRel] using h
 | .map _ s,_,h=>by
   simp only[VRel] at h ⊢
   exact ⟨Nat.le_trans h.1 e.cnt,by rw[e.loc s h.1];exact h.2⟩
 | .func _ first cap,_,h=>by
   simp only[VRel] at h ⊢
   obtain ⟨hp,f',c',h1,h2,h3,h4,h5⟩:=h
   exact ⟨hp,f',c',h1,h2,h3,VPre.mono first _ h4,VPre.mono cap _ h5⟩
 | .yield _ s,_,h=>by
   simp only[VRel] at h ⊢
   exact ⟨Nat.le_trans h.1 e.cnt,by rw[e.loc s h.1];exact h.2⟩
 | .nilf,_,h=>by simpa[VRel] using h
 | .iface _ a,_,h=>by
   simp only[VRel] at h ⊢
   obtain ⟨v',h1,h2⟩:=h
   exact ⟨v',h1,VRel.mono a v' h2⟩
 | .nili,_,h=>by simpa[VRel] using h
 | .agg cs,_,h=>by
   simp only[VRel] at h ⊢
   obtain ⟨l,h1,h2,h3,h4⟩:=h
   exact ⟨l,h1,h2,VPre.mono cs _ h3,h4⟩
 | .tup vs,_,h=>by
   simp only[VRel] at h ⊢
   obtain ⟨l,h1,h2,h3⟩:=h
   exact ⟨l,h1,h2,VPre.mono vs _ h3⟩
theorem VPre.mono : ∀(as:List AVal) (vs:List Value),VPre Z μ g as vs→VPre Z' μ' g' as vs
 | [],_,_=>by simp[VPre]
 | _::_,[],h=>by simp[VPre] at h
 | a::as,v::vs,h=>by
   simp only[VPre] at h ⊢
   exact ⟨VRel.mono a v h.1,VPre.mono as vs h.2⟩
end
end mono
section pre
variable {Z : Snap} {μ:Mu} {g:Nat}
theorem VPre_nil (vs:List Value):VPre Z μ g [] vs:=by simp[VPre]
theorem VPre_cons {a:AVal} {as:List AVal} {v:Value} {vs:List Value} : VPre Z μ g (a::as) (v::vs)↔VRel Z μ g a v∧VPre Z μ g as vs:=by simp[VPre]
theorem VPre.len : ∀{as:List AVal} {vs:List Value},VPre Z μ g as vs→as.length≤vs.length
 | [],_,_=>by simp
 | _::_,[],h=>by simp[VPre] at h
 | a::as,v::vs,h=>by
   simp only[VPre] at h
   simpa using h.2.len
theorem VPre.get : ∀{as:List AVal} {vs:List Value} {i:Nat} {a:AVal},VPre Z μ g as vs→as[i]? = some a→∃v,vs[i]? = some v∧VRel Z μ g a v
 | [],_,_,_,_,hi=>by simp at hi
 | _::_,[],_,_,h,_=>by simp[VPre] at h
 | a::as,v::vs,0,b,h,hi=>by
   simp only[VPre] at h
   simp at hi
   subst hi
   exact ⟨v,rfl,h.1⟩
 | a::as,v::vs,i+1,b,h,hi=>by
   simp only[VPre] at h
   simp only[List.getElem?_cons_succ] at hi ⊢
   exact h.2.get hi
theorem VPre.of_get : ∀{as:List AVal} {vs:List Value},(∀(i:Nat) a,as[i]? = some a→∃v,vs[i]? = some v∧VRel Z μ g a v)→VPre Z μ g as vs
 | [],_,_=>by simp[VPre]
 | a::as,[],h=>by
   obtain ⟨v,hv,_⟩:=h 0 a rfl
   simp at hv
 | a::as,v::vs,h=>by
   simp only[VPre]
   refine ⟨?_,VPre.of_get fun i b hb=>by simpa using h (i+1) b (by simpa using hb)⟩
   obtain ⟨v',hv,hr⟩:=h 0 a rfl
   simp at hv
   subst hv
   exact hr
theorem VPre_iff {as:List AVal} {vs:List Value} : VPre Z μ g as vs↔∀(i:Nat) a,as[i]? = some a→∃v,vs[i]? = some v∧VRel Z μ g a v:=
 ⟨fun h _ _ hi=>h.get hi,VPre.of_get⟩
theorem VPre.drop {as:List AVal} {vs:List Value} (k:Nat) (h:VPre Z μ g as vs):VPre Z μ g (as.drop k) (vs.drop k):=by
 rw[VPre_iff] at h ⊢
 intro i a hi
 simp only[List.getElem?_drop] at hi ⊢
 exact h _ _ hi
theorem VPre.take {as:List AVal} {vs:List Value} (k:Nat) (h:VPre Z μ g as vs):VPre Z μ g (as.take k) (vs.take k):=by
 rw[VPre_iff] at h ⊢
 intro i a hi
 simp only[List.getElem?_take] at hi ⊢
 by_cases hik:i<k
 ·simp only[hik,if_true] at hi ⊢
  exact h _ _ hi
 ·simp[hik] at hi
theorem VPre.take_left {as:List AVal} {vs:List Value} (k:Nat) (h:VPre Z μ g as vs):VPre Z μ g (as.take k) vs:=by
 rw[VPre_iff] at h ⊢
 intro i a hi
 simp only[List.getElem?_take] at hi
 by_cases hik:i<k
 ·simp only[hik,if_true] at hi
  exact h _ _ hi
 ·simp[hik] at hi
theorem VPre.append {as bs:List AVal} {vs us:List Value} (h:VPre Z μ g as vs) (hl:vs.length=as.length) (k:VPre Z μ g bs us):VPre Z μ g (as++bs) (vs++us):=by
 rw[VPre_iff] at h k ⊢
 intro i a hi
 rw[List.getElem?_append] at hi ⊢
 rw[hl]
 split at hi
 ·rename_i hlt;rw[if_pos hlt];exact h _ _ hi
 ·rename_i hlt;rw[if_neg hlt];exact k _ _ hi
theorem VPre.more {as:List AVal} {vs:List Value} (us:List Value) (h:VPre Z μ g as vs):VPre Z μ g as (vs++us):=by
 rw[VPre_iff] at h ⊢
 intro i a hi
 obtain ⟨v,hv,hr⟩:=h i a hi
 exact ⟨v,by rw[List.getElem?_append,if_pos (List.getElem?_eq_some_iff.1 hv).1];exact hv,hr⟩
theorem VPre.set {as:List AVal} {vs:List Value} {a:AVal} {v:Value} (i:Nat) (h:VPre Z μ g as vs) (ha:VRel Z μ g a v):VPre Z μ g (as.set i a) (vs.set i v):=by
 rw[VPre_iff] at h ⊢
 intro j b hj
 rw[List.getElem?_set] at hj ⊢
 by_cases hij:i=j
 ·subst hij
  simp only[if_true] at hj ⊢
  split at hj
  ·rename_i hlt
   have:i<vs.length:=by
    obtain ⟨v',hv',_⟩:=h i as[i] (List.getElem?_eq_getElem hlt)
    exact (List.getElem?_eq_some_iff.1 hv').1
   simp only[this,if_true]
   obtain rfl:a=b:=by simpa using hj
   exact ⟨v,rfl,ha⟩
  ·simp at hj
 ·simp only[hij,if_false] at hj ⊢
  exact h _ _ hj
theorem VPre_replicate_any (n:Nat) (vs:List Value) (h:n≤vs.length):VPre Z μ g (List.replicate n .any) vs:=by
 rw[VPre_iff]
 intro i a hi
 rw[List.getElem?_replicate] at hi
 split at hi
 ·rename_i hlt
  obtain rfl:AVal.any=a:=by simpa using hi
  exact ⟨vs[i]'(by omega),List.getElem?_eq_getElem _,by simp[VRel]⟩
 ·simp at hi
end pre
inductive AObj where
 | dead
 | row (cells:List AVal) (s:Nat)
 | map (es:List (AVal×AVal)) (s:Nat)
 | iter (m:Option (Nat×Nat)) (n:Nat) (left:List Nat) (cur:Option Nat) (s:Nat)
 | loop (st:LoopState) (pending:Option Code) (fn:FuncId) (tm:Nat→AVal) (nt:Nat) (params:List Tmp) (assign body:Code) (dfr:Nat) (s:Nat)
 | dfr (taken:Bool) (s:Nat)
 | bst (b:Option Nat) (n:Nat) (s:Nat)
 | bby (bs:List UInt8) (s:Nat)
def AObj.stamp : AObj→Option Nat
 | .dead=>none
 | .row _ s | .map _ s | .iter _ _ _ _ s | .loop _ _ _ _ _ _ _ _ _ s | .dfr _ s | .bst _ _ s | .bby _ s=>some s
abbrev Heap :=Nat→AObj
def upd {α:Type} (f:Nat→α) (i:Nat) (x:α):Nat→α:=fun j=>if j=i then x else f j
theorem upd_same {α:Type} (f:Nat→α) (i:Nat) (x:α):upd f i x i=x:=by simp[upd]
theorem upd_ne {α:Type} (f:Nat→α) {i j:Nat} (x:α) (h:¬j=i):upd f i x j=f j:=by simp[upd,h]
theorem upd_upd {α:Type} (f:Nat→α) (i:Nat) (x y:α):upd (upd f i x) i y=upd f i y:=by
 funext j;simp only[upd];split<;>rfl
theorem upd_self {α:Type} (f:Nat→α) (i:Nat):upd f i (f i)=f:=by
 funext j;simp only[upd];split
 ·rename_i h;rw[h]
 ·rfl
theorem upd_comm {α:Type} (f:Nat→α) {i j:Nat} (x y:α) (h:i≠j):upd (upd f i x) j y=upd (upd f j y) i x:=by
 funext k;simp only[upd];split<;>split<;>simp_all
def TRel (Z:Snap) (μ:Mu) (g:Nat) (n:Nat) (tm:Nat→AVal) (tmps:Array Value):Prop:=
 tmps.size=n∧∀t,VRel Z μ g (tm t) (tmps.getD t undef)
theorem TRel.mono {Z Z':Snap} {μ μ':Mu} {g g' n:Nat} (e:Ext Z μ g Z' μ' g') {tm:Nat→AVal} {tmps:Array Value} (h:TRel Z μ g n tm tmps):TRel Z' μ' g' n tm tmps:=
 ⟨h.1,fun t=>VRel.mono e _ _ (h.2 t)⟩
theorem TRel.put {Z:Snap} {μ:Mu} {g n:Nat} {tm:Nat→AVal} {tmps:Array Value} {a:AVal} {v:Value} (t:Nat) (ht:t<n) (h:TRel Z μ g n tm tmps) (ha:VRel Z μ g a v) :
 TRel Z μ g n (upd tm t a) (tmps.setIfInBounds t v):=by
 obtain ⟨h1,h2⟩:=h
 refine ⟨by simpa using h1,fun j=>?_⟩
 have hj:=h2 j
 by_cases hjt:j=t
 ·subst hjt
  rw[upd_same]
  have :(tmps.setIfInBounds j v).getD j undef=v:=by simp[Array.getD,h1,ht]
  rw[this];exact ha
 ·rw[upd_ne _ _ hjt]
  have :(tmps.setIfInBounds t v).getD j undef=tmps.getD j undef:=by
   simp only[Array.getD_eq_getD_getElem?]
   rw[Array.getElem?_setIfInBounds_ne (by omega)]
  rw[this];exact hj
def tyLim : Nat:=600
abbrev Ty :={e:TypeId // e<tyLim}
def ORel (Z:Snap) (μ:Mu) (g:Nat) (w:World):AObj→Prop
 | .dead=>True
 | .row cells s=>s≤g∧∃(c:Array Value) (elem:Ty),w.heap[(μ s).blk]? = some (.cells c elem.1 (0,0))∧c.size =(μ s).size∧VPre Z μ g cells c.toList∧One (c.toList.take cells.length)
 | .map es s=>s≤g∧∃en:Array MapEntry,w.heap[(μ s).blk]? = some (.map en es.length)∧en.size=es.length∧
    ∀(i:Nat) (k v:AVal),es[i]? = some (k,v)→∃e,en[i]? = some e∧e.born=i∧VRel Z μ g k e.key∧VRel Z μ g v e.val
 | .iter m n left cur s=>s≤g∧match m with
    | none=>w.heap[(μ s).blk]? = some (.mapIter none 0 #[] 0)
    | some (_,s')=>s'≤g∧∃seen:Array Nat,w.heap[(μ s).blk]? = some (.mapIter (some (μ s').blk) n seen n)∧
       seen.back? = cur∧left.Nodup∧(∀i∈left,i<n)∧∀i,i<n→(seen.contains i = !left.contains i)
 | .loop st pending fn tm nt params assign body dfr s=>s≤g∧∃tmps:Array Value,TRel Z μ g nt tm tmps∧dfr≤g∧
    w.heap[(μ s).blk]? = some (.loop { state:=st,pending,fn,tmps,params:=params.toArray,assign,body,defers:=(μ dfr).blk })
 | .dfr taken s=>s≤g∧w.heap[(μ s).blk]? = some (.deferred (if taken then none else some []))
 | .bst b n s=>s≤g∧∃p u:Value,w.heap[(μ s).blk]? = some (.cells #[p,u] bTy (0,0))∧(p=.pointer none∨p=.pointer (some ⟨(μ s).blk,0,none⟩))∧match b with
    | none=>n=0∧u=.slice none 0 0
    | some s'=>s'≤g∧u=.slice (some ⟨(μ s').blk,0,none⟩) n (μ s').size
 | .bby bs s=>s≤g∧∃c:Array Value,w.heap[(μ s).blk]? = some (.cells c yTy (0,0))∧c.size =(μ s).size∧c.size≤maxLen∧bs.length≤c.size∧c.toList.take bs.length=bs.map fun x=>Value.int .u8 x.toNat
theorem ORel.mono {Z Z':Snap} {μ μ':Mu} {g g':Nat} {w w':World} (e:Ext Z μ g Z' μ' g') {o:AObj}
 (hw:∀s,o.stamp=some s→w'.heap[(μ s).blk]? = w.heap[(μ s).blk]?) (h:ORel Z μ g w o):ORel Z' μ' g' w' o:=by
 cases o with
 | dead=>simp[ORel]
 | row cells s=>
   simp only[ORel] at h ⊢
   obtain ⟨hs,c,elem,h1,h2,h3,h4⟩:=h
   refine ⟨Nat.le_trans hs e.cnt,c,elem,?_,?_,VPre.mono e _ _ h3,h4⟩
   ·rw[e.loc s hs,hw s rfl];exact h1
   ·rw[e.loc s hs];exact h2
 | map es s=>
   simp only[ORel] at h ⊢
   obtain ⟨hs,en,h1,h2,h3⟩:=h
   refine ⟨Nat.le_trans hs e.cnt,en,?_,h2,fun i k v hi=>?_⟩
   ·rw[e.loc s hs,hw s rfl];exact h1
   ·obtain ⟨x,hx,hb,hk,hv⟩:=h3 i k v hi
    exact ⟨x,hx,hb,VRel.mono e _ _ hk,VRel.mono e _ _ hv⟩
 | iter m n left cur s=>
   simp only[ORel] at h ⊢
   obtain ⟨hs,h⟩:=h
   refine ⟨Nat.le_trans hs e.cnt,?_⟩
   rw[e.loc s hs,hw s rfl]
   cases m with
   | none=>exact h
   | some x=>
     obtain ⟨hs',seen,h1,h2⟩:=h
     refine ⟨Nat.le_trans hs' e.cnt,seen,?_,h2⟩
     rw[e.loc _ hs'];exact h1
 | loop st pending fn tm nt params assign body dfr s=>
   simp only[ORel] at h ⊢
   obtain ⟨hs,tmps,h1,h2,h3⟩:=h
   refine ⟨Nat.le_trans hs e.cnt,tmps,h1.mono e,Nat.le_trans h2 e.cnt,?_⟩
   rw[e.loc s hs,e.loc _ h2,hw s rfl];exact h3
 | dfr taken s=>
   simp only[ORel] at h ⊢
   obtain ⟨hs,h1⟩:=h
   refine ⟨Nat.le_trans hs e.cnt,?_⟩
   rw[e.loc s hs,hw s rfl];exact h1
 | bst b n s=>
   simp only[ORel] at h ⊢
   obtain ⟨hs,p,u,h1,h2,h3⟩:=h
   refine ⟨Nat.le_trans hs e.cnt,p,u,?_,?_,?_⟩
   ·rw[e.loc s hs,hw s rfl];exact h1
   ·rw[e.loc s hs];exact h2
   ·cases b with
    | none=>exact h3
    | some s'=>
      obtain ⟨h4,h5⟩:=h3
      exact ⟨Nat.le_trans h4 e.cnt,by rw[e.loc s' h4];exact h5⟩
 | bby bs s=>
   simp only[ORel] at h ⊢
   obtain ⟨hs,c,h1,h2,h3⟩:=h
   refine ⟨Nat.le_trans hs e.cnt,c,?_,?_,h3⟩
   ·rw[e.loc s hs,hw s rfl];exact h1
   ·rw[e.loc s hs];exact h2
structure Sim (Z:Snap) (μ:Mu) (h:Heap) (g:Nat) (w:World):Prop where
 rows:∀r,ORel Z μ g w (h r)
 inj:∀r r' s s',(h r).stamp=some s→(h r').stamp=some s'→r≠r'→(μ s).blk≠(μ s').blk
 imm:∀b c,Z b=some c→∃arr elem fr,w.heap[b]? = some (.cells arr elem fr)∧arr.toList=c
 sep:∀r s,(h r).stamp=some s→Z (μ s).blk=none
def SEnv (w w':World):Prop:=w'.os=w.os∧w'.output=w.output
structure Tr (Z:Snap) (μ:Mu) (h:Heap) (g:Nat) (w:World) (Z':Snap) (μ':Mu) (h':Heap) (g':Nat) (w':World):Prop where
 ext:Ext Z μ g Z' μ' g'
 size:w.heap.size≤w'.heap.size
 frame:∀b,b<w.heap.size→(∀r s,(h r).stamp=some s→(μ s).blk≠b)→w'.heap[b]? = w.heap[b]?
 wr:∀r s,(h' r).stamp=some s→(μ' s).blk<w.heap.size→∃r₀ s₀,(h r₀).stamp=some s₀∧(μ s₀).blk =(μ' s).blk
 imm:∀b c,Z' b=some c→b<w.heap.size→Z b=some c∨∃r s,(h r).stamp=some s∧(μ s).blk=b
 env:SEnv w w'
theorem ORel.lt {Z:Snap} {μ:Mu} {g:Nat} {w:World} {o:AObj} {s:Nat} (h:ORel Z μ g w o) (hs:o.stamp=some s):s≤g∧(μ s).blk<w.heap.size:=by
 have key:∀{x:Obj},w.heap[(μ s).blk]? = some x→(μ s).blk<w.heap.size:=fun hx=>(Array.getElem?_eq_some_iff.1 hx).1
 cases o<;>simp only[AObj.stamp] at hs<;>first|cases hs;done|skip
 all_goals simp only[Option.some.injEq] at hs
 all_goals subst hs
 all_goals simp only[ORel] at h
 ·exact ⟨h.1,key h.2.choose_spec.choose_spec.1⟩
 ·exact ⟨h.1,key h.2.choose_spec.1⟩
 ·rename_i m n left cur s
  cases m with
  | none=>exact ⟨h.1,key h.2⟩
  | some x=>obtain ⟨h1,h2,seen,h3,_⟩:=h;exact ⟨h1,key h3⟩
 ·obtain ⟨h1,tmps,_,_,h3⟩:=h;exact ⟨h1,key h3⟩
 ·exact ⟨h.1,key h.2⟩
 ·obtain ⟨h1,p,u,h2,_⟩:=h;exact ⟨h1,key h2⟩
 ·obtain ⟨h1,c,h2,_⟩:=h;exact ⟨h1,key h2⟩
theorem Sim.lt {Z:Snap} {μ:Mu} {h:Heap} {g:Nat} {w:World} (S:Sim Z μ h g w) {r s:Nat} (hs :(h r).stamp=some s):s≤g∧(μ s).blk<w.heap.size:=
 (S.rows r).lt hs
theorem Tr.refl {Z:Snap} {μ:Mu} {h:Heap} {g:Nat} {w:World} : Tr Z μ h g w Z μ h g w:=
 ⟨Ext.refl _ _ _,Nat.le_refl _,fun _ _ _=>rfl,fun r s hs _=>⟨r,s,hs,rfl⟩,fun _ _ hb _=>.inl hb,rfl,rfl⟩
theorem Tr.trans {Z₁ Z₂ Z₃:Snap} {μ₁ μ₂ μ₃:Mu} {h₁ h₂ h₃:Heap} {g₁ g₂ g₃:Nat} {w₁ w₂ w₃:World}
 (a:Tr Z₁ μ₁ h₁ g₁ w₁ Z₂ μ₂ h₂ g₂ w₂) (b:Tr Z₂ μ₂ h₂ g₂ w₂ Z₃ μ₃ h₃ g₃ w₃):Tr Z₁ μ₁ h₁ g₁ w₁ Z₃ μ₃ h₃ g₃ w₃:=by
 have back:∀{x:Nat},x<w₁.heap.size→(∃r s,(h₂ r).stamp=some s∧(μ₂ s).blk=x)→∃r s,(h₁ r).stamp=some s∧(μ₁ s).blk=x:=by
  rintro x hx ⟨r,s,hs,rfl⟩
  exact a.wr r s hs hx
 refine ⟨a.ext.trans b.ext,Nat.le_trans a.size b.size,fun x hx hn=>?_,fun r s hs hx=>?_,fun x c hc hx=>?_,b.env.1.trans a.env.1,b.env.2.trans a.env.2⟩
 ·rw[b.frame x (Nat.lt_of_lt_of_le hx a.size),a.frame x hx hn]
  intro r s hs he
  obtain ⟨r₀,s₀,hs₀,hb₀⟩:=back hx ⟨r,s,hs,he⟩
  exact hn r₀ s₀ hs₀ hb₀
 ·obtain ⟨r₀,s₀,hs₀,hb₀⟩:=b.wr r s hs (Nat.lt_of_lt_of_le hx a.size)
  obtain ⟨r₁,s₁,hs₁,hb₁⟩:=a.wr r₀ s₀ hs₀ (by rw[hb₀];exact hx)
  exact ⟨r₁,s₁,hs₁,hb₁.trans hb₀⟩
 ·rcases b.imm x c hc (Nat.lt_of_lt_of_le hx a.size) with h|h
  ·exact a.imm x c h hx
  ·exact .inr (back hx h)
def HLe (h h':Heap):Prop:=∀r,h r=h' r∨h r=.dead
theorem HLe.refl (h:Heap):HLe h h:=fun _=>.inl rfl
theorem HLe.trans {a b c:Heap} (h:HLe a b) (k:HLe b c):HLe a c:=fun r=>by
 rcases h r with e|e
 ·rcases k r with f|f
  ·exact .inl (e.trans f)
  ·exact .inr (e.trans f)
 ·exact .inr e
theorem HLe.stamp {h h':Heap} (e:HLe h h') {r s:Nat} (hs :(h r).stamp=some s) :(h' r).stamp=some s∧h' r=h r:=by
 rcases e r with e|e
 ·exact ⟨by rw[←e];exact hs,e.symm⟩
 ·rw[e] at hs;simp[AObj.stamp] at hs
theorem Sim.weaken {Z:Snap} {μ:Mu} {h h':Heap} {g:Nat} {w:World} (S:Sim Z μ h' g w) (e:HLe h h'):Sim Z μ h g w:=by
 refine ⟨fun r=>?_,fun r r' s s' hs hs' hne=>S.inj r r' s s' (e.stamp hs).1 (e.stamp hs').1 hne,S.imm,fun r s hs=>S.sep r s (e.stamp hs).1⟩
 rcases e r with x|x
 ·rw[x];exact S.rows r
 ·rw[x];simp[ORel]
theorem Tr.weaken {Z:Snap} {μ:Mu} {h:Heap} {g:Nat} {w:World} {Z':Snap} {μ':Mu} {h' h'':Heap} {g':Nat} {w':World}
 (T:Tr Z μ h g w Z' μ' h'' g' w') (e:HLe h' h''):Tr Z μ h g w Z' μ' h' g' w':=
 ⟨T.ext,T.size,T.frame,fun r s hs hx=>T.wr r s (e.stamp hs).1 hx,T.imm,T.env⟩
end Go.Cw
end
section
namespace Go.Cw
open Go
variable {Z : Snap} {μ:Mu} {h:Heap} {g:Nat} {w:World}
theorem Sim.of_heap (S:Sim Z μ h g w) {w':World} (hw:w'.heap=w.heap):Sim Z μ h g w':=
 ⟨fun r=>(S.rows r).mono (Ext.refl _ _ _) (fun _ _=>by rw[hw]),S.inj,fun b c hb=>by rw[hw];exact S.imm b c hb,S.sep⟩
theorem Tr.of_heap {w':World} (hw:w'.heap=w.heap) (he:SEnv w w':=by exact ⟨rfl,rfl⟩):Tr Z μ h g w Z μ h g w':=
 ⟨Ext.refl _ _ _,by rw[hw];exact Nat.le_refl _,fun _ _ _=>by rw[hw],fun r s hs _=>⟨r,s,hs,rfl⟩,fun _ _ hb _=>.inl hb,he⟩
theorem Sim.imm_lt (S:Sim Z μ h g w) {b:Nat} {c:List Value} (hb:Z b=some c):b<w.heap.size:=by
 obtain ⟨arr,elem,fr,h1,_⟩:=S.imm b c hb
 exact (Array.getElem?_eq_some_iff.1 h1).1
theorem Sim.put (S:Sim Z μ h g w) {μ':Mu} {g':Nat} {w':World} (r:Nat) {o:AObj} {s' b₀:Nat} (e:Ext Z μ g Z μ' g') (hs':o.stamp=some s') (hb :(μ' s').blk=b₀)
 (hsz:w.heap.size≤w'.heap.size) (hfr:∀b,b<w.heap.size→b≠b₀→w'.heap[b]? = w.heap[b]?)
 (horig:w.heap.size≤b₀∨∃s,(h r).stamp=some s∧(μ s).blk=b₀) (ho:ORel Z μ' g' w' o) (he:SEnv w w':=by exact ⟨rfl,rfl⟩) :
 Sim Z μ' (upd h r o) g' w'∧Tr Z μ h g w Z μ' (upd h r o) g' w':=by
 have other:∀{r₁ s₁:Nat},r₁≠r→(h r₁).stamp=some s₁→(μ' s₁).blk =(μ s₁).blk∧(μ s₁).blk<w.heap.size∧(μ s₁).blk≠b₀:=by
  intro r₁ s₁ hne hs₁
  obtain ⟨hle,hlt⟩:=S.lt hs₁
  refine ⟨by rw[e.loc _ hle],hlt,?_⟩
  rcases horig with hn|⟨s,hs,hsb⟩
  ·omega
  ·rw[←hsb];exact S.inj r₁ r s₁ s hs₁ hs hne
 refine ⟨⟨fun r₁=>?_,fun r₁ r₂ s₁ s₂ h1 h2 hne=>?_,fun b c hc=>?_,fun r₁ s₁ h1=>?_⟩,⟨e,hsz,fun b hb' hn=>?_,fun r₁ s₁ h1 hlt=>?_,fun _ _ hc _=>.inl hc,he⟩⟩
 ·by_cases hr:r₁=r
  ·subst hr;rw[upd_same];exact ho
  ·rw[upd_ne _ _ hr]
   refine (S.rows r₁).mono e fun s₁ hs₁=>?_
   obtain ⟨_,h2,h3⟩:=other hr hs₁
   exact hfr _ h2 h3
 ·by_cases hr1:r₁=r
  ·subst hr1
   rw[upd_same,hs'] at h1
   obtain rfl:s'=s₁:=by simpa using h1
   have hr2:r₂≠r₁:=fun x=>hne x.symm
   rw[upd_ne _ _ hr2] at h2
   obtain ⟨h3,_,h5⟩:=other hr2 h2
   rw[hb,h3];exact fun x=>h5 x.symm
  ·rw[upd_ne _ _ hr1] at h1
   obtain ⟨h3,_,h5⟩:=other hr1 h1
   by_cases hr2:r₂=r
   ·subst hr2
    rw[upd_same,hs'] at h2
    obtain rfl:s'=s₂:=by simpa using h2
    rw[hb,h3];exact h5
   ·rw[upd_ne _ _ hr2] at h2
    obtain ⟨h6,_,_⟩:=other hr2 h2
    rw[h3,h6];exact S.inj r₁ r₂ s₁ s₂ h1 h2 hne
 ·obtain ⟨arr,elem,fr,h1,h2⟩:=S.imm b c hc
  have hlt:=S.imm_lt hc
  refine ⟨arr,elem,fr,?_,h2⟩
  rw[hfr b hlt ?_];exact h1
  rintro rfl
  rcases horig with hn|⟨s,hs,hsb⟩
  ·omega
  ·have:=S.sep r s hs
   rw[hsb,hc] at this
   cases this
 ·by_cases hr1:r₁=r
  ·subst hr1
   rw[upd_same,hs'] at h1
   obtain rfl:s'=s₁:=by simpa using h1
   rw[hb]
   rcases horig with hn|⟨s,hs,hsb⟩
   ·cases hz:Z b₀ with
    | none=>rfl
    | some c=>have:=S.imm_lt hz;omega
   ·rw[←hsb];exact S.sep r₁ s hs
  ·rw[upd_ne _ _ hr1] at h1
   rw[(other hr1 h1).1];exact S.sep r₁ s₁ h1
 ·refine hfr b hb' ?_
  rintro rfl
  rcases horig with hn'|⟨s,hs,hsb⟩
  ·omega
  ·exact hn r s hs hsb
 ·by_cases hr1:r₁=r
  ·subst hr1
   rw[upd_same,hs'] at h1
   obtain rfl:s'=s₁:=by simpa using h1
   rcases horig with hn|⟨s,hs,hsb⟩
   ·omega
   ·exact ⟨r₁,s,hs,by rw[hsb,hb]⟩
  ·rw[upd_ne _ _ hr1] at h1
   exact ⟨r₁,s₁,h1,(other hr1 h1).1.symm⟩
def Mu.new (μ:Mu) (g:Nat) (l:Loc):Mu:=upd μ (g+1) l
theorem Ext.new (l:Loc):Ext Z μ g Z (Mu.new μ g l) (g+1):=
 ⟨fun _ _ h=>h,fun s hs=>upd_ne _ _ (by omega),by omega⟩
theorem Mu.new_blk (l:Loc):Mu.new μ g l (g+1)=l:=upd_same _ _ _
theorem Sim.alloc (S:Sim Z μ h g w) (r size:Nat) {o:AObj} {ob:Obj} (hs':o.stamp=some (g+1))
 (ho:ORel Z (Mu.new μ g ⟨w.heap.size,size⟩) (g+1) (w.alloc ob) o) :
 Sim Z (Mu.new μ g ⟨w.heap.size,size⟩) (upd h r o) (g+1) (w.alloc ob)∧
  Tr Z μ h g w Z (Mu.new μ g ⟨w.heap.size,size⟩) (upd h r o) (g+1) (w.alloc ob):=by
 refine S.put r (Ext.new _) hs' (by rw[Mu.new_blk]) (by simp) (fun b hb _=>?_) (.inl (Nat.le_refl _)) ho
 simp only[World.alloc]
 rw[Array.getElem?_push_lt hb,Array.getElem?_eq_getElem hb]
theorem alloc_at (ob:Obj) :(w.alloc ob).heap[w.heap.size]? = some ob:=by
 unfold World.alloc
 exact Array.getElem?_push_size
theorem Sim.allocRow (S:Sim Z μ h g w) (r:Nat) {cells:List AVal} {c:Array Value} {elem:TypeId} (hel:elem<tyLim) (hc:VPre Z μ g cells c.toList) (ho:One (c.toList.take cells.length)) :
 Sim Z (Mu.new μ g ⟨w.heap.size,c.size⟩) (upd h r (.row cells (g+1))) (g+1) (w.alloc (.cells c elem))∧
  Tr Z μ h g w Z (Mu.new μ g ⟨w.heap.size,c.size⟩) (upd h r (.row cells (g+1))) (g+1) (w.alloc (.cells c elem)):=by
 refine S.alloc r _ rfl ?_
 simp only[ORel,Mu.new_blk]
 exact ⟨Nat.le_refl _,c,⟨elem,hel⟩,alloc_at _,rfl,VPre.mono (Ext.new _) _ _ hc,ho⟩
def World.putO (w:World) (b:Nat) (o:Obj):World:={ w with heap:=w.heap.setIfInBounds b o }
theorem putO_at {b:Nat} {o o':Obj} (hb:w.heap[b]? = some o') :(World.putO w b o).heap[b]? = some o:=by
 have:=(Array.getElem?_eq_some_iff.1 hb).1
 simp[World.putO,this]
theorem putO_size (b:Nat) (o:Obj) :(World.putO w b o).heap.size=w.heap.size:=by simp[World.putO]
theorem putO_other {b b':Nat} (o:Obj) (hne:b'≠b) :(World.putO w b o).heap[b']? = w.heap[b']?:=by
 simp only[World.putO]
 rw[Array.getElem?_setIfInBounds_ne (by omega)]
theorem Sim.write (S:Sim Z μ h g w) {r s:Nat} {o:AObj} {ob:Obj} (hr :(h r).stamp=some s) (hs:o.stamp=some s)
 (ho:ORel Z μ g (World.putO w (μ s).blk ob) o) :
 Sim Z μ (upd h r o) g (World.putO w (μ s).blk ob)∧Tr Z μ h g w Z μ (upd h r o) g (World.putO w (μ s).blk ob):=
 S.put r (Ext.refl _ _ _) hs rfl (by rw[putO_size];exact Nat.le_refl _) (fun b _ hne=>putO_other _ hne) (.inr ⟨s,hr,rfl⟩) ho
def Snap.add (Z:Snap) (b:Nat) (c:List Value):Snap where
 f x:=(Z x).orElse fun _=>if x=b then some c else none
 ok:=⟨fun g c' h=>by simp[Z.ok.1 g c' h],fun g h=>by
  obtain ⟨m,hm⟩:=Z.ok.2 g h
  exact ⟨m,by simp[hm]⟩⟩
theorem Snap.add_some {b x:Nat} {c d:List Value} (h:Snap.add Z b c x=some d):Z x=some d∨(x=b∧d=c):=by
 have h' :(Z x).orElse (fun _=>if x=b then some c else none)=some d:=h
 cases hz:Z x with
 | some y=>rw[hz] at h';left;simpa using h'
 | none=>
   rw[hz] at h'
   right
   by_cases hx:x=b
   ·simp[hx] at h';exact ⟨hx,h'.symm⟩
   ·simp[hx] at h'
theorem Snap.add_ne {b x:Nat} {c:List Value} (hx:x≠b):Snap.add Z b c x=Z x:=by
 show (Z x).orElse (fun _=>if x=b then some c else none)=Z x
 cases Z x with
 | some y=>rfl
 | none=>simp[hx]
theorem Sim.freeze (S:Sim Z μ h g w) {r s:Nat} {cells:List AVal} (hr:h r=.row cells s) :
 ∃c,Snap.add Z (μ s).blk c (μ s).blk=some c∧VPre Z μ g cells c∧One (c.take cells.length)∧Sim (Snap.add Z (μ s).blk c) μ (upd h r .dead) g w∧Tr Z μ h g w (Snap.add Z (μ s).blk c) μ (upd h r .dead) g w:=by
 have hrow:=S.rows r
 rw[hr] at hrow
 simp only[ORel] at hrow
 obtain ⟨hsg,c,elem,h1,h2,h3,h4⟩:=hrow
 have hst :(h r).stamp=some s:=by rw[hr];rfl
 have hz:=S.sep r s hst
 have e:Ext Z μ g (Snap.add Z (μ s).blk c.toList) μ g:=by
  refine ⟨fun b x hb=>?_,fun _ _=>rfl,Nat.le_refl _⟩
  simp only[Snap.add]
  show (Z b).orElse _=some x
  rw[hb];rfl
 refine ⟨c.toList,by simp[Snap.add,hz],h3,h4,⟨fun r₁=>?_,fun r₁ r₂ s₁ s₂ a b hne=>?_,fun b x hb=>?_,fun r₁ s₁ a=>?_⟩,⟨e,Nat.le_refl _,fun _ _ _=>rfl,fun r₁ s₁ a _=>?_,fun b x hb _=>?_,rfl,rfl⟩⟩
 ·by_cases hx:r₁=r
  ·subst hx;rw[upd_same];simp[ORel]
  ·rw[upd_ne _ _ hx];exact (S.rows r₁).mono e fun _ _=>rfl
 ·have ha :(h r₁).stamp=some s₁:=by
   by_cases hx:r₁=r
   ·subst hx;rw[upd_same] at a;simp[AObj.stamp] at a
   ·rwa [upd_ne _ _ hx] at a
  have hb :(h r₂).stamp=some s₂:=by
   by_cases hx:r₂=r
   ·subst hx;rw[upd_same] at b;simp[AObj.stamp] at b
   ·rwa [upd_ne _ _ hx] at b
  exact S.inj r₁ r₂ s₁ s₂ ha hb hne
 ·rcases Snap.add_some hb with hb|⟨rfl,rfl⟩
  ·exact S.imm b x hb
  ·exact ⟨c,elem,(0,0),h1,rfl⟩
 ·by_cases hx:r₁=r
  ·subst hx;rw[upd_same] at a;simp[AObj.stamp] at a
  ·rw[upd_ne _ _ hx] at a
   rw[Snap.add_ne (S.inj r₁ r s₁ s a hst hx)]
   exact S.sep r₁ s₁ a
 ·by_cases hx:r₁=r
  ·subst hx;rw[upd_same] at a;simp[AObj.stamp] at a
  ·rw[upd_ne _ _ hx] at a;exact ⟨r₁,s₁,a,rfl⟩
 ·rcases Snap.add_some hb with hb|⟨rfl,rfl⟩
  ·exact .inl hb
  ·exact .inr ⟨r,s,hst,rfl⟩
theorem One.drop_take {c:List Value} {n:Nat} (off:Nat) (h:One (c.take n)):One ((c.drop off).take (n - off)):=by
 rw[←List.drop_take];exact h.drop off
theorem VRel_sl_freeze {r off s len:Nat} {cap:Cap} {cells:List AVal} {c:List Value} {v:Value} (h3:VPre Z μ g cells c) (ho:One (c.take cells.length)) (hz:Z (μ s).blk=some c)
 (hv:VRel Z μ g (.sl r off s len cap) v):VRel Z μ g (.vl len (cells.drop off)) v:=by
 simp only[VRel] at hv ⊢
 obtain ⟨_,cap',h1,h2,_⟩:=hv
 exact ⟨_,cap',h1,h2,.inr ⟨_,off,c,rfl,hz,h3.drop off,by rw[List.length_drop];exact ho.drop_take off⟩⟩
theorem VRel_ptr_freeze {r off s:Nat} {cells:List AVal} {c:List Value} {v:Value} (h3:VPre Z μ g cells c) (ho:One (c.take cells.length)) (hz:Z (μ s).blk=some c)
 (hv:VRel Z μ g (.ptr r off s) v):VRel Z μ g (.pv (cells.drop off)) v:=by
 simp only[VRel] at hv ⊢
 exact ⟨_,off,c,hv.2,hz,h3.drop off,by rw[List.length_drop];exact ho.drop_take off⟩
theorem Snap.add_at {b:Nat} (c:List Value) (hz:Z b=none):Snap.add Z b c b=some c:=by simp[Snap.add,hz]
theorem VRel_vl_take {n:Nat} {cells:List AVal} {v:Value} (k:Nat) (hv:VRel Z μ g (.vl n cells) v):VRel Z μ g (.vl n (cells.take k)) v:=by
 simp only[VRel] at hv ⊢
 obtain ⟨a,cap',h1,h2,h3⟩:=hv
 refine ⟨a,cap',h1,h2,h3.imp id ?_⟩
 rintro ⟨b,o,c,h4,h5,h6,h7⟩
 refine ⟨b,o,c,h4,h5,h6.take_left k,?_⟩
 rw[List.length_take]
 have :(c.drop o).take (min k cells.length) =((c.drop o).take cells.length).take k:=by rw[List.take_take]
 rw[this];exact h7.take k
theorem VRel_es_vl {v:Value} (hv:VRel Z μ g .es v):VRel Z μ g (.vl 0 []) v:=by
 simp only[VRel] at hv ⊢
 obtain ⟨a,ha⟩:=hv
 exact ⟨_,_,ha,Nat.le_refl _,.inl trivial⟩
theorem VRel_nils_vl {v:Value} (hv:VRel Z μ g .nils v):VRel Z μ g (.vl 0 []) v:=by
 simp only[VRel] at hv ⊢
 exact ⟨_,_,hv,Nat.le_refl _,.inl trivial⟩
end Go.Cw
end
section
namespace Go.Cw
open Go
inductive Opd where
 | t (n:Nat)
 | c (v:AVal)
def ev (tm:Nat→AVal):Opd→AVal
 | .t n=>tm n
 | .c v=>v
def ofV1 : Value→Option AVal
 | .bool b=>some (.bool b)
 | .int k n=>some (.int k n)
 | .string s=>some (.str s.data.toList)
 | .pointer none=>some .nilp
 | .slice none 0 0=>some .nils
 | .map none=>some .nilm
 | .nilFunc=>some .nilf
 | .nilIface=>some .nili
 | _=>none
def ofVs : List Value→Option (List AVal)
 | []=>some []
 | v::vs=>match ofV1 v,ofVs vs with
   | some a,some as=>some (a::as)
   | _,_=>none
def ofV : Value→Option AVal
 | .agg cs=>(ofVs cs.toList).map .agg
 | v=>ofV1 v
def cOpd : Operand→Option Opd
 | .tmp t=>some (.t t)
 | .const v=>(ofV v).map .c
 | .func f=>some (.c (.func (.func f) [] []))
 | .global g=>((gtab.lookup g).bind ofVs).map fun cs=>.c (.pv cs)
def cOpds : List Operand→Option (List Opd)
 | []=>some []
 | x::xs=>match cOpd x,cOpds xs with
   | some a,some as=>some (a::as)
   | _,_=>none
def cOpdO : Option Operand→Option (Option Opd)
 | none=>some none
 | some x=>(cOpd x).map some
inductive Kd where
 | i
 | b
 | s
inductive NilK where
 | p
 | s
 | m
 | f
 | i
def fineM (P:Program) (t:TypeId) (nm:String):Bool:=match P.info? t with
 | some i=>match i.methods.find? (·.name == nm) with
   | some m=>m.path.toList.isEmpty && (match m.func with
     | some (_,true)=>true
     | some (_,false)=>(match P.underlying t with
       | some (.pointer _)=>false
       | some _=>true
       | none=>false)
     | none=>false)
   | none=>false
 | none=>false
inductive IOp where
 | mv (x:Opd)
 | pick (c x y:Opd)
 | fAddr (off:Nat) (x:Opd)
 | zAddr (x:Opd)
 | fld (agg:Bool) (off n:Nat) (x:Opd)
 | ixA (len esz:Nat) (x i:Opd)
 | ixS (esz:Nat) (x i:Opd)
 | ixV (len esz:Nat) (agg:Bool) (x i:Opd)
 | ixT (x i:Opd)
 | bin (op:BinOp) (x y:Opd)
 | eqB (neg:Bool) (x y:Opd)
 | eqA (neg:Bool) (ks:List Kd) (x y:Opd)
 | eqN (kd:NilK) (neg:Bool) (x:Opd)
 | un (op:UnOp) (x:Opd)
 | conv (k:IntKind) (x:Opd)
 | convT (x:Opd)
 | mkI (t:TypeId) (x:Opd)
 | mkF (fn:Fn) (first cap:List Opd)
 | nilck (P:Program) (x:Opd)
 | slA (len esz:Nat) (x:Opd) (lo hi mx:Option Opd)
 | slS (esz:Nat) (x:Opd) (lo hi mx:Option Opd)
 | slT (x:Opd) (lo hi:Option Opd)
 | ext (x:Opd) (i:Nat)
 | tyAs (t:TypeId) (ok:Bool) (zero:AVal) (x:Opd)
 | len (x:Opd)
 | lenT (x:Opd)
 | lenA (n:Nat)
 | mm (isMax:Bool) (xs:List Opd)
 | build (zero:List AVal) (parts:List (Nat×Nat×Opd))
 | load (agg:Bool) (n:Nat) (x:Opd)
 | lookup (kn:Bool×List Kd) (ok:Bool) (zero:AVal) (m k:Opd)
 | lenM (m:Opd)
 | toStr (x:Opd)
 | toBy (x:Opd)
 | allocB
 | box (x:Opd)
 | alloc (cells:List AVal)
 | bsl (len:Nat) (cells:List AVal) (parts:List (Nat×Nat×Opd))
 | mksl (bytes:Nat) (zero:List AVal) (len cap:Opd)
 | mkmap
 | store (n:Nat) (x v:Opd)
 | app (esz bytes:Nat) (x y:Opd)
 | copy (esz:Nat) (x y:Opd)
 | mapU (kn:Bool×List Kd) (m k v:Opd)
 | mapE (kn:Bool×List Kd) (zero:AVal) (m k:Opd)
 | entS (m s v:Opd)
 | range (x:Opd)
 | next (x:Opd)
 | entry (x:Opd)
 | call (f:Opd) (args:List Opd)
 | inv (recv:Opd) (name:String) (args:List Opd)
 | recov
 | panic (x:Opd)
 | defer (f:Opd) (args:List Opd)
def acells : AVal→Option (List AVal)
 | .agg cs=>some cs
 | .any=>none
 | .tup _=>none
 | v=>some [v]
def setRange (cells:List AVal) (off:Nat) (vs:List AVal):List AVal:=cells.take off++(vs++cells.drop (off+vs.length))
def afill (cells:List AVal):List (Nat×Nat×AVal)→Option (List AVal)
 | []=>some cells
 | (off,size,v)::rest=>match acells v with
   | some vs=>if vs.length=size∧off+size≤cells.length then afill (setRange cells off vs) rest else none
   | none=>none
def evParts (ρ:Opd→AVal):List (Nat×Nat×Opd)→List (Nat×Nat×AVal)
 | []=>[]
 | (o,n,x)::r=>(o,n,ρ x)::evParts ρ r
def evs (ρ:Opd→AVal):List Opd→List AVal
 | []=>[]
 | x::r=>ρ x::evs ρ r
def bitI (op:BinOp) (k:IntKind) (x y:Int):Int:=
 let a:=BitVec.ofInt k.bits x
 let b:=BitVec.ofInt k.bits y
 k.wrap (Int.ofNat (match op with
  | .and=>a &&& b
  | .or=>a ||| b
  | .xor=>a ^^^ b
  | _=>a &&& ~~~b).toNat)
def arI (op:BinOp) (k:IntKind) (a b:Int):Option AVal:=
 match op with
 | .add=>some (.int k (k.wrap (a+b)))
 | .sub=>some (.int k (k.wrap (a - b)))
 | .mul=>some (.int k (k.wrap (a*b)))
 | .quo=>if b≠0 then some (.int k (k.wrap (a.tdiv b))) else none
 | .rem=>if b≠0 then some (.int k (a.tmod b)) else none
 | .and=>some (.int k (bitI .and k a b))
 | .or=>some (.int k (bitI .or k a b))
 | .xor=>some (.int k (bitI .xor k a b))
 | .andNot=>some (.int k (bitI .andNot k a b))
 | .eql=>some (.bool (a == b))
 | .neq=>some (.bool (a != b))
 | .lss=>some (.bool (decide (a<b)))
 | .leq=>some (.bool (decide (a≤b)))
 | .gtr=>some (.bool (decide (a>b)))
 | .geq=>some (.bool (decide (a≥b)))
 | _=>none
def shI (op:BinOp) (k:IntKind) (a b:Int):Option AVal:=
 match op with
 | .shl=>if 0≤b then some (.int k (k.wrap (a*2^(min b.toNat k.bits)))) else none
 | .shr=>if 0≤b then some (.int k (a.fdiv (2^(min b.toNat k.bits)))) else none
 | _=>none
def isSh : BinOp→Bool
 | .shl | .shr=>true
 | _=>false
def abin (op:BinOp):AVal→AVal→Option AVal
 | .int k a,.int k' b=>if isSh op then shI op k a b else if k=k' then arI op k a b else none
 | .str a,.str b=>match op with
   | .add=>if a.length+b.length≤9223372036854775807 then some (.str (a++b)) else none
   | .eql=>some (.bool (a == b))
   | .neq=>some (.bool (!(a == b)))
   | _=>none
 | _,_=>none
def flatEq : List Kd→List AVal→List AVal→Option Bool
 | [],[],[]=>some true
 | .i::ks,.int k a::as,.int k' b::bs=>if k=k' then (flatEq ks as bs).map ((a == b) && ·) else none
 | .b::ks,.bool a::as,.bool b::bs=>(flatEq ks as bs).map ((a == b) && ·)
 | .s::ks,.str a::as,.str b::bs=>(flatEq ks as bs).map ((a == b) && ·)
 | _,_,_=>none
def isNil (kd:NilK) (a:AVal):Option Bool:=
 match kd with
 | .p=>match a with
   | .nilp=>some true
   | .ptr ..=>some false
   | .pv _=>some false
   | _=>none
 | .s=>match a with
   | .nils=>some true
   | .sl ..=>some false
   | .vl (_+1) _=>some false
   | _=>none
 | .m=>match a with
   | .nilm=>some true
   | .map ..=>some false
   | _=>none
 | .f=>match a with
   | .nilf=>some true
   | .func ..=>some false
   | .yield ..=>some false
   | _=>none
 | .i=>match a with
   | .nili=>some true
   | .iface ..=>some false
   | _=>none
def aun (op:UnOp):AVal→Option AVal
 | .int k n=>match op with
   | .neg=>some (.int k (k.wrap (0 - n)))
   | .xor=>some (.int k (bitI .xor k (if k.signed then -1 else k.max) n))
   | _=>none
 | .bool b=>match op with
   | .not=>some (.bool !b)
   | _=>none
 | _=>none
def loadC (agg:Bool) (n:Nat) (cells:List AVal):Option AVal:=
 if agg then (if n≤cells.length then some (.agg (cells.take n)) else none) else cells.head?
def cellsAt (h:Heap) (r off s:Nat):Option (List AVal):=
 match h r with
 | .row cells s'=>if s=s' then some (cells.drop off) else none
 | _=>none
def loadP (h:Heap) (agg:Bool) (n:Nat):AVal→Option AVal
 | .ptr r off s=>(cellsAt h r off s).bind (loadC agg n)
 | .pv cells=>loadC agg n cells
 | _=>none
def boundO (d:Nat):Option AVal→Option Int
 | none=>some d
 | some (.int _ n)=>some n
 | some _=>none
def aSlA (len esz:Nat) (x:AVal) (lo hi mx:Option AVal):Option AVal:=
 match boundO 0 lo,boundO len hi,boundO len mx with
 | some l,some h,some m=>
   if 0≤l∧l≤h∧h≤m∧m≤len then
    match x with
    | .ptr r off s=>some (.sl r (if m=l then off else off+l.toNat*esz) s (h - l).toNat (.ex (m - l).toNat))
    | .pv cells=>some (.vl (h - l).toNat (cells.drop (l.toNat*esz)))
    | _=>none
   else none
 | _,_,_=>none
def aSlS (esz:Nat) (x:AVal) (lo hi mx:Option AVal):Option AVal:=
 match x with
 | .sl r off s len (.ex c)=>
   match boundO 0 lo,boundO len hi,boundO c mx with
   | some l,some h,some m=>
     if 0≤l∧l≤h∧h≤m∧m≤c then some (.sl r (if m=l then off else off+l.toNat*esz) s (h - l).toNat (.ex (m - l).toNat)) else none
   | _,_,_=>none
 | .sl r off s len (.gr e)=>
   match mx with
   | none=>
     match boundO 0 lo,boundO len hi with
     | some l,some h=>if e=esz∧0≤l∧l≤h∧h≤len∧(l<len∨l=0) then some (.sl r (off+l.toNat*esz) s (h - l).toNat (.gr e)) else none
     | _,_=>none
   | some _=>
     match boundO 0 lo,boundO len hi,boundO len mx with
     | some l,some h,some m=>
       if 0≤l∧l≤h∧h≤m∧m≤len then some (.sl r (if m=l then off else off+l.toNat*esz) s (h - l).toNat (.ex (m - l).toNat)) else none
     | _,_,_=>none
 | .vl n cells=>
   match boundO 0 lo,boundO n hi,boundO n mx with
   | some l,some h,some m=>
     if 0≤l∧l≤h∧h≤m∧m≤n then some (if mx.isSome∧m=l then .es else .vl (h - l).toNat (cells.drop (l.toNat*esz))) else none
   | _,_,_=>none
 | .nils=>
   match boundO 0 lo,boundO 0 hi,boundO 0 mx with
   | some l,some h,some m=>if l=0∧h=0∧m=0 then some .nils else none
   | _,_,_=>none
 | .es=>
   match boundO 0 lo,boundO 0 hi,boundO 0 mx with
   | some l,some h,some m=>if l=0∧h=0∧m=0 then some .es else none
   | _,_,_=>none
 | _=>none
def aSlT (x:AVal) (lo hi:Option AVal):Option AVal:=
 match x with
 | .str s=>
   match boundO 0 lo,boundO s.length hi with
   | some l,some h=>if 0≤l∧l≤h∧h≤s.length then some (.str ((s.take h.toNat).drop l.toNat)) else none
   | _,_=>none
 | _=>none
def aIxA (len esz:Nat) (x i:AVal):Option AVal:=
 match x,i with
 | .ptr r off s,.int _ n=>if 0≤n∧n<len then some (.ptr r (off+n.toNat*esz) s) else none
 | .pv cells,.int _ n=>if 0≤n∧n<len then some (.pv (cells.drop (n.toNat*esz))) else none
 | _,_=>none
def aIxS (esz:Nat) (x i:AVal):Option AVal:=
 match x,i with
 | .sl r off s len _,.int _ n=>if 0≤n∧n<len then some (.ptr r (off+n.toNat*esz) s) else none
 | .vl len cells,.int _ n=>if 0≤n∧n<len then some (.pv (cells.drop (n.toNat*esz))) else none
 | _,_=>none
def aIxV (len esz:Nat) (agg:Bool) (x i:AVal):Option AVal:=
 match x,i with
 | .agg cs,.int _ n=>if 0≤n∧n<len then loadC agg esz (cs.drop (n.toNat*esz)) else none
 | _,_=>none
def aIxT (x i:AVal):Option AVal:=
 match x,i with
 | .str s,.int _ n=>if 0≤n∧n<s.length then some (.int .u8 (s.getD n.toNat 0).toNat) else none
 | _,_=>none
def aLen : AVal→Option AVal
 | .sl _ _ _ len _=>some (.int .i64 len)
 | .vl n _=>some (.int .i64 n)
 | .nils=>some (.int .i64 0)
 | .es=>some (.int .i64 0)
 | _=>none
def aMM (isMax:Bool):AVal→AVal→Option AVal
 | .int k x,.int k' y=>if k=k' then some (.int k (if isMax then (if x<y then y else x) else (if y<x then y else x))) else none
 | _,_=>none
def aMMs (isMax:Bool):AVal→List AVal→Option AVal
 | x,[]=>some x
 | x,y::r=>match aMM isMax x y with
   | some z=>aMMs isMax z r
   | none=>none
def aTyAs (t:TypeId) (ok:Bool) (zero:AVal):AVal→Option AVal
 | .nili=>if ok then some (.tup [zero,.bool false]) else none
 | .iface u v=>if u=t then some (if ok then .tup [v,.bool true] else v) else if ok then some (.tup [zero,.bool false]) else none
 | _=>none
def keyEq (kn:Bool×List Kd) (x y:AVal):Option Bool:=
 if kn.1 then (match x,y with
  | .agg a,.agg b=>flatEq kn.2 a b
  | _,_=>none) else flatEq kn.2 [x] [y]
def mfind (kn:Bool×List Kd) (k:AVal):List (AVal×AVal)→Option (Option (Nat×AVal))
 | []=>some none
 | (k',v)::r=>match keyEq kn k k' with
   | none=>none
   | some true=>some (some (0,v))
   | some false=>(mfind kn k r).map (Option.map fun x=>(x.1+1,x.2))
def keyOk (kn:Bool×List Kd) (k:AVal):Bool:=(keyEq kn k k).isSome
def mapOf (h:Heap):AVal→Option (List (AVal×AVal))
 | .nilm=>some []
 | .map r s=>match h r with
   | .map es s'=>if s=s' then some es else none
   | _=>none
 | _=>none
def aLookup (h:Heap) (kn:Bool×List Kd) (ok:Bool) (zero m k:AVal):Option AVal:=
 if keyOk kn k then
  match mapOf h m with
  | some es=>match mfind kn k es with
    | some (some (_,v))=>some (if ok then .tup [v,.bool true] else v)
    | some none=>some (if ok then .tup [zero,.bool false] else zero)
    | none=>none
  | none=>none
 else none
def byteOf1 : AVal→Option UInt8
 | .int .u8 n=>some (UInt8.ofNat n.toNat)
 | _=>none
def bytesOf : List AVal→Option (List UInt8)
 | []=>some []
 | a::as=>match byteOf1 a,bytesOf as with
   | some b,some bs=>some (b::bs)
   | _,_=>none
def aToStr : AVal→Option AVal
 | .vl n cells=>if n≤cells.length then (bytesOf (cells.take n)).map .str else none
 | .nils=>some (.str [])
 | _=>none
def byCells (s:List UInt8):List AVal:=s.map fun x=>.int .u8 x.toNat
def iev (io:IOp) (ρ:Opd→AVal) (h:Heap):Option AVal:=
 match io with
 | .mv x=>some (ρ x)
 | .pick c x y=>match ρ c with
   | .bool b=>some (if b then ρ x else ρ y)
   | _=>none
 | .fAddr off x=>match ρ x with
   | .ptr r o s=>some (.ptr r (o+off) s)
   | .pv cells=>some (.pv (cells.drop off))
   | _=>none
 | .zAddr x=>match ρ x with
   | .ptr r o s=>match h r with
     | .row _ s'=>if s'=s then some (.ptr r o s) else none
     | _=>none
   | _=>none
 | .fld agg off n x=>match ρ x with
   | .agg cs=>loadC agg n (cs.drop off)
   | _=>none
 | .ixA len esz x i=>aIxA len esz (ρ x) (ρ i)
 | .ixS esz x i=>aIxS esz (ρ x) (ρ i)
 | .ixV len esz agg x i=>aIxV len esz agg (ρ x) (ρ i)
 | .ixT x i=>aIxT (ρ x) (ρ i)
 | .bin op x y=>abin op (ρ x) (ρ y)
 | .eqB neg x y=>match ρ x,ρ y with
   | .bool a,.bool b=>some (.bool (if neg then !(a == b) else a == b))
   | _,_=>none
 | .eqA neg ks x y=>match ρ x,ρ y with
   | .agg a,.agg b=>(flatEq ks a b).map fun r=>.bool (if neg then !r else r)
   | _,_=>none
 | .eqN kd neg x=>(isNil kd (ρ x)).map fun r=>.bool (if neg then !r else r)
 | .un op x=>aun op (ρ x)
 | .conv k x=>match ρ x with
   | .int _ n=>some (.int k (k.wrap n))
   | _=>none
 | .convT x=>match ρ x with
   | .str s=>some (.str s)
   | _=>none
 | .mkI t x=>some (.iface t (ρ x))
 | .mkF fn first cap=>some (.func fn (evs ρ first) (evs ρ cap))
 | .nilck P x=>match ρ x with
   | .ptr r o s=>some (.ptr r o s)
   | .pv cells=>some (.pv cells)
   | .func (.method nm) [.iface t a] []=>if fineM P t nm=true then some (.func (.method nm) [.iface t a] []) else none
   | _=>none
 | .slA len esz x lo hi mx=>aSlA len esz (ρ x) (lo.map ρ) (hi.map ρ) (mx.map ρ)
 | .slS esz x lo hi mx=>aSlS esz (ρ x) (lo.map ρ) (hi.map ρ) (mx.map ρ)
 | .slT x lo hi=>aSlT (ρ x) (lo.map ρ) (hi.map ρ)
 | .ext x i=>match ρ x with
   | .tup vs=>vs[i]?
   | _=>none
 | .tyAs t ok zero x=>aTyAs t ok zero (ρ x)
 | .len x=>aLen (ρ x)
 | .lenT x=>match ρ x with
   | .str s=>some (.int .i64 s.length)
   | _=>none
 | .lenA n=>some (.int .i64 n)
 | .mm isMax xs=>match evs ρ xs with
   | []=>none
   | x::r=>aMMs isMax x r
 | .build zero parts=>(afill zero (evParts ρ parts)).map .agg
 | .load agg n x=>loadP h agg n (ρ x)
 | .lookup kn ok zero m k=>aLookup h kn ok zero (ρ m) (ρ k)
 | .lenM m=>match mapOf h (ρ m) with
   | some es=>some (.int .i64 es.length)
   | none=>none
 | .toStr x=>aToStr (ρ x)
 | _=>none
def elemsOf (h:Heap) (esz:Nat):AVal→Option (Nat×List AVal)
 | .sl r off s len _=>match cellsAt h r off s with
   | some cs=>if len*esz≤cs.length then some (len,cs.take (len*esz)) else none
   | none=>none
 | .vl n cells=>if n*esz≤cells.length then some (n,cells.take (n*esz)) else none
 | .nils=>some (0,[])
 | .es=>some (0,[])
 | _=>none
def storeP (h:Heap) (x:AVal) (vs:List AVal):Option Heap:=
 match x with
 | .ptr r off s=>match h r with
   | .row cells s'=>if s=s'∧off+vs.length≤cells.length then some (upd h r (.row (setRange cells off vs) s)) else none
   | _=>none
 | _=>none
def aApp (nm:Nat) (esz bytes:Nat) (x:AVal) (n:Nat) (ys:List AVal) (h:Heap) (g:Nat):Option (AVal×Heap×Nat):=
 if n=0 then
  match x with
  | .nils=>some (.nils,h,g)
  | .es=>some (.es,h,g)
  | .vl m cells=>some (.vl m cells,h,g)
  | .sl r off s len cap=>some (.sl r off s len cap,h,g)
  | _=>none
 else
  match x with
  | .nils | .es=>if (2*n+192)*bytes≤281474976710656 then some (.sl nm 0 (g+1) n (.gr esz),upd h nm (.row ys (g+1)),g+1) else none
  | .sl r off s len cap=>match h r with
    | .row cells s'=>
      if s=s'∧off+len*esz≤cells.length∧(2*(len+n)+192)*bytes≤281474976710656 then
       match cap with
       | .ex c=>
         if len+n≤c then
          (if off+(len+n)*esz≤cells.length then some (.sl r off s (len+n) (.ex c),upd h r (.row (setRange cells (off+len*esz) ys) s),g) else none)
         else some (.sl nm 0 (g+1) (len+n) (.gr esz),upd h nm (.row ((cells.drop off).take (len*esz)++ys) (g+1)),g+1)
       | .gr e=>
         if e=esz∧off=0∧len*esz=cells.length then some (.sl nm 0 (g+1) (len+n) (.gr esz),upd (upd h r .dead) nm (.row (cells++ys) (g+1)),g+1) else none
      else none
    | _=>none
  | _=>none
def mset (es:List (AVal×AVal)) (i:Nat) (k v:AVal):List (AVal×AVal):=es.set i (k,v)
def ixe (io:IOp) (nm:Nat) (ρ:Opd→AVal) (h:Heap) (g:Nat):Option (AVal×Heap×Nat):=
 match io with
 | .box x=>match acells (ρ x) with
   | some cs=>some (.ptr nm 0 (g+1),upd h nm (.row cs (g+1)),g+1)
   | none=>none
 | .alloc cells=>some (.ptr nm 0 (g+1),upd h nm (.row cells (g+1)),g+1)
 | .bsl len cells parts=>match afill cells (evParts ρ parts) with
   | some cs=>some (.sl nm 0 (g+1) len (.ex len),upd h nm (.row cs (g+1)),g+1)
   | none=>none
 | .mksl bytes zero len cap=>match ρ len,ρ cap with
   | .int _ l,.int _ c=>
     if 0≤l∧l≤c∧bytes*c≤281474976710656∧c≤9223372036854775807 then
      some (.sl nm 0 (g+1) l.toNat (.ex c.toNat),upd h nm (.row (List.replicate c.toNat zero).flatten (g+1)),g+1) else none
   | _,_=>none
 | .mkmap=>some (.map nm (g+1),upd h nm (.map [] (g+1)),g+1)
 | .allocB=>some (.ptr nm 0 (g+1),upd h nm (.bst none 0 (g+1)),g+1)
 | .toBy x=>match ρ x with
   | .str s=>some (.vl s.length (byCells s),h,g)
   | _=>none
 | .store n x v=>match acells (ρ v) with
   | some vs=>if vs.length=n then (storeP h (ρ x) vs).map fun h'=>(.any,h',g) else none
   | none=>none
 | .app esz bytes x y=>match elemsOf h esz (ρ y) with
   | some (n,ys)=>aApp nm esz bytes (ρ x) n ys h g
   | none=>none
 | .copy esz x y=>match ρ x,elemsOf h esz (ρ y) with
   | .sl r off s len _,some (n,ys)=>(storeP h (.ptr r off s) (ys.take (min n len*esz))).map fun h'=>(.int .i64 (min n len:Nat),h',g)
   | .nils,some _=>some (.int .i64 0,h,g)
   | .es,some _=>some (.int .i64 0,h,g)
   | _,_=>none
 | .mapU kn m k v=>match ρ m with
   | .map r s=>match h r with
     | .map es s'=>if s=s'∧keyOk kn (ρ k)=true then
        match mfind kn (ρ k) es with
        | some (some (i,_))=>some (.any,upd h r (.map (mset es i (ρ k) (ρ v)) s),g)
        | some none=>some (.any,upd h r (.map (es++[(ρ k,ρ v)]) s),g)
        | none=>none
       else none
     | _=>none
   | _=>none
 | .mapE kn zero m k=>match ρ m with
   | .map r s=>match h r with
     | .map es s'=>if s=s'∧keyOk kn (ρ k)=true then
        match mfind kn (ρ k) es with
        | some (some (i,v))=>some (.tup [v,.int .i64 i],upd h r (.map (mset es i (ρ k) v) s),g)
        | some none=>some (.tup [zero,.int .i64 es.length],upd h r (.map (es++[(ρ k,zero)]) s),g)
        | none=>none
       else none
     | _=>none
   | _=>none
 | .entS m st v=>match ρ m,ρ st with
   | .map r s,.int _ i=>match h r with
     | .map es s'=>if s=s' then
        match es[i.toNat]? with
        | some (k,_)=>if 0≤i then some (.any,upd h r (.map (mset es i.toNat k (ρ v)) s),g) else none
        | none=>none
       else none
     | _=>none
   | _,_=>none
 | .range x=>match ρ x with
   | .nilm=>some (.ptr nm 0 (g+1),upd h nm (.iter none 0 [] none (g+1)),g+1)
   | .map r s=>match h r with
     | .map es s'=>if s=s' then some (.ptr nm 0 (g+1),upd h nm (.iter (some (r,s)) es.length (List.range es.length) none (g+1)),g+1) else none
     | _=>none
   | _=>none
 | _=>none
end Go.Cw
end
section
namespace Go.Cw
open Go
def szOf (P:Program) (t:TypeId):Option Nat:=(P.info? t).map (·.size)
def aggD : TypeDesc→Bool
 | .struct _ | .array _ _=>true
 | _=>false
def aggT (P:Program) (t:TypeId):Option Bool:=(P.underlying t).map aggD
def zeroOf (P:Program) (t:TypeId):Option Value:=(P.info? t).bind (·.zero)
def zeroCs (P:Program) (t:TypeId):Option (List AVal):=(zeroOf P t).bind fun z=>ofVs z.cells.toList
def zeroA (P:Program) (t:TypeId):Option AVal:=(zeroOf P t).bind ofV
def flatFs (P:Program) (flat:TypeId→Option (List Kd)):List Field→Nat→Option (List Kd)
 | [],_=>some []
 | f::r,off=>if f.name≠ "_" ∧f.offset=off then (match flat f.type with
   | some n=>(flatFs P flat r (off+n.length)).map (n++·)
   | none=>none) else none
def flatN (P:Program):Nat→TypeId→Option (List Kd)
 | 0,_=>none
 | d+1,t=>match P.underlying t with
   | some .bool=>if szOf P t=some 1 then some [.b] else none
   | some (.int _)=>if szOf P t=some 1 then some [.i] else none
   | some .string=>if szOf P t=some 1 then some [.s] else none
   | some (.struct fs)=>match flatFs P (flatN P d) fs.toList 0 with
     | some n=>if P.stoodInHeld t=false∧szOf P t=some n.length then some n else none
     | none=>none
   | some (.array len e)=>match flatN P d e with
     | some n=>if szOf P t=some (len*n.length) then some (List.replicate len n).flatten else none
     | none=>none
   | _=>none
def keyN (P:Program) (t:TypeId):Option (Bool×List Kd):=
 match flatN P 8 t,aggT P t with
 | some n,some b=>some (b,n)
 | _,_=>none
def nilC (kd:NilK) (v:Value):Bool:=
 match kd,v with
 | .p,.pointer none=>true
 | .s,.slice none 0 0=>true
 | .m,.map none=>true
 | .f,.nilFunc=>true
 | .i,.nilIface=>true
 | _,_=>false
def isNilC (kd:NilK):Operand→Bool
 | .const v=>nilC kd v
 | _=>false
def nilT : TypeDesc→Option NilK
 | .pointer _=>some .p
 | .slice _=>some .s
 | .map _ _=>some .m
 | .func _ _ _=>some .f
 | .interface _=>some .i
 | _=>none
def cBin (P:Program) (op:BinOp) (t:TypeId) (x y:Operand):Option IOp:=
 match P.underlying t,cOpd x,cOpd y with
 | some d,some x',some y'=>match d with
   | .int _ | .string=>some (.bin op x' y')
   | .bool=>match op with
     | .eql=>some (.eqB false x' y')
     | .neq=>some (.eqB true x' y')
     | _=>none
   | _=>
     if aggD d then
      match flatN P 8 t,P.eqGuardType P.depth t with
      | some ks,false=>match op with
        | .eql=>some (.eqA false ks x' y')
        | .neq=>some (.eqA true ks x' y')
        | _=>none
      | _,_=>none
     else match nilT d with
      | some kd=>
        if isNilC kd y then
         match op with
         | .eql=>some (.eqN kd false x')
         | .neq=>some (.eqN kd true x')
         | _=>none
        else none
      | none=>none
 | _,_,_=>none
def cParts (place:Nat→Option (Nat×Nat)):List (Nat×Operand)→Option (List (Nat×Nat×Opd))
 | []=>some []
 | (i,x)::r=>match place i,cOpd x,cParts place r with
   | some (off,n),some x',some r'=>some ((off,n,x')::r')
   | _,_,_=>none
def fieldPlaces (P:Program):List Field→Option (List (Nat×Nat))
 | []=>some []
 | f::r=>match szOf P f.type,fieldPlaces P r with
   | some n,some r'=>some ((f.offset,n)::r')
   | _,_=>none
def cBuild (P:Program) (t:TypeId) (parts:List (Nat×Operand)):Option IOp:=
 match zeroCs P t,P.underlying t with
 | some z,some (.struct fs)=>match fieldPlaces P fs.toList with
   | some pl=>(cParts (fun i=>pl[i]?) parts).map (.build z)
   | none=>none
 | some z,some (.array _ e)=>match szOf P e with
   | some n=>(cParts (fun i=>some (i*n,n)) parts).map (.build z)
   | none=>none
 | _,_=>none
def cyc (z:List AVal) (n:Nat):List AVal:=(List.range n).map fun i=>z.getD (i % z.length) .any
def cBsl (P:Program) (t:TypeId) (len:Nat) (parts:List (Nat×Operand)):Option IOp:=
 match P.underlying t with
 | some (.slice e)=>match szOf P e,zeroCs P e with
   | some n,some z=>
     if n≠0∧z.length=n∧len*n≤65536∧e<tyLim then (cParts (fun i=>some (i*n,n)) parts).map (.bsl len (cyc z (len*n))) else none
   | _,_=>none
 | _=>none
def cMksl (P:Program) (t:TypeId) (l c:Operand):Option IOp:=
 match P.underlying t with
 | some (.slice e)=>match P.info? e,zeroCs P e,cOpd l,cOpd c with
   | some i,some z,some l',some c'=>if i.size=z.length∧z≠[]∧e<tyLim then some (.mksl i.bytes z l' c') else none
   | _,_,_,_=>none
 | _=>none
def cSlice (P:Program) (t:TypeId) (x:Operand) (lo hi mx:Option Operand):Option IOp:=
 match P.underlying t,cOpd x,cOpdO lo,cOpdO hi,cOpdO mx with
 | some (.array n e),some x',some lo',some hi',some mx'=>(szOf P e).bind fun s=>if mx'.isSome && hi'.isNone then none else some (.slA n s x' lo' hi' mx')
 | some (.slice e),some x',some lo',some hi',some mx'=>(szOf P e).bind fun s=>if mx'.isSome && hi'.isNone then none else some (.slS s x' lo' hi' mx')
 | some .string,some x',some lo',some hi',some none=>some (.slT x' lo' hi')
 | _,_,_,_,_=>none
def cIxAddr (P:Program) (t:TypeId) (x i:Operand):Option IOp:=
 match P.underlying t,cOpd x,cOpd i with
 | some (.array n e),some x',some i'=>(szOf P e).map fun s=>.ixA n s x' i'
 | some (.slice e),some x',some i'=>(szOf P e).map fun s=>.ixS s x' i'
 | _,_,_=>none
def cIx (P:Program) (t:TypeId) (x i:Operand):Option IOp:=
 match P.underlying t,cOpd x,cOpd i with
 | some (.array n e),some x',some i'=>match szOf P e,aggT P e with
   | some s,some a=>some (.ixV n s a x' i')
   | _,_=>none
 | some .string,some x',some i'=>some (.ixT x' i')
 | _,_,_=>none
def cBuiltin (P:Program) (b:Builtin) (ts:List TypeId) (args:List Operand):Option IOp:=
 match b with
 | .len=>match ts,args with
   | [t],[x]=>match P.underlying t,cOpd x with
     | some .string,some x'=>some (.lenT x')
     | some (.slice _),some x'=>some (.len x')
     | some (.array n _),_=>some (.lenA n)
     | some (.pointer a),_=>match P.underlying a with
       | some (.array n _)=>some (.lenA n)
       | _=>none
     | some (.map _ _),some x'=>some (.lenM x')
     | _,_=>none
   | _,_=>none
 | .max=>(cOpds args).map (.mm true)
 | .min=>(cOpds args).map (.mm false)
 | .append=>match ts,args with
   | [t,u],[x,y]=>match P.underlying t,P.underlying u,cOpd x,cOpd y with
     | some (.slice e),some (.slice _),some x',some y'=>match P.info? e with
       | some i=>match i.zero with
         | some z=>if i.size≠0∧i.bytes≠0∧z.cells.size=i.size∧e<tyLim then some (.app i.size i.bytes x' y') else none
         | none=>none
       | none=>none
     | _,_,_,_=>none
   | _,_=>none
 | .copy=>match ts,args with
   | [t,u],[x,y]=>match P.underlying t,P.underlying u,cOpd x,cOpd y with
     | some (.slice e),some (.slice _),some x',some y'=>(szOf P e).map fun s=>.copy s x' y'
     | _,_,_,_=>none
   | _,_=>none
 | .recover=>some .recov
 | _=>none
def cCall (P:Program) (c:Call):Option IOp:=
 match c.callee with
 | .builtin b=>cBuiltin P b c.argTypes.toList c.args.toList
 | .value f=>match cOpd f,cOpds c.args.toList with
   | some f',some as=>some (.call f' as)
   | _,_=>none
 | .invoke r nm=>match cOpd r,cOpds c.args.toList with
   | some r',some as=>some (.inv r' nm as)
   | _,_=>none
def okB (P:Program):Bool:=(List.range tyLim).all fun e=>(List.range (P.cellsOf e)).all fun off=>(byteOfCell P P.depth e off).isSome
def comp (P:Program) (op:Op):Option IOp:=
 match op with
 | .move x=>(cOpd x).map .mv
 | .assign x=>(cOpd x).map .mv
 | .pick c a b=>match cOpd c,cOpd a,cOpd b with
   | some c',some a',some b'=>some (.pick c' a' b')
   | _,_,_=>none
 | .alloc t=>if t=bTy then (match zeroCs P t with
    | some [.nilp,.nils]=>some .allocB
    | _=>none) else if t<tyLim then (zeroCs P t).map .alloc else none
 | .box t x=>if t<tyLim then (cOpd x).map .box else none
 | .build t parts=>cBuild P t parts.toList
 | .buildSlice t len parts=>cBsl P t len parts.toList
 | .load t a=>match szOf P t,aggT P t,cOpd a with
   | some n,some b,some a'=>some (.load b n a')
   | _,_,_=>none
 | .store t a x=>match szOf P t,cOpd a,cOpd x with
   | some n,some a',some x'=>some (.store n a' x')
   | _,_,_=>none
 | .nilCheck x=>(cOpd x).map (.nilck P)
 | .binOp op t x y _=>cBin P op t x y
 | .unOp op _ x=>(cOpd x).map (.un op)
 | .convert src dst x=>match P.underlying src,P.underlying dst,cOpd x with
   | some (.int _),some (.int k),some x'=>some (.conv k x')
   | some .string,some .string,some x'=>some (.convT x')
   | some (.slice e),some .string,some x'=>match P.underlying e with
     | some (.int .u8)=>some (.toStr x')
     | _=>none
   | some .string,some (.slice e),some x'=>match P.underlying e with
     | some (.int .u8)=>some (.toBy x')
     | _=>none
   | _,_,_=>none
 | .makeInterface t x=>match P.underlying t,cOpd x with
   | some (.interface _),_=>none
   | some _,some x'=>some (.mkI t x')
   | _,_=>none
 | .makeFunc fn first captured=>match cOpds first.toList,cOpds captured.toList with
   | some f,some c=>if plainFn fn then some (.mkF fn f c) else none
   | _,_=>none
 | .makeMap t r=>match r with
   | none=>some .mkmap
   | some (.const (.int _ _))=>match P.underlying t with
     | some (.map _ _)=>some .mkmap
     | _=>none
   | _=>none
 | .makeSlice t l c=>cMksl P t l c
 | .slice t x lo hi mx=>cSlice P t x lo hi mx
 | .fieldAddr s x f=>match P.underlying s,cOpd x with
   | some (.struct fs),some x'=>match fs[f]? with
     | some fd=>match szOf P fd.type with
       | some (_+1)=>some (.fAddr fd.offset x')
       | some 0=>if fd.offset=0∧fd.byteOffset=0∧okB P=true then some (.zAddr x') else none
       | none=>none
     | none=>none
   | _,_=>none
 | .field t x f=>match P.underlying t,cOpd x with
   | some (.struct fs),some x'=>match fs[f]? with
     | some fd=>match szOf P fd.type,aggT P fd.type with
       | some n,some a=>some (.fld a fd.offset n x')
       | _,_=>none
     | none=>none
   | _,_=>none
 | .indexAddr t x i=>cIxAddr P t x i
 | .index t x i=>cIx P t x i
 | .lookup t m k ok=>match P.underlying t,cOpd m,cOpd k with
   | some (.map kt et),some m',some k'=>match keyN P kt,zeroA P et with
     | some kn,some z=>some (.lookup kn ok z m' k')
     | _,_=>none
   | _,_,_=>none
 | .mapUpdate t m k v=>match P.underlying t,cOpd m,cOpd k,cOpd v with
   | some (.map kt _),some m',some k',some v'=>(keyN P kt).map fun kn=>.mapU kn m' k' v'
   | _,_,_,_=>none
 | .insert t m k v=>match P.underlying t,cOpd m,cOpd k,cOpd v with
   | some (.map kt _),some m',some k',some v'=>(keyN P kt).map fun kn=>.mapU kn m' k' v'
   | _,_,_,_=>none
 | .mapEntry t m k=>match P.underlying t,cOpd m,cOpd k with
   | some (.map kt et),some m',some k'=>match keyN P kt,zeroA P et with
     | some kn,some z=>some (.mapE kn z m' k')
     | _,_=>none
   | _,_,_=>none
 | .entryStore _ m s v=>match cOpd m,cOpd s,cOpd v with
   | some m',some s',some v'=>some (.entS m' s' v')
   | _,_,_=>none
 | .range t x=>match P.underlying t,cOpd x with
   | some (.map _ _),some x'=>some (.range x')
   | _,_=>none
 | .next it false=>(cOpd it).map .next
 | .entry it=>(cOpd it).map .entry
 | .typeAssert x _ t ok=>match P.underlying t,cOpd x,zeroA P t with
   | some (.interface _),_,_=>none
   | some _,some x',some z=>some (.tyAs t ok z x')
   | _,_,_=>none
 | .extract x i=>(cOpd x).map fun x'=>.ext x' i
 | .call c=>cCall P c
 | .panic x=>(cOpd x).map .panic
 | .defer c=>match c.callee with
   | .value f=>match cOpd f,cOpds c.args.toList with
     | some f',some as=>some (.defer f' as)
     | _,_=>none
   | _=>none
 | _=>none
theorem ofV1_rel {Z:Snap} {μ:Mu} {g:Nat} {v:Value} {a:AVal} (h:ofV1 v=some a):VRel Z μ g a v:=by
 unfold ofV1 at h
 split at h<;>cases h<;>first|(simp only[VRel];done)|(simp only[VRel];exact ⟨_,rfl,rfl⟩)
theorem ofV1_one {v:Value} {a:AVal} (h:ofV1 v=some a):v.oneCell'=true∧acells a=some [a]∧v.cells = #[v]:=by
 unfold ofV1 at h
 split at h<;>cases h<;>exact ⟨rfl,rfl,rfl⟩
theorem ofVs_rel {Z:Snap} {μ:Mu} {g:Nat} : ∀{vs:List Value} {as:List AVal},ofVs vs=some as→vs.length=as.length∧VPre Z μ g as vs∧One vs
 | [],as,h=>by
   obtain rfl:[]=as:=by simpa[ofVs] using h
   exact ⟨rfl,VPre_nil _,fun _ hx=>by cases hx⟩
 | v::vs,as,h=>by
   simp only[ofVs] at h
   split at h
   ·rename_i a as' h1 h2
    obtain rfl:a::as'=as:=by simpa using h
    obtain ⟨h3,h4,h5⟩:=ofVs_rel (Z:=Z) (μ:=μ) (g:=g) h2
    refine ⟨by simp[h3],VPre_cons.2 ⟨ofV1_rel h1,h4⟩,fun x hx=>?_⟩
    rcases List.mem_cons.1 hx with rfl|hx
    ·exact (ofV1_one h1).1
    ·exact h5 x hx
   ·cases h
theorem ofV_rel {Z:Snap} {μ:Mu} {g:Nat} {v:Value} {a:AVal} (h:ofV v=some a):VRel Z μ g a v:=by
 unfold ofV at h
 split at h
 ·rename_i cs
  cases h1:ofVs cs.toList with
  | none=>simp[h1] at h
  | some as=>
    obtain rfl:AVal.agg as=a:=by simpa[h1] using h
    obtain ⟨h3,h4,h5⟩:=ofVs_rel (Z:=Z) (μ:=μ) (g:=g) h1
    simp only[VRel]
    exact ⟨cs,rfl,by simpa using h3,h4,h5⟩
 ·exact ofV1_rel h
structure AAct where
 n:Nat
 tm:Nat→AVal
 df:List (AVal×List AVal)
def DRel (Z:Snap) (μ:Mu) (g:Nat):List (AVal×List AVal)→List Deferred→Prop
 | [],ds=>ds=[]
 | (.yield _ s,_)::r,ds=>∃ds',s≤g∧ds = { target:=.collected (μ s).blk,args:=#[] } :: ds'∧DRel Z μ g r ds'
 | (f,as)::r,ds=>∃(fn:Fn) (f' c' args:Array Value) (ds':List Deferred),VRel Z μ g f (.func fn f' c')∧args.size=as.length∧VPre Z μ g as args.toList∧
     ds = { target:=.fn fn c',args:=f'++args } :: ds'∧DRel Z μ g r ds'
def ARel (Z:Snap) (μ:Mu) (g:Nat) (a:AAct) (ca:Act):Prop:=TRel Z μ g a.n a.tm ca.tmps∧DRel Z μ g a.df ca.defers
theorem lookup_mem {g:Nat} {c:List Value} : ∀{l:List (Nat×List Value)},l.lookup g=some c→(g,c)∈l
 | [],h=>by simp at h
 | (a,b)::l,h=>by
   rw[List.lookup_cons] at h
   split at h
   ·rename_i he
    obtain rfl:b=c:=by simpa using h
    obtain rfl:g=a:=by simpa using he
    simp
   ·exact List.mem_cons_of_mem _ (lookup_mem h)
theorem opd_rel {Z:Snap} {μ:Mu} {g n:Nat} {tm:Nat→AVal} {ca:Act} (T:TRel Z μ g n tm ca.tmps) {x:Operand} {y:Opd} (h:cOpd x=some y):VRel Z μ g (ev tm y) (ca.eval x):=by
 cases x with
 | tmp t=>
   obtain rfl:Opd.t t=y:=by simpa[cOpd] using h
   exact T.2 t
 | const v=>
   cases h1:ofV v with
   | none=>simp[cOpd,h1] at h
   | some a=>
     obtain rfl:Opd.c a=y:=by simpa[cOpd,h1] using h
     exact ofV_rel h1
 | global gb=>
   simp only[cOpd,Option.map_eq_some_iff,Option.bind_eq_some_iff] at h
   obtain ⟨cs,⟨c,hl,hc⟩,rfl⟩:=h
   simp only[ev,VRel,Act.eval]
   obtain ⟨h1,h2,h3⟩:=ofVs_rel (Z:=Z) (μ:=μ) (g:=g) hc
   exact ⟨gb,0,c,rfl,Z.ok.1 gb c (lookup_mem hl),by simpa using h2,by simpa using h3.take _⟩
 | func f=>
   obtain rfl:Opd.c (.func (.func f) [] [])=y:=by simpa[cOpd] using h
   simp only[ev,VRel,Act.eval]
   exact ⟨rfl,_,_,rfl,rfl,rfl,VPre_nil _,VPre_nil _⟩
theorem opds_rel {Z:Snap} {μ:Mu} {g n:Nat} {tm:Nat→AVal} {ca:Act} (T:TRel Z μ g n tm ca.tmps):∀{xs:List Operand} {ys:List Opd},cOpds xs=some ys→
 (xs.map ca.eval).length =(evs (ev tm) ys).length∧VPre Z μ g (evs (ev tm) ys) (xs.map ca.eval)
 | [],ys,h=>by
   obtain rfl:[]=ys:=by simpa[cOpds] using h
   exact ⟨rfl,VPre_nil _⟩
 | x::xs,ys,h=>by
   simp only[cOpds] at h
   split at h
   ·rename_i a as h1 h2
    obtain rfl:a::as=ys:=by simpa using h
    obtain ⟨h3,h4⟩:=opds_rel T h2
    exact ⟨by simpa[evs] using h3,VPre_cons.2 ⟨opd_rel T h1,h4⟩⟩
   ·cases h
theorem opdO_rel {Z:Snap} {μ:Mu} {g n:Nat} {tm:Nat→AVal} {ca:Act} (T:TRel Z μ g n tm ca.tmps) {x:Option Operand} {y:Option Opd} (h:cOpdO x=some y) :
 (x=none∧y=none)∨∃x₁ y₁,x=some x₁∧y=some y₁∧VRel Z μ g (ev tm y₁) (ca.eval x₁):=by
 cases x with
 | none=>left;simpa[cOpdO,eq_comm] using h
 | some x=>
   right
   cases h1:cOpd x with
   | none=>simp[cOpdO,h1] at h
   | some y₁=>
     obtain rfl:some y₁=y:=by simpa[cOpdO,h1] using h
     exact ⟨x,y₁,rfl,rfl,opd_rel T h1⟩
section
variable {P : Program} {t:TypeId} (w:World)
theorem run_sizeOf' {n:Nat} (h:szOf P t=some n) :(sizeOf t).run P w=.ok n w:=by
 unfold szOf at h
 cases hi:P.info? t with
 | none=>simp[hi] at h
 | some i=>
   obtain rfl:i.size=n:=by simpa[hi] using h
   simp[sizeOf,typeInfo,hi]
theorem run_isAgg' {b:Bool} (h:aggT P t=some b) :(isAgg t).run P w=.ok b w:=by
 unfold aggT at h
 cases hi:P.underlying t with
 | none=>simp[hi] at h
 | some d=>
   obtain rfl:aggD d=b:=by simpa[hi] using h
   simp only[isAgg,Sem.run_bind,run_underlying hi,Result.andThen_ok]
   cases d<;>rfl
theorem run_zero' {z:Value} (h:zeroOf P t=some z) :(zeroValue t).run P w=.ok z w:=by
 unfold zeroOf at h
 cases hi:P.info? t with
 | none=>simp[hi] at h
 | some i=>
   have hz:i.zero=some z:=by simpa[hi] using h
   simp[zeroValue,typeInfo,hi,hz]
theorem run_typeInfo' {i:TypeInfo} (h:P.info? t=some i) :(typeInfo t).run P w=.ok i w:=by
 simp[typeInfo,h]
end
end Go.Cw
end
section
namespace Go.Cw
open Go
variable {P : Program} {Z:Snap} {μ:Mu} {h:Heap} {g n:Nat} {w:World} {tm:Nat→AVal} {ca:Act}
theorem add_plain (b o k:Nat) :(⟨b,o,none⟩ : Addr).add k =⟨b,o+k,none⟩:=by
 unfold Addr.add
 split
 ·subst_vars;rfl
 ·rfl
theorem cell_at {b:Nat} {c:Array Value} {elem:TypeId} {fr:Nat×Nat} (hb:w.heap[b]? = some (.cells c elem fr)) (o:Nat):w.cell? ⟨b,o,none⟩ = c[o]?:=by
 simp[World.cell?,hb]
theorem run_loadVar_at {b:Nat} {c:Array Value} {elem:TypeId} {fr:Nat×Nat} (hb:w.heap[b]? = some (.cells c elem fr)) {t:TypeId} {agg:Bool} {k:Nat}
 (ht:aggT P t=some agg) (hs:szOf P t=some k) {cells:List AVal} {o:Nat} (hc:VPre Z μ g cells (c.toList.drop o)) (ho:One ((c.toList.drop o).take cells.length))
 {a:AVal} (ha:loadC agg k cells=some a):∃v,(loadVar t ⟨b,o,none⟩).run P w=.ok v w∧VRel Z μ g a v:=by
 unfold loadC at ha
 cases agg with
 | true=>
   simp only[if_true] at ha
   split at ha
   ·rename_i hk
    obtain rfl:AVal.agg (cells.take k)=a:=by simpa using ha
    have hlen:=hc.len
    refine ⟨.agg ((c.toList.drop o).take k).toArray,?_,?_⟩
    ·simp only[loadVar,Sem.run_bind,run_isAgg' w ht,Result.andThen_ok,if_true,run_sizeOf' w hs]
     have hl :((c.toList.drop o).take k).length=k:=by rw[List.length_take];omega
     have:=run_loadCells_list (P:=P) w ⟨b,o,none⟩ ((c.toList.drop o).take k) (fun j v hj=>by
      rw[add_plain,cell_at hb]
      rw[List.getElem?_take] at hj
      split at hj
      ·rw[List.getElem?_drop] at hj
       rw[←Array.getElem?_toList];exact hj
      ·cases hj)
     rw[hl] at this
     rw[this];rfl
    ·simp only[VRel]
     refine ⟨_,rfl,?_,?_,?_⟩
     ·rw[List.size_toArray,List.length_take,List.length_take];omega
     ·exact hc.take k
     ·intro x hx
      refine ho x ?_
      have :(c.toList.drop o).take k =((c.toList.drop o).take cells.length).take k:=by rw[List.take_take,Nat.min_eq_left hk]
      have hx':x∈(c.toList.drop o).take k:=by simpa using hx
      rw[this] at hx'
      exact List.mem_of_mem_take hx'
   ·cases ha
 | false=>
   simp only[Bool.false_eq_true,if_false] at ha
   obtain ⟨v,hv,hr⟩:=hc.get (i:=0) (by rw[←List.head?_eq_getElem?];exact ha)
   refine ⟨v,?_,hr⟩
   have hv':c[o]? = some v:=by
    rw[List.getElem?_drop,Nat.add_zero] at hv
    rw[←Array.getElem?_toList];exact hv
   simp only[loadVar,Sem.run_bind,run_isAgg' w ht,Result.andThen_ok,Bool.false_eq_true,if_false,run_load,cell_at hb,hv']
theorem run_part_at {c:Array Value} {t:TypeId} {agg:Bool} {k:Nat} (ht:aggT P t=some agg) (hs:szOf P t=some k) {cells:List AVal} {o:Nat}
 (hc:VPre Z μ g cells (c.toList.drop o)) (ho:One (c.toList.drop o)) {a:AVal} (ha:loadC agg k cells=some a):∃v,(part t c o).run P w=.ok v w∧VRel Z μ g a v:=by
 unfold loadC at ha
 cases agg with
 | true=>
   simp only[if_true] at ha
   split at ha
   ·rename_i hk
    obtain rfl:AVal.agg (cells.take k)=a:=by simpa using ha
    have hlen:=hc.len
    have e :(c.extract o (o+k)).toList =(c.toList.drop o).take k:=by
     rw[Array.toList_extract,List.extract_eq_take_drop];congr 1;omega
    refine ⟨.agg (c.extract o (o+k)),?_,?_⟩
    ·simp only[part,Sem.run_bind,run_isAgg' w ht,Result.andThen_ok,if_true,run_sizeOf' w hs,Sem.run_pure]
    ·simp only[VRel]
     refine ⟨_,rfl,?_,?_,?_⟩
     ·rw[←Array.length_toList,e,List.length_take,List.length_take];omega
     ·rw[e];exact hc.take k
     ·rw[e];exact ho.take k
   ·cases ha
 | false=>
   simp only[Bool.false_eq_true,if_false] at ha
   obtain ⟨v,hv,hr⟩:=hc.get (i:=0) (by rw[←List.head?_eq_getElem?];exact ha)
   refine ⟨v,?_,hr⟩
   have hv':c[o]? = some v:=by
    rw[List.getElem?_drop,Nat.add_zero] at hv
    rw[←Array.getElem?_toList];exact hv
   simp only[part,Sem.run_bind,run_isAgg' w ht,Result.andThen_ok,Bool.false_eq_true,if_false,hv',Sem.run_pure]
theorem loadP_sound (S:Sim Z μ h g w) {t:TypeId} {agg:Bool} {k:Nat} (ht:aggT P t=some agg) (hs:szOf P t=some k) {x a:AVal} {v:Value}
 (hx:VRel Z μ g x v) (ha:loadP h agg k x=some a):∃v',(Instr.loadAt t v).run P w=.ok v' w∧VRel Z μ g a v':=by
 unfold loadP at ha
 split at ha
 ·rename_i r off s
  simp only[VRel] at hx
  obtain ⟨hsg,rfl⟩:=hx
  unfold cellsAt at ha
  split at ha
  ·rename_i cells s' hr
   split at ha
   ·rename_i hss
    subst hss
    have hrow:=S.rows r
    rw[hr] at hrow
    simp only[ORel] at hrow
    obtain ⟨_,c,elem,h1,h2,h3,h4⟩:=hrow
    simp only[Option.bind_some] at ha
    obtain ⟨v',hv',hr'⟩:=run_loadVar_at (P:=P) (o:=off) h1 ht hs (h3.drop off) (by rw[List.length_drop];exact h4.drop_take off) ha
    exact ⟨v',by simpa[Instr.loadAt,Instr.sureAddr] using hv',hr'⟩
   ·simp at ha
  ·simp at ha
 ·rename_i cells
  simp only[VRel] at hx
  obtain ⟨b,o,c,rfl,hz,hc,ho⟩:=hx
  obtain ⟨arr,elem,fr,h1,rfl⟩:=S.imm b c hz
  obtain ⟨v',hv',hr'⟩:=run_loadVar_at (P:=P) (o:=o) h1 ht hs hc ho ha
  exact ⟨v',by simpa[Instr.loadAt,Instr.sureAddr] using hv',hr'⟩
 ·cases ha
theorem arI_sound {op:BinOp} {k:IntKind} {x y:Int} {a:AVal} (hsh:isSh op=false) (ha:arI op k x y=some a) :
 ∃v,(binOp op 0 (.int k x) (.int k y)).run P w=.ok v w∧VRel Z μ g a v∧∀t,binOp op t (.int k x) (.int k y)=binOp op 0 (.int k x) (.int k y):=by
 unfold arI at ha
 cases op<;>simp only[isSh,Bool.true_eq_false] at hsh<;>simp only at ha
 all_goals first
  | (split at ha
     ·cases ha
      refine ⟨_,?_,by simp only[VRel];rfl,fun _=>rfl⟩
      simp_all[binOp,Op.intDiv]
     ·cases ha)
  | (cases ha
     refine ⟨_,?_,by simp only[VRel];rfl,fun _=>rfl⟩
     simp[binOp,Op.intArith,Op.intBits,Op.intCmp,bitI])
theorem shI_sound {op:BinOp} {k k':IntKind} {x y:Int} {a:AVal} (ha:shI op k x y=some a) :
 ∃v,(binOp op 0 (.int k x) (.int k' y)).run P w=.ok v w∧VRel Z μ g a v∧∀t,binOp op t (.int k x) (.int k' y)=binOp op 0 (.int k x) (.int k' y):=by
 unfold shI at ha
 split at ha
 all_goals first
  | (cases ha;done)
  | (split at ha
     ·cases ha
      rename_i hb
      refine ⟨_,?_,by simp only[VRel];rfl,fun _=>rfl⟩
      simp[binOp,Op.shift,show ¬y<0 by omega]
     ·cases ha)
theorem oInt {k:IntKind} {x:Int} {v:Value} (hx:VRel Z μ g (.int k x) v):v=.int k x:=by simpa[VRel] using hx
theorem guardInt (op:BinOp) (t:TypeId) (x y:Operand) (k k':IntKind) (a b:Int) :(eqGuard op t x y (.int k a) (.int k' b)).run P w=.ok () w:=by
 unfold eqGuard
 cases op<;>simp
theorem abin_sound {op:BinOp} {t:TypeId} {x y:Operand} {a b r:AVal} {u v:Value} (hu:VRel Z μ g a u) (hv:VRel Z μ g b v) (hr:abin op a b=some r) :
 ∃z,((do eqGuard op t x y u v;binOp op t u v):Sem Value).run P w=.ok z w∧VRel Z μ g r z:=by
 unfold abin at hr
 split at hr
 ·rename_i k x' k' y'
  have hu:=oInt hu
  have hv:=oInt hv
  subst hu;subst hv
  simp only[Sem.run_bind,guardInt,Result.andThen_ok]
  split at hr
  ·obtain ⟨z,h1,h2,h3⟩:=shI_sound (P:=P) (Z:=Z) (μ:=μ) (g:=g) (w:=w) (k':=k') hr
   exact ⟨z,by rw[h3];exact h1,h2⟩
  ·rename_i hs
   split at hr
   ·rename_i hk
    subst hk
    obtain ⟨z,h1,h2,h3⟩:=arI_sound (P:=P) (Z:=Z) (μ:=μ) (g:=g) (w:=w) (by simpa using hs) hr
    exact ⟨z,by rw[h3];exact h1,h2⟩
   ·cases hr
 ·rename_i x' y'
  simp only[VRel] at hu hv
  obtain ⟨p,rfl,hp⟩:=hu
  obtain ⟨q,rfl,hq⟩:=hv
  have hg :(eqGuard op t x y (.string p) (.string q)).run P w=.ok () w:=by unfold eqGuard;cases op<;>simp
  simp only[Sem.run_bind,hg,Result.andThen_ok]
  have e :(p.toList == q.toList) =(x' == y'):=by rw[ByteArray.toList_eq,ByteArray.toList_eq,hp,hq]
  split at hr
  ·split at hr
   ·rename_i hlen
    cases hr
    have hps:p.size=x'.length:=by rw[←hp];rfl
    have hqs:q.size=y'.length:=by rw[←hq];rfl
    refine ⟨.string (p++q),?_,?_⟩
    ·simp only[binOp,Op.stringOp]
     rw[if_neg]
     ·rfl
     ·rw[hps,hqs]
      have:IntKind.i64.max=9223372036854775807:=by decide
      omega
    ·simp only[VRel]
     exact ⟨_,rfl,by rw[←hp,←hq];simp⟩
   ·cases hr
  ·cases hr
   refine ⟨_,?_,by simp only[VRel];rfl⟩
   simp[binOp,Op.stringOp,e]
  ·cases hr
   refine ⟨_,?_,by simp only[VRel];rfl⟩
   simp[binOp,Op.stringOp,e]
  ·cases hr
 ·cases hr
theorem eqB_sound {neg:Bool} {t:TypeId} {x y:Operand} {p q:Bool} (ht:P.underlying t=some .bool) :
 ((do eqGuard (if neg then .neq else .eql) t x y (.bool p) (.bool q);binOp (if neg then .neq else .eql) t (.bool p) (.bool q)):Sem Value).run P w=.ok (.bool (if neg then !(p == q) else p == q)) w:=by
 have hg :(eqGuard (if neg then .neq else .eql) t x y (.bool p) (.bool q)).run P w=.ok () w:=by unfold eqGuard;cases neg<;>simp
 simp only[Sem.run_bind,hg,Result.andThen_ok]
 have he:=run_equalIn_bool' (P:=P) w 9999 t p q ht
 cases neg
 ·simp only[binOp,Op.equal,Op.maxDepth,Sem.run_bind,Bool.false_eq_true,if_false]
  rw[he];rfl
 ·simp only[binOp,Op.equal,Op.maxDepth,Sem.run_bind,if_true]
  rw[he];rfl
theorem aun_sound {op:UnOp} {a r:AVal} {u:Value} (hu:VRel Z μ g a u) (hr:aun op a=some r):∃z,(Op.unary op u).run P w=.ok z w∧VRel Z μ g r z:=by
 unfold aun at hr
 split at hr
 ·have hu:=oInt hu
  subst hu
  split at hr<;>cases hr<;>exact ⟨_,rfl,by simp only[VRel,bitI]<;>rfl⟩
 ·simp only[VRel] at hu
  subst hu
  split at hr<;>cases hr<;>exact ⟨_,rfl,by simp only[VRel]⟩
 ·cases hr
def NilShape (kd:NilK) (u:Value) (r:Bool):Prop:=
 match kd with
 | .p=>∃p,u=.pointer p∧r=p.isNone
 | .s=>∃p l c,u=.slice p l c∧r=p.isNone
 | .m=>∃p,u=.map p∧r=p.isNone
 | .f=>(u=.nilFunc∧r=true)∨∃x y z,u=.func x y z∧r=false
 | .i=>(u=.nilIface∧r=true)∨∃x y,u=.iface x y∧r=false
theorem isNil_shape {kd:NilK} {a:AVal} {u:Value} {r:Bool} (hu:VRel Z μ g a u) (hr:isNil kd a=some r):NilShape kd u r:=by
 unfold isNil at hr
 cases kd<;>simp only at hr<;>split at hr<;>cases hr<;>simp only[VRel] at hu<;>simp only[NilShape]
 ·exact ⟨_,hu,by simp⟩
 ·exact ⟨_,hu.2,by simp⟩
 ·obtain ⟨b,o,c,h1,_⟩:=hu;exact ⟨_,h1,by simp⟩
 ·exact ⟨_,_,_,hu,by simp⟩
 ·obtain ⟨_,c,h1,_⟩:=hu;exact ⟨_,_,_,h1,by simp⟩
 ·obtain ⟨a,c',h1,_,h2⟩:=hu
  rcases h2 with h2|⟨b,o,c,h2,_⟩
  ·simp at h2
  ·subst h2;exact ⟨_,_,_,h1,by simp⟩
 ·exact ⟨_,hu,by simp⟩
 ·exact ⟨_,hu.2,by simp⟩
 ·exact .inl ⟨hu,by simp⟩
 ·obtain ⟨_,f',c',h1,_⟩:=hu;exact .inr ⟨_,_,_,h1,by simp⟩
 ·exact .inr ⟨_,_,_,hu.2,by simp⟩
 ·exact .inl ⟨hu,by simp⟩
 ·obtain ⟨v',h1,_⟩:=hu;exact .inr ⟨_,_,h1,by simp⟩
theorem equal_once (t:TypeId) (u c:Value):Op.equal t u c=Op.equalIn (9999+1) t u c:=rfl
theorem isNil_sound {kd:NilK} {neg:Bool} {t:TypeId} {d:TypeDesc} {a:AVal} {u c:Value} {r:Bool} (ht:P.underlying t=some d) (hd:nilT d=some kd) {x:Operand}
 (hu:VRel Z μ g a u) (hr:isNil kd a=some r) (hc:nilC kd c=true) :
 ((do eqGuard (if neg then .neq else .eql) t x (.const c) u c;binOp (if neg then .neq else .eql) t u c):Sem Value).run P w=.ok (.bool (if neg then !r else r)) w:=by
 have key :(Op.equal t u c).run P w=.ok r w∧(eqGuard (if neg then .neq else .eql) t x (.const c) u c).run P w=.ok () w∧
  binOp .eql t u c =(do pure (.bool (←Op.equal t u c)))∧binOp .neq t u c =(do pure (.bool (!(←Op.equal t u c)))):=by
  have hs:=isNil_shape hu hr
  unfold nilT at hd
  unfold nilC at hc
  cases kd<;>simp only[NilShape] at hs
  ·obtain ⟨p,rfl,rfl⟩:=hs
   split at hd<;>cases hd
   split at hc<;>first|cases hc;done|skip
   all_goals first|(rename_i hk;cases hk;done)|skip
   cases p<;>exact ⟨by rw[equal_once,Op.equalIn];simp[run_underlying ht],by unfold eqGuard;cases neg<;>simp,rfl,rfl⟩
  ·obtain ⟨p,l,c',rfl,rfl⟩:=hs
   split at hd<;>cases hd
   split at hc<;>first|cases hc;done|skip
   all_goals first|(rename_i hk;cases hk;done)|skip
   cases p<;>exact ⟨by rw[equal_once,Op.equalIn];simp[run_underlying ht],by unfold eqGuard;cases neg<;>simp,rfl,rfl⟩
  ·obtain ⟨p,rfl,rfl⟩:=hs
   split at hd<;>cases hd
   split at hc<;>first|cases hc;done|skip
   all_goals first|(rename_i hk;cases hk;done)|skip
   cases p<;>exact ⟨by rw[equal_once,Op.equalIn];simp[run_underlying ht],by unfold eqGuard;cases neg<;>simp,rfl,rfl⟩
  ·split at hd<;>cases hd
   split at hc<;>first|cases hc;done|skip
   all_goals first|(rename_i hk;cases hk;done)|skip
   rcases hs with ⟨rfl,rfl⟩ | ⟨x',y',z',rfl,rfl⟩<;>exact ⟨by rw[equal_once,Op.equalIn];simp[run_underlying ht],by unfold eqGuard;cases neg<;>simp,rfl,rfl⟩
  ·split at hd<;>cases hd
   split at hc<;>first|cases hc;done|skip
   all_goals first|(rename_i hk;cases hk;done)|skip
   rcases hs with ⟨rfl,rfl⟩ | ⟨x',y',rfl,rfl⟩<;>exact ⟨by rw[equal_once,Op.equalIn];simp[run_underlying ht],by unfold eqGuard;cases neg<;>simp,rfl,rfl⟩
 obtain ⟨h1,h2,h3,h4⟩:=key
 simp only[Sem.run_bind,h2,Result.andThen_ok]
 cases neg
 ·simp only[Bool.false_eq_true,if_false,h3,Sem.run_bind,h1,Result.andThen_ok,Sem.run_pure]
 ·simp only[if_true,h4,Sem.run_bind,h1,Result.andThen_ok,Sem.run_pure]
end Go.Cw
end
section
namespace Go.Cw
open Go
variable {P : Program} {Z:Snap} {μ:Mu} {h:Heap} {g:Nat} {w:World}
def Shaped (P:Program) (Z:Snap) (μ:Mu) (g:Nat) (t:TypeId) (as:List AVal) (u:Value):Prop:=
 (aggT P t=some true∧∃l:Array Value,u=.agg l∧l.size=as.length∧VPre Z μ g as l.toList)∨(aggT P t=some false∧∃a,as=[a]∧VRel Z μ g a u)
theorem flatN_size {d:Nat} {t:TypeId} {n:List Kd} (hf:flatN P d t=some n):szOf P t=some n.length:=by
 cases d with
 | zero=>simp[flatN] at hf
 | succ d=>
   simp only[flatN] at hf
   split at hf
   ·split at hf<;>cases hf;assumption
   ·split at hf<;>cases hf;assumption
   ·split at hf<;>cases hf;assumption
   ·split at hf
    ·split at hf<;>cases hf
     rename_i hs;exact hs.2
    ·cases hf
   ·split at hf
    ·split at hf<;>cases hf
     rename_i hs;rw[hs];simp
    ·cases hf
   ·cases hf
theorem flatN_agg {d:Nat} {t:TypeId} {n:List Kd} (hf:flatN P d t=some n):∃b,aggT P t=some b∧(b=false→n.length=1):=by
 cases d with
 | zero=>simp[flatN] at hf
 | succ d=>
   simp only[flatN] at hf
   unfold aggT
   split at hf <;>(try rename_i hu) <;>(try simp only[hu,Option.map_some])
   ·exact ⟨_,rfl,fun _=>by split at hf<;>cases hf;rfl⟩
   ·exact ⟨_,rfl,fun _=>by split at hf<;>cases hf;rfl⟩
   ·exact ⟨_,rfl,fun _=>by split at hf<;>cases hf;rfl⟩
   ·exact ⟨_,rfl,fun hx=>by simp[aggD] at hx⟩
   ·exact ⟨_,rfl,fun hx=>by simp[aggD] at hx⟩
   ·cases hf
theorem shaped_part {d:Nat} {t:TypeId} {n:List Kd} (hf:flatN P d t=some n) {l:Array Value} {as:List AVal} {off:Nat} (hv:VPre Z μ g as (l.toList.drop off)) (hn:n.length≤as.length) :
 ∃u,(∀w:World,(part t l off).run P w=.ok u w)∧Shaped P Z μ g t (as.take n.length) u:=by
 obtain ⟨b,hb,h1⟩:=flatN_agg hf
 have hs:=flatN_size hf
 have hlen:=hv.len
 cases b with
 | true=>
   have e :(l.extract off (off+n.length)).toList =(l.toList.drop off).take n.length:=by
    rw[Array.toList_extract,List.extract_eq_take_drop];congr 1;omega
   refine ⟨.agg (l.extract off (off+n.length)),fun w=>?_,.inl ⟨hb,_,rfl,?_,?_⟩⟩
   ·simp only[part,Sem.run_bind,run_isAgg' w hb,Result.andThen_ok,if_true,run_sizeOf' w hs,Sem.run_pure]
   ·rw[←Array.length_toList,e,List.length_take,List.length_take];omega
   ·rw[e];exact hv.take n.length
 | false=>
   have h1:=h1 rfl
   cases as with
   | nil=>simp[h1] at hn
   | cons a as=>
     obtain ⟨v,hv',hr⟩:=hv.get (i:=0) rfl
     have hv'':l[off]? = some v:=by
      rw[List.getElem?_drop,Nat.add_zero] at hv'
      rw[←Array.getElem?_toList];exact hv'
     refine ⟨v,fun w=>?_,.inr ⟨hb,a,by simp[h1],hr⟩⟩
     simp only[part,Sem.run_bind,run_isAgg' w hb,Result.andThen_ok,Bool.false_eq_true,if_false,hv'',Sem.run_pure]
theorem flatEq_len : ∀{ks:List Kd} {as bs:List AVal} {r:Bool},flatEq ks as bs=some r→as.length=ks.length∧bs.length=ks.length
 | [],as,bs,r,he=>by
   cases as<;>cases bs<;>simp[flatEq] at he ⊢
 | k::ks,as,bs,r,he=>by
   unfold flatEq at he
   split at he
   ·simp at *
   ·split at he
    ·obtain ⟨r',hr',_⟩:=Option.map_eq_some_iff.1 he
     have:=flatEq_len hr'
     simp_all
    ·cases he
   ·obtain ⟨r',hr',_⟩:=Option.map_eq_some_iff.1 he
    have:=flatEq_len hr'
    simp_all
   ·obtain ⟨r',hr',_⟩:=Option.map_eq_some_iff.1 he
    have:=flatEq_len hr'
    simp_all
   ·cases he
theorem flatEq_split : ∀{ks ks':List Kd} {as bs:List AVal} {r:Bool},flatEq (ks++ks') as bs=some r→
 ∃r₁ r₂,flatEq ks (as.take ks.length) (bs.take ks.length)=some r₁∧flatEq ks' (as.drop ks.length) (bs.drop ks.length)=some r₂∧r =(r₁ && r₂)
 | [],ks',as,bs,r,he=>⟨true,r,by simp[flatEq],by simpa using he,by simp⟩
 | k::ks,ks',as,bs,r,he=>by
   rw[List.cons_append] at he
   unfold flatEq at he
   split at he
   ·simp at *
   ·rename_i h3
    injection h3 with e1 e2
    subst e1;subst e2
    split at he
    ·rename_i hk
     obtain ⟨r',hr',rfl⟩:=Option.map_eq_some_iff.1 he
     obtain ⟨q₁,q₂,h4,h5,rfl⟩:=flatEq_split hr'
     exact ⟨_,q₂,by simp only[List.length_cons,List.take_succ_cons,flatEq,h4,if_pos hk,Option.map_some];rfl,by simpa using h5,by rw[Bool.and_assoc]⟩
    ·cases he
   ·rename_i h3
    injection h3 with e1 e2
    subst e1;subst e2
    obtain ⟨r',hr',rfl⟩:=Option.map_eq_some_iff.1 he
    obtain ⟨q₁,q₂,h4,h5,rfl⟩:=flatEq_split hr'
    exact ⟨_,q₂,by simp only[List.length_cons,List.take_succ_cons,flatEq,h4,Option.map_some];rfl,by simpa using h5,by rw[Bool.and_assoc]⟩
   ·rename_i h3
    injection h3 with e1 e2
    subst e1;subst e2
    obtain ⟨r',hr',rfl⟩:=Option.map_eq_some_iff.1 he
    obtain ⟨q₁,q₂,h4,h5,rfl⟩:=flatEq_split hr'
    exact ⟨_,q₂,by simp only[List.length_cons,List.take_succ_cons,flatEq,h4,Option.map_some];rfl,by simpa using h5,by rw[Bool.and_assoc]⟩
   ·cases he
theorem one_i {a b:AVal} {r:Bool} (he:flatEq [.i] [a] [b]=some r):∃k x y,a=.int k x∧b=.int k y∧r =(x == y):=by
 cases a<;>cases b<;>simp[flatEq] at he
 obtain ⟨rfl,rfl⟩:=he
 exact ⟨_,_,_,rfl,rfl,rfl⟩
theorem one_b {a b:AVal} {r:Bool} (he:flatEq [.b] [a] [b]=some r):∃x y,a=.bool x∧b=.bool y∧r =(x == y):=by
 unfold flatEq at he
 split at he<;>simp_all[flatEq]
theorem one_s {a b:AVal} {r:Bool} (he:flatEq [.s] [a] [b]=some r):∃x y,a=.str x∧b=.str y∧r =(x == y):=by
 unfold flatEq at he
 split at he<;>simp_all[flatEq]
theorem eqFields_sound {d dd:Nat} (hdd:d≤dd)
 (ih:∀(t:TypeId) (ks:List Kd),flatN P d t=some ks→∀(as bs:List AVal) (r:Bool) (u v:Value),flatEq ks as bs=some r→Shaped P Z μ g t as u→Shaped P Z μ g t bs v→
   ∀(dd:Nat) (w:World),d≤dd→(Op.equalIn dd t u v).run P w=.ok r w) {xs ys:Array Value} :
 ∀(fs:List Field) (off:Nat) (n:List Kd) (as bs:List AVal) (r:Bool),flatFs P (flatN P d) fs off=some n→flatEq n as bs=some r→
  VPre Z μ g as (xs.toList.drop off)→VPre Z μ g bs (ys.toList.drop off)→∀w:World,(Op.eqFields dd xs ys fs).run P w=.ok r w
 | [],off,n,as,bs,r,hf,he,_,_,w=>by
   simp only[flatFs,Option.some.injEq] at hf
   subst hf
   cases as<;>cases bs<;>simp[flatEq] at he
   subst he
   simp[Op.eqFields]
 | f::fs,off,n,as,bs,r,hf,he,ha,hb,w=>by
   simp only[flatFs] at hf
   split at hf
   ·rename_i hcond
    split at hf
    ·rename_i n₁ hn₁
     obtain ⟨n₂,hn₂,rfl⟩:=Option.map_eq_some_iff.1 hf
     obtain ⟨la,lb⟩:=flatEq_len he
     rw[List.length_append] at la lb
     obtain ⟨r₁,r₂,h1,h2,rfl⟩:=flatEq_split he
     obtain ⟨u₁,hu₁,su⟩:=shaped_part (P:=P) hn₁ ha (by omega)
     obtain ⟨v₁,hv₁,sv⟩:=shaped_part (P:=P) hn₁ hb (by omega)
     have hr₁:=ih _ _ hn₁ _ _ _ _ _ h1 su sv dd w hdd
     have hr₂:=eqFields_sound hdd ih fs (off+n₁.length) n₂ _ _ r₂ hn₂ h2 (by rw[←List.drop_drop];exact ha.drop _) (by rw[←List.drop_drop];exact hb.drop _) w
     simp only[Op.eqFields,if_pos hcond.1,Sem.run_bind,hcond.2,hu₁,hv₁,Result.andThen_ok,hr₁,Sem.run_ite,hr₂]
     cases r₁<;>simp
    ·cases hf
   ·cases hf
theorem run_arr (F:Nat→Sem Bool):∀(k i:Nat) (r:Nat→Bool) (w:World),(∀j,i≤j→j<i+k→(∀j',i≤j'→j'<j→r j'=true)→(F j).run P w=.ok (r j) w)→
 ((forIn (m:=Sem) (List.range' i k) ((none:Option Bool),()) fun i _=>do
   let b ←F i
   if (!b)=true then pure (ForInStep.done (some false,())) else pure (ForInStep.yield (none,()))):Sem (Option Bool×Unit)).run P w
 = .ok (if (List.range' i k).all r then (none,()) else (some false,())) w
 | 0,i,_,_,_=>by simp
 | k+1,i,r,w,hF=>by
   have h0:=hF i (Nat.le_refl _) (by omega) (fun j' a b=>by omega)
   simp only[List.range'_succ,List.forIn_cons,Sem.run_bind,h0,Result.andThen_ok,List.all_cons]
   cases hr:r i
   ·simp
   ·have ih:=run_arr F k (i+1) r w (fun j a b c=>hF j (by omega) (by omega) fun j' d e=>by
     by_cases hj:j'=i
     ·subst hj;exact hr
     ·exact c j' (by omega) e)
    simp only[Bool.true_and]
    simpa using ih
theorem rep_split (n:List Kd):∀(len:Nat) {as bs:List AVal} {r:Bool},flatEq (List.replicate len n).flatten as bs=some r→
 ∃q:Nat→Bool,r =(List.range' 0 len).all q∧∀j,j<len→flatEq n ((as.drop (j*n.length)).take n.length) ((bs.drop (j*n.length)).take n.length)=some (q j)
 | 0,as,bs,r,he=>by
   cases as<;>cases bs<;>simp[flatEq] at he
   exact ⟨fun _=>true,by simp[he],fun j hj=>by omega⟩
 | len+1,as,bs,r,he=>by
   rw[List.replicate_succ,List.flatten_cons] at he
   obtain ⟨r₁,r₂,h1,h2,rfl⟩:=flatEq_split he
   obtain ⟨q,rfl,hq⟩:=rep_split n len h2
   refine ⟨fun j=>match j with|0=>r₁|j+1=>q j,?_,fun j hj=>?_⟩
   ·rw[List.range'_succ,List.all_cons]
    congr 1
    rw[List.range'_eq_map_range,List.range'_eq_map_range,List.all_map,List.all_map]
    apply List.all_congr rfl
    intro x
    simp[Nat.add_comm 1 x]
   ·cases j with
    | zero=>simpa using h1
    | succ j=>
      have:=hq j (by omega)
      rw[List.drop_drop,List.drop_drop] at this
      have e:n.length+j*n.length =(j+1)*n.length:=by rw[Nat.succ_mul];omega
      rw[e] at this
      exact this
theorem flat_eq : ∀(d:Nat) (t:TypeId) (ks:List Kd),flatN P d t=some ks→∀(as bs:List AVal) (r:Bool) (u v:Value),flatEq ks as bs=some r→Shaped P Z μ g t as u→Shaped P Z μ g t bs v→
 ∀(dd:Nat) (w:World),d≤dd→(Op.equalIn dd t u v).run P w=.ok r w
 | 0,_,_,hf,_,_,_,_,_,_,_,_,_,_,_=>by simp[flatN] at hf
 | d+1,t,ks,hf,as,bs,r,u,v,he,su,sv,dd,w,hdd=>by
   obtain ⟨dd,rfl⟩ : ∃k,dd=k+1:=⟨dd - 1,by omega⟩
   have basic:aggT P t=some false→∃a b,as=[a]∧bs=[b]∧VRel Z μ g a u∧VRel Z μ g b v:=by
    intro hb
    rcases su with ⟨h,_⟩ | ⟨_,a,rfl,h1⟩
    ·rw[hb] at h;cases h
    ·rcases sv with ⟨h,_⟩ | ⟨_,b,rfl,h2⟩
     ·rw[hb] at h;cases h
     ·exact ⟨a,b,rfl,rfl,h1,h2⟩
   have aggr:aggT P t=some true→∃l m:Array Value,u=.agg l∧v=.agg m∧VPre Z μ g as l.toList∧VPre Z μ g bs m.toList:=by
    intro hb
    rcases su with ⟨_,l,rfl,_,h1⟩ | ⟨h,_⟩
    ·rcases sv with ⟨_,m,rfl,_,h2⟩ | ⟨h,_⟩
     ·exact ⟨l,m,rfl,rfl,h1,h2⟩
     ·rw[hb] at h;cases h
    ·rw[hb] at h;cases h
   simp only[flatN] at hf
   split at hf
   ·rename_i hu
    split at hf<;>cases hf
    obtain ⟨a,b,rfl,rfl,h1,h2⟩:=basic (by simp[aggT,hu,aggD])
    obtain ⟨x,y,rfl,rfl,rfl⟩:=one_b he
    simp only[VRel] at h1 h2
    subst h1;subst h2
    exact run_equalIn_bool' w dd t _ _ hu
   ·rename_i hu
    split at hf<;>cases hf
    obtain ⟨a,b,rfl,rfl,h1,h2⟩:=basic (by simp[aggT,hu,aggD])
    obtain ⟨k,x,y,rfl,rfl,rfl⟩:=one_i he
    simp only[VRel] at h1 h2
    subst h1;subst h2
    exact run_equalIn_int w dd t _ _ _ _ hu
   ·rename_i hu
    split at hf<;>cases hf
    obtain ⟨a,b,rfl,rfl,h1,h2⟩:=basic (by simp[aggT,hu,aggD])
    obtain ⟨x,y,rfl,rfl,rfl⟩:=one_s he
    simp only[VRel] at h1 h2
    obtain ⟨p,rfl,hp⟩:=h1
    obtain ⟨q,rfl,hq⟩:=h2
    rw[run_equalIn_string w dd t _ _ hu,ByteArray.toList_eq,ByteArray.toList_eq,hp,hq]
   ·rename_i fs hu
    split at hf
    ·rename_i n hn
     split at hf<;>cases hf
     rename_i hc
     obtain ⟨l,m,rfl,rfl,h1,h2⟩:=aggr (by simp[aggT,hu,aggD])
     have hfo:P.fieldsOf t=fs:=by simp[Program.fieldsOf,hu]
     rw[run_equalIn_struct w dd t l m (by rw[hfo];exact hu) hc.1,hfo]
     exact eqFields_sound (by omega) (flat_eq d) fs.toList 0 _ as bs r hn he (by simpa using h1) (by simpa using h2) w
    ·cases hf
   ·rename_i len e hu
    split at hf
    ·rename_i n hn
     split at hf<;>cases hf
     obtain ⟨l,m,rfl,rfl,h1,h2⟩:=aggr (by simp[aggT,hu,aggD])
     rw[Op.equalIn]
     simp only[Sem.run_bind,run_underlying hu,Result.andThen_ok,run_sizeOf' _ (flatN_size hn)]
     obtain ⟨q,rfl,hq⟩:=rep_split n len he
     have hl:=flatEq_len he
     have hlen :(List.replicate len n).flatten.length=len*n.length:=by simp
     rw[hlen] at hl
     have key:∀j,j<len→(do
      let x ←part e l (j*n.length)
      let y ←part e m (j*n.length)
      Op.equalIn dd e x y:Sem Bool).run P w=.ok (q j) w:=by
      intro j hj
      have hj':j*n.length+n.length≤len*n.length:=by
       have:=Nat.mul_le_mul_right n.length (show j+1≤len by omega)
       rw[Nat.succ_mul] at this;exact this
      obtain ⟨u₁,hu₁,s₁⟩:=shaped_part (P:=P) hn (h1.drop (j*n.length)) (by rw[List.length_drop];omega)
      obtain ⟨v₁,hv₁,s₂⟩:=shaped_part (P:=P) hn (h2.drop (j*n.length)) (by rw[List.length_drop];omega)
      simp only[Sem.run_bind,hu₁,hv₁,Result.andThen_ok]
      exact flat_eq d e n hn _ _ _ _ _ (hq j hj) s₁ s₂ dd w (by omega)
     have:=run_arr (P:=P) (fun j=>do
      let x ←part e l (j*n.length)
      let y ←part e m (j*n.length)
      Op.equalIn dd e x y) len 0 q w (fun j _ hj _=>key j (by omega))
     simp only[bind_assoc] at this
     rw[Std.Legacy.Range.forIn_eq_forIn_range']
     simp only[Std.Legacy.Range.size,Nat.sub_zero,Nat.add_sub_cancel,Nat.div_one]
     rw[this]
     cases hall :(List.range' 0 len).all q<;>simp
    ·cases hf
   ·cases hf
end Go.Cw
end
section
namespace Go.Cw
open Go
variable {P : Program} {Z:Snap} {μ:Mu} {h:Heap} {g:Nat} {w:World}
theorem keyN_spec {t:TypeId} {kn:Bool×List Kd} (hk:keyN P t=some kn):flatN P 8 t=some kn.2∧aggT P t=some kn.1:=by
 unfold keyN at hk
 split at hk<;>cases hk
 exact ⟨‹_›,‹_›⟩
theorem key_shaped {t:TypeId} {kn:Bool×List Kd} (hk:keyN P t=some kn) {a b:AVal} {r:Bool} (he:keyEq kn a b=some r) {u v:Value} (hu:VRel Z μ g a u) (hv:VRel Z μ g b v) :
 ∃as bs,flatEq kn.2 as bs=some r∧Shaped P Z μ g t as u∧Shaped P Z μ g t bs v:=by
 obtain ⟨_,hagg⟩:=keyN_spec hk
 obtain ⟨b₀,ks⟩:=kn
 unfold keyEq at he
 cases b₀ with
 | true=>
   simp only[if_true] at he
   split at he
   ·rename_i as bs
    simp only[VRel] at hu hv
    obtain ⟨l,rfl,h1,h2,_⟩:=hu
    obtain ⟨m,rfl,h3,h4,_⟩:=hv
    exact ⟨as,bs,he,.inl ⟨hagg,l,rfl,h1,h2⟩,.inl ⟨hagg,m,rfl,h3,h4⟩⟩
   ·cases he
 | false=>
   simp only[Bool.false_eq_true,if_false] at he
   exact ⟨[a],[b],he,.inr ⟨hagg,a,rfl,hu⟩,.inr ⟨hagg,b,rfl,hv⟩⟩
theorem key_self {t:TypeId} {kn:Bool×List Kd} (hk:keyN P t=some kn) {a:AVal} (he:keyOk kn a=true) {u:Value} (hu:VRel Z μ g a u) :
 ∃as r,flatEq kn.2 as as=some r∧Shaped P Z μ g t as u:=by
 obtain ⟨_,hagg⟩:=keyN_spec hk
 obtain ⟨b₀,ks⟩:=kn
 unfold keyOk at he
 obtain ⟨r,he⟩:=Option.isSome_iff_exists.1 he
 unfold keyEq at he
 cases b₀ with
 | true=>
   simp only[if_true] at he
   split at he
   ·rename_i as h2
    simp only[VRel] at hu
    obtain ⟨l,rfl,h1,h2,_⟩:=hu
    exact ⟨as,r,he,.inl ⟨hagg,l,rfl,h1,h2⟩⟩
   ·cases he
 | false=>
   simp only[Bool.false_eq_true,if_false] at he
   exact ⟨[a],r,he,.inr ⟨hagg,a,rfl,hu⟩⟩
theorem equal_key {t:TypeId} {kn:Bool×List Kd} (hk:keyN P t=some kn) {a b:AVal} {r:Bool} (he:keyEq kn a b=some r) {u v:Value} (hu:VRel Z μ g a u) (hv:VRel Z μ g b v) :
 (Op.equal t u v).run P w=.ok r w:=by
 obtain ⟨as,bs,h1,h2,h3⟩:=key_shaped hk he hu hv
 exact flat_eq 8 t kn.2 (keyN_spec hk).1 as bs r u v h1 h2 h3 10000 w (by omega)
theorem run_forUnit {α:Type} (F:α→Sem Unit) (w:World):∀(l:List α),(∀x∈l,(F x).run P w=.ok () w)→
 ((forIn (m:=Sem) l () fun x _=>do F x;pure (ForInStep.yield ())):Sem Unit).run P w=.ok () w
 | [],_=>by simp
 | x::l,hF=>by
   have ih:=run_forUnit F w l fun y hy=>hF y (List.mem_cons_of_mem _ hy)
   simp only[List.forIn_cons,Sem.run_bind,hF x (List.mem_cons_self),Result.andThen_ok,Sem.run_pure]
   exact ih
theorem checkFields {d dd:Nat} {empty:Bool} (hdd:d≤dd)
 (ih:∀(t:TypeId) (ks:List Kd),flatN P d t=some ks→∀(as:List AVal) (r:Bool) (u:Value),flatEq ks as as=some r→Shaped P Z μ g t as u→
   ∀(dd:Nat) (w:World),d≤dd→(Instr.checkKey empty dd t u).run P w=.ok () w) {xs:Array Value} :
 ∀(fs:List Field) (off:Nat) (n:List Kd) (as:List AVal) (r:Bool),flatFs P (flatN P d) fs off=some n→flatEq n as as=some r→
  VPre Z μ g as (xs.toList.drop off)→∀w:World,((forIn (m:=Sem) fs () fun f _=>
   if f.name≠ "_" then do
    let x ←part f.type xs f.offset
    Instr.checkKey empty dd f.type x
    pure (ForInStep.yield ())
   else pure (ForInStep.yield ())):Sem Unit).run P w=.ok () w
 | [],off,n,as,r,_,_,_,w=>by simp
 | f::fs,off,n,as,r,hf,he,ha,w=>by
   simp only[flatFs] at hf
   split at hf
   ·rename_i hcond
    split at hf
    ·rename_i n₁ hn₁
     obtain ⟨n₂,hn₂,rfl⟩:=Option.map_eq_some_iff.1 hf
     obtain ⟨la,_⟩:=flatEq_len he
     rw[List.length_append] at la
     obtain ⟨r₁,r₂,h1,h2,rfl⟩:=flatEq_split he
     obtain ⟨u₁,hu₁,su⟩:=shaped_part (P:=P) hn₁ ha (by omega)
     have hr₁:=ih _ _ hn₁ _ _ _ h1 su dd w hdd
     have hr₂:=checkFields hdd ih fs (off+n₁.length) n₂ _ r₂ hn₂ h2 (by rw[←List.drop_drop];exact ha.drop _) w
     simp only[List.forIn_cons,if_pos hcond.1,Sem.run_bind,hcond.2,hu₁,Result.andThen_ok,hr₁,Sem.run_pure]
     exact hr₂
    ·cases hf
   ·cases hf
theorem check_key : ∀(d:Nat) (empty:Bool) (t:TypeId) (ks:List Kd),flatN P d t=some ks→∀(as:List AVal) (r:Bool) (u:Value),flatEq ks as as=some r→Shaped P Z μ g t as u→
 ∀(dd:Nat) (w:World),d≤dd→(Instr.checkKey empty dd t u).run P w=.ok () w
 | 0,_,_,_,hf,_,_,_,_,_,_,_,_=>by simp[flatN] at hf
 | d+1,empty,t,ks,hf,as,r,u,he,su,dd,w,hdd=>by
   obtain ⟨dd,rfl⟩ : ∃k,dd=k+1:=⟨dd - 1,by omega⟩
   have aggr:aggT P t=some true→∃l:Array Value,u=.agg l∧VPre Z μ g as l.toList:=by
    intro hb
    rcases su with ⟨_,l,rfl,_,h1⟩ | ⟨h,_⟩
    ·exact ⟨l,rfl,h1⟩
    ·rw[hb] at h;cases h
   simp only[flatN] at hf
   split at hf
   ·rename_i hu
    rw[Instr.checkKey]
    simp[run_underlying hu]
   ·rename_i hu
    rw[Instr.checkKey]
    simp[run_underlying hu]
   ·rename_i hu
    rw[Instr.checkKey]
    simp[run_underlying hu]
   ·rename_i fs hu
    split at hf
    ·rename_i n hn
     split at hf<;>cases hf
     obtain ⟨l,rfl,h1⟩:=aggr (by simp[aggT,hu,aggD])
     rw[Instr.checkKey]
     simp only[Sem.run_bind,run_underlying hu,Result.andThen_ok]
     rw[←Array.forIn_toList]
     have:=checkFields (P:=P) (empty:=empty) (dd:=dd) (by omega) (fun t ks hk as r u he su dd w hd=>check_key d empty t ks hk as r u he su dd w hd) fs.toList 0 _ as r hn he (by simpa using h1) w
     simp at this ⊢
     erw [this]
     rfl
    ·cases hf
   ·rename_i len e hu
    split at hf
    ·rename_i n hn
     split at hf<;>cases hf
     obtain ⟨l,rfl,h1⟩:=aggr (by simp[aggT,hu,aggD])
     obtain ⟨q,rfl,hq⟩:=rep_split n len he
     have hl:=flatEq_len he
     have hlen :(List.replicate len n).flatten.length=len*n.length:=by simp
     rw[hlen] at hl
     rw[Instr.checkKey]
     simp only[Sem.run_bind,run_underlying hu,Result.andThen_ok]
     rw[Std.Legacy.Range.forIn_eq_forIn_range']
     simp only[Std.Legacy.Range.size,Nat.sub_zero,Nat.add_sub_cancel,Nat.div_one]
     have:=run_forUnit (P:=P) (fun j=>do
      let s ←sizeOf e
      let x ←part e l (j*s)
      Instr.checkKey empty dd e x) w (List.range' 0 len) (fun j hj=>by
      have hj:j<len:=by simpa using hj
      have hj':j*n.length+n.length≤len*n.length:=by
       have:=Nat.mul_le_mul_right n.length (show j+1≤len by omega)
       rw[Nat.succ_mul] at this;exact this
      obtain ⟨u₁,hu₁,s₁⟩:=shaped_part (P:=P) hn (h1.drop (j*n.length)) (by rw[List.length_drop];omega)
      simp only[Sem.run_bind,run_sizeOf' _ (flatN_size hn),hu₁,Result.andThen_ok]
      exact check_key d empty e n hn _ _ _ (hq j hj) s₁ dd w (by omega))
     simp at this ⊢
     erw [this]
     rfl
    ·cases hf
   ·cases hf
theorem check_key' {t:TypeId} {kn:Bool×List Kd} (hk:keyN P t=some kn) {a:AVal} (he:keyOk kn a=true) {u:Value} (hu:VRel Z μ g a u) (empty:Bool) :
 (Instr.checkKey empty 10000 t u).run P w=.ok () w:=by
 obtain ⟨as,r,h1,h2⟩:=key_self hk he hu
 exact check_key 8 empty t kn.2 (keyN_spec hk).1 as r u h1 h2 10000 w (by omega)
def EsRel (Z:Snap) (μ:Mu) (g:Nat) (es:List (AVal×AVal)) (en:List MapEntry):Prop:=
 en.length=es.length∧∀(i:Nat) (k v:AVal),es[i]? = some (k,v)→∃e,en[i]? = some e∧VRel Z μ g k e.key∧VRel Z μ g v e.val
theorem EsRel.cons {es:List (AVal×AVal)} {k v:AVal} {en:List MapEntry} (hr:EsRel Z μ g ((k,v)::es) en) :
 ∃e en',en=e::en'∧VRel Z μ g k e.key∧VRel Z μ g v e.val∧EsRel Z μ g es en':=by
 obtain ⟨h1,h2⟩:=hr
 cases en with
 | nil=>simp at h1
 | cons e en=>
   obtain ⟨e',he,h3,h4⟩:=h2 0 k v rfl
   obtain rfl:e=e':=by simpa using he
   exact ⟨e,en,rfl,h3,h4,by simpa using h1,fun i k v hi=>by simpa using h2 (i+1) k v (by simpa using hi)⟩
def found (r:Option (Nat×AVal)) (en:List MapEntry) (i:Nat):Option (Nat×Value):=
 r.bind fun x=>(en[x.1]?).map fun e=>(i+x.1,e.val)
theorem findAsking_sound {t:TypeId} {kn:Bool×List Kd} (hk:keyN P t=some kn) {a:AVal} {u:Value} (hu:VRel Z μ g a u):∀(es:List (AVal×AVal)) (en:List MapEntry) (i:Nat) (r:Option (Nat×AVal)),
 EsRel Z μ g es en→mfind kn a es=some r→(Instr.findAsking t u en i).run P w=.ok (found r en i) w
 | [],en,i,r,he,hm=>by
   obtain ⟨h1,_⟩:=he
   cases en with
   | cons _ _=>simp at h1
   | nil=>
     obtain rfl:none=r:=by simpa[mfind] using hm
     simp[Instr.findAsking,found]
 | (k,v)::es,en,i,r,he,hm=>by
   obtain ⟨e,en',rfl,h1,h2,h3⟩:=he.cons
   simp only[mfind] at hm
   split at hm
   ·cases hm
   ·rename_i hke
    obtain rfl:some (0,v)=r:=by simpa using hm
    simp[Instr.findAsking,equal_key (w:=w) hk hke hu h1,found]
   ·rename_i hke
    obtain ⟨r',hr',rfl⟩:=Option.map_eq_some_iff.1 hm
    have ih:=findAsking_sound hk hu es en' (i+1) r' h3 hr'
    simp only[Instr.findAsking,Sem.run_bind,equal_key (w:=w) hk hke hu h1,Result.andThen_ok,Bool.false_eq_true,if_false,ih]
    congr 1
    cases r' with
    | none=>rfl
    | some x=>simp[found,Nat.add_assoc,Nat.add_comm 1]
theorem findNow_sound {t:TypeId} {kn:Bool×List Kd} {d:TypeDesc} (hd:P.underlying t=some d) (hk:keyN P t=some kn) {a:AVal} {u:Value} (hu:VRel Z μ g a u) :
 ∀(es:List (AVal×AVal)) (en:List MapEntry) (i:Nat) (r:Option (Nat×AVal)) (r':Option (Nat×Value)),
 EsRel Z μ g es en→mfind kn a es=some r→Instr.findNow d u en i=some r'→r'=found r en i
 | [],en,i,r,r',he,hm,hn=>by
   obtain ⟨h1,_⟩:=he
   cases en with
   | cons _ _=>simp at h1
   | nil=>
     obtain rfl:none=r:=by simpa[mfind] using hm
     simpa[Instr.findNow,found,eq_comm] using hn
 | (k,v)::es,en,i,r,r',he,hm,hn=>by
   obtain ⟨e,en',rfl,h1,h2,h3⟩:=he.cons
   have key:∀{b q:Bool},Instr.sameNow d u e.key=some b→keyEq kn a k=some q→b=q:=by
    intro b q hb hq
    have hrun:=equal_key (P:=P) (w:=(default:World)) hk hq hu h1
    have :(Op.equal t u e.key).run P (default:World)=.ok b default:=by
     unfold Instr.sameNow at hb
     rw[equal_once]
     generalize e.key=y at hb ⊢
     split at hb
     ·split at hb<;>cases hb
      rename_i hkk
      subst hkk
      exact run_equalIn_int _ _ _ _ _ _ _ hd
     ·cases hb
      rw[run_equalIn_string _ _ _ _ _ hd,beq_toListBytes]
     ·cases hb
      exact run_equalIn_bool' _ _ _ _ _ hd
     ·cases hb
    rw[hrun] at this
    injection this with this
    exact this.symm
   simp only[mfind] at hm
   simp only[Instr.findNow] at hn
   split at hn
   ·rename_i hs
    split at hm
    ·cases hm
    ·rename_i hke
     obtain rfl:some (0,v)=r:=by simpa using hm
     simpa[found,eq_comm] using hn
    ·rename_i hke
     have:=key hs hke
     cases this
   ·rename_i hs
    split at hm
    ·cases hm
    ·rename_i hke
     have:=key hs hke
     cases this
    ·obtain ⟨r₁,hr₁,rfl⟩:=Option.map_eq_some_iff.1 hm
     have ih:=findNow_sound hd hk hu es en' (i+1) r₁ r' h3 hr₁ hn
     rw[ih]
     cases r₁ with
     | none=>rfl
     | some x=>simp[found,Nat.add_assoc,Nat.add_comm 1]
   ·cases hn
theorem findKey_sound {t:TypeId} {kn:Bool×List Kd} (hk:keyN P t=some kn) {a:AVal} {u:Value} (hu:VRel Z μ g a u) {es:List (AVal×AVal)} {en:List MapEntry} {r:Option (Nat×AVal)}
 (he:EsRel Z μ g es en) (hm:mfind kn a es=some r) :(Instr.findKey t u en).run P w=.ok (found r en 0) w:=by
 have hagg:=(keyN_spec hk).2
 unfold aggT at hagg
 obtain ⟨d,hd,_⟩:=Option.map_eq_some_iff.1 hagg
 simp only[Instr.findKey,Sem.run_bind,run_underlying hd,Result.andThen_ok]
 split
 ·rename_i r' hn
  rw[findNow_sound hd hk hu es en 0 r r' he hm hn]
  simp
 ·exact findAsking_sound hk hu es en 0 r he hm
end Go.Cw
end
section
namespace Go.Cw
open Go
variable {P : Program} {Z:Snap} {μ:Mu} {h:Heap} {g n:Nat} {w:World} {tm:Nat→AVal} {ca:Act}
def OptRel (Z:Snap) (μ:Mu) (g:Nat) (a:Option AVal) (v:Option Value):Prop:=
 (a=none∧v=none)∨∃a' v',a=some a'∧v=some v'∧VRel Z μ g a' v'
theorem optO {x:Option Operand} {y:Option Opd} (T:TRel Z μ g n tm ca.tmps) (hc:cOpdO x=some y):OptRel Z μ g (y.map (ev tm)) (x.map ca.eval):=by
 rcases opdO_rel T hc with ⟨rfl,rfl⟩ | ⟨x₁,y₁,rfl,rfl,hr⟩
 ·exact .inl ⟨rfl,rfl⟩
 ·exact .inr ⟨_,_,rfl,rfl,hr⟩
theorem bound_some {d:Nat} {a:AVal} {i:Int} {v:Value} (hr:VRel Z μ g a v) (hb:boundO d (some a)=some i):∃k,v=.int k i:=by
 unfold boundO at hb
 split at hb
 ·simp at *
 ·rename_i k j hj
  cases hb
  injection hj with hj
  subst hj
  exact ⟨k,oInt hr⟩
 ·cases hb
theorem run_sliceBound {k:IntKind} {i:Int} {y:Nat} {code:BoundsCode} (h0:0≤i) (h1:i≤y) :(Instr.sliceBound (.int k i) y code).run P w=.ok i.toNat w:=by
 simp[Instr.sliceBound,asIntOf,h0,h1]
def lowPart (lo:Option Value) (H M:Nat) (c:BoundsCode):Sem (Nat×Nat×Nat):=
 match lo with
 | some v=>do
   let l ←Instr.sliceBound v H c
   pure (l,H,M)
 | none=>do
   let l ←pure 0
   pure (l,H,M)
theorem run_low {lo:Option Value} {lo':Option AVal} (rl:OptRel Z μ g lo' lo) {l:Int} (bl:boundO 0 lo'=some l) (h0:0≤l) {H M:Nat} (h1:l≤H) (c:BoundsCode) :
 (lowPart lo H M c).run P w=.ok (l.toNat,H,M) w:=by
 unfold lowPart
 rcases rl with ⟨rfl,rfl⟩ | ⟨a,v,rfl,rfl,hr⟩
 ·simp only[boundO,Option.some.injEq] at bl
  have:l.toNat=0:=by omega
  simp[this]
 ·obtain ⟨k,rfl⟩:=bound_some hr bl
  simp only[Sem.run_bind,run_sliceBound h0 h1,Result.andThen_ok,Sem.run_pure]
theorem run_bounds {isSlice:Bool} {len cap:Nat} {lo hi mx:Option Value} {lo' hi' mx':Option AVal} (rl:OptRel Z μ g lo' lo) (rh:OptRel Z μ g hi' hi) (rm:OptRel Z μ g mx' mx)
 {l hh m:Int} (bl:boundO 0 lo'=some l) (bh:boundO len hi'=some hh) (bm:boundO cap mx'=some m) (h0:0≤l) (h1:l≤hh) (h2:hh≤m) (h3:m≤cap)
 (hmx:mx'.isSome=true→hi'.isSome=true) :(Instr.sliceBounds isSlice len cap lo hi mx).run P w=.ok (l.toNat,hh.toNat,m.toNat) w:=by
 unfold Instr.sliceBounds
 rcases rm with ⟨rfl,rfl⟩ | ⟨am,vm,rfl,rfl,hrm⟩
 ·simp only[boundO,Option.some.injEq] at bm
  have em:m.toNat=cap:=by omega
  rcases rh with ⟨rfl,rfl⟩ | ⟨ah,vh,rfl,rfl,hrh⟩
  ·simp only[boundO,Option.some.injEq] at bh
   have eh:hh.toNat=len:=by omega
   simp only[Sem.run_bind,Sem.run_pure,Result.andThen_ok,Option.isSome_none,Bool.false_eq_true,if_false]
   rw[em,eh]
   exact run_low rl bl h0 (by omega) .sliceB
  ·obtain ⟨k,rfl⟩:=bound_some hrh bh
   simp only[Sem.run_bind,Sem.run_pure,Result.andThen_ok,Option.isSome_none,Bool.false_eq_true,if_false]
   rw[run_sliceBound (by omega) (by omega),em]
   exact run_low rl bl h0 (by omega) .sliceB
 ·obtain ⟨km,rfl⟩:=bound_some hrm bm
  rcases rh with ⟨rfl,rfl⟩ | ⟨ah,vh,rfl,rfl,hrh⟩
  ·simp at hmx
  ·obtain ⟨k,rfl⟩:=bound_some hrh bh
   simp only[Sem.run_bind,Option.isSome_some,if_true]
   rw[run_sliceBound (by omega) (by omega)]
   simp only[Result.andThen_ok]
   rw[run_sliceBound (by omega) (by omega)]
   exact run_low rl bl h0 (by omega) .slice3C
theorem aSlA_sound {t e:TypeId} {len esz:Nat} (ht:P.underlying t=some (.array len e)) (hs:szOf P e=some esz) {x r:AVal} {u:Value} (hu:VRel Z μ g x u)
 {lo hi mx:Option Value} {lo' hi' mx':Option AVal} (rl:OptRel Z μ g lo' lo) (rh:OptRel Z μ g hi' hi) (rm:OptRel Z μ g mx' mx) (hmx:mx'.isSome=true→hi'.isSome=true)
 (hr:aSlA len esz x lo' hi' mx'=some r):∃v,(Instr.sliceAt t u lo hi mx).run P w=.ok v w∧VRel Z μ g r v:=by
 unfold aSlA at hr
 split at hr
 ·rename_i l hh m bl bh bm
  split at hr
  ·rename_i hc
   have hb:=run_bounds (P:=P) (w:=w) (isSlice:=false) rl rh rm bl bh bm hc.1 hc.2.1 hc.2.2.1 hc.2.2.2 hmx
   have e1 :(hh - l).toNat=hh.toNat - l.toNat:=by omega
   have e2 :(m - l).toNat=m.toNat - l.toNat:=by omega
   have e3 :(m.toNat=l.toNat)↔m=l:=by omega
   split at hr
   ·rename_i r₁ off s
    cases hr
    simp only[VRel] at hu
    obtain ⟨hsg,rfl⟩:=hu
    refine ⟨_,by simp only[Instr.sliceAt,Sem.run_bind,run_underlying ht,Result.andThen_ok,Instr.sureAddr,Sem.run_pure,hb,run_sizeOf' w hs];rfl,?_⟩
    simp only[VRel]
    refine ⟨hsg,m.toNat - l.toNat,?_,by omega,e2.symm⟩
    by_cases hml:m=l
    ·simp[hml,e1]
    ·have:¬m.toNat=l.toNat:=fun x=>hml (e3.1 x)
     simp[hml,this,add_plain,e1]
   ·rename_i cells
    cases hr
    simp only[VRel] at hu
    obtain ⟨b,o,c,rfl,hz,hv,ho⟩:=hu
    refine ⟨_,by simp only[Instr.sliceAt,Sem.run_bind,run_underlying ht,Result.andThen_ok,Instr.sureAddr,Sem.run_pure,hb,run_sizeOf' w hs];rfl,?_⟩
    simp only[VRel]
    refine ⟨_,m.toNat - l.toNat,by rw[e1],by omega,?_⟩
    by_cases hml:m=l
    ·left;omega
    ·right
     have:¬m.toNat=l.toNat:=fun x=>hml (e3.1 x)
     refine ⟨b,o+l.toNat*esz,c,by rw[if_neg this,add_plain],hz,?_,?_⟩
     ·rw[←List.drop_drop];exact hv.drop _
     ·rw[←List.drop_drop,List.length_drop,←List.drop_take];exact ho.drop _
   ·cases hr
  ·cases hr
 ·cases hr
theorem aSlS_sound {t e:TypeId} {esz:Nat} (ht:P.underlying t=some (.slice e)) (hs:szOf P e=some esz) {x r:AVal} {u:Value} (hu:VRel Z μ g x u)
 {lo hi mx:Option Value} {lo' hi' mx':Option AVal} (rl:OptRel Z μ g lo' lo) (rh:OptRel Z μ g hi' hi) (rm:OptRel Z μ g mx' mx) (hmx:mx'.isSome=true→hi'.isSome=true)
 (hr:aSlS esz x lo' hi' mx'=some r):∃v,(Instr.sliceAt t u lo hi mx).run P w=.ok v w∧VRel Z μ g r v:=by
 have start:∀{a:Option Addr} {len cap:Nat} {l hh m:Int},boundO 0 lo'=some l→boundO len hi'=some hh→boundO cap mx'=some m→0≤l→l≤hh→hh≤m→m≤cap→
  (Instr.sliceAt t (.slice a len cap) lo hi mx).run P w=.ok (.slice (if m=l then a else a.map (·.add (l.toNat*esz))) (hh - l).toNat (m - l).toNat) w:=by
  intro a len cap l hh m bl bh bm h0 h1 h2 h3
  have hb:=run_bounds (P:=P) (w:=w) (isSlice:=true) rl rh rm bl bh bm h0 h1 h2 h3 hmx
  have e1 :(hh - l).toNat=hh.toNat - l.toNat:=by omega
  have e2 :(m - l).toNat=m.toNat - l.toNat:=by omega
  have e3 :(m.toNat=l.toNat)↔m=l:=by omega
  simp only[Instr.sliceAt,Instr.slice,Sem.run_bind,run_underlying ht,Result.andThen_ok,hb,run_sizeOf' w hs,Sem.run_pure,e1,e2,e3]
 unfold aSlS at hr
 split at hr
 ·rename_i r₁ off s len c
  simp only[VRel] at hu
  obtain ⟨hsg,cap',rfl,hle,rfl⟩:=hu
  split at hr
  ·rename_i l hh m bl bh bm
   split at hr
   ·rename_i hc
    cases hr
    refine ⟨_,start bl bh bm hc.1 hc.2.1 hc.2.2.1 hc.2.2.2,?_⟩
    simp only[VRel]
    refine ⟨hsg,(m - l).toNat,?_,by omega,rfl⟩
    by_cases hml:m=l<;>simp[hml,add_plain]
   ·cases hr
  ·cases hr
 ·rename_i r₁ off s len e'
  simp only[VRel] at hu
  obtain ⟨hsg,cap',rfl,hle,hsz⟩:=hu
  split at hr
  ·rename_i hmxn
   split at hr
   ·rename_i l hh bl bh
    split at hr
    ·rename_i hc
     cases hr
     obtain ⟨rfl,h0,h1,h2,h3⟩:=hc
     have hcl :(cap':Int)=l→l=0:=by omega
     refine ⟨_,start bl bh (m:=cap') (by rfl) h0 h1 (by omega) (by omega),?_⟩
     simp only[VRel]
     refine ⟨hsg,((cap':Int) - l).toNat,?_,by omega,?_⟩
     ·by_cases hml :(cap':Int)=l
      ·have:=hcl hml
       subst this
       simp[add_plain]
      ·simp[hml,add_plain]
     ·have e :((cap':Int) - l).toNat=cap' - l.toNat:=by omega
      rw[e,Nat.sub_mul]
      have:l.toNat*e'≤cap'*e':=Nat.mul_le_mul_right _ (by omega)
      omega
    ·cases hr
   ·cases hr
  ·rename_i vm
   split at hr
   ·rename_i l hh m bl bh bm
    split at hr
    ·rename_i hc
     cases hr
     have bm':boundO cap' (some vm)=some m:=by
      unfold boundO at bm ⊢
      split at bm
      ·simp at *
      ·rename_i hj;simpa using bm
      ·cases bm
     refine ⟨_,start bl bh bm' hc.1 hc.2.1 hc.2.2.1 (by omega),?_⟩
     simp only[VRel]
     refine ⟨hsg,(m - l).toNat,?_,by omega,rfl⟩
     by_cases hml:m=l<;>simp[hml,add_plain]
    ·cases hr
   ·cases hr
 ·rename_i n₁ cells
  simp only[VRel] at hu
  obtain ⟨a,cap',rfl,hle,hz⟩:=hu
  split at hr
  ·rename_i l hh m bl bh bm
   split at hr
   ·rename_i hc
    cases hr
    rcases hm0:mx' with _|vm
    ·
     refine ⟨_,start bl bh (m:=cap') (by rw[hm0];rfl) hc.1 hc.2.1 (by omega) (by omega),?_⟩
     simp only[Option.isSome_none,Bool.false_eq_true,false_and,if_false,VRel]
     refine ⟨_,((cap':Int) - l).toNat,rfl,by omega,?_⟩
     by_cases hhl:hh=l
     ·left;omega
     ·right
      rcases hz with rfl|⟨b,o,c,rfl,hz,hv,ho⟩
      ·omega
      ·have:¬(cap':Int)=l:=by omega
       refine ⟨b,o+l.toNat*esz,c,by simp[this,add_plain],hz,?_,?_⟩
       ·rw[←List.drop_drop];exact hv.drop _
       ·rw[←List.drop_drop,List.length_drop,←List.drop_take];exact ho.drop _
    ·have bm':boundO cap' mx'=some m:=by
      rw[hm0] at bm ⊢
      unfold boundO at bm ⊢
      split at bm
      ·simp at *
      ·rename_i hj;simpa using bm
      ·cases bm
     refine ⟨_,start bl bh bm' hc.1 hc.2.1 hc.2.2.1 (by omega),?_⟩
     by_cases hml:m=l
     ·have e1 :(hh - l).toNat=0:=by omega
      have e2 :(m - l).toNat=0:=by omega
      simp only[Option.isSome_some,hml,and_self,if_true,VRel]
      exact ⟨a,by rw[e1];simp⟩
     ·simp only[hml,and_false,if_false,VRel]
      refine ⟨_,(m - l).toNat,rfl,by omega,?_⟩
      by_cases hhl:hh=l
      ·left;omega
      ·right
       rcases hz with rfl|⟨b,o,c,rfl,hz,hv,ho⟩
       ·omega
       ·refine ⟨b,o+l.toNat*esz,c,by simp[add_plain],hz,?_,?_⟩
        ·rw[←List.drop_drop];exact hv.drop _
        ·rw[←List.drop_drop,List.length_drop,←List.drop_take];exact ho.drop _
   ·cases hr
  ·cases hr
 ·simp only[VRel] at hu
  subst hu
  split at hr
  ·rename_i l hh m bl bh bm
   split at hr
   ·rename_i hc
    cases hr
    obtain ⟨rfl,rfl,rfl⟩:=hc
    exact ⟨_,start bl bh bm (by omega) (by omega) (by omega) (by omega),by simp[VRel]⟩
   ·cases hr
  ·cases hr
 ·simp only[VRel] at hu
  obtain ⟨a,rfl⟩:=hu
  split at hr
  ·rename_i l hh m bl bh bm
   split at hr
   ·rename_i hc
    cases hr
    obtain ⟨rfl,rfl,rfl⟩:=hc
    exact ⟨_,start bl bh bm (by omega) (by omega) (by omega) (by omega),by simp[VRel]⟩
   ·cases hr
  ·cases hr
 ·cases hr
end Go.Cw
end
section
namespace Go.Cw
open Go
variable {P : Program} {Z:Snap} {μ:Mu} {h:Heap} {g n:Nat} {w:World} {tm:Nat→AVal} {ca:Act}
theorem aSlT_sound {t:TypeId} (ht:P.underlying t=some .string) {x r:AVal} {u:Value} (hu:VRel Z μ g x u)
 {lo hi:Option Value} {lo' hi':Option AVal} (rl:OptRel Z μ g lo' lo) (rh:OptRel Z μ g hi' hi)
 (hr:aSlT x lo' hi'=some r):∃v,(Instr.sliceAt t u lo hi none).run P w=.ok v w∧VRel Z μ g r v:=by
 unfold aSlT at hr
 split at hr
 ·rename_i s
  simp only[VRel] at hu
  obtain ⟨b,rfl,rfl⟩:=hu
  split at hr
  ·rename_i l hh bl bh
   split at hr
   ·rename_i hc
    cases hr
    have hsz:b.data.toList.length=b.size:=rfl
    have hb:=run_bounds (P:=P) (w:=w) (isSlice:=false) (len:=b.size) (cap:=b.size) rl rh (.inl ⟨rfl,rfl⟩) bl (by rw[←hsz];exact bh) (m:=b.size) (by rfl) hc.1 hc.2.1 (by rw[←hsz];exact hc.2.2) (by omega) (by simp)
    refine ⟨_,by simp only[Instr.sliceAt,Instr.slice,Sem.run_bind,run_underlying ht,Result.andThen_ok,Option.isSome_none,Bool.false_eq_true,if_false,hb];rfl,?_⟩
    simp only[VRel]
    refine ⟨_,rfl,?_⟩
    rw[ByteArray.data_extract,Array.toList_extract,List.extract_eq_take_drop,List.take_drop]
    congr 2
    omega
   ·cases hr
  ·cases hr
 ·cases hr
theorem aIxA_sound {t e:TypeId} {len esz:Nat} (ht:P.underlying t=some (.array len e)) (hs:szOf P e=some esz) {x i r:AVal} {u v:Value} (hu:VRel Z μ g x u) (hv:VRel Z μ g i v)
 (hr:aIxA len esz x i=some r):∃z,(Instr.indexAt t u v).run P w=.ok z w∧VRel Z μ g r z:=by
 unfold aIxA at hr
 split at hr
 ·have hv:=oInt hv
  subst hv
  split at hr
  ·rename_i hc
   cases hr
   simp only[VRel] at hu
   obtain ⟨hsg,rfl⟩:=hu
   refine ⟨_,by simp only[Instr.indexAt,Sem.run_bind,asIntOf,Sem.run_pure,Result.andThen_ok,run_underlying ht,Instr.sureAddr,if_pos hc,run_sizeOf' w hs];rfl,?_⟩
   simp only[VRel]
   exact ⟨hsg,by rw[add_plain]⟩
  ·cases hr
 ·have hv:=oInt hv
  subst hv
  split at hr
  ·rename_i hc
   cases hr
   simp only[VRel] at hu
   obtain ⟨b,o,c,rfl,hz,hp,ho⟩:=hu
   refine ⟨_,by simp only[Instr.indexAt,Sem.run_bind,asIntOf,Sem.run_pure,Result.andThen_ok,run_underlying ht,Instr.sureAddr,if_pos hc,run_sizeOf' w hs];rfl,?_⟩
   simp only[VRel]
   refine ⟨b,o+_,c,by rw[add_plain],hz,?_,?_⟩
   ·rw[←List.drop_drop];exact hp.drop _
   ·rw[←List.drop_drop,List.length_drop,←List.drop_take];exact ho.drop _
  ·cases hr
 ·cases hr
theorem aIxS_sound {t e:TypeId} {esz:Nat} (ht:P.underlying t=some (.slice e)) (hs:szOf P e=some esz) {x i r:AVal} {u v:Value} (hu:VRel Z μ g x u) (hv:VRel Z μ g i v)
 (hr:aIxS esz x i=some r):∃z,(Instr.indexAt t u v).run P w=.ok z w∧VRel Z μ g r z:=by
 unfold aIxS at hr
 split at hr
 ·have hv:=oInt hv
  subst hv
  split at hr
  ·rename_i hc
   cases hr
   simp only[VRel] at hu
   obtain ⟨hsg,cap',rfl,_⟩:=hu
   refine ⟨_,by simp only[Instr.indexAt,Sem.run_bind,asIntOf,Sem.run_pure,Result.andThen_ok,run_underlying ht,if_pos hc,run_sizeOf' w hs];rfl,?_⟩
   simp only[VRel]
   exact ⟨hsg,by rw[add_plain]⟩
  ·cases hr
 ·have hv:=oInt hv
  subst hv
  split at hr
  ·rename_i hc
   cases hr
   simp only[VRel] at hu
   obtain ⟨a,cap',rfl,hle,hz⟩:=hu
   rcases hz with rfl|⟨b,o,c,rfl,hz,hp,ho⟩
   ·omega
   refine ⟨_,by simp only[Instr.indexAt,Sem.run_bind,asIntOf,Sem.run_pure,Result.andThen_ok,run_underlying ht,if_pos hc,run_sizeOf' w hs];rfl,?_⟩
   simp only[VRel]
   refine ⟨b,o+_,c,by rw[add_plain],hz,?_,?_⟩
   ·rw[←List.drop_drop];exact hp.drop _
   ·rw[←List.drop_drop,List.length_drop,←List.drop_take];exact ho.drop _
  ·cases hr
 ·cases hr
theorem aIxV_sound {t e:TypeId} {len esz:Nat} {agg:Bool} (ht:P.underlying t=some (.array len e)) (hs:szOf P e=some esz) (ha:aggT P e=some agg) {x i r:AVal} {u v:Value} (hu:VRel Z μ g x u) (hv:VRel Z μ g i v)
 (hr:aIxV len esz agg x i=some r):∃z,(Instr.index t u v).run P w=.ok z w∧VRel Z μ g r z:=by
 unfold aIxV at hr
 split at hr
 ·have hv:=oInt hv
  subst hv
  split at hr
  ·rename_i hc
   simp only[VRel] at hu
   obtain ⟨l,rfl,hl,hp,ho⟩:=hu
   obtain ⟨z,h1,h2⟩:=run_part_at (P:=P) (w:=w) ha hs (hp.drop _) (ho.drop _) hr
   refine ⟨z,?_,h2⟩
   simp only[Instr.index,Sem.run_bind,asIntOf,Sem.run_pure,Result.andThen_ok,run_underlying ht,if_pos hc,run_sizeOf' w hs,h1]
  ·cases hr
 ·cases hr
theorem aIxT_sound {t:TypeId} (ht:P.underlying t=some .string) {x i r:AVal} {u v:Value} (hu:VRel Z μ g x u) (hv:VRel Z μ g i v)
 (hr:aIxT x i=some r):∃z,(Instr.index t u v).run P w=.ok z w∧VRel Z μ g r z:=by
 unfold aIxT at hr
 split at hr
 ·rename_i s k j
  have hv:=oInt hv
  subst hv
  split at hr
  ·rename_i hc
   cases hr
   simp only[VRel] at hu
   obtain ⟨b,rfl,rfl⟩:=hu
   have hj:j.toNat<b.size:=by
    have:b.data.toList.length=b.size:=rfl
    omega
   refine ⟨.int .u8 (b[j.toNat]'hj).toNat,?_,?_⟩
   ·simp only[Instr.index,Sem.run_bind,asIntOf,Sem.run_pure,Result.andThen_ok,run_underlying ht,if_pos hc.1]
    have:b[j.toNat]? = some (b[j.toNat]'hj):=by simp[hj]
    rw[this]
    simp
   ·simp only[VRel]
    congr 2
    have:b.data.toList.getD j.toNat 0=b[j.toNat]'hj:=by
     have hj':j.toNat<b.data.toList.length:=hj
     simp only[List.getD,List.getElem?_eq_getElem hj',Option.getD_some]
     rfl
    rw[this]
  ·cases hr
 ·cases hr
theorem aMM_sound {isMax:Bool} {a b r:AVal} {u v:Value} (hu:VRel Z μ g a u) (hv:VRel Z μ g b v) (hr:aMM isMax a b=some r) :
 ∃z,((if isMax then Builtin.max2 u v else Builtin.min2 u v):Sem Value).run P w=.ok z w∧VRel Z μ g r z:=by
 unfold aMM at hr
 split at hr
 ·have hu:=oInt hu
  have hv:=oInt hv
  subst hu;subst hv
  split at hr
  ·rename_i hk
   subst hk
   cases hr
   cases isMax
   ·exact ⟨_,rfl,by simp only[VRel];rfl⟩
   ·refine ⟨_,rfl,?_⟩
    simp only[VRel,if_true]
  ·cases hr
 ·cases hr
theorem aMMs_sound (P:Program) (w:World) {isMax:Bool} : ∀{as:List AVal} {vs:List Value} {a r:AVal} {u:Value},VRel Z μ g a u→vs.length=as.length→VPre Z μ g as vs→aMMs isMax a as=some r→
 ∃z,(vs.foldlM (fun x y=>if isMax then Builtin.max2 x y else Builtin.min2 x y) u:Sem Value).run P w=.ok z w∧VRel Z μ g r z
 | [],[],a,r,u,hu,_,_,hr=>by
   obtain rfl:a=r:=by simpa[aMMs] using hr
   exact ⟨u,rfl,hu⟩
 | [],_::_,_,_,_,_,hl,_,_=>by simp at hl
 | _::_,[],_,_,_,_,hl,_,_=>by simp at hl
 | b::as,v::vs,a,r,u,hu,hl,hp,hr=>by
   simp only[aMMs] at hr
   split at hr
   ·rename_i z hz
    obtain ⟨h1,h2⟩:=VPre_cons.1 hp
    obtain ⟨y,hy,hy'⟩:=aMM_sound (P:=P) (w:=w) hu h1 hz
    obtain ⟨x,hx,hx'⟩:=aMMs_sound P w hy' (by simpa using hl) h2 hr
    refine ⟨x,?_,hx'⟩
    simp only[List.foldlM_cons,Sem.run_bind,hy,Result.andThen_ok]
    exact hx
   ·cases hr
theorem acells_sound {a:AVal} {vs:List AVal} {v:Value} (hv:VRel Z μ g a v) (ha:acells a=some vs):v.cells.size=vs.length∧VPre Z μ g vs v.cells.toList∧One v.cells.toList:=by
 have one:∀{v:Value},v.oneCell'=true→acells a=some [a]→VRel Z μ g a v→v.cells.size=vs.length∧VPre Z μ g vs v.cells.toList∧One v.cells.toList:=by
  intro v ho ha' hv
  rw[ha] at ha'
  obtain rfl:vs=[a]:=by simpa using ha'
  have:v.cells = #[v]:=by cases v<;>first|rfl|(simp[Value.oneCell'] at ho)
  rw[this]
  exact ⟨rfl,VPre_cons.2 ⟨hv,VPre_nil _⟩,fun x hx=>by
   have e:x=v:=by simpa using hx
   rw[e];exact ho⟩
 cases a<;>simp only[acells] at ha one<;>first|(cases ha;done)|skip
 all_goals simp only[VRel] at hv
 all_goals first
  | (subst hv;exact one rfl trivial (by simp[VRel]))
  | skip
 ·obtain ⟨b,rfl,hb⟩:=hv;exact one rfl trivial (by simp only[VRel];exact ⟨b,rfl,hb⟩)
 ·obtain ⟨h1,rfl⟩:=hv;exact one rfl trivial (by simp only[VRel];exact ⟨h1,trivial⟩)
 ·obtain ⟨b,o,c,rfl,hb⟩:=hv;exact one rfl trivial (by simp only[VRel];exact ⟨b,o,c,rfl,hb⟩)
 ·obtain ⟨b,rfl⟩:=hv;exact one rfl trivial (by simp only[VRel];exact ⟨b,rfl⟩)
 ·obtain ⟨h1,c,rfl,hb⟩:=hv;exact one rfl trivial (by simp only[VRel];exact ⟨h1,c,rfl,hb⟩)
 ·obtain ⟨b,c,rfl,hb⟩:=hv;exact one rfl trivial (by simp only[VRel];exact ⟨b,c,rfl,hb⟩)
 ·obtain ⟨h1,rfl⟩:=hv;exact one rfl trivial (by simp only[VRel];exact ⟨h1,trivial⟩)
 ·obtain ⟨h1,f',c',rfl,hb⟩:=hv;exact one rfl trivial (by simp only[VRel];exact ⟨h1,f',c',rfl,hb⟩)
 ·obtain ⟨h1,rfl⟩:=hv;exact one rfl trivial (by simp only[VRel];exact ⟨h1,trivial⟩)
 ·obtain ⟨v',rfl,hb⟩:=hv;exact one rfl trivial (by simp only[VRel];exact ⟨v',rfl,hb⟩)
 ·obtain ⟨l,rfl,h1,h2,h3⟩:=hv
  cases ha
  exact ⟨h1,h2,h3⟩
theorem foldl_set (off:Nat):∀(l:List Value) (k:Nat) (cs:Array Value),off+k+l.length≤cs.size→
 ((l.zipIdx k).foldl (fun cs (x:Value×Nat)=>cs.setIfInBounds (off+x.2) x.1) cs).toList=cs.toList.take (off+k)++(l++cs.toList.drop (off+k+l.length))
 | [],k,cs,h=>by simp
 | v::l,k,cs,h=>by
   simp only[List.length_cons] at h
   rw[List.zipIdx_cons,List.foldl_cons,foldl_set off l (k+1) _ (by simpa[Nat.add_assoc,Nat.add_comm 1] using h)]
   simp only[Array.toList_setIfInBounds]
   have hk:off+k<cs.toList.length:=by rw[Array.length_toList];omega
   rw[show off+(k+1)=off+k+1 by omega,List.take_succ_eq_append_getElem (by rw[List.length_set];exact hk),List.getElem_set_self,List.take_set_of_le (Nat.le_refl _),List.append_assoc,List.singleton_append]
   congr 2
   rw[List.drop_set_of_lt (by omega)]
   simp[Nat.add_assoc,Nat.add_comm 1]
theorem setRange_sound {cells vs:List AVal} {c:List Value} {l:List Value} {off:Nat} (hc:VPre Z μ g cells c) (hv:VPre Z μ g vs l) (hl:l.length=vs.length) (hle:off+vs.length≤cells.length) :
 VPre Z μ g (setRange cells off vs) (c.take off++(l++c.drop (off+l.length))):=by
 have:=hc.len
 unfold setRange
 refine (hc.take off).append ?_ (hv.append hl ?_)
 ·rw[List.length_take,List.length_take];omega
 ·rw[hl];exact hc.drop _
theorem One.setRange {c l:List Value} {off:Nat} (h:One c) (k:One l):One (c.take off++(l++c.drop (off+l.length))):=
 (h.take off).append (k.append (h.drop _))
theorem setRange_length {cells vs:List AVal} {off:Nat} (h:off+vs.length≤cells.length) :(setRange cells off vs).length=cells.length:=by
 unfold setRange
 simp only[List.length_append,List.length_take,List.length_drop]
 omega
def PartsRel (Z:Snap) (μ:Mu) (g:Nat) (place:Nat→Option (Nat×Nat)):List (Nat×Nat×AVal)→List (Nat×Value)→Prop
 | [],vs=>vs=[]
 | (off,n,a)::r,vs=>∃i v vs',vs =(i,v)::vs'∧place i=some (off,n)∧VRel Z μ g a v∧PartsRel Z μ g place r vs'
theorem afill_sound {place:Nat→Option (Nat×Nat)} : ∀{ps:List (Nat×Nat×AVal)} {vs:List (Nat×Value)} {cells:List AVal} {c:Array Value} {r:List AVal},PartsRel Z μ g place ps vs→
 c.size=cells.length→VPre Z μ g cells c.toList→One c.toList→afill cells ps=some r→∃c',Instr.fill place c vs=some c'∧c'.size=r.length∧VPre Z μ g r c'.toList∧One c'.toList
 | [],vs,cells,c,r,hp,hs,hc,ho,hr=>by
   simp only[PartsRel] at hp
   subst hp
   obtain rfl:cells=r:=by simpa[afill] using hr
   exact ⟨c,rfl,hs,hc,ho⟩
 | (off,n,a)::ps,vs,cells,c,r,hp,hs,hc,ho,hr=>by
   simp only[PartsRel] at hp
   obtain ⟨i,v,vs',rfl,hpl,hv,hp'⟩:=hp
   simp only[afill] at hr
   split at hr
   ·rename_i as has
    split at hr
    ·rename_i hcond
     obtain ⟨rfl,hcond⟩:=hcond
     obtain ⟨hsz,hve,hov⟩:=acells_sound hv has
     have hfold:=foldl_set off v.cells.toList 0 c (by rw[Array.length_toList,hsz];omega)
     have hcond' :(v.cells.size≠as.length || decide (off+v.cells.size>c.size))=false:=by
      simp only[Bool.or_eq_false_iff,decide_eq_false_iff_not]
      omega
     obtain ⟨c',h1,h2,h3,h4⟩:=afill_sound (place:=place) (ps:=ps) (vs:=vs') (cells:=setRange cells off as)
      (c:=v.cells.zipIdx.foldl (fun cs (x:Value×Nat)=>cs.setIfInBounds (off+x.2) x.1) c) (r:=r) hp'
      (by
        rw[setRange_length hcond,←hs]
        have:∀(l:List (Value×Nat)) (cs:Array Value),(l.foldl (fun cs (x:Value×Nat)=>cs.setIfInBounds (off+x.2) x.1) cs).size=cs.size:=by
         intro l
         induction l with
         | nil=>intro cs;rfl
         | cons x l ih=>intro cs;rw[List.foldl_cons,ih];simp
        rw[←Array.foldl_toList];exact this _ _)
      (by
        rw[←Array.foldl_toList,Array.toList_zipIdx,hfold]
        have:=setRange_sound (off:=off) hc hve (by rw[Array.length_toList];exact hsz) hcond
        simpa using this)
      (by
        rw[←Array.foldl_toList,Array.toList_zipIdx,hfold]
        have:=One.setRange (off:=off) ho hov
        simpa using this)
      hr
     refine ⟨c',?_,h2,h3,h4⟩
     simp only[Instr.fill,hpl]
     rw[if_neg (by rw[hcond'];simp)]
     exact h1
    ·cases hr
   ·cases hr
end Go.Cw
end
section
namespace Go.Cw
open Go
variable {P : Program} {Z:Snap} {μ:Mu} {h:Heap} {g n:Nat} {w:World} {tm:Nat→AVal} {ca:Act}
theorem zeroA_rel {t:TypeId} {z:AVal} (hz:zeroA P t=some z):∃v,zeroOf P t=some v∧VRel Z μ g z v:=by
 unfold zeroA at hz
 cases hv:zeroOf P t with
 | none=>simp[hv] at hz
 | some v=>exact ⟨v,rfl,ofV_rel (by simpa[hv] using hz)⟩
theorem zeroCs_rel {t:TypeId} {z:List AVal} (hz:zeroCs P t=some z):∃v,zeroOf P t=some v∧v.cells.size=z.length∧VPre Z μ g z v.cells.toList∧One v.cells.toList:=by
 unfold zeroCs at hz
 cases hv:zeroOf P t with
 | none=>simp[hv] at hz
 | some v=>
   obtain ⟨h1,h2,h3⟩:=ofVs_rel (Z:=Z) (μ:=μ) (g:=g) (by simpa[hv] using hz:ofVs v.cells.toList=some z)
   exact ⟨v,rfl,by simpa using h1,h2,h3⟩
theorem parts_rel (T:TRel Z μ g n tm ca.tmps) {place:Nat→Option (Nat×Nat)} : ∀{ps:List (Nat×Operand)} {qs:List (Nat×Nat×Opd)},cParts place ps=some qs→
 PartsRel Z μ g place (evParts (ev tm) qs) (ps.map fun (i,x)=>(i,ca.eval x))
 | [],qs,h=>by
   obtain rfl:[]=qs:=by simpa[cParts] using h
   simp[evParts,PartsRel]
 | (i,x)::ps,qs,h=>by
   simp only[cParts] at h
   split at h
   ·rename_i off k x' r' h1 h2 h3
    cases h
    simp only[evParts,PartsRel,List.map_cons]
    exact ⟨i,_,_,rfl,h1,opd_rel T h2,parts_rel T h3⟩
   ·cases h
theorem fieldPlaces_run : ∀{fs:List Field} {pl:List (Nat×Nat)},fieldPlaces P fs=some pl→∀w:World,(fs.mapM fun f=>do pure (f.offset,←sizeOf f.type):Sem (List (Nat×Nat))).run P w=.ok pl w
 | [],pl,h,w=>by
   obtain rfl:[]=pl:=by simpa[fieldPlaces] using h
   rfl
 | f::fs,pl,h,w=>by
   simp only[fieldPlaces] at h
   split at h
   ·rename_i k r' h1 h2
    cases h
    simp only[List.mapM_cons,Sem.run_bind,run_sizeOf' w h1,Result.andThen_ok,Sem.run_pure,fieldPlaces_run h2 w]
   ·cases h
theorem mapOf_sound (S:Sim Z μ h g w) {m:AVal} {es:List (AVal×AVal)} {u:Value} (hu:VRel Z μ g m u) (hm:mapOf h m=some es) :
 (u=.map none∧es=[])∨∃(r:Nat) (en:Array MapEntry),u=.map (some r)∧w.heap[r]? = some (.map en es.length)∧en.size=es.length∧EsRel Z μ g es en.toList:=by
 unfold mapOf at hm
 split at hm
 ·simp only[VRel] at hu
  cases hm
  exact .inl ⟨hu,rfl⟩
 ·rename_i r s
  simp only[VRel] at hu
  obtain ⟨hsg,rfl⟩:=hu
  split at hm
  ·rename_i es' s' hr
   split at hm
   ·rename_i hss
    subst hss
    cases hm
    have hrow:=S.rows r
    rw[hr] at hrow
    simp only[ORel] at hrow
    obtain ⟨_,en,h1,h2,h3⟩:=hrow
    refine .inr ⟨_,en,rfl,h1,h2,by simpa using h2,fun i k v hi=>?_⟩
    obtain ⟨e,he,_,hk,hv⟩:=h3 i k v hi
    exact ⟨e,by rw[Array.getElem?_toList];exact he,hk,hv⟩
   ·cases hm
  ·cases hm
 ·cases hm
theorem run_getObj {b:Nat} {o:Obj} (hb:w.heap[b]? = some o) (hn:∀c e f,o≠.cells c e f) :(getObj b).run P w=.ok o w:=by
 simp only[getObj,Sem.run,hb]
theorem lookup_sound (S:Sim Z μ h g w) {t kt et:TypeId} {kn:Bool×List Kd} {ok:Bool} {z m k r:AVal} {um uk:Value} (ht:P.underlying t=some (.map kt et)) (hk:keyN P kt=some kn)
 (hz:zeroA P et=some z) (hm:VRel Z μ g m um) (hkr:VRel Z μ g k uk) (hr:aLookup h kn ok z m k=some r) :
 ∃v,(Instr.lookup t um uk ok).run P w=.ok v w∧VRel Z μ g r v:=by
 obtain ⟨zv,hzv,hzr⟩:=zeroA_rel (Z:=Z) (μ:=μ) (g:=g) hz
 unfold aLookup at hr
 split at hr
 ·rename_i hok
  split at hr
  ·rename_i es hes
   have hcheck:=fun b=>check_key' (w:=w) hk hok hkr b
   have fin:∀{en:List MapEntry},EsRel Z μ g es en→(∃(i:Nat) (v:Value),(Instr.findKey kt uk en).run P w=.ok (some (i,v)) w∧VRel Z μ g r (if ok then .tuple #[v,.bool true] else v))∨
    ((Instr.findKey kt uk en).run P w=.ok none w∧VRel Z μ g r (if ok then .tuple #[zv,.bool false] else zv)):=by
    intro en hen
    split at hr
    ·rename_i i v hf
     cases hr
     have hfk:=findKey_sound (P:=P) (w:=w) hk hkr hen hf
     obtain ⟨e,he,hv⟩ : ∃e,en[i]? = some e∧VRel Z μ g v e.val:=by
      have:∀(es:List (AVal×AVal)) (i:Nat) (v:AVal),mfind kn k es=some (some (i,v))→∃k',es[i]? = some (k',v):=by
       intro es
       induction es with
       | nil=>intro i v h;simp[mfind] at h
       | cons x es ih=>
         obtain ⟨k',v'⟩:=x
         intro i v h
         simp only[mfind] at h
         split at h
         ·cases h
         ·simp only[Option.some.injEq,Prod.mk.injEq] at h
          obtain ⟨rfl,rfl⟩:=h
          exact ⟨k',rfl⟩
         ·obtain ⟨r',hr',h⟩:=Option.map_eq_some_iff.1 h
          cases r' with
          | none=>simp at h
          | some y=>
            simp only[Option.map_some,Option.some.injEq,Prod.mk.injEq] at h
            obtain ⟨rfl,rfl⟩:=h
            obtain ⟨k'',hk''⟩:=ih y.1 y.2 hr'
            exact ⟨k'',by simpa using hk''⟩
      obtain ⟨k',hk'⟩:=this es i v hf
      obtain ⟨e,he,_,hv⟩:=hen.2 i k' v hk'
      exact ⟨e,he,hv⟩
     refine .inl ⟨0+i,e.val,?_,?_⟩
     ·simp only[hfk,found,he,Option.bind_some,Option.map_some]
     ·cases ok
      ·simpa using hv
      ·simp only[if_true,VRel]
       exact ⟨_,rfl,rfl,VPre_cons.2 ⟨hv,VPre_cons.2 ⟨by simp[VRel],VPre_nil _⟩⟩⟩
    ·rename_i hf
     cases hr
     have hfk:=findKey_sound (P:=P) (w:=w) hk hkr hen hf
     refine .inr ⟨?_,?_⟩
     ·simp only[hfk,found,Option.bind_none]
     ·cases ok
      ·simpa using hzr
      ·simp only[if_true,VRel]
       exact ⟨_,rfl,rfl,VPre_cons.2 ⟨hzr,VPre_cons.2 ⟨by simp[VRel],VPre_nil _⟩⟩⟩
    ·cases hr
   rcases mapOf_sound S hm hes with ⟨rfl,rfl⟩ | ⟨r₁,en,rfl,hb,hsz,hen⟩
   ·rcases fin (en:=[]) ⟨rfl,fun i k v hi=>by simp at hi⟩ with ⟨i,v,h1,h2⟩ | ⟨h1,h2⟩
    ·refine ⟨_,?_,h2⟩
     simp only[Instr.lookup,Sem.run_bind,run_underlying ht,Result.andThen_ok,Sem.run_pure,hcheck,h1]
    ·refine ⟨_,?_,h2⟩
     simp only[Instr.lookup,Sem.run_bind,run_underlying ht,Result.andThen_ok,Sem.run_pure,hcheck,h1,run_zero' w hzv]
   ·rcases fin hen with ⟨i,v,h1,h2⟩ | ⟨h1,h2⟩
    ·refine ⟨_,?_,h2⟩
     simp only[Instr.lookup,Sem.run_bind,run_underlying ht,Result.andThen_ok,Sem.run_pure,hcheck,run_getObj hb (by intros;simp),h1]
    ·refine ⟨_,?_,h2⟩
     simp only[Instr.lookup,Sem.run_bind,run_underlying ht,Result.andThen_ok,Sem.run_pure,hcheck,run_getObj hb (by intros;simp),h1,run_zero' w hzv]
  ·cases hr
 ·cases hr
theorem struct_field {t:TypeId} {fs:Array Field} {f:Nat} {fd:Field} (ht:P.underlying t=some (.struct fs)) (hf:fs[f]? = some fd) {agg:Bool} {k:Nat} (hs:szOf P fd.type=some k) (ha:aggT P fd.type=some agg)
 {a r:AVal} {u:Value} (hu:VRel Z μ g a u) {cs:List AVal} (hc:a=.agg cs) (hr:loadC agg k (cs.drop fd.offset)=some r):∃v,(Instr.field t u f).run P w=.ok v w∧VRel Z μ g r v:=by
 subst hc
 simp only[VRel] at hu
 obtain ⟨l,rfl,hl,hp,ho⟩:=hu
 obtain ⟨v,h1,h2⟩:=run_part_at (P:=P) (w:=w) ha hs (hp.drop _) (ho.drop _) hr
 refine ⟨v,?_,h2⟩
 simp only[Instr.field,Sem.run_bind,run_underlying ht,Result.andThen_ok,hf,asAgg,Sem.run_pure,h1]
theorem builtin_sound {b:Builtin} {ts:List TypeId} {args:List Operand} {io:IOp} (hc:cBuiltin P b ts args=some io) (S:Sim Z μ h g w) (T:TRel Z μ g n tm ca.tmps) {r:AVal}
 (hr:iev io (ev tm) h=some r):∃v,(∀ty cs,(builtin b ts.toArray ty cs (args.map ca.eval).toArray).run P w=.ok (.value v) w)∧VRel Z μ g r v:=by
 unfold cBuiltin at hc
 split at hc
 ·
  split at hc
  ·rename_i t x
   have lift :(∃v,(Builtin.len_ #[t] 0 #[ca.eval x]).run P w=.ok v w∧VRel Z μ g r v)→
    ∃v,(∀ty cs,(builtin .len [t].toArray ty cs ([x].map ca.eval).toArray).run P w=.ok (.value v) w)∧VRel Z μ g r v:=by
    rintro ⟨v,h1,h2⟩
    refine ⟨v,fun ty cs=>?_,h2⟩
    have:Builtin.len_ #[t] ty #[ca.eval x]=Builtin.len_ #[t] 0 #[ca.eval x]:=rfl
    simp only[builtin,List.map_cons,List.map_nil,Sem.run_bind,this,h1,Result.andThen_ok,Sem.run_pure]
   apply lift
   split at hc
   ·rename_i hd hx
    cases hc
    have hv:=opd_rel T hx
    simp only[iev] at hr
    split at hr<;>cases hr
    rename_i hx'
    rw[hx'] at hv
    simp only[VRel] at hv
    obtain ⟨b,hb,rfl⟩:=hv
    rw[hb]
    exact ⟨goInt _,by simp[Builtin.len_,run_underlying hd];rfl,by simp only[VRel,goInt];rfl⟩
   ·rename_i e hd hx
    cases hc
    have hv:=opd_rel T hx
    have slice:∀{a:Option Addr} {l c:Nat},ca.eval x=.slice a l c→r=.int .i64 l→∃v,(Builtin.len_ #[t] 0 #[ca.eval x]).run P w=.ok v w∧VRel Z μ g r v:=by
     rintro a l c hsl rfl
     rw[hsl]
     exact ⟨goInt _,by simp[Builtin.len_,run_underlying hd];rfl,by simp only[VRel,goInt]⟩
    simp only[iev,aLen] at hr
    split at hr<;>cases hr<;>rename_i hx'<;>rw[hx'] at hv<;>simp only[VRel] at hv
    ·obtain ⟨_,c',h1,_⟩:=hv;exact slice h1 rfl
    ·obtain ⟨a,c',h1,_⟩:=hv;exact slice h1 rfl
    ·exact slice hv rfl
    ·obtain ⟨a,h1⟩:=hv;exact slice h1 rfl
   ·rename_i k e y hd
    cases hc
    cases hr
    exact ⟨goInt _,by simp[Builtin.len_,run_underlying hd];rfl,by simp only[VRel,goInt]⟩
   ·rename_i arr y hd
    split at hc<;>cases hc
    rename_i k e he
    cases hr
    exact ⟨goInt _,by simp[Builtin.len_,run_underlying hd,run_underlying he];rfl,by simp only[VRel,goInt]⟩
   ·rename_i k e y hd hx
    cases hc
    have hv:=opd_rel T hx
    simp only[iev] at hr
    split at hr<;>cases hr
    rename_i es hes
    rcases mapOf_sound S hv hes with ⟨hu,rfl⟩ | ⟨r₁,en,hu,hb,hsz,_⟩
    ·rw[hu]
     exact ⟨goInt 0,by simp[Builtin.len_,run_underlying hd],by simp only[VRel,goInt,List.length_nil];rfl⟩
    ·rw[hu]
     exact ⟨goInt _,by simp[Builtin.len_,run_underlying hd,run_getObj hb (by intros;simp)];rfl,by simp only[VRel,goInt,hsz]⟩
   ·cases hc
  ·cases hc
 ·obtain ⟨xs,hx,rfl⟩:=Option.map_eq_some_iff.1 hc
  simp only[iev] at hr
  obtain ⟨h1,h2⟩:=opds_rel T hx
  split at hr
  ·cases hr
  ·rename_i a as has
   rw[has] at h1 h2
   cases hm:args.map ca.eval with
   | nil=>rw[hm] at h1;simp at h1
   | cons u us=>
     rw[hm] at h1 h2
     obtain ⟨z,h3,h4⟩:=aMMs_sound P w (VPre_cons.1 h2).1 (by simpa using h1) (VPre_cons.1 h2).2 hr
     refine ⟨z,fun ty cs=>?_,h4⟩
     simp only[builtin,Builtin.max_,Sem.run_bind]
     simp only[if_true] at h3
     rw[h3];rfl
 ·obtain ⟨xs,hx,rfl⟩:=Option.map_eq_some_iff.1 hc
  simp only[iev] at hr
  obtain ⟨h1,h2⟩:=opds_rel T hx
  split at hr
  ·cases hr
  ·rename_i a as has
   rw[has] at h1 h2
   cases hm:args.map ca.eval with
   | nil=>rw[hm] at h1;simp at h1
   | cons u us=>
     rw[hm] at h1 h2
     obtain ⟨z,h3,h4⟩:=aMMs_sound P w (VPre_cons.1 h2).1 (by simpa using h1) (VPre_cons.1 h2).2 hr
     refine ⟨z,fun ty cs=>?_,h4⟩
     simp only[builtin,Builtin.min_,Sem.run_bind]
     simp only[Bool.false_eq_true,if_false] at h3
     rw[h3];rfl
 ·split at hc
  ·split at hc
   ·split at hc
    ·split at hc
     ·split at hc<;>cases hc
      simp[iev] at hr
     ·cases hc
    ·cases hc
   ·cases hc
  ·cases hc
 ·split at hc
  ·split at hc
   ·obtain ⟨s,hs,rfl⟩:=Option.map_eq_some_iff.1 hc
    simp[iev] at hr
   ·cases hc
  ·cases hc
 ·cases hc;simp[iev] at hr
 ·cases hc
theorem nilAhead_fine {t:TypeId} {nm:String} (hf:fineM P t nm=true) (w:World) (v:Value) (n:Nat) :(nilAhead (n+1) t v nm).run P w=.ok (some false) w:=by
 unfold fineM at hf
 cases hi:P.info? t with
 | none=>rw[hi] at hf;cases hf
 | some i=>
   rw[hi] at hf
   simp only at hf
   cases hm:i.methods.find? (·.name == nm) with
   | none=>rw[hm] at hf;cases hf
   | some m=>
     rw[hm] at hf
     simp only[Bool.and_eq_true] at hf
     obtain ⟨hp,hf⟩:=hf
     have hp':m.path.toList=[]:=by simpa using hp
     rw[nilAhead]
     simp only[Sem.run_bind,run_typeInfo' w hi,Result.andThen_ok,hm,hp',followBlind,Sem.run_pure]
     cases hfn:m.func with
     | none=>rw[hfn] at hf;cases hf
     | some fb=>
       obtain ⟨f,b⟩:=fb
       cases b with
       | true=>rfl
       | false=>
         rw[hfn] at hf
         simp only at hf
         cases hu:P.underlying t with
         | none=>rw[hu] at hf;cases hf
         | some u=>
           rw[hu] at hf
           simp only[Sem.run_bind,run_underlying hu,Result.andThen_ok]
           cases u<;>first|cases hf;done|rfl
theorem run_byteOf {b o:Nat} {c:Array Value} {e:TypeId} {fr:Nat×Nat} (hb:w.heap[b]? = some (.cells c e fr)) (he:e<tyLim) (hB:okB P=true):∃n,(byteOf ⟨b,o,none⟩).run P w=.ok n w:=by
 by_cases h0:P.cellsOf e=0
 ·exact ⟨0,by simp[byteOf,noView,viewAt,World.shape?,hb,h0]⟩
 ·have h1:o % P.cellsOf e<P.cellsOf e:=Nat.mod_lt _ (by omega)
  have h2 :(byteOfCell P P.depth e (o % P.cellsOf e)).isSome=true:=by
   unfold okB at hB
   rw[List.all_eq_true] at hB
   have:=hB e (List.mem_range.2 he)
   rw[List.all_eq_true] at this
   exact this _ (List.mem_range.2 h1)
  obtain ⟨n,hn⟩:=Option.isSome_iff_exists.1 h2
  exact ⟨o / P.cellsOf e*P.bytesOf e+n,by simp[byteOf,noView,viewAt,World.shape?,hb,h0,hn]⟩
theorem run_partAt0 {b o:Nat} {c:Array Value} {e:TypeId} {fr:Nat×Nat} (hb:w.heap[b]? = some (.cells c e fr)) (he:e<tyLim) (hB:okB P=true) :(partAt ⟨b,o,none⟩ 0 0).run P w=.ok ⟨b,o,none⟩ w:=by
 obtain ⟨n,hn⟩:=run_byteOf (P:=P) (o:=o) hb he hB
 simp[partAt,hn]
theorem bytesOf_ints : ∀{cells:List AVal} {bs:List UInt8},bytesOf cells=some bs→∃ns:List Int,cells=ns.map (.int .u8)∧bs=ns.map fun n=>UInt8.ofNat n.toNat
 | [],bs,h=>⟨[],rfl,by simpa[bytesOf,eq_comm] using h⟩
 | a::cells,bs,h=>by
   simp only[bytesOf] at h
   split at h
   ·rename_i b bs' h1 h2
    obtain ⟨ns,rfl,rfl⟩:=bytesOf_ints h2
    unfold byteOf1 at h1
    split at h1
    ·rename_i n
     cases h1;cases h
     exact ⟨n::ns,rfl,rfl⟩
    ·cases h1
   ·cases h
theorem push_bytes : ∀(ns:List Int) (s:ByteArray),(ns.foldl (fun r n=>r.push (UInt8.ofNat n.toNat)) s).data.toList=s.data.toList++ns.map fun n=>UInt8.ofNat n.toNat
 | [],s=>by simp
 | n::ns,s=>by
   rw[List.foldl_cons,push_bytes ns]
   simp[ByteArray.push]
theorem VPre_u8 {ns:List Int} : ∀{vs:List Value},VPre Z μ g (ns.map (.int .u8)) vs→vs.take ns.length=ns.map (.int .u8):=by
 induction ns with
 | nil=>intro vs _;simp
 | cons n ns ih=>
   intro vs h
   cases vs with
   | nil=>simp[VPre] at h
   | cons v vs=>
     simp only[List.map_cons,VPre,VRel] at h
     simp[h.1,ih h.2]
theorem aToStr_slice {x r:AVal} {v:Value} (hv:VRel Z μ g x v) (hr:aToStr x=some r):∃a n c,v=.slice a n c:=by
 unfold aToStr at hr
 split at hr
 ·simp only[VRel] at hv
  obtain ⟨a,c,h,_⟩:=hv
  exact ⟨a,_,c,h⟩
 ·simp only[VRel] at hv
  exact ⟨_,_,_,hv⟩
 ·cases hr
theorem aToStr_sound (S:Sim Z μ h g w) {x r:AVal} {v:Value} (hv:VRel Z μ g x v) (hr:aToStr x=some r):∃u,(Conv.bytesToString v).run P w=.ok u w∧VRel Z μ g r u:=by
 unfold aToStr at hr
 split at hr
 ·rename_i n cells
  split at hr
  ·rename_i hle
   obtain ⟨bs,hb,rfl⟩:=Option.map_eq_some_iff.1 hr
   obtain ⟨ns,hns,rfl⟩:=bytesOf_ints hb
   simp only[VRel] at hv
   obtain ⟨a,cap',rfl,hcap,hz⟩:=hv
   have hlen:ns.length=n:=by
    have:=congrArg List.length hns
    rw[List.length_take,List.length_map] at this
    omega
   rcases hz with rfl|⟨b,o,c,rfl,hz,hc,ho⟩
   ·have:ns=[]:=List.eq_nil_of_length_eq_zero hlen
    subst this
    refine ⟨.string .empty,?_,by simp only[VRel];exact ⟨_,rfl,rfl⟩⟩
    cases a with
    | none=>simp[Conv.bytesToString,Sem.run_pure]
    | some a=>
      have:=run_bytesToString (P:=P) w a 0 cap' [] (by simp[loadCells,loadCellsFrom])
      simpa using this
   ·obtain ⟨arr,elem,fr,h1,rfl⟩:=S.imm b c hz
    have hvs:=VPre_u8 (ns:=ns) (vs:=arr.toList.drop o) (by rw[←hns];exact hc.take_left n)
    have hld:=run_loadCells_list (P:=P) w ⟨b,o,none⟩ ((arr.toList.drop o).take n) (fun j v hj=>by
     rw[add_plain,cell_at h1]
     rw[List.getElem?_take] at hj
     split at hj
     ·rw[List.getElem?_drop] at hj
      rw[←Array.getElem?_toList];exact hj
     ·cases hj)
    rw[hlen] at hvs
    rw[hvs] at hld
    simp only[List.length_map,hlen] at hld
    refine ⟨_,run_bytesToString (P:=P) w ⟨b,o,none⟩ n cap' ns hld,?_⟩
    simp only[VRel]
    refine ⟨_,rfl,?_⟩
    rw[push_bytes]
    rfl
  ·cases hr
 ·cases hr
  simp only[VRel] at hv
  subst hv
  exact ⟨.string .empty,by simp[Conv.bytesToString,Sem.run_pure],by simp only[VRel];exact ⟨_,rfl,rfl⟩⟩
 ·cases hr
theorem iev_sound {o:Oper} {io:IOp} (hc:comp P o.op=some io) (S:Sim Z μ h g w) (T:TRel Z μ g n tm ca.tmps) {r:AVal} (hr:iev io (ev tm) h=some r) :
 ∃v,(execOp ca.eval o).run P w=.ok (.value v) w∧VRel Z μ g r v:=by
 have lift:∀{s:Sem Value},(∃v,s.run P w=.ok v w∧VRel Z μ g r v)→∃v,((do pure (.value (←s)):Sem Next)).run P w=.ok (.value v) w∧VRel Z μ g r v:=by
  rintro s ⟨v,h1,h2⟩
  exact ⟨v,by simp only[Sem.run_bind,h1,Result.andThen_ok,Sem.run_pure],h2⟩
 unfold comp at hc
 split at hc
 all_goals rename_i hop
 all_goals simp only[execOp,hop]
 ·
  obtain ⟨x',hx,rfl⟩:=Option.map_eq_some_iff.1 hc
  cases hr
  exact ⟨_,rfl,opd_rel T hx⟩
 ·obtain ⟨x',hx,rfl⟩:=Option.map_eq_some_iff.1 hc
  cases hr
  exact ⟨_,rfl,opd_rel T hx⟩
 ·
  split at hc<;>cases hc
  rename_i c' a' b' h1 h2 h3
  simp only[iev] at hr
  split at hr<;>cases hr
  rename_i b hb
  have hcv:=opd_rel T h1
  rw[hb] at hcv
  simp only[VRel] at hcv
  refine ⟨_,by simp only[Sem.run_bind,hcv,asBool,Sem.run_pure,Result.andThen_ok];rfl,?_⟩
  cases b
  ·exact opd_rel T h3
  ·exact opd_rel T h2
 ·
  split at hc
  ·split at hc<;>cases hc
   simp[iev] at hr
  split at hc
  ·obtain ⟨x',hx,rfl⟩:=Option.map_eq_some_iff.1 hc
   simp[iev] at hr
  ·cases hc
 ·split at hc
  ·obtain ⟨x',hx,rfl⟩:=Option.map_eq_some_iff.1 hc
   simp[iev] at hr
  ·cases hc
 ·
  rename_i t parts
  apply lift
  unfold cBuild at hc
  split at hc
  ·rename_i z fs hz hu
   split at hc
   ·rename_i pl hpl
    obtain ⟨qs,hq,rfl⟩:=Option.map_eq_some_iff.1 hc
    simp only[iev] at hr
    obtain ⟨cs,hcs,rfl⟩:=Option.map_eq_some_iff.1 hr
    obtain ⟨zv,hzv,h1,h2,h3⟩:=zeroCs_rel (Z:=Z) (μ:=μ) (g:=g) hz
    obtain ⟨c',h4,h5,h6,h7⟩:=afill_sound (parts_rel T hq) h1 h2 h3 hcs
    refine ⟨.agg c',?_,by simp only[VRel];exact ⟨c',rfl,h5,h6,h7⟩⟩
    have hm :(fs.mapM fun f=>do pure (f.offset,←sizeOf f.type):Sem (Array (Nat×Nat))).run P w=.ok pl.toArray w:=by
     rw[Array.mapM_eq_mapM_toList]
     simp only[Sem.run_map,fieldPlaces_run hpl w,Result.andThen_ok]
    simp only[Instr.build,Sem.run_bind,run_zero' w hzv,Result.andThen_ok,run_underlying hu,hm]
    have :(parts.map fun (i,x)=>(i,ca.eval x)).toList=parts.toList.map fun (i,x)=>(i,ca.eval x):=by simp
    rw[this]
    have e :(fun (i:Nat)=>(pl.toArray)[i]?)=fun (i:Nat)=>pl[i]?:=by funext i;simp
    rw[e,h4]
    rfl
   ·cases hc
  ·rename_i z k e hz hu
   split at hc
   ·rename_i sz hsz
    obtain ⟨qs,hq,rfl⟩:=Option.map_eq_some_iff.1 hc
    simp only[iev] at hr
    obtain ⟨cs,hcs,rfl⟩:=Option.map_eq_some_iff.1 hr
    obtain ⟨zv,hzv,h1,h2,h3⟩:=zeroCs_rel (Z:=Z) (μ:=μ) (g:=g) hz
    obtain ⟨c',h4,h5,h6,h7⟩:=afill_sound (parts_rel T hq) h1 h2 h3 hcs
    refine ⟨.agg c',?_,by simp only[VRel];exact ⟨c',rfl,h5,h6,h7⟩⟩
    simp only[Instr.build,Sem.run_bind,run_zero' w hzv,Result.andThen_ok,run_underlying hu,run_sizeOf' w hsz]
    have :(parts.map fun (i,x)=>(i,ca.eval x)).toList=parts.toList.map fun (i,x)=>(i,ca.eval x):=by simp
    rw[this,h4]
    rfl
   ·cases hc
  ·cases hc
 ·
  unfold cBsl at hc
  split at hc
  ·split at hc
   ·split at hc
    ·obtain ⟨qs,hq,rfl⟩:=Option.map_eq_some_iff.1 hc
     simp[iev] at hr
    ·cases hc
   ·cases hc
  ·cases hc
 ·
  split at hc<;>cases hc
  rename_i t a k b a' h1 h2 h3
  exact lift (loadP_sound S h2 h1 (opd_rel T h3) hr)
 ·
  split at hc<;>cases hc
  simp[iev] at hr
 ·
  obtain ⟨x',hx,rfl⟩:=Option.map_eq_some_iff.1 hc
  have hv:=opd_rel T hx
  simp only[iev] at hr
  split at hr
  ·cases hr
   rename_i hx'
   rw[hx'] at hv
   refine ⟨_,?_,hv⟩
   simp only[VRel] at hv
   rw[hv.2]
   rfl
  ·cases hr
   rename_i hx'
   rw[hx'] at hv
   refine ⟨_,?_,hv⟩
   simp only[VRel] at hv
   obtain ⟨b,o,c,h1,_⟩:=hv
   rw[h1]
   rfl
  ·rename_i nm t a hx'
   split at hr
   ·cases hr
    rename_i hfine
    rw[hx'] at hv
    refine ⟨_,?_,hv⟩
    simp only[VRel] at hv
    obtain ⟨_,f',c',h0,h1,h2,h3,h4⟩:=hv
    rw[h0]
    obtain ⟨x,rfl⟩ : ∃x,f' = #[x]:=by
     match f',h1 with
     | ⟨[x]⟩,_=>exact ⟨x,rfl⟩
    have hx:=(VPre_cons.1 h3).1
    simp only[VRel] at hx
    obtain ⟨y,rfl,hy⟩:=hx
    have hl:∃n,P.types.size+Made.depth=n+1:=⟨P.types.size+Made.depth - 1,by simp[Made.depth]⟩
    obtain ⟨n,hn⟩:=hl
    have e0 :(#[Value.iface t y]:Array Value)[0]? = some (.iface t y):=rfl
    simp only[e0,Sem.run_bind,run_program,Result.andThen_ok,hn,nilAhead_fine hfine]
    rfl
   ·cases hr
  ·cases hr
 ·
  rename_i op t x y ty
  apply lift
  unfold cBin at hc
  split at hc
  ·rename_i d x' y' hd hx hy
   have hu:=opd_rel T hx
   have hv:=opd_rel T hy
   split at hc
   ·cases hc
    exact abin_sound hu hv hr
   ·cases hc
    exact abin_sound hu hv hr
   ·split at hc<;>cases hc<;>simp only[iev] at hr<;>split at hr<;>cases hr
    ·rename_i p q hp hq
     rw[hp] at hu;rw[hq] at hv
     simp only[VRel] at hu hv
     rw[hu,hv]
     exact ⟨_,eqB_sound (neg:=false) hd,by simp[VRel]⟩
    ·rename_i p q hp hq
     rw[hp] at hu;rw[hq] at hv
     simp only[VRel] at hu hv
     rw[hu,hv]
     exact ⟨_,eqB_sound (neg:=true) hd,by simp[VRel]⟩
   ·split at hc
    ·rename_i hagg
     split at hc
     ·rename_i ks hks hgd
      have main:∀{neg:Bool},io=.eqA neg ks x' y'→op =(if neg then .neq else .eql)→∃v,(do eqGuard op t x y (ca.eval x) (ca.eval y);binOp op t (ca.eval x) (ca.eval y):Sem Value).run P w=.ok v w∧VRel Z μ g r v:=by
       intro neg hio hop'
       subst hio
       simp only[iev] at hr
       split at hr
       ·rename_i as bs ha hb
        obtain ⟨q,hq,rfl⟩:=Option.map_eq_some_iff.1 hr
        rw[ha] at hu;rw[hb] at hv
        simp only[VRel] at hu hv
        obtain ⟨l,hl,h1,h2,_⟩:=hu
        obtain ⟨m,hm,h3,h4,_⟩:=hv
        have hag:aggT P t=some true:=by unfold aggT;rw[hd];simp[hagg]
        have he:=flat_eq (P:=P) (Z:=Z) (μ:=μ) (g:=g) 8 t ks hks as bs q (.agg l) (.agg m) hq (.inl ⟨hag,l,rfl,h1,h2⟩) (.inl ⟨hag,m,rfl,h3,h4⟩) 10000 w (by omega)
        rw[hl,hm,hop']
        refine ⟨_,?_,by simp only[VRel];rfl⟩
        cases neg
        ·simp only[Bool.false_eq_true,if_false,Sem.run_bind,run_eqGuard_agg w _ t x y l m hgd,Result.andThen_ok,run_eql_struct,he]
        ·simp only[if_true,Sem.run_bind,run_eqGuard_agg w _ t x y l m hgd,Result.andThen_ok,run_neq_struct,he]
       ·cases hr
      split at hc<;>cases hc
      ·exact main (neg:=false) rfl rfl
      ·exact main (neg:=true) rfl rfl
     ·cases hc
    ·split at hc
     ·rename_i kd hkd
      split at hc
      ·rename_i hnc
       obtain ⟨c,rfl,hcc⟩ : ∃c,y=.const c∧nilC kd c=true:=by
        unfold isNilC at hnc
        split at hnc
        ·exact ⟨_,rfl,hnc⟩
        ·cases hnc
       split at hc<;>cases hc<;>simp only[iev] at hr<;>obtain ⟨q,hq,rfl⟩:=Option.map_eq_some_iff.1 hr
       ·exact ⟨_,isNil_sound (neg:=false) hd hkd hu hq hcc,by simp[VRel]⟩
       ·exact ⟨_,isNil_sound (neg:=true) hd hkd hu hq hcc,by simp[VRel]⟩
      ·cases hc
     ·cases hc
  ·cases hc
 ·
  obtain ⟨x',hx,rfl⟩:=Option.map_eq_some_iff.1 hc
  exact lift (aun_sound (opd_rel T hx) hr)
 ·
  apply lift
  split at hc
  ·rename_i hs hd hx
   cases hc
   have hv:=opd_rel T hx
   simp only[iev] at hr
   split at hr<;>cases hr
   rename_i hx'
   rw[hx'] at hv
   have hv:=oInt hv
   rw[hv]
   exact ⟨_,by simp only[convert,Sem.run_bind,run_underlying hs,run_underlying hd,Result.andThen_ok,Conv.intToInt,Sem.run_pure];rfl,by simp[VRel]⟩
  ·rename_i hs hd hx
   cases hc
   have hv:=opd_rel T hx
   simp only[iev] at hr
   split at hr<;>cases hr
   rename_i hx'
   rw[hx'] at hv
   have hv':=hv
   simp only[VRel] at hv'
   obtain ⟨b,hb,_⟩:=hv'
   refine ⟨_,?_,hv⟩
   rw[hb]
   simp only[convert,Sem.run_bind,run_underlying hs,run_underlying hd,Result.andThen_ok,Sem.run_pure]
  ·rename_i hs hd hx
   split at hc<;>cases hc
   rename_i he
   have hv:=opd_rel T hx
   simp only[iev] at hr
   obtain ⟨v,h1,h2⟩:=aToStr_sound (P:=P) S hv hr
   refine ⟨v,?_,h2⟩
   rw[←h1]
   obtain ⟨a,n,c,hsl⟩:=aToStr_slice hv hr
   rw[hsl]
   simp only[convert,Sem.run_bind,run_underlying hs,run_underlying hd,run_underlying he,Result.andThen_ok]
  ·split at hc<;>cases hc
   simp[iev] at hr
  ·cases hc
 ·
  apply lift
  split at hc
  ·cases hc
  ·rename_i d x' hni hd hx
   cases hc
   cases hr
   refine ⟨.iface _ _,?_,by simp only[VRel];exact ⟨_,rfl,opd_rel T hx⟩⟩
   simp only[Instr.makeInterface,Sem.run_bind,run_underlying hd,Result.andThen_ok]
   cases d<;>first
    | rfl
    | exact (hni _ rfl).elim
  ·cases hc
 ·
  apply lift
  split at hc
  ·rename_i f c h1 h2
   split at hc<;>cases hc
   rename_i hp
   cases hr
   obtain ⟨l1,r1⟩:=opds_rel T h1
   obtain ⟨l2,r2⟩:=opds_rel T h2
   refine ⟨_,rfl,?_⟩
   simp only[VRel]
   refine ⟨hp,_,_,rfl,by simpa using l1,by simpa using l2,by simpa using r1,by simpa using r2⟩
  ·cases hc
 ·
  split at hc
  ·cases hc;simp[iev] at hr
  ·split at hc<;>cases hc;simp[iev] at hr
  ·cases hc
 ·
  unfold cMksl at hc
  split at hc
  ·split at hc
   ·split at hc<;>cases hc
    simp[iev] at hr
   ·cases hc
  ·cases hc
 ·
  apply lift
  unfold cSlice at hc
  split at hc
  ·rename_i h1 h2 h3 h4 h5
   obtain ⟨s,hs,hc⟩:=Option.bind_eq_some_iff.1 hc
   split at hc<;>cases hc
   rename_i hmx
   refine aSlA_sound h1 hs (opd_rel T h2) (optO T h3) (optO T h4) (optO T h5) ?_ hr
   intro hsome
   simp only[Option.isSome_map] at hsome ⊢
   cases hh:Option.isSome _<;>simp_all
  ·rename_i h1 h2 h3 h4 h5
   obtain ⟨s,hs,hc⟩:=Option.bind_eq_some_iff.1 hc
   split at hc<;>cases hc
   rename_i hmx
   refine aSlS_sound h1 hs (opd_rel T h2) (optO T h3) (optO T h4) (optO T h5) ?_ hr
   intro hsome
   simp only[Option.isSome_map] at hsome ⊢
   cases hh:Option.isSome _<;>simp_all
  ·rename_i h1 h2 h3 h4 h5
   cases hc
   have hmx:=optO (Z:=Z) (μ:=μ) (g:=g) T h5
   rcases hmx with ⟨_,hm⟩ | ⟨a',v',ha,_⟩
   ·rw[hm]
    exact aSlT_sound h1 (opd_rel T h2) (optO T h3) (optO T h4) hr
   ·simp at ha
  ·cases hc
 ·
  apply lift
  split at hc
  ·rename_i fs x' ht hx
   split at hc
   ·rename_i fd hf
    split at hc
    ·rename_i k hk
     cases hc
     have hv:=opd_rel T hx
     simp only[iev] at hr
     split at hr<;>cases hr
     ·rename_i r₁ off s hx'
      rw[hx'] at hv
      simp only[VRel] at hv
      rw[hv.2]
      refine ⟨_,by simp only[Instr.fieldAt,Sem.run_bind,run_underlying ht,Result.andThen_ok,hf,Instr.sureAddr,Sem.run_pure,fieldPlace,run_sizeOf' w hk,Nat.succ_ne_zero,if_false];rfl,?_⟩
      simp only[VRel]
      exact ⟨hv.1,by rw[add_plain]⟩
     ·rename_i cells hx'
      rw[hx'] at hv
      simp only[VRel] at hv
      obtain ⟨b,o',c,h1,h2,h3,h4⟩:=hv
      rw[h1]
      refine ⟨_,by simp only[Instr.fieldAt,Sem.run_bind,run_underlying ht,Result.andThen_ok,hf,Instr.sureAddr,Sem.run_pure,fieldPlace,run_sizeOf' w hk,Nat.succ_ne_zero,if_false];rfl,?_⟩
      simp only[VRel]
      refine ⟨b,o'+fd.offset,c,by rw[add_plain],h2,?_,?_⟩
      ·rw[←List.drop_drop];exact h3.drop _
      ·rw[←List.drop_drop,List.length_drop,←List.drop_take];exact h4.drop _
    ·rename_i hk
     split at hc<;>cases hc
     rename_i hcond
     obtain ⟨ho1,ho2,hB⟩:=hcond
     have hv:=opd_rel T hx
     simp only[iev] at hr
     split at hr
     ·rename_i r₁ off s hx'
      split at hr
      ·rename_i cells s' hrow
       split at hr<;>cases hr
       rename_i hss
       subst hss
       have hro:=S.rows r₁
       rw[hrow] at hro
       simp only[ORel] at hro
       obtain ⟨_,c,elem,h1,_⟩:=hro
       rw[hx'] at hv
       simp only[VRel] at hv
       rw[hv.2]
       refine ⟨_,by simp only[Instr.fieldAt,Sem.run_bind,run_underlying ht,Result.andThen_ok,hf,Instr.sureAddr,Sem.run_pure,fieldPlace,run_sizeOf' w hk,if_true,ho1,ho2,run_partAt0 h1 elem.2 hB];rfl,?_⟩
       simp only[VRel]
       exact ⟨hv.1,trivial⟩
      ·cases hr
     ·cases hr
    ·cases hc
   ·cases hc
  ·cases hc
 ·
  apply lift
  split at hc
  ·rename_i fs x' ht hx
   split at hc
   ·rename_i fd hf
    split at hc<;>cases hc
    rename_i k b hk hb
    simp only[iev] at hr
    split at hr
    ·rename_i cs hx'
     exact struct_field ht hf hk hb (opd_rel T hx) hx' hr
    ·cases hr
   ·cases hc
  ·cases hc
 ·
  apply lift
  unfold cIxAddr at hc
  split at hc
  ·rename_i h1 h2 h3
   obtain ⟨s,hs,rfl⟩:=Option.map_eq_some_iff.1 hc
   exact aIxA_sound h1 hs (opd_rel T h2) (opd_rel T h3) hr
  ·rename_i h1 h2 h3
   obtain ⟨s,hs,rfl⟩:=Option.map_eq_some_iff.1 hc
   exact aIxS_sound h1 hs (opd_rel T h2) (opd_rel T h3) hr
  ·cases hc
 ·
  apply lift
  unfold cIx at hc
  split at hc
  ·rename_i h1 h2 h3
   split at hc<;>cases hc
   rename_i h4 h5
   exact aIxV_sound h1 h4 h5 (opd_rel T h2) (opd_rel T h3) hr
  ·rename_i h1 h2 h3
   cases hc
   exact aIxT_sound h1 (opd_rel T h2) (opd_rel T h3) hr
  ·cases hc
 ·
  apply lift
  split at hc
  ·rename_i h1 h2 h3
   split at hc<;>cases hc
   rename_i h4 h5
   exact lookup_sound S h1 h4 h5 (opd_rel T h2) (opd_rel T h3) hr
  ·cases hc
 ·
  split at hc
  ·obtain ⟨s,hs,rfl⟩:=Option.map_eq_some_iff.1 hc
   simp[iev] at hr
  ·cases hc
 ·split at hc
  ·obtain ⟨s,hs,rfl⟩:=Option.map_eq_some_iff.1 hc
   simp[iev] at hr
  ·cases hc
 ·
  split at hc
  ·split at hc<;>cases hc
   simp[iev] at hr
  ·cases hc
 ·split at hc<;>cases hc
  simp[iev] at hr
 ·split at hc<;>cases hc
  simp[iev] at hr
 ·obtain ⟨s,hs,rfl⟩:=Option.map_eq_some_iff.1 hc
  simp[iev] at hr
 ·obtain ⟨s,hs,rfl⟩:=Option.map_eq_some_iff.1 hc
  simp[iev] at hr
 ·
  apply lift
  split at hc
  ·cases hc
  ·rename_i xx0 xt0 t0 ok0 _ _ _ d x' z hni hd hx hz
   cases hc
   obtain ⟨zv,hzv,hzr⟩:=zeroA_rel (Z:=Z) (μ:=μ) (g:=g) hz
   have hv:=opd_rel T hx
   simp only[iev,aTyAs] at hr
   split at hr
   ·rename_i hx'
    rw[hx'] at hv
    simp only[VRel] at hv
    split at hr<;>cases hr
    rename_i hok
    refine ⟨.tuple #[zv,.bool false],?_,?_⟩
    ·rw[hv]
     cases d<;>first
      | (exact (hni _ rfl).elim)
      | simp only[Instr.typeAssert,Sem.run_bind,run_underlying hd,Result.andThen_ok,hok,if_true,run_zero' w hzv,Sem.run_pure]
    ·simp only[VRel]
     exact ⟨_,rfl,rfl,VPre_cons.2 ⟨hzr,VPre_cons.2 ⟨by simp[VRel],VPre_nil _⟩⟩⟩
   ·rename_i u a hx'
    rw[hx'] at hv
    simp only[VRel] at hv
    obtain ⟨v',hv',hva⟩:=hv
    rw[hv']
    split at hr
    ·rename_i hut
     cases hr
     refine ⟨if ok0 then .tuple #[v',.bool true] else v',?_,?_⟩
     ·cases d<;>first
       | (exact (hni _ rfl).elim)
       | (simp only[Instr.typeAssert,Sem.run_bind,run_underlying hd,Result.andThen_ok,if_pos hut,Sem.run_pure])
     ·split
      ·simp only[VRel]
       exact ⟨_,rfl,rfl,VPre_cons.2 ⟨hva,VPre_cons.2 ⟨by simp[VRel],VPre_nil _⟩⟩⟩
      ·exact hva
    ·rename_i hut
     split at hr<;>cases hr
     rename_i hok
     refine ⟨.tuple #[zv,.bool false],?_,?_⟩
     ·cases d<;>first
       | (exact (hni _ rfl).elim)
       | simp only[Instr.typeAssert,Sem.run_bind,run_underlying hd,Result.andThen_ok,if_neg hut,hok,if_true,run_zero' w hzv,Sem.run_pure]
     ·simp only[VRel]
      exact ⟨_,rfl,rfl,VPre_cons.2 ⟨hzr,VPre_cons.2 ⟨by simp[VRel],VPre_nil _⟩⟩⟩
   ·cases hr
  ·cases hc
 ·
  apply lift
  obtain ⟨x',hx,rfl⟩:=Option.map_eq_some_iff.1 hc
  have hv:=opd_rel T hx
  simp only[iev] at hr
  split at hr
  ·rename_i vs hx'
   rw[hx'] at hv
   simp only[VRel] at hv
   obtain ⟨l,hl,h1,h2⟩:=hv
   obtain ⟨v,h3,h4⟩:=h2.get hr
   rw[hl]
   refine ⟨v,?_,h4⟩
   rw[Array.getElem?_toList] at h3
   simp only[Instr.extract,h3,Sem.run_pure]
  ·cases hr
 ·
  rename_i c
  unfold cCall at hc
  split at hc
  ·rename_i b hcal
   obtain ⟨z,h1,h2⟩:=builtin_sound hc S T hr
   refine ⟨z,?_,h2⟩
   simp only[resolve,hcal,Sem.run_bind,Sem.run_pure,Result.andThen_ok,invoke]
   have ea:c.args.map ca.eval =(c.args.toList.map ca.eval).toArray:=by
    apply Array.toList_inj.1;simp
   have et:c.argTypes=c.argTypes.toList.toArray:=by simp
   rw[ea,et]
   exact h1 _ _
  ·split at hc<;>cases hc
   simp[iev] at hr
  ·split at hc<;>cases hc
   simp[iev] at hr
 ·obtain ⟨x',hx,rfl⟩:=Option.map_eq_some_iff.1 hc
  simp[iev] at hr
 ·split at hc
  ·split at hc<;>cases hc
   simp[iev] at hr
  ·cases hc
 ·cases hc
end Go.Cw
end
