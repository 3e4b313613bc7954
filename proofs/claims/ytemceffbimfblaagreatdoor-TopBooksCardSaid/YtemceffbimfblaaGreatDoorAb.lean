/-
  Operations that make or write memory; operations and code told step by step: no program is named here.
-/
import Derived.Test.YtemceffbimfblaaGreatDoorAa
import Derived.Deep.AppendSrc
import Derived.Laws.CopyRow
import Derived.Deep.Upon
import Derived.Laws.IdiomStrings
import Derived.Maps.RangeRun
set_option linter.unusedSectionVars false
set_option linter.unusedSimpArgs false
set_option linter.unusedVariables false
section
namespace Go.Cw
open Go
variable {P : Program} {Z:Snap} {μ:Mu} {h:Heap} {g n:Nat} {w:World} {tm:Nat→AVal} {ca:Act}
def Did (Z:Snap) (μ:Mu) (h:Heap) (g:Nat) (w:World) (r:AVal) (h':Heap) (g':Nat) (v:Value) (w':World):Prop:=
 ∃Z' μ',VRel Z' μ' g' r v∧Sim Z' μ' h' g' w'∧Tr Z μ h g w Z' μ' h' g' w'
theorem Did.new (S:Sim Z μ h g w) (nm:Nat) {cells:List AVal} {c:Array Value} {elem:TypeId} (hel:elem<tyLim) (hc:VPre Z μ g cells c.toList) (ho:One (c.toList.take cells.length)) {r:AVal} {v:Value}
 (hr:∀μ':Mu,μ' (g+1) =⟨w.heap.size,c.size⟩→VRel Z μ' (g+1) r v) :
 Did Z μ h g w r (upd h nm (.row cells (g+1))) (g+1) v (w.alloc (.cells c elem)):=by
 obtain ⟨h1,h2⟩:=S.allocRow nm (elem:=elem) hel hc ho
 exact ⟨Z,_,hr _ (Mu.new_blk _),h1,h2⟩
theorem Tr.pre_heap {w₀:World} (hw:w.heap=w₀.heap) (he:SEnv w₀ w) {Z':Snap} {μ':Mu} {h':Heap} {g':Nat} {w':World} (T:Tr Z μ h g w Z' μ' h' g' w'):Tr Z μ h g w₀ Z' μ' h' g' w':=
 ⟨T.ext,hw ▸ T.size,fun b hb hn=>by rw[←hw];exact T.frame b (hw ▸ hb) hn,fun r s hs hl=>T.wr r s hs (hw ▸ hl),fun b c hc hl=>T.imm b c hc (hw ▸ hl),T.env.1.trans he.1,T.env.2.trans he.2⟩
theorem Did.pre_heap {w₀:World} (hw:w.heap=w₀.heap) (he:SEnv w₀ w) {r:AVal} {h':Heap} {g':Nat} {v:Value} {w':World} (d:Did Z μ h g w r h' g' v w'):Did Z μ h g w₀ r h' g' v w':=by
 obtain ⟨Z',μ',h1,h2,h3⟩:=d
 exact ⟨Z',μ',h1,h2,h3.pre_heap hw he⟩
theorem Sim.row (S:Sim Z μ h g w) {r s:Nat} {cells:List AVal} (hr:h r=.row cells s) :
 s≤g∧∃(c:Array Value) (elem:Ty),w.heap[(μ s).blk]? = some (.cells c elem.1 (0,0))∧c.size =(μ s).size∧VPre Z μ g cells c.toList∧One (c.toList.take cells.length):=by
 have:=S.rows r
 rw[hr] at this
 exact this
theorem setRow_put {b:Nat} {c c':Array Value} {elem:TypeId} (hb:w.heap[b]? = some (.cells c elem (0,0))) :(w.setRow b c').heap[b]? = some (.cells c' elem (0,0)):=
 setRow_heap w b c c' elem (0,0) hb
theorem setRow_size (b:Nat) (c:Array Value) :(w.setRow b c).heap.size=w.heap.size:=by simp[World.setRow]
theorem Sim.setRow (S:Sim Z μ h g w) {r s:Nat} {cells cells':List AVal} (hr:h r=.row cells s) {c:Array Value}
 (hc:VPre Z μ g cells' c.toList) (ho:One (c.toList.take cells'.length)) (hs:c.size =(μ s).size) :
 Sim Z μ (upd h r (.row cells' s)) g (w.setRow (μ s).blk c)∧Tr Z μ h g w Z μ (upd h r (.row cells' s)) g (w.setRow (μ s).blk c):=by
 obtain ⟨hsg,c₀,elem,h1,h2,h3,h4⟩:=S.row hr
 refine S.put r (Ext.refl _ _ _) rfl rfl (by rw[setRow_size];exact Nat.le_refl _) (fun b _ hne=>setRow_other _ _ _ _ hne) (.inr ⟨s,by rw[hr];rfl,rfl⟩) ?_
 simp only[ORel]
 exact ⟨hsg,c,elem,setRow_put h1,hs,hc,ho⟩
theorem take_setRange (c l:List Value) {off k:Nat} (h:off+l.length≤k) (hk:k≤c.length) :
 (c.take off++(l++c.drop (off+l.length))).take k =(c.take k).take off++(l++(c.take k).drop (off+l.length)):=by
 apply List.ext_getElem?
 intro i
 simp only[List.getElem?_take,List.getElem?_append,List.length_take,List.getElem?_drop]
 have e1:min off c.length=off:=by omega
 have e2:min off (min k c.length)=off:=by omega
 rw[e1,e2]
 by_cases h1:i<off
 ·have:i<k:=by omega
  simp[h1,this]
 ·by_cases h2:i - off<l.length
  ·have:i<k:=by omega
   simp[h1,h2,this]
  ·by_cases h3:i<k
   ·have:off+l.length+(i - off - l.length)=i:=by omega
    simp[h1,h2,h3,this]
   ·have:¬off+l.length+(i - off - l.length)<k:=by omega
    simp[h1,h2,h3,this]
theorem storeP_run (S:Sim Z μ h g w) {x:AVal} {vs:List AVal} {h':Heap} {u v:Value} (hx:VRel Z μ g x u) (hst:storeP h x vs=some h') (hsz:v.cells.size=vs.length) (hv:VPre Z μ g vs v.cells.toList)
 (ho:One v.cells.toList) {t:TypeId} (ht:szOf P t=some vs.length):∃w',(Instr.storeAt t u v).run P w=.ok () w'∧Sim Z μ h' g w'∧Tr Z μ h g w Z μ h' g w':=by
 unfold storeP at hst
 split at hst
 ·rename_i r off s
  simp only[VRel] at hx
  obtain ⟨hsg,rfl⟩:=hx
  split at hst
  ·rename_i cells s' hr
   split at hst<;>cases hst
   rename_i hcond
   obtain ⟨rfl,hle⟩:=hcond
   obtain ⟨_,c,elem,h1,h2,h3,h4⟩:=S.row hr
   have hlen:cells.length≤c.size:=by simpa using h3.len
   have hl:v.cells.toList.length=vs.length:=by rw[Array.length_toList];exact hsz
   have hrun:=run_storeCells_at (P:=P) (μ s).blk off elem v.cells.toList 0 c w h1 (by rw[hl];omega) ho
   obtain ⟨h5,h6⟩:=S.setRow hr (cells':=setRange cells off vs) (c:=(c.toList.take (off+0)++v.cells.toList++c.toList.drop (off+0+v.cells.toList.length)).toArray)
    (by
      have:=setRange_sound (off:=off) h3 hv hl hle
      simpa using this)
    (by
      rw[setRange_length hle]
      simp only[Nat.add_zero,List.append_assoc]
      intro y hy
      have e:=take_setRange c.toList v.cells.toList (k:=cells.length) (off:=off) (by rw[hl];exact hle) (by simpa using hlen)
      rw[e] at hy
      exact One.setRange h4 ho y hy)
    (by
      simp only[List.size_toArray,List.length_append,List.length_take,List.length_drop,Array.length_toList,hl]
      omega)
   refine ⟨_,?_,h5,h6⟩
   simp only[Instr.storeAt,Instr.sureAddr,Sem.run_bind,Sem.run_pure,Result.andThen_ok,storeVar,run_sizeOf' w ht,hsz,ne_eq,not_true,if_false]
   exact hrun
  ·cases hst
 ·cases hst
theorem cyc_rel {z:List AVal} {c:Array Value} (hs:c.size=z.length) (hz:z≠[]) (hv:VPre Z μ g z c.toList) (ho:One c.toList) (m:Nat) :
 ((Array.range m).map (c[· % c.size]!)).size =(cyc z m).length∧VPre Z μ g (cyc z m) ((Array.range m).map (c[· % c.size]!)).toList∧One ((Array.range m).map (c[· % c.size]!)).toList:=by
 have hpos:0<z.length:=List.length_pos_iff.2 hz
 refine ⟨by simp[cyc],?_,?_⟩
 ·rw[VPre_iff]
  intro i a hi
  unfold cyc at hi
  rw[List.getElem?_map] at hi
  obtain ⟨j,hj,rfl⟩:=Option.map_eq_some_iff.1 hi
  obtain ⟨hjm,e⟩:=List.getElem?_eq_some_iff.1 hj
  simp only[List.length_range] at hjm
  rw[List.getElem_range] at e
  subst e
  have hlt:i % c.size<c.size:=Nat.mod_lt _ (by omega)
  refine ⟨c[i % c.size]!,by simp[hjm],?_⟩
  have hlt':i % z.length<z.length:=Nat.mod_lt _ hpos
  obtain ⟨v,hv1,hv2⟩:=hv.get (List.getElem?_eq_getElem hlt')
  rw[List.getD,List.getElem?_eq_getElem hlt',Option.getD_some]
  rw[Array.getElem?_toList,←hs,Array.getElem?_eq_getElem hlt] at hv1
  cases hv1
  rw[getElem!_pos c _ hlt]
  exact hv2
 ·intro v hv'
  simp only[Array.toList_map,Array.toList_range,List.mem_map,List.mem_range] at hv'
  obtain ⟨i,_,rfl⟩:=hv'
  have hlt:i % c.size<c.size:=Nat.mod_lt _ (by omega)
  rw[getElem!_pos c _ hlt]
  exact ho _ (by simp)
theorem Sim.allocImm (S:Sim Z μ h g w) (arr:Array Value) (elem:TypeId) (fr:Nat×Nat) :
 Sim (Snap.add Z w.heap.size arr.toList) μ h g (w.alloc (.cells arr elem fr))∧Tr Z μ h g w (Snap.add Z w.heap.size arr.toList) μ h g (w.alloc (.cells arr elem fr)):=by
 have hz:Z w.heap.size=none:=by
  cases hz:Z w.heap.size with
  | none=>rfl
  | some c=>have:=S.imm_lt hz;omega
 have old:∀b,b<w.heap.size→(w.alloc (.cells arr elem fr)).heap[b]? = w.heap[b]?:=by
  intro b hb
  show (w.heap.push _)[b]? = _
  rw[Array.getElem?_push,if_neg (by omega)]
 have e:Ext Z μ g (Snap.add Z w.heap.size arr.toList) μ g:=by
  refine ⟨fun b x hb=>?_,fun _ _=>rfl,Nat.le_refl _⟩
  simp only[Snap.add]
  show (Z b).orElse _=some x
  rw[hb];rfl
 refine ⟨⟨fun r=>?_,S.inj,fun b x hb=>?_,fun r s hs=>?_⟩,⟨e,?_,fun b hb _=>old b hb,fun r s hs _=>⟨r,s,hs,rfl⟩,fun b x hb hlt=>?_,rfl,rfl⟩⟩
 ·exact (S.rows r).mono e fun s hs=>old _ (S.lt hs).2
 ·rcases Snap.add_some hb with hb|⟨rfl,rfl⟩
  ·obtain ⟨a1,e1,f1,h1,h2⟩:=S.imm b x hb
   exact ⟨a1,e1,f1,by rw[old b (S.imm_lt hb)];exact h1,h2⟩
  ·exact ⟨arr,elem,fr,alloc_at _,rfl⟩
 ·have:=(S.lt hs).2
  rw[Snap.add_ne (by omega)]
  exact S.sep r s hs
 ·show w.heap.size≤(w.heap.push _).size
  simp
 ·rcases Snap.add_some hb with hb|⟨rfl,rfl⟩
  ·exact .inl hb
  ·omega
theorem Snap.add_new (S:Sim Z μ h g w) (c:List Value):Snap.add Z w.heap.size c w.heap.size=some c:=by
 refine Snap.add_at c ?_
 cases hz:Z w.heap.size with
 | none=>rfl
 | some c=>have:=S.imm_lt hz;omega
end Go.Cw
end
section
namespace Go.Cw
open Go
variable {P : Program} {Z:Snap} {μ:Mu} {h:Heap} {g n:Nat} {w:World} {tm:Nat→AVal} {ca:Act}
theorem cells_of_row {b:Nat} {c:Array Value} {elem:TypeId} {fr:Nat×Nat} (hb:w.heap[b]? = some (.cells c elem fr)) (off k:Nat) :
 ∀j u,((c.toList.drop off).take k)[j]? = some u→w.cell? ((⟨b,off,none⟩ : Addr).add j)=some u:=by
 intro j u hj
 rw[add_plain,cell_at hb]
 rw[List.getElem?_take] at hj
 split at hj
 ·rw[List.getElem?_drop] at hj
  rw[←Array.getElem?_toList];exact hj
 ·cases hj
theorem One_nil : One []:=fun _ hx=>(List.not_mem_nil hx).elim
theorem firstCells_none0 {size:Nat} {a:Option Addr} {l c:Nat} :(Builtin.firstCells size 0 (.slice a l c)).run P w=.ok ([]:List Value).toArray w:=by
 cases a with
 | none=>simp[Builtin.firstCells]
 | some a=>simp[Builtin.firstCells,loadCells,loadCellsFrom]
theorem elems_src (S:Sim Z μ h g w) {tx e':TypeId} (hk:P.underlying tx=some (.slice e')) {esz:Nat} {y:AVal} {v:Value} (hy:VRel Z μ g y v) {k:Nat} {ys:List AVal} (he:elemsOf h esz y=some (k,ys)) :
 ∃news,Src P esz tx v k news w∧VPre Z μ g ys news∧news.length=ys.length∧One news∧∀m,m≤k→(Builtin.firstCells esz m v).run P w=.ok (news.take (m*esz)).toArray w:=by
 unfold elemsOf at he
 split at he
 ·rename_i r off s len cap
  split at he
  ·rename_i cs hcs
   split at he<;>cases he
   rename_i hle
   unfold cellsAt at hcs
   split at hcs
   ·rename_i cells s' hr
    split at hcs<;>cases hcs
    rename_i hss
    subst hss
    obtain ⟨_,c,elem,h1,h2,h3,h4⟩:=S.row hr
    simp only[VRel] at hy
    obtain ⟨_,cap',rfl,_⟩:=hy
    have hlen:cells.length≤c.size:=by simpa using h3.len
    rw[List.length_drop] at hle
    have e1 :((c.toList.drop off).take (k*esz)).length=k*esz:=by
     rw[List.length_take,List.length_drop,Array.length_toList];omega
    have ho:One ((c.toList.drop off).take (k*esz)):=by
     intro x hx
     have:=h4.drop_take off
     refine this x ?_
     have e :(c.toList.drop off).take (k*esz) =((c.toList.drop off).take (cells.length - off)).take (k*esz):=by rw[List.take_take,Nat.min_eq_left hle]
     rw[e] at hx
     exact List.mem_of_mem_take hx
    refine ⟨_,Src.ofSlice w hk _ k cap' _ e1 (cells_of_row h1 off _) ho,(h3.drop off).take _,?_,ho,fun m hm=>?_⟩
    ·rw[e1,List.length_take,List.length_drop];omega
    ·have hmk:m*esz≤k*esz:=Nat.mul_le_mul_right _ hm
     rw[List.take_take,Nat.min_eq_left hmk]
     exact run_firstCells_some w esz m _ k cap' _ (by rw[List.length_take,List.length_drop,Array.length_toList];omega) (cells_of_row h1 off _)
   ·cases hcs
  ·cases he
 ·rename_i n₁ cells
  split at he<;>cases he
  rename_i hle
  simp only[VRel] at hy
  obtain ⟨a,cap',rfl,hcap,hz⟩:=hy
  rcases hz with rfl|⟨b,o,c,rfl,hz,hv,ho⟩
  ·refine ⟨[],?_,by simpa using VPre_nil _,by simp,One_nil,fun m hm=>by
    obtain rfl:m=0:=by omega
    simpa using firstCells_none0⟩
   cases a with
   | none=>exact Src.ofNil w hk cap'
   | some a=>exact Src.ofSlice w hk a 0 cap' [] (by simp) (fun j u hj=>by simp at hj) (One_nil)
  ·obtain ⟨arr,elem,fr,h1,rfl⟩:=S.imm b c hz
   have hlen:=hv.len
   have e1 :((arr.toList.drop o).take (k*esz)).length=k*esz:=by
    rw[List.length_take];omega
   have ho':One ((arr.toList.drop o).take (k*esz)):=by
    intro x hx
    refine ho x ?_
    have e :(arr.toList.drop o).take (k*esz) =((arr.toList.drop o).take cells.length).take (k*esz):=by rw[List.take_take,Nat.min_eq_left hle]
    rw[e] at hx
    exact List.mem_of_mem_take hx
   refine ⟨_,Src.ofSlice w hk _ k cap' _ e1 (cells_of_row h1 o _) ho',hv.take _,?_,ho',fun m hm=>?_⟩
   ·rw[e1,List.length_take];omega
   ·have hmk:m*esz≤k*esz:=Nat.mul_le_mul_right _ hm
    rw[List.take_take,Nat.min_eq_left hmk]
    exact run_firstCells_some w esz m _ k cap' _ (by rw[List.length_take];omega) (cells_of_row h1 o _)
 ·cases he
  simp only[VRel] at hy
  subst hy
  exact ⟨[],Src.ofNil w hk 0,VPre_nil _,rfl,One_nil,fun m hm=>by
   obtain rfl:m=0:=by omega
   simpa using firstCells_none0⟩
 ·cases he
  simp only[VRel] at hy
  obtain ⟨a,rfl⟩:=hy
  refine ⟨[],?_,VPre_nil _,rfl,One_nil,fun m hm=>by
   obtain rfl:m=0:=by omega
   simpa using firstCells_none0⟩
  cases a with
  | none=>exact Src.ofNil w hk 0
  | some a=>exact Src.ofSlice w hk a 0 0 [] (by simp) (fun j u hj=>by simp at hj) (One_nil)
 ·cases he
theorem grownCap_ge (w:World) (need old:Nat) (e:TypeId):need≤grownCap w need old e:=by
 unfold grownCap
 simp only[Question.cut]
 omega
theorem app_grow (S:Sim Z μ h g w) {t tx ty e:TypeId} (hlim:e<tyLim) {i:TypeInfo} {z:Value} (ht:P.underlying t=some (.slice e)) (hi:P.info? e=some i) (hz:i.zero=some z) (hzs:z.cells.size=i.size)
 (nm:Nat) {base:Option Addr} {sLen sCap:Nat} {olds:List Value} {oa:List AVal} (hold :(Builtin.firstCells i.size sLen (.slice base sLen sCap)).run P w.drew=.ok olds.toArray w.drew)
 (hol:olds.length=oa.length) (hos:oa.length=sLen*i.size) (hov:VPre Z μ g oa olds) (hoo:One olds) {y:Value} {k:Nat} {news:List Value} {ys:List AVal} (hs:Src P i.size tx y k news w) (hnv:VPre Z μ g ys news) (hnl:news.length=ys.length) (hno:One news)
 (hg:sCap<sLen+k) (hb0:i.bytes≠0) (hb :(2*(sLen+k)+192)*i.bytes≤281474976710656) :
 ∃v w',(Builtin.append_ #[t,tx] ty #[.slice base sLen sCap,y]).run P w=.ok v w'∧
  Did Z μ h g w (.sl nm 0 (g+1) (sLen+k) (.gr i.size)) (upd h nm (.row (oa++ys) (g+1))) (g+1) v w':=by
 have hpos:0<i.bytes:=Nat.pos_of_ne_zero hb0
 have hsmall:2*(sLen+k)+192≤281474976710656:=Nat.le_trans (Nat.le_mul_of_pos_right _ hpos) hb
 have hfit:Builtin.nextslicecap (sLen+k) sCap*i.bytes≤281474976710656:=
  Nat.le_trans (Nat.mul_le_mul_right _ (Nat.le_trans (nextslicecap_le hg) (by omega))) hb
 refine ⟨_,_,run_append_grow_src w t tx ty e i z ht hi hz base sLen sCap olds hold y k news hs hg (by omega) hfit,?_⟩
 have hnl':news.length=k*i.size:=hs.newsLen
 have hge:=grownCap_ge w (sLen+k) sCap e
 generalize grownCap w (sLen+k) sCap e=cap at hge ⊢
 have hsz :((olds++news).toArray++Builtin.zeroCells z.cells (cap - (sLen+k))).size=cap*i.size:=by
  have e1 :(Builtin.zeroCells z.cells (cap - (sLen+k))).size =(cap - (sLen+k))*i.size:=by simp[Builtin.zeroCells,hzs]
  rw[Array.size_append,e1,List.size_toArray,List.length_append,hol,hos,hnl',←Nat.add_mul,←Nat.add_mul]
  congr 1
  omega
 have hd:=Did.new (S.of_heap (w':=w.drew) rfl) nm (hel:=hlim) (cells:=oa++ys) (c:=(olds++news).toArray++Builtin.zeroCells z.cells (cap - (sLen+k))) (elem:=e)
  (r:=.sl nm 0 (g+1) (sLen+k) (.gr i.size)) (v:=.slice (some ⟨w.heap.size,0,none⟩) (sLen+k) cap)
  (by
    rw[Array.toList_append]
    exact (hov.append hol hnv).more _)
  (by
    have e :((olds++news).toArray++Builtin.zeroCells z.cells (cap - (sLen+k))).toList.take (oa++ys).length=olds++news:=by
     rw[Array.toList_append]
     simp only[List.length_append,←hol,←hnl]
     rw[←List.length_append,List.take_left']
     simp
    rw[e]
    exact hoo.append hno)
  (by
    intro μ' hμ
    simp only[VRel]
    refine ⟨Nat.le_refl _,cap,?_,hge,?_⟩
    ·rw[hμ];rfl
    ·rw[hμ];simp only[];rw[hsz];omega)
 exact Did.pre_heap (w:=w.drew) (w₀:=w) rfl ⟨rfl,rfl⟩ hd
theorem run_append_room_row {t tx ty e:TypeId} {i:TypeInfo} (ht:P.underlying t=some (.slice e)) (hi:P.info? e=some i) {b off sLen sCap:Nat} {y:Value} {k:Nat} {news:List Value}
 (hs:Src P i.size tx y k news w) (hroom:sLen+k≤sCap) {c:Array Value} {elem:TypeId} (hb:w.heap[b]? = some (.cells c elem (0,0))) (hle:off+sLen*i.size+news.length≤c.size) :
 (Builtin.append_ #[t,tx] ty #[.slice (some ⟨b,off,none⟩) sLen sCap,y]).run P w =
   .ok (.slice (some ⟨b,off,none⟩) (sLen+k) sCap) (w.setRow b (c.toList.take (off+sLen*i.size)++(news++c.toList.drop (off+sLen*i.size+news.length))).toArray):=by
 have hst:=run_storeCells_at (P:=P) b (off+sLen*i.size) elem news 0 c w hb (by omega) hs.one
 simp only[Nat.add_zero,List.append_assoc] at hst
 rcases hs.kind with ⟨e',hk⟩ | hk<;>simp[Builtin.append_,run_underlying ht,run_underlying hk,sizeOf,typeInfo,hi,hs.len,hroom,hs.cells,Addr.add_lit,hst]
theorem firstCells_nil {size:Nat} {base:Option Addr} {w:World} :(Builtin.firstCells size 0 (.slice base 0 0)).run P w=.ok ([]:List Value).toArray w:=by
 cases base with
 | none=>simp[Builtin.firstCells]
 | some a=>simp[Builtin.firstCells,loadCells,loadCellsFrom]
theorem Sim.move {h:Heap} (S:Sim Z μ h g w) (r nm:Nat) {o:AObj} (ho:h r=o):Sim Z μ (upd (upd h r .dead) nm o) g w:=by
 by_cases hn:nm=r
 ·subst hn;subst ho;rw[upd_upd,upd_self];exact S
 have val:∀x,(upd (upd h r .dead) nm o) x=if x=nm then h r else if x=r then .dead else h x:=fun x=>by simp only[upd,ho]
 refine ⟨fun x=>?_,fun x y s s' hx hy hne=>?_,S.imm,fun x s hx=>?_⟩
 ·rw[val];split
  ·exact S.rows r
  ·split
   ·simp[ORel]
   ·exact S.rows x
 ·rw[val] at hx hy
  split at hx
  ·split at hy
   ·rename_i e₁ e₂;exact absurd (e₁.trans e₂.symm) hne
   ·split at hy
    ·simp[AObj.stamp] at hy
    ·rename_i e;exact S.inj r y s s' hx hy (fun he=>e he.symm)
  ·split at hx
   ·simp[AObj.stamp] at hx
   ·rename_i e
    split at hy
    ·exact S.inj x r s s' hx hy e
    ·split at hy
     ·simp[AObj.stamp] at hy
     ·exact S.inj x y s s' hx hy hne
 ·rw[val] at hx
  split at hx
  ·exact S.sep r s hx
  ·split at hx
   ·simp[AObj.stamp] at hx
   ·exact S.sep x s hx
theorem Did.move {a:AVal} {v:Value} {w':World} {g' s:Nat} (r nm:Nat) {o:AObj} (hs:o.stamp=some s) (d:Did Z μ h g w a (upd h r o) g' v w'):Did Z μ h g w a (upd (upd h r .dead) nm o) g' v w':=by
 obtain ⟨Z',μ',h1,h2,h3⟩:=d
 have h4:=h2.move r nm (upd_same h r o)
 rw[upd_upd] at h4
 refine ⟨Z',μ',h1,h4,h3.ext,h3.size,h3.frame,fun x s hx hlt=>?_,h3.imm,h3.env⟩
 by_cases hn:x=nm
 ·subst hn
  rw[upd_same] at hx
  exact h3.wr r s (by rw[upd_same];exact hx) hlt
 ·rw[upd_ne _ _ hn] at hx
  by_cases hr:x=r
  ·subst hr;rw[upd_same] at hx;simp[AObj.stamp] at hx
  ·rw[upd_ne _ _ hr] at hx
   exact h3.wr x s (by rw[upd_ne _ _ hr];exact hx) hlt
theorem app_sound (S:Sim Z μ h g w) {t tx ty e e':TypeId} (hlim:e<tyLim) {i:TypeInfo} {z:Value} (ht:P.underlying t=some (.slice e)) (htx:P.underlying tx=some (.slice e')) (hi:P.info? e=some i) (hz:i.zero=some z) (hzs:z.cells.size=i.size)
 (hb0:i.bytes≠0) (nm:Nat) {x y r:AVal} {xv yv:Value} (hx:VRel Z μ g x xv) (hy:VRel Z μ g y yv) {k:Nat} {ys:List AVal} (he:elemsOf h i.size y=some (k,ys)) {h':Heap} {g':Nat}
 (hr:aApp nm i.size i.bytes x k ys h g=some (r,h',g')) :
 ∃v w',(Builtin.append_ #[t,tx] ty #[xv,yv]).run P w=.ok v w'∧Did Z μ h g w r h' g' v w':=by
 obtain ⟨news,hsrc,hnv,hnl,hno,_⟩:=elems_src S htx hy he
 have hnl':news.length=k*i.size:=hsrc.newsLen
 unfold aApp at hr
 split at hr
 ·rename_i hk0
  subst hk0
  have hn0:news=[]:=List.eq_nil_of_length_eq_zero (by rw[hnl'];simp)
  subst hn0
  have same:∀{base:Option Addr} {l c:Nat},l≤c→xv=.slice base l c→∃v w',(Builtin.append_ #[t,tx] ty #[xv,yv]).run P w=.ok v w'∧Did Z μ h g w x h g v w':=by
   rintro base l c hle rfl
   exact ⟨_,_,run_append_nothing w t tx ty e i ht hi base l c hle yv hsrc,Z,μ,by simpa using hx,S,Tr.refl⟩
  split at hr<;>cases hr
  ·have hx':=hx;simp only[VRel] at hx'
   exact same (Nat.le_refl _) hx'
  ·have hx':=hx;simp only[VRel] at hx'
   obtain ⟨a,hx'⟩:=hx'
   exact same (Nat.le_refl _) hx'
  ·have hx':=hx;simp only[VRel] at hx'
   obtain ⟨a,c,hx',hle,_⟩:=hx'
   exact same hle hx'
  ·have hx':=hx;simp only[VRel] at hx'
   obtain ⟨_,c,hx',hle,_⟩:=hx'
   exact same hle hx'
 ·rename_i hk0
  have fresh:∀{base:Option Addr},xv=.slice base 0 0→(2*k+192)*i.bytes≤281474976710656→
   ∃v w',(Builtin.append_ #[t,tx] ty #[xv,yv]).run P w=.ok v w'∧Did Z μ h g w (.sl nm 0 (g+1) k (.gr i.size)) (upd h nm (.row ys (g+1))) (g+1) v w':=by
   rintro base rfl hb
   have:=app_grow (P:=P) (ty:=ty) S hlim ht hi hz hzs nm (base:=base) (sLen:=0) (sCap:=0) (olds:=[]) (oa:=[]) firstCells_nil rfl (by simp) (VPre_nil _) (One_nil) hsrc hnv hnl hno (by omega) hb0 (by simpa using hb)
   simpa using this
  split at hr
  ·split at hr<;>cases hr
   rename_i hb
   simp only[VRel] at hx
   exact fresh hx hb
  ·split at hr<;>cases hr
   rename_i hb
   simp only[VRel] at hx
   obtain ⟨a,hx⟩:=hx
   exact fresh hx hb
  ·rename_i r₁ off s len cap
   split at hr
   ·rename_i cells s' hrow
    split at hr
    ·rename_i hcond
     obtain ⟨rfl,hle,hb⟩:=hcond
     obtain ⟨hsg,c,elem,h1,h2,h3,h4⟩:=S.row hrow
     have hlen:cells.length≤c.size:=by simpa using h3.len
     simp only[VRel] at hx
     obtain ⟨_,cap',rfl,hcap,hkind⟩:=hx
     have olds1 :((c.toList.drop off).take (len*i.size)).length=len*i.size:=by
      rw[List.length_take,List.length_drop,Array.length_toList];omega
     have oa1 :((cells.drop off).take (len*i.size)).length=len*i.size:=by
      rw[List.length_take,List.length_drop];omega
     have oldsO:One ((c.toList.drop off).take (len*i.size)):=by
      intro x hx
      have:=h4.drop_take off
      refine this x ?_
      have e :(c.toList.drop off).take (len*i.size) =((c.toList.drop off).take (cells.length - off)).take (len*i.size):=by rw[List.take_take,Nat.min_eq_left (by omega)]
      rw[e] at hx
      exact List.mem_of_mem_take hx
     have grow:∀nm,cap'<len+k→∃v w',(Builtin.append_ #[t,tx] ty #[.slice (some ⟨(μ s).blk,off,none⟩) len cap',yv]).run P w=.ok v w'∧
      Did Z μ h g w (.sl nm 0 (g+1) (len+k) (.gr i.size)) (upd h nm (.row ((cells.drop off).take (len*i.size)++ys) (g+1))) (g+1) v w':=by
      intro nm hgrow
      have hold:=run_firstCells_some (P:=P) w.drew i.size len ⟨(μ s).blk,off,none⟩ len cap' _ olds1 (by simpa using cells_of_row h1 off (len*i.size))
      exact app_grow (P:=P) (ty:=ty) S hlim ht hi hz hzs nm hold (by rw[olds1,oa1]) oa1 ((h3.drop off).take _) oldsO hsrc hnv hnl hno hgrow hb0 hb
     split at hr
     ·rename_i cx
      have hkind:cap'=cx:=hkind
      subst hkind
      split at hr
      ·rename_i hroom
       split at hr<;>cases hr
       rename_i hfit
       have hmul:off+(len+k)*i.size=off+len*i.size+k*i.size:=by rw[Nat.add_mul];omega
       have hys:ys.length=k*i.size:=by rw[←hnl,hnl']
       have hrun:=run_append_room_row (P:=P) (w:=w) (ty:=ty) ht hi (sLen:=len) hsrc hroom h1 (off:=off) (by rw[hnl'];omega)
       refine ⟨_,_,hrun,?_⟩
       obtain ⟨h5,h6⟩:=S.setRow hrow (cells':=setRange cells (off+len*i.size) ys) (c:=(c.toList.take (off+len*i.size)++(news++c.toList.drop (off+len*i.size+news.length))).toArray)
        (by simpa using setRange_sound (off:=off+len*i.size) h3 hnv hnl (by omega))
        (by
          rw[setRange_length (by omega)]
          intro y hy
          have e:=take_setRange c.toList news (k:=cells.length) (off:=off+len*i.size) (by omega) (by simpa using hlen)
          rw[e] at hy
          exact One.setRange h4 hno y hy)
        (by
          simp only[List.size_toArray,List.length_append,List.length_take,List.length_drop,Array.length_toList]
          omega)
       refine ⟨Z,μ,?_,h5,h6⟩
       simp only[VRel]
       exact ⟨hsg,cap',rfl,hroom,rfl⟩
      ·rename_i hroom
       cases hr
       exact grow nm (by omega)
     ·rename_i e₀
      split at hr<;>cases hr
      rename_i hc
      obtain ⟨rfl,rfl,hend⟩:=hc
      have hall :(cells.drop 0).take (len*i.size)=cells:=by rw[List.drop_zero,List.take_of_length_le (by omega)]
      by_cases hroom:len+k≤cap'
      ·have hys:ys.length=k*i.size:=by rw[←hnl,hnl']
       have hkind:0+cap'*i.size≤(μ s).size:=hkind
       have hmul :(len+k)*i.size≤cap'*i.size:=Nat.mul_le_mul_right _ hroom
       rw[Nat.add_mul] at hmul
       have hrun:=run_append_room_row (P:=P) (w:=w) (ty:=ty) ht hi (sLen:=len) hsrc hroom h1 (off:=0) (by omega)
       refine ⟨_,_,hrun,?_⟩
       simp only[Nat.zero_add]
       refine Did.move r₁ nm (s:=g+1) rfl ?_
       have hput:=S.put (μ':=Mu.new μ g ⟨(μ s).blk,(μ s).size⟩) (g':=g+1) (w':=w.setRow (μ s).blk (c.toList.take (len*i.size)++(news++c.toList.drop (len*i.size+news.length))).toArray) r₁
        (o:=.row (cells++ys) (g+1)) (s':=g+1) (b₀:=(μ s).blk) (Ext.new _) rfl (by rw[Mu.new_blk]) (by rw[setRow_size];exact Nat.le_refl _) (fun b _ hne=>setRow_other _ _ _ _ hne)
        (.inr ⟨s,by rw[hrow];rfl,rfl⟩)
        (by
          simp only[ORel,Mu.new_blk]
          refine ⟨Nat.le_refl _,_,elem,setRow_put h1,?_,?_,?_⟩
          ·simp only[List.size_toArray,List.length_append,List.length_take,List.length_drop,Array.length_toList]
           omega
          ·refine VPre.mono (Ext.new _) _ _ ?_
           have e1 :(c.toList.take (len*i.size)).length=cells.length:=by rw[List.length_take,Array.length_toList];omega
           have hp:VPre Z μ g cells (c.toList.take (len*i.size)):=by
            have:=h3.take (len*i.size)
            rwa [List.take_of_length_le (by omega)] at this
           have:=(hp.append e1 hnv).more (c.toList.drop (len*i.size+news.length))
           simpa[List.append_assoc] using this
          ·intro y hy
           have e1 :(c.toList.take (len*i.size)).length=cells.length:=by rw[List.length_take,Array.length_toList];omega
           have e :(c.toList.take (len*i.size)++(news++c.toList.drop (len*i.size+news.length))).take (cells++ys).length=c.toList.take (len*i.size)++news:=by
            rw[←List.append_assoc,List.take_left']
            simp only[List.length_append,e1,hnl]
           rw[List.toList_toArray,e] at hy
           rcases List.mem_append.1 hy with hy|hy
           ·rw[hend] at hy;exact h4 y hy
           ·exact hno y hy)
       refine ⟨Z,_,?_,hput.1,hput.2⟩
       simp only[VRel]
       refine ⟨Nat.le_refl _,cap',?_,hroom,?_⟩
       ·rw[Mu.new_blk]
       ·rw[Mu.new_blk];exact hkind
      ·obtain ⟨v,w',hv,hd⟩:=grow r₁ (by omega)
       rw[hall] at hd
       exact ⟨v,w',hv,Did.move r₁ nm (s:=g+1) rfl hd⟩
    ·cases hr
   ·cases hr
  ·cases hr
end Go.Cw
end
section
namespace Go.Cw
open Go
variable {P : Program} {Z:Snap} {μ:Mu} {h:Heap} {g n:Nat} {w:World} {tm:Nat→AVal} {ca:Act}
theorem same_cells : ∀{ks:List Kd} {as bs:List AVal} {l m:List Value} (d:Nat),flatEq ks as bs=some true→l.length=as.length→m.length=bs.length→VPre Z μ g as l→VPre Z μ g bs m→
 ((l.zip m).all fun (x,y)=>Instr.sameBits d x y)=true
 | [],as,bs,l,m,d,he,hl,hm,_,_=>by
   obtain ⟨h1,h2⟩:=flatEq_len he
   simp only[List.length_nil] at h1 h2
   have:l=[]:=List.eq_nil_of_length_eq_zero (by omega)
   subst this
   rfl
 | k::ks,as,bs,l,m,d,he,hl,hm,ha,hb=>by
   have h12:=flatEq_len he
   cases as with
   | nil=>simp at h12
   | cons a as=>
     cases bs with
     | nil=>simp at h12
     | cons b bs=>
       cases l with
       | nil=>simp at hl
       | cons x l=>
         cases m with
         | nil=>simp at hm
         | cons y m=>
           obtain ⟨ha1,ha2⟩:=VPre_cons.1 ha
           obtain ⟨hb1,hb2⟩:=VPre_cons.1 hb
           have he':flatEq ([k]++ks) (a::as) (b::bs)=some true:=he
           obtain ⟨r₁,r₂,h1,h2,h3⟩:=flatEq_split he'
           simp only[List.length_singleton,List.take_succ_cons,List.take_zero,List.drop_succ_cons,List.drop_zero] at h1 h2
           have hr:r₁=true∧r₂=true:=by
            have h3':=h3.symm
            simpa using h3'
           obtain ⟨rfl,rfl⟩:=hr
           have ih:=same_cells (l:=l) (m:=m) d h2 (by simpa using hl) (by simpa using hm) ha2 hb2
           simp only[List.zip_cons_cons,List.all_cons,ih,Bool.and_true]
           cases k with
           | i=>
             obtain ⟨k,p,q,rfl,rfl,hpq⟩:=one_i h1
             rw[oInt ha1,oInt hb1]
             have e:p=q:=by simpa using hpq.symm
             subst e
             cases d<;>simp[Instr.sameBits]
           | b=>
             obtain ⟨p,q,rfl,rfl,hpq⟩:=one_b h1
             simp only[VRel] at ha1 hb1
             rw[ha1,hb1]
             have e:p=q:=by simpa using hpq.symm
             subst e
             cases d<;>simp[Instr.sameBits]
           | s=>
             obtain ⟨p,q,rfl,rfl,hpq⟩:=one_s h1
             simp only[VRel] at ha1 hb1
             obtain ⟨u,rfl,hu⟩:=ha1
             obtain ⟨v,rfl,hv⟩:=hb1
             have :(u == v)=true:=by rw[beq_toListBytes,ByteArray.toList_eq,ByteArray.toList_eq,hu,hv];exact hpq.symm
             cases d<;>simp[Instr.sameBits,this]
theorem same_key {kn:Bool×List Kd} {a b:AVal} {u v:Value} (he:keyEq kn a b=some true) (hu:VRel Z μ g a u) (hv:VRel Z μ g b v):Instr.sameBits 10000 v u=true:=by
 obtain ⟨b₀,ks⟩:=kn
 unfold keyEq at he
 have sym:∀{ks:List Kd} {as bs:List AVal},flatEq ks as bs=some true→flatEq ks bs as=some true:=by
  intro ks
  induction ks with
  | nil=>intro as bs h;cases as<;>cases bs<;>simp[flatEq] at h ⊢
  | cons k ks ih=>
    intro as bs h
    unfold flatEq at h
    split at h
    ·rename_i h0;cases h0
    ·split at h
     ·rename_i hk
      obtain ⟨r,hr,e⟩:=Option.map_eq_some_iff.1 h
      simp only[Bool.and_eq_true,beq_iff_eq] at e
      obtain ⟨e1,e2⟩:=e
      subst e2
      rename_i h0
      injection h0 with h0 h0'
      subst h0;subst h0'
      simp[flatEq,hk.symm,ih hr,e1]
     ·cases h
    ·rename_i h0
     injection h0 with h0 h0'
     subst h0;subst h0'
     obtain ⟨r,hr,e⟩:=Option.map_eq_some_iff.1 h
     simp only[Bool.and_eq_true,beq_iff_eq] at e
     obtain ⟨e1,e2⟩:=e
     subst e2
     simp[flatEq,ih hr,e1]
    ·rename_i h0
     injection h0 with h0 h0'
     subst h0;subst h0'
     obtain ⟨r,hr,e⟩:=Option.map_eq_some_iff.1 h
     simp only[Bool.and_eq_true,beq_iff_eq] at e
     obtain ⟨e1,e2⟩:=e
     subst e2
     simp[flatEq,ih hr,e1]
    ·cases h
 cases b₀ with
 | true=>
   simp only[if_true] at he
   split at he
   ·rename_i as bs
    simp only[VRel] at hu hv
    obtain ⟨l,rfl,h1,h2,_⟩:=hu
    obtain ⟨m,rfl,h3,h4,_⟩:=hv
    have:=same_cells 9999 (sym he) (by simpa using h3) (by simpa using h1) h4 h2
    have hlen:=flatEq_len he
    have hs:m.size=l.size:=by omega
    show Instr.sameBits (9999+1) (.agg m) (.agg l)=true
    rw[Instr.sameBits,this,hs]
    simp
   ·cases he
 | false=>
   simp only[Bool.false_eq_true,if_false] at he
   have:=same_cells (l:=[v]) (m:=[u]) 10000 (sym he) rfl rfl (VPre_cons.2 ⟨hv,VPre_nil _⟩) (VPre_cons.2 ⟨hu,VPre_nil _⟩)
   simpa using this
theorem run_setObj {b:Nat} {o o':Obj} (hb:w.heap[b]? = some o') (hn:∀c e f,o'≠.cells c e f) :(setObj b o).run P w=.ok () (World.putO w b o):=by
 simp only[setObj,Sem.run,hb]
 cases o'<;>first|rfl|(exact absurd rfl (hn _ _ _))
theorem Sim.mapRow (S:Sim Z μ h g w) {r s:Nat} {es:List (AVal×AVal)} (hr:h r=.map es s) :
 s≤g∧∃en:Array MapEntry,w.heap[(μ s).blk]? = some (.map en es.length)∧en.size=es.length∧EsRel Z μ g es en.toList∧∀(i:Nat) (e:MapEntry),en[i]? = some e→e.born=i:=by
 have:=S.rows r
 rw[hr] at this
 simp only[ORel] at this
 obtain ⟨hs,en,h1,h2,h3⟩:=this
 refine ⟨hs,en,h1,h2,⟨by simpa using h2,fun i k v hi=>?_⟩,fun i e he=>?_⟩
 ·obtain ⟨e,he,_,hk,hv⟩:=h3 i k v hi
  exact ⟨e,by rw[Array.getElem?_toList];exact he,hk,hv⟩
 ·obtain ⟨hlt,_⟩:=Array.getElem?_eq_some_iff.1 he
  rw[h2] at hlt
  obtain ⟨e',he',hb,_⟩:=h3 i _ _ (List.getElem?_eq_getElem hlt)
  rw[he] at he'
  cases he'
  exact hb
theorem Sim.setMap (S:Sim Z μ h g w) {r s:Nat} {es es':List (AVal×AVal)} (hr:h r=.map es s) {en:Array MapEntry} (hsz:en.size=es'.length)
 (he:∀(i:Nat) (k v:AVal),es'[i]? = some (k,v)→∃e,en[i]? = some e∧e.born=i∧VRel Z μ g k e.key∧VRel Z μ g v e.val) :
 Sim Z μ (upd h r (.map es' s)) g (World.putO w (μ s).blk (.map en es'.length))∧Tr Z μ h g w Z μ (upd h r (.map es' s)) g (World.putO w (μ s).blk (.map en es'.length)):=by
 obtain ⟨hsg,en₀,h1,_⟩:=S.mapRow hr
 refine S.write (by rw[hr];rfl) rfl ?_
 simp only[ORel]
 exact ⟨hsg,en,putO_at h1,hsz,he⟩
theorem mfind_get {kn:Bool×List Kd} {k:AVal} : ∀{es:List (AVal×AVal)} {i:Nat} {v:AVal},mfind kn k es=some (some (i,v))→∃k',es[i]? = some (k',v)∧keyEq kn k k'=some true
 | [],i,v,hf=>by simp[mfind] at hf
 | (k',v')::es,i,v,hf=>by
   simp only[mfind] at hf
   split at hf
   ·cases hf
   ·rename_i hk
    simp only[Option.some.injEq,Prod.mk.injEq] at hf
    obtain ⟨rfl,rfl⟩:=hf
    exact ⟨k',rfl,hk⟩
   ·obtain ⟨r',hr',hf⟩:=Option.map_eq_some_iff.1 hf
    cases r' with
    | none=>simp at hf
    | some y=>
      simp only[Option.map_some,Option.some.injEq,Prod.mk.injEq] at hf
      obtain ⟨rfl,rfl⟩:=hf
      obtain ⟨k'',hk'',hke⟩:=mfind_get (i:=y.1) (v:=y.2) hr'
      exact ⟨k'',by simpa using hk'',hke⟩
theorem EsRel.full {es:List (AVal×AVal)} {en:Array MapEntry} (he:EsRel Z μ g es en.toList) (hb:∀(i:Nat) (e:MapEntry),en[i]? = some e→e.born=i) :
 ∀(i:Nat) (k v:AVal),es[i]? = some (k,v)→∃e,en[i]? = some e∧e.born=i∧VRel Z μ g k e.key∧VRel Z μ g v e.val:=by
 intro i k v hi
 obtain ⟨e,h1,h2,h3⟩:=he.2 i k v hi
 rw[Array.getElem?_toList] at h1
 exact ⟨e,h1,hb i e h1,h2,h3⟩
theorem full_set {es:List (AVal×AVal)} {en:Array MapEntry} {i:Nat} {k v:AVal} {e:MapEntry} {uk uv:Value} (hi:en[i]? = some e) (he:∀(i:Nat) (k v:AVal),es[i]? = some (k,v)→∃e,en[i]? = some e∧e.born=i∧VRel Z μ g k e.key∧VRel Z μ g v e.val)
 (hb:e.born=i) (hk:VRel Z μ g k uk) (hv:VRel Z μ g v uv) :
 ∀(j:Nat) (k' v':AVal),(mset es i k v)[j]? = some (k',v')→∃e',(en.modify i fun e=>{ e with key:=uk,val:=uv })[j]? = some e'∧e'.born=j∧VRel Z μ g k' e'.key∧VRel Z μ g v' e'.val:=by
 intro j k' v' hj
 unfold mset at hj
 rw[List.getElem?_set] at hj
 rw[Array.getElem?_modify]
 by_cases hij:i=j
 ·subst hij
  simp only[if_true] at hj ⊢
  split at hj
  ·simp only[Option.some.injEq,Prod.mk.injEq] at hj
   obtain ⟨rfl,rfl⟩:=hj
   rw[hi]
   exact ⟨_,rfl,hb,hk,hv⟩
  ·cases hj
 ·simp only[hij,if_false] at hj ⊢
  exact he j k' v' hj
theorem full_push {es:List (AVal×AVal)} {en:Array MapEntry} {k v:AVal} {uk uv:Value} (hsz:en.size=es.length) (he:∀(i:Nat) (k v:AVal),es[i]? = some (k,v)→∃e,en[i]? = some e∧e.born=i∧VRel Z μ g k e.key∧VRel Z μ g v e.val)
 (hk:VRel Z μ g k uk) (hv:VRel Z μ g v uv) :
 ∀(j:Nat) (k' v':AVal),(es++[(k,v)])[j]? = some (k',v')→∃e',(en.push { key:=uk,val:=uv,born:=es.length })[j]? = some e'∧e'.born=j∧VRel Z μ g k' e'.key∧VRel Z μ g v' e'.val:=by
 intro j k' v' hj
 rw[List.getElem?_append] at hj
 rw[Array.getElem?_push]
 split at hj
 ·rename_i hlt
  rw[if_neg (by omega)]
  exact he j k' v' hj
 ·rename_i hge
  have hj0:j - es.length=0:=by
   have:=(List.getElem?_eq_some_iff.1 hj).1
   simp at this
   omega
  have hje:j=en.size:=by omega
  rw[hj0] at hj
  simp only[List.getElem?_cons_zero,Option.some.injEq,Prod.mk.injEq] at hj
  obtain ⟨rfl,rfl⟩:=hj
  rw[if_pos hje]
  exact ⟨_,rfl,by simp only[];omega,hk,hv⟩
theorem mapU_sound (S:Sim Z μ h g w) {t kt et:TypeId} {kn:Bool×List Kd} (ht:P.underlying t=some (.map kt et)) (hk:keyN P kt=some kn) {r s:Nat} {es:List (AVal×AVal)} (hrow:h r=.map es s)
 {k v:AVal} {uk uv:Value} (hok:keyOk kn k=true) (hkr:VRel Z μ g k uk) (hvr:VRel Z μ g v uv) {res:Option (Nat×AVal)} (hf:mfind kn k es=some res) :
 ∃w',(Instr.mapUpdate t (.map (some (μ s).blk)) uk uv).run P w=.ok () w'∧
  Sim Z μ (upd h r (.map (match res with|some (i,_)=>mset es i k v|none=>es++[(k,v)]) s)) g w'∧
  Tr Z μ h g w Z μ (upd h r (.map (match res with|some (i,_)=>mset es i k v|none=>es++[(k,v)]) s)) g w':=by
 obtain ⟨hsg,en,hb,hsz,hen,hborn⟩:=S.mapRow hrow
 have hcheck:=check_key' (w:=w) hk hok hkr false
 have hfk:=findKey_sound (P:=P) (w:=w) hk hkr hen hf
 have hfull:=hen.full hborn
 cases res with
 | some x=>
   obtain ⟨i,v₀⟩:=x
   obtain ⟨k',hk',hke⟩:=mfind_get hf
   obtain ⟨e,he,hbe,hke',_⟩:=hfull i k' v₀ hk'
   have hsb:=same_key hke hkr hke'
   obtain ⟨h1,h2⟩:=S.setMap hrow (es':=mset es i k v) (en:=en.modify i fun e=>{ e with key:=uk,val:=uv }) (by simp[mset,hsz]) (full_set he hfull hbe hkr hvr)
   refine ⟨_,?_,h1,h2⟩
   have hlen :(mset es i k v).length=es.length:=by simp[mset]
   have hkt :(Instr.keyThatStays e.key uk).run P w=.ok uk w:=by simp[Instr.keyThatStays,hsb]
   simp only[Instr.mapUpdate,Sem.run_bind,run_underlying ht,Result.andThen_ok,run_getObj hb (by intros;simp),hcheck,hfk,found,Option.bind_some,Array.getElem?_toList,he,Option.map_some,Option.getD_some,Nat.zero_add,hkt]
   rw[run_setObj hb (by intros;simp),hlen]
 | none=>
   obtain ⟨h1,h2⟩:=S.setMap hrow (es':=es++[(k,v)]) (en:=en.push { key:=uk,val:=uv,born:=es.length }) (by simp[hsz]) (full_push hsz hfull hkr hvr)
   refine ⟨_,?_,h1,h2⟩
   simp only[Instr.mapUpdate,Sem.run_bind,run_underlying ht,Result.andThen_ok,run_getObj hb (by intros;simp),hcheck,hfk,found,Option.bind_none]
   rw[run_setObj hb (by intros;simp)]
   simp
end Go.Cw
end
section
namespace Go.Cw
open Go
variable {P : Program} {Z:Snap} {μ:Mu} {h:Heap} {g n:Nat} {w:World} {tm:Nat→AVal} {ca:Act}
theorem mapE_sound (S:Sim Z μ h g w) {t kt et:TypeId} {kn:Bool×List Kd} (ht:P.underlying t=some (.map kt et)) (hk:keyN P kt=some kn) {z:AVal} (hz:zeroA P et=some z) {r s:Nat} {es:List (AVal×AVal)} (hrow:h r=.map es s)
 {k:AVal} {uk:Value} (hok:keyOk kn k=true) (hkr:VRel Z μ g k uk) {res:Option (Nat×AVal)} (hf:mfind kn k es=some res) :
 ∃x w',(Instr.mapEntry t (.map (some (μ s).blk)) uk).run P w=.ok x w'∧
  VRel Z μ g (match res with|some (i,v)=>.tup [v,.int .i64 i] | none=>.tup [z,.int .i64 es.length]) x∧
  Sim Z μ (upd h r (.map (match res with|some (i,v)=>mset es i k v|none=>es++[(k,z)]) s)) g w'∧
  Tr Z μ h g w Z μ (upd h r (.map (match res with|some (i,v)=>mset es i k v|none=>es++[(k,z)]) s)) g w':=by
 obtain ⟨hsg,en,hb,hsz,hen,hborn⟩:=S.mapRow hrow
 have hcheck:=check_key' (w:=w) hk hok hkr false
 have hfk:=findKey_sound (P:=P) (w:=w) hk hkr hen hf
 have hfull:=hen.full hborn
 cases res with
 | some x=>
   obtain ⟨i,v₀⟩:=x
   obtain ⟨k',hk',hke⟩:=mfind_get hf
   obtain ⟨e,he,hbe,hke',hve⟩:=hfull i k' v₀ hk'
   have hsb:=same_key hke hkr hke'
   have hlt:i<en.size:=(Array.getElem?_eq_some_iff.1 he).1
   have hmod :(en.modify i fun e=>{ e with key:=uk })=en.modify i fun e₁=>{ e₁ with key:=uk,val:=e.val }:=by
    apply Array.ext
    ·simp
    ·intro j h1 h2
     rw[Array.getElem_modify,Array.getElem_modify]
     split
     ·rename_i hij
      subst hij
      have:en[i]=e:=by
       rw[Array.getElem?_eq_getElem hlt] at he
       simpa using he
      rw[this]
     ·rfl
   obtain ⟨h1,h2⟩:=S.setMap hrow (es':=mset es i k v₀) (en:=en.modify i fun e₁=>{ e₁ with key:=uk,val:=e.val }) (by simp[mset,hsz]) (full_set he hfull hbe hkr hve)
   refine ⟨.tuple #[e.val,goInt (i:Int)],_,?_,?_,h1,h2⟩
   ·have hlen :(mset es i k v₀).length=es.length:=by simp[mset]
    have hkt :(Instr.keyThatStays e.key uk).run P w=.ok uk w:=by simp[Instr.keyThatStays,hsb]
    simp only[Instr.mapEntry,Sem.run_bind,run_underlying ht,Result.andThen_ok,run_getObj hb (by intros;simp),hcheck,hfk,found,Option.bind_some,Array.getElem?_toList,he,Option.map_some,Option.getD_some,Nat.zero_add,hkt]
    rw[run_setObj hb (by intros;simp),hlen,←hmod,hbe]
    rfl
   ·simp only[VRel]
    exact ⟨_,rfl,rfl,VPre_cons.2 ⟨hve,VPre_cons.2 ⟨by simp[VRel,goInt],VPre_nil _⟩⟩⟩
 | none=>
   obtain ⟨zv,hzv,hzr⟩:=zeroA_rel (Z:=Z) (μ:=μ) (g:=g) hz
   obtain ⟨h1,h2⟩:=S.setMap hrow (es':=es++[(k,z)]) (en:=en.push { key:=uk,val:=zv,born:=es.length }) (by simp[hsz]) (full_push hsz hfull hkr hzr)
   refine ⟨.tuple #[zv,goInt (es.length:Int)],_,?_,?_,h1,h2⟩
   ·simp only[Instr.mapEntry,Sem.run_bind,run_underlying ht,Result.andThen_ok,run_getObj hb (by intros;simp),hcheck,hfk,found,Option.bind_none,run_zero' w hzv]
    rw[run_setObj hb (by intros;simp)]
    simp
   ·simp only[VRel]
    exact ⟨_,rfl,rfl,VPre_cons.2 ⟨hzr,VPre_cons.2 ⟨by simp[VRel,goInt],VPre_nil _⟩⟩⟩
theorem findIdx_born {en:Array MapEntry} (hb:∀(i:Nat) (e:MapEntry),en[i]? = some e→e.born=i) {i:Nat} (hi:i<en.size):en.findIdx? (fun e=>(e.born:Int) ==(i:Int))=some i:=by
 rw[Array.findIdx?_eq_some_iff_getElem]
 refine ⟨hi,?_,fun j hj=>?_⟩
 ·have:=hb i _ (Array.getElem?_eq_getElem hi)
  simp[this]
 ·have:=hb j _ (Array.getElem?_eq_getElem (Nat.lt_trans hj hi))
  simp only[this,beq_iff_eq]
  omega
theorem entS_sound (S:Sim Z μ h g w) {t:TypeId} {r s:Nat} {es:List (AVal×AVal)} (hrow:h r=.map es s) {i:Nat} {k v₀ v:AVal} {uv:Value} {kd:IntKind} (hi:es[i]? = some (k,v₀)) (hvr:VRel Z μ g v uv) :
 ∃w',(Instr.entryStore t (.map (some (μ s).blk)) (.int kd i) uv).run P w=.ok () w'∧Sim Z μ (upd h r (.map (mset es i k v) s)) g w'∧Tr Z μ h g w Z μ (upd h r (.map (mset es i k v) s)) g w':=by
 obtain ⟨hsg,en,hb,hsz,hen,hborn⟩:=S.mapRow hrow
 have hfull:=hen.full hborn
 obtain ⟨e,he,hbe,hke,_⟩:=hfull i k v₀ hi
 have hlt:i<en.size:=(Array.getElem?_eq_some_iff.1 he).1
 have hmod :(en.modify i fun e=>{ e with val:=uv })=en.modify i fun e₁=>{ e₁ with key:=e.key,val:=uv }:=by
  apply Array.ext
  ·simp
  ·intro j h1 h2
   rw[Array.getElem_modify,Array.getElem_modify]
   split
   ·rename_i hij
    subst hij
    have:en[i]=e:=by
     rw[Array.getElem?_eq_getElem hlt] at he
     simpa using he
    rw[this]
   ·rfl
 obtain ⟨h1,h2⟩:=S.setMap hrow (es':=mset es i k v) (en:=en.modify i fun e₁=>{ e₁ with key:=e.key,val:=uv }) (by simp[mset,hsz]) (full_set he hfull hbe hke hvr)
 refine ⟨_,?_,h1,h2⟩
 have hlen :(mset es i k v).length=es.length:=by simp[mset]
 simp only[Instr.entryStore,Sem.run_bind,run_getObj hb (by intros;simp),Result.andThen_ok,asInt,asIntOf,Sem.run_pure,findIdx_born hborn hlt]
 rw[run_setObj hb (by intros;simp),hlen,←hmod]
theorem rep_rel {z:List AVal} {c:Array Value} (hs:c.size=z.length) (hz:z≠[]) (hv:VPre Z μ g z c.toList) (ho:One c.toList) (k:Nat) :
 ((Array.range (k*z.length)).map (c[· % c.size]!)).size =(List.replicate k z).flatten.length∧VPre Z μ g (List.replicate k z).flatten ((Array.range (k*z.length)).map (c[· % c.size]!)).toList∧
   One ((Array.range (k*z.length)).map (c[· % c.size]!)).toList:=by
 have e :(List.replicate k z).flatten=cyc z (k*z.length):=by
  have hpos:0<z.length:=List.length_pos_iff.2 hz
  apply List.ext_getElem?
  intro i
  unfold cyc
  rw[List.getElem?_map]
  have key:∀(k i:Nat),(List.replicate k z).flatten[i]? = if i<k*z.length then z[i % z.length]? else none:=by
   intro k
   induction k with
   | zero=>intro i;simp
   | succ k ih=>
     intro i
     rw[List.replicate_succ,List.flatten_cons,List.getElem?_append]
     split
     ·rename_i hlt
      rw[Nat.mod_eq_of_lt hlt,if_pos]
      rw[Nat.succ_mul];omega
     ·rename_i hge
      rw[ih,Nat.succ_mul]
      have e1 :(i - z.length) % z.length=i % z.length:=by
       rw[←Nat.mod_eq_sub_mod (by omega)]
      rw[e1]
      by_cases hlt:i - z.length<k*z.length
      ·rw[if_pos hlt,if_pos (by omega)]
      ·rw[if_neg hlt,if_neg (by omega)]
  rw[key]
  by_cases hi:i<k*z.length
  ·have hlt:i % z.length<z.length:=Nat.mod_lt _ hpos
   simp[hi,List.getD,List.getElem?_eq_getElem hlt]
  ·simp[hi]
 rw[e]
 exact cyc_rel hs hz hv ho _
def Next.gives : Next→Value→Prop
 | .value v,u=>u=v
 | .skip,u=>u=undef
 | _,_=>False
theorem Did.skip {h':Heap} {w':World} (S':Sim Z μ h' g w') (T':Tr Z μ h g w Z μ h' g w'):Did Z μ h g w .any h' g undef w':=⟨Z,μ,by simp[VRel],S',T'⟩
theorem lenOf_elems {esz:Nat} {y:AVal} {v:Value} (hy:VRel Z μ g y v) {k:Nat} {ys:List AVal} (he:elemsOf h esz y=some (k,ys)):∀w:World,(Builtin.lenOf v).run P w=.ok k w:=by
 unfold elemsOf at he
 split at he
 ·split at he
  ·split at he<;>cases he
   simp only[VRel] at hy
   obtain ⟨_,c,rfl,_⟩:=hy
   intro w;rfl
  ·cases he
 ·split at he<;>cases he
  simp only[VRel] at hy
  obtain ⟨a,c,rfl,_⟩:=hy
  intro w;rfl
 ·cases he
  simp only[VRel] at hy
  subst hy
  intro w;rfl
 ·cases he
  simp only[VRel] at hy
  obtain ⟨a,rfl⟩:=hy
  intro w;rfl
 ·cases he
theorem copy_sound (S:Sim Z μ h g w) {t e u e₂:TypeId} {esz:Nat} (ht:P.underlying t=some (.slice e)) (hu:P.underlying u=some (.slice e₂)) (hsz:szOf P e=some esz) {ty:TypeId} {r off s len k:Nat} {cap:Cap} {y:AVal} {xv yv:Value} {ys:List AVal} {h₁:Heap}
 (hx:VRel Z μ g (.sl r off s len cap) xv) (hy:VRel Z μ g y yv) (hel:elemsOf h esz y=some (k,ys)) (hst:storeP h (.ptr r off s) (ys.take (min k len*esz))=some h₁) :
 ∃v w',(Builtin.copy_ #[t,u] ty #[xv,yv]).run P w=.ok v w'∧Did Z μ h g w (.int .i64 (min k len:Nat)) h₁ g v w':=by
 obtain ⟨news,hsrc,hnv,hnl,hno,hfc⟩:=elems_src (P:=P) S hu hy hel
 have hys:ys.length=k*esz:=by rw[←hnl];exact hsrc.newsLen
 have hl:=lenOf_elems (P:=P) hy hel
 simp only[VRel] at hx
 obtain ⟨hsg,cap',rfl,_⟩:=hx
 have hmk:min k len*esz≤k*esz:=Nat.mul_le_mul_right _ (by omega)
 simp only[storeP] at hst
 split at hst
 ·· rename_i cells s' hr
    split at hst<;>cases hst
    rename_i hcond
    obtain ⟨rfl,hle⟩:=hcond
    obtain ⟨_,c,elem,h1,h2,h3,h4⟩:=S.row hr
    have hlen:cells.length≤c.size:=by simpa using h3.len
    have hyl :(ys.take (min k len*esz)).length=min k len*esz:=by rw[List.length_take];omega
    have hnl2 :(news.take (min k len*esz)).length=min k len*esz:=by rw[List.length_take];omega
    rw[hyl] at hle
    have hrun:=run_storeCells_at (P:=P) (μ s).blk off elem (news.take (min k len*esz)) 0 c w h1 (by omega) (hno.take _)
    obtain ⟨h5,h6⟩:=S.setRow hr (cells':=setRange cells off (ys.take (min k len*esz))) (c:=(c.toList.take (off+0)++news.take (min k len*esz)++c.toList.drop (off+0+(news.take (min k len*esz)).length)).toArray)
     (by
       have:=setRange_sound (off:=off) h3 (hnv.take (min k len*esz)) (by omega) (by omega)
       simpa using this)
     (by
       rw[setRange_length (by omega)]
       simp only[Nat.add_zero,List.append_assoc]
       intro y hy
       have e:=take_setRange c.toList (news.take (min k len*esz)) (k:=cells.length) (off:=off) (by omega) (by simpa using hlen)
       rw[e] at hy
       exact One.setRange h4 (hno.take _) y hy)
     (by
       simp only[List.size_toArray,List.length_append,List.length_take,List.length_drop,Array.length_toList]
       omega)
    refine ⟨_,_,?_,Z,μ,by simp only[VRel];rfl,h5,h6⟩
    have hmin:Nat.min k len=min k len:=rfl
    simp only[Builtin.copy_,List.getElem?_toArray,List.getElem?_cons_zero,List.getElem?_cons_succ,Sem.run_bind,run_underlying ht,Result.andThen_ok,hl,run_sizeOf' w hsz,hmin,hfc _ (Nat.min_le_left _ _)]
    rw[List.toList_toArray,hrun]
    rfl
 ·cases hst
theorem copy_none (S:Sim Z μ h g w) {t e u e₂:TypeId} {esz:Nat} (ht:P.underlying t=some (.slice e)) (hu:P.underlying u=some (.slice e₂)) (hsz:szOf P e=some esz) {ty:TypeId} {k:Nat} {y:AVal} {xv yv:Value} {ys:List AVal} {b:Option Addr}
 (hx:xv=.slice b 0 0) (hy:VRel Z μ g y yv) (hel:elemsOf h esz y=some (k,ys)) :
 ∃v w',(Builtin.copy_ #[t,u] ty #[xv,yv]).run P w=.ok v w'∧Did Z μ h g w (.int .i64 0) h g v w':=by
 obtain ⟨news,hsrc,hnv,hnl,hno,hfc⟩:=elems_src (P:=P) S hu hy hel
 have hys:ys.length=k*esz:=by rw[←hnl];exact hsrc.newsLen
 have hl:=lenOf_elems (P:=P) hy hel
 subst hx
 refine ⟨goInt 0,w,?_,Z,μ,by simp[VRel,goInt],S,Tr.refl⟩
 have hmin:Nat.min k 0=0:=by simp
 have h0:=hfc 0 (Nat.zero_le _)
 simp only[Nat.zero_mul,List.take_zero] at h0
 simp only[Builtin.copy_,List.getElem?_toArray,List.getElem?_cons_zero,List.getElem?_cons_succ,Sem.run_bind,run_underlying ht,Result.andThen_ok,hl,run_sizeOf' w hsz,hmin,h0]
 cases b<;>simp[storeCells]
theorem ixe_sound {o:Oper} {io:IOp} (hc:comp P o.op=some io) (S:Sim Z μ h g w) (T:TRel Z μ g n tm ca.tmps) {nm:Nat} {r:AVal} {h':Heap} {g':Nat} (hr:ixe io nm (ev tm) h g=some (r,h',g')) :
 ∃nx u w',(execOp ca.eval o).run P w=.ok nx w'∧Next.gives nx u∧Did Z μ h g w r h' g' u w':=by
 have liftV:∀{s:Sem Value} {r:AVal} {h':Heap} {g':Nat},(∃v w',s.run P w=.ok v w'∧Did Z μ h g w r h' g' v w')→
  ∃nx u w',((do pure (.value (←s)):Sem Next)).run P w=.ok nx w'∧Next.gives nx u∧Did Z μ h g w r h' g' u w':=by
  rintro s r h' g' ⟨v,w',h1,h2⟩
  exact ⟨.value v,v,w',by simp only[Sem.run_bind,h1,Result.andThen_ok,Sem.run_pure],rfl,h2⟩
 have liftU:∀{s:Sem Unit} {h':Heap},(∃w',s.run P w=.ok () w'∧Sim Z μ h' g w'∧Tr Z μ h g w Z μ h' g w')→
  ∃nx u w',((do s;pure .skip:Sem Next)).run P w=.ok nx w'∧Next.gives nx u∧Did Z μ h g w .any h' g u w':=by
  rintro s h' ⟨w',h1,h2,h3⟩
  exact ⟨.skip,undef,w',by simp only[Sem.run_bind,h1,Result.andThen_ok,Sem.run_pure],rfl,Did.skip h2 h3⟩
 unfold comp at hc
 split at hc
 all_goals rename_i hop
 all_goals simp only[execOp,hop]
 ·obtain ⟨x',hx,rfl⟩:=Option.map_eq_some_iff.1 hc
  simp[ixe] at hr
 ·obtain ⟨x',hx,rfl⟩:=Option.map_eq_some_iff.1 hc
  simp[ixe] at hr
 ·split at hc<;>cases hc
  simp[ixe] at hr
 ·
  rename_i t
  split at hc
  ·rename_i htb
   split at hc<;>cases hc
   rename_i hz
   cases hr
   apply liftV
   obtain ⟨zv,hzv,h1,h2,h3⟩:=zeroCs_rel (Z:=Z) (μ:=μ) (g:=g) hz
   obtain ⟨p,u,hpu⟩ : ∃p u,zv.cells = #[p,u]:=by
    match hcs:zv.cells,h1 with
    | ⟨[p,u]⟩,_=>exact ⟨p,u,rfl⟩
   rw[hpu] at h2
   simp only[VPre_cons,VRel] at h2
   obtain ⟨rfl,rfl,_⟩:=h2
   refine ⟨_,w.alloc (.cells zv.cells t),by simp only[Instr.alloc,Sem.run_bind,run_zero' w hzv,Result.andThen_ok,newVar,newRow,run_newObj,Sem.run_pure];rfl,?_⟩
   obtain ⟨k1,k2⟩:=S.alloc nm 2 (o:=.bst none 0 (g+1)) (ob:=.cells zv.cells t) rfl (by
    simp only[ORel,Mu.new_blk]
    exact ⟨Nat.le_refl _,.pointer none,.slice none 0 0,by rw[alloc_at,hpu,htb],.inl rfl,by simp⟩)
   exact ⟨Z,_,by simp only[VRel];exact ⟨Nat.le_refl _,by rw[Mu.new_blk]⟩,k1,k2⟩
  split at hc
  case isFalse=>cases hc
  rename_i hlim
  obtain ⟨z,hz,rfl⟩:=Option.map_eq_some_iff.1 hc
  cases hr
  apply liftV
  obtain ⟨zv,hzv,h1,h2,h3⟩:=zeroCs_rel (Z:=Z) (μ:=μ) (g:=g) hz
  refine ⟨_,w.alloc (.cells zv.cells t),by simp only[Instr.alloc,Sem.run_bind,run_zero' w hzv,Result.andThen_ok,newVar,newRow,run_newObj,Sem.run_pure];rfl,?_⟩
  exact Did.new S nm hlim h2 (h3.take _) (fun μ' hμ=>by simp only[VRel];exact ⟨Nat.le_refl _,by rw[hμ]⟩)
 ·
  rename_i t x
  split at hc
  case isFalse=>cases hc
  rename_i hlim
  obtain ⟨x',hx,rfl⟩:=Option.map_eq_some_iff.1 hc
  have hv:=opd_rel T hx
  simp only[ixe] at hr
  split at hr<;>cases hr
  rename_i cs hcs
  apply liftV
  obtain ⟨h1,h2,h3⟩:=acells_sound hv hcs
  refine ⟨_,w.alloc (.cells (ca.eval x).cells t),by simp only[Instr.box,Sem.run_bind,Result.andThen_ok,newVar,newRow,run_newObj,Sem.run_pure];rfl,?_⟩
  exact Did.new S nm hlim h2 (h3.take _) (fun μ' hμ=>by simp only[VRel];exact ⟨Nat.le_refl _,by rw[hμ]⟩)
 ·
  unfold cBuild at hc
  split at hc
  ·split at hc
   ·obtain ⟨qs,hq,rfl⟩:=Option.map_eq_some_iff.1 hc
    simp[ixe] at hr
   ·cases hc
  ·split at hc
   ·obtain ⟨qs,hq,rfl⟩:=Option.map_eq_some_iff.1 hc
    simp[ixe] at hr
   ·cases hc
  ·cases hc
 ·
  rename_i t len parts
  apply liftV
  unfold cBsl at hc
  split at hc
  ·rename_i e hu
   split at hc
   ·rename_i k z hk hz
    split at hc
    ·rename_i hcond
     obtain ⟨hk0,hzl,hle,hlim⟩:=hcond
     obtain ⟨qs,hq,rfl⟩:=Option.map_eq_some_iff.1 hc
     simp only[ixe] at hr
     split at hr<;>cases hr
     rename_i cs hcs
     obtain ⟨zv,hzv,h1,h2,h3⟩:=zeroCs_rel (Z:=Z) (μ:=μ) (g:=g) hz
     have hzne:z≠[]:=by intro e;rw[e] at hzl;simp at hzl;omega
     obtain ⟨h4,h5,h6⟩:=cyc_rel h1 hzne h2 h3 (len*k)
     obtain ⟨c',h7,h8,h9,h10⟩:=afill_sound (parts_rel T hq) h4 h5 h6 hcs
     have hpl :(parts.map fun (i,x)=>(i,ca.eval x)).toList=parts.toList.map fun (i,x)=>(i,ca.eval x):=by simp
     refine ⟨.slice (some ⟨w.heap.size,0,none⟩) len len,w.alloc (.cells c' e),?_,?_⟩
     ·have hbig:¬(len*k>2^24):=by omega
      simp only[Instr.buildSlice,Sem.run_bind,run_underlying hu,Result.andThen_ok,run_sizeOf' w hk,if_neg hbig,Sem.run_pure]
      by_cases h0:len*k=0
      ·rw[if_pos h0,hpl]
       simp only[Sem.run_bind,Sem.run_pure,Result.andThen_ok]
       have e0 :((Array.range (len*k)).map fun x=>(#[]:Array Value)[x % (#[]:Array Value).size]!) =(Array.range (len*k)).map (zv.cells[· % zv.cells.size]!):=by
        rw[h0];apply Array.ext<;>simp
       rw[e0,h7]
       simp only[newRow,Sem.run_bind,run_newObj,Result.andThen_ok,Sem.run_pure]
       rfl
      ·rw[if_neg h0]
       simp only[Sem.run_bind,run_zero' w hzv,Sem.run_pure,Result.andThen_ok]
       rw[hpl,h7]
       simp only[newRow,Sem.run_bind,run_newObj,Result.andThen_ok,Sem.run_pure]
       rfl
     ·exact Did.new S nm hlim h9 (h10.take _) (fun μ' hμ=>by
       simp only[VRel]
       exact ⟨Nat.le_refl _,len,by rw[hμ],Nat.le_refl _,rfl⟩)
    ·cases hc
   ·cases hc
  ·cases hc
 ·split at hc<;>cases hc
  simp[ixe] at hr
 ·
  rename_i t a x
  split at hc<;>cases hc
  rename_i k a' x' hk ha hx
  simp only[ixe] at hr
  split at hr
  ·rename_i vs hvs
   split at hr
   ·rename_i hlen
    obtain ⟨h₁,hst,hr⟩:=Option.map_eq_some_iff.1 hr
    cases hr
    obtain ⟨h1,h2,h3⟩:=acells_sound (opd_rel T hx) hvs
    apply liftU
    exact storeP_run S (opd_rel T ha) hst h1 h2 h3 (by rw[hlen];exact hk)
   ·cases hr
  ·cases hr
 ·obtain ⟨x',hx,rfl⟩:=Option.map_eq_some_iff.1 hc
  simp[ixe] at hr
 ·unfold cBin at hc
  split at hc
  ·split at hc
   ·cases hc;simp[ixe] at hr
   ·cases hc;simp[ixe] at hr
   ·split at hc<;>cases hc<;>simp[ixe] at hr
   ·split at hc
    ·split at hc
     ·split at hc<;>cases hc<;>simp[ixe] at hr
     ·cases hc
    ·split at hc
     ·split at hc
      ·split at hc<;>cases hc<;>simp[ixe] at hr
      ·cases hc
     ·cases hc
  ·cases hc
 ·obtain ⟨x',hx,rfl⟩:=Option.map_eq_some_iff.1 hc
  simp[ixe] at hr
 ·
  split at hc
  ·cases hc;simp[ixe] at hr
  ·cases hc;simp[ixe] at hr
  ·split at hc<;>cases hc
   simp[ixe] at hr
  ·rename_i hs hd hx
   split at hc<;>cases hc
   rename_i he
   simp only[ixe] at hr
   split at hr<;>cases hr
   rename_i s hxs
   have hv:=opd_rel T hx
   rw[hxs] at hv
   simp only[VRel] at hv
   obtain ⟨b,hb,rfl⟩:=hv
   apply liftV
   rw[hb]
   refine ⟨_,_,run_bytes_of_string w _ _ _ b hs hd he,?_⟩
   refine Did.pre_heap (w:=w.drew) (w₀:=w) rfl ⟨rfl,rfl⟩ ?_
   have S':Sim Z μ h g w.drew:=S.of_heap rfl
   obtain ⟨k1,k2⟩:=S'.allocImm (bytesRow b (grownCap w b.size 0 _)) _ ((bytesRow b (grownCap w b.size 0 _)).size,(bytesRow b (grownCap w b.size 0 _)).size+1)
   refine ⟨_,μ,?_,k1,k2⟩
   simp only[VRel]
   have hsz:b.size=b.data.toList.length:=by rw[Array.length_toList];rfl
   have hrow:∀cap,(bytesRow b cap).toList =(b.data.toList.map fun x=>Value.int .u8 x.toNat)++List.replicate (cap - b.size) (.int .u8 0):=fun cap=>by
    unfold bytesRow
    rw[Array.toList_append,Array.toList_map,Array.toList_replicate]
   refine ⟨some ⟨w.heap.size,0,none⟩,_,by rw[hsz],by rw[←hsz];exact grownCap_ge w b.size 0 _,.inr ⟨w.heap.size,0,_,rfl,Snap.add_new S' _,?_,?_⟩⟩
   ·rw[VPre_iff]
    intro i a hi
    unfold byCells at hi
    rw[List.getElem?_map] at hi
    obtain ⟨x,hx',rfl⟩:=Option.map_eq_some_iff.1 hi
    refine ⟨.int .u8 x.toNat,?_,by simp[VRel]⟩
    rw[List.drop_zero,hrow,List.getElem?_append_left (by rw[List.length_map];exact (List.getElem?_eq_some_iff.1 hx').1),List.getElem?_map,hx']
    rfl
   ·intro x hx'
    rw[List.drop_zero,hrow] at hx'
    have e1 :(byCells b.data.toList).length =(b.data.toList.map fun x=>Value.int .u8 x.toNat).length:=by simp[byCells]
    rw[e1,List.take_left'] at hx'
    ·obtain ⟨y,_,rfl⟩:=List.mem_map.1 hx'
     rfl
    ·rfl
  ·cases hc
 ·split at hc<;>cases hc
  simp[ixe] at hr
 ·split at hc
  ·split at hc<;>cases hc
   simp[ixe] at hr
  ·cases hc
 ·
  rename_i t mr
  have main:io=.mkmap→(Instr.makeMap t (mr.map ca.eval)).run P w=.ok (.map (some w.heap.size)) (w.alloc (.map #[] 0))→∃nx u w',((do pure (.value (←Instr.makeMap t (mr.map ca.eval))):Sem Next)).run P w=.ok nx w'∧Next.gives nx u∧Did Z μ h g w r h' g' u w':=by
   rintro rfl hrun
   cases hr
   apply liftV
   refine ⟨_,_,hrun,?_⟩
   obtain ⟨h1,h2⟩:=S.alloc nm 0 (o:=.map [] (g+1)) (ob:=.map #[] 0) rfl (by
    simp only[ORel,Mu.new_blk]
    exact ⟨Nat.le_refl _,#[],alloc_at _,rfl,fun i k v hi=>by simp at hi⟩)
   exact ⟨Z,_,by simp only[VRel];exact ⟨Nat.le_refl _,by rw[Mu.new_blk]⟩,h1,h2⟩
  split at hc
  ·cases hc
   exact main rfl rfl
  ·split at hc<;>cases hc
   rename_i hu
   exact main rfl (by simp only[Instr.makeMap,Option.map_some,Act.eval,Sem.run_bind,run_underlying hu,asInt,asIntOf,Sem.run_pure,Result.andThen_ok,run_newObj];rfl)
  ·cases hc
 ·
  rename_i t l c
  apply liftV
  unfold cMksl at hc
  split at hc
  ·rename_i e hu
   split at hc
   ·rename_i i z l' c' hi hz hl hcp
    split at hc<;>cases hc
    rename_i hsz
    obtain ⟨hsz,hzne,hlim⟩:=hsz
    have hlv:=opd_rel T hl
    have hcv:=opd_rel T hcp
    simp only[ixe] at hr
    split at hr
    ·rename_i k₁ lv k₂ cv hl' hc'
     split at hr<;>cases hr
     rename_i hcond
     obtain ⟨h0,h1,h2,h3⟩:=hcond
     rw[hl'] at hlv;rw[hc'] at hcv
     have hlv:=oInt hlv
     have hcv:=oInt hcv
     obtain ⟨zv,hzv,hz1,hz2,hz3⟩:=zeroCs_rel (Z:=Z) (μ:=μ) (g:=g) hz
     obtain ⟨r1,r2,r3⟩:=rep_rel hz1 hzne hz2 hz3 cv.toNat
     have wl:IntKind.i64.wrap lv=lv:=by simp[IntKind.wrap,IntKind.bits,IntKind.signed];omega
     have wc:IntKind.i64.wrap cv=cv:=by simp[IntKind.wrap,IntKind.bits,IntKind.signed];omega
     refine ⟨.slice (some ⟨w.heap.size,0,none⟩) lv.toNat cv.toNat,w.alloc (.cells ((Array.range (cv.toNat*z.length)).map (zv.cells[· % zv.cells.size]!)) e),?_,?_⟩
     ·have hsz':szOf P e=some z.length:=by unfold szOf;rw[hi];simp[hsz]
      have big:¬((i.bytes:Int)*cv>2^48):=by omega
      rw[hlv,hcv]
      simp only[Instr.makeSlice,Sem.run_bind,run_underlying hu,Result.andThen_ok,asInt,asIntOf,Sem.run_pure,run_typeInfo' w hi,wl,wc]
      have t1 :(decide (cv<0) || decide ((i.bytes:Int)*cv>2^48) || decide (lv<0) || decide (lv>cv))=false:=by
       simp only[Bool.or_eq_false_iff,decide_eq_false_iff_not]
       omega
      rw[if_neg (by rw[t1];simp)]
      simp only[Sem.run_bind,Sem.run_pure,Result.andThen_ok,run_askRoom,run_sizeOf' w hsz']
      by_cases hn0:cv.toNat*z.length=0
      ·rw[if_pos hn0]
       simp only[Sem.run_pure,Result.andThen_ok,newRow,Sem.run_bind,run_newObj]
       have e0 :((Array.range (cv.toNat*z.length)).map fun x=>(#[]:Array Value)[x % (#[]:Array Value).size]!) =(Array.range (cv.toNat*z.length)).map (zv.cells[· % zv.cells.size]!):=by
        rw[hn0];apply Array.ext<;>simp
       rw[e0]
       rfl
      ·rw[if_neg hn0]
       simp only[Sem.run_bind,run_zero' w hzv,Sem.run_pure,Result.andThen_ok,newRow,run_newObj]
       rfl
     ·exact Did.new S nm hlim r2 (r3.take _) (fun μ' hμ=>by
       simp only[VRel]
       exact ⟨Nat.le_refl _,cv.toNat,by rw[hμ],by omega,rfl⟩)
    ·cases hr
   ·cases hc
  ·cases hc
 ·unfold cSlice at hc
  split at hc
  ·obtain ⟨s,hs,hc⟩:=Option.bind_eq_some_iff.1 hc
   split at hc<;>cases hc
   simp[ixe] at hr
  ·obtain ⟨s,hs,hc⟩:=Option.bind_eq_some_iff.1 hc
   split at hc<;>cases hc
   simp[ixe] at hr
  ·cases hc;simp[ixe] at hr
  ·cases hc
 ·split at hc
  ·split at hc
   ·split at hc
    ·cases hc
     simp[ixe] at hr
    ·split at hc<;>cases hc
     simp[ixe] at hr
    ·cases hc
   ·cases hc
  ·cases hc
 ·split at hc
  ·split at hc
   ·split at hc<;>cases hc
    simp[ixe] at hr
   ·cases hc
  ·cases hc
 ·unfold cIxAddr at hc
  split at hc
  ·obtain ⟨s,hs,rfl⟩:=Option.map_eq_some_iff.1 hc
   simp[ixe] at hr
  ·obtain ⟨s,hs,rfl⟩:=Option.map_eq_some_iff.1 hc
   simp[ixe] at hr
  ·cases hc
 ·unfold cIx at hc
  split at hc
  ·split at hc<;>cases hc
   simp[ixe] at hr
  ·cases hc;simp[ixe] at hr
  ·cases hc
 ·split at hc
  ·split at hc<;>cases hc
   simp[ixe] at hr
  ·cases hc
 ·
  split at hc
  ·rename_i kt et m' k' v' hu hm hk hv
   obtain ⟨kn,hkn,rfl⟩:=Option.map_eq_some_iff.1 hc
   simp only[ixe] at hr
   split at hr
   ·rename_i r₁ s hms
    split at hr
    ·rename_i es s' hrow
     split at hr
     ·rename_i hcond
      obtain ⟨rfl,hok⟩:=hcond
      have hmr:=opd_rel T hm
      rw[hms] at hmr
      simp only[VRel] at hmr
      rw[hmr.2]
      split at hr<;>cases hr
      ·rename_i i v₀ hf
       apply liftU
       exact mapU_sound S hu hkn hrow hok (opd_rel T hk) (opd_rel T hv) hf
      ·rename_i hf
       apply liftU
       exact mapU_sound S hu hkn hrow hok (opd_rel T hk) (opd_rel T hv) hf
     ·cases hr
    ·cases hr
   ·cases hr
  ·cases hc
 ·split at hc
  ·rename_i kt et m' k' v' hu hm hk hv
   obtain ⟨kn,hkn,rfl⟩:=Option.map_eq_some_iff.1 hc
   simp only[ixe] at hr
   split at hr
   ·rename_i r₁ s hms
    split at hr
    ·rename_i es s' hrow
     split at hr
     ·rename_i hcond
      obtain ⟨rfl,hok⟩:=hcond
      have hmr:=opd_rel T hm
      rw[hms] at hmr
      simp only[VRel] at hmr
      rw[hmr.2]
      split at hr<;>cases hr
      ·rename_i i v₀ hf
       apply liftU
       exact mapU_sound S hu hkn hrow hok (opd_rel T hk) (opd_rel T hv) hf
      ·rename_i hf
       apply liftU
       exact mapU_sound S hu hkn hrow hok (opd_rel T hk) (opd_rel T hv) hf
     ·cases hr
    ·cases hr
   ·cases hr
  ·cases hc
 ·
  split at hc
  ·rename_i kt et m' k' hu hm hk
   split at hc<;>cases hc
   rename_i kn z hkn hz
   simp only[ixe] at hr
   split at hr
   ·rename_i r₁ s hms
    split at hr
    ·rename_i es s' hrow
     split at hr
     ·rename_i hcond
      obtain ⟨rfl,hok⟩:=hcond
      have hmr:=opd_rel T hm
      rw[hms] at hmr
      simp only[VRel] at hmr
      rw[hmr.2]
      split at hr<;>cases hr
      ·rename_i i v₀ hf
       apply liftV
       obtain ⟨x,w',h1,h2,h3,h4⟩:=mapE_sound (P:=P) S hu hkn hz hrow hok (opd_rel T hk) hf
       exact ⟨x,w',h1,Z,μ,h2,h3,h4⟩
      ·rename_i hf
       apply liftV
       obtain ⟨x,w',h1,h2,h3,h4⟩:=mapE_sound (P:=P) S hu hkn hz hrow hok (opd_rel T hk) hf
       exact ⟨x,w',h1,Z,μ,h2,h3,h4⟩
     ·cases hr
    ·cases hr
   ·cases hr
  ·cases hc
 ·
  split at hc<;>cases hc
  rename_i m' s' v' hm hs hv
  simp only[ixe] at hr
  split at hr
  ·rename_i r₁ s kd i hms hst
   split at hr
   ·rename_i es s₂ hrow
    split at hr
    ·rename_i hss
     subst hss
     split at hr
     ·rename_i k v₀ hk
      split at hr<;>cases hr
      rename_i hi0
      have hmr:=opd_rel T hm
      rw[hms] at hmr
      simp only[VRel] at hmr
      have hsr:=opd_rel T hs
      rw[hst] at hsr
      have hsr:=oInt hsr
      rw[hmr.2,hsr]
      apply liftU
      have:=entS_sound (P:=P) (t:=0) (kd:=kd) S hrow hk (opd_rel T hv)
      have e :((i.toNat:Nat):Int)=i:=by omega
      rw[e] at this
      exact this
     ·cases hr
    ·cases hr
   ·cases hr
  ·cases hr
 ·
  rename_i t x
  split at hc<;>cases hc
  rename_i kt et x' hu hx
  have hv:=opd_rel T hx
  apply liftV
  simp only[ixe] at hr
  split at hr
  ·rename_i hxv
   cases hr
   rw[hxv] at hv
   simp only[VRel] at hv
   obtain ⟨h1,h2⟩:=S.alloc nm 0 (o:=.iter none 0 [] none (g+1)) (ob:=.mapIter none 0 #[] 0) rfl (by
    simp only[ORel,Mu.new_blk]
    exact ⟨Nat.le_refl _,alloc_at _⟩)
   refine ⟨_,_,by rw[hv];simp only[Instr.range,Sem.run_bind,run_underlying hu,Result.andThen_ok,Sem.run_pure,run_newObj];rfl,Z,_,?_,h1,h2⟩
   simp only[VRel]
   exact ⟨Nat.le_refl _,by rw[Mu.new_blk]⟩
  ·rename_i r₁ s₁ hxv
   split at hr
   ·rename_i es s' hrow
    split at hr<;>cases hr
    rename_i hss
    subst hss
    rw[hxv] at hv
    simp only[VRel] at hv
    have hro:=S.rows r₁
    rw[hrow] at hro
    simp only[ORel] at hro
    obtain ⟨hsg,en,h3,h4,h5⟩:=hro
    have hlo:Mu.new μ g ⟨w.heap.size,0⟩ s₁=μ s₁:=upd_ne _ _ (by omega)
    obtain ⟨h1,h2⟩:=S.alloc nm 0 (o:=.iter (some (r₁,s₁)) es.length (List.range es.length) none (g+1)) (ob:=.mapIter (some (μ s₁).blk) es.length #[] es.length) rfl (by
     simp only[ORel,Mu.new_blk]
     refine ⟨Nat.le_refl _,by omega,#[],by rw[hlo];exact alloc_at _,rfl,List.nodup_range,fun i hi=>by simpa using hi,fun i hi=>by simp[hi]⟩)
    refine ⟨_,_,by rw[hv.2];simp only[Instr.range,Sem.run_bind,run_underlying hu,Result.andThen_ok,run_getObj h3 (by intros;simp),Sem.run_pure,run_newObj];rfl,Z,_,?_,h1,h2⟩
    simp only[VRel]
    exact ⟨Nat.le_refl _,by rw[Mu.new_blk]⟩
   ·cases hr
  ·cases hr
 ·obtain ⟨s,hs,rfl⟩:=Option.map_eq_some_iff.1 hc
  simp[ixe] at hr
 ·obtain ⟨s,hs,rfl⟩:=Option.map_eq_some_iff.1 hc
  simp[ixe] at hr
 ·split at hc
  ·cases hc
  ·cases hc;simp[ixe] at hr
  ·cases hc
 ·obtain ⟨x',hx,rfl⟩:=Option.map_eq_some_iff.1 hc
  simp[ixe] at hr
 ·
  rename_i c
  unfold cCall at hc
  split at hc
  ·rename_i b hcal
   have ea:c.args.map ca.eval =(c.args.toList.map ca.eval).toArray:=by
    apply Array.toList_inj.1;simp
   have et:c.argTypes=c.argTypes.toList.toArray:=by simp
   simp only[resolve,hcal,Sem.run_bind,Sem.run_pure,Result.andThen_ok,invoke]
   rw[ea,et]
   generalize c.argTypes.toList=ts at hc ⊢
   generalize c.args.toList=args at hc ⊢
   unfold cBuiltin at hc
   split at hc
   ·split at hc
    ·split at hc
     ·cases hc;simp[ixe] at hr
     ·cases hc;simp[ixe] at hr
     ·cases hc;simp[ixe] at hr
     ·split at hc<;>cases hc
      simp[ixe] at hr
     ·cases hc;simp[ixe] at hr
     ·cases hc
    ·cases hc
   ·obtain ⟨xs,hx,rfl⟩:=Option.map_eq_some_iff.1 hc
    simp[ixe] at hr
   ·obtain ⟨xs,hx,rfl⟩:=Option.map_eq_some_iff.1 hc
    simp[ixe] at hr
   ·
    split at hc
    ·rename_i t u x y
     split at hc
     ·rename_i e e₂ x' y' ht hu hx hy
      split at hc
      ·rename_i i hi
       split at hc
       ·rename_i z hz
        split at hc<;>cases hc
        rename_i hcond
        obtain ⟨hs0,hb0,hzs,hlim⟩:=hcond
        simp only[ixe] at hr
        split at hr
        ·rename_i k ys hel
         simp only[builtin,List.map_cons,List.map_nil]
         apply liftV
         exact app_sound (P:=P) S hlim ht hu hi hz hzs hb0 nm (opd_rel T hx) (opd_rel T hy) hel hr
        ·cases hr
       ·cases hc
      ·cases hc
     ·cases hc
    ·cases hc
   ·
    split at hc
    ·rename_i t u x y
     split at hc
     ·rename_i e e₂ x' y' ht hu hx hy
      obtain ⟨esz,hsz,rfl⟩:=Option.map_eq_some_iff.1 hc
      simp only[builtin,List.map_cons,List.map_nil]
      apply liftV
      simp only[ixe] at hr
      have hxr:=opd_rel T hx
      have hyr:=opd_rel T hy
      split at hr
      ·rename_i r₁ off s len cap k ys hx' hel
       obtain ⟨h₁,hst,hr⟩:=Option.map_eq_some_iff.1 hr
       cases hr
       rw[hx'] at hxr
       exact copy_sound (P:=P) S ht hu hsz hxr hyr hel hst
      ·rename_i p hx' hel
       cases hr
       rw[hx'] at hxr
       simp only[VRel] at hxr
       exact copy_none (P:=P) S ht hu hsz (b:=none) hxr hyr hel
      ·rename_i p hx' hel
       cases hr
       rw[hx'] at hxr
       simp only[VRel] at hxr
       obtain ⟨a,hxr⟩:=hxr
       exact copy_none (P:=P) S ht hu hsz hxr hyr hel
      ·cases hr
     ·cases hc
    ·cases hc
   ·cases hc;simp[ixe] at hr
   ·cases hc
  ·split at hc<;>cases hc
   simp[ixe] at hr
  ·split at hc<;>cases hc
   simp[ixe] at hr
 ·obtain ⟨x',hx,rfl⟩:=Option.map_eq_some_iff.1 hc
  simp[ixe] at hr
 ·split at hc
  ·split at hc<;>cases hc
   simp[ixe] at hr
  ·cases hc
 ·cases hc
end Go.Cw
end
section
namespace Go.Cw
open Go
abbrev TM :=Nat→AVal
abbrev DF :=List (AVal×List AVal)
abbrev undefA : AVal:=.tup []
def Fits (n:Int):Prop:=-9223372036854775808≤n∧n≤9223372036854775807
def osat {α:Type} (o:Option α) (K:α→Prop):Prop:=
 match o with
 | some r=>K r
 | none=>False
@[simp] theorem osat_some {α:Type} (r:α) (K:α→Prop):osat (some r) K=K r:=(rfl)
@[simp] theorem osat_none {α:Type} (K:α→Prop):osat none K=False:=(rfl)
theorem osat_iff {α:Type} {o:Option α} {K:α→Prop} : osat o K↔∃r,o=some r∧K r:=by
 cases o<;>simp[osat]
def ckI (k:IntKind) (n:Int) (K:AVal→Prop):Prop:=
 match k with
 | .i64=>Fits n∧K (.int .i64 n)
 | k=>K (.int k (k.wrap n))
@[simp] theorem ckI_i64 (n:Int) (K:AVal→Prop):ckI .i64 n K =(Fits n∧K (.int .i64 n)):=(rfl)
@[simp] theorem ckI_u64 (n:Int) (K:AVal→Prop):ckI .u64 n K=K (.int .u64 (IntKind.u64.wrap n)):=(rfl)
@[simp] theorem ckI_u8 (n:Int) (K:AVal→Prop):ckI .u8 n K=K (.int .u8 (IntKind.u8.wrap n)):=(rfl)
@[simp] theorem ckI_u32 (n:Int) (K:AVal→Prop):ckI .u32 n K=K (.int .u32 (IntKind.u32.wrap n)):=(rfl)
def satAr (op:BinOp) (k:IntKind) (a b:Int) (K:AVal→Prop):Prop:=
 match op with
 | .add=>ckI k (a+b) K
 | .sub=>ckI k (a - b) K
 | .mul=>ckI k (a*b) K
 | .quo=>b≠0∧ckI k (a.tdiv b) K
 | .rem=>b≠0∧K (.int k (a.tmod b))
 | .and=>K (.int k (bitI .and k a b))
 | .or=>K (.int k (bitI .or k a b))
 | .xor=>K (.int k (bitI .xor k a b))
 | .andNot=>K (.int k (bitI .andNot k a b))
 | .eql=>K (.bool (decide (a=b)))
 | .neq=>K (.bool (!decide (a=b)))
 | .lss=>K (.bool (decide (a<b)))
 | .leq=>K (.bool (decide (a≤b)))
 | .gtr=>K (.bool (decide (b<a)))
 | .geq=>K (.bool (decide (b≤a)))
 | _=>False
section
variable (k : IntKind) (a b:Int) (K:AVal→Prop)
@[simp] theorem satAr_add : satAr .add k a b K=ckI k (a+b) K:=(rfl)
@[simp] theorem satAr_sub : satAr .sub k a b K=ckI k (a - b) K:=(rfl)
@[simp] theorem satAr_mul : satAr .mul k a b K=ckI k (a*b) K:=(rfl)
@[simp] theorem satAr_quo : satAr .quo k a b K =(b≠0∧ckI k (a.tdiv b) K):=(rfl)
@[simp] theorem satAr_rem : satAr .rem k a b K =(b≠0∧K (.int k (a.tmod b))):=(rfl)
@[simp] theorem satAr_and : satAr .and k a b K=K (.int k (bitI .and k a b)):=(rfl)
@[simp] theorem satAr_or : satAr .or k a b K=K (.int k (bitI .or k a b)):=(rfl)
@[simp] theorem satAr_xor : satAr .xor k a b K=K (.int k (bitI .xor k a b)):=(rfl)
@[simp] theorem satAr_andNot : satAr .andNot k a b K=K (.int k (bitI .andNot k a b)):=(rfl)
@[simp] theorem satAr_eql : satAr .eql k a b K=K (.bool (decide (a=b))):=(rfl)
@[simp] theorem satAr_neq : satAr .neq k a b K=K (.bool (!decide (a=b))):=(rfl)
@[simp] theorem satAr_lss : satAr .lss k a b K=K (.bool (decide (a<b))):=(rfl)
@[simp] theorem satAr_leq : satAr .leq k a b K=K (.bool (decide (a≤b))):=(rfl)
@[simp] theorem satAr_gtr : satAr .gtr k a b K=K (.bool (decide (b<a))):=(rfl)
@[simp] theorem satAr_geq : satAr .geq k a b K=K (.bool (decide (b≤a))):=(rfl)
end
@[simp] theorem bits_i64 : IntKind.bits .i64=64:=(rfl)
@[simp] theorem bits_u64 : IntKind.bits .u64=64:=(rfl)
@[simp] theorem bits_u8 : IntKind.bits .u8=8:=(rfl)
@[simp] theorem bits_u32 : IntKind.bits .u32=32:=(rfl)
def satBin (op:BinOp) (x y:AVal) (K:AVal→Prop):Prop:=
 match x,y with
 | .int k a,.int k' b=>
   match op with
   | .shl=>(0≤b∧b<64∧(k.bits=64∨b≤k.bits))∧ckI k (a*2^b.toNat) K
   | .shr=>(0≤b∧b<64∧(k.bits=64∨b≤k.bits))∧K (.int k (a / 2^b.toNat))
   | op=>k=k'∧satAr op k a b K
 | .str a,.str b=>match op with
   | .add=>a.length+b.length≤9223372036854775807∧K (.str (a++b))
   | .eql=>K (.bool (decide (a=b)))
   | .neq=>K (.bool (!decide (a=b)))
   | _=>False
 | _,_=>False
section
variable (k k':IntKind) (a b:Int) (s t:List UInt8) (K:AVal→Prop)
@[simp] theorem satBin_shl : satBin .shl (.int k a) (.int k' b) K =((0≤b∧b<64∧(k.bits=64∨b≤k.bits))∧ckI k (a*2^b.toNat) K):=(rfl)
@[simp] theorem satBin_shr : satBin .shr (.int k a) (.int k' b) K =((0≤b∧b<64∧(k.bits=64∨b≤k.bits))∧K (.int k (a / 2^b.toNat))):=(rfl)
theorem satBin_ar (op:BinOp) (h:isSh op=false):satBin op (.int k a) (.int k' b) K =(k=k'∧satAr op k a b K):=by
 cases op<;>first|rfl|cases h
@[simp] theorem satBin_add : satBin .add (.int k a) (.int k' b) K =(k=k'∧satAr .add k a b K):=(rfl)
@[simp] theorem satBin_sub : satBin .sub (.int k a) (.int k' b) K =(k=k'∧satAr .sub k a b K):=(rfl)
@[simp] theorem satBin_mul : satBin .mul (.int k a) (.int k' b) K =(k=k'∧satAr .mul k a b K):=(rfl)
@[simp] theorem satBin_quo : satBin .quo (.int k a) (.int k' b) K =(k=k'∧satAr .quo k a b K):=(rfl)
@[simp] theorem satBin_rem : satBin .rem (.int k a) (.int k' b) K =(k=k'∧satAr .rem k a b K):=(rfl)
@[simp] theorem satBin_and : satBin .and (.int k a) (.int k' b) K =(k=k'∧satAr .and k a b K):=(rfl)
@[simp] theorem satBin_or : satBin .or (.int k a) (.int k' b) K =(k=k'∧satAr .or k a b K):=(rfl)
@[simp] theorem satBin_xor : satBin .xor (.int k a) (.int k' b) K =(k=k'∧satAr .xor k a b K):=(rfl)
@[simp] theorem satBin_andNot : satBin .andNot (.int k a) (.int k' b) K =(k=k'∧satAr .andNot k a b K):=(rfl)
@[simp] theorem satBin_eql : satBin .eql (.int k a) (.int k' b) K =(k=k'∧satAr .eql k a b K):=(rfl)
@[simp] theorem satBin_neq : satBin .neq (.int k a) (.int k' b) K =(k=k'∧satAr .neq k a b K):=(rfl)
@[simp] theorem satBin_lss : satBin .lss (.int k a) (.int k' b) K =(k=k'∧satAr .lss k a b K):=(rfl)
@[simp] theorem satBin_leq : satBin .leq (.int k a) (.int k' b) K =(k=k'∧satAr .leq k a b K):=(rfl)
@[simp] theorem satBin_gtr : satBin .gtr (.int k a) (.int k' b) K =(k=k'∧satAr .gtr k a b K):=(rfl)
@[simp] theorem satBin_geq : satBin .geq (.int k a) (.int k' b) K =(k=k'∧satAr .geq k a b K):=(rfl)
@[simp] theorem satBin_sadd : satBin .add (.str s) (.str t) K =(s.length+t.length≤9223372036854775807∧K (.str (s++t))):=(rfl)
@[simp] theorem satBin_seql : satBin .eql (.str s) (.str t) K=K (.bool (decide (s=t))):=(rfl)
@[simp] theorem satBin_sneq : satBin .neq (.str s) (.str t) K=K (.bool (!decide (s=t))):=(rfl)
end
def satL (agg:Bool) (n:Nat) (cells:List AVal) (K:AVal→Prop):Prop:=
 if agg then n≤cells.length∧K (.agg (cells.take n)) else osat cells.head? K
@[simp] theorem satL_true (n:Nat) (cells:List AVal) (K:AVal→Prop):satL true n cells K =(n≤cells.length∧K (.agg (cells.take n))):=(rfl)
@[simp] theorem satL_false (n:Nat) (cells:List AVal) (K:AVal→Prop):satL false n cells K=osat cells.head? K:=(rfl)
def satRow (o:AObj) (agg:Bool) (n off s:Nat) (K:AVal→Prop):Prop:=
 match o with
 | .row cells s'=>s=s'∧satL agg n (cells.drop off) K
 | _=>False
@[simp] theorem satRow_row (cells:List AVal) (s':Nat) (agg:Bool) (n off s:Nat) (K:AVal→Prop):satRow (.row cells s') agg n off s K =(s=s'∧satL agg n (cells.drop off) K):=(rfl)
def satLoad (h:Heap) (agg:Bool) (n:Nat) (a:AVal) (K:AVal→Prop):Prop:=
 match a with
 | .ptr r off s=>satRow (h r) agg n off s K
 | .pv cells=>satL agg n cells K
 | _=>False
@[simp] theorem satLoad_ptr (h:Heap) (agg:Bool) (n r off s:Nat) (K:AVal→Prop):satLoad h agg n (.ptr r off s) K=satRow (h r) agg n off s K:=(rfl)
@[simp] theorem satLoad_pv (h:Heap) (agg:Bool) (n:Nat) (cells:List AVal) (K:AVal→Prop):satLoad h agg n (.pv cells) K=satL agg n cells K:=(rfl)
def satFld (agg:Bool) (off n:Nat) (x:AVal) (K:AVal→Prop):Prop:=
 match x with
 | .agg cs=>satL agg n (cs.drop off) K
 | _=>False
@[simp] theorem satFld_agg (agg:Bool) (off n:Nat) (cs:List AVal) (K:AVal→Prop):satFld agg off n (.agg cs) K=satL agg n (cs.drop off) K:=(rfl)
def satConv (k:IntKind) (x:AVal) (K:AVal→Prop):Prop:=
 match x with
 | .int _ n=>ckI k n K
 | _=>False
@[simp] theorem satConv_int (k k':IntKind) (n:Int) (K:AVal→Prop):satConv k (.int k' n) K=ckI k n K:=(rfl)
def satIxA (len esz:Nat) (x i:AVal) (K:AVal→Prop):Prop:=
 match x,i with
 | .ptr r off s,.int _ n=>(0≤n∧n<len)∧K (.ptr r (off+n.toNat*esz) s)
 | .pv cells,.int _ n=>(0≤n∧n<len)∧K (.pv (cells.drop (n.toNat*esz)))
 | _,_=>False
@[simp] theorem satIxA_ptr (len esz r off s:Nat) (k:IntKind) (n:Int) (K:AVal→Prop):satIxA len esz (.ptr r off s) (.int k n) K =((0≤n∧n<len)∧K (.ptr r (off+n.toNat*esz) s)):=(rfl)
@[simp] theorem satIxA_pv (len esz:Nat) (cells:List AVal) (k:IntKind) (n:Int) (K:AVal→Prop):satIxA len esz (.pv cells) (.int k n) K =((0≤n∧n<len)∧K (.pv (cells.drop (n.toNat*esz)))):=(rfl)
def satIxS (esz:Nat) (x i:AVal) (K:AVal→Prop):Prop:=
 match x,i with
 | .sl r off s len _,.int _ n=>(0≤n∧n<len)∧K (.ptr r (off+n.toNat*esz) s)
 | .vl len cells,.int _ n=>(0≤n∧n<len)∧K (.pv (cells.drop (n.toNat*esz)))
 | _,_=>False
@[simp] theorem satIxS_sl (esz r off s len:Nat) (c:Cap) (k:IntKind) (n:Int) (K:AVal→Prop):satIxS esz (.sl r off s len c) (.int k n) K =((0≤n∧n<len)∧K (.ptr r (off+n.toNat*esz) s)):=(rfl)
@[simp] theorem satIxS_vl (esz len:Nat) (cells:List AVal) (k:IntKind) (n:Int) (K:AVal→Prop):satIxS esz (.vl len cells) (.int k n) K =((0≤n∧n<len)∧K (.pv (cells.drop (n.toNat*esz)))):=(rfl)
def satIxV (len esz:Nat) (agg:Bool) (x i:AVal) (K:AVal→Prop):Prop:=
 match x,i with
 | .agg cs,.int _ n=>(0≤n∧n<len)∧satL agg esz (cs.drop (n.toNat*esz)) K
 | _,_=>False
@[simp] theorem satIxV_agg (len esz:Nat) (agg:Bool) (cs:List AVal) (k:IntKind) (n:Int) (K:AVal→Prop):satIxV len esz agg (.agg cs) (.int k n) K =((0≤n∧n<len)∧satL agg esz (cs.drop (n.toNat*esz)) K):=(rfl)
def satIxT (x i:AVal) (K:AVal→Prop):Prop:=
 match x,i with
 | .str s,.int _ n=>(0≤n∧n<s.length)∧K (.int .u8 (s.getD n.toNat 0).toNat)
 | _,_=>False
@[simp] theorem satIxT_str (s:List UInt8) (k:IntKind) (n:Int) (K:AVal→Prop):satIxT (.str s) (.int k n) K =((0≤n∧n<s.length)∧K (.int .u8 (s.getD n.toNat 0).toNat)):=(rfl)
def okI : Option AVal→Prop
 | none=>True
 | some (.int _ _)=>True
 | some _=>False
def gI (d:Nat):Option AVal→Int
 | some (.int _ n)=>n
 | _=>d
@[simp] theorem okI_none : okI none=True:=(rfl)
@[simp] theorem okI_int (k:IntKind) (n:Int):okI (some (.int k n))=True:=(rfl)
@[simp] theorem gI_none (d:Nat):gI d none=d:=(rfl)
@[simp] theorem gI_int (d:Nat) (k:IntKind) (n:Int):gI d (some (.int k n))=n:=(rfl)
def satSlA (len esz:Nat) (x:AVal) (lo hi mx:Option AVal) (K:AVal→Prop):Prop:=
 (okI lo∧okI hi∧okI mx∧0≤gI 0 lo∧gI 0 lo≤gI len hi∧gI len hi≤gI len mx∧gI len mx≤len)∧
   match x with
   | .ptr r off s=>K (.sl r (if gI len mx=gI 0 lo then off else off+(gI 0 lo).toNat*esz) s (gI len hi - gI 0 lo).toNat (.ex (gI len mx - gI 0 lo).toNat))
   | .pv cells=>K (.vl (gI len hi - gI 0 lo).toNat (cells.drop ((gI 0 lo).toNat*esz)))
   | _=>False
@[simp] theorem satSlA_ptr (len esz r off s:Nat) (lo hi mx:Option AVal) (K:AVal→Prop):satSlA len esz (.ptr r off s) lo hi mx K =
 ((okI lo∧okI hi∧okI mx∧0≤gI 0 lo∧gI 0 lo≤gI len hi∧gI len hi≤gI len mx∧gI len mx≤len)∧
   K (.sl r (if gI len mx=gI 0 lo then off else off+(gI 0 lo).toNat*esz) s (gI len hi - gI 0 lo).toNat (.ex (gI len mx - gI 0 lo).toNat))):=(rfl)
def satSlS (esz:Nat) (x:AVal) (lo hi mx:Option AVal) (K:AVal→Prop):Prop:=
 match x,mx with
 | .vl n cells,none=>(okI lo∧okI hi∧0≤gI 0 lo∧gI 0 lo≤gI n hi∧gI n hi≤n)∧K (.vl (gI n hi - gI 0 lo).toNat (cells.drop ((gI 0 lo).toNat*esz)))
 | .sl r off s len (.gr e),none=>(okI lo∧okI hi∧e=esz∧0≤gI 0 lo∧gI 0 lo≤gI len hi∧gI len hi≤len∧(gI 0 lo<len∨gI 0 lo=0))∧K (.sl r (off+(gI 0 lo).toNat*esz) s (gI len hi - gI 0 lo).toNat (.gr e))
 | .sl r off s len (.ex c),mx=>(okI lo∧okI hi∧okI mx∧0≤gI 0 lo∧gI 0 lo≤gI len hi∧gI len hi≤gI c mx∧gI c mx≤c)∧
    K (.sl r (if gI c mx=gI 0 lo then off else off+(gI 0 lo).toNat*esz) s (gI len hi - gI 0 lo).toNat (.ex (gI c mx - gI 0 lo).toNat))
 | x,mx=>osat (aSlS esz x lo hi mx) K
@[simp] theorem satSlS_vl (esz n:Nat) (cells:List AVal) (lo hi:Option AVal) (K:AVal→Prop):satSlS esz (.vl n cells) lo hi none K =
 ((okI lo∧okI hi∧0≤gI 0 lo∧gI 0 lo≤gI n hi∧gI n hi≤n)∧K (.vl (gI n hi - gI 0 lo).toNat (cells.drop ((gI 0 lo).toNat*esz)))):=(rfl)
@[simp] theorem satSlS_ex (esz r off s len c:Nat) (lo hi mx:Option AVal) (K:AVal→Prop):satSlS esz (.sl r off s len (.ex c)) lo hi mx K =
 ((okI lo∧okI hi∧okI mx∧0≤gI 0 lo∧gI 0 lo≤gI len hi∧gI len hi≤gI c mx∧gI c mx≤c)∧
   K (.sl r (if gI c mx=gI 0 lo then off else off+(gI 0 lo).toNat*esz) s (gI len hi - gI 0 lo).toNat (.ex (gI c mx - gI 0 lo).toNat))):=by
 cases mx<;>rfl
def satSlT (x:AVal) (lo hi:Option AVal) (K:AVal→Prop):Prop:=
 match x with
 | .str s=>(okI lo∧okI hi∧0≤gI 0 lo∧gI 0 lo≤gI s.length hi∧gI s.length hi≤s.length)∧K (.str ((s.take (gI s.length hi).toNat).drop (gI 0 lo).toNat))
 | _=>False
@[simp] theorem satSlT_str (s:List UInt8) (lo hi:Option AVal) (K:AVal→Prop):satSlT (.str s) lo hi K =
 ((okI lo∧okI hi∧0≤gI 0 lo∧gI 0 lo≤gI s.length hi∧gI s.length hi≤s.length)∧K (.str ((s.take (gI s.length hi).toNat).drop (gI 0 lo).toNat))):=(rfl)
def satUn (op:UnOp) (x:AVal) (K:AVal→Prop):Prop:=
 match op,x with
 | .neg,.int k n=>ckI k (-n) K
 | .not,.bool b=>K (.bool !b)
 | op,x=>osat (aun op x) K
@[simp] theorem satUn_neg (k:IntKind) (n:Int) (K:AVal→Prop):satUn .neg (.int k n) K=ckI k (-n) K:=(rfl)
@[simp] theorem satUn_not (b:Bool) (K:AVal→Prop):satUn .not (.bool b) K=K (.bool !b):=(rfl)
def satPick (c x y:AVal) (K:AVal→Prop):Prop:=
 match c with
 | .bool b=>K (if b then x else y)
 | _=>False
@[simp] theorem satPick_bool (b:Bool) (x y:AVal) (K:AVal→Prop):satPick (.bool b) x y K=K (if b then x else y):=(rfl)
def isat (io:IOp) (ρ:Opd→AVal) (h:Heap) (K:AVal→Prop):Prop:=
 match io with
 | .mv x=>K (ρ x)
 | .pick c x y=>satPick (ρ c) (ρ x) (ρ y) K
 | .bin op x y=>satBin op (ρ x) (ρ y) K
 | .un op x=>satUn op (ρ x) K
 | .conv k x=>satConv k (ρ x) K
 | .ixA len esz x i=>satIxA len esz (ρ x) (ρ i) K
 | .ixS esz x i=>satIxS esz (ρ x) (ρ i) K
 | .ixV len esz agg x i=>satIxV len esz agg (ρ x) (ρ i) K
 | .ixT x i=>satIxT (ρ x) (ρ i) K
 | .slA len esz x lo hi mx=>satSlA len esz (ρ x) (lo.map ρ) (hi.map ρ) (mx.map ρ) K
 | .slS esz x lo hi mx=>satSlS esz (ρ x) (lo.map ρ) (hi.map ρ) (mx.map ρ) K
 | .slT x lo hi=>satSlT (ρ x) (lo.map ρ) (hi.map ρ) K
 | .fld agg off n x=>satFld agg off n (ρ x) K
 | .load agg n x=>satLoad h agg n (ρ x) K
 | .mkI t x=>K (.iface t (ρ x))
 | .mkF fn first cap=>K (.func fn (evs ρ first) (evs ρ cap))
 | .lenA n=>K (.int .i64 n)
 | io=>osat (iev io ρ h) K
theorem wrap_fits {n:Int} (h:Fits n):IntKind.i64.wrap n=n:=by
 unfold Fits at h
 simp only[IntKind.wrap,IntKind.bits,IntKind.signed]
 simp
 split<;>omega
theorem ckI_iev {k:IntKind} {n:Int} {K:AVal→Prop} (h:ckI k n K):K (.int k (k.wrap n)):=by
 unfold ckI at h
 split at h
 ·rw[wrap_fits h.1];exact h.2
 ·exact h
theorem satAr_sound {op:BinOp} {k:IntKind} {a b:Int} {K:AVal→Prop} (h:satAr op k a b K):∃r,arI op k a b=some r∧K r:=by
 unfold satAr at h
 unfold arI
 split at h<;>simp only[]<;>first
  | exact ⟨_,rfl,ckI_iev h⟩
  | (rw[if_pos h.1];first|exact ⟨_,rfl,ckI_iev h.2⟩ | exact ⟨_,rfl,h.2⟩)
  | exact ⟨_,rfl,h⟩
  | exact h.elim
theorem beq_dec (a b:List UInt8) :(a == b)=decide (a=b):=by
 by_cases h:a=b<;>simp[h]
theorem satBin_sound {op:BinOp} {x y:AVal} {K:AVal→Prop} (h:satBin op x y K):∃r,abin op x y=some r∧K r:=by
 have h64:IntKind.i64.bits=64:=rfl
 cases x with
 | int k a=>
   cases y with
   | int k' b=>
     cases hop:isSh op with
     | false=>
       rw[satBin_ar _ _ _ _ _ _ hop] at h
       simp only[abin,hop,Bool.false_eq_true,if_false]
       rw[if_pos h.1]
       exact satAr_sound h.2
     | true=>
       cases op<;>simp only[isSh] at hop<;>first|cases hop;done|skip
       ·rw[satBin_shl] at h
        obtain ⟨⟨h1,h2,hk⟩,h3⟩:=h
        simp only[abin,isSh,if_true,shI]
        rw[if_pos h1]
        refine ⟨_,rfl,?_⟩
        have:min b.toNat k.bits=b.toNat:=by omega
        rw[this]
        exact ckI_iev h3
       ·rw[satBin_shr] at h
        obtain ⟨⟨h1,h2,hk⟩,h3⟩:=h
        simp only[abin,isSh,if_true,shI]
        rw[if_pos h1]
        refine ⟨_,rfl,?_⟩
        have:min b.toNat k.bits=b.toNat:=by omega
        rw[this,Int.fdiv_eq_ediv_of_nonneg _ (Int.pow_nonneg (by decide))]
        exact h3
   | _=>exact h.elim
 | str a=>
   cases y with
   | str b=>
     cases op<;>first
      | exact h.elim
      | (rw[satBin_sadd] at h;simp only[abin];rw[if_pos h.1];exact ⟨_,rfl,h.2⟩)
      | (rw[satBin_seql] at h;exact ⟨_,rfl,(beq_dec a b).symm ▸ h⟩)
      | (rw[satBin_sneq] at h;exact ⟨_,rfl,(beq_dec a b).symm ▸ h⟩)
   | _=>exact h.elim
 | _=>exact h.elim
theorem satL_sound {agg:Bool} {n:Nat} {cells:List AVal} {K:AVal→Prop} (h:satL agg n cells K):∃r,loadC agg n cells=some r∧K r:=by
 unfold satL at h
 unfold loadC
 cases agg with
 | true=>simp only[if_true] at h ⊢;rw[if_pos h.1];exact ⟨_,rfl,h.2⟩
 | false=>simp only[Bool.false_eq_true,if_false] at h ⊢;exact osat_iff.1 h
theorem satLoad_sound {h:Heap} {agg:Bool} {n:Nat} {a:AVal} {K:AVal→Prop} (hs:satLoad h agg n a K):∃r,loadP h agg n a=some r∧K r:=by
 unfold satLoad at hs
 unfold loadP
 split at hs
 ·rename_i r off s
  unfold satRow at hs
  simp only[cellsAt]
  split at hs
  ·rename_i cells s' hr
   rw[hr]
   simp only[if_pos hs.1,Option.bind_some]
   exact satL_sound hs.2
  ·exact hs.elim
 ·exact satL_sound hs
 ·exact hs.elim
theorem okI_sound {d:Nat} {o:Option AVal} (h:okI o):boundO d o=some (gI d o):=by
 unfold okI at h
 split at h
 ·rfl
 ·rfl
 ·exact h.elim
theorem satSlA_sound {len esz:Nat} {x:AVal} {lo hi mx:Option AVal} {K:AVal→Prop} (h:satSlA len esz x lo hi mx K):∃r,aSlA len esz x lo hi mx=some r∧K r:=by
 obtain ⟨⟨h1,h2,h3,hc⟩,h⟩:=h
 simp only[aSlA,okI_sound h1,okI_sound h2,okI_sound h3]
 rw[if_pos hc]
 split at h
 ·exact ⟨_,rfl,h⟩
 ·exact ⟨_,rfl,h⟩
 ·exact h.elim
theorem satSlS_sound {esz:Nat} {x:AVal} {lo hi mx:Option AVal} {K:AVal→Prop} (h:satSlS esz x lo hi mx K):∃r,aSlS esz x lo hi mx=some r∧K r:=by
 unfold satSlS at h
 split at h
 ·obtain ⟨⟨h1,h2,hc⟩,h⟩:=h
  have h3:∀n:Nat,boundO n none=some (n:Int):=fun _=>rfl
  simp only[aSlS,okI_sound h1,okI_sound h2,h3]
  rw[if_pos ⟨hc.1,hc.2.1,hc.2.2,Int.le_refl _⟩]
  exact ⟨_,rfl,by simpa using h⟩
 ·obtain ⟨⟨h1,h2,hc⟩,h⟩:=h
  simp only[aSlS,okI_sound h1,okI_sound h2]
  rw[if_pos hc]
  exact ⟨_,rfl,h⟩
 ·obtain ⟨⟨h1,h2,h3,hc⟩,h⟩:=h
  simp only[aSlS,okI_sound h1,okI_sound h2,okI_sound h3]
  rw[if_pos hc]
  exact ⟨_,rfl,h⟩
 ·exact osat_iff.1 h
theorem satSlT_sound {x:AVal} {lo hi:Option AVal} {K:AVal→Prop} (h:satSlT x lo hi K):∃r,aSlT x lo hi=some r∧K r:=by
 unfold satSlT at h
 split at h
 ·obtain ⟨⟨h1,h2,hc⟩,h⟩:=h
  simp only[aSlT,okI_sound h1,okI_sound h2]
  rw[if_pos hc]
  exact ⟨_,rfl,h⟩
 ·exact h.elim
theorem satUn_sound {op:UnOp} {x:AVal} {K:AVal→Prop} (h:satUn op x K):∃r,aun op x=some r∧K r:=by
 unfold satUn at h
 split at h
 ·simp only[aun,Int.zero_sub];exact ⟨_,rfl,ckI_iev h⟩
 ·exact ⟨_,rfl,h⟩
 ·exact osat_iff.1 h
theorem isat_sound {io:IOp} {ρ:Opd→AVal} {h:Heap} {K:AVal→Prop} (hs:isat io ρ h K):∃r,iev io ρ h=some r∧K r:=by
 unfold isat at hs
 split at hs
 ·exact ⟨_,rfl,hs⟩
 ·unfold satPick at hs
  split at hs
  ·rename_i hx;simp only[iev,hx];exact ⟨_,rfl,by split at hs <;>(rename_i hb;simpa[hb] using hs)⟩
  ·exact hs.elim
 ·exact satBin_sound hs
 ·exact satUn_sound hs
 ·unfold satConv at hs
  simp only[iev]
  split at hs
  ·rename_i hx;rw[hx];exact ⟨_,rfl,ckI_iev hs⟩
  ·exact hs.elim
 ·unfold satIxA at hs
  split at hs
  ·rename_i h1 h2;simp only[iev,aIxA,h1,h2];rw[if_pos hs.1];exact ⟨_,rfl,hs.2⟩
  ·rename_i h1 h2;simp only[iev,aIxA,h1,h2];rw[if_pos hs.1];exact ⟨_,rfl,hs.2⟩
  ·exact hs.elim
 ·unfold satIxS at hs
  split at hs
  ·rename_i h1 h2;simp only[iev,aIxS,h1,h2];rw[if_pos hs.1];exact ⟨_,rfl,hs.2⟩
  ·rename_i h1 h2;simp only[iev,aIxS,h1,h2];rw[if_pos hs.1];exact ⟨_,rfl,hs.2⟩
  ·exact hs.elim
 ·unfold satIxV at hs
  split at hs
  ·rename_i h1 h2;simp only[iev,aIxV,h1,h2];rw[if_pos hs.1];exact satL_sound hs.2
  ·exact hs.elim
 ·unfold satIxT at hs
  split at hs
  ·rename_i h1 h2;simp only[iev,aIxT,h1,h2];rw[if_pos hs.1];exact ⟨_,rfl,hs.2⟩
  ·exact hs.elim
 ·exact satSlA_sound hs
 ·exact satSlS_sound hs
 ·exact satSlT_sound hs
 ·unfold satFld at hs
  simp only[iev]
  split at hs
  ·rename_i hx;rw[hx];exact satL_sound hs
  ·exact hs.elim
 ·exact satLoad_sound hs
 ·exact ⟨_,rfl,hs⟩
 ·exact ⟨_,rfl,hs⟩
 ·exact ⟨_,rfl,hs⟩
 ·exact osat_iff.1 hs
end Go.Cw
end
section
namespace Go.Cw
open Go
def aEqB (neg:Bool) (x y:AVal):Option AVal:=
 match x,y with
 | .bool a,.bool b=>some (.bool (if neg then !(a == b) else a == b))
 | _,_=>none
def aEqA (neg:Bool) (ks:List Kd) (x y:AVal):Option AVal:=
 match x,y with
 | .agg a,.agg b=>(flatEq ks a b).map fun r=>.bool (if neg then !r else r)
 | _,_=>none
def aNilck (P:Program) (x:AVal):Option AVal:=
 match x with
 | .ptr r o s=>some (.ptr r o s)
 | .pv cells=>some (.pv cells)
 | .func (.method nm) [.iface t a] []=>if fineM P t nm=true then some (.func (.method nm) [.iface t a] []) else none
 | _=>none
def aExt (x:AVal) (i:Nat):Option AVal:=
 match x with
 | .tup vs=>vs[i]?
 | _=>none
def aLenT (x:AVal):Option AVal:=
 match x with
 | .str s=>some (.int .i64 s.length)
 | _=>none
def aFAddr (off:Nat) (x:AVal):Option AVal:=
 match x with
 | .ptr r o s=>some (.ptr r (o+off) s)
 | .pv cells=>some (.pv (cells.drop off))
 | _=>none
def zSel (o:AObj) (r off s:Nat):Option AVal:=
 match o with
 | .row _ s'=>if s'=s then some (.ptr r off s) else none
 | _=>none
def aZAddr (h:Heap) (x:AVal):Option AVal:=
 match x with
 | .ptr r o s=>zSel (h r) r o s
 | _=>none
def aMML (isMax:Bool):List AVal→Option AVal
 | []=>none
 | x::r=>aMMs isMax x r
def aLenM (m:Option (List (AVal×AVal))):Option AVal:=m.map fun es=>.int .i64 es.length
section
variable (ρ : Opd→AVal) (h:Heap) (K:AVal→Prop) (x y i m k c:Opd)
@[simp] theorem isat_pick : isat (.pick c x y) ρ h K=satPick (ρ c) (ρ x) (ρ y) K:=(rfl)
@[simp] theorem isat_un (op:UnOp):isat (.un op x) ρ h K=satUn op (ρ x) K:=(rfl)
@[simp] theorem isat_conv (k:IntKind):isat (.conv k x) ρ h K=satConv k (ρ x) K:=(rfl)
@[simp] theorem isat_ixA (len esz:Nat):isat (.ixA len esz x i) ρ h K=satIxA len esz (ρ x) (ρ i) K:=(rfl)
@[simp] theorem isat_ixS (esz:Nat):isat (.ixS esz x i) ρ h K=satIxS esz (ρ x) (ρ i) K:=(rfl)
@[simp] theorem isat_ixV (len esz:Nat) (agg:Bool):isat (.ixV len esz agg x i) ρ h K=satIxV len esz agg (ρ x) (ρ i) K:=(rfl)
@[simp] theorem isat_ixT : isat (.ixT x i) ρ h K=satIxT (ρ x) (ρ i) K:=(rfl)
@[simp] theorem isat_slA (len esz:Nat) (lo hi mx:Option Opd):isat (.slA len esz x lo hi mx) ρ h K=satSlA len esz (ρ x) (lo.map ρ) (hi.map ρ) (mx.map ρ) K:=(rfl)
@[simp] theorem isat_slS (esz:Nat) (lo hi mx:Option Opd):isat (.slS esz x lo hi mx) ρ h K=satSlS esz (ρ x) (lo.map ρ) (hi.map ρ) (mx.map ρ) K:=(rfl)
@[simp] theorem isat_slT (lo hi:Option Opd):isat (.slT x lo hi) ρ h K=satSlT (ρ x) (lo.map ρ) (hi.map ρ) K:=(rfl)
@[simp] theorem isat_fld (agg:Bool) (off n:Nat):isat (.fld agg off n x) ρ h K=satFld agg off n (ρ x) K:=(rfl)
@[simp] theorem isat_load (agg:Bool) (n:Nat):isat (.load agg n x) ρ h K=satLoad h agg n (ρ x) K:=(rfl)
@[simp] theorem isat_mkF (fn:Fn) (first cap:List Opd):isat (.mkF fn first cap) ρ h K=K (.func fn (evs ρ first) (evs ρ cap)):=(rfl)
@[simp] theorem isat_zAddr : isat (.zAddr x) ρ h K=osat (aZAddr h (ρ x)) K:=(rfl)
@[simp] theorem isat_mm (isMax:Bool) (xs:List Opd):isat (.mm isMax xs) ρ h K=osat (aMML isMax (evs ρ xs)) K:=by
 cases xs<;>rfl
@[simp] theorem isat_build (zero:List AVal) (parts:List (Nat×Nat×Opd)):isat (.build zero parts) ρ h K=osat ((afill zero (evParts ρ parts)).map .agg) K:=(rfl)
@[simp] theorem isat_lookup (kn:Bool×List Kd) (ok:Bool) (zero:AVal):isat (.lookup kn ok zero m k) ρ h K=osat (aLookup h kn ok zero (ρ m) (ρ k)) K:=(rfl)
@[simp] theorem isat_lenM : isat (.lenM m) ρ h K=osat (aLenM (mapOf h (ρ m))) K:=by
 show osat _ K=osat _ K
 simp only[iev,aLenM]
 cases mapOf h (ρ m)<;>rfl
end
@[simp] theorem aEqA_agg (neg:Bool) (ks:List Kd) (a b:List AVal):aEqA neg ks (.agg a) (.agg b) =(flatEq ks a b).map fun r=>.bool (if neg then !r else r):=(rfl)
@[simp] theorem aNilck_ptr (P:Program) (r o s:Nat):aNilck P (.ptr r o s)=some (.ptr r o s):=(rfl)
@[simp] theorem aNilck_pv (P:Program) (cells:List AVal):aNilck P (.pv cells)=some (.pv cells):=(rfl)
@[simp] theorem aNilck_meth (P:Program) (nm:String) (t:TypeId) (a:AVal):aNilck P (.func (.method nm) [.iface t a] [])=if fineM P t nm=true then some (.func (.method nm) [.iface t a] []) else none:=(rfl)
@[simp] theorem aZAddr_ptr (h:Heap) (r o s:Nat):aZAddr h (.ptr r o s)=zSel (h r) r o s:=(rfl)
@[simp] theorem aFAddr_ptr (off r o s:Nat):aFAddr off (.ptr r o s)=some (.ptr r (o+off) s):=(rfl)
@[simp] theorem aFAddr_pv (off:Nat) (cells:List AVal):aFAddr off (.pv cells)=some (.pv (cells.drop off)):=(rfl)
@[simp] theorem aExt_tup (vs:List AVal) (i:Nat):aExt (.tup vs) i=vs[i]?:=(rfl)
@[simp] theorem aLenT_str (s:List UInt8):aLenT (.str s)=some (.int .i64 s.length):=(rfl)
@[simp] theorem aLen_sl (r off s len:Nat) (c:Cap):aLen (.sl r off s len c)=some (.int .i64 len):=(rfl)
@[simp] theorem aLen_vl (n:Nat) (cells:List AVal):aLen (.vl n cells)=some (.int .i64 n):=(rfl)
@[simp] theorem aLen_nils : aLen .nils=some (.int .i64 0):=(rfl)
@[simp] theorem isNil_s3 (n:Nat) (cells:List AVal):isNil .s (.vl (n+1) cells)=some false:=(rfl)
@[simp] theorem isNil_i1 : isNil .i .nili=some true:=(rfl)
@[simp] theorem isNil_i2 (t:TypeId) (v:AVal):isNil .i (.iface t v)=some false:=(rfl)
@[simp] theorem aTyAs_ok (t u:TypeId) (zero v:AVal):aTyAs t true zero (.iface u v)=some (if u=t then .tup [v,.bool true] else .tup [zero,.bool false]):=by
 by_cases hu:u=t<;>simp[aTyAs,hu]
@[simp] theorem aMML_cons (b:Bool) (x:AVal) (r:List AVal):aMML b (x::r)=aMMs b x r:=(rfl)
@[simp] theorem aMMs_nil (b:Bool) (x:AVal):aMMs b x []=some x:=(rfl)
@[simp] theorem aMMs_max (k:IntKind) (x y:Int) (r:List AVal):aMMs true (.int k x) (.int k y::r)=aMMs true (.int k (max x y)) r:=by
 simp only[aMMs,aMM,if_true]
 have :(if x<y then y else x)=max x y:=by split<;>omega
 rw[this]
@[simp] theorem aMMs_min (k:IntKind) (x y:Int) (r:List AVal):aMMs false (.int k x) (.int k y::r)=aMMs false (.int k (min x y)) r:=by
 simp only[aMMs,aMM,if_true,Bool.false_eq_true,if_false]
 have :(if y<x then y else x)=min x y:=by split<;>omega
 rw[this]
@[simp] theorem ev_t (tm:TM) (n:Nat):ev tm (.t n)=tm n:=(rfl)
@[simp] theorem ev_c (tm:TM) (v:AVal):ev tm (.c v)=v:=(rfl)
@[simp] theorem evs_nil (ρ:Opd→AVal):evs ρ []=[]:=(rfl)
@[simp] theorem evs_cons (ρ:Opd→AVal) (x:Opd) (r:List Opd):evs ρ (x::r)=ρ x::evs ρ r:=(rfl)
@[simp] theorem evParts_nil (ρ:Opd→AVal):evParts ρ []=[]:=(rfl)
@[simp] theorem evParts_cons (ρ:Opd→AVal) (o n:Nat) (x:Opd) (r:List (Nat×Nat×Opd)):evParts ρ ((o,n,x)::r) =(o,n,ρ x)::evParts ρ r:=(rfl)
@[simp] theorem acells_bool (b:Bool):acells (.bool b)=some [.bool b]:=(rfl)
@[simp] theorem acells_int (k:IntKind) (n:Int):acells (.int k n)=some [.int k n]:=(rfl)
@[simp] theorem acells_str (s:List UInt8):acells (.str s)=some [.str s]:=(rfl)
@[simp] theorem acells_ptr (r o s:Nat):acells (.ptr r o s)=some [.ptr r o s]:=(rfl)
@[simp] theorem acells_pv (c:List AVal):acells (.pv c)=some [.pv c]:=(rfl)
@[simp] theorem acells_nils : acells .nils=some [.nils]:=(rfl)
@[simp] theorem acells_sl (r off s len:Nat) (c:Cap):acells (.sl r off s len c)=some [.sl r off s len c]:=(rfl)
@[simp] theorem acells_vl (n:Nat) (c:List AVal):acells (.vl n c)=some [.vl n c]:=(rfl)
@[simp] theorem acells_map (r s:Nat):acells (.map r s)=some [.map r s]:=(rfl)
@[simp] theorem acells_func (fn:Fn) (a b:List AVal):acells (.func fn a b)=some [.func fn a b]:=(rfl)
@[simp] theorem acells_yield (r s:Nat):acells (.yield r s)=some [.yield r s]:=(rfl)
@[simp] theorem acells_iface (t:TypeId) (v:AVal):acells (.iface t v)=some [.iface t v]:=(rfl)
@[simp] theorem acells_agg (cs:List AVal):acells (.agg cs)=some cs:=(rfl)
@[simp] theorem afill_nil (cells:List AVal):afill cells []=some cells:=(rfl)
@[simp] theorem afill_cons (cells:List AVal) (off size:Nat) (v:AVal) (rest:List (Nat×Nat×AVal)):afill cells ((off,size,v)::rest) =
 match acells v with
 | some vs=>if vs.length=size∧off+size≤cells.length then afill (setRange cells off vs) rest else none
 | none=>none:=(rfl)
@[simp] theorem flatEq_nil : flatEq [] [] []=some true:=(rfl)
@[simp] theorem flatEq_i (ks:List Kd) (k k':IntKind) (a b:Int) (as bs:List AVal):flatEq (.i::ks) (.int k a::as) (.int k' b::bs)=if k=k' then (flatEq ks as bs).map ((a == b) && ·) else none:=(rfl)
def xBox (nm s:Nat) (h:Heap) (o:Option (List AVal)) (K:AVal→Heap→Prop):Prop:=
 match o with
 | some cs=>K (.ptr nm 0 (s+1)) (upd h nm (.row cs (s+1)))
 | none=>False
@[simp] theorem xBox_some (nm s:Nat) (h:Heap) (cs:List AVal) (K:AVal→Heap→Prop):xBox nm s h (some cs) K=K (.ptr nm 0 (s+1)) (upd h nm (.row cs (s+1))):=(rfl)
def xBsl (nm s:Nat) (h:Heap) (len:Nat) (o:Option (List AVal)) (K:AVal→Heap→Prop):Prop:=
 match o with
 | some cs=>K (.sl nm 0 (s+1) len (.ex len)) (upd h nm (.row cs (s+1)))
 | none=>False
@[simp] theorem xBsl_some (nm s:Nat) (h:Heap) (len:Nat) (cs:List AVal) (K:AVal→Heap→Prop):xBsl nm s h len (some cs) K=K (.sl nm 0 (s+1) len (.ex len)) (upd h nm (.row cs (s+1))):=(rfl)
def xMk (nm s:Nat) (h:Heap) (bytes:Nat) (zero:List AVal) (l c:AVal) (K:AVal→Heap→Prop):Prop:=
 match l,c with
 | .int _ l,.int _ c=>(0≤l∧l≤c∧bytes*c≤281474976710656∧c≤9223372036854775807)∧K (.sl nm 0 (s+1) l.toNat (.ex c.toNat)) (upd h nm (.row (List.replicate c.toNat zero).flatten (s+1)))
 | _,_=>False
@[simp] theorem xMk_int (nm s:Nat) (h:Heap) (bytes:Nat) (zero:List AVal) (k k':IntKind) (l c:Int) (K:AVal→Heap→Prop):xMk nm s h bytes zero (.int k l) (.int k' c) K =
 ((0≤l∧l≤c∧bytes*c≤281474976710656∧c≤9223372036854775807)∧K (.sl nm 0 (s+1) l.toNat (.ex c.toNat)) (upd h nm (.row (List.replicate c.toNat zero).flatten (s+1)))):=(rfl)
def xStR (o:AObj) (h:Heap) (r off s:Nat) (vs:List AVal) (v:AVal) (K:AVal→Heap→Prop):Prop:=
 match o with
 | .row cells s'=>(s=s'∧off+vs.length≤cells.length)∧K v (upd h r (.row (setRange cells off vs) s))
 | _=>False
@[simp] theorem xStR_row (cells:List AVal) (s':Nat) (h:Heap) (r off s:Nat) (vs:List AVal) (v:AVal) (K:AVal→Heap→Prop):xStR (.row cells s') h r off s vs v K =
 ((s=s'∧off+vs.length≤cells.length)∧K v (upd h r (.row (setRange cells off vs) s))):=(rfl)
def xStP (h:Heap) (x:AVal) (vs:List AVal) (v:AVal) (K:AVal→Heap→Prop):Prop:=
 match x with
 | .ptr r off s=>xStR (h r) h r off s vs v K
 | _=>False
@[simp] theorem xStP_ptr (h:Heap) (r off s:Nat) (vs:List AVal) (v:AVal) (K:AVal→Heap→Prop):xStP h (.ptr r off s) vs v K=xStR (h r) h r off s vs v K:=(rfl)
def xSto (h:Heap) (n:Nat) (o:Option (List AVal)) (x:AVal) (K:AVal→Heap→Prop):Prop:=
 match o with
 | some vs=>vs.length=n∧xStP h x vs .any K
 | none=>False
@[simp] theorem xSto_some (h:Heap) (n:Nat) (vs:List AVal) (x:AVal) (K:AVal→Heap→Prop):xSto h n (some vs) x K =(vs.length=n∧xStP h x vs .any K):=(rfl)
def xElR (o:AObj) (esz off s len:Nat) (K:Nat→List AVal→Prop):Prop:=
 match o with
 | .row cells s'=>(s=s'∧len*esz≤(cells.drop off).length)∧K len ((cells.drop off).take (len*esz))
 | _=>False
@[simp] theorem xElR_row (cells:List AVal) (s' esz off s len:Nat) (K:Nat→List AVal→Prop):xElR (.row cells s') esz off s len K =
 ((s=s'∧len*esz≤(cells.drop off).length)∧K len ((cells.drop off).take (len*esz))):=(rfl)
def xEl (h:Heap) (esz:Nat) (y:AVal) (K:Nat→List AVal→Prop):Prop:=
 match y with
 | .sl r off s len _=>xElR (h r) esz off s len K
 | .vl n cells=>n*esz≤cells.length∧K n (cells.take (n*esz))
 | .nils=>K 0 []
 | .es=>K 0 []
 | _=>False
@[simp] theorem xEl_sl (h:Heap) (esz r off s len:Nat) (c:Cap) (K:Nat→List AVal→Prop):xEl h esz (.sl r off s len c) K=xElR (h r) esz off s len K:=(rfl)
@[simp] theorem xEl_vl (h:Heap) (esz n:Nat) (cells:List AVal) (K:Nat→List AVal→Prop):xEl h esz (.vl n cells) K =(n*esz≤cells.length∧K n (cells.take (n*esz))):=(rfl)
def xApR (o:AObj) (nm esz bytes s₀:Nat) (r off s len:Nat) (cap:Cap) (h:Heap) (K:AVal→Heap→Prop) (n:Nat) (ys:List AVal):Prop:=
 match o with
 | .row cells s'=>(s=s'∧off+len*esz≤cells.length∧(2*(len+n)+192)*bytes≤281474976710656)∧
   (match cap with
   | .ex c=>(len+n≤c→off+(len+n)*esz≤cells.length∧K (.sl r off s (len+n) (.ex c)) (upd h r (.row (setRange cells (off+len*esz) ys) s)))∧
      (c<len+n→K (.sl nm 0 (s₀+1) (len+n) (.gr esz)) (upd h nm (.row ((cells.drop off).take (len*esz)++ys) (s₀+1))))
   | .gr e=>(e=esz∧off=0∧len*esz=cells.length)∧K (.sl nm 0 (s₀+1) (len+n) (.gr esz)) (upd (upd h r .dead) nm (.row (cells++ys) (s₀+1))))
 | _=>False
@[simp] theorem xApR_ex (cells:List AVal) (s' nm esz bytes s₀ r off s len c:Nat) (h:Heap) (K:AVal→Heap→Prop) (n:Nat) (ys:List AVal):xApR (.row cells s') nm esz bytes s₀ r off s len (.ex c) h K n ys =
 ((s=s'∧off+len*esz≤cells.length∧(2*(len+n)+192)*bytes≤281474976710656)∧
   (len+n≤c→off+(len+n)*esz≤cells.length∧K (.sl r off s (len+n) (.ex c)) (upd h r (.row (setRange cells (off+len*esz) ys) s)))∧
     (c<len+n→K (.sl nm 0 (s₀+1) (len+n) (.gr esz)) (upd h nm (.row ((cells.drop off).take (len*esz)++ys) (s₀+1))))):=(rfl)
@[simp] theorem xApR_gr (cells:List AVal) (s' nm esz bytes s₀ r off s len e:Nat) (h:Heap) (K:AVal→Heap→Prop) (n:Nat) (ys:List AVal):xApR (.row cells s') nm esz bytes s₀ r off s len (.gr e) h K n ys =
 ((s=s'∧off+len*esz≤cells.length∧(2*(len+n)+192)*bytes≤281474976710656)∧
   (e=esz∧off=0∧len*esz=cells.length)∧K (.sl nm 0 (s₀+1) (len+n) (.gr esz)) (upd (upd h r .dead) nm (.row (cells++ys) (s₀+1)))):=(rfl)
def xApN (nm esz bytes s₀:Nat) (x:AVal) (h:Heap) (K:AVal→Heap→Prop) (n:Nat) (ys:List AVal):Prop:=
 match x with
 | .nils | .es=>(2*n+192)*bytes≤281474976710656∧K (.sl nm 0 (s₀+1) n (.gr esz)) (upd h nm (.row ys (s₀+1)))
 | .sl r off s len cap=>xApR (h r) nm esz bytes s₀ r off s len cap h K n ys
 | _=>False
@[simp] theorem xApN_nils (nm esz bytes s₀:Nat) (h:Heap) (K:AVal→Heap→Prop) (n:Nat) (ys:List AVal):xApN nm esz bytes s₀ .nils h K n ys =
 ((2*n+192)*bytes≤281474976710656∧K (.sl nm 0 (s₀+1) n (.gr esz)) (upd h nm (.row ys (s₀+1)))):=(rfl)
@[simp] theorem xApN_es (nm esz bytes s₀:Nat) (h:Heap) (K:AVal→Heap→Prop) (n:Nat) (ys:List AVal):xApN nm esz bytes s₀ .es h K n ys =
 ((2*n+192)*bytes≤281474976710656∧K (.sl nm 0 (s₀+1) n (.gr esz)) (upd h nm (.row ys (s₀+1)))):=(rfl)
@[simp] theorem xApN_sl (nm esz bytes s₀ r off s len:Nat) (c:Cap) (h:Heap) (K:AVal→Heap→Prop) (n:Nat) (ys:List AVal):xApN nm esz bytes s₀ (.sl r off s len c) h K n ys =
 xApR (h r) nm esz bytes s₀ r off s len c h K n ys:=(rfl)
def isSl : AVal→Bool
 | .nils | .es | .vl _ _ | .sl _ _ _ _ _=>true
 | _=>false
@[simp] theorem isSl_sl (r off s len:Nat) (c:Cap):isSl (.sl r off s len c)=true:=(rfl)
def xAp (nm esz bytes s₀:Nat) (x:AVal) (h:Heap) (K:AVal→Heap→Prop) (n:Nat) (ys:List AVal):Prop:=
 (n=0→isSl x=true∧K x h)∧(n≠0→xApN nm esz bytes s₀ x h K n ys)
@[simp] theorem xAp_zero (nm esz bytes s₀:Nat) (x:AVal) (h:Heap) (K:AVal→Heap→Prop) (ys:List AVal):xAp nm esz bytes s₀ x h K 0 ys =(isSl x=true∧K x h):=by simp[xAp]
@[simp] theorem xAp_succ (nm esz bytes s₀:Nat) (x:AVal) (h:Heap) (K:AVal→Heap→Prop) (n:Nat) (ys:List AVal):xAp nm esz bytes s₀ x h K (n+1) ys=xApN nm esz bytes s₀ x h K (n+1) ys:=by simp[xAp]
def xCop (esz:Nat) (x:AVal) (h:Heap) (K:AVal→Heap→Prop) (n:Nat) (ys:List AVal):Prop:=
 match x with
 | .sl r off s len _=>xStR (h r) h r off s (ys.take (min n len*esz)) (.int .i64 (min n len:Nat)) K
 | .nils=>K (.int .i64 0) h
 | .es=>K (.int .i64 0) h
 | _=>False
@[simp] theorem xCop_sl (esz r off s len:Nat) (c:Cap) (h:Heap) (K:AVal→Heap→Prop) (n:Nat) (ys:List AVal):xCop esz (.sl r off s len c) h K n ys =
 xStR (h r) h r off s (ys.take (min n len*esz)) (.int .i64 (min n len:Nat)) K:=(rfl)
def xsat (io:IOp) (nm:Nat) (ρ:Opd→AVal) (h:Heap) (s:Nat) (K:AVal→Heap→Prop):Prop:=
 match io with
 | .box x=>xBox nm s h (acells (ρ x)) K
 | .alloc cells=>xBox nm s h (some cells) K
 | .bsl len cells parts=>xBsl nm s h len (afill cells (evParts ρ parts)) K
 | .mksl bytes zero len cap=>xMk nm s h bytes zero (ρ len) (ρ cap) K
 | .mkmap=>K (.map nm (s+1)) (upd h nm (.map [] (s+1)))
 | .store n x v=>xSto h n (acells (ρ v)) (ρ x) K
 | .app esz bytes x y=>xEl h esz (ρ y) (xAp nm esz bytes s (ρ x) h K)
 | .copy esz x y=>xEl h esz (ρ y) (xCop esz (ρ x) h K)
 | io=>osat (ixe io nm ρ h s) fun r=>K r.1 r.2.1
section
variable (nm s:Nat) (ρ:Opd→AVal) (h:Heap) (K:AVal→Heap→Prop) (x y:Opd)
@[simp] theorem xsat_box : xsat (.box x) nm ρ h s K=xBox nm s h (acells (ρ x)) K:=(rfl)
@[simp] theorem xsat_alloc (cells:List AVal):xsat (.alloc cells) nm ρ h s K=K (.ptr nm 0 (s+1)) (upd h nm (.row cells (s+1))):=(rfl)
@[simp] theorem xsat_bsl (len:Nat) (cells:List AVal) (parts:List (Nat×Nat×Opd)):xsat (.bsl len cells parts) nm ρ h s K=xBsl nm s h len (afill cells (evParts ρ parts)) K:=(rfl)
@[simp] theorem xsat_mksl (bytes:Nat) (zero:List AVal) (l c:Opd):xsat (.mksl bytes zero l c) nm ρ h s K=xMk nm s h bytes zero (ρ l) (ρ c) K:=(rfl)
@[simp] theorem xsat_mkmap : xsat .mkmap nm ρ h s K=K (.map nm (s+1)) (upd h nm (.map [] (s+1))):=(rfl)
@[simp] theorem xsat_store (n:Nat):xsat (.store n x y) nm ρ h s K=xSto h n (acells (ρ y)) (ρ x) K:=(rfl)
@[simp] theorem xsat_app (esz bytes:Nat):xsat (.app esz bytes x y) nm ρ h s K=xEl h esz (ρ y) (xAp nm esz bytes s (ρ x) h K):=(rfl)
@[simp] theorem xsat_copy (esz:Nat):xsat (.copy esz x y) nm ρ h s K=xEl h esz (ρ y) (xCop esz (ρ x) h K):=(rfl)
end
theorem xEl_sound {h:Heap} {esz:Nat} {y:AVal} {K:Nat→List AVal→Prop} (hs:xEl h esz y K):∃n ys,elemsOf h esz y=some (n,ys)∧K n ys:=by
 unfold xEl at hs
 split at hs
 ·rename_i r off s len c
  unfold xElR at hs
  split at hs
  ·rename_i cells s' hr
   simp only[elemsOf,cellsAt,hr,if_pos hs.1.1]
   rw[if_pos hs.1.2]
   exact ⟨_,_,rfl,hs.2⟩
  ·exact hs.elim
 ·simp only[elemsOf];rw[if_pos hs.1];exact ⟨_,_,rfl,hs.2⟩
 ·exact ⟨_,_,rfl,hs⟩
 ·exact ⟨_,_,rfl,hs⟩
 ·exact hs.elim
theorem xStR_sound {h:Heap} {r off s:Nat} {vs:List AVal} {v:AVal} {K:AVal→Heap→Prop} (hs:xStR (h r) h r off s vs v K):∃h',storeP h (.ptr r off s) vs=some h'∧K v h':=by
 unfold xStR at hs
 split at hs
 ·rename_i cells s' hr
  simp only[storeP,hr]
  rw[if_pos hs.1]
  exact ⟨_,rfl,hs.2⟩
 ·exact hs.elim
theorem xAp_sound {nm esz bytes s₀:Nat} {x:AVal} {h:Heap} {K:AVal→Heap→Prop} {n:Nat} {ys:List AVal} (hs:xAp nm esz bytes s₀ x h K n ys) :
 ∃r h' s',aApp nm esz bytes x n ys h s₀=some (r,h',s')∧K r h':=by
 by_cases hn:n=0
 ·obtain ⟨h1,h2⟩:=hs.1 hn
  unfold isSl at h1
  unfold aApp
  rw[if_pos hn]
  split at h1
  ·exact ⟨_,_,_,rfl,h2⟩
  ·exact ⟨_,_,_,rfl,h2⟩
  ·exact ⟨_,_,_,rfl,h2⟩
  ·exact ⟨_,_,_,rfl,h2⟩
  ·cases h1
 ·have hs:=hs.2 hn
  unfold xApN at hs
  unfold aApp
  rw[if_neg hn]
  split at hs
  ·rw[if_pos hs.1];exact ⟨_,_,_,rfl,hs.2⟩
  ·rw[if_pos hs.1];exact ⟨_,_,_,rfl,hs.2⟩
  ·unfold xApR at hs
   split at hs
   ·rename_i hr
    simp only[hr]
    rw[if_pos hs.1]
    obtain ⟨_,hs⟩:=hs
    split at hs
    ·simp only[]
     split
     ·rename_i hc
      obtain ⟨h1,h2⟩:=hs.1 hc
      rw[if_pos h1]
      exact ⟨_,_,_,rfl,h2⟩
     ·exact ⟨_,_,_,rfl,hs.2 (by omega)⟩
    ·simp only[]
     rw[if_pos hs.1]
     exact ⟨_,_,_,rfl,hs.2⟩
   ·exact hs.elim
  ·exact hs.elim
theorem xsat_sound {io:IOp} {nm:Nat} {ρ:Opd→AVal} {h:Heap} {s:Nat} {K:AVal→Heap→Prop} (hs:xsat io nm ρ h s K) :
 ∃r h' s',ixe io nm ρ h s=some (r,h',s')∧K r h':=by
 unfold xsat at hs
 split at hs
 ·unfold xBox at hs
  simp only[ixe]
  split at hs
  ·rename_i hx;rw[hx];exact ⟨_,_,_,rfl,hs⟩
  ·exact hs.elim
 ·exact ⟨_,_,_,rfl,hs⟩
 ·unfold xBsl at hs
  simp only[ixe]
  split at hs
  ·rename_i hx;rw[hx];exact ⟨_,_,_,rfl,hs⟩
  ·exact hs.elim
 ·unfold xMk at hs
  simp only[ixe]
  split at hs
  ·rename_i h1 h2;simp only[h1,h2];rw[if_pos hs.1];exact ⟨_,_,_,rfl,hs.2⟩
  ·exact hs.elim
 ·exact ⟨_,_,_,rfl,hs⟩
 ·unfold xSto at hs
  simp only[ixe]
  split at hs
  ·rename_i vs hx
   rw[hx]
   obtain ⟨h1,h2⟩:=hs
   simp only[]
   rw[if_pos h1]
   unfold xStP at h2
   split at h2
   ·rename_i hx'
    obtain ⟨h',h3,h4⟩:=xStR_sound h2
    rw[hx',h3]
    exact ⟨_,_,_,rfl,h4⟩
   ·exact h2.elim
  ·exact hs.elim
 ·obtain ⟨n,ys,h1,h2⟩:=xEl_sound hs
  simp only[ixe,h1]
  exact xAp_sound h2
 ·obtain ⟨n,ys,h1,h2⟩:=xEl_sound hs
  simp only[ixe]
  unfold xCop at h2
  split at h2
  ·rename_i hx
   obtain ⟨h',h3,h4⟩:=xStR_sound h2
   simp only[hx,h1,h3]
   exact ⟨_,_,_,rfl,h4⟩
  ·rename_i hx;simp only[hx,h1];exact ⟨_,_,_,rfl,h2⟩
  ·rename_i hx;simp only[hx,h1];exact ⟨_,_,_,rfl,h2⟩
  ·exact h2.elim
 ·obtain ⟨⟨r,h',s'⟩,h1,h2⟩:=osat_iff.1 hs
  exact ⟨r,h',s',h1,h2⟩
end Go.Cw
end
section
namespace Go.Cw
open Go
inductive AEx where
 | normal
 | exit (id:Nat)
 | ret
 | panic (v:AVal)
inductive AEnd where
 | ret (v:AVal)
 | pan (v:AVal)
abbrev Post :=AEx→TM→DF→Heap→Prop
def anyT : TM:=fun _=>.any
def kpT (l:List Nat) (tm:TM):TM:=fun t=>if l.contains t then tm t else .any
theorem kpT_put {l:List Nat} {tm:TM} {d:Nat} (v:AVal) (hd:d∉l):kpT l (upd tm d v)=kpT l tm:=by
 funext t
 simp only[kpT]
 split
 ·rename_i ht
  refine upd_ne _ _ fun he=>hd ?_
  subst he;simpa using ht
 ·rfl
theorem kpT_rel {Z:Snap} {μ:Mu} {g n:Nat} {tm:TM} {tmps:Array Value} (l:List Nat) (T:TRel Z μ g n tm tmps):TRel Z μ g n (kpT l tm) tmps:=by
 refine ⟨T.1,fun t=>?_⟩
 simp only[kpT]
 split
 ·exact T.2 t
 ·simp[VRel]
def Wk (X:Heap→Prop) (h:Heap):Prop:=∃h₀,HLe h₀ h∧X h₀
def ExRel (Z:Snap) (μ:Mu) (g:Nat):AEx→Exit→Prop
 | .normal,e=>e=.normal
 | .exit id,e=>e=.exit id
 | .ret,e=>e=.ret
 | .panic a,e=>∃v,VRel Z μ g a v∧e=.panic [{ v,recovered:=false }]
def EndRel (Z:Snap) (μ:Mu) (g:Nat):AEnd→Ending→Prop
 | .ret a,e=>∃v,VRel Z μ g a v∧e=.returned v
 | .pan a,e=>∃v,VRel Z μ g a v∧e=.panicked [{ v,recovered:=false }]
def Out (n:Nat) (Q:Post) (Z:Snap) (μ:Mu) (h:Heap) (g:Nat) (w:World) (e:Exit) (ca:Act) (w':World):Prop:=
 ∃Z' μ' g' ae tm' df' h',Q ae tm' df' h'∧ExRel Z' μ' g' ae e∧Sim Z' μ' h' g' w'∧TRel Z' μ' g' n tm' ca.tmps∧DRel Z' μ' g' df' ca.defers∧Tr Z μ h g w Z' μ' h' g' w'
def OutC (K:AEnd→Heap→Prop) (Z:Snap) (μ:Mu) (h:Heap) (g:Nat) (w:World) (e:Ending) (w':World):Prop:=
 ∃Z' μ' g' ae h',K ae h'∧EndRel Z' μ' g' ae e∧Sim Z' μ' h' g' w'∧Tr Z μ h g w Z' μ' h' g' w'
def Fw (ro:Option Nat):Fence:={ fn:=fun _=>True,depth:=none,alive:=false,round:=ro }
structure Env where
 P:Program
 F:Nat
 n:Nat
 inr:Bool:=false
 keep:List Nat:=[]
def Ok (E:Env) (c:Code) (Q:Post) (tm:TM) (df:DF) (h:Heap):Prop:=
 ∀ro:Option Nat,ro.isSome=E.inr→∀Z μ g w ca,Sim Z μ h g w→TRel Z μ g E.n tm ca.tmps→DRel Z μ g df ca.defers→
  c.wpIn (Fw ro) 0 E.P (Out E.n Q Z μ h g w) ca w
def Enters (P:Program) (f:FuncId):Prop:=∃fn c,P.funcs[f]? = some fn∧(fn.name == "runtime.NumGoroutine")=false∧fn.body=some c
def ACalls (P:Program) (f:FuncId) (args:List AVal) (h:Heap) (K:AEnd→Heap→Prop):Prop:=
 Enters P f∧∀Z μ g w (cargs:Array Value),Sim Z μ h g w→cargs.size=args.length→VPre Z μ g args cargs.toList→Calls P f cargs w (OutC K Z μ h g w)
def Goes (P:Program) (w:World) (R:Ending→World→Prop):Result Next→Prop
 | .ok (.enter f args) w'=>w'.heap=w.heap∧Calls P f args w' R
 | .ok (.round l f tmps assign body) w'=>w'.heap=w.heap∧RoundIn Fence.wide 0 P l f tmps assign body w' R
 | _=>False
def AInvoke (P:Program) (fv:AVal) (args:List AVal) (h:Heap) (K:AEnd→Heap→Prop):Prop:=
 ∀Z μ g w (v:Value) (cargs:Array Value),Sim Z μ h g w→VRel Z μ g fv v→cargs.size=args.length→VPre Z μ g args cargs.toList→
  Goes P w (OutC K Z μ h g w) ((do let d ←Deferred.ofValue v cargs;invoke d.target d.args:Sem Next).run P w)
def APure (P:Program) (f:FuncId) (args:List AVal) (v:AVal):Prop:=∀h,ACalls P f args h fun e h'=>e=.ret v∧h'=h
def PInv (P:Program) (fv:AVal) (args:List AVal) (v:AVal):Prop:=∀h,AInvoke P fv args h fun e h'=>e=.ret v∧h'=h
theorem Calls.mono' {P:Program} {f:FuncId} {args:Array Value} {w:World} {R R':Ending→World→Prop} (h:Calls P f args w R) (hr:∀e w,R e w→R' e w):Calls P f args w R':=
 callsIn_wide (n:=0).1 (CallsIn.mono (callsIn_wide.2 h) hr)
theorem Goes.mono {P:Program} {w:World} {R R':Ending→World→Prop} {r:Result Next} (h:Goes P w R r) (hr:∀e w,R e w→R' e w):Goes P w R' r:=by
 unfold Goes at *
 split
 ·exact ⟨h.1,Calls.mono' h.2 hr⟩
 ·exact ⟨h.1,RoundIn.mono h.2 hr⟩
 ·rename_i h1 h2
  split at h
  ·exact h1 _ _ _ rfl
  ·exact h2 _ _ _ _ _ _ rfl
  ·exact h
theorem OutC.mono {K K':AEnd→Heap→Prop} {Z:Snap} {μ:Mu} {h:Heap} {g:Nat} {w:World} {e:Ending} {w':World} (hk:∀e h,K e h→K' e h) (o:OutC K Z μ h g w e w'):OutC K' Z μ h g w e w':=by
 obtain ⟨Z',μ',g',ae,h',q,r⟩:=o
 exact ⟨Z',μ',g',ae,h',hk _ _ q,r⟩
theorem OutC.wk {K:AEnd→Heap→Prop} {Z:Snap} {μ:Mu} {h:Heap} {g:Nat} {w:World} {e:Ending} {w':World} (o:OutC (fun e=>Wk (K e)) Z μ h g w e w'):OutC K Z μ h g w e w':=by
 obtain ⟨Z',μ',g',ae,h',⟨h₀,hle,q⟩,r,s,t⟩:=o
 exact ⟨Z',μ',g',ae,h₀,q,r,s.weaken hle,t.weaken hle⟩
theorem ACalls.mono {P:Program} {f:FuncId} {args:List AVal} {h:Heap} {K K':AEnd→Heap→Prop} (a:ACalls P f args h K) (hk:∀e h,K e h→K' e h):ACalls P f args h K':=
 ⟨a.1,fun Z μ g w cargs S hl hv=>Calls.mono' (a.2 Z μ g w cargs S hl hv) fun _ _ o=>o.mono hk⟩
theorem ACalls.wk {P:Program} {f:FuncId} {args:List AVal} {h:Heap} {K:AEnd→Heap→Prop} (a:ACalls P f args h fun e=>Wk (K e)):ACalls P f args h K:=
 ⟨a.1,fun Z μ g w cargs S hl hv=>Calls.mono' (a.2 Z μ g w cargs S hl hv) fun _ _ o=>o.wk⟩
theorem AInvoke.mono {P:Program} {fv:AVal} {args:List AVal} {h:Heap} {K K':AEnd→Heap→Prop} (a:AInvoke P fv args h K) (hk:∀e h,K e h→K' e h):AInvoke P fv args h K':=
 fun Z μ g w v cargs S hv hl ha=>(a Z μ g w v cargs S hv hl ha).mono fun _ _ o=>o.mono hk
def glue (h h₀ h':Heap):Heap:=fun r=>
 match h₀ r,h r with
 | .dead,.dead=>h' r
 | .dead,o=>o
 | _,_=>h' r
theorem glue_out {h h₀ h':Heap} {r:Nat} (h0:h₀ r=.dead) (hr:h r≠.dead):glue h h₀ h' r=h r:=by
 unfold glue
 rw[h0]
 cases ho:h r<;>first|rfl|exact absurd ho hr
theorem glue_in {h h₀ h':Heap} {r:Nat} (h0:h₀ r≠.dead∨h r=.dead):glue h h₀ h' r=h' r:=by
 unfold glue
 rcases h0 with h0|h0
 ·cases ho:h₀ r<;>first|rfl|exact absurd ho h0
 ·rw[h0];cases h₀ r<;>rfl
theorem glue_cases (h h₀ h':Heap) (r:Nat) :(h₀ r=.dead∧h r≠.dead∧glue h h₀ h' r=h r)∨glue h h₀ h' r=h' r:=by
 by_cases h0:h₀ r=.dead
 ·by_cases hr:h r=.dead
  ·exact .inr (glue_in (.inr hr))
  ·exact .inl ⟨h0,hr,glue_out h0 hr⟩
 ·exact .inr (glue_in (.inl h0))
section
variable {Z Z':Snap} {μ μ':Mu} {h h₀ h':Heap} {g g':Nat} {w w':World}
theorem Sim.apart (S:Sim Z μ h g w) (hle:HLe h₀ h) {r s:Nat} (h0:h₀ r=.dead) (hs :(h r).stamp=some s):∀r' s',(h₀ r').stamp=some s'→(μ s').blk≠(μ s).blk:=by
 intro r' s' hs'
 obtain ⟨h1,h2⟩:=hle.stamp hs'
 refine S.inj r' r s' s h1 hs fun he=>?_
 subst he
 rw[h0] at hs';simp[AObj.stamp] at hs'
theorem Sim.glue (S:Sim Z μ h g w) (hle:HLe h₀ h) (S':Sim Z' μ' h' g' w') (T:Tr Z μ h₀ g w Z' μ' h' g' w'):Sim Z' μ' (glue h h₀ h') g' w':=by
 have out:∀{r s:Nat},h₀ r=.dead→(h r).stamp=some s→(μ' s).blk =(μ s).blk∧(μ s).blk<w.heap.size∧w'.heap[(μ s).blk]? = w.heap[(μ s).blk]?:=by
  intro r s h0 hs
  obtain ⟨h1,h2⟩:=S.lt hs
  exact ⟨by rw[T.ext.loc s h1],h2,T.frame _ h2 (S.apart hle h0 hs)⟩
 have far:∀{r s r' s':Nat},h₀ r=.dead→(h r).stamp=some s→(h' r').stamp=some s'→(μ' s').blk≠(μ' s).blk:=by
  intro r s r' s' h0 hs hs' he
  obtain ⟨h1,h2,_⟩:=out h0 hs
  obtain ⟨r₀,s₀,hr₀,hb⟩:=T.wr r' s' hs' (by rw[he,h1];exact h2)
  exact S.apart hle h0 hs r₀ s₀ hr₀ (by rw[hb,he,h1])
 refine ⟨fun r=>?_,fun r r' s s' hs hs' hne=>?_,S'.imm,fun r s hs=>?_⟩
 ·rcases glue_cases h h₀ h' r with ⟨h0,h1,h2⟩ | h2
  ·rw[h2]
   exact (S.rows r).mono T.ext fun s hs=>(out h0 hs).2.2
  ·rw[h2];exact S'.rows r
 ·rcases glue_cases h h₀ h' r with ⟨h0,h1,h2⟩ | h2<;>rcases glue_cases h h₀ h' r' with ⟨h0',h1',h2'⟩ | h2'<;>rw[h2] at hs<;>rw[h2'] at hs'
  ·rw[(out h0 hs).1,(out h0' hs').1];exact S.inj r r' s s' hs hs' hne
  ·exact (far h0 hs hs').symm
  ·exact far h0' hs' hs
  ·exact S'.inj r r' s s' hs hs' hne
 ·rcases glue_cases h h₀ h' r with ⟨h0,h1,h2⟩ | h2<;>rw[h2] at hs
  ·obtain ⟨h3,h4,_⟩:=out h0 hs
   cases hz:Z' (μ' s).blk with
   | none=>rfl
   | some c=>
     rw[h3] at hz
     rcases T.imm _ c hz h4 with hz'|⟨r',s',hs',hb⟩
     ·rw[S.sep r s hs] at hz';cases hz'
     ·exact absurd hb (S.apart hle h0 hs r' s' hs')
  ·exact S'.sep r s hs
theorem Tr.glue (S:Sim Z μ h g w) (hle:HLe h₀ h) (T:Tr Z μ h₀ g w Z' μ' h' g' w'):Tr Z μ h g w Z' μ' (glue h h₀ h') g' w':=by
 refine ⟨T.ext,T.size,fun b hb hn=>T.frame b hb fun r s hs=>hn r s (hle.stamp hs).1,fun r s hs hlt=>?_,fun b c hz hb=>?_,T.env⟩
 ·rcases glue_cases h h₀ h' r with ⟨h0,h1,h2⟩ | h2<;>rw[h2] at hs
  ·refine ⟨r,s,hs,?_⟩
   rw[T.ext.loc s (S.lt hs).1]
  ·obtain ⟨r₀,s₀,h3,h4⟩:=T.wr r s hs hlt
   exact ⟨r₀,s₀,(hle.stamp h3).1,h4⟩
 ·rcases T.imm b c hz hb with h1|⟨r,s,h1,h2⟩
  ·exact .inl h1
  ·exact .inr ⟨r,s,(hle.stamp h1).1,h2⟩
theorem OutC.glue {K:AEnd→Heap→Prop} {e:Ending} (S:Sim Z μ h g w) (hle:HLe h₀ h) (o:OutC K Z μ h₀ g w e w'):OutC (fun e hh=>∃h',K e h'∧hh=Cw.glue h h₀ h') Z μ h g w e w':=by
 obtain ⟨Z',μ',g',ae,h',q,r,s,t⟩:=o
 exact ⟨Z',μ',g',ae,_,⟨h',q,rfl⟩,r,S.glue hle s t,Tr.glue S hle t⟩
theorem OutC.pre_heap {K:AEnd→Heap→Prop} {e:Ending} {w₀:World} (hw:w.heap=w₀.heap) (he:SEnv w₀ w) (o:OutC K Z μ h g w e w'):OutC K Z μ h g w₀ e w':=by
 obtain ⟨Z',μ',g',ae,h',q,r,s,t⟩:=o
 exact ⟨Z',μ',g',ae,h',q,r,s,t.pre_heap hw he⟩
end
theorem ACalls.frame {P:Program} {f:FuncId} {args:List AVal} {h h₀:Heap} {K:AEnd→Heap→Prop} (hle:HLe h₀ h) (a:ACalls P f args h₀ K) :
 ACalls P f args h fun e hh=>∃h',K e h'∧hh=glue h h₀ h':=
 ⟨a.1,fun Z μ g w cargs S hl hv=>Calls.mono' (a.2 Z μ g w cargs (S.weaken hle) hl hv) fun _ _ o=>o.glue S hle⟩
theorem AInvoke.frame {P:Program} {fv:AVal} {args:List AVal} {h h₀:Heap} {K:AEnd→Heap→Prop} (hle:HLe h₀ h) (a:AInvoke P fv args h₀ K) :
 AInvoke P fv args h fun e hh=>∃h',K e h'∧hh=glue h h₀ h':=
 fun Z μ g w v cargs S hv hl ha=>(a Z μ g w v cargs (S.weaken hle) hv hl ha).mono fun _ _ o=>o.glue S hle
def nilH : Heap:=fun _=>.dead
theorem nilH_le (h:Heap):HLe nilH h:=fun _=>.inr rfl
@[simp] theorem nilH_at (r:Nat):nilH r=.dead:=(rfl)
theorem glue_nil (h h':Heap) (hd:∀r,h' r=.dead):glue h nilH h'=h:=by
 funext r
 rcases glue_cases h nilH h' r with ⟨_,_,h2⟩ | h2
 ·exact h2
 ·by_cases hr:h r=.dead
  ·rw[h2,hd,hr]
  ·exact glue_out rfl hr
theorem APure.of_nil {P:Program} {f:FuncId} {args:List AVal} {v:AVal} (a:ACalls P f args nilH fun e _=>e=.ret v):APure P f args v:=by
 intro h
 refine ACalls.wk ((ACalls.frame (nilH_le h) (ACalls.wk (K:=fun e h'=>e=.ret v∧h'=nilH) (a.mono fun e h' he=>⟨nilH,nilH_le h',he,rfl⟩))).mono ?_)
 rintro e hh ⟨h',⟨rfl,rfl⟩,rfl⟩
 rw[glue_nil h nilH fun _=>rfl]
 exact ⟨h,HLe.refl h,rfl,rfl⟩
theorem Calls.enters {P:Program} {f:FuncId} (he:Enters P f) (args:Array Value) (w:World) :(callFunc f args).run P w=.ok (.enter f args) w:=by
 obtain ⟨fn,c,h1,h2,h3⟩:=he
 have h2':fn.name≠ "runtime.NumGoroutine" :=by simpa using h2
 simp[callFunc,h1,h2',h3]
theorem AInvoke.func {P:Program} {f:FuncId} {first cap args:List AVal} {h:Heap} {K:AEnd→Heap→Prop} (a:ACalls P f (first++args++cap) h K) :
 AInvoke P (.func (.func f) first cap) args h K:=by
 intro Z μ g w v cargs S hv hl ha
 simp only[VRel] at hv
 obtain ⟨_,f',c',rfl,h1,h2,h3,h4⟩:=hv
 have hrun :(do let d ←Deferred.ofValue (.func (.func f) f' c') cargs;invoke d.target d.args:Sem Next).run P w=.ok (.enter f (f'++cargs++c')) w:=by
  simp only[Deferred.ofValue,Sem.run_bind,Sem.run_pure,Result.andThen_ok,invoke]
  exact Calls.enters a.1 _ w
 rw[hrun]
 refine ⟨rfl,a.2 Z μ g w _ S ?_ ?_⟩
 ·simp only[Array.size_append,List.length_append,h1,h2,hl]
 ·rw[Array.toList_append,Array.toList_append]
  refine VPre.append (VPre.append h3 (by simpa using h1) ha) ?_ h4
  simp only[List.length_append,Array.length_toList,h1,hl]
theorem PInv.func {P:Program} {f:FuncId} {first cap args:List AVal} {v:AVal} (a:APure P f (first++args++cap) v):PInv P (.func (.func f) first cap) args v:=
 fun h=>AInvoke.func (a h)
end Go.Cw
end
section
namespace Go.Cw
open Go
def xNextM (o:AObj) (h:Heap) (r s m s₁ n:Nat) (left:List Nat) (K:AVal→Heap→Prop):Prop:=
 match o with
 | .map es s₂=>((s₁=s₂∧es.length=n)∧(left=[]→K (.tup [.bool false]) h))∧
    ∀i k v,i∈left→es[i]? = some (k,v)→K (.tup [.bool true,k,v]) (upd h r (.iter (some (m,s₁)) n (left.erase i) (some i) s))
 | _=>False
def xNextR (o:AObj) (h:Heap) (r off s:Nat) (K:AVal→Heap→Prop):Prop:=
 match o with
 | .iter none _ _ _ s'=>(s=s'∧off=0)∧K (.tup [.bool false]) h
 | .iter (some (m,s₁)) n left _ s'=>(s=s'∧off=0)∧xNextM (h m) h r s m s₁ n left K
 | _=>False
def xNext (h:Heap) (v:AVal) (K:AVal→Heap→Prop):Prop:=
 match v with
 | .ptr r off s=>xNextR (h r) h r off s K
 | _=>False
def xEntM (o:AObj) (s₁ n i:Nat) (K:AVal→Prop):Prop:=
 match o with
 | .map es s₂=>(s₁=s₂∧es.length=n)∧∃kv,es[i]? = some kv∧K (.tup [kv.1,kv.2])
 | _=>False
def xEntR (o:AObj) (h:Heap) (off s:Nat) (K:AVal→Prop):Prop:=
 match o with
 | .iter (some (m,s₁)) n _ (some i) s'=>(s=s'∧off=0)∧xEntM (h m) s₁ n i K
 | _=>False
def xEntry (h:Heap) (v:AVal) (K:AVal→Prop):Prop:=
 match v with
 | .ptr r off s=>xEntR (h r) h off s K
 | _=>False
section
variable (h : Heap) (r off s m s₁ s' n i:Nat) (left:List Nat) (cur:Option Nat) (es:List (AVal×AVal)) (K:AVal→Heap→Prop) (K':AVal→Prop)
@[simp] theorem xNext_ptr : xNext h (.ptr r off s) K=xNextR (h r) h r off s K:=(rfl)
@[simp] theorem xNextR_some : xNextR (.iter (some (m,s₁)) n left cur s') h r off s K =((s=s'∧off=0)∧xNextM (h m) h r s m s₁ n left K):=(rfl)
@[simp] theorem xEntry_ptr : xEntry h (.ptr r off s) K'=xEntR (h r) h off s K':=(rfl)
@[simp] theorem xEntR_some : xEntR (.iter (some (m,s₁)) n left (some i) s') h off s K' =((s=s'∧off=0)∧xEntM (h m) s₁ n i K'):=(rfl)
@[simp] theorem xEntM_map (s₂:Nat):xEntM (.map es s₂) s₁ n i K' =((s₁=s₂∧es.length=n)∧∃kv,es[i]? = some kv∧K' (.tup [kv.1,kv.2])):=(rfl)
end
theorem xNextM_map {h:Heap} {r s m s₁ n:Nat} {left:List Nat} {es:List (AVal×AVal)} {K:AVal→Heap→Prop} (hn:es.length=n) (h0:left=[]→K (.tup [.bool false]) h)
 (h1:∀i k v,i∈left→es[i]? = some (k,v)→K (.tup [.bool true,k,v]) (upd h r (.iter (some (m,s₁)) n (left.erase i) (some i) s))):xNextM (.map es s₁) h r s m s₁ n left K:=⟨⟨⟨rfl,hn⟩,h0⟩,h1⟩
def xNx (io:IOp) (ρ:Opd→AVal) (h:Heap) (K:AVal→Heap→Prop):Prop:=
 match io with
 | .next x=>xNext h (ρ x) K
 | .entry x=>xEntry h (ρ x) fun v=>K v h
 | _=>False
def isNx : IOp→Bool
 | .next _ | .entry _=>true
 | _=>false
theorem xNext_mono {h:Heap} {v:AVal} {K K':AVal→Heap→Prop} (hs:xNext h v K) (hk:∀u h',K u h'→K' u h'):xNext h v K':=by
 unfold xNext at *
 split at hs
 ·unfold xNextR at *
  split at hs
  ·exact ⟨hs.1,hk _ _ hs.2⟩
  ·refine ⟨hs.1,?_⟩
   have hs:=hs.2
   unfold xNextM at *
   split at hs
   ·exact ⟨⟨hs.1.1,fun hl=>hk _ _ (hs.1.2 hl)⟩,fun i k v a b=>hk _ _ (hs.2 i k v a b)⟩
   ·exact hs.elim
  ·exact hs.elim
 ·exact hs.elim
theorem xEntry_mono {h:Heap} {v:AVal} {K K':AVal→Prop} (hs:xEntry h v K) (hk:∀u,K u→K' u):xEntry h v K':=by
 unfold xEntry at *
 split at hs
 ·unfold xEntR at *
  split at hs
  ·refine ⟨hs.1,?_⟩
   have hs:=hs.2
   unfold xEntM at *
   split at hs
   ·obtain ⟨a,kv,b,c⟩:=hs;exact ⟨a,kv,b,hk _ c⟩
   ·exact hs.elim
  ·exact hs.elim
 ·exact hs.elim
theorem xNx_mono {io:IOp} {ρ:Opd→AVal} {h:Heap} {K K':AVal→Heap→Prop} (hs:xNx io ρ h K) (hk:∀u h',K u h'→K' u h'):xNx io ρ h K':=by
 unfold xNx at *
 split at hs
 ·exact xNext_mono hs hk
 ·exact xEntry_mono hs fun u=>hk u h
 ·exact hs.elim
section
variable {P : Program} {Z:Snap} {μ:Mu} {h:Heap} {g n:Nat} {w:World} {tm:TM} {ca:Act}
theorem comp_next {op:Op} {x:Opd} (h:comp P op=some (.next x)):∃x₀,op=.next x₀ false∧cOpd x₀=some x:=by
 cases op
 case call c=>
  exfalso
  simp only[comp,cCall] at h
  cases hc:c.callee with
  | builtin b=>
    exfalso
    rw[hc] at h
    simp only[cBuiltin] at h
    repeat' split at h
    all_goals first
     | cases h;done
     | (simp only[Option.map_eq_some_iff,reduceCtorEq,and_false,exists_false] at h)
  | value f₀=>
    rw[hc] at h
    simp only[] at h
    split at h<;>cases h
  | invoke r nm=>
    rw[hc] at h
    simp only[] at h
    split at h<;>cases h
 case next x₀ b=>
  cases b with
  | true=>simp[comp] at h
  | false=>
    simp only[comp,Option.map_eq_some_iff,IOp.next.injEq] at h
    obtain ⟨a,h1,rfl⟩:=h
    exact ⟨x₀,rfl,h1⟩
 all_goals exfalso
 all_goals simp only[comp,cBuild,cBsl,cMksl,cSlice,cIxAddr,cIx,cBin] at h
 all_goals repeat' split at h
 all_goals first
  | cases h;done
  | (simp only[Option.map_eq_some_iff,Option.bind_eq_some_iff,reduceCtorEq,and_false,exists_false] at h;done)
  | (rename_i hh;cases hh;done)
  | (rename_i hh _ _ _ _;cases hh;done)
  | (rename_i hh _ _ _;cases hh;done)
  | (rename_i hh _ _;cases hh;done)
  | (rename_i hh _;cases hh;done)
  | (rename_i hh _ _ _ _ _;cases hh;done)
  | (simp only[Option.bind_eq_some_iff] at h;obtain ⟨s,_,h⟩:=h;first|(cases h;done)|(split at h<;>cases h))
theorem comp_entry {op:Op} {x:Opd} (h:comp P op=some (.entry x)):∃x₀,op=.entry x₀∧cOpd x₀=some x:=by
 cases op
 case call c=>
  exfalso
  simp only[comp,cCall] at h
  cases hc:c.callee with
  | builtin b=>
    exfalso
    rw[hc] at h
    simp only[cBuiltin] at h
    repeat' split at h
    all_goals first
     | cases h;done
     | (simp only[Option.map_eq_some_iff,reduceCtorEq,and_false,exists_false] at h)
  | value f₀=>
    rw[hc] at h
    simp only[] at h
    split at h<;>cases h
  | invoke r nm=>
    rw[hc] at h
    simp only[] at h
    split at h<;>cases h
 case entry x₀=>
  simp only[comp,Option.map_eq_some_iff,IOp.entry.injEq] at h
  obtain ⟨a,h1,rfl⟩:=h
  exact ⟨x₀,rfl,h1⟩
 all_goals exfalso
 all_goals simp only[comp,cBuild,cBsl,cMksl,cSlice,cIxAddr,cIx,cBin] at h
 all_goals repeat' split at h
 all_goals first
  | cases h;done
  | (simp only[Option.map_eq_some_iff,Option.bind_eq_some_iff,reduceCtorEq,and_false,exists_false] at h;done)
  | (rename_i hh;cases hh;done)
  | (rename_i hh _ _ _ _;cases hh;done)
  | (rename_i hh _ _ _;cases hh;done)
  | (rename_i hh _ _;cases hh;done)
  | (rename_i hh _;cases hh;done)
  | (rename_i hh _ _ _ _ _;cases hh;done)
  | (simp only[Option.bind_eq_some_iff] at h;obtain ⟨s,_,h⟩:=h;first|(cases h;done)|(split at h<;>cases h))
theorem Sim.entries (S:Sim Z μ h g w) {r s:Nat} {es:List (AVal×AVal)} (hr:h r=.map es s) :
 s≤g∧∃en:Array MapEntry,w.heap[(μ s).blk]? = some (.map en es.length)∧en.size=es.length∧
  ∀(i:Nat) (k v:AVal),es[i]? = some (k,v)→∃e,en[i]? = some e∧e.born=i∧VRel Z μ g k e.key∧VRel Z μ g v e.val:=by
 have:=S.rows r
 rw[hr] at this
 exact this
theorem entries_born {es:List (AVal×AVal)} {en:Array MapEntry} (hz:en.size=es.length) (he:∀(i:Nat) (k v:AVal),es[i]? = some (k,v)→∃e,en[i]? = some e∧e.born=i∧VRel Z μ g k e.key∧VRel Z μ g v e.val) :
 ∀i,(hi:i<en.size)→en[i].born=i∧∃k v,es[i]? = some (k,v)∧VRel Z μ g k en[i].key∧VRel Z μ g v en[i].val:=by
 intro i hi
 have hl:i<es.length:=by omega
 obtain ⟨e,h1,h2,h3,h4⟩:=he i es[i].1 es[i].2 (by rw[List.getElem?_eq_getElem hl])
 rw[Array.getElem?_eq_getElem hi] at h1
 obtain rfl:en[i]=e:=by simpa using h1
 exact ⟨h2,es[i].1,es[i].2,by rw[List.getElem?_eq_getElem hl],h3,h4⟩
theorem next_sound (S:Sim Z μ h g w) {x:AVal} {v:Value} (hv:VRel Z μ g x v) (ty:TypeId) {K:AVal→Heap→Prop} (hs:xNext h x K) :
 ∃u a h' w',(Instr.next v false ty).run P w=.ok u w'∧K a h'∧VRel Z μ g a u∧Sim Z μ h' g w'∧Tr Z μ h g w Z μ h' g w':=by
 unfold xNext at hs
 split at hs
 ·rename_i r off s
  simp only[VRel] at hv
  obtain ⟨hsg,rfl⟩:=hv
  have hrow:=S.rows r
  unfold xNextR at hs
  split at hs
  ·rename_i n₀ left cur s' he
   obtain ⟨⟨rfl,rfl⟩,hk⟩:=hs
   rw[he] at hrow
   simp only[ORel] at hrow
   refine ⟨.tuple #[.bool false],.tup [.bool false],h,w,?_,hk,by simp[VRel,VPre],S,Tr.refl⟩
   simp only[Instr.next,getObj,Sem.run_bind,Sem.run,hrow.2,Result.andThen]
   rfl
  ·rename_i m s₁ n₀ left cur s' he
   obtain ⟨⟨rfl,rfl⟩,hk⟩:=hs
   rw[he] at hrow
   simp only[ORel] at hrow
   obtain ⟨_,hs1,seen,h1,h2,h3,h4,h5⟩:=hrow
   unfold xNextM at hk
   split at hk
   ·rename_i es s₂ hm
    obtain ⟨⟨⟨rfl,rfl⟩,hk0⟩,hk1⟩:=hk
    obtain ⟨_,en,h6,h7,h8⟩:=S.entries hm
    have hb:=entries_born h7 h8
    have hold:∀x∈en.toList,x.born<es.length:=by
     intro x hx
     obtain ⟨i,hi,rfl⟩:=List.getElem_of_mem hx
     have hi':i<en.size:=by simpa using hi
     have:=(hb i hi').1
     simp only[Array.getElem_toList]
     omega
    rcases run_next_at (P:=P) w ty (μ s).blk (μ s₁).blk es.length es.length seen en es.length h1 h6 hold (Nat.le_refl _) with ⟨h0,hrun⟩ | ⟨e,he',w1,hw1,hrun⟩
    ·refine ⟨_,_,h,w,hrun,hk0 ?_,by simp[VRel,VPre],S,Tr.refl⟩
     cases left with
     | nil=>rfl
     | cons i l=>
       exfalso
       have hi:=h4 i List.mem_cons_self
       have hin:i<en.size:=by omega
       have:en[i]∈(leftOf en seen).toList:=by
        unfold leftOf
        simp only[Array.toList_filter,List.mem_filter]
        refine ⟨by simp,?_⟩
        rw[(hb i hin).1,h5 i hi]
        simp
       have :(leftOf en seen).toList.length=0:=by simpa using h0
       simp_all
    ·unfold leftOf at he'
     simp only[Array.toList_filter,List.mem_filter] at he'
     obtain ⟨hem,hes⟩:=he'
     obtain ⟨i,hi,rfl⟩:=List.getElem_of_mem hem
     have hi':i<en.size:=by simpa using hi
     simp only[Array.getElem_toList] at hes hrun ⊢
     obtain ⟨hbi,k,v,hkv,hrk,hrv⟩:=hb i hi'
     have hin:i<es.length:=by omega
     rw[hbi] at hes hrun
     have hil:i∈left:=by
      have:=h5 i hin
      rw[this] at hes
      simpa using hes
     have S1:Sim Z μ h g w1:=by
      rcases hw1 with rfl|rfl
      ·exact S
      ·exact S.of_heap rfl
     have T1:Tr Z μ h g w Z μ h g w1:=by
      rcases hw1 with rfl|rfl
      ·exact Tr.refl
      ·exact Tr.of_heap rfl ⟨rfl,rfl⟩
     have hb1:w1.heap[(μ s).blk]? = some (.mapIter (some (μ s₁).blk) es.length seen es.length):=by rcases hw1 with rfl|rfl<;>exact h1
     have hst :(h r).stamp=some s:=by rw[he];rfl
     obtain ⟨S2,T2⟩:=S1.write (ob:=.mapIter (some (μ s₁).blk) es.length (seen.push i) es.length) (o:=.iter (some (m,s₁)) es.length (left.erase i) (some i) s) hst rfl (by
      simp only[ORel]
      refine ⟨hsg,hs1,seen.push i,putO_at hb1,by simp,h3.erase i,fun j hj=>h4 j (List.mem_of_mem_erase hj),fun j hj=>?_⟩
      have hj5:=h5 j hj
      have e1 :(seen.push i).contains j =(seen.contains j || (j == i)):=by
       rw[Bool.eq_iff_iff];simp[Array.mem_push]
      have e2 :(left.erase i).contains j =(!(j == i) && left.contains j):=by
       rw[Bool.eq_iff_iff];simp[h3.mem_erase_iff]
      rw[e1,e2,hj5]
      cases left.contains j<;>cases (j == i)<;>rfl)
     refine ⟨_,_,_,_,hrun,hk1 i k v hil hkv,?_,S2,T1.trans T2⟩
     simp only[VRel]
     exact ⟨_,rfl,rfl,VPre_cons.2 ⟨by simp[VRel],VPre_cons.2 ⟨hrk,VPre_cons.2 ⟨hrv,VPre_nil _⟩⟩⟩⟩
   ·exact hk.elim
  ·exact hs.elim
 ·exact hs.elim
theorem entry_sound (S:Sim Z μ h g w) {x:AVal} {v:Value} (hv:VRel Z μ g x v) {K:AVal→Prop} (hs:xEntry h x K) :
 ∃u a,(Instr.entry v).run P w=.ok u w∧K a∧VRel Z μ g a u:=by
 unfold xEntry at hs
 split at hs
 ·rename_i r off s
  simp only[VRel] at hv
  obtain ⟨hsg,rfl⟩:=hv
  have hrow:=S.rows r
  unfold xEntR at hs
  split at hs
  ·rename_i m s₁ n₀ left i s' he
   obtain ⟨⟨rfl,rfl⟩,hk⟩:=hs
   rw[he] at hrow
   simp only[ORel] at hrow
   obtain ⟨_,hs1,seen,h1,h2,h3,h4,h5⟩:=hrow
   unfold xEntM at hk
   split at hk
   ·rename_i es s₂ hm
    obtain ⟨⟨rfl,rfl⟩,kv,hkv,hk⟩:=hk
    obtain ⟨_,en,h6,h7,h8⟩:=S.entries hm
    have hb:=entries_born h7 h8
    have hil:i<es.length:=(List.getElem?_eq_some_iff.1 hkv).1
    have hin:i<en.size:=by omega
    obtain ⟨hbi,k,v,hkv',hrk,hrv⟩:=hb i hin
    obtain rfl :(k,v)=kv:=Option.some.inj (hkv'.symm.trans hkv)
    have hf:en.find? (·.born == i)=some en[i]:=by
     rw[←Array.find?_toList,List.find?_eq_some_iff_getElem]
     refine ⟨by simp[hbi],i,by simpa using hin,by simp,fun j hj=>?_⟩
     have hj':j<en.size:=by omega
     have:=(hb j hj').1
     simp only[Array.getElem_toList,this]
     simp;omega
    refine ⟨_,_,?_,hk,by
     simp only[VRel]
     exact ⟨#[en[i].key,en[i].val],rfl,rfl,VPre_cons.2 ⟨hrk,VPre_cons.2 ⟨hrv,VPre_nil _⟩⟩⟩⟩
    simp only[Instr.entry,getObj,Sem.run_bind,Sem.run,h1,h6,Result.andThen,h2,bne_self_eq_false,Bool.false_eq_true,if_false,hf]
    rfl
   ·exact hk.elim
  ·exact hs.elim
 ·exact hs.elim
theorem xNx_sound {o:Oper} {io:IOp} (hop:comp P o.op=some io) (S:Sim Z μ h g w) (T:TRel Z μ g n tm ca.tmps) {K:AVal→Heap→Prop} (hs:xNx io (ev tm) h K) :
 ∃u a h' w',(execOp ca.eval o).run P w=.ok (.value u) w'∧K a h'∧VRel Z μ g a u∧Sim Z μ h' g w'∧Tr Z μ h g w Z μ h' g w':=by
 unfold xNx at hs
 split at hs
 ·obtain ⟨x₀,ho,hx⟩:=comp_next hop
  obtain ⟨u,a,h',w',h1,h2⟩:=next_sound (P:=P) S (opd_rel T hx) o.type hs
  exact ⟨u,a,h',w',by simp only[execOp,ho,Sem.run_bind,h1,Result.andThen_ok,Sem.run_pure],h2⟩
 ·obtain ⟨x₀,ho,hx⟩:=comp_entry hop
  obtain ⟨u,a,h1,h2,h3⟩:=entry_sound (P:=P) S (opd_rel T hx) hs
  exact ⟨u,a,h,w,by simp only[execOp,ho,Sem.run_bind,h1,Result.andThen_ok,Sem.run_pure],h2,h3,S,Tr.refl⟩
 ·exact hs.elim
end
def xRanR (o:AObj) (nm s:Nat) (h:Heap) (r s₁:Nat) (K:AVal→Heap→Prop):Prop:=
 match o with
 | .map es s'=>s₁=s'∧K (.ptr nm 0 (s+1)) (upd h nm (.iter (some (r,s₁)) es.length (List.range es.length) none (s+1)))
 | _=>False
def xRan (nm s:Nat) (h:Heap) (v:AVal) (K:AVal→Heap→Prop):Prop:=
 match v with
 | .nilm=>K (.ptr nm 0 (s+1)) (upd h nm (.iter none 0 [] none (s+1)))
 | .map r s₁=>xRanR (h r) nm s h r s₁ K
 | _=>False
section
variable (nm s:Nat) (h:Heap) (r s₁ s':Nat) (es:List (AVal×AVal)) (K:AVal→Heap→Prop)
@[simp] theorem xRan_map : xRan nm s h (.map r s₁) K=xRanR (h r) nm s h r s₁ K:=(rfl)
@[simp] theorem xRanR_map : xRanR (.map es s') nm s h r s₁ K =(s₁=s'∧K (.ptr nm 0 (s+1)) (upd h nm (.iter (some (r,s₁)) es.length (List.range es.length) none (s+1)))):=(rfl)
end
theorem xsat_range (nm s:Nat) (ρ:Opd→AVal) (h:Heap) (K:AVal→Heap→Prop) (x:Opd):xsat (.range x) nm ρ h s K=xRan nm s h (ρ x) K:=by
 show osat (ixe (.range x) nm ρ h s) _=_
 simp only[ixe]
 cases ρ x with
 | nilm=>rfl
 | map r s₁=>
   simp only[xRan_map]
   cases hr:h r with
   | map es s'=>
     simp only[xRanR_map]
     by_cases hss:s₁=s'
     ·rw[if_pos hss];simp[hss]
     ·rw[if_neg hss];simp[hss]
   | _=>rfl
 | _=>rfl
end Go.Cw
end
section
namespace Go.Cw
open Go
structure It where
 dst:Option Nat
 guard:Option (Nat×Bool)
 op:IOp
 pc:Bool
 raw:Bool
structure Stp where
 it:It
 fd:Bool
 fa:List It
 fl:List It
abbrev KT :=TM→DF→Heap→Prop
def putD (tm:TM) (d:Option Nat) (v:AVal):TM:=
 match d with
 | some d=>upd tm d v
 | none=>tm
@[simp] theorem putD_some (tm:TM) (d:Nat) (v:AVal):putD tm (some d) v=upd tm d v:=(rfl)
@[simp] theorem putD_none (tm:TM) (v:AVal):putD tm none v=tm:=(rfl)
def isMem : IOp→Bool
 | .box _ | .alloc _ | .bsl _ _ _ | .mksl _ _ _ _ | .mkmap | .allocB | .toBy _ | .store _ _ _ | .app _ _ _ _ | .copy _ _ _ | .mapU _ _ _ _ | .mapE _ _ _ _ | .entS _ _ _ | .range _=>true
 | _=>false
def FlIt (x:It) (tm:TM) (h:Heap):Prop:=
 match x.dst,x.guard with
 | some d,none=>isat x.op (ev tm) h fun v=>v=tm d
 | some d,some (t,b)=>tm t=.bool b→isat x.op (ev tm) h fun v=>v=tm d
 | none,_=>True
def FlOk (fl:List It) (tm:TM) (h:Heap):Prop:=
 match fl with
 | []=>True
 | x::r=>FlIt x tm h∧FlOk r tm h
@[simp] theorem FlOk_nil (tm:TM) (h:Heap):FlOk [] tm h=True:=(rfl)
@[simp] theorem FlOk_cons (x:It) (r:List It) (tm:TM) (h:Heap):FlOk (x::r) tm h =(FlIt x tm h∧FlOk r tm h):=(rfl)
def PutK (K:KT) (tm:TM) (df:DF) (h:Heap) (d:Option Nat) (v:AVal):Prop:=K (putD tm d v) df h
def PutX (fl:List It) (K:KT) (tm:TM) (df:DF) (d:Option Nat) (v:AVal) (h':Heap):Prop:=FlOk fl (putD tm d v) h'∧K (putD tm d v) df h'
@[simp] theorem PutK_app (K:KT) (tm:TM) (df:DF) (h:Heap) (d:Option Nat) (v:AVal):PutK K tm df h d v=K (putD tm d v) df h:=(rfl)
@[simp] theorem PutX_app (fl:List It) (K:KT) (tm:TM) (df:DF) (d:Option Nat) (v:AVal) (h':Heap):PutX fl K tm df d v h' =(FlOk fl (putD tm d v) h'∧K (putD tm d v) df h'):=(rfl)
def PCallK (P:Program) (fv:AVal) (args:List AVal) (K:AVal→Prop):Prop:=∃v,PInv P fv args v∧K v
theorem PCallK.intro {P:Program} {fv:AVal} {args:List AVal} {K:AVal→Prop} {v:AVal} (h:PInv P fv args v) (k:K v):PCallK P fv args K:=⟨v,h,k⟩
def nmOf (F:Nat) (d:Option Nat):Nat:=F+d.getD 0
@[simp] theorem nmOf_some (F d:Nat):nmOf F (some d)=F+d:=(rfl)
def FaOk (F:Nat) (fa:List It) (tm:TM) (h:Heap):Prop:=
 match fa with
 | []=>True
 | x::r=>(x.guard=none∧xsat x.op 0 (ev tm) nilH 0 (fun _ _=>True)∧h (nmOf F x.dst)=.dead)∧FaOk F r tm h
def FaDead (F:Nat) (fa:List It) (h:Heap):Prop:=
 match fa with
 | []=>True
 | x::r=>h (nmOf F x.dst)=.dead∧FaDead F r h
@[simp] theorem FaOk_nil (F:Nat) (tm:TM) (h₀:Heap):FaOk F [] tm h₀=True:=(rfl)
@[simp] theorem FaOk_cons (F:Nat) (x:It) (r:List It) (tm:TM) (h₀:Heap):FaOk F (x::r) tm h₀ =((x.guard=none∧xsat x.op 0 (ev tm) nilH 0 (fun _ _=>True)∧h₀ (nmOf F x.dst)=.dead)∧FaOk F r tm h₀):=(rfl)
@[simp] theorem FaDead_nil (F:Nat) (h:Heap):FaDead F [] h=True:=(rfl)
@[simp] theorem FaDead_cons (F:Nat) (x:It) (r:List It) (h:Heap):FaDead F (x::r) h =(h (nmOf F x.dst)=.dead∧FaDead F r h):=(rfl)
def CallK (F:Nat) (kp:List Nat) (fa fl:List It) (d:Option Nat) (K:KT) (Q:Post) (tm:TM) (df:DF) (h h₀:Heap):AEnd→Heap→Prop
 | .ret v,h'=>FlOk fl (putD tm d v) (glue h h₀ h')∧K (putD tm d v) df (glue h h₀ h')
 | .pan v,h'=>∃h₁,HLe h₁ (glue h h₀ h')∧FaDead F fa h₁∧Q (.panic v) (kpT kp tm) df h₁
def FCall (E:Env) (fv:AVal) (args:List AVal) (fa fl:List It) (d:Option Nat) (K:KT) (Q:Post) (tm:TM) (df:DF) (h:Heap):Prop:=
 ∃h₀,HLe h₀ h∧FaOk E.F fa tm h∧AInvoke E.P fv args h₀ (CallK E.F E.keep fa fl d K Q tm df h h₀)
def PanK (kp:List Nat) (Q:Post) (v:AVal) (tm:TM) (df:DF) (h:Heap):Prop:=
 match v with
 | .iface t a=>Q (.panic (.iface t a)) (kpT kp tm) df h
 | _=>False
@[simp] theorem PanK_iface (kp:List Nat) (Q:Post) (t:TypeId) (a:AVal) (tm:TM) (df:DF) (h:Heap):PanK kp Q (.iface t a) tm df h=Q (.panic (.iface t a)) (kpT kp tm) df h:=(rfl)
def DefK (inr:Bool) (fv:AVal) (args:List AVal) (K:KT) (tm:TM) (df:DF) (h:Heap):Prop:=
 match fv with
 | .func fn a b=>inr=false∧K tm ((.func fn a b,args)::df) h
 | _=>False
@[simp] theorem DefK_func (inr:Bool) (fn:Fn) (a b args:List AVal) (K:KT) (tm:TM) (df:DF) (h:Heap):DefK inr (.func fn a b) args K tm df h =(inr=false∧K tm ((.func fn a b,args)::df) h):=(rfl)
def AWx (E:Env) (Q:Post) (x:Stp) (K:KT) (tm:TM) (df:DF) (h:Heap):Prop:=
 match x.it.op with
 | .call f args=>
   if x.it.pc then PCallK E.P (ev tm f) (evs (ev tm) args) (PutK K tm df h x.it.dst) else FCall E (ev tm f) (evs (ev tm) args) x.fa x.fl x.it.dst K Q tm df h
 | .inv r nm args=>
   if x.it.pc then PCallK E.P (.func (.method nm) [ev tm r] []) (evs (ev tm) args) (PutK K tm df h x.it.dst)
   else FCall E (.func (.method nm) [ev tm r] []) (evs (ev tm) args) x.fa x.fl x.it.dst K Q tm df h
 | .panic a=>PanK E.keep Q (ev tm a) tm df h
 | .defer f args=>DefK E.inr (ev tm f) (evs (ev tm) args) K (putD tm x.it.dst undefA) df h
 | .next y=>xNx (.next y) (ev tm) h (PutX x.fl K tm df x.it.dst)
 | .entry y=>xNx (.entry y) (ev tm) h (PutX x.fl K tm df x.it.dst)
 | io=>
   if isMem io then (x.fd=true→h (nmOf E.F x.it.dst)=.dead)∧∀s,xsat io (nmOf E.F x.it.dst) (ev tm) h s (PutX x.fl K tm df x.it.dst)
   else if x.it.raw then osat (iev io (ev tm) h) (PutK K tm df h x.it.dst) else isat io (ev tm) h (PutK K tm df h x.it.dst)
def Gd (v:AVal) (b:Bool) (X Y:Prop):Prop:=
 match v with
 | .bool c=>(c=b→X)∧(c≠b→Y)
 | .tup []=>Y
 | _=>False
@[simp] theorem Gd_tt (X Y:Prop):Gd (.bool true) true X Y=X:=by simp[Gd]
@[simp] theorem Gd_ff (X Y:Prop):Gd (.bool false) false X Y=X:=by simp[Gd]
@[simp] theorem Gd_tf (X Y:Prop):Gd (.bool true) false X Y=Y:=by simp[Gd]
@[simp] theorem Gd_ft (X Y:Prop):Gd (.bool false) true X Y=Y:=by simp[Gd]
def AWit (E:Env) (Q:Post) (x:Stp) (K:KT) (tm:TM) (df:DF) (h:Heap):Prop:=
 match x.it.guard with
 | none=>AWx E Q x K tm df h
 | some (t,b)=>Gd (tm t) b (AWx E Q x K tm df h) (K (putD tm x.it.dst undefA) df h)
def AWops (E:Env) (Q:Post):List Stp→KT→KT
 | [],K=>K
 | x::r,K=>AWit E Q x (AWops E Q r K)
structure CompIt (P:Program) (n:Nat) (ops:Array Oper) (o:Oper) (x:It):Prop where
 op:comp P o.op=some x.op
 dst:x.dst=o.dst
 lt:∀d,o.dst=some d→d<n
 guard:match o.guard with
  | none=>x.guard=none
  | some (j,b)=>∃t,(ops[j]?).bind (·.dst)=some t∧t<n∧x.guard=some (t,b)
def OutK (n:Nat) (K:KT) (Z:Snap) (μ:Mu) (h:Heap) (g:Nat) (w:World) (ca:Act) (w':World):Prop:=
 ∃Z' μ' g' tm' df' h',K tm' df' h'∧Sim Z' μ' h' g' w'∧TRel Z' μ' g' n tm' ca.tmps∧DRel Z' μ' g' df' ca.defers∧Tr Z μ h g w Z' μ' h' g' w'
theorem DRel.mono {Z Z':Snap} {μ μ':Mu} {g g':Nat} (e:Ext Z μ g Z' μ' g'):∀{df:DF} {ds:List Deferred},DRel Z μ g df ds→DRel Z' μ' g' df ds
 | [],_,h=>by simpa[DRel] using h
 | (f,as)::r,ds,h=>by
   cases f with
   | yield x s=>
     simp only[DRel] at h ⊢
     obtain ⟨ds',h1,h2,h3⟩:=h
     exact ⟨ds',Nat.le_trans h1 e.cnt,by rw[e.loc s h1];exact h2,DRel.mono e h3⟩
   | _=>
     simp only[DRel] at h ⊢
     obtain ⟨fn,f',c',args,ds',h1,h2,h3,h4,h5⟩:=h
     exact ⟨fn,f',c',args,ds',VRel.mono e _ _ h1,h2,VPre.mono e _ _ h3,h4,DRel.mono e h5⟩
section
variable {E : Env} {Q:Post} {ops:Array Oper}
theorem put_rel {Z:Snap} {μ:Mu} {g n:Nat} {tm:TM} {ca:Act} {d d':Option Nat} {a:AVal} {v:Value} (hdd:d'=d) (T:TRel Z μ g n tm ca.tmps) (hd:∀t,d=some t→t<n) (hv:VRel Z μ g a v) :
 TRel Z μ g n (putD tm d' a) (ca.put d v).tmps:=by
 subst hdd
 cases d' with
 | none=>exact T
 | some t=>exact T.put t (hd t rfl) hv
theorem put_defers (ca:Act) (d:Option Nat) (v:Value) :(ca.put d v).defers=ca.defers:=by cases d<;>rfl
theorem undef_rel {Z:Snap} {μ:Mu} {g:Nat} : VRel Z μ g undefA undef:=by
 simp only[VRel]
 exact ⟨#[],rfl,rfl,VPre_nil _⟩
theorem comp_call {P:Program} {op:Op} {f:Opd} {args:List Opd} (h:comp P op=some (.call f args)) :
 ∃c f₀,op=.call c∧c.callee=.value f₀∧cOpd f₀=some f∧cOpds c.args.toList=some args:=by
 cases op
 case call c=>
  refine ⟨c,?_⟩
  simp only[comp,cCall] at h
  cases hc:c.callee with
  | builtin b=>
    exfalso
    rw[hc] at h
    simp only[cBuiltin] at h
    repeat' split at h
    all_goals first
     | cases h;done
     | (simp only[Option.map_eq_some_iff,reduceCtorEq,and_false,exists_false] at h)
  | value f₀=>
    rw[hc] at h
    simp only[] at h
    split at h
    ·rename_i h1 h2
     simp only[Option.some.injEq,IOp.call.injEq] at h
     obtain ⟨rfl,rfl⟩:=h
     exact ⟨f₀,rfl,rfl,h1,h2⟩
    ·cases h
  | invoke r nm=>
    rw[hc] at h
    simp only[] at h
    split at h<;>cases h
 all_goals exfalso
 all_goals simp only[comp,cBuild,cBsl,cMksl,cSlice,cIxAddr,cIx,cBin] at h
 all_goals repeat' split at h
 all_goals first
  | cases h;done
  | (simp only[Option.map_eq_some_iff,Option.bind_eq_some_iff,reduceCtorEq,and_false,exists_false] at h;done)
  | (rename_i hh;cases hh;done)
  | (rename_i hh _ _ _ _;cases hh;done)
  | (rename_i hh _ _ _;cases hh;done)
  | (rename_i hh _ _;cases hh;done)
  | (rename_i hh _;cases hh;done)
  | (rename_i hh _ _ _ _ _;cases hh;done)
  | (simp only[Option.bind_eq_some_iff] at h;obtain ⟨s,_,h⟩:=h;first|(cases h;done)|(split at h<;>cases h))
theorem comp_inv {P:Program} {op:Op} {r:Opd} {nm:String} {args:List Opd} (h:comp P op=some (.inv r nm args)) :
 ∃c r₀,op=.call c∧c.callee=.invoke r₀ nm∧cOpd r₀=some r∧cOpds c.args.toList=some args:=by
 cases op
 case call c=>
  refine ⟨c,?_⟩
  simp only[comp,cCall] at h
  cases hc:c.callee with
  | builtin b=>
    exfalso
    rw[hc] at h
    simp only[cBuiltin] at h
    repeat' split at h
    all_goals first
     | cases h;done
     | (simp only[Option.map_eq_some_iff,reduceCtorEq,and_false,exists_false] at h)
  | value f₀=>
    rw[hc] at h
    simp only[] at h
    split at h<;>cases h
  | invoke r₀ nm₀=>
    rw[hc] at h
    simp only[] at h
    split at h
    ·rename_i h1 h2
     simp only[Option.some.injEq,IOp.inv.injEq] at h
     obtain ⟨rfl,rfl,rfl⟩:=h
     exact ⟨r₀,rfl,rfl,h1,h2⟩
    ·cases h
 all_goals exfalso
 all_goals simp only[comp,cBuild,cBsl,cMksl,cSlice,cIxAddr,cIx,cBin] at h
 all_goals repeat' split at h
 all_goals first
  | cases h;done
  | (simp only[Option.map_eq_some_iff,Option.bind_eq_some_iff,reduceCtorEq,and_false,exists_false] at h;done)
  | (rename_i hh;cases hh;done)
  | (rename_i hh _ _ _ _;cases hh;done)
  | (rename_i hh _ _ _;cases hh;done)
  | (rename_i hh _ _;cases hh;done)
  | (rename_i hh _;cases hh;done)
  | (rename_i hh _ _ _ _ _;cases hh;done)
  | (simp only[Option.bind_eq_some_iff] at h;obtain ⟨s,_,h⟩:=h;first|(cases h;done)|(split at h<;>cases h))
theorem comp_panic {P:Program} {op:Op} {x:Opd} (h:comp P op=some (.panic x)):∃x₀,op=.panic x₀∧cOpd x₀=some x:=by
 cases op
 case call c=>
  exfalso
  simp only[comp,cCall] at h
  cases hc:c.callee with
  | builtin b=>
    exfalso
    rw[hc] at h
    simp only[cBuiltin] at h
    repeat' split at h
    all_goals first
     | cases h;done
     | (simp only[Option.map_eq_some_iff,reduceCtorEq,and_false,exists_false] at h)
  | value f₀=>
    rw[hc] at h
    simp only[] at h
    split at h<;>cases h
  | invoke r nm=>
    rw[hc] at h
    simp only[] at h
    split at h<;>cases h
 case panic x₀=>
  simp only[comp,Option.map_eq_some_iff,IOp.panic.injEq] at h
  obtain ⟨a,h1,rfl⟩:=h
  exact ⟨x₀,rfl,h1⟩
 all_goals exfalso
 all_goals simp only[comp,cBuild,cBsl,cMksl,cSlice,cIxAddr,cIx,cBin] at h
 all_goals repeat' split at h
 all_goals first
  | cases h;done
  | (simp only[Option.map_eq_some_iff,Option.bind_eq_some_iff,reduceCtorEq,and_false,exists_false] at h;done)
  | (rename_i hh;cases hh;done)
  | (rename_i hh _ _ _ _;cases hh;done)
  | (rename_i hh _ _ _;cases hh;done)
  | (rename_i hh _ _;cases hh;done)
  | (rename_i hh _;cases hh;done)
  | (rename_i hh _ _ _ _ _;cases hh;done)
  | (simp only[Option.bind_eq_some_iff] at h;obtain ⟨s,_,h⟩:=h;first|(cases h;done)|(split at h<;>cases h))
theorem comp_defer {P:Program} {op:Op} {f:Opd} {args:List Opd} (h:comp P op=some (.defer f args)) :
 ∃c f₀,op=.defer c∧c.callee=.value f₀∧cOpd f₀=some f∧cOpds c.args.toList=some args:=by
 cases op
 case call c=>
  exfalso
  simp only[comp,cCall] at h
  cases hc:c.callee with
  | builtin b=>
    exfalso
    rw[hc] at h
    simp only[cBuiltin] at h
    repeat' split at h
    all_goals first
     | cases h;done
     | (simp only[Option.map_eq_some_iff,reduceCtorEq,and_false,exists_false] at h)
  | value f₀=>
    rw[hc] at h
    simp only[] at h
    split at h<;>cases h
  | invoke r nm=>
    rw[hc] at h
    simp only[] at h
    split at h<;>cases h
 case defer c=>
  refine ⟨c,?_⟩
  simp only[comp] at h
  cases hc:c.callee with
  | builtin b=>rw[hc] at h;cases h
  | value f₀=>
    rw[hc] at h
    simp only[] at h
    split at h
    ·rename_i h1 h2
     simp only[Option.some.injEq,IOp.defer.injEq] at h
     obtain ⟨rfl,rfl⟩:=h
     exact ⟨f₀,rfl,rfl,h1,h2⟩
    ·cases h
  | invoke r nm=>rw[hc] at h;cases h
 all_goals exfalso
 all_goals simp only[comp,cBuild,cBsl,cMksl,cSlice,cIxAddr,cIx,cBin] at h
 all_goals repeat' split at h
 all_goals first
  | cases h;done
  | (simp only[Option.map_eq_some_iff,Option.bind_eq_some_iff,reduceCtorEq,and_false,exists_false] at h;done)
  | (rename_i hh;cases hh;done)
  | (rename_i hh _ _ _ _;cases hh;done)
  | (rename_i hh _ _ _;cases hh;done)
  | (rename_i hh _ _;cases hh;done)
  | (rename_i hh _;cases hh;done)
  | (rename_i hh _ _ _ _ _;cases hh;done)
  | (simp_all;done)
  | (simp only[Option.bind_eq_some_iff] at h;obtain ⟨s,_,h⟩:=h;first|(cases h;done)|(split at h<;>cases h))
end
end Go.Cw
end
section
namespace Go.Cw
open Go
theorem Sim.tmp_lt {Z:Snap} {μ:Mu} {g n:Nat} {tm:TM} {tmps:Array Value} (T:TRel Z μ g n tm tmps) {t:Nat} (ht:t<n):tmps[t]? = some (tmps.getD t undef):=by
 have:t<tmps.size:=by rw[T.1];exact ht
 simp[Array.getD,this]
section
variable {E : Env} {Q:Post} {ops:Array Oper}
theorem callsIn_Fw {ro:Option Nat} {P:Program} {f:FuncId} {args:Array Value} {w:World} {R:Ending→World→Prop} (h:Calls P f args w R):CallsIn (Fw ro) 0 P f args w R:=
 callsIn_wide.2 h
theorem roundIn_Fw {ro:Option Nat} {P:Program} {l:Nat} {f:FuncId} {tmps:Array Value} {assign body:Code} {w:World} {R:Ending→World→Prop}
 (h:RoundIn Fence.wide 0 P l f tmps assign body w R):RoundIn (Fw ro) 0 P l f tmps assign body w R:=h
theorem upon_goes {ro:Option Nat} {P:Program} {o:Oper} {ca:Act} {next:Act→World→Prop} {Qc:Exit→Act→World→Prop} {w:World} {R:Ending→World→Prop} {r:Result Next} (hg:Goes P w R r)
 (hret:∀v w',R (.returned v) w'→next (ca.put o.dst v) w') (hpan:∀ch w',R (.panicked ch) w'→Qc (.panic ch) ca w') (hout:∀w',¬R .outgrown w'):o.uponIn (Fw ro) 0 P ca next Qc r:=by
 unfold Goes at hg
 split at hg
 ·rw[Oper.uponIn_enter]
  refine ⟨fun h=>by simp[Fw] at h,CallsIn.mono (callsIn_Fw hg.2) fun e w' he=>?_⟩
  cases e with
  | returned v=>exact hret v w' he
  | panicked ch=>exact hpan ch w' he
  | outgrown=>exact absurd he (hout w')
 ·rw[Oper.uponIn_round]
  refine ⟨fun h=>by simp[Fw] at h,RoundIn.mono (roundIn_Fw hg.2) fun e w' he=>?_⟩
  cases e with
  | returned v=>exact hret v w' he
  | panicked ch=>exact hpan ch w' he
  | outgrown=>exact absurd he (hout w')
 ·exact hg.elim
theorem resolve_value {P:Program} {c:Call} {f₀:Operand} (hc:c.callee=.value f₀) (ρ:Operand→Value) (t:TypeId) (w:World) :
 (do let d ←resolve ρ c t;invoke d.target d.args:Sem Next).run P w =(do let d ←Deferred.ofValue (ρ f₀) (c.args.map ρ);invoke d.target d.args:Sem Next).run P w:=by
 simp only[resolve,hc]
theorem resolve_invoke {P:Program} {c:Call} {r₀:Operand} {nm:String} (hc:c.callee=.invoke r₀ nm) (ρ:Operand→Value) (t:TypeId) (w:World) :
 (do let d ←resolve ρ c t;invoke d.target d.args:Sem Next).run P w =
   (do let d ←Deferred.ofValue (.func (.method nm) #[ρ r₀] #[]) (c.args.map ρ);invoke d.target d.args:Sem Next).run P w:=by
 simp only[resolve,hc,Deferred.ofValue,Sem.run_bind,Sem.run_pure]
theorem call_sound {Z₀ Z:Snap} {μ₀ μ:Mu} {h₀ h:Heap} {g₀ g:Nat} {w₀ w:World} {tm:TM} {df:DF} {ca:Act} {K:KT} (T₀:Tr Z₀ μ₀ h₀ g₀ w₀ Z μ h g w) (S:Sim Z μ h g w) (T:TRel Z μ g E.n tm ca.tmps)
 (D:DRel Z μ g df ca.defers) {ro:Option Nat} {o:Oper} {x:It} {fv:AVal} {args:List AVal} {v:Value} {cargs:Array Value} (hdst:x.dst=o.dst) (hlt:∀d,o.dst=some d→d<E.n)
 (hfv:VRel Z μ g fv v) (hsz:cargs.size=args.length) (hargs:VPre Z μ g args cargs.toList) {r:Result Next} (hr :(do let d ←Deferred.ofValue v cargs;invoke d.target d.args:Sem Next).run E.P w=r)
 (hc :(x.pc=true∧PCallK E.P fv args (PutK K tm df h x.dst))∨∃fa fl,FCall E fv args fa fl x.dst K Q tm df h) :
 o.uponIn (Fw ro) 0 E.P ca (OutK E.n K Z₀ μ₀ h₀ g₀ w₀) (Out E.n Q Z₀ μ₀ h₀ g₀ w₀) r:=by
 subst hr
 rcases hc with ⟨_,v',hp,hk⟩ | ⟨fa,fl,hs,hle,_,hp⟩
 ·refine upon_goes (hp h Z μ g w v cargs S hfv hsz hargs) (fun u w' hR=>?_) (fun ch w' hR=>?_) (fun w' hR=>?_)
  ·obtain ⟨Z',μ',g',ae,h',⟨rfl,rfl⟩,⟨u',hv,hu⟩,S',T'⟩:=hR
   cases hu
   exact ⟨Z',μ',g',_,df,_,hk,S',put_rel hdst (T.mono T'.ext) hlt hv,by rw[put_defers];exact D.mono T'.ext,T₀.trans T'⟩
  ·obtain ⟨Z',μ',g',ae,h',⟨rfl,rfl⟩,⟨u',hv,hu⟩,S',T'⟩:=hR
   cases hu
  ·obtain ⟨Z',μ',g',ae,h',⟨rfl,rfl⟩,⟨u',hv,hu⟩,S',T'⟩:=hR
   cases hu
 ·refine upon_goes (hp.frame hle Z μ g w v cargs S hfv hsz hargs) (fun u w' hR=>?_) (fun ch w' hR=>?_) (fun w' hR=>?_)
  ·obtain ⟨Z',μ',g',ae,hh,⟨h',hk,rfl⟩,hu,S',T'⟩:=hR
   cases ae with
   | ret a=>
     obtain ⟨u',hv,hu⟩:=hu
     cases hu
     exact ⟨Z',μ',g',_,df,_,hk.2,S',put_rel hdst (T.mono T'.ext) hlt hv,by rw[put_defers];exact D.mono T'.ext,T₀.trans T'⟩
   | pan a=>obtain ⟨u',hv,hu⟩:=hu;cases hu
  ·obtain ⟨Z',μ',g',ae,hh,⟨h',hk,rfl⟩,hu,S',T'⟩:=hR
   cases ae with
   | ret a=>obtain ⟨u',hv,hu⟩:=hu;cases hu
   | pan a=>
     obtain ⟨u',hv,hu⟩:=hu
     obtain ⟨h₁,hle₁,_,hq⟩:=hk
     cases hu
     exact ⟨Z',μ',g',.panic a,_,df,h₁,hq,⟨_,hv,rfl⟩,S'.weaken hle₁,kpT_rel _ (T.mono T'.ext),D.mono T'.ext,T₀.trans (T'.weaken hle₁)⟩
  ·obtain ⟨Z',μ',g',ae,hh,⟨h',hk,rfl⟩,hu,S',T'⟩:=hR
   cases ae <;>(obtain ⟨u',hv,hu⟩:=hu;cases hu)
theorem args_rel {Z:Snap} {μ:Mu} {g n:Nat} {tm:TM} {ca:Act} (T:TRel Z μ g n tm ca.tmps) {as:Array Operand} {ys:List Opd} (h:cOpds as.toList=some ys) :
 (as.map ca.eval).size =(evs (ev tm) ys).length∧VPre Z μ g (evs (ev tm) ys) (as.map ca.eval).toList:=by
 obtain ⟨h1,h2⟩:=opds_rel T h
 refine ⟨?_,by rw[Array.toList_map];exact h2⟩
 rw[←h1];simp
theorem aWx_sound {Z₀ Z:Snap} {μ₀ μ:Mu} {h₀ h:Heap} {g₀ g:Nat} {w₀ w:World} {tm:TM} {df:DF} {ca:Act} {K:KT} (T₀:Tr Z₀ μ₀ h₀ g₀ w₀ Z μ h g w) (S:Sim Z μ h g w) (T:TRel Z μ g E.n tm ca.tmps)
 (D:DRel Z μ g df ca.defers) {ro:Option Nat} (hro:ro.isSome=E.inr) {o:Oper} {x:Stp} (hx:CompIt E.P E.n ops o x.it) (ha:AWx E Q x K tm df h) :
 o.uponIn (Fw ro) 0 E.P ca (OutK E.n K Z₀ μ₀ h₀ g₀ w₀) (Out E.n Q Z₀ μ₀ h₀ g₀ w₀) ((o.semAt ro ca.eval).run E.P w):=by
 have hop:=hx.op
 unfold AWx at ha
 split at ha
 ·rename_i f args hio
  rw[hio] at hop
  obtain ⟨c,f₀,ho,hc,hf,has⟩:=comp_call hop
  rw[Oper.semAt_eq _ _ _ (by rw[ho];simp)]
  obtain ⟨h1,h2⟩:=args_rel T has
  refine call_sound (x:=x.it) T₀ S T D hx.dst hx.lt (opd_rel T hf) h1 h2 (r:=_) (by simp only[execOp,ho];exact (resolve_value hc ca.eval o.type w).symm) ?_
  split at ha
  ·rename_i hpc;exact .inl ⟨hpc,ha⟩
  ·exact .inr ⟨_,_,ha⟩
 ·rename_i r nm args hio
  rw[hio] at hop
  obtain ⟨c,r₀,ho,hc,hf,has⟩:=comp_inv hop
  rw[Oper.semAt_eq _ _ _ (by rw[ho];simp)]
  obtain ⟨h1,h2⟩:=args_rel T has
  refine call_sound (x:=x.it) T₀ S T D hx.dst hx.lt (fv:=.func (.method nm) [ev tm r] []) (v:=.func (.method nm) #[ca.eval r₀] #[]) ?_ h1 h2 (r:=_) (by simp only[execOp,ho];exact (resolve_invoke hc ca.eval o.type w).symm) ?_
  ·simp only[VRel]
   exact ⟨rfl,_,_,rfl,rfl,rfl,VPre_cons.2 ⟨opd_rel T hf,VPre_nil _⟩,VPre_nil _⟩
  split at ha
  ·rename_i hpc;exact .inl ⟨hpc,ha⟩
  ·exact .inr ⟨_,_,ha⟩
 ·rename_i a hio
  rw[hio] at hop
  obtain ⟨x₀,ho,hf⟩:=comp_panic hop
  rw[Oper.semAt_eq _ _ _ (by rw[ho];simp)]
  unfold PanK at ha
  have hv:=opd_rel T hf
  split at ha
  ·rename_i t b heq
   rw[heq] at hv
   have hv':=hv
   simp only[VRel] at hv
   obtain ⟨v',hv1,hv2⟩:=hv
   rw[hv1] at hv'
   have hrun :(execOp ca.eval o).run E.P w=.halt (.panic (.iface t v')) w:=by
    simp[execOp,ho,hv1,Instr.panic,goPanic]
   rw[hrun,Oper.uponIn_panic]
   exact ⟨Z,μ,g,.panic (.iface t b),_,df,h,ha,⟨_,hv',rfl⟩,S,kpT_rel _ T,D,T₀⟩
  ·exact ha.elim
 ·rename_i f args hio
  rw[hio] at hop
  obtain ⟨c,f₀,ho,hc,hf,has⟩:=comp_defer hop
  obtain ⟨h1,h2⟩:=args_rel T has
  have hv:=opd_rel T hf
  unfold DefK at ha
  split at ha
  ·rename_i fn first cap hfv
   obtain ⟨hinr,hk⟩:=ha
   rw[hinr] at hro
   obtain rfl:ro=none:=by cases ro<;>simp_all
   rw[Oper.semAt_none]
   rw[hfv] at hv
   have hv':=hv
   simp only[VRel] at hv
   obtain ⟨hpl,f',c',hv1,hv2,hv3,hv4,hv5⟩:=hv
   have hrun :(execOp ca.eval o).run E.P w=.ok (.defer { target:=.fn fn c',args:=f'++c.args.map ca.eval }) w:=by
    simp only[execOp,ho,resolve,hc,hv1,Deferred.ofValue,Sem.run_bind,Sem.run_pure,Result.andThen_ok]
   rw[hrun,Oper.uponIn_defer]
   refine ⟨Z,μ,g,_,_,h,hk,S,put_rel (ca:={ ca with defers:=_::ca.defers }) hx.dst T hx.lt undef_rel,?_,T₀⟩
   rw[put_defers]
   rw[hv1] at hv'
   simp only[DRel]
   exact ⟨fn,f',c',c.args.map ca.eval,ca.defers,hv',h1,h2,rfl,D⟩
  ·exact ha.elim
 iterate 2
  ·rename_i y hio
   rw[hio] at hop
   have hnd:∀c,o.op≠.defer c:=by
    intro c hc
    rw[hc] at hop
    simp only[comp] at hop
    split at hop
    ·split at hop<;>cases hop
    ·cases hop
   rw[Oper.semAt_eq _ _ _ hnd]
   obtain ⟨u,a,h',w',hrun,hk,hv,S',T'⟩:=xNx_sound hop S T ha
   rw[hrun,Oper.uponIn_value]
   exact ⟨Z,μ,g,_,df,h',hk.2,S',put_rel hx.dst T hx.lt hv,by rw[put_defers];exact D,T₀.trans T'⟩
 ·rename_i io hn1 hn2 hn3 hn4 hn5 hn6
  have hnd:∀c,o.op≠.defer c:=by
   intro c hc
   rw[hc] at hop
   simp only[comp] at hop
   split at hop
   ·split at hop
    ·simp only[Option.some.injEq] at hop
     exact hn4 _ _ hop.symm
    ·cases hop
   ·cases hop
  rw[Oper.semAt_eq _ _ _ hnd]
  have value:∀{a:AVal},K (putD tm x.it.dst a) df h→(∃v,(execOp ca.eval o).run E.P w=.ok (.value v) w∧VRel Z μ g a v)→o.uponIn (Fw ro) 0 E.P ca (OutK E.n K Z₀ μ₀ h₀ g₀ w₀) (Out E.n Q Z₀ μ₀ h₀ g₀ w₀) ((execOp ca.eval o).run E.P w):=by
   rintro a hk ⟨v,hrun,hv⟩
   rw[hrun,Oper.uponIn_value]
   exact ⟨Z,μ,g,_,df,h,hk,S,put_rel hx.dst T hx.lt hv,by rw[put_defers];exact D,T₀⟩
  split at ha
  ·obtain ⟨r,h',s',h1,h2⟩:=xsat_sound (ha.2 g)
   obtain ⟨nx,u,w',hrun,hnx,Z',μ',hv,S',T'⟩:=ixe_sound hop S T h1
   rw[hrun]
   have hk:=h2.2
   have fin:OutK E.n K Z₀ μ₀ h₀ g₀ w₀ (ca.put o.dst u) w':=
    ⟨Z',μ',s',_,df,h',hk,S',put_rel hx.dst (T.mono T'.ext) hx.lt hv,by rw[put_defers];exact D.mono T'.ext,T₀.trans T'⟩
   cases nx<;>simp only[Next.gives] at hnx<;>first|(subst hnx;exact fin)|cases hnx
  ·split at ha
   ·obtain ⟨r,h1,h2⟩:=osat_iff.1 ha
    exact value h2 (iev_sound hop S T h1)
   ·obtain ⟨r,h1,h2⟩:=isat_sound ha
    exact value h2 (iev_sound hop S T h1)
theorem aWit_sound {Z₀ Z:Snap} {μ₀ μ:Mu} {h₀ h:Heap} {g₀ g:Nat} {w₀ w:World} {tm:TM} {df:DF} {ca:Act} {K:KT} (T₀:Tr Z₀ μ₀ h₀ g₀ w₀ Z μ h g w) (S:Sim Z μ h g w) (T:TRel Z μ g E.n tm ca.tmps)
 (D:DRel Z μ g df ca.defers) {ro:Option Nat} (hro:ro.isSome=E.inr) {i:Nat} {o:Oper} {x:Stp} (hi:ops[i]? = some o) (hx:CompIt E.P E.n ops o x.it) (ha:AWit E Q x K tm df h) :
 wpOpIn (Fw ro) 0 E.P ops (Out E.n Q Z₀ μ₀ h₀ g₀ w₀) i (OutK E.n K Z₀ μ₀ h₀ g₀ w₀) ca w:=by
 simp only[wpOpIn,hi]
 have yes:AWx E Q x K tm df h→o.wpIn (Fw ro) 0 E.P ca w (OutK E.n K Z₀ μ₀ h₀ g₀ w₀) (Out E.n Q Z₀ μ₀ h₀ g₀ w₀):=fun ha=>⟨fun _ _=>trivial,aWx_sound T₀ S T D hro hx ha⟩
 have no:K (putD tm x.it.dst undefA) df h→(∀f,o.about E.P w ca.eval=some f→(Fw ro).fn f)∧OutK E.n K Z₀ μ₀ h₀ g₀ w₀ (ca.put o.dst undef) w:=fun hk=>
  ⟨fun _ _=>trivial,Z,μ,g,_,df,h,hk,S,put_rel hx.dst T hx.lt undef_rel,by rw[put_defers];exact D,T₀⟩
 have hg:=hx.guard
 unfold AWit at ha
 cases hog:o.guard with
 | none=>
   rw[hog] at hg
   simp only[] at hg
   rw[hg] at ha
   rw[if_pos (by simp[Region.wanted,hog])]
   exact yes ha
 | some jb=>
   obtain ⟨j,b⟩:=jb
   rw[hog] at hg
   obtain ⟨t,h1,h2,h3⟩:=hg
   rw[h3] at ha
   simp only[] at ha
   have hv:=T.2 t
   have hy:yielded ops ca.tmps j=match ca.tmps.getD t undef with | .bool c=>some c|_=>none:=by
    simp only[yielded,h1,Option.bind_some,Sim.tmp_lt T h2]
    cases ca.tmps.getD t undef<;>rfl
   unfold Gd at ha
   split at ha
   ·rename_i c hc
    rw[hc] at hv
    simp only[VRel] at hv
    rw[hv] at hy
    have hw:Region.wanted o (yielded ops ca.tmps) =(c == b):=by simp[Region.wanted,hog,hy]
    rw[hw]
    by_cases hcb:c=b
    ·rw[if_pos (by simp[hcb])];exact yes (ha.1 hcb)
    ·rw[if_neg (by simp[hcb])];exact no (ha.2 hcb)
   ·rename_i hc
    rw[hc] at hv
    simp only[VRel] at hv
    obtain ⟨l,hl,_⟩:=hv
    rw[hl] at hy
    have hw:Region.wanted o (yielded ops ca.tmps)=false:=by simp[Region.wanted,hog,hy]
    rw[hw,if_neg (by simp)]
    exact no ha
   ·exact ha.elim
theorem aWops_sound {Z₀:Snap} {μ₀:Mu} {h₀:Heap} {g₀:Nat} {w₀:World} {ro:Option Nat} (hro:ro.isSome=E.inr) (its:Nat→Stp):∀(l:List Nat),(∀i∈l,∃o,ops[i]? = some o∧CompIt E.P E.n ops o (its i).it)→
 ∀{Z:Snap} {μ:Mu} {h:Heap} {g:Nat} {w:World} {tm:TM} {df:DF} {ca:Act},Tr Z₀ μ₀ h₀ g₀ w₀ Z μ h g w→Sim Z μ h g w→TRel Z μ g E.n tm ca.tmps→DRel Z μ g df ca.defers→
 AWops E Q (l.map its) (Q .normal) tm df h→wpOpsIn (Fw ro) 0 E.P ops (Out E.n Q Z₀ μ₀ h₀ g₀ w₀) l ca w
 | [],_,Z,μ,h,g,w,tm,df,ca,T₀,S,T,D,ha=>⟨Z,μ,g,.normal,tm,df,h,ha,rfl,S,T,D,T₀⟩
 | i::l,hl,Z,μ,h,g,w,tm,df,ca,T₀,S,T,D,ha=>by
   rw[wpOpsIn_cons]
   obtain ⟨o,hi,hx⟩:=hl i (List.mem_cons_self)
   refine wpOpIn_mono (K:=OutK E.n (AWops E Q (l.map its) (Q .normal)) Z₀ μ₀ h₀ g₀ w₀) ?_ (aWit_sound T₀ S T D hro hi hx ha)
   rintro ca' w' ⟨Z',μ',g',tm',df',h',hk,S',T',D',T₁⟩
   exact aWops_sound hro its l (fun j hj=>hl j (List.mem_cons_of_mem _ hj)) T₁ S' T' D' hk
theorem ok_region {id:Nat} {tm:TM} {df:DF} {h:Heap} (its:Nat→Stp) (hl:∀i,i<ops.size→∃o,ops[i]? = some o∧CompIt E.P E.n ops o (its i).it)
 (ha:AWops E Q ((List.range ops.size).map its) (Q .normal) tm df h):Ok E (.region id ops false) Q tm df h:=by
 intro ro hro Z μ g w ca S T D
 exact wpIn_region (aWops_sound hro its _ (fun i hi=>hl i (List.mem_range.1 hi)) Tr.refl S T D ha)
end
end Go.Cw
end
section
namespace Go.Cw
open Go
def SLe (n:Nat) (tm:TM) (df:DF) (h:Heap) (tm':TM) (df':DF) (h':Heap):Prop:=
 ∀Z μ g w (ca:Act),Sim Z μ h g w→TRel Z μ g n tm ca.tmps→DRel Z μ g df ca.defers→
  ∃Z' μ' g',Sim Z' μ' h' g' w∧TRel Z' μ' g' n tm' ca.tmps∧DRel Z' μ' g' df' ca.defers∧Tr Z μ h g w Z' μ' h' g' w
theorem SLe.refl (n:Nat) (tm:TM) (df:DF) (h:Heap):SLe n tm df h tm df h:=fun Z μ g _ _ S T D=>⟨Z,μ,g,S,T,D,Tr.refl⟩
theorem SLe.trans {n:Nat} {tm₁ tm₂ tm₃:TM} {df₁ df₂ df₃:DF} {h₁ h₂ h₃:Heap} (a:SLe n tm₁ df₁ h₁ tm₂ df₂ h₂) (b:SLe n tm₂ df₂ h₂ tm₃ df₃ h₃):SLe n tm₁ df₁ h₁ tm₃ df₃ h₃:=by
 intro Z μ g w ca S T D
 obtain ⟨Z',μ',g',S',T',D',t⟩:=a Z μ g w ca S T D
 obtain ⟨Z'',μ'',g'',S'',T'',D'',t'⟩:=b Z' μ' g' w ca S' T' D'
 exact ⟨Z'',μ'',g'',S'',T'',D'',t.trans t'⟩
def Sl (n:Nat) (K:KT) (tm:TM) (df:DF) (h:Heap):Prop:=∃tm' df' h',SLe n tm df h tm' df' h'∧K tm' df' h'
theorem Sl.refl {n:Nat} {K:KT} {tm:TM} {df:DF} {h:Heap} (k:K tm df h):Sl n K tm df h:=⟨tm,df,h,SLe.refl _ _ _ _,k⟩
theorem Sl.mono {n:Nat} {K K':KT} {tm:TM} {df:DF} {h:Heap} (hk:∀tm df h,K tm df h→K' tm df h) (k:Sl n K tm df h):Sl n K' tm df h:=
 let ⟨tm',df',h',a,b⟩:=k;⟨tm',df',h',a,hk _ _ _ b⟩
inductive IR where
 | skip
 | ops (l:Unit→List Stp)
 | seq (x y:IR)
 | cond (c:Opd) (x y:IR)
 | block (id:Nat) (x:IR)
 | loop (x:IR)
 | exit (id:Nat)
 | ret
 | cut (x:IR)
 | sem (c:Code)
 | nk (x:IR)
 | rangeF (g:Opd) (ps:List Nat) (x y:IR)
def Then (Y:KT) (Q:Post):Post
 | .normal,tm,df,h=>Y tm df h
 | .exit id,tm,df,h=>Q (.exit id) tm df h
 | .ret,tm,df,h=>Q .ret tm df h
 | .panic v,tm,df,h=>Q (.panic v) tm df h
section
variable (Y : KT) (Q:Post) (tm:TM) (df:DF) (h:Heap)
@[simp] theorem Then_normal : Then Y Q .normal tm df h=Y tm df h:=(rfl)
@[simp] theorem Then_exit (id:Nat):Then Y Q (.exit id) tm df h=Q (.exit id) tm df h:=(rfl)
@[simp] theorem Then_ret : Then Y Q .ret tm df h=Q .ret tm df h:=(rfl)
@[simp] theorem Then_panic (v:AVal):Then Y Q (.panic v) tm df h=Q (.panic v) tm df h:=(rfl)
end
def InB (id:Nat) (Q:Post):Post
 | .exit id',tm,df,h=>if id'=id then Q .normal tm df h else Q (.exit id') tm df h
 | .normal,tm,df,h=>Q .normal tm df h
 | .ret,tm,df,h=>Q .ret tm df h
 | .panic v,tm,df,h=>Q (.panic v) tm df h
section
variable (id : Nat) (Q:Post) (tm:TM) (df:DF) (h:Heap)
@[simp] theorem InB_normal : InB id Q .normal tm df h=Q .normal tm df h:=(rfl)
@[simp] theorem InB_exit (id':Nat):InB id Q (.exit id') tm df h=if id'=id then Q .normal tm df h else Q (.exit id') tm df h:=(rfl)
@[simp] theorem InB_ret : InB id Q .ret tm df h=Q .ret tm df h:=(rfl)
@[simp] theorem InB_panic (v:AVal):InB id Q (.panic v) tm df h=Q (.panic v) tm df h:=(rfl)
end
def LpN (n:Nat) (I:Nat→KT) (m:Nat) (Q:Post):Post
 | .normal,tm,df,h=>Sl n (fun tm df h=>∃m',m'<m∧I m' tm df h) tm df h
 | .exit id,tm,df,h=>Sl n (Q (.exit id)) tm df h
 | .ret,tm,df,h=>Sl n (Q .ret) tm df h
 | .panic v,tm,df,h=>Q (.panic v) tm df h
def Lp (n:Nat) (B:Post→KT) (Q:Post) (tm:TM) (df:DF) (h:Heap):Prop:=
 ∃I:Nat→KT,(∃m,Sl n (I m) tm df h)∧∀m tm df h,I m tm df h→B (LpN n I m Q) tm df h
def Br (v:AVal) (X Y:KT) (tm:TM) (df:DF) (h:Heap):Prop:=
 match v with
 | .bool b=>(b=true→X tm df h)∧(b=false→Y tm df h)
 | _=>False
@[simp] theorem Br_true (X Y:KT) (tm:TM) (df:DF) (h:Heap):Br (.bool true) X Y tm df h=X tm df h:=by simp[Br]
@[simp] theorem Br_false (X Y:KT) (tm:TM) (df:DF) (h:Heap):Br (.bool false) X Y tm df h=Y tm df h:=by simp[Br]
theorem Br.intro {b:Bool} {X Y:KT} {tm:TM} {df:DF} {h:Heap} (ht:b=true→X tm df h) (hf:b=false→Y tm df h):Br (.bool b) X Y tm df h:=⟨ht,hf⟩
inductive Jm where
 | go
 | ret
 | exit (id:Nat)
def putL : TM→List Nat→List AVal→TM
 | tm,t::ps,a::as=>putL (upd tm t a) ps as
 | tm,_,_=>tm
section
variable (tm : TM) (t:Nat) (ps:List Nat) (a:AVal) (as:List AVal)
@[simp] theorem putL_cons : putL tm (t::ps) (a::as)=putL (upd tm t a) ps as:=(rfl)
@[simp] theorem putL_nil : putL tm [] as=tm:=by cases as<;>rfl
@[simp] theorem putL_nil' : putL tm (t::ps) []=tm:=(rfl)
end
def RdA (B:Post→KT) (rl:Nat) (Lg Lb:AObj) (K:Post):Post
 | .normal,tm,df,h=>df=[]∧h rl=Lg∧B K tm [] (upd h rl Lb)
 | _,_,_,_=>False
def RdB (rl:Nat) (L:Jm→AObj) (Lb:AObj) (K:AEnd→Heap→Prop):Post
 | .normal,_,_,h=>h rl=Lb∧K (.ret (.bool true)) (upd h rl (L .go))
 | .ret,_,_,h=>h rl=Lb∧K (.ret (.bool false)) (upd h rl (L .ret))
 | .exit id,_,_,h=>h rl=Lb∧K (.ret (.bool false)) (upd h rl (L (.exit id)))
 | .panic _,_,_,_=>False
def RFJ (Q:Post) (tm:TM) (df:DF) (h:Heap):Jm→Prop
 | .go=>Q .normal tm df h
 | .ret=>Q .ret tm df h
 | .exit id=>Q (.exit id) tm df h
def RFK (keep:List Nat) (Q:Post) (tm:TM) (df:DF) (rl:Nat) (L:Jm→AObj):AEnd→Heap→Prop
 | .ret _,h=>∃j,h rl=L j∧RFJ Q tm df (upd h rl .dead) j
 | .pan v,h=>Wk (Q (.panic v) (kpT keep tm) df) h
def RF (E:Env) (gv:AVal) (ps:List Nat) (A B:Post→KT) (Q:Post) (tm:TM) (df:DF) (h:Heap):Prop:=
 E.inr=false∧∃f first cap,gv=.func (.func f) first cap∧∃rl rd,rl≠rd∧h rl=.dead∧h rd=.dead∧
  ∀(sl sd:Nat) (L:Jm→AObj) (Lb:AObj),
   (∀args h' K,args.length=ps.length→h' rl=L .go→A (RdA B rl (L .go) Lb (RdB rl L Lb K)) (putL tm ps args) [] h'→AInvoke E.P (.yield rl sl) args h' K)→
   ACalls E.P f (first++[.yield rl sl]++cap) (upd (upd h rd (.dfr false sd)) rl (L .go)) (RFK E.keep Q tm ((.yield rd sd,[])::df) rl L)
section
variable (B : Post→KT) (rl:Nat) (L:Jm→AObj) (Lg Lb:AObj) (K:AEnd→Heap→Prop) (Q:Post) (tm:TM) (df:DF) (h:Heap) (keep:List Nat)
@[simp] theorem RdA_normal : RdA B rl Lg Lb Q .normal tm df h =(df=[]∧h rl=Lg∧B Q tm [] (upd h rl Lb)):=(rfl)
@[simp] theorem RdB_normal : RdB rl L Lb K .normal tm df h =(h rl=Lb∧K (.ret (.bool true)) (upd h rl (L .go))):=(rfl)
@[simp] theorem RdB_ret : RdB rl L Lb K .ret tm df h =(h rl=Lb∧K (.ret (.bool false)) (upd h rl (L .ret))):=(rfl)
@[simp] theorem RdB_exit (id:Nat):RdB rl L Lb K (.exit id) tm df h =(h rl=Lb∧K (.ret (.bool false)) (upd h rl (L (.exit id)))):=(rfl)
@[simp] theorem RFJ_go : RFJ Q tm df h .go=Q .normal tm df h:=(rfl)
@[simp] theorem RFJ_ret : RFJ Q tm df h .ret=Q .ret tm df h:=(rfl)
@[simp] theorem RFJ_exit (id:Nat):RFJ Q tm df h (.exit id)=Q (.exit id) tm df h:=(rfl)
end
def AW (E:Env):IR→Post→KT
 | .skip,Q,tm,df,h=>Q .normal tm df h
 | .ops l,Q,tm,df,h=>AWops E Q (l ()) (Q .normal) tm df h
 | .seq x y,Q,tm,df,h=>AW E x (Then (AW E y Q) Q) tm df h
 | .cond c x y,Q,tm,df,h=>Br (ev tm c) (AW E x Q) (AW E y Q) tm df h
 | .block id x,Q,tm,df,h=>AW E x (InB id Q) tm df h
 | .loop x,Q,tm,df,h=>Lp E.n (AW E x) Q tm df h
 | .exit id,Q,tm,df,h=>Q (.exit id) tm df h
 | .ret,Q,tm,df,h=>Q .ret tm df h
 | .cut x,Q,tm,df,h=>Sl E.n (AW E x Q) tm df h
 | .sem c,Q,tm,df,h=>Ok E c Q tm df h
 | .nk x,Q,tm,df,h=>AW { E with keep:=[] } x Q tm df h
 | .rangeF g ps x y,Q,tm,df,h=>RF E (ev tm g) ps (AW { E with inr:=true } x) (AW { E with inr:=true } y) Q tm df h
section
variable (E : Env) (x y:IR) (Q:Post) (tm:TM) (df:DF) (h:Heap)
@[simp] theorem AW_skip : AW E .skip Q tm df h=Q .normal tm df h:=(rfl)
@[simp] theorem AW_ops (l:Unit→List Stp):AW E (.ops l) Q tm df h=AWops E Q (l ()) (Q .normal) tm df h:=(rfl)
@[simp] theorem AW_seq : AW E (.seq x y) Q tm df h=AW E x (Then (AW E y Q) Q) tm df h:=(rfl)
@[simp] theorem AW_cond (c:Opd):AW E (.cond c x y) Q tm df h=Br (ev tm c) (AW E x Q) (AW E y Q) tm df h:=(rfl)
@[simp] theorem AW_block (id:Nat):AW E (.block id x) Q tm df h=AW E x (InB id Q) tm df h:=(rfl)
@[simp] theorem AW_loop : AW E (.loop x) Q tm df h=Lp E.n (AW E x) Q tm df h:=(rfl)
@[simp] theorem AW_exit (id:Nat):AW E (.exit id) Q tm df h=Q (.exit id) tm df h:=(rfl)
@[simp] theorem AW_ret : AW E .ret Q tm df h=Q .ret tm df h:=(rfl)
@[simp] theorem AW_cut : AW E (.cut x) Q tm df h=Sl E.n (AW E x Q) tm df h:=(rfl)
@[simp] theorem AW_rangeF (g:Opd) (ps:List Nat):AW E (.rangeF g ps x y) Q tm df h=RF E (ev tm g) ps (AW { E with inr:=true } x) (AW { E with inr:=true } y) Q tm df h:=(rfl)
end
section
variable {E : Env} {Q:Post} {tm:TM} {df:DF} {h:Heap}
theorem Out.trans {n:Nat} {Q:Post} {Z Z₁:Snap} {μ μ₁:Mu} {h h₁:Heap} {g g₁:Nat} {w w₁:World} {e:Exit} {ca:Act} {w':World} (t:Tr Z μ h g w Z₁ μ₁ h₁ g₁ w₁) (o:Out n Q Z₁ μ₁ h₁ g₁ w₁ e ca w') :
 Out n Q Z μ h g w e ca w':=by
 obtain ⟨Z',μ',g',ae,tm',df',h',q,r,S,T,D,t'⟩:=o
 exact ⟨Z',μ',g',ae,tm',df',h',q,r,S,T,D,t.trans t'⟩
theorem Ok.mono {c:Code} {Q':Post} (hq:∀e tm df h,Q e tm df h→Q' e tm df h) (a:Ok E c Q tm df h):Ok E c Q' tm df h:=by
 intro ro hro Z μ g w ca S T D
 refine wpIn_mono (a ro hro Z μ g w ca S T D) ?_
 rintro e ca' w' ⟨Z',μ',g',ae,tm',df',h',q,r⟩
 exact ⟨Z',μ',g',ae,tm',df',h',hq _ _ _ _ q,r⟩
theorem Ok.weak {c:Code} {tm':TM} {df':DF} {h':Heap} (s:SLe E.n tm df h tm' df' h') (a:Ok E c Q tm' df' h'):Ok E c Q tm df h:=by
 intro ro hro Z μ g w ca S T D
 obtain ⟨Z',μ',g',S',T',D',t⟩:=s Z μ g w ca S T D
 exact wpIn_mono (a ro hro Z' μ' g' w ca S' T' D') fun e ca' w' o=>o.trans t
theorem Ok.sl {c:Code} (a:Sl E.n (Ok E c Q) tm df h):Ok E c Q tm df h:=let ⟨_,_,_,s,k⟩:=a;k.weak s
theorem Ok.skip (a:Q .normal tm df h):Ok E .skip Q tm df h:=fun _ _ Z μ g _ _ S T D=>wpIn_skip ⟨Z,μ,g,.normal,tm,df,h,a,rfl,S,T,D,Tr.refl⟩
theorem Ok.exit {id:Nat} (a:Q (.exit id) tm df h):Ok E (.exit id) Q tm df h:=fun _ _ Z μ g _ _ S T D=>wpIn_exit ⟨Z,μ,g,.exit id,tm,df,h,a,rfl,S,T,D,Tr.refl⟩
theorem Ok.ret (a:Q .ret tm df h):Ok E .ret Q tm df h:=fun _ _ Z μ g _ _ S T D=>wpIn_ret ⟨Z,μ,g,.ret,tm,df,h,a,rfl,S,T,D,Tr.refl⟩
theorem Ok.seq {x y:Code} (a:Ok E x (Then (Ok E y Q) Q) tm df h):Ok E (.seq x y) Q tm df h:=by
 intro ro hro Z μ g w ca S T D
 refine wpIn_seq (wpIn_mono (a ro hro Z μ g w ca S T D) ?_)
 rintro e ca' w' ⟨Z',μ',g',ae,tm',df',h',q,r,S',T',D',t⟩
 cases ae with
 | normal=>
   obtain rfl:e=.normal:=r
   exact wpIn_mono (q ro hro Z' μ' g' w' ca' S' T' D') fun e ca'' w'' o=>o.trans t
 | exit id=>obtain rfl:e=.exit id:=r;exact ⟨Z',μ',g',.exit id,tm',df',h',q,rfl,S',T',D',t⟩
 | ret=>obtain rfl:e=.ret:=r;exact ⟨Z',μ',g',.ret,tm',df',h',q,rfl,S',T',D',t⟩
 | panic v=>obtain ⟨u,hu,rfl⟩:=r;exact ⟨Z',μ',g',.panic v,tm',df',h',q,⟨u,hu,rfl⟩,S',T',D',t⟩
theorem Ok.cond {c:Operand} {c':Opd} {x y:Code} (hc:cOpd c=some c') (a:Br (ev tm c') (Ok E x Q) (Ok E y Q) tm df h):Ok E (.cond c x y) Q tm df h:=by
 intro ro hro Z μ g w ca S T D
 have hv:=opd_rel T hc
 unfold Br at a
 split at a
 ·rename_i b hb
  rw[hb] at hv
  simp only[VRel] at hv
  refine wpIn_cond_split hv (fun ht=>?_) (fun hf=>?_)
  ·exact a.1 ht ro hro Z μ g w ca S T D
  ·exact a.2 hf ro hro Z μ g w ca S T D
 ·exact a.elim
theorem Ok.block {id:Nat} {c:Code} (a:Ok E c (InB id Q) tm df h):Ok E (.block id c) Q tm df h:=by
 intro ro hro Z μ g w ca S T D
 refine wpIn_block (wpIn_mono (a ro hro Z μ g w ca S T D) ?_)
 rintro e ca' w' ⟨Z',μ',g',ae,tm',df',h',q,r,S',T',D',t⟩
 cases ae with
 | normal=>obtain rfl:e=.normal:=r;exact ⟨Z',μ',g',.normal,tm',df',h',q,rfl,S',T',D',t⟩
 | exit id'=>
   obtain rfl:e=.exit id':=r
   simp only[InB] at q
   simp only[Exit.inBlock]
   split at q
   ·rename_i hid;rw[if_pos hid];exact ⟨Z',μ',g',.normal,tm',df',h',q,rfl,S',T',D',t⟩
   ·rename_i hid;rw[if_neg hid];exact ⟨Z',μ',g',.exit id',tm',df',h',q,rfl,S',T',D',t⟩
 | ret=>obtain rfl:e=.ret:=r;exact ⟨Z',μ',g',.ret,tm',df',h',q,rfl,S',T',D',t⟩
 | panic v=>obtain ⟨u,hu,rfl⟩:=r;exact ⟨Z',μ',g',.panic v,tm',df',h',q,⟨u,hu,rfl⟩,S',T',D',t⟩
theorem least {p:Nat→Prop} (h:∃n,p n):∃n,p n∧∀m,p m→n≤m:=by
 obtain ⟨n,hn⟩:=h
 induction n using Nat.strongRecOn with
 | _ n ih=>
   by_cases hx:∃m,m<n∧p m
   ·obtain ⟨m,h1,h2⟩:=hx
    exact ih m h1 h2
   ·exact ⟨n,hn,fun m hm=>Nat.le_of_not_lt fun hlt=>hx ⟨m,hlt,hm⟩⟩
theorem Ok.loop {c:Code} (a:Lp E.n (Ok E c) Q tm df h):Ok E (.loop c) Q tm df h:=by
 intro ro hro Z μ g w ca S T D
 obtain ⟨I,⟨m,tm₁,df₁,h₁,s,hi⟩,round⟩:=a
 let J:Nat→Act→World→Prop:=fun m ca' w'=>∃Z' μ' g' tm' df' h',I m tm' df' h'∧Sim Z' μ' h' g' w'∧TRel Z' μ' g' E.n tm' ca'.tmps∧DRel Z' μ' g' df' ca'.defers∧Tr Z μ h g w Z' μ' h' g' w'
 have h₀:J m ca w:=by
  obtain ⟨Z',μ',g',S',T',D',t⟩:=s Z μ g w ca S T D
  exact ⟨Z',μ',g',tm₁,df₁,h₁,hi,S',T',D',t⟩
 classical
 let ms:Act→World→Nat:=fun ca' w'=>if hx:∃m,J m ca' w' then Classical.choose (least hx) else 0
 refine wpIn_loop (fun ca' w'=>∃m,J m ca' w') ms ⟨m,h₀⟩ ?_
 intro ca' w' hx
 have hms:ms ca' w'=Classical.choose (least hx):=dif_pos hx
 obtain ⟨Z',μ',g',tm',df',h',hi',S',T',D',t⟩:=(Classical.choose_spec (least hx)).1
 refine wpIn_mono (round _ tm' df' h' hi' ro hro Z' μ' g' w' ca' S' T' D') ?_
 rintro e ca'' w'' ⟨Z₂,μ₂,g₂,ae,tm₂,df₂,h₂,q,r,S₂,T₂,D₂,t₂⟩
 cases ae with
 | normal=>
   obtain rfl:e=.normal:=r
   obtain ⟨tm₃,df₃,h₃,s₃,m',hlt,hi₃⟩:=q
   obtain ⟨Z₃,μ₃,g₃,S₃,T₃,D₃,t₃⟩:=s₃ Z₂ μ₂ g₂ w'' ca'' S₂ T₂ D₂
   have hj:J m' ca'' w'':=⟨Z₃,μ₃,g₃,tm₃,df₃,h₃,hi₃,S₃,T₃,D₃,(t.trans t₂).trans t₃⟩
   refine ⟨⟨m',hj⟩,?_⟩
   have hms':ms ca'' w''=Classical.choose (least (⟨m',hj⟩ : ∃m,J m ca'' w'')):=dif_pos (⟨m',hj⟩ : ∃m,J m ca'' w'')
   rw[hms,hms']
   exact Nat.lt_of_le_of_lt ((Classical.choose_spec (least (⟨m',hj⟩ : ∃m,J m ca'' w''))).2 _ hj) hlt
 | exit id=>
   obtain rfl:e=.exit id:=r
   obtain ⟨tm₃,df₃,h₃,s₃,q₃⟩:=q
   obtain ⟨Z₃,μ₃,g₃,S₃,T₃,D₃,t₃⟩:=s₃ Z₂ μ₂ g₂ w'' ca'' S₂ T₂ D₂
   exact ⟨Z₃,μ₃,g₃,.exit id,tm₃,df₃,h₃,q₃,rfl,S₃,T₃,D₃,(t.trans t₂).trans t₃⟩
 | ret=>
   obtain rfl:e=.ret:=r
   obtain ⟨tm₃,df₃,h₃,s₃,q₃⟩:=q
   obtain ⟨Z₃,μ₃,g₃,S₃,T₃,D₃,t₃⟩:=s₃ Z₂ μ₂ g₂ w'' ca'' S₂ T₂ D₂
   exact ⟨Z₃,μ₃,g₃,.ret,tm₃,df₃,h₃,q₃,rfl,S₃,T₃,D₃,(t.trans t₂).trans t₃⟩
 | panic v=>obtain ⟨u,hu,rfl⟩:=r;exact ⟨Z₂,μ₂,g₂,.panic v,tm₂,df₂,h₂,q,⟨u,hu,rfl⟩,S₂,T₂,D₂,t.trans t₂⟩
theorem Ok.scope {c:Code} (a:Ok E c Q tm df h):Ok E (.scope c) Q tm df h:=by
 intro ro hro Z μ g w ca S T D b k cs hrb hb hr
 obtain ⟨e,a₁,w₁,hq,harr⟩:=a ro hro Z μ g w ca S T D b (.inScope c::k) cs hrb hb hr
 have st:∀(a:Act) (w:World),step E.P (lone (b.atR a (.code (.scope c)::k)) cs w)=.next (lone (b.atR a (.code c :: .inScope c::k)) cs w):=
  fun a w=>step_lone_go (by simp[stepG,stepG.exec,Frame.atR])
 have st':∀(a:Act) (w:World),step E.P (lone (b.atR a (.inScope c::k)) cs w)=.next (lone (b.atR a k) cs w):=
  fun a w=>step_lone_go (by simp[stepG,stepG.exec,Frame.atR])
 have h0:∀(a:Act) (w:World),(lone (b.atR a (.code (.scope c)::k)) cs w).fenced E.P (Fw ro):=fun a w=>fenced_calm hb hr rfl
 have ex:∀id,exitTo id (.inScope c::k)=exitTo id k:=fun id=>by simp[exitTo]
 obtain ⟨Z',μ',g',ae,tm',df',h',q,r,S',T',D',t⟩:=hq
 cases ae with
 | normal=>
   obtain rfl:e=.normal:=r
   exact ⟨.normal,a₁,w₁,⟨Z',μ',g',.normal,tm',df',h',q,rfl,S',T',D',t⟩,.head (h0 _ _) (st _ _) (StepsIn.trans harr (.one (fenced_calm (fr:=b.atR a₁ (.inScope c::k)) hb hr rfl) (st' _ _)))⟩
 | exit id=>
   obtain rfl:e=.exit id:=r
   refine ⟨.exit id,a₁,w₁,⟨Z',μ',g',.exit id,tm',df',h',q,rfl,S',T',D',t⟩,fun k' hk=>.head (h0 _ _) (st _ _) (harr.1 k' (by rw[ex];exact hk)),fun hr' hk=>?_⟩
   obtain ⟨k₁,h1,h2⟩:=harr.2 hr' (by rw[ex];exact hk)
   exact ⟨k₁,h1,.head (h0 _ _) (st _ _) h2⟩
 | ret=>obtain rfl:e=.ret:=r;exact ⟨_,a₁,w₁,⟨Z',μ',g',.ret,tm',df',h',q,rfl,S',T',D',t⟩,.of_steps (.one (h0 _ _) (st _ _)) harr⟩
 | panic v=>obtain ⟨u,hu,rfl⟩:=r;exact ⟨_,a₁,w₁,⟨Z',μ',g',.panic v,tm',df',h',q,⟨u,hu,rfl⟩,S',T',D',t⟩,.of_steps (.one (h0 _ _) (st _ _)) harr⟩
theorem Ok.label {l:Nat} (a:Q .normal tm df h):Ok E (.label l) Q tm df h:=fun _ _ Z μ g _ _ S T D=>wpIn_label ⟨Z,μ,g,.normal,tm,df,h,a,rfl,S,T,D,Tr.refl⟩
end
def Fit (E:Env) (c:Code) (x:IR):Prop:=∀Q tm df h,AW E x Q tm df h→Ok E c Q tm df h
section
variable {E : Env}
theorem Fit.skip : Fit E .skip .skip:=fun _ _ _ _ a=>Ok.skip a
theorem Fit.exit (id:Nat):Fit E (.exit id) (.exit id):=fun _ _ _ _ a=>Ok.exit a
theorem Fit.ret : Fit E .ret .ret:=fun _ _ _ _ a=>Ok.ret a
theorem Fit.label (l:Nat):Fit E (.label l) .skip:=fun _ _ _ _ a=>Ok.label a
theorem Fit.scope {c:Code} {x:IR} (a:Fit E c x):Fit E (.scope c) x:=fun _ _ _ _ k=>Ok.scope (a _ _ _ _ k)
theorem Fit.sem (c:Code):Fit E c (.sem c):=fun _ _ _ _ a=>a
theorem Fit.nk {c:Code} {x:IR} (a:Fit { E with keep:=[] } c x):Fit E c (.nk x):=fun Q tm df h k=>a Q tm df h k
theorem Fit.cut {c:Code} {x:IR} (a:Fit E c x):Fit E c (.cut x):=by
 rintro Q tm df h ⟨tm',df',h',s,k⟩
 exact (a _ _ _ _ k).weak s
theorem Fit.seq {c d:Code} {x y:IR} (a:Fit E c x) (b:Fit E d y):Fit E (.seq c d) (.seq x y):=by
 intro Q tm df h k
 refine Ok.seq (Ok.mono ?_ (a _ _ _ _ k))
 intro e tm' df' h' q
 cases e with
 | normal=>exact b _ _ _ _ q
 | _=>exact q
theorem Fit.cond {c:Operand} {c':Opd} {d e:Code} {x y:IR} (hc:cOpd c=some c') (a:Fit E d x) (b:Fit E e y):Fit E (.cond c d e) (.cond c' x y):=by
 intro Q tm df h k
 refine Ok.cond hc ?_
 simp only[AW,Br] at k
 unfold Br
 split at k
 ·exact ⟨fun ht=>a _ _ _ _ (k.1 ht),fun hf=>b _ _ _ _ (k.2 hf)⟩
 ·exact k.elim
theorem Fit.block {id:Nat} {c:Code} {x:IR} (a:Fit E c x):Fit E (.block id c) (.block id x):=fun _ _ _ _ k=>Ok.block (a _ _ _ _ k)
theorem Fit.loop {c:Code} {x:IR} (a:Fit E c x):Fit E (.loop c) (.loop x):=by
 rintro Q tm df h ⟨I,hi,round⟩
 exact Ok.loop ⟨I,hi,fun m tm df h k=>a _ _ _ _ (round m tm df h k)⟩
end
end Go.Cw
end
