/-
  What the functions of layer 14 compute: what it wrote it reads again.
-/
import Derived.Test.YtemceffbimfblaaGreatDoorPa
import Derived.Test.YtemceffbimfblaaGreatDoorAf
import Derived.Test.YtemceffbimfblaaGreatDoorLa
set_option linter.unusedSectionVars false
set_option linter.unusedSimpArgs false
set_option linter.unusedVariables false
set_option maxRecDepth 100000
section
namespace Go.Cw
open Go Go.Proofs
def bkRen : Go.Shelf.Ren where
 f:=fun
  | 129=>239
  | 145=>97
  | 166=>163
  | 169=>165
  | 171=>164
  | 217=>215
  | 219=>198
  | 220=>168
  | 224=>217
  | 225=>216
  | 240=>196
  | 243=>197
  | 246=>214
  | 266=>234
  | 267=>218
  | 276=>213
  | 283=>230
  | 284=>231
  | 285=>232
  | 286=>233
  | 314=>235
  | 317=>238
  | 318=>240
  | 319=>241
  | 320=>242
  | 337=>245
  | 338=>246
  | n=>n
 t:=fun
  | 0=>0
  | 2=>2
  | 3=>3
  | 4=>4
  | 5=>5
  | 9=>9
  | 20=>20
  | 37=>87
  | 46=>120
  | 51=>351
  | 53=>353
  | 59=>201
  | 70=>281
  | 72=>283
  | 75=>285
  | 80=>289
  | 127=>343
  | 146=>405
  | 164=>382
  | 171=>401
  | 173=>403
  | 212=>412
  | 213=>413
  | 232=>416
  | 233=>417
  | n=>n
 g:=fun
  | 1=>1
  | 17=>2
  | 18=>3
  | 19=>4
  | n=>n
theorem bkL145 : Lays.n145 Pg bkRen where
 mixed:=by kernel_rfl
 f145:=Eq.trans Tryz.func97 (congrArg some (by kernel_rfl))
 f217:=Eq.trans Tryz.func215 (congrArg some (by kernel_rfl))
 f219:=Eq.trans Tryz.func198 (congrArg some (by kernel_rfl))
 f220:=Eq.trans Tryz.func168 (congrArg some (by kernel_rfl))
 f224:=Eq.trans Tryz.func217 (congrArg some (by kernel_rfl))
 f225:=Eq.trans Tryz.func216 (congrArg some (by kernel_rfl))
 f266:=Eq.trans Tryz.func234 (congrArg some (by kernel_rfl))
 f267:=Eq.trans Tryz.func218 (congrArg some (by kernel_rfl))
 f314:=Eq.trans Tryz.func235 (congrArg some (by kernel_rfl))
 t3:=Tryz.underlying3
 a3:=Tryz.isAgg3
 z3:=Tryz.sizeOf3
 v3:=Tryz.zeroValue3
 t4:=Tryz.underlying4
 a4:=Tryz.isAgg4
 z4:=Tryz.sizeOf4
 v4:=Tryz.zeroValue4
 t5:=Tryz.underlying5
 a5:=Tryz.isAgg5
 z5:=Tryz.sizeOf5
 v5:=Tryz.zeroValue5
 t9:=Tryz.underlying9
 a9:=Tryz.isAgg9
 z9:=Tryz.sizeOf9
 v9:=Tryz.zeroValue9
 t46:=Tryz.underlying120
 a46:=Tryz.isAgg120
 z46:=Tryz.sizeOf120
 v46:=Tryz.zeroValue120
 t51:=Tryz.underlying351
 a51:=Tryz.isAgg351
 z51:=Tryz.sizeOf351
 v51:=Tryz.zeroValue351
 t59:=Tryz.underlying201
 a59:=Tryz.isAgg201
 z59:=Tryz.sizeOf201
 v59:=Tryz.zeroValue201
 t146:=Tryz.underlying405
 a146:=Tryz.isAgg405
 z146:=Tryz.sizeOf405
 v146:=Tryz.zeroValue405
 g1:=by kernel_rfl
theorem bkL169 : Lays.n169 Pg bkRen where
 mixed:=by kernel_rfl
 f169:=Eq.trans Tryz.func165 (congrArg some (by kernel_rfl))
 t0:=Tryz.underlying0
 a0:=Tryz.isAgg0
 z0:=Tryz.sizeOf0
 v0:=Tryz.zeroValue0
 t3:=Tryz.underlying3
 a3:=Tryz.isAgg3
 z3:=Tryz.sizeOf3
 v3:=Tryz.zeroValue3
 t9:=Tryz.underlying9
 a9:=Tryz.isAgg9
 z9:=Tryz.sizeOf9
 v9:=Tryz.zeroValue9
 t37:=Tryz.underlying87
 a37:=Tryz.isAgg87
 z37:=Tryz.sizeOf87
 v37:=Tryz.zeroValue87
 t70:=Tryz.underlying281
 a70:=Tryz.isAgg281
 z70:=Tryz.sizeOf281
 v70:=Tryz.zeroValue281
 t72:=Tryz.underlying283
 a72:=Tryz.isAgg283
 z72:=Tryz.sizeOf283
 v72:=Tryz.zeroValue283
 t127:=Tryz.underlying343
 a127:=Tryz.isAgg343
 z127:=Tryz.sizeOf343
 v127:=Tryz.zeroValue343
theorem bkL171 : LaysM.n171 Pg bkRen where
 mixed:=by kernel_rfl
 f129:=Eq.trans Tryz.func239 (congrArg some (by kernel_rfl))
 f171:=Eq.trans Tryz.func164 (congrArg some (by kernel_rfl))
 f243:=Eq.trans Tryz.func197 (congrArg some (by kernel_rfl))
 f246:=Eq.trans Tryz.func214 (congrArg some (by kernel_rfl))
 f283:=Eq.trans Tryz.func230 (congrArg some (by kernel_rfl))
 f284:=Eq.trans Tryz.func231 (congrArg some (by kernel_rfl))
 f285:=Eq.trans Tryz.func232 (congrArg some (by kernel_rfl))
 f286:=Eq.trans Tryz.func233 (congrArg some (by kernel_rfl))
 f317:=Eq.trans Tryz.func238 (congrArg some (by kernel_rfl))
 f318:=Eq.trans Tryz.func240 (congrArg some (by kernel_rfl))
 f319:=Eq.trans Tryz.func241 (congrArg some (by kernel_rfl))
 f320:=Eq.trans Tryz.func242 (congrArg some (by kernel_rfl))
 f337:=Eq.trans Tryz.func245 (congrArg some (by kernel_rfl))
 f338:=Eq.trans Tryz.func246 (congrArg some (by kernel_rfl))
 t0:=Tryz.underlying0
 a0:=Tryz.isAgg0
 z0:=Tryz.sizeOf0
 v0:=Tryz.zeroValue0
 t2:=Tryz.underlying2
 a2:=Tryz.isAgg2
 z2:=Tryz.sizeOf2
 v2:=Tryz.zeroValue2
 t3:=Tryz.underlying3
 a3:=Tryz.isAgg3
 z3:=Tryz.sizeOf3
 v3:=Tryz.zeroValue3
 t4:=Tryz.underlying4
 a4:=Tryz.isAgg4
 z4:=Tryz.sizeOf4
 v4:=Tryz.zeroValue4
 t5:=Tryz.underlying5
 a5:=Tryz.isAgg5
 z5:=Tryz.sizeOf5
 v5:=Tryz.zeroValue5
 t9:=Tryz.underlying9
 a9:=Tryz.isAgg9
 z9:=Tryz.sizeOf9
 v9:=Tryz.zeroValue9
 t20:=Tryz.underlying20
 a20:=Tryz.isAgg20
 z20:=Tryz.sizeOf20
 v20:=Tryz.zeroValue20
 t37:=Tryz.underlying87
 a37:=Tryz.isAgg87
 z37:=Tryz.sizeOf87
 v37:=Tryz.zeroValue87
 t46:=Tryz.underlying120
 a46:=Tryz.isAgg120
 z46:=Tryz.sizeOf120
 v46:=Tryz.zeroValue120
 t51:=Tryz.underlying351
 a51:=Tryz.isAgg351
 z51:=Tryz.sizeOf351
 v51:=Tryz.zeroValue351
 t53:=Tryz.underlying353
 a53:=Tryz.isAgg353
 z53:=Tryz.sizeOf353
 v53:=Tryz.zeroValue353
 t171:=Tryz.underlying401
 a171:=Tryz.isAgg401
 z171:=Tryz.sizeOf401
 v171:=Tryz.zeroValue401
 t173:=Tryz.underlying403
 a173:=Tryz.isAgg403
 z173:=Tryz.sizeOf403
 v173:=Tryz.zeroValue403
 t212:=Tryz.underlying412
 a212:=Tryz.isAgg412
 z212:=Tryz.sizeOf412
 v212:=Tryz.zeroValue412
 t213:=Tryz.underlying413
 a213:=Tryz.isAgg413
 z213:=Tryz.sizeOf413
 t232:=Tryz.underlying416
 a232:=Tryz.isAgg416
 z232:=Tryz.sizeOf416
 v232:=Tryz.zeroValue416
 t233:=Tryz.underlying417
 a233:=Tryz.isAgg417
 z233:=Tryz.sizeOf417
 v233:=Tryz.zeroValue417
 g17:=by kernel_rfl
 g18:=by kernel_rfl
 g19:=by kernel_rfl
 i0:=by kernel_rfl
 i2:=by kernel_rfl
 i3:=by kernel_rfl
 i4:=by kernel_rfl
 i5:=by kernel_rfl
 i9:=by kernel_rfl
 i20:=by kernel_rfl
 i37:=by kernel_rfl
 i46:=by kernel_rfl
 i51:=by kernel_rfl
 i53:=by kernel_rfl
 i171:=by kernel_rfl
 i173:=by kernel_rfl
 i212:=by kernel_rfl
 i232:=by kernel_rfl
 i233:=by kernel_rfl
 m17:=by kernel_rfl
 m18:=by kernel_rfl
 m19:=by kernel_rfl
theorem bkL166 : Lays.n166 Pg bkRen where
 mixed:=by kernel_rfl
 f166:=Eq.trans Tryz.func163 (congrArg some (by kernel_rfl))
 f240:=Eq.trans Tryz.func196 (congrArg some (by kernel_rfl))
 f276:=Eq.trans Tryz.func213 (congrArg some (by kernel_rfl))
 t0:=Tryz.underlying0
 a0:=Tryz.isAgg0
 z0:=Tryz.sizeOf0
 v0:=Tryz.zeroValue0
 t3:=Tryz.underlying3
 a3:=Tryz.isAgg3
 z3:=Tryz.sizeOf3
 v3:=Tryz.zeroValue3
 t4:=Tryz.underlying4
 a4:=Tryz.isAgg4
 z4:=Tryz.sizeOf4
 v4:=Tryz.zeroValue4
 t9:=Tryz.underlying9
 a9:=Tryz.isAgg9
 z9:=Tryz.sizeOf9
 v9:=Tryz.zeroValue9
 t20:=Tryz.underlying20
 a20:=Tryz.isAgg20
 z20:=Tryz.sizeOf20
 v20:=Tryz.zeroValue20
 t37:=Tryz.underlying87
 a37:=Tryz.isAgg87
 z37:=Tryz.sizeOf87
 v37:=Tryz.zeroValue87
 t70:=Tryz.underlying281
 a70:=Tryz.isAgg281
 z70:=Tryz.sizeOf281
 v70:=Tryz.zeroValue281
 t72:=Tryz.underlying283
 a72:=Tryz.isAgg283
 z72:=Tryz.sizeOf283
 v72:=Tryz.zeroValue283
 t75:=Tryz.underlying285
 a75:=Tryz.isAgg285
 z75:=Tryz.sizeOf285
 v75:=Tryz.zeroValue285
 t164:=Tryz.underlying382
 a164:=Tryz.isAgg382
 z164:=Tryz.sizeOf382
 v164:=Tryz.zeroValue382
theorem bkX : Builder.Extra Pg bkRen where
 sizeBuilder:=by kernel_rfl
 liesBuilder:=by kernel_rfl
 t5:=Tryz.underlying5
 a5:=Tryz.isAgg5
 z5:=Tryz.sizeOf5
 v5:=Tryz.zeroValue5
 infoByte:=by kernel_rfl
 cellsByte:=by kernel_rfl
 sizeByte:=by kernel_rfl
 neB5:=by decide
theorem entCut : Enters Pg fn_strings_Cut:=⟨_,_,Tryz.func97,rfl,rfl⟩
theorem entItoa : Enters Pg fn_strconv_Itoa:=⟨_,_,Tryz.func164,rfl,rfl⟩
theorem entWrite : Enters Pg fn_strings_Builder_WriteString:=⟨_,_,Tryz.func163,rfl,rfl⟩
theorem entString : Enters Pg fn_strings_Builder_String:=⟨_,_,Tryz.func165,rfl,rfl⟩
theorem strconv_Itoa_ok {n:Int} (h0 : -9223372036854775808≤n) (h1:n≤9223372036854775807):APure Pg fn_strconv_Itoa [.int .i64 n] (.str (Lib.itoa n)):=
 APure.itoa bkL171 entItoa (gp:=2) (by kernel_rfl) (List.mem_cons_of_mem _ (List.mem_singleton.2 (by kernel_rfl))) h0 h1
theorem strings_Cut_ok {s sep:List UInt8} (hs:s.length<4294967281):APure Pg fn_strings_Cut [.str s,.str sep] (.tup [.str (Lib.cut s sep).1,.str (Lib.cut s sep).2.1,.bool (Lib.cut s sep).2.2]):=
 APure.cut bkL145 entCut (by decide) hs
theorem writeString_ok {r r' s:Nat} {o:Option Nat} {bs t:List UInt8} (hne:r≠r') (hok:BdOk o bs) (hlen:bs.length+t.length≤140737488355328)
 {K:AEnd→Heap→Prop} (k:∀o',BdOk o' (bs++t)→K (.ret (.tup [.int .i64 t.length,.nili])) (hpV (bdH r r' o' (bs++t) s))):ACalls Pg fn_strings_Builder_WriteString [.ptr r 0 s,.str t] (hpV (bdH r r' o bs s)) K:=
 ACalls.writeString bkL166 bkX entWrite rfl rfl hne hok hlen k
theorem builderString_ok {r r' s:Nat} {o:Option Nat} {bs:List UInt8} (hne:r≠r') (hok:BdOk o bs) {K:AEnd→Heap→Prop} (k:K (.ret (.str bs)) nilH):ACalls Pg fn_strings_Builder_String [.ptr r 0 s] (hpV (bdH r r' o bs s)) K:=
 ACalls.builderString bkL169 bkX entString rfl rfl hne hok k
end Go.Cw
end
section
namespace Go.Cw
open Go Go.Proofs
inductive Prt where
 | s (l:List UInt8)
 | i (n:Int)
 | sp (lo hi:Int)
 | h (n:Nat)
namespace Prt
def v : Prt→AVal
 | .s l=>.iface 9 (.str l)
 | .i n=>.iface 3 (.int .i64 n)
 | .sp lo hi=>.iface 52 (.agg [.int .i64 lo,.int .i64 hi])
 | .h n=>.iface 205 (.int .i64 n)
def hrs (n:Nat):Nat→List UInt8
 | 0=>[]
 | k+1=>hrs n k++if n / 2^k % 2=1 then 32::Lib.itoa k else []
def t : Prt→List UInt8
 | .s l=>l
 | .i n=>Lib.itoa n
 | .sp lo hi=>Lib.itoa lo++if lo=hi then [] else 46::46::Lib.itoa hi
 | .h n=>hrs n 12
def simple : Prt→Bool
 | .s _=>true
 | .i _=>true
 | _=>false
def Ok : Prt→Prop
 | .s _=>True
 | .i n=>-1000000≤n∧n≤1000000
 | .sp lo hi=>(-1000000≤lo∧lo≤1000000)∧-1000000≤hi∧hi≤1000000
 | .h n=>n<4096
end Prt
def prtsT (l:List Prt):List UInt8:=l.flatMap Prt.t
def prtsV (l:List Prt):AVal:=.vl l.length (l.map Prt.v)
theorem FCall.wr {F n₀:Nat} {inr:Bool} {keep:List Nat} {d:Option Nat} {K:KT} {Q:Post} {tm:TM} {df:DF} {hp:Heap} {s:Nat} {o:Option Nat} {bs t:List UInt8} (hw:Hw (bdH 3 900 o bs s) hp) (hok:BdOk o bs) (hlen:bs.length+t.length≤100000)
 (k:∀o',BdOk o' (bs++t)→K (putD tm d (.tup [.int .i64 t.length,.nili])) df (updL hp (bdH 3 900 o' (bs++t) s))) :
 FCall ⟨Pg,F,n₀,inr,keep⟩ (.func (.func fn_strings_Builder_WriteString) [] []) [.ptr 3 0 s,.str t] [] [] d K Q tm df hp:=by
 refine FCall.cps (bdH 3 900 o bs s) (fun _ : {o':Option Nat // BdOk o' (bs++t)}=>.tup [.int .i64 t.length,.nili]) (fun o'=>bdH 3 900 o'.1 (bs++t) s) (fun _=>True) (fun K' hK'=>AInvoke.func ?_) hw (fun _=>rfl) trivial (fun o' _=>⟨trivial,k o'.1 o'.2⟩)
 exact writeString_ok (by omega) hok (by omega) fun o' ho=>hK' ⟨o',ho⟩ trivial
theorem and_one (a:Nat) (ha:a<4096):bitI .and .i64 a 1 =(a % 2:Nat):=by
 have h0:∀n,n<1024→bitI .and .i64 (n:Nat) 1 =(n % 2:Nat):=by decide +kernel
 have h1:∀n,n<1024→bitI .and .i64 (1024+n:Nat) 1 =((1024+n) % 2:Nat):=by decide +kernel
 have h2:∀n,n<1024→bitI .and .i64 (2048+n:Nat) 1 =((2048+n) % 2:Nat):=by decide +kernel
 have h3:∀n,n<1024→bitI .and .i64 (3072+n:Nat) 1 =((3072+n) % 2:Nat):=by decide +kernel
 rcases (show a<1024∨(1024≤a∧a<2048)∨(2048≤a∧a<3072)∨3072≤a by omega) with h|h|h|h
 ·exact h0 a h
 ·have:=h1 (a - 1024) (by omega);rwa [show 1024+(a - 1024)=a by omega] at this
 ·have:=h2 (a - 2048) (by omega);rwa [show 2048+(a - 2048)=a by omega] at this
 ·have:=h3 (a - 3072) (by omega);rwa [show 3072+(a - 3072)=a by omega] at this
theorem itoa_len {n:Int} (h : -1000000≤n∧n≤1000000) :(Lib.itoa n).length≤20:=by
 have hd:∀(k u:Nat),u<10^k→1≤k→(Lib.decDigits u).length≤k:=by
  intro k
  induction k with
  | zero=>intro u _ h;omega
  | succ k ih=>
    intro u hu _
    rw[Lib.decDigits]
    split
    ·simp
    ·have:u / 10<10^k:=by rw[Nat.pow_succ] at hu;omega
     have hk:1≤k:=by
      rcases Nat.eq_zero_or_pos k with h0|h0
      ·subst h0;simp at this;omega
      ·exact h0
     have:=ih (u / 10) this hk
     simp;omega
 unfold Lib.itoa
 split
 ·have:=hd 19 n.natAbs (by omega) (by omega);simp;omega
 ·have:=hd 19 n.toNat (by omega) (by omega);omega
namespace Prt
theorem hrs_end {n j:Nat} (h:n / 2^j=0):∀m,hrs n (j+m)=hrs n j
 | 0=>rfl
 | m+1=>by
   have:n / 2^(j+m)=0:=by rw[Nat.pow_add,←Nat.div_div_eq_div_mul,h];simp
   show hrs n (j+m)++(if n / 2^(j+m) % 2=1 then _ else [])=_
   rw[this,hrs_end h m];simp
theorem hrs_len (n:Nat):∀j,j≤12→(hrs n j).length≤21*j
 | 0,_=>by simp[hrs]
 | j+1,hh=>by
   have:=hrs_len n j (by omega)
   have:=itoa_len (n:=(j:Int)) (by omega)
   simp only[hrs,List.length_append]
   split<;>simp<;>omega
end Prt
theorem prtsT_append (l m:List Prt):prtsT (l++m)=prtsT l++prtsT m:=by simp[prtsT]
theorem prtsT_take {l:List Prt} {k:Nat} (h:k<l.length):prtsT (l.take (k+1))=prtsT (l.take k)++(l[k]).t:=by
 rw[←List.take_append_getElem h,prtsT_append]
 simp[prtsT]
theorem prtsT_take_le (l:List Prt) (k:Nat) :(prtsT (l.take k)).length≤(prtsT l).length:=by
 conv=>rhs;rw[←List.take_append_drop k l,prtsT_append]
 simp
theorem book_said_gen (l:List Prt) (hl:l.length≤100) (hok:∀x∈l,x.Ok) (hlen :(prtsT l).length≤1000)
 (rec1:∀x∈l,x.simple=false→∀a:List Prt,a.length≤2→(∀y∈a,y.simple=true∧y.Ok)→(prtsT a).length≤100→APure Pg fn_book_said [prtsV a] (.str (prtsT a))):APure Pg fn_book_said [prtsV l] (.str (prtsT l)):=by
 refine book_said.e.p (by simp) ?_
 simp[prtsV]
 intro s3
 refine Lp.intro (σ:=Nat×{o:Option Nat×List UInt8 // BdOk o.1 o.2}) (inv:=fun k=>k.1≤l.length∧k.2.1.2=prtsT (l.take k.1)) (vw:=fun k=>[(3,.ptr 3 0 (s3+1)),(11,prtsV l),(12,.int .i64 l.length),(13,.int .i64 k.1)])
  (hp:=fun k=>bdH 3 900 k.2.1.1 k.2.1.2 (s3+1)) (ms:=fun k=>l.length - k.1) (0,⟨(none,[]),by simp[BdOk]⟩) ⟨Nat.zero_le _,rfl⟩ (by simp[prtsV]) (by simp[bdH]) ?_
 rintro ⟨k,⟨⟨o,bs⟩,hb⟩⟩ ⟨hk,hbs⟩ J hJ
 simp only at hk hbs hb
 by_cases hkl:k<l.length
 ·have hnx:∀{tm:TM} {h:Heap} (o':Option Nat) (bs':List UInt8),BdOk o' bs'→bs'=bs++(l[k]).t→Vw [(3,.ptr 3 0 (s3+1)),(11,prtsV l),(12,.int .i64 l.length),(13,.int .i64 (k+1:Nat))] tm→Hw (bdH 3 900 o' bs' (s3+1)) h→J .normal tm [] h:=fun {tm h} o' bs' hb' he hv hh=>
   hJ.next (k+1,⟨(o',bs'),hb'⟩) ⟨hkl,by rw[prtsT_take hkl,←hbs];exact he⟩ (by simp;omega) hv hh
  have htl:=prtsT_take_le l (k+1)
  rw[prtsT_take hkl,←hbs,List.length_append] at htl
  obtain ⟨x,hx⟩ : ∃x,x=l[k]:=⟨_,rfl⟩
  have hxm:x∈l:=by rw[hx];simp
  have hxo:=hok x hxm
  have hrec:=rec1 x hxm
  rw[←hx] at htl hnx
  cases x with
  | s t=>
    simp[prtsV,hkl,←hx,Prt.v]
    refine FCall.wr (o:=o) (bs:=bs) (by simp[bdH]) hb (by simp only[Prt.t] at htl;omega) fun o' ho'=>?_
    simp
    (repeat first|refine And.intro (by omega) ?_|refine And.intro (Fits.of (by omega) (by omega)) ?_)
    exact hnx o' _ ho' rfl (by simp[prtsV]) (by simp[bdH])
  | i n=>
    have hn : -1000000≤n∧n≤1000000:=hxo
    simp[prtsV,hkl,←hx,Prt.v]
    refine PCallK.intro (PInv.func (strconv_Itoa_ok (n:=n) (by omega) (by omega))) ?_
    simp
    refine FCall.wr (o:=o) (bs:=bs) (by simp[bdH]) hb (by simp only[Prt.t] at htl;omega) fun o' ho'=>?_
    simp
    (repeat first|refine And.intro (by omega) ?_|refine And.intro (Fits.of (by omega) (by omega)) ?_)
    exact hnx o' _ ho' rfl (by simp[prtsV]) (by simp[bdH])
  | sp lo hi=>
    obtain ⟨hlo,hhi⟩ :(-1000000≤lo∧lo≤1000000)∧-1000000≤hi∧hi≤1000000:=hxo
    have hl1:=itoa_len hlo
    have hl2:=itoa_len hhi
    have r1:=hrec rfl [.i lo] (by simp) (by simp[Prt.simple,Prt.Ok,hlo]) (by simp[prtsT,Prt.t];omega)
    have r2:=hrec rfl [.s [46,46],.i hi] (by simp) (by simp[Prt.simple,Prt.Ok,hhi]) (by simp[prtsT,Prt.t];omega)
    simp only[prtsV,prtsT,Prt.v,Prt.t,List.length_cons,List.length_nil,List.map_cons,List.map_nil,List.flatMap_cons,List.flatMap_nil,List.append_nil] at r1 r2
    have htx :(Prt.sp lo hi).t=Lib.itoa lo++if lo=hi then [] else 46::46::Lib.itoa hi:=rfl
    rw[htx,List.length_append] at htl
    simp[prtsV,hkl,←hx,Prt.v]
    intro s8 s35
    refine FCall.frz1 (v:=.str (Lib.itoa lo)) 35 (cells:=[.iface 3 (.int .i64 lo)]) (s:=s35+1) (by simp) (PInv.func (by simpa using r1)) (by simp) ?_
    simp
    refine FCall.wr (o:=o) (bs:=bs) (by simp[bdH]) hb (by omega) fun o1 ho1=>?_
    by_cases hlh:lo=hi
    ·rw[if_pos hlh] at htx
     simp[bdH,hlh]
     (repeat first|refine And.intro (by omega) ?_|refine And.intro (Fits.of (by omega) (by omega)) ?_)
     exact hnx o1 _ ho1 (by rw[htx];simp) (by simp[prtsV]) (by simp[bdH,hlh])
    ·rw[if_neg hlh] at htx htl
     simp[bdH,hlh]
     intro s47
     refine FCall.frz1 (v:=.str (46::46::Lib.itoa hi)) 47 (cells:=[.iface 9 (.str [46,46]),.iface 3 (.int .i64 hi)]) (s:=s47+1) (by simp) (PInv.func (by simpa using r2)) (by simp) ?_
     simp
     refine FCall.wr (o:=o1) (bs:=bs++Lib.itoa lo) (by simp[bdH]) ho1 (by simp at htl ⊢;omega) fun o2 ho2=>?_
     simp[bdH]
     (repeat first|refine And.intro (by omega) ?_|refine And.intro (Fits.of (by omega) (by omega)) ?_)
     exact hnx o2 _ ho2 (by rw[htx];simp) (by simp[prtsV]) (by simp[bdH])
  | h n=>
    have hn:n<4096:=hxo
    simp[prtsV,hkl,←hx,Prt.v]
    refine Lp.intro (σ:=Nat×{o:Option Nat×List UInt8 // BdOk o.1 o.2}) (inv:=fun j=>j.1≤12∧j.2.1.2=bs++Prt.hrs n j.1) (vw:=fun j=>[(3,.ptr 3 0 (s3+1)),(9,.int .i64 n),(10,.int .i64 j.1),(11,prtsV l),(12,.int .i64 l.length),(13,.int .i64 k)])
     (hp:=fun j=>bdH 3 900 j.2.1.1 j.2.1.2 (s3+1)) (ms:=fun j=>12 - j.1) (0,⟨(o,bs),hb⟩) ⟨Nat.zero_le _,by simp[Prt.hrs]⟩ (by simp[prtsV]) (by simp[bdH]) ?_
    rintro ⟨j,⟨⟨o1,bs1⟩,hb1⟩⟩ ⟨hj,hbs1⟩ J2 hJ2
    simp only at hj hbs1 hb1
    subst hbs1
    have hj64 :(j:Int)<64:=by omega
    have hjl:=Prt.hrs_len n j hj
    obtain ⟨q,hq⟩ : ∃q,q=n / 2^j:=⟨_,rfl⟩
    have hqi :(n:Int) / 2^j =(q:Nat):=by rw[hq];simp
    have hq4:q<4096:=by have:=Nat.div_le_self n (2^j);omega
    have ha1:=and_one q hq4
    by_cases hq0:q=0
    ·have he:Prt.hrs n 12=Prt.hrs n j:=by
      have:=Prt.hrs_end (n:=n) (j:=j) (by rw[←hq];exact hq0) (12 - j)
      rwa [show j+(12 - j)=12 by omega] at this
     simp[hj64,hqi,hq0]
     refine hJ2.exit ?_
     simp
     (repeat first|refine And.intro (by omega) ?_|refine And.intro (Fits.of (by omega) (by omega)) ?_)
     exact hnx o1 _ hb1 (by rw[show (Prt.h n).t=Prt.hrs n 12 from rfl,he]) (by simp[prtsV]) (by simp[bdH])
    ·have hj12:j<12:=by
      rcases Nat.lt_or_ge j 12 with h|h
      ·exact h
      ·obtain rfl:j=12:=by omega
       exact absurd (by rw[hq];exact Nat.div_eq_of_lt hn) hq0
     have hjl1:=Prt.hrs_len n (j+1) hj12
     have hst:Prt.hrs n (j+1)=Prt.hrs n j++if q % 2=1 then 32::Lib.itoa (j:Nat) else []:=by rw[hq];rfl
     rw[hst,List.length_append] at hjl1
     have hnx2:∀{tm:TM} {h:Heap} (o':Option Nat) (bs':List UInt8),BdOk o' bs'→bs'=bs++Prt.hrs n (j+1)→Vw [(3,.ptr 3 0 (s3+1)),(9,.int .i64 n),(10,.int .i64 (j+1:Nat)),(11,prtsV l),(12,.int .i64 l.length),(13,.int .i64 k)] tm→Hw (bdH 3 900 o' bs' (s3+1)) h→J2 .normal tm [] h:=fun {tm h} o' bs' hb' he hv hh=>
      hJ2.next (j+1,⟨(o',bs'),hb'⟩) ⟨hj12,he⟩ (by simp;omega) hv hh
     by_cases hodd:q % 2=1
     ·rw[if_pos hodd] at hst hjl1
      have r1:=hrec rfl [.s [32],.i (j:Nat)] (by simp) (by simp[Prt.simple,Prt.Ok];omega) (by have:=itoa_len (n:=(j:Nat)) (by omega);simp[prtsT,Prt.t];omega)
      simp only[prtsV,prtsT,Prt.v,Prt.t,List.length_cons,List.length_nil,List.map_cons,List.map_nil,List.flatMap_cons,List.flatMap_nil,List.append_nil] at r1
      simp[hj64,hqi,hq0,ha1,hodd]
      intro s67
      refine FCall.frz1 (v:=.str (32::Lib.itoa (j:Nat))) 67 (cells:=[.iface 9 (.str [32]),.iface 3 (.int .i64 (j:Nat))]) (s:=s67+1) (by simp) (PInv.func (by simpa using r1)) (by simp) ?_
      simp
      refine FCall.wr (o:=o1) (bs:=bs++Prt.hrs n j) (by simp[bdH]) hb1 (by simp at htl hjl1 ⊢;omega) fun o2 ho2=>?_
      simp[bdH]
      (repeat first|refine And.intro (by omega) ?_|refine And.intro (Fits.of (by omega) (by omega)) ?_)
      exact hnx2 o2 _ ho2 (by rw[hst];simp) (by simp[prtsV]) (by simp[bdH])
     ·rw[if_neg hodd] at hst
      have h02:q % 2=0:=by omega
      simp[hj64,hqi,hq0,ha1,h02]
      (repeat first|refine And.intro (by omega) ?_|refine And.intro (Fits.of (by omega) (by omega)) ?_)
      exact hnx2 o1 _ hb1 (by rw[hst];simp) (by simp[prtsV]) (by simp[bdH])
 ·obtain rfl:k=l.length:=by omega
  rw[List.take_length] at hbs
  subst hbs
  simp[prtsV]
  refine hJ.exit ?_
  simp
  refine FCall.cps (bdH 3 900 o (prtsT l) (s3+1)) (fun _:Unit=>.str (prtsT l)) (fun _=>[(3,.dead),(900,.dead)]) (fun _=>True) (fun K' hK'=>AInvoke.func ?_) (by simp[bdH]) (fun _=>rfl) (by simp) (fun _ _=>⟨by simp,?_⟩)
  ·have:=builderString_ok (r:=3) (r':=900) (s:=s3+1) (K:=K') (by omega) hb (by have:=hK' () trivial;rwa [dead2] at this)
   simpa using this
  simp
  exact RetV.wk (nilH_le _) rfl
theorem book_said_simple (l:List Prt) (hl:l.length≤100) (hok:∀x∈l,x.simple=true∧x.Ok) (hlen :(prtsT l).length≤1000):APure Pg fn_book_said [prtsV l] (.str (prtsT l)):=
 book_said_gen l hl (fun x hx=>(hok x hx).2) hlen fun x hx hs=>by rw[(hok x hx).1] at hs;cases hs
theorem book_said_ok (l:List Prt) (hl:l.length≤100) (hok:∀x∈l,x.Ok) (hlen :(prtsT l).length≤1000):APure Pg fn_book_said [prtsV l] (.str (prtsT l)):=
 book_said_gen l hl hok hlen fun _ _ _ a ha hs ht=>book_said_simple a (by omega) hs (by omega)
end Go.Cw
end
section
namespace Go.Cw
open Go Go.Proofs
def pre (p s:List UInt8):Bool:=decide (p.length≤s.length) && (s.take p.length == p)
def aft (p s:List UInt8):List UInt8:=if pre p s=true then s.drop p.length else s
theorem pre_le {p s:List UInt8} (h:pre p s=true):p.length≤s.length:=by unfold pre at h;simp at h;exact h.1
theorem pre_app (p t:List UInt8):pre p (p++t)=true:=by simp[pre]
theorem aft_app (p t:List UInt8):aft p (p++t)=t:=by simp[aft,pre_app]
theorem aft_no {p s:List UInt8} (h:pre p s=false):aft p s=s:=by simp[aft,h]
theorem stringslite_HasPrefix_ok (s p:List UInt8):APure Pg fn_stringslite_HasPrefix [.str s,.str p] (.bool (pre p s)):=by
 refine stringslite_HasPrefix.e.p (by simp) ?_
 by_cases h:p.length≤s.length
 ·simp[h]
  exact RetV.refl (by simp only[pre,h,decide_true,Bool.true_and];congr 2;rw[Bool.eq_iff_iff];simp)
 ·simp[h]
  exact RetV.refl (by simp[pre,h])
theorem stringslite_CutPrefix_ok (s p:List UInt8):APure Pg fn_stringslite_CutPrefix [.str s,.str p] (.tup [.str (aft p s),.bool (pre p s)]):=by
 refine stringslite_CutPrefix.e.p (by simp) ?_
 simp
 refine PCallK.intro (PInv.func (stringslite_HasPrefix_ok s p)) ?_
 cases h:pre p s with
 | true=>
   have hl:=pre_le h
   simp[hl]
   exact RetV.refl (by simp[aft,h])
 | false=>
   simp
   exact RetV.refl (by simp[aft,h])
theorem strings_CutPrefix_ok (s p:List UInt8):APure Pg fn_strings_CutPrefix [.str s,.str p] (.tup [.str (aft p s),.bool (pre p s)]):=by
 refine strings_CutPrefix.e.p (by simp) ?_
 simp
 refine FCall.pure (PInv.func (stringslite_CutPrefix_ok s p)) ?_
 simp
 exact RetV.refl rfl
theorem book_ask_ok (e:Int):APure Pg fn_book_ask [.bool true,.int .i64 e] (.tup []):=by
 refine book_ask.e.p (by simp) ?_
 simp
 exact RetV.refl rfl
theorem book_sees_ok {r s:Nat} (p rest:List UInt8) {K:AEnd→Heap→Prop} (k:K (.ret (.bool (pre p rest))) (hpV [(r,.row [.str (aft p rest)] s)])) :
 ACalls Pg fn_book_reader_sees [.ptr r 0 s,.str p] (hpV [(r,.row [.str rest] s)]) K:=by
 refine book_reader_sees.e 0 (by simp) ?_
 simp
 refine PCallK.intro (PInv.func (strings_CutPrefix_ok rest p)) ?_
 simp
 exact RetV.view [(r,.row [.str (aft p rest)] s)] (by simp) k
section
variable {F n₀:Nat} {inr:Bool} {keep:List Nat} {d:Option Nat} {K:KT} {Q:Post} {tm:TM} {df:DF} {hp:Heap} {r s:Nat}
theorem FCall.sees {p rest:List UInt8} (hr:hp r=.row [.str rest] s) (k:K (putD tm d (.bool (pre p rest))) df (upd hp r (.row [.str (aft p rest)] s))) :
 FCall ⟨Pg,F,n₀,inr,keep⟩ (.func (.func fn_book_reader_sees) [] []) [.ptr r 0 s,.str p] [] [] d K Q tm df hp:=by
 refine FCall.cps [(r,.row [.str rest] s)] (fun _:Unit=>.bool (pre p rest)) (fun _=>[(r,.row [.str (aft p rest)] s)]) (fun _=>True) (fun K' hK'=>AInvoke.func ?_) ⟨hr,trivial⟩ (fun _=>rfl) trivial (fun _ _=>⟨trivial,k⟩)
 exact book_sees_ok p rest (hK' () trivial)
end
theorem book_word_ok {r s:Nat} (p t:List UInt8) {K:AEnd→Heap→Prop} (k:K (.ret (.tup [])) (hpV [(r,.row [.str t] s)])) :
 ACalls Pg fn_book_reader_word [.ptr r 0 s,.str p] (hpV [(r,.row [.str (p++t)] s)]) K:=by
 refine book_reader_word.e 0 (by simp) ?_
 simp
 refine FCall.sees (rest:=p++t) (by simp) ?_
 simp[pre_app,aft_app]
 refine FCall.pure (PInv.func (book_ask_ok _)) ?_
 simp
 exact RetV.view [(r,.row [.str t] s)] (by simp) k
def isDig (c:UInt8):Prop:=48≤c.toNat∧c.toNat≤57
instance (c : UInt8):Decidable (isDig c):=inferInstanceAs (Decidable (_∧_))
def dval (l:List UInt8):Nat:=l.foldl (fun a c=>10*a+(c.toNat - 48)) 0
theorem dval_snoc (l:List UInt8) (c:UInt8):dval (l++[c])=10*dval l+(c.toNat - 48):=by simp[dval]
theorem dec_spec : ∀u:Nat,(∀c∈Lib.decDigits u,isDig c)∧dval (Lib.decDigits u)=u∧Lib.decDigits u≠[]:=by
 intro u
 induction u using Nat.strongRecOn with
 | ind u ih=>
   rw[Lib.decDigits]
   have hc:∀k,k<10→(UInt8.ofNat (48+k)).toNat=48+k:=by decide
   split
   ·rename_i h
    refine ⟨fun c hc'=>?_,by unfold dval;simp only[List.foldl_cons,List.foldl_nil];rw[hc u h];omega,by simp⟩
    obtain rfl:=List.mem_singleton.1 hc'
    rw[isDig,hc u h];omega
   ·rename_i h
    obtain ⟨h1,h2,h3⟩:=ih (u / 10) (by omega)
    refine ⟨fun c hc'=>?_,by rw[dval_snoc,h2,hc _ (Nat.mod_lt _ (by omega))];omega,by simp⟩
    rcases List.mem_append.1 hc' with h|h
    ·exact h1 c h
    ·obtain rfl:=List.mem_singleton.1 h
     rw[isDig,hc _ (Nat.mod_lt _ (by omega))];omega
theorem dec_len : ∀(k u:Nat),u<10^k→1≤k→(Lib.decDigits u).length≤k:=by
 intro k
 induction k with
 | zero=>intro u _ h;omega
 | succ k ih=>
   intro u hu _
   rw[Lib.decDigits]
   split
   ·simp
   ·have:u / 10<10^k:=by rw[Nat.pow_succ] at hu;omega
    have hk:1≤k:=by
     rcases Nat.eq_zero_or_pos k with h0|h0
     ·subst h0;simp at this;omega
     ·exact h0
    have:=ih (u / 10) this hk
    simp;omega
theorem dval_take {l:List UInt8} {i:Nat} (h:i<l.length):dval (l.take (i+1))=10*dval (l.take i)+((l[i]).toNat - 48):=by
 rw[←List.take_append_getElem h,dval_snoc]
theorem dval_lt (l:List UInt8) (h:∀c∈l,isDig c):dval l<10^l.length:=by
 have:∀(n:Nat) (l:List UInt8),l.length=n→(∀c∈l,isDig c)→dval l<10^n:=by
  intro n
  induction n with
  | zero=>intro l hl _;obtain rfl:=List.eq_nil_of_length_eq_zero hl;decide
  | succ n ih=>
    intro l hl hd
    have hne:l≠[]:=by intro e;rw[e] at hl;cases hl
    have e:=List.dropLast_concat_getLast hne
    rw[←e,dval_snoc,Nat.pow_succ]
    have h1:=ih l.dropLast (by simp[hl]) (fun c hc=>hd c (List.dropLast_subset _ hc))
    have h2:=hd (l.getLast hne) (List.getLast_mem hne)
    unfold isDig at h2
    omega
 exact this _ l rfl h
theorem book_number_gen {r s:Nat} (neg:Bool) (ds t:List UInt8) (hds:∀c∈ds,isDig c) (hl:1≤ds.length∧ds.length≤5) (ht:∀c,t.head? = some c→¬isDig c) {K:AEnd→Heap→Prop}
 (k:K (.ret (.int .i64 (if neg then -(dval ds:Nat) else (dval ds:Nat)))) (hpV [(r,.row [.str t] s)])) :
 ACalls Pg fn_book_reader_number [.ptr r 0 s] (hpV [(r,.row [.str ((if neg then [45] else [])++(ds++t))] s)]) K:=by
 refine book_reader_number.e 0 (by simp) ?_
 simp
 refine FCall.sees (rest:=(if neg then [45] else [])++(ds++t)) (by simp) ?_
 have hpa:pre [45] ((if neg then [45] else [])++(ds++t))=neg∧aft [45] ((if neg then [45] else [])++(ds++t))=ds++t:=by
  cases neg with
  | true=>exact ⟨pre_app _ _,aft_app _ _⟩
  | false=>
    have:pre [45] (ds++t)=false:=by
     cases ds with
     | nil=>simp at hl
     | cons c ds=>
       have h1:=hds c (by simp)
       have:c≠45:=by rintro rfl;revert h1;decide
       simp[pre,this]
    exact ⟨this,aft_no this⟩
 rw[hpa.1,hpa.2]
 simp
 refine Lp.intro (σ:=Nat) (inv:=fun i=>i≤ds.length) (vw:=fun i=>[(0,.ptr r 0 s),(3,.bool neg),(4,.int .i64 (dval (ds.take i):Nat)),(5,.int .i64 i),(14,.vl (ds.length+t.length) (byCells (ds++t))),(15,.int .i64 (ds.length+t.length)),(16,.int .i64 i)])
  (hp:=fun _=>[(r,.row [.str (ds++t)] s)]) (ms:=fun i=>ds.length - i) 0 (Nat.zero_le _) (by simp[dval]) (by simp) ?_
 intro i hi J hJ
 by_cases hil:i<ds.length
 ·have hd:=hds ds[i] (by simp)
  have hdl:=dval_lt (ds.take i) (fun c hc=>hds c (List.mem_of_mem_take hc))
  have hdt:=dval_take hil
  have hpw:10^(ds.take i).length≤10^4:=Nat.pow_le_pow_right (by omega) (by simp;omega)
  obtain ⟨c,hc⟩ : ∃c,c=ds[i]:=⟨_,rfl⟩
  rw[←hc] at hd hdt
  obtain ⟨hd1,hd2⟩:=hd
  have hlt :(i:Int)<ds.length+t.length:=by omega
  have hget :(ds++t)[i]? = some c:=by rw[List.getElem?_append_left hil,hc];simp
  have hx1:¬(c.toNat:Int)<48:=by omega
  have hx2:¬(57:Int)<c.toNat:=by omega
  have hi5 :(i:Int)+1≤5:=by omega
  simp[hlt,hget,hx1,hx2,hi5]
  refine ⟨by unfold Fits;omega,?_⟩
  refine FCall.pure (PInv.func (book_ask_ok _)) ?_
  have hw8:IntKind.u8.wrap ((c.toNat:Int) - 48) =(c.toNat - 48:Nat):=by
   simp[IntKind.wrap,IntKind.signed,IntKind.bits];omega
  simp[hw8]
  refine ⟨by unfold Fits;omega,by unfold Fits;omega,by unfold Fits;omega,by unfold Fits;omega,?_⟩
  exact hJ.next (i+1) hil (by omega) (by simp[hdt]) (by simp)
 ·obtain rfl:i=ds.length:=by omega
  have hl1:0<ds.length:=by omega
  have hdl:=dval_lt ds hds
  have hpw:10^ds.length≤10^5:=Nat.pow_le_pow_right (by omega) hl.2
  rw[List.take_length]
  cases t with
  | nil=>
    simp
    refine hJ.exitS ?_
    refine Sl.view [(0,.ptr r 0 s),(3,.bool neg),(4,.int .i64 (dval ds:Nat)),(5,.int .i64 (ds.length:Nat))] [(r,.row [.str (ds++[])] s)] (by simp) (by simp) ?_
    simp[hl1]
    refine FCall.pure (PInv.func (book_ask_ok _)) ?_
    cases neg with
    | true=>
      simp
      refine ⟨by unfold Fits;omega,?_⟩
      exact RetV.view [(r,.row [.str []] s)] (by simp) (by simpa using k)
    | false=>
      simp
      exact RetV.view [(r,.row [.str []] s)] (by simp) (by simpa using k)
  | cons c t=>
    have hn:=ht c rfl
    have hlt :(ds.length:Int)<ds.length+(t.length+1):=by omega
    have hdt:List.drop ds.length (List.take ((ds.length:Int)+((t.length:Int)+1)).toNat (ds++c::t))=c::t:=by
     rw[List.take_of_length_le (by simp;omega)];simp
    by_cases hA :(c.toNat:Int)<48
    ·simp[hlt,hA]
     refine hJ.exitS ?_
     refine Sl.view [(0,.ptr r 0 s),(3,.bool neg),(4,.int .i64 (dval ds:Nat)),(5,.int .i64 (ds.length:Nat))] [(r,.row [.str (ds++c::t)] s)] (by simp) (by simp) ?_
     simp[hl1]
     refine FCall.pure (PInv.func (book_ask_ok _)) ?_
     cases neg with
     | true=>
       simp
       refine ⟨by omega,by unfold Fits;omega,?_⟩
       exact RetV.view [(r,.row [.str (c::t)] s)] (by simp[hdt]) (by simpa using k)
     | false=>
       simp
       refine ⟨by omega,?_⟩
       exact RetV.view [(r,.row [.str (c::t)] s)] (by simp[hdt]) (by simpa using k)
    ·have hB :(57:Int)<c.toNat:=by unfold isDig at hn;omega
     simp[hlt,hA,hB]
     refine hJ.exitS ?_
     refine Sl.view [(0,.ptr r 0 s),(3,.bool neg),(4,.int .i64 (dval ds:Nat)),(5,.int .i64 (ds.length:Nat))] [(r,.row [.str (ds++c::t)] s)] (by simp) (by simp) ?_
     simp[hl1]
     refine FCall.pure (PInv.func (book_ask_ok _)) ?_
     cases neg with
     | true=>
       simp
       refine ⟨by omega,by unfold Fits;omega,?_⟩
       exact RetV.view [(r,.row [.str (c::t)] s)] (by simp[hdt]) (by simpa using k)
     | false=>
       simp
       refine ⟨by omega,?_⟩
       exact RetV.view [(r,.row [.str (c::t)] s)] (by simp[hdt]) (by simpa using k)
theorem book_number_ok {r s:Nat} (n:Int) (hn : -99999≤n∧n≤99999) (t:List UInt8) (ht:∀c,t.head? = some c→¬isDig c) {K:AEnd→Heap→Prop}
 (k:K (.ret (.int .i64 n)) (hpV [(r,.row [.str t] s)])):ACalls Pg fn_book_reader_number [.ptr r 0 s] (hpV [(r,.row [.str (Lib.itoa n++t)] s)]) K:=by
 unfold Lib.itoa
 by_cases h0:n<0
 ·rw[if_pos h0]
  obtain ⟨h1,h2,h3⟩:=dec_spec n.natAbs
  have h4:=dec_len 5 n.natAbs (by omega) (by omega)
  have h5:1≤(Lib.decDigits n.natAbs).length:=by
   rcases Nat.eq_zero_or_pos (Lib.decDigits n.natAbs).length with h|h
   ·exact absurd (List.eq_nil_of_length_eq_zero h) h3
   ·exact h
  have:=book_number_gen (r:=r) (s:=s) true (Lib.decDigits n.natAbs) t h1 ⟨h5,h4⟩ ht (K:=K) (by
   rw[h2,if_pos rfl,show (-(n.natAbs:Nat):Int)=n by omega];exact k)
  simpa using this
 ·rw[if_neg h0]
  obtain ⟨h1,h2,h3⟩:=dec_spec n.toNat
  have h4:=dec_len 5 n.toNat (by omega) (by omega)
  have h5:1≤(Lib.decDigits n.toNat).length:=by
   rcases Nat.eq_zero_or_pos (Lib.decDigits n.toNat).length with h|h
   ·exact absurd (List.eq_nil_of_length_eq_zero h) h3
   ·exact h
  have:=book_number_gen (r:=r) (s:=s) false (Lib.decDigits n.toNat) t h1 ⟨h5,h4⟩ ht (K:=K) (by
   rw[h2,if_neg (by simp),show ((n.toNat:Nat):Int)=n by omega];exact k)
  simpa using this
section
variable {F n₀:Nat} {inr:Bool} {keep:List Nat} {d:Option Nat} {K:KT} {Q:Post} {tm:TM} {df:DF} {hp:Heap} {r s:Nat}
theorem FCall.number {n:Int} {t:List UInt8} (hr:hp r=.row [.str (Lib.itoa n++t)] s) (hn : -99999≤n∧n≤99999) (ht:∀c,t.head? = some c→¬isDig c) (k:K (putD tm d (.int .i64 n)) df (upd hp r (.row [.str t] s))) :
 FCall ⟨Pg,F,n₀,inr,keep⟩ (.func (.func fn_book_reader_number) [] []) [.ptr r 0 s] [] [] d K Q tm df hp:=by
 refine FCall.cps [(r,.row [.str (Lib.itoa n++t)] s)] (fun _:Unit=>.int .i64 n) (fun _=>[(r,.row [.str t] s)]) (fun _=>True) (fun K' hK'=>AInvoke.func ?_) ⟨hr,trivial⟩ (fun _=>rfl) trivial (fun _ _=>⟨trivial,k⟩)
 exact book_number_ok n hn t ht (hK' () trivial)
theorem FCall.word {p t:List UInt8} (hr:hp r=.row [.str (p++t)] s) (k:K (putD tm d (.tup [])) df (upd hp r (.row [.str t] s))) :
 FCall ⟨Pg,F,n₀,inr,keep⟩ (.func (.func fn_book_reader_word) [] []) [.ptr r 0 s,.str p] [] [] d K Q tm df hp:=by
 refine FCall.cps [(r,.row [.str (p++t)] s)] (fun _:Unit=>.tup []) (fun _=>[(r,.row [.str t] s)]) (fun _=>True) (fun K' hK'=>AInvoke.func ?_) ⟨hr,trivial⟩ (fun _=>rfl) trivial (fun _ _=>⟨trivial,k⟩)
 exact book_word_ok p t (hK' () trivial)
end
end Go.Cw
end
section
namespace Go.Cw
open Go Go.Proofs
def Stops (t:List UInt8):Prop:=∀c,t.head? = some c→¬isDig c∧c≠46∧c≠32
theorem Stops.dig {t:List UInt8} (h:Stops t):∀c,t.head? = some c→¬isDig c:=fun c hc=>(h c hc).1
theorem pre_head {p t:List UInt8} {a:UInt8} (h:∀c,t.head? = some c→c≠a):pre (a::p) t=false:=by
 cases t with
 | nil=>simp[pre]
 | cons c t=>
   have:=h c rfl
   simp only[pre,List.length_cons,List.take_succ_cons]
   rw[Bool.and_eq_false_iff]
   right
   simp[this]
theorem Stops.sp {t:List UInt8} (h:Stops t):∀c,t.head? = some c→¬isDig c∧c≠46:=fun c hc=>⟨(h c hc).1,(h c hc).2.1⟩
theorem Stops.nil : Stops []:=fun c h=>by cases h
theorem Stops.cons {c:UInt8} {t:List UInt8} (h:¬isDig c∧c≠46∧c≠32):Stops (c::t):=fun d hd=>by cases hd;exact h
theorem book_span_ok {r s:Nat} (hr:r<300) {lo hi:Int} (hlo : -99999≤lo∧lo≤99999) (hhi : -99999≤hi∧hi≤99999) (t:List UInt8) (ht:∀c,t.head? = some c→¬isDig c∧c≠46) {K:AEnd→Heap→Prop}
 (k:K (.ret (.agg [.int .i64 lo,.int .i64 hi])) (hpV [(r,.row [.str t] s)])):ACalls Pg fn_book_reader_span [.ptr r 0 s] (hpV [(r,.row [.str ((Prt.sp lo hi).t++t)] s)]) K:=by
 have n2:¬302=r:=by omega
 have n3:¬303=r:=by omega
 have m2:¬r=302:=by omega
 have m3:¬r=303:=by omega
 refine book_reader_span.e 300 (by simp) ?_
 simp[n2]
 intro s2
 by_cases hlh:lo=hi
 ·subst hlh
  have htx :(Prt.sp lo lo).t++t=Lib.itoa lo++t:=by simp[Prt.t]
  have hp:pre [46,46] t=false:=pre_head fun c hc=>(ht c hc).2
  rw[htx]
  refine FCall.number (n:=lo) (t:=t) (by simp[m2]) hlo (fun c hc=>(ht c hc).1) ?_
  simp[n3]
  intro s3
  refine FCall.sees (rest:=t) (by simp[m2,m3]) ?_
  simp[hp,aft_no hp,n2,n3]
  exact RetV.view [(r,.row [.str t] s)] (by simp[m2,m3]) k
 ·have htx :(Prt.sp lo hi).t++t=Lib.itoa lo++([46,46]++(Lib.itoa hi++t)):=by simp[Prt.t,hlh]
  rw[htx]
  refine FCall.number (n:=lo) (t:=[46,46]++(Lib.itoa hi++t)) (by simp[m2]) hlo (fun c hc=>by cases hc;decide) ?_
  simp[n3]
  intro s3
  refine FCall.sees (rest:=[46,46]++(Lib.itoa hi++t)) (by simp[m2,m3]) ?_
  rw[pre_app,aft_app]
  simp
  refine FCall.number (n:=hi) (t:=t) (by simp[m2,m3]) hhi (fun c hc=>(ht c hc).1) ?_
  simp[n2,n3]
  exact RetV.view [(r,.row [.str t] s)] (by simp[m2,m3]) k
def hlist (n:Nat):List Nat:=(List.range 12).filter fun h=>decide (n / 2^h % 2=1)
def hlT (l:List Nat):List UInt8:=l.flatMap fun h=>32::Lib.itoa (h:Nat)
theorem hrs_list (n:Nat):∀k,Prt.hrs n k=hlT ((List.range k).filter fun h=>decide (n / 2^h % 2=1))
 | 0=>rfl
 | k+1=>by
   rw[List.range_succ,List.filter_append,show Prt.hrs n (k+1)=Prt.hrs n k++if n / 2^k % 2=1 then 32::Lib.itoa k else [] from rfl,hrs_list n k]
   unfold hlT
   rw[List.flatMap_append]
   congr 1
   by_cases h:n / 2^k % 2=1<;>simp[h]
def hor (l:List Nat):Nat:=l.foldl (fun a h=>a ||| 2^h) 0
theorem hor_lt : ∀(l:List Nat) (a:Nat),(∀h∈l,h<12)→a<4096→l.foldl (fun a h=>a ||| 2^h) a<4096
 | [],a,_,ha=>ha
 | h::l,a,hl,ha=>hor_lt l _ (fun x hx=>hl x (by simp[hx])) (Pt.or_lt ha (by
   have:=hl h (by simp)
   have:2^h≤2^11:=Nat.pow_le_pow_right (by omega) (by omega)
   omega))
theorem hor_hlist (n:Nat) (hn:n<4096):hor (hlist n)=n:=by
 have h0:∀n,n<1024→hor (hlist n)=n:=by decide +kernel
 have h1:∀n,n<1024→hor (hlist (1024+n))=1024+n:=by decide +kernel
 have h2:∀n,n<1024→hor (hlist (2048+n))=2048+n:=by decide +kernel
 have h3:∀n,n<1024→hor (hlist (3072+n))=3072+n:=by decide +kernel
 rcases (show n<1024∨(1024≤n∧n<2048)∨(2048≤n∧n<3072)∨3072≤n by omega) with h|h|h|h
 ·exact h0 n h
 ·have:=h1 (n - 1024) (by omega);rwa [show 1024+(n - 1024)=n by omega] at this
 ·have:=h2 (n - 2048) (by omega);rwa [show 2048+(n - 2048)=n by omega] at this
 ·have:=h3 (n - 3072) (by omega);rwa [show 3072+(n - 3072)=n by omega] at this
theorem book_within_ok (n lo hi:Int):APure Pg fn_book_within [.int .i64 n,.int .i64 lo,.int .i64 hi] (.bool (decide (lo≤n∧n≤hi))):=by
 refine book_within.e.p (by simp) ?_
 by_cases h:lo≤n<;>simp[h]<;>refine RetV.refl ?_<;>simp_all
theorem book_hours_ok {r s:Nat} {n:Nat} (hn:n<4096) (t:List UInt8) (ht:Stops t) {K:AEnd→Heap→Prop}
 (k:K (.ret (.int .i64 n)) (hpV [(r,.row [.str t] s)])):ACalls Pg fn_book_reader_hours [.ptr r 0 s] (hpV [(r,.row [.str ((Prt.h n).t++t)] s)]) K:=by
 have htx :(Prt.h n).t=hlT (hlist n):=hrs_list n 12
 have hh:∀h∈hlist n,h<12:=fun h hm=>by simp[hlist] at hm;exact hm.1
 have hfin:=hor_hlist n hn
 rw[htx]
 obtain ⟨l,hl⟩ : ∃l,l=hlist n:=⟨_,rfl⟩
 rw[←hl] at hh hfin ⊢
 have hp:pre [32] t=false:=pre_head fun c hc=>(ht c hc).2.2
 refine book_reader_hours.e 0 (by simp) ?_
 simp
 refine Lp.intro (σ:=Nat) (inv:=fun i=>i≤l.length) (vw:=fun i=>[(0,.ptr r 0 s),(2,.int .i64 (hor (l.take i):Nat))])
  (hp:=fun i=>[(r,.row [.str (hlT (l.drop i)++t)] s)]) (ms:=fun i=>l.length - i) 0 (Nat.zero_le _) (by simp[hor]) (by simp) ?_
 intro i hi J hJ
 by_cases hil:i<l.length
 ·obtain ⟨h,hhe⟩ : ∃h,h=l[i]:=⟨_,rfl⟩
  have h12:h<12:=hh h (by rw[hhe];simp)
  have hd:l.drop i=h::l.drop (i+1):=by rw[hhe];exact List.drop_eq_getElem_cons hil
  have htk:hor (l.take (i+1))=hor (l.take i) ||| 2^h:=by
   rw[hhe,←List.take_append_getElem hil];unfold hor;rw[List.foldl_append];rfl
  have hlt:hor (l.take i)<4096:=hor_lt _ _ (fun x hx=>hh x (List.mem_of_mem_take hx)) (by omega)
  have h2h:2^h≤2^11:=Nat.pow_le_pow_right (by omega) (by omega)
  have hbo:=bitI_or (hor (l.take i)) (2^h) (by omega) (by omega)
  have hrest:hlT (l.drop i)++t=[32]++(Lib.itoa (h:Nat)++(hlT (l.drop (i+1))++t)):=by rw[hd];simp[hlT]
  have hstop:∀c,(hlT (l.drop (i+1))++t).head? = some c→¬isDig c:=by
   intro c hc
   cases hq:l.drop (i+1) with
   | nil=>rw[hq] at hc;exact ht.dig c (by simpa[hlT] using hc)
   | cons a q=>rw[hq] at hc;simp[hlT] at hc;subst hc;decide
  simp
  refine FCall.sees (rest:=[32]++(Lib.itoa (h:Nat)++(hlT (l.drop (i+1))++t))) (by simp[hrest]) ?_
  rw[pre_app,aft_app]
  simp
  refine FCall.number (n:=(h:Nat)) (t:=hlT (l.drop (i+1))++t) (by simp) (by omega) hstop ?_
  simp
  refine PCallK.intro (PInv.func (book_within_ok _ _ _)) ?_
  have h30 :(h:Int)≤30:=by omega
  simp[h30]
  refine FCall.pure (PInv.func (book_ask_ok _)) ?_
  have h64 :(h:Int)<64:=by omega
  simp at hbo
  simp[h64,hbo]
  refine ⟨?_,?_⟩
  ·have :((2^h:Nat):Int)≤2^11:=by exact_mod_cast h2h
   simp at this
   have h0:=two_pow_pos h
   unfold Fits;omega
  exact hJ.next (i+1) hil (by omega) (by simp[htk]) (by simp)
 ·obtain rfl:i=l.length:=by omega
  simp[hlT]
  refine FCall.sees (rest:=t) (by simp) ?_
  simp[hp,aft_no hp]
  refine hJ.exit ?_
  simp[hfin]
  exact RetV.view [(r,.row [.str t] s)] (by simp) k
def skL (k:List UInt8):AVal:=.str k
def sideN (k:List UInt8):Int:=if k=[112] then -1 else if k=[107] then 0 else 1
def sideM : List (List UInt8):=[[112],[107],[115]]
theorem sideLaw : KeyLaw (false,[.s]) skL:=⟨fun a b=>by
 simp only[keyEq,skL,Bool.false_eq_true,if_false,flatEq,Option.map_some]
 congr 1
 rw[Bool.eq_iff_iff]
 simp⟩
theorem dead1 (a:Nat):hpV [(a,.dead)]=nilH:=by
 funext x;simp only[hpV,upd];split<;>rfl
theorem book_sideOf_ok (K:AEnd→Heap→Prop) (k:∀s,K (.ret (.map 204 s)) (hpV [(204,.map (entsK skL (fun k=>.int .i64 (sideN k)) sideM) s)])):ACalls Pg fn_book_sideOf [] nilH K:=by
 refine book_sideOf.e 200 (by simp) ?_
 simp
 intro s4
 have hg:∀i,i<3→[AVal.str [112],.str [107],.str [115]][i]? = some (.str (sideM.getD i [])):=by
  intro i hi
  rcases (show i=0∨i=1∨i=2 by omega) with rfl|rfl|rfl<;>rfl
 have hsn:∀i,i<3→sideN (sideM.getD i [])=i - 1:=by decide
 refine Lp.intro (σ:=Nat) (inv:=fun i=>i≤3) (vw:=fun i=>[(1,.map 204 (s4+1)),(5,.agg [.str [112],.str [107],.str [115]]),(6,.int .i64 i)])
  (hp:=fun i=>[(204,.map (entsK skL (fun k=>.int .i64 (sideN k)) (sideM.take i)) (s4+1))]) (ms:=fun i=>3 - i) 0 (by omega) (by simp) (by simp) ?_
 intro i hi J hJ
 by_cases hil:i<3
 ·have hnd :(sideM.take i).Nodup:=by
   rcases (show i=0∨i=1∨i=2 by omega) with rfl|rfl|rfl<;>decide
  have hins:insK (sideM.getD i []) (sideM.take i)=sideM.take (i+1):=by
   rcases (show i=0∨i=1∨i=2 by omega) with rfl|rfl|rfl<;>decide
  have hi3 :(i:Int)<3:=by omega
  have hgi:=hg i hil
  have hsi:=hsn i hil
  obtain ⟨q,hq⟩ : ∃q,q=sideM.getD i []:=⟨_,rfl⟩
  rw[←hq] at hgi hsi hins
  simp[hi3,hgi]
  refine ⟨by unfold Fits;omega,?_⟩
  refine osat_iff.2 ⟨_,mapU_K sideLaw (k:=q) (M:=sideM.take i) (f:=fun k=>.int .i64 (sideN k)) (f':=fun k=>.int .i64 (sideN k)) (m:=204) (s:=s4+1) hnd (by simp) (by simp) (by simp[skL]) (by simp[hsi]) (fun _ _ _=>rfl),?_⟩
  rw[hins]
  refine ⟨by unfold Fits;omega,?_⟩
  exact hJ.next (i+1) hil (by omega) (by simp) (by simp)
 ·obtain rfl:i=3:=by omega
  simp
  refine hJ.exit ?_
  simp
  exact RetV.view [(204,.map (entsK skL (fun k=>.int .i64 (sideN k)) sideM) (s4+1))] (by simp[sideM]) (k _)
theorem book_side_ok {r s:Nat} (hr:r<200) {n:Int} (hn : -1≤n∧n≤1) (c:List UInt8) (hc:c=if n = -1 then [112] else if n=0 then [107] else [115]) (t:List UInt8) {K:AEnd→Heap→Prop}
 (k:K (.ret (.int .i64 n)) (hpV [(r,.row [.str t] s)])):ACalls Pg fn_book_reader_side [.ptr r 0 s] (hpV [(r,.row [.str (c++t)] s)]) K:=by
 have n1:¬204=r:=by omega
 have n2:¬306=r:=by omega
 have m1:¬r=204:=by omega
 have m2:¬r=306:=by omega
 have hcM:c∈sideM∧sideN c=n:=by
  rcases (show n = -1∨n=0∨n=1 by omega) with rfl|rfl|rfl<;>simp at hc<;>subst hc<;>decide
 have hone:∀x∈sideM,x≠c→pre x (c++t)=false:=by
  intro x hx hne
  simp[sideM] at hx
  rcases (show n = -1∨n=0∨n=1 by omega) with rfl|rfl|rfl<;>simp at hc<;>subst hc<;>rcases hx with rfl|rfl|rfl<;>first|(exact absurd rfl hne)|rfl
 obtain ⟨f,hf⟩ : ∃f:List UInt8→AVal,f=fun k=>.int .i64 (sideN k):=⟨_,rfl⟩
 refine book_reader_side.e 300 (by simp) ?_
 simp
 refine FCall.cps [(204,.dead)] (fun x:Nat=>.map 204 x) (fun x=>[(204,.map (entsK skL f sideM) x)]) (fun _=>True) (fun K' hK'=>AInvoke.func ?_) (by simp[n1]) (fun _=>rfl) (by simp) (fun sm _=>⟨by simp,?_⟩)
 ·rw[dead1]
  exact book_sideOf_ok K' fun x=>by have:=hK' x trivial;rwa [hf] at this
 simp
 intro s6
 have hM:sideM.Nodup:=by decide
 refine Lp.intro (σ:=List (List UInt8)×List Nat×Option Nat) (inv:=fun t=>(t.1++keysAt sideM t.2.1).Perm sideM∧c∉t.1) (vw:=fun _=>[(0,.ptr r 0 s),(6,.ptr 306 0 (s6+1))])
  (hp:=fun x=>[(r,.row [.str (c++t)] s),(204,.map (entsK skL f sideM) sm),(306,.iter (some (204,sm)) sideM.length x.2.1 x.2.2 (s6+1))]) (ms:=fun x=>sideM.length - x.1.length) ([],List.range sideM.length,none)
  ⟨by simp[keysAt_range],by simp⟩ (by simp) (by simp[n1,n2,m1,m2]) ?_
 rintro ⟨D,left,cur⟩ ⟨hp,hcD⟩ J hJ
 simp only at hp hcD
 have hpl:=hp.length_eq
 rw[List.length_append] at hpl
 simp[n1,n2,m1,m2]
 refine xNextM_K rfl (fun hl=>?_) (fun i x hi hx=>?_)
 ·subst hl
  exfalso
  apply hcD
  have:c∈D++keysAt sideM []:=hp.mem_iff.2 hcM.1
  simpa[keysAt] using this
 ·have hk1:=keysAt_step hi hx hp
  have hxM:x∈sideM:=List.mem_of_getElem? hx
  have hkl :(D++[x]).length≤sideM.length:=by rw[←hk1.length_eq];simp
  simp only[List.length_append,List.length_cons,List.length_nil] at hkl
  simp[n1,n2,m1,m2]
  refine ⟨_,_,by rw[entsK_get,hx];rfl,?_⟩
  simp[skL,hf]
  refine FCall.sees (rest:=c++t) (by simp[n1,n2,m1,m2]) ?_
  by_cases hxc:x=c
  ·subst hxc
   rw[pre_app,aft_app]
   simp
   refine hJ.ret ?_
   simp
   rw[hcM.2]
   exact RetV.view [(r,.row [.str t] s)] (by simp) k
  ·have hno:=hone x hxM hxc
   rw[hno,aft_no hno]
   simp
   exact hJ.next (D++[x],left.erase i,some i) ⟨hk1,by simp[hcD];exact fun e=>hxc e.symm⟩ (by simp;omega) (by simp) (by simp[n1,n2,m1,m2,hf])
end Go.Cw
end
section
namespace Go.Cw
open Go Go.Proofs
section
variable {F n₀:Nat} {inr:Bool} {keep:List Nat} {d:Option Nat} {K:KT} {Q:Post} {tm:TM} {df:DF} {hp:Heap} {r s:Nat}
theorem FCall.span {lo hi:Int} {t:List UInt8} (hrl:r<300) (hr:hp r=.row [.str ((Prt.sp lo hi).t++t)] s) (hlo : -99999≤lo∧lo≤99999) (hhi : -99999≤hi∧hi≤99999) (ht:∀c,t.head? = some c→¬isDig c∧c≠46) (k:K (putD tm d (.agg [.int .i64 lo,.int .i64 hi])) df (upd hp r (.row [.str t] s))) :
 FCall ⟨Pg,F,n₀,inr,keep⟩ (.func (.func fn_book_reader_span) [] []) [.ptr r 0 s] [] [] d K Q tm df hp:=by
 refine FCall.cps [(r,.row [.str ((Prt.sp lo hi).t++t)] s)] (fun _:Unit=>.agg [.int .i64 lo,.int .i64 hi]) (fun _=>[(r,.row [.str t] s)]) (fun _=>True) (fun K' hK'=>AInvoke.func ?_) ⟨hr,trivial⟩ (fun _=>rfl) trivial (fun _ _=>⟨trivial,k⟩)
 exact book_span_ok hrl hlo hhi t ht (hK' () trivial)
theorem FCall.hours {n:Nat} {t:List UInt8} (hr:hp r=.row [.str ((Prt.h n).t++t)] s) (hn:n<4096) (ht:Stops t) (k:K (putD tm d (.int .i64 n)) df (upd hp r (.row [.str t] s))) :
 FCall ⟨Pg,F,n₀,inr,keep⟩ (.func (.func fn_book_reader_hours) [] []) [.ptr r 0 s] [] [] d K Q tm df hp:=by
 refine FCall.cps [(r,.row [.str ((Prt.h n).t++t)] s)] (fun _:Unit=>.int .i64 n) (fun _=>[(r,.row [.str t] s)]) (fun _=>True) (fun K' hK'=>AInvoke.func ?_) ⟨hr,trivial⟩ (fun _=>rfl) trivial (fun _ _=>⟨trivial,k⟩)
 exact book_hours_ok hn t ht (hK' () trivial)
end
def sideL (n:Int):List UInt8:=if n = -1 then [112] else if n=0 then [107] else [115]
theorem book_isSpan_ok {lo hi a b:Int} (h:a≤lo∧lo≤hi∧hi≤b):APure Pg fn_book_isSpan [.agg [.int .i64 lo,.int .i64 hi],.int .i64 a,.int .i64 b] (.bool true):=by
 refine book_isSpan.e.p (by simp) ?_
 simp[h.1,h.2.1,h.2.2]
 intro s
 exact RetV.wk (nilH_le _) rfl
namespace Hul
theorem c_0 (h:Hul):h.cells.head? = some (LS h.seams):=rfl
end Hul
theorem book_isHull_ok {h:Hul} (hv:h.Valid):APure Pg fn_book_isHull [h.v] (.bool true):=by
 have hn1 :(1:Int)≤h.seams.length:=by have:=hv.n1;unfold Hul.n at this;omega
 have hn6 :(h.seams.length:Int)≤6:=by have:=hv.n6;unfold Hul.n at this;omega
 have hk8 :(h.snds.length:Int)≤8:=by have:=hv.k8;unfold Hul.k at this;omega
 refine book_isHull.e.p (by simp) ?_
 simp
 intro s1
 refine PCallK.intro (PInv.func (book_within_ok _ _ _)) ?_
 simp[hn1,hn6,hk8]
 have hpos:1≤h.seams.length:=by omega
 refine Lp.intro (σ:=Nat) (inv:=fun k=>k≤h.seams.length) (vw:=fun k=>[(1,.ptr 1 0 (s1+1)),(3,.bool true),(19,LS h.seams),(20,.int .i64 h.seams.length),(21,.int .i64 k)]) (hp:=fun _=>[(1,.row [LS h.seams,LD h.snds] (s1+1))]) (ms:=fun k=>h.seams.length - k) 0 (Nat.zero_le _) (by simp[hpos]) (by simp) ?_
 intro k hk J hJ
 by_cases hkl:k<h.seams.length
 ·obtain ⟨a,ha⟩ : ∃a,a=h.seams[k]:=⟨_,rfl⟩
  obtain ⟨h1,h2,h3⟩:=hv.sm a (by rw[ha];simp)
  simp[hkl,←ha]
  refine ⟨by omega,fun s5=>?_⟩
  refine PCallK.intro (PInv.func (book_within_ok _ _ _)) ?_
  simp[h1]
  refine PCallK.intro (PInv.func (book_within_ok _ _ _)) ?_
  simp[h2]
  refine PCallK.intro (PInv.func (book_within_ok _ _ _)) ?_
  simp[h3]
  (repeat first|refine And.intro (by omega) ?_|refine And.intro (Fits.of (by omega) (by omega)) ?_)
  exact hJ.next (k+1) hkl (by omega) (by simp) (by simp)
 simp[hkl]
 refine hJ.exit ?_
 simp
 refine Lp.intro (σ:=Nat) (inv:=fun k=>k≤h.snds.length) (vw:=fun k=>[(3,.bool true),(43,LD h.snds),(44,.int .i64 h.snds.length),(45,.int .i64 k)]) (hp:=fun _=>[]) (ms:=fun k=>h.snds.length - k) 0 (Nat.zero_le _) (by simp) (by simp) ?_
 intro k hk J2 hJ2
 by_cases hkl:k<h.snds.length
 ·obtain ⟨a,ha⟩ : ∃a,a=h.snds[k]:=⟨_,rfl⟩
  obtain ⟨⟨h1,h2⟩,h3⟩:=hv.sd a (by rw[ha];simp)
  simp[hkl,←ha]
  refine ⟨by omega,fun s5=>?_⟩
  refine PCallK.intro (PInv.func (book_within_ok _ _ _)) ?_
  simp[h1]
  refine PCallK.intro (PInv.func (book_within_ok _ _ _)) ?_
  simp[h2]
  refine PCallK.intro (PInv.func (book_isSpan_ok h3)) ?_
  simp
  (repeat first|refine And.intro (by omega) ?_|refine And.intro (Fits.of (by omega) (by omega)) ?_)
  exact hJ2.next (k+1) hkl (by omega) (by simp) (by simp)
 simp[hkl]
 refine hJ2.exit ?_
 simp
 exact RetV.wk (nilH_le _) rfl
def seamT (a:Sm):List UInt8:=32 ::(Lib.itoa a.h++(sideL a.s++Lib.itoa a.m))
def seamsT (l:List Sm):List UInt8:=l.flatMap seamT
def sndT (a:Sd):List UInt8:=Lib.itoa a.d++(32 ::(Lib.itoa a.l++(32 ::(Prt.sp a.lo a.hi).t)))
def sndsT (l:List Sd):List UInt8:=l.flatMap fun a=>sndT a++[10]
def hulTxt (h:Hul):List UInt8:=[104,117,108,108]++(seamsT h.seams++(10::sndsT h.snds))
theorem seamT_prts (a:Sm):prtsT [.s [32],.i a.h,.s (sideL a.s),.i a.m]=seamT a:=by simp[prtsT,Prt.t,seamT]
theorem sndT_prts (a:Sd):prtsT [.i a.d,.s [32],.i a.l,.s [32],.sp a.lo a.hi,.s [10]]=sndT a++[10]:=by simp[prtsT,Prt.t,sndT]
theorem itoa_small {n:Int} (h : -99≤n∧n≤99) :(Lib.itoa n).length≤3:=by
 unfold Lib.itoa
 split
 ·have:=dec_len 2 n.natAbs (by omega) (by omega);simp;omega
 ·have:=dec_len 2 n.toNat (by omega) (by omega);omega
theorem sp_small {lo hi:Int} (h1 : -99≤lo∧lo≤99) (h2 : -99≤hi∧hi≤99) :(Prt.sp lo hi).t.length≤8:=by
 have:=itoa_small h1
 have:=itoa_small h2
 simp only[Prt.t,List.length_append]
 split<;>simp<;>omega
theorem sideL_len (n:Int) :(sideL n).length=1:=by unfold sideL;repeat' split
                                                  all_goals rfl
theorem seamT_len {a:Sm} (h:Hul.OkS a) :(seamT a).length≤8:=by
 obtain ⟨h1,_,h3⟩:=h
 have:=itoa_small (n:=a.h) (by omega)
 have:=itoa_small (n:=a.m) (by omega)
 simp[seamT,sideL_len];omega
theorem sndT_len {a:Sd} (h:Hul.OkD a) :(sndT a).length≤16:=by
 obtain ⟨⟨h1,h2⟩,h3⟩:=h
 have:=itoa_small (n:=a.d) (by omega)
 have:=itoa_small (n:=a.l) (by omega)
 have:=sp_small (lo:=a.lo) (hi:=a.hi) (by omega) (by omega)
 simp[sndT];omega
theorem flat_len {α:Type} {g:α→List UInt8} {m:Nat} : ∀{l:List α},(∀a∈l,(g a).length≤m)→(l.flatMap g).length≤l.length*m
 | [],_=>by simp
 | a::l,h=>by
   have:=flat_len (l:=l) (fun b hb=>h b (by simp[hb]))
   have:=h a (by simp)
   simp only[List.flatMap_cons,List.length_append,List.length_cons,Nat.add_mul]
   omega
theorem flat_snoc {α:Type} (g:α→List UInt8) {l:List α} {k:Nat} (h:k<l.length) :(l.take (k+1)).flatMap g =(l.take k).flatMap g++g l[k]:=by
 rw[←List.take_append_getElem h,List.flatMap_append];simp
theorem flat_take {α:Type} (g:α→List UInt8) (l:List α) (k:Nat) :((l.take k).flatMap g).length≤(l.flatMap g).length:=by
 conv=>rhs;rw[←List.take_append_drop k l,List.flatMap_append]
 simp
theorem book_hulls_3_ok {h:Hul} (hv:h.Valid):APure Pg fn_book_hulls_3 [h.v] (.str (hulTxt h)):=by
 have hn6:h.seams.length≤6:=hv.n6
 have hk8:h.snds.length≤8:=hv.k8
 have hl1 :(seamsT h.seams).length≤h.seams.length*8:=flat_len fun a ha=>seamT_len (hv.sm a ha)
 have hl2 :(sndsT h.snds).length≤h.snds.length*17:=flat_len fun a ha=>by have:=sndT_len (hv.sd a ha);simp;omega
 refine book_hulls_3.e.p (by simp) ?_
 simp
 intro s1
 refine Lp.intro (σ:=Nat) (inv:=fun k=>k≤h.seams.length) (vw:=fun k=>[(1,.ptr 1 0 (s1+1)),(3,.str ([104,117,108,108]++seamsT (h.seams.take k))),(9,LS h.seams),(10,.int .i64 h.seams.length),(11,.int .i64 k)]) (hp:=fun _=>[(1,.row [LS h.seams,LD h.snds] (s1+1))]) (ms:=fun k=>h.seams.length - k) 0 (Nat.zero_le _) (by simp[seamsT]) (by simp) ?_
 intro k hk J hJ
 by_cases hkl:k<h.seams.length
 ·obtain ⟨a,ha⟩ : ∃a,a=h.seams[k]:=⟨_,rfl⟩
  have hoa:=hv.sm a (by rw[ha];simp)
  obtain ⟨h1,h2,h3⟩:=hoa
  have htk:=flat_snoc seamT hkl
  rw[←ha] at htk
  have hle :(seamsT (h.seams.take (k+1))).length≤(seamsT h.seams).length:=flat_take _ _ _
  unfold seamsT at hle hl1
  rw[htk,List.length_append] at hle
  have hsd:=book_said_ok [.s [32],.i a.h,.s (sideL a.s),.i a.m] (by simp) (by simp[Prt.Ok];omega) (by rw[seamT_prts];have:=seamT_len ⟨h1,h2,h3⟩;omega)
  rw[seamT_prts] at hsd
  have hside:[AVal.str [112],.str [107],.str [115]][(a.s+1).toNat]? = some (.str (sideL a.s)):=by
   rcases (show a.s = -1∨a.s=0∨a.s=1 by omega) with e|e|e<;>rw[e]<;>rfl
  simp only[prtsV,Prt.v,List.length_cons,List.length_nil,List.map_cons,List.map_nil] at hsd
  simp[hkl,←ha]
  refine ⟨by omega,fun s5=>⟨by unfold Fits;omega,⟨by omega,by omega⟩,?_⟩⟩
  rw[hside]
  simp
  intro s29
  refine FCall.frz1 (v:=.str (seamT a)) 29 (cells:=[.iface 9 (.str [32]),.iface 3 (.int .i64 a.h),.iface 9 (.str (sideL a.s)),.iface 3 (.int .i64 a.m)]) (s:=s29+1) (by simp) (PInv.func (by simpa using hsd)) (by simp) ?_
  simp
  refine ⟨by unfold seamsT;omega,by unfold Fits;omega,?_⟩
  exact hJ.next (k+1) hkl (by omega) (by simp[seamsT,htk]) (by simp)
 have hkl':k=h.seams.length:=by omega
 subst hkl'
 rw[List.take_length]
 simp
 refine hJ.exit ?_
 simp
 refine ⟨by omega,?_⟩
 obtain ⟨pr,hpr⟩ : ∃pr,pr=[104,117,108,108]++(seamsT h.seams++[10]):=⟨_,rfl⟩
 have hprl:pr.length≤60:=by rw[hpr];simp;omega
 refine Lp.intro (σ:=Nat) (inv:=fun k=>k≤h.snds.length) (vw:=fun k=>[(3,.str (pr++sndsT (h.snds.take k))),(36,LD h.snds),(37,.int .i64 h.snds.length),(38,.int .i64 k)]) (hp:=fun _=>[]) (ms:=fun k=>h.snds.length - k) 0 (Nat.zero_le _) (by simp[sndsT,hpr]) (by simp) ?_
 intro k hk J2 hJ2
 by_cases hkl:k<h.snds.length
 ·obtain ⟨a,ha⟩ : ∃a,a=h.snds[k]:=⟨_,rfl⟩
  have hoa:=hv.sd a (by rw[ha];simp)
  obtain ⟨⟨h1,h2⟩,h3⟩:=hoa
  have htk:=flat_snoc (fun a=>sndT a++[10]) hkl
  simp only[←ha] at htk
  have hle :(sndsT (h.snds.take (k+1))).length≤(sndsT h.snds).length:=flat_take _ _ _
  unfold sndsT at hle hl2
  rw[htk,List.length_append] at hle
  have hsd:=book_said_ok [.i a.d,.s [32],.i a.l,.s [32],.sp a.lo a.hi,.s [10]] (by simp) (by simp[Prt.Ok];omega) (by rw[sndT_prts];have:=sndT_len ⟨⟨h1,h2⟩,h3⟩;simp;omega)
  rw[sndT_prts] at hsd
  simp only[prtsV,Prt.v,List.length_cons,List.length_nil,List.map_cons,List.map_nil] at hsd
  simp[hkl,←ha]
  refine ⟨by omega,fun s7 s55=>?_⟩
  have e1 :(sndT a++[(10:UInt8)]).length =(sndT a).length+1:=by simp
  rw[e1] at hle
  have hfit:pr.length+(sndsT (List.take k h.snds)).length+((sndT a).length+1)≤9223372036854775807:=by unfold sndsT;omega
  refine FCall.frz1 (v:=.str (sndT a++[10])) 55 (cells:=[.iface 3 (.int .i64 a.d),.iface 9 (.str [32]),.iface 3 (.int .i64 a.l),.iface 9 (.str [32]),.iface 52 (.agg [.int .i64 a.lo,.int .i64 a.hi]),.iface 9 (.str [10])]) (s:=s55+1) (by simp) (PInv.func (by simpa using hsd)) (by simp) ?_
  simp
  refine ⟨hfit,by unfold Fits;omega,?_⟩
  exact hJ2.next (k+1) hkl (by omega) (by simp[sndsT,htk]) (by simp)
 have hkl':k=h.snds.length:=by omega
 subst hkl'
 rw[List.take_length]
 simp
 refine hJ2.exit ?_
 simp
 exact RetV.wk (nilH_le _) (by simp[hulTxt,hpr])
def fileH : AVal:=.agg [.int .i64 1,.vl 2 [.str [104,117,108,108],.func (.func fn_book_hulls_1) [] [],.str [],.func (.func fn_book_hulls_2) [] []],.func (.func fn_book_hulls_3) [] [],.func (.func fn_book_isHull) [] []]
theorem book_hulls_ok : APure Pg fn_book_hulls [] fileH:=by
 refine book_hulls.e.p (by simp) ?_
 simp
 intro s0 s3
 refine RetV.frz 3 (cells:=[.str [104,117,108,108],.func (.func fn_book_hulls_1) [] [],.str [],.func (.func fn_book_hulls_2) [] []]) (s:=s3+1) (by simp) ?_
 exact RetV.wk (nilH_le _) (by simp[fileH])
theorem book_write_Hull_ok {h:Hul} (hv:h.Valid):APure Pg fn_book_write_api_Hull [fileH,h.v] (.str (hulTxt h)):=by
 refine book_write_api_Hull.e.p (by simp) ?_
 simp[fileH]
 intro s2 s3
 refine FCall.pure (v:=.bool true) (PInv.func (by simpa using book_isHull_ok hv)) ?_
 simp
 refine FCall.pure (PInv.func (book_ask_ok _)) ?_
 simp
 refine FCall.pure (v:=.str (hulTxt h)) (PInv.func (by simpa using book_hulls_3_ok hv)) ?_
 simp
 exact RetV.wk (nilH_le _) rfl
theorem book_answer_ok {p:AVal} {h:Heap} {K:Heap→Prop} (k:K h):AAns Pg fn_book_answer .nili p h K:=by
 refine book_answer.ans 0 ?_
 simp
 exact k
theorem book_WriteHull_ok {h:Hul} (hv:h.Valid):APure Pg fn_book_WriteHull [h.v] (.tup [.str (hulTxt h),.int .i64 0]):=by
 refine book_WriteHull.e.p (by simp) ?_
 simp
 intro s1 s3
 refine FCall.pure' (PInv.func book_hulls_ok) (by simp) (by simp) ?_
 simp
 refine FCall.pure (v:=.str (hulTxt h)) (PInv.func (by simpa using book_write_Hull_ok hv)) ?_
 simp
 refine RetA.ret rfl (book_answer_ok ?_)
 simp
 exact RetV.wk (nilH_le _) rfl
end Go.Cw
end
section
namespace Go.Cw
open Go Go.Proofs
theorem cut_at {a sep b:List UInt8} (h:∀j,j<a.length→Lib.occAt (a++(sep++b)) sep j=false):Lib.cut (a++(sep++b)) sep =(a,b,true):=by
 have hi:Lib.index (a++(sep++b)) sep=a.length:=Lib.index_first (by simp) (by
  simp only[Lib.occAt,List.drop_left]
  rw[List.isPrefixOf_iff_prefix];exact List.prefix_append _ _) h
 unfold Lib.cut
 rw[hi,if_pos (Int.natCast_nonneg _)]
 simp
theorem occ_no {s sep:List UInt8} {c:UInt8} {tl:List UInt8} (hs:sep=c::tl) {j:Nat} (h:s[j]?≠some c):Lib.occAt s sep j=false:=by
 subst hs
 unfold Lib.occAt
 rw[Bool.eq_false_iff]
 intro hp
 rw[List.isPrefixOf_iff_prefix] at hp
 obtain ⟨q,hq⟩:=hp
 apply h
 rw[←List.head?_drop,←hq];rfl
def joinL (l:List (List UInt8)):List UInt8:=l.flatMap fun x=>x++[10]
theorem joinL_append (a b:List (List UInt8)):joinL (a++b)=joinL a++joinL b:=by simp[joinL]
theorem joinL_drop_le (l:List (List UInt8)) (k:Nat) :(joinL (l.drop k)).length≤(joinL l).length:=by
 conv=>rhs;rw[←List.take_append_drop k l,joinL_append,List.length_append]
 omega
theorem cut_line {a b:List UInt8} (h :(10:UInt8)∉a):Lib.cut (a++([10]++b)) [10] =(a,b,true):=
 cut_at fun j hj=>occ_no (c:=10) rfl (by
  rw[List.getElem?_append_left hj,List.getElem?_eq_getElem hj]
  intro e
  have:a[j]=10:=by simpa using e
  exact h (this ▸ List.getElem_mem hj))
def lnV (s:Nat):AVal:=.func (.func fn_book_lines_1) [] [.ptr 201 0 s]
theorem book_lines_ok (text:List UInt8) {K:AEnd→Heap→Prop} (k:∀s,K (.ret (lnV s)) (hpV [(201,.row [.str text] s)])):ACalls Pg fn_book_lines [.str text] nilH K:=by
 refine book_lines.e 200 (by simp) ?_
 simp
 intro s1
 exact RetV.view [(201,.row [.str text] (s1+1))] (by simp) (k (s1+1))
theorem book_lines_1_ok (ls:List (List UInt8)) (hn:∀x∈ls,(10:UInt8)∉x) (hlen :(joinL ls).length≤1000) (sl:Nat) {τ:Type} (row:τ→List (Nat×AObj)) (hb:RowsB row 200) (yr ys:Nat) (I:Nat→τ→Prop)
 (hy:∀k t x,I k t→ls[k]? = some x→∀K:AEnd→Heap→Prop,(∀t',I (k+1) t'→K (.ret (.bool true)) (hpV ((201,.row [.str (joinL (ls.drop (k+1)))] sl)::row t')))→
   AInvoke Pg (.yield yr ys) [.str x] (hpV ((201,.row [.str (joinL (ls.drop (k+1)))] sl)::row t)) K)
 (t₀:τ) (h0:I 0 t₀) (K:AEnd→Heap→Prop) (hK:∀t,I ls.length t→K (.ret (.tup [])) (hpV ((201,.row [.str []] sl)::row t))) :
 ACalls Pg fn_book_lines_1 [.yield yr ys,.ptr 201 0 sl] (hpV ((201,.row [.str (joinL ls)] sl)::row t₀)) K:=by
 refine book_lines_1.e 300 (by simp) ?_
 simp
 refine Lp.intro (σ:=Nat×τ) (inv:=fun x=>x.1≤ls.length∧I x.1 x.2) (vw:=fun _=>[(0,.yield yr ys),(1,.ptr 201 0 sl)]) (hp:=fun x=>(201,.row [.str (joinL (ls.drop x.1))] sl)::row x.2) (ms:=fun x=>ls.length - x.1) (0,t₀)
  ⟨Nat.zero_le _,h0⟩ (by simp) (by simp[hb.upd,hb.self]) ?_
 rintro ⟨k,t⟩ ⟨hk,hI⟩ J hJ
 simp only at hk hI
 by_cases hkl:k<ls.length
 ·obtain ⟨x,hx⟩ : ∃x,x=ls[k]:=⟨_,rfl⟩
  have hd:joinL (ls.drop k)=x++([10]++joinL (ls.drop (k+1))):=by rw[List.drop_eq_getElem_cons hkl,←hx];simp[joinL]
  have hc:=cut_line (b:=joinL (ls.drop (k+1))) (hn x (by rw[hx];simp))
  have hcut:=strings_Cut_ok (s:=x++([10]++joinL (ls.drop (k+1)))) (sep:=[10]) (by
   rw[←hd]
   have:=joinL_drop_le ls k
   omega)
  rw[hc] at hcut
  have hlp:0<(x++([10]++joinL (ls.drop (k+1)))).length  :=by simp;omega
  simp only[hd] at hJ ⊢
  obtain ⟨tx,htx⟩ : ∃tx,tx=x++([10]++joinL (ls.drop (k+1))):=⟨_,rfl⟩
  rw[←htx] at hcut hlp ⊢
  simp[hlp]
  refine PCallK.intro (PInv.func hcut) ?_
  simp
  refine FCall.pure (PInv.func (book_ask_ok _)) ?_
  simp
  refine FCall.cps (σ:={t':τ // I (k+1) t'}) ((201,.row [.str (joinL (ls.drop (k+1)))] sl)::row t) (fun _=>.bool true) (fun t'=>(201,.row [.str (joinL (ls.drop (k+1)))] sl)::row t'.1) (fun _=>True)
   (fun K' hK'=>hy k t x hI (by rw[hx];simp) K' fun t' ht'=>hK' ⟨t',ht'⟩ trivial) (by simp[hb.upd,hb.self]) (fun t'=>by simp[hb.hn t'.1 t]) trivial (fun t' _=>⟨trivial,?_⟩)
  obtain ⟨t',ht'⟩:=t'
  simp
  exact hJ.next (k+1,t') ⟨hkl,ht'⟩ (by simp;omega) (by simp) (by simp[hb.upd,hb.updL,hb.updL_self])
 ·obtain rfl:k=ls.length:=by omega
  simp[joinL]
  refine hJ.exit ?_
  simp
  exact RetV.view ((201,.row [.str []] sl)::row t) (by simp[hb.upd,hb.self]) (hK t hI)
end Go.Cw
end
section
namespace Go.Cw
open Go Go.Proofs
section
variable {F n₀:Nat} {inr:Bool} {keep:List Nat} {d:Option Nat} {K:KT} {Q:Post} {tm:TM} {df:DF} {hp:Heap} {r s:Nat} {fl:List It}
theorem FCall.numberB {n:Int} {t:List UInt8} (hr:hp r=.row [.str (Lib.itoa n++t)] s) (hn : -99999≤n∧n≤99999) (ht:∀c,t.head? = some c→¬isDig c) (k:FlOk fl (putD tm d (.int .i64 n)) (upd hp r (.row [.str t] s))∧K (putD tm d (.int .i64 n)) df (upd hp r (.row [.str t] s))) :
 FCall ⟨Pg,F,n₀,inr,keep⟩ (.func (.func fn_book_reader_number) [.ptr r 0 s] []) [] [] fl d K Q tm df hp:=by
 refine FCall.cps [(r,.row [.str (Lib.itoa n++t)] s)] (fun _:Unit=>.int .i64 n) (fun _=>[(r,.row [.str t] s)]) (fun _=>True) (fun K' hK'=>AInvoke.func ?_) ⟨hr,trivial⟩ (fun _=>rfl) trivial (fun _ _=>k)
 exact book_number_ok n hn t ht (hK' () trivial)
theorem FCall.side {n:Int} {t:List UInt8} (hrl:r<200) (hr:hp r=.row [.str (sideL n++t)] s) (hn : -1≤n∧n≤1) (k:FlOk fl (putD tm d (.int .i64 n)) (upd hp r (.row [.str t] s))∧K (putD tm d (.int .i64 n)) df (upd hp r (.row [.str t] s))) :
 FCall ⟨Pg,F,n₀,inr,keep⟩ (.func (.func fn_book_reader_side) [] []) [.ptr r 0 s] [] fl d K Q tm df hp:=by
 refine FCall.cps [(r,.row [.str (sideL n++t)] s)] (fun _:Unit=>.int .i64 n) (fun _=>[(r,.row [.str t] s)]) (fun _=>True) (fun K' hK'=>AInvoke.func ?_) ⟨hr,trivial⟩ (fun _=>rfl) trivial (fun _ _=>k)
 exact book_side_ok hrl hn (sideL n) rfl t (hK' () trivial)
end
theorem book_hulls_1_ok (l:List Sm) (hl:l.length≤6) (hv:∀a∈l,Hul.OkS a) {sx sr:Nat} (v2:AVal) {K:AEnd→Heap→Prop}
 (k:∀s',K (.ret (.tup [])) (hpV [(4,.row [gS 3 122 l.length s',v2] sx),(17,.row [.str []] sr),(122,gO l.length (sms l) s')])) :
 ACalls Pg fn_book_hulls_1 [.ptr 4 0 sx,.ptr 17 0 sr] (hpV [(4,.row [.es,v2] sx),(17,.row [.str (seamsT l)] sr)]) K:=by
 refine book_hulls_1.e 100 (by simp) ?_
 simp
 refine Lp.intro (σ:=Nat×Nat) (inv:=fun x=>x.1≤l.length) (vw:=fun _=>[(0,.ptr 4 0 sx),(1,.ptr 17 0 sr),(4,.func (.func fn_book_reader_number) [.ptr 17 0 sr] [])])
  (hp:=fun x=>[(4,.row [gS 3 122 x.1 x.2,v2] sx),(17,.row [.str (seamsT (l.drop x.1))] sr),(122,gO x.1 (sms (l.take x.1)) x.2)]) (ms:=fun x=>l.length - x.1) (0,0) (Nat.zero_le _) (by simp) (by simp) ?_
 rintro ⟨i,st⟩ hi J hJ
 simp only at hi
 by_cases hil:i<l.length
 ·obtain ⟨a,ha⟩ : ∃a,a=l[i]:=⟨_,rfl⟩
  obtain ⟨h1,h2,h3⟩:=hv a (by rw[ha];simp)
  have hd:seamsT (l.drop i)=[32]++(Lib.itoa a.h++(sideL a.s++(Lib.itoa a.m++seamsT (l.drop (i+1))))):=by
   rw[List.drop_eq_getElem_cons hil,←ha];simp[seamsT,seamT]
  have hs1:∀c,(sideL a.s++(Lib.itoa a.m++seamsT (l.drop (i+1)))).head? = some c→¬isDig c:=by
   intro c hc
   unfold sideL at hc
   split at hc
   ·cases hc;decide
   split at hc
   ·cases hc;decide
   ·cases hc;decide
  have hs2:∀c,(seamsT (l.drop (i+1))).head? = some c→¬isDig c:=by
   intro c hc
   cases hq:l.drop (i+1) with
   | nil=>rw[hq] at hc;cases hc
   | cons b q=>rw[hq] at hc;simp[seamsT,seamT] at hc;subst hc;decide
  simp
  refine FCall.sees (rest:=[32]++(Lib.itoa a.h++(sideL a.s++(Lib.itoa a.m++seamsT (l.drop (i+1)))))) (by simp[hd]) ?_
  rw[pre_app,aft_app]
  simp
  refine FCall.numberB (n:=a.h) (t:=sideL a.s++(Lib.itoa a.m++seamsT (l.drop (i+1)))) (by simp) (by omega) hs1 ?_
  simp
  refine FCall.side (n:=a.s) (t:=Lib.itoa a.m++seamsT (l.drop (i+1))) (by omega) (by simp) h2 ?_
  simp
  refine FCall.numberB (n:=a.m) (t:=seamsT (l.drop (i+1))) (by simp) (by omega) hs2 ?_
  simp
  intro s21 s22
  refine xApN_gS (cells:=sms (l.take i)) (by simp) (by simp;omega) (by omega) (by omega) ?_
  have hone:sms (l.take i)++[.int .i64 a.h,.int .i64 a.s,.int .i64 a.m]=sms (l.take (i+1)):=by
   rw[←List.take_append_getElem hil,←ha];exact fl_one (f:=Sm.c) _ a
  simp
  exact hJ.next (i+1,s22+1) hil (by simp;omega) (by simp) (by simp[hone])
 ·obtain rfl:i=l.length:=by omega
  simp[seamsT]
  refine FCall.sees (rest:=[]) (by simp) ?_
  have hp:pre [32] []=false:=rfl
  simp[hp,aft_no hp]
  refine hJ.exit ?_
  simp
  exact RetV.view [(4,.row [gS 3 122 l.length st,v2] sx),(17,.row [.str []] sr),(122,gO l.length (sms l) st)] (by simp) (k st)
theorem book_hulls_2_ok (a:Sd) (hv:Hul.OkD a) (l:List Sd) (hl:l.length≤7) {sx sr st:Nat} (v1:AVal) {K:AEnd→Heap→Prop}
 (k:∀s',K (.ret (.tup [])) (hpV [(4,.row [v1,gS 4 125 (l.length+1) s'] sx),(17,.row [.str []] sr),(125,gO (l.length+1) (sds (l++[a])) s')])) :
 ACalls Pg fn_book_hulls_2 [.ptr 4 0 sx,.ptr 17 0 sr] (hpV [(4,.row [v1,gS 4 125 l.length st] sx),(17,.row [.str (sndT a)] sr),(125,gO l.length (sds l) st)]) K:=by
 obtain ⟨⟨h1,h2⟩,h3⟩:=hv
 refine book_hulls_2.e 100 (by simp) ?_
 simp
 have hd:sndT a=Lib.itoa a.d++([32]++(Lib.itoa a.l++([32]++((Prt.sp a.lo a.hi).t++[])))):=by simp[sndT]
 refine FCall.number (n:=a.d) (t:=[32]++(Lib.itoa a.l++([32]++((Prt.sp a.lo a.hi).t++[])))) (by simp[hd]) (by omega) (fun c hc=>by cases hc;decide) ?_
 simp
 intro s4
 refine FCall.word (p:=[32]) (t:=Lib.itoa a.l++([32]++((Prt.sp a.lo a.hi).t++[]))) (by simp) ?_
 simp
 refine FCall.number (n:=a.l) (t:=[32]++((Prt.sp a.lo a.hi).t++[])) (by simp) (by omega) (fun c hc=>by cases hc;decide) ?_
 simp
 refine FCall.word (p:=[32]) (t:=(Prt.sp a.lo a.hi).t++[]) (by simp) ?_
 simp
 refine FCall.span (lo:=a.lo) (hi:=a.hi) (t:=[]) (by omega) (by simp) (by omega) (by omega) Stops.nil.sp ?_
 simp
 intro s24 s25
 refine xApN_gS (cells:=sds l) (by simp) (by simp) (by omega) (by omega) ?_
 have hone:sds l++[.int .i64 a.d,.int .i64 a.l,.int .i64 a.lo,.int .i64 a.hi]=sds (l++[a]):=fl_one (f:=Sd.c) l a
 simp
 exact RetV.view [(4,.row [v1,gS 4 125 (l.length+1) (s25+1)] sx),(17,.row [.str []] sr),(125,gO (l.length+1) (sds (l++[a])) (s25+1))] (by simp[hone]) (k (s25+1))
end Go.Cw
end
section
namespace Go.Cw
open Go Go.Proofs
theorem Sl.toV {n:Nat} {K:KT} {tm:TM} {df:DF} {h:Heap} (l:List (Nat×AVal)) (k:List (Nat×AObj)) (en:Sl n (fun tm' df' h'=>df'=df∧Vw l tm'∧Hw k h') tm df h) (hK:K (tmV l) df (hpV k)):Sl n K tm df h:=by
 obtain ⟨tm₁,df₁,h₁,a,rfl,hv,hh⟩:=en
 exact ⟨_,_,_,a.trans (SLe.view hv hh),hK⟩
@[simp] theorem frzO_dfr (r s:Nat) (cells:List AVal) (b:Bool) (s':Nat):frzO r s cells (.dfr b s')=.dfr b s':=(rfl)
@[simp] theorem frzL_sds' (r s:Nat) (cells:List AVal) (l:List Sd):frzL r s cells (sds l)=sds l:=by
 induction l with
 | nil=>rfl
 | cons a l ih=>rw[show sds (a::l)=a.c++sds l from fl_cons a l,frzL_map,List.map_append,←frzL_map,←frzL_map,ih];rfl
theorem itoa_chars (n:Int):∀c∈Lib.itoa n,isDig c∨c=45:=by
 intro c hc
 unfold Lib.itoa at hc
 split at hc
 ·rcases List.mem_cons.1 hc with h|h
  ·exact .inr h
  ·exact .inl ((dec_spec _).1 c h)
 ·exact .inl ((dec_spec _).1 c hc)
theorem itoa_no10 (n:Int) :(10:UInt8)∉Lib.itoa n:=fun h=>by
 rcases itoa_chars n 10 h with h|h
 ·revert h;decide
 ·revert h;decide
theorem sp_no10 (lo hi:Int) :(10:UInt8)∉(Prt.sp lo hi).t:=by
 unfold Prt.t
 simp only[List.mem_append,not_or]
 refine ⟨itoa_no10 _,?_⟩
 split
 ·simp
 ·simp[itoa_no10]
theorem flat_no10 {α:Type} {g:α→List UInt8} {l:List α} (h:∀a∈l,(10:UInt8)∉g a) :(10:UInt8)∉l.flatMap g:=by
 simp only[List.mem_flatMap,not_exists,not_and]
 exact h
theorem sideL_no10 (n:Int) :(10:UInt8)∉sideL n:=by unfold sideL;repeat' split
                                                   all_goals decide
theorem seamsT_no10 (l:List Sm) :(10:UInt8)∉seamsT l:=flat_no10 fun a _=>by simp[seamT,itoa_no10,sideL_no10]
theorem sndT_no10 (a:Sd) :(10:UInt8)∉sndT a:=by simp[sndT,itoa_no10,sp_no10]
@[simp] theorem upd_nilH_dead (r:Nat):upd nilH r .dead=nilH:=by funext x;simp only[upd];split<;>rfl
def hulLs (h:Hul):List (List UInt8):=([104,117,108,108]++seamsT h.seams)::h.snds.map sndT
theorem hulTxt_join (h:Hul):hulTxt h=joinL (hulLs h):=by simp[hulTxt,hulLs,joinL,sndsT,List.flatMap_map]
theorem hulTxt_len {h:Hul} (hv:h.Valid) :(hulTxt h).length≤1000:=by
 have hn6:h.seams.length≤6:=hv.n6
 have hk8:h.snds.length≤8:=hv.k8
 have hl1 :(seamsT h.seams).length≤h.seams.length*8:=flat_len fun a ha=>seamT_len (hv.sm a ha)
 have hl2 :(sndsT h.snds).length≤h.snds.length*17:=flat_len fun a ha=>by have:=sndT_len (hv.sd a ha);simp;omega
 simp[hulTxt];omega
def kindsH : List AVal:=[.str [104,117,108,108],.func (.func fn_book_hulls_1) [] [],.str [],.func (.func fn_book_hulls_2) [] []]
def fileHc : List AVal:=[.int .i64 1,.vl 2 kindsH,.func (.func fn_book_hulls_3) [] [],.func (.func fn_book_isHull) [] []]
theorem fileH_eq : fileH=.agg fileHc:=rfl
def rdH (h:Hul) (s2 s4 s5 sd:Nat) (L:Jm→AObj) (x:Nat×Nat×Nat):List (Nat×AObj):=
 [(2,.row fileHc s2),(4,.row [gS 3 122 (if x.1=0 then 0 else h.seams.length) x.2.1,gS 4 125 (x.1 - 1) x.2.2] s4),(5,.row [.int .i64 (if x.1=0 then 0 else 1)] s5),(100,L .go),(101,.dfr false sd),
   (122,gO (if x.1=0 then 0 else h.seams.length) (sms h.seams) x.2.1),(125,gO (x.1 - 1) (sds (h.snds.take (x.1 - 1))) x.2.2)]
theorem rdH_b (h:Hul) (s2 s4 s5 sd:Nat) (L:Jm→AObj):RowsB (rdH h s2 s4 s5 sd L) 200:=⟨fun _ _=>rfl,fun t x hx=>by simp[rdH] at hx;omega,fun t=>by simp[rdH]⟩
theorem book_read_Hull_ok {h:Hul} (hv:h.Valid):APure Pg fn_book_read_api_Hull [fileH,.str (hulTxt h)] h.v:=by
 have hn6:h.seams.length≤6:=hv.n6
 have hn1:1≤h.seams.length:=hv.n1
 have hk8:h.snds.length≤8:=hv.k8
 have hlen:=hulTxt_len hv
 have hlz :((hulTxt h).length:Int)≤1000:=by omega
 refine book_read_api_Hull.e.p (by simp) ?_
 rw[fileH_eq]
 simp[fileHc]
 intro s2 s4
 simp[hlz]
 refine FCall.pure (PInv.func (book_ask_ok _)) ?_
 simp
 intro s5
 refine FCall.cps [(201,.dead)] (fun x:Nat=>lnV x) (fun x=>[(201,.row [.str (hulTxt h)] x)]) (fun _=>True) (fun K' hK'=>AInvoke.func ?_) (by simp) (fun _=>rfl) (by simp) (fun sl1 _=>⟨by simp,?_⟩)
 ·rw[dead1]
  exact book_lines_ok (hulTxt h) fun x=>hK' x trivial
 simp[lnV]
 refine RF.intro 100 101 rfl (by simp) (by simp) (by simp) fun sl sd LO LB yl=>?_
 obtain ⟨row,hrow⟩ : ∃row,row=rdH h (s2+1) (s4+1) (s5+1) sd LO:=⟨_,rfl⟩
 have hrb:RowsB row 200:=by rw[hrow];exact rdH_b _ _ _ _ _ _
 have hrowe:∀t,row t=rdH h (s2+1) (s4+1) (s5+1) sd LO t:=fun t=>by rw[hrow]
 refine ACalls.rowLe 4 (cells:=[.nils,.nils]) (s:=s4+1) [.es,.es] (by simp) ⟨ALe.nils_es,ALe.nils_es,trivial⟩ ?_
 refine ACalls.cps (σ:=Nat×Nat×Nat) ((201,.row [.str (joinL (hulLs h))] sl1)::row (0,0,0)) (fun _=>.tup []) (fun t=>(201,.row [.str []] sl1)::row t) (fun t=>t.1 =(hulLs h).length) (fun K' hK'=>?_) (by rw[hrowe];simp[rdH,fileHc,hulTxt_join]) (fun t=>by rw[hrowe,hrowe];rfl) fun t ht=>?_
 ·refine book_lines_1_ok (hulLs h) ?_ (by rw[←hulTxt_join];exact hlen) sl1 row hrb 100 sl (fun i t=>t.1=i) (fun i t x hI hx K0 hgo=>?_) (0,0,0) rfl K' (fun t ht=>hK' t ht)
  ·intro x hx
   simp only[hulLs,List.mem_cons,List.mem_map] at hx
   rcases hx with rfl|⟨a,_,rfl⟩
   ·simp[seamsT_no10]
   ·exact sndT_no10 a
  ·obtain ⟨i',sa,sb⟩:=t
   obtain rfl:i'=i:=hI
   refine AInvoke.wk (yl _ _ _ rfl (by rw[hrowe];simp[rdH]) ?_)
   rw[hrowe]
   cases i' with
   | zero=>
     have hx0:x=[104,117,108,108]++seamsT h.seams:=by simpa[hulLs] using hx.symm
     subst hx0
     simp[rdH,fileHc]
     intro s17
     refine Lp.rounds 1 (LpI.round fun J hJ=>?_)
     simp[kindsH]
     refine FCall.sees (rest:=[104,117,108,108]++seamsT h.seams) (by simp) ?_
     rw[pre_app,aft_app]
     simp
     refine hJ.exit ?_
     simp
     refine FCall.pure (PInv.func (book_ask_ok _)) ?_
     simp
     refine FCall.cps (σ:=Nat) [(4,.row [.es,.es] (s4+1)),(17,.row [.str (seamsT h.seams)] (s17+1)),(122,.dead)] (fun _=>.tup []) (fun s'=>[(4,.row [gS 3 122 h.seams.length s',.es] (s4+1)),(17,.row [.str []] (s17+1)),(122,gO h.seams.length (sms h.seams) s')]) (fun _=>True)
      (fun K1 hK1=>AInvoke.func ?_) (by simp) (fun _=>rfl) (by simp) (fun s' _=>⟨by simp,?_⟩)
     ·have:=book_hulls_1_ok h.seams hn6 hv.sm (sx:=s4+1) (sr:=s17+1) .es (K:=K1) (fun s'=>hK1 s' trivial)
      simpa using this
     simp
     refine FCall.pure (PInv.func (book_ask_ok _)) ?_
     simp
     (repeat first|refine And.intro (by omega) ?_|refine And.intro (Fits.of (by omega) (by omega)) ?_)
     exact Wk.view ((201,.row [.str (joinL ((hulLs h).drop (0+1)))] sl1)::row (1,s',sb)) (by rw[hrowe];simp[rdH,fileHc,kindsH]) (hgo (1,s',sb) rfl)
   | succ i=>
     have hil:i<h.snds.length:=by
      have:=(List.getElem?_eq_some_iff.1 hx).1
      simpa[hulLs] using this
     obtain ⟨a,ha⟩ : ∃a,a=h.snds[i]:=⟨_,rfl⟩
     have hx0:x=sndT a:=by
      have :(hulLs h)[i+1]? = some (sndT a):=by rw[ha];simp[hulLs,hil]
      rw[hx] at this;simpa using this
     subst hx0
     have hoa:=hv.sd a (by rw[ha];simp)
     have htk:h.snds.take i++[a]=h.snds.take (i+1):=by rw[ha];exact List.take_append_getElem hil
     have hti :(h.snds.take i).length=i:=by simp;omega
     simp[rdH,fileHc]
     intro s17
     refine Lp.rounds 1 (LpI.round fun J hJ=>?_)
     simp[kindsH]
     refine FCall.sees (rest:=[]++sndT a) (by simp) ?_
     rw[pre_app,aft_app]
     simp
     refine hJ.exit ?_
     simp
     refine FCall.pure (PInv.func (book_ask_ok _)) ?_
     simp
     refine FCall.cps (σ:=Nat) [(4,.row [gS 3 122 h.seams.length sa,gS 4 125 i sb] (s4+1)),(17,.row [.str (sndT a)] (s17+1)),(125,gO i (sds (h.snds.take i)) sb)] (fun _=>.tup []) (fun s'=>[(4,.row [gS 3 122 h.seams.length sa,gS 4 125 (i+1) s'] (s4+1)),(17,.row [.str []] (s17+1)),(125,gO (i+1) (sds (h.snds.take (i+1))) s')]) (fun _=>True)
      (fun K1 hK1=>AInvoke.func ?_) (by simp) (fun _=>rfl) (by simp) (fun s' _=>⟨by simp,?_⟩)
     ·have:=book_hulls_2_ok a hoa (h.snds.take i) (by omega) (sx:=s4+1) (sr:=s17+1) (st:=sb) (gS 3 122 h.seams.length sa) (K:=K1) (fun s'=>by
       have:=hK1 s' trivial
       rw[hti,htk];exact this)
      rw[hti] at this
      exact this
     simp
     refine FCall.pure (PInv.func (book_ask_ok _)) ?_
     simp
     exact Wk.view ((201,.row [.str (joinL ((hulLs h).drop (i+1+1)))] sl1)::row (i+1+1,sa,s')) (by rw[hrowe];simp[rdH,fileHc,kindsH]) (hgo (i+1+1,sa,s') rfl)
 ·obtain ⟨i,sa,sb⟩:=t
  obtain rfl:i=h.snds.length+1:=by simpa[hulLs] using ht
  refine ⟨.go,by rw[hrowe];simp[rdH],?_⟩
  simp
  rw[hrowe]
  simp[rdH]
  have hsl :(h.seams.length:Nat)>0:=by omega
  refine Sl.toV [(1,.str (hulTxt h)),(2,.ptr 2 0 (s2+1)),(4,.ptr 4 0 (s4+1))] [(2,.row fileHc (s2+1)),(4,.row [LS h.seams,LD h.snds] (s4+1)),(101,.dfr false sd)] ?_ ?_
  ·refine Sl.gSH 122 (m:=h.seams.length) (cells:=sms h.seams) (s:=sa) (by omega) (by simp) ?_
   by_cases hk0:h.snds.length=0
   ·have hsn:h.snds=[]:=List.eq_nil_of_length_eq_zero hk0
    refine Sl.rowLe (cells:=[LS h.seams,.es]) (s:=s4+1) 4 [LS h.seams,.vl 0 []] (by simp[gS_pos hsl,hsn,LS]) ⟨ALe.refl _,ALe.es_vl,trivial⟩ (Sl.refl ⟨rfl,by simp,?_⟩)
    simp[hsn,LD,fileHc,kindsH,sds]
   ·have hk1:0<h.snds.length:=by omega
    refine Sl.gSH 125 (m:=h.snds.length) (cells:=sds h.snds) (s:=sb) (by omega) (by simp) (Sl.refl ⟨rfl,by simp,?_⟩)
    simp[gS_pos hsl,gS_pos hk1,LD,LS,fileHc,kindsH]
  ·simp[fileHc]
   refine FCall.pure (v:=.bool true) (PInv.func (by simpa using book_isHull_ok hv)) ?_
   simp
   refine FCall.pure (v:=.str (hulTxt h)) (PInv.func (by simpa using book_hulls_3_ok hv)) ?_
   simp
   refine FCall.pure (PInv.func (book_ask_ok _)) ?_
   simp
   exact RetV.wk (nilH_le _) rfl
theorem book_ReadHull_ok {h:Hul} (hv:h.Valid):APure Pg fn_book_ReadHull [.str (hulTxt h)] (.tup [h.v,.int .i64 0]):=by
 refine book_ReadHull.e.p (by simp) ?_
 simp
 intro s2 s3
 refine FCall.pure (PInv.func book_hulls_ok) ?_
 simp
 refine FCall.pure (PInv.func (book_read_Hull_ok hv)) ?_
 simp
 refine RetA.ret rfl (book_answer_ok ?_)
 simp
 exact RetV.wk (nilH_le _) rfl
end Go.Cw
end
section
namespace Go.Cw
open Go Go.Proofs
namespace Pit
variable {p : Pit}
theorem Valid.set4 (hv:p.Valid) {n:Int} (h:p.isSet n):∃m:Nat,n=m∧m<4096:=⟨n.toNat,by have:=h.1;omega,hv.set_lt h⟩
end Pit
def potT (a:Pot):List UInt8:=[112,111,116,32]++(Lib.itoa a.h++(32 ::(Lib.itoa a.f++(32::Lib.itoa a.b))))
def fireT (n:Int):List UInt8:=[102,105,114,101]++(Prt.h n.toNat).t
def headT (p:Pit):List UInt8:=[112,105,116,99,104,32]++Lib.itoa p.hr
def perh : List UInt8:=[32,112,101,114,104,97,112,115]
def frostT (p:Pit):List UInt8:=[102,114,111,115,116]++((Prt.h p.fr.toNat).t++(perh++(Prt.h p.pe.toNat).t))
def firesT (l:List Int):List UInt8:=l.flatMap fun n=>fireT n++[10]
def potsT (l:List Pot):List UInt8:=l.flatMap fun a=>potT a++[10]
def pitTxt (p:Pit):List UInt8:=headT p++(10 ::(frostT p++(10 ::(firesT p.fires++potsT p.pots))))
theorem itoa_nat {n:Nat} (h:n<100) :(Lib.itoa (n:Nat)).length≤2:=by
 unfold Lib.itoa
 rw[if_neg (by omega)]
 exact dec_len 2 _ (by simp;omega) (by omega)
theorem hrs_len2 (n:Nat):∀j,j≤12→(Prt.hrs n j).length≤3*j
 | 0,_=>by simp[Prt.hrs]
 | j+1,hh=>by
   have:=hrs_len2 n j (by omega)
   have:=itoa_nat (n:=j) (by omega)
   simp only[Prt.hrs,List.length_append]
   split<;>simp<;>omega
theorem h_len (n:Nat) :(Prt.h n).t.length≤36:=hrs_len2 n 12 (by omega)
theorem headT_prts (p:Pit) (h1:0≤p.fr) (h2:0≤p.pe):prtsT [.s [112,105,116,99,104,32],.i p.hr,.s [10,102,114,111,115,116],.h p.fr.toNat,.s perh,.h p.pe.toNat,.s [10]]=headT p++(10 ::(frostT p++[10])):=by
 simp[prtsT,Prt.t,headT,frostT,perh]
theorem fireT_prts (n:Int):prtsT [.s [102,105,114,101],.h n.toNat,.s [10]]=fireT n++[10]:=by simp[prtsT,Prt.t,fireT]
theorem potT_prts (a:Pot):prtsT [.s [112,111,116,32],.i a.h,.s [32],.i a.f,.s [32],.i a.b,.s [10]]=potT a++[10]:=by simp[prtsT,Prt.t,potT]
theorem fireT_len (n:Int) :(fireT n).length≤40:=by have:=h_len n.toNat;simp[fireT];omega
theorem potT_len {p:Pit} (hv:p.Valid) {a:Pot} (ha:a∈p.pots) :(potT a).length≤15:=by
 obtain ⟨h1,h2,h3⟩:=hv.po a ha
 have hr:=hv.hr
 have:=itoa_small (n:=a.h) (by omega)
 have:=itoa_small (n:=a.f) (by omega)
 have:=itoa_small (n:=a.b) (by omega)
 simp[potT];omega
theorem headT_len {p:Pit} (hv:p.Valid) :(headT p).length≤9:=by
 have hr:=hv.hr
 have:=itoa_small (n:=p.hr) (by omega)
 simp[headT];omega
theorem frostT_len (p:Pit) :(frostT p).length≤85:=by
 have:=h_len p.fr.toNat
 have:=h_len p.pe.toNat
 simp[frostT,perh];omega
theorem firesT_len {p:Pit} (hv:p.Valid) :(firesT p.fires).length≤123:=by
 have h1 :(firesT p.fires).length≤p.fires.length*41:=flat_len fun a _=>by have:=fireT_len a;simp;omega
 have:=hv.nf;omega
theorem potsT_len {p:Pit} (hv:p.Valid) :(potsT p.pots).length≤64:=by
 have h1 :(potsT p.pots).length≤p.pots.length*16:=flat_len fun a ha=>by have:=potT_len hv ha;simp;omega
 have:=hv.np;omega
theorem pitTxt_len {p:Pit} (hv:p.Valid) :(pitTxt p).length≤1000:=by
 have:=headT_len hv
 have:=frostT_len p
 have:=firesT_len hv
 have:=potsT_len hv
 simp[pitTxt];omega
theorem aLen_cpW (esz r s nm s' k n:Nat):aLen (cpW esz r s nm s' k n)=some (.int .i64 ((k+n:Nat):Int)):=by
 unfold cpW
 split
 ·rename_i h;subst h;rfl
 ·rfl
theorem book_isPitch_ok {p:Pit} (hv:p.Valid):APure Pg fn_book_isPitch [p.v] (.bool true):=by
 have hr:=hv.hr
 have hnf :(p.fires.length:Int)≤3:=by have:=hv.nf;omega
 have hnp :(p.pots.length:Int)≤4:=by have:=hv.np;omega
 have hH:p.hr =(p.H:Nat):=by unfold Pit.H;omega
 have hp2:=two_pow_pos p.H
 have hp3 :(2:Int)^p.H≤2^12:=two_pow_le hv.H12
 have hset:∀n∈p.fr::p.pe::p.fires,0≤n∧n≤2^p.H - 1:=by
  intro n hn
  rcases List.mem_cons.1 hn with rfl|hn
  ·exact hv.fr
  rcases List.mem_cons.1 hn with rfl|hn
  ·exact hv.pe
  exact hv.fi n hn
 refine book_isPitch.e.p (by simp) ?_
 simp
 intro s1
 refine PCallK.intro (PInv.func (book_within_ok _ _ _)) ?_
 simp[hr,show ¬(3:Int)<p.fires.length by omega,show ¬(4:Int)<p.pots.length by omega]
 intro s28 s31
 refine xAp_cpW (k:=2) (cs:=[.int .i64 p.fr,.int .i64 p.pe]) (by simp) rfl (by simp) (by omega) ?_
 obtain ⟨l,hl⟩ : ∃l,l=p.fr::p.pe::p.fires:=⟨_,rfl⟩
 have hll:l.length=2+p.fires.length:=by rw[hl];simp;omega
 have hcl:[AVal.int .i64 p.fr,.int .i64 p.pe]++ints p.fires=ints l:=by rw[hl];simp[ints]
 rw[←hl] at hset
 simp[aLen_cpW]
 refine Lp.intro' (σ:=Nat) (inv:=fun k=>k≤l.length) (vw:=fun k=>[(1,.ptr 1 0 (s1+1)),(3,.bool true),(31,L l),(32,.int .i64 l.length),(33,.int .i64 k)]) (hp:=fun _=>[(1,.row p.c (s1+1))]) (ms:=fun k=>l.length - k) 0 (Nat.zero_le _) ?_ ?_
 ·by_cases h0:p.fires.length=0
  ·have hf:p.fires=[]:=List.eq_nil_of_length_eq_zero h0
   refine Sl.frzHp 28 (cells:=[.int .i64 p.fr,.int .i64 p.pe]) (s:=s28+1) (by simp[cpO,hf]) (Sl.refl ?_)
   simp[cpW,cpO,hf,hl,L,ints,Pit.c]
  ·refine Sl.frzHp 31 (cells:=ints l) (s:=s31+1) (by rw[←hcl];simp[cpO,h0]) (Sl.refl ?_)
   simp[cpW,h0,L,hll,Pit.c]
 intro k hk J hJ
 by_cases hkl:k<l.length
 ·have hn:=hset l[k] (by simp)
  have h64:p.hr<64:=by omega
  simp[hkl,hr.1,h64,show p.hr.toNat=p.H from rfl]
  refine ⟨by unfold Fits;omega,by unfold Fits;omega,?_⟩
  refine PCallK.intro (PInv.func (book_within_ok _ _ _)) ?_
  simp[hn]
  (repeat first|refine And.intro (by omega) ?_|refine And.intro (Fits.of (by omega) (by omega)) ?_)
  exact hJ.next (k+1) hkl (by omega) (by simp) (by simp)
 simp[hkl]
 refine hJ.exit ?_
 simp
 refine Lp.intro (σ:=Nat) (inv:=fun k=>k≤p.pots.length) (vw:=fun k=>[(1,.ptr 1 0 (s1+1)),(3,.bool true),(48,LPo p.pots),(49,.int .i64 p.pots.length),(50,.int .i64 k)]) (hp:=fun _=>[(1,.row p.c (s1+1))]) (ms:=fun k=>p.pots.length - k) 0 (Nat.zero_le _) (by simp) (by simp) ?_
 intro k hk J2 hJ2
 by_cases hkl:k<p.pots.length
 ·obtain ⟨a,ha⟩ : ∃a,a=p.pots[k]:=⟨_,rfl⟩
  obtain ⟨h1,h2,h3⟩:=hv.po a (by rw[ha];simp)
  simp[hkl,←ha]
  refine ⟨by omega,fun s7=>?_⟩
  refine PCallK.intro (PInv.func (book_within_ok _ _ _)) ?_
  simp[h1]
  refine PCallK.intro (PInv.func (book_within_ok _ _ _)) ?_
  simp[h2]
  refine PCallK.intro (PInv.func (book_within_ok _ _ _)) ?_
  simp[h3]
  (repeat first|refine And.intro (by omega) ?_|refine And.intro (Fits.of (by omega) (by omega)) ?_)
  exact hJ2.next (k+1) hkl (by omega) (by simp) (by simp)
 simp[hkl]
 refine hJ2.exit ?_
 simp
 exact RetV.wk (nilH_le _) rfl
theorem book_pitches_5_ok {p:Pit} (hv:p.Valid):APure Pg fn_book_pitches_5 [p.v] (.str (pitTxt p)):=by
 have hr:=hv.hr
 have hnf:=hv.nf
 have hnp:=hv.np
 obtain ⟨fr,hfr,hfr4⟩:=Pit.Valid.set4 hv hv.fr
 obtain ⟨pe,hpe,hpe4⟩:=Pit.Valid.set4 hv hv.pe
 have hl0:=headT_len hv
 have hl1:=frostT_len p
 have hl2:=firesT_len hv
 have hl3:=potsT_len hv
 have hsd:=book_said_ok [.s [112,105,116,99,104,32],.i p.hr,.s [10,102,114,111,115,116],.h p.fr.toNat,.s perh,.h p.pe.toNat,.s [10]] (by simp)
  (by simp[Prt.Ok];omega) (by rw[headT_prts p (by omega) (by omega)];simp;omega)
 rw[headT_prts p (by omega) (by omega)] at hsd
 simp only[prtsV,Prt.v,List.length_cons,List.length_nil,List.map_cons,List.map_nil,hfr,hpe,Int.toNat_natCast] at hsd
 obtain ⟨pr,hpr⟩ : ∃pr,pr=headT p++(10 ::(frostT p++[10])):=⟨_,rfl⟩
 have hprl:pr.length≤100:=by rw[hpr];simp;omega
 rw[←hpr] at hsd
 refine book_pitches_5.e.p (by simp) ?_
 simp
 intro s1 s21
 refine FCall.frz1 (v:=.str pr) 21 (cells:=[.iface 9 (.str [112,105,116,99,104,32]),.iface 3 (.int .i64 p.hr),.iface 9 (.str [10,102,114,111,115,116]),.iface 205 (.int .i64 p.fr),.iface 9 (.str perh),.iface 205 (.int .i64 p.pe),.iface 9 (.str [10])]) (s:=s21+1) (by simp[perh]) (PInv.func (by simpa[hfr,hpe] using hsd)) (by simp) ?_
 simp
 refine Lp.intro (σ:=Nat) (inv:=fun k=>k≤p.fires.length) (vw:=fun k=>[(1,.ptr 1 0 (s1+1)),(3,.str (pr++firesT (p.fires.take k))),(24,L p.fires),(25,.int .i64 p.fires.length),(26,.int .i64 k)]) (hp:=fun _=>[(1,.row p.c (s1+1))]) (ms:=fun k=>p.fires.length - k) 0 (Nat.zero_le _) (by simp[firesT]) (by simp) ?_
 intro k hk J hJ
 by_cases hkl:k<p.fires.length
 ·obtain ⟨a,ha⟩ : ∃a,a=p.fires[k]:=⟨_,rfl⟩
  obtain ⟨m,hm,hm4⟩:=Pit.Valid.set4 hv (hv.fi a (by rw[ha];simp))
  have htk:=flat_snoc (fun n=>fireT n++[10]) hkl
  simp only[←ha] at htk
  have hle :(firesT (p.fires.take (k+1))).length≤(firesT p.fires).length:=flat_take _ _ _
  unfold firesT at hle hl2
  rw[htk,List.length_append] at hle
  have hsa:=book_said_ok [.s [102,105,114,101],.h a.toNat,.s [10]] (by simp) (by simp[Prt.Ok];omega) (by rw[fireT_prts];have:=fireT_len a;simp;omega)
  rw[fireT_prts] at hsa
  simp only[prtsV,Prt.v,List.length_cons,List.length_nil,List.map_cons,List.map_nil,hm,Int.toNat_natCast] at hsa
  have e1 :(fireT a++[(10:UInt8)]).length =(fireT a).length+1:=by simp
  rw[e1] at hle
  have hfit:pr.length+(firesT (List.take k p.fires)).length+((fireT a).length+1)≤9223372036854775807:=by unfold firesT;omega
  simp[hkl,←ha]
  intro s35
  refine FCall.frz1 (v:=.str (fireT a++[10])) 35 (cells:=[.iface 9 (.str [102,105,114,101]),.iface 205 (.int .i64 a),.iface 9 (.str [10])]) (s:=s35+1) (by simp) (PInv.func (by simpa[hm] using hsa)) (by simp) ?_
  simp
  refine ⟨by omega,by unfold Fits;omega,?_⟩
  exact hJ.next (k+1) hkl (by omega) (by simp[firesT,htk]) (by simp)
 have hkl':k=p.fires.length:=by omega
 subst hkl'
 rw[List.take_length]
 simp
 refine hJ.exit ?_
 simp
 obtain ⟨pq,hpq⟩ : ∃pq,pq=pr++firesT p.fires:=⟨_,rfl⟩
 have hpql:pq.length≤300:=by rw[hpq];simp;omega
 refine Lp.intro (σ:=Nat) (inv:=fun k=>k≤p.pots.length) (vw:=fun k=>[(3,.str (pq++potsT (p.pots.take k))),(40,LPo p.pots),(41,.int .i64 p.pots.length),(42,.int .i64 k)]) (hp:=fun _=>[]) (ms:=fun k=>p.pots.length - k) 0 (Nat.zero_le _) (by simp[potsT,hpq]) (by simp) ?_
 intro k hk J2 hJ2
 by_cases hkl:k<p.pots.length
 ·obtain ⟨a,ha⟩ : ∃a,a=p.pots[k]:=⟨_,rfl⟩
  have ham:a∈p.pots:=by rw[ha];simp
  obtain ⟨h1,h2,h3⟩:=hv.po a ham
  have htk:=flat_snoc (fun a=>potT a++[10]) hkl
  simp only[←ha] at htk
  have hle :(potsT (p.pots.take (k+1))).length≤(potsT p.pots).length:=flat_take _ _ _
  unfold potsT at hle hl3
  rw[htk,List.length_append] at hle
  have hsa:=book_said_ok [.s [112,111,116,32],.i a.h,.s [32],.i a.f,.s [32],.i a.b,.s [10]] (by simp) (by simp[Prt.Ok];omega) (by rw[potT_prts];have:=potT_len hv ham;simp;omega)
  rw[potT_prts] at hsa
  simp only[prtsV,Prt.v,List.length_cons,List.length_nil,List.map_cons,List.map_nil] at hsa
  have e1 :(potT a++[(10:UInt8)]).length =(potT a).length+1:=by simp
  rw[e1] at hle
  have hfit:pq.length+(potsT (List.take k p.pots)).length+((potT a).length+1)≤9223372036854775807:=by unfold potsT;omega
  simp[hkl,←ha]
  refine ⟨by omega,fun s7 s60=>?_⟩
  refine FCall.frz1 (v:=.str (potT a++[10])) 60 (cells:=[.iface 9 (.str [112,111,116,32]),.iface 3 (.int .i64 a.h),.iface 9 (.str [32]),.iface 3 (.int .i64 a.f),.iface 9 (.str [32]),.iface 3 (.int .i64 a.b),.iface 9 (.str [10])]) (s:=s60+1) (by simp) (PInv.func (by simpa using hsa)) (by simp) ?_
  simp
  refine ⟨by omega,by unfold Fits;omega,?_⟩
  exact hJ2.next (k+1) hkl (by omega) (by simp[potsT,htk]) (by simp)
 have hkl':k=p.pots.length:=by omega
 subst hkl'
 rw[List.take_length]
 simp
 refine hJ2.exit ?_
 simp
 exact RetV.wk (nilH_le _) (by simp[pitTxt,hpq,hpr])
def kindsP : List AVal:=[.str [112,105,116,99,104,32],.func (.func fn_book_pitches_1) [] [],.str [102,114,111,115,116],.func (.func fn_book_pitches_2) [] [],.str [102,105,114,101],.func (.func fn_book_pitches_3) [] [],.str [112,111,116,32],.func (.func fn_book_pitches_4) [] []]
def filePc : List AVal:=[.int .i64 2,.vl 4 kindsP,.func (.func fn_book_pitches_5) [] [],.func (.func fn_book_isPitch) [] []]
theorem book_pitches_ok : APure Pg fn_book_pitches [] (.agg filePc):=by
 refine book_pitches.e.p (by simp) ?_
 simp
 intro s0 s5
 refine RetV.frz 5 (cells:=kindsP) (s:=s5+1) (by simp[kindsP]) ?_
 exact RetV.wk (nilH_le _) (by simp[filePc])
theorem book_write_Pitch_ok {p:Pit} (hv:p.Valid):APure Pg fn_book_write_api_Pitch [.agg filePc,p.v] (.str (pitTxt p)):=by
 refine book_write_api_Pitch.e.p (by simp) ?_
 simp[filePc]
 intro s2 s3
 refine FCall.pure (v:=.bool true) (PInv.func (by simpa[Pit.v] using book_isPitch_ok hv)) ?_
 simp
 refine FCall.pure (PInv.func (book_ask_ok _)) ?_
 simp
 refine FCall.pure (v:=.str (pitTxt p)) (PInv.func (by simpa[Pit.v] using book_pitches_5_ok hv)) ?_
 simp
 exact RetV.wk (nilH_le _) rfl
theorem book_WritePitch_ok {p:Pit} (hv:p.Valid):APure Pg fn_book_WritePitch [p.v] (.tup [.str (pitTxt p),.int .i64 0]):=by
 refine book_WritePitch.e.p (by simp) ?_
 simp
 intro s1 s3
 refine FCall.pure' (PInv.func book_pitches_ok) (by simp) (by simp) ?_
 simp
 refine FCall.pure (v:=.str (pitTxt p)) (PInv.func (by simpa[Pit.v] using book_write_Pitch_ok hv)) ?_
 simp
 refine RetA.ret rfl (book_answer_ok ?_)
 simp
 exact RetV.wk (nilH_le _) rfl
end Go.Cw
end
section
namespace Go.Cw
open Go Go.Proofs
theorem book_pitches_1_ok {n:Int} (hn : -99999≤n∧n≤99999) {a b c d e:AVal} {sx sr:Nat} {K:AEnd→Heap→Prop} (k:K (.ret (.tup [])) (hpV [(4,.row [.int .i64 n,b,c,d,e] sx),(17,.row [.str []] sr)])) :
 ACalls Pg fn_book_pitches_1 [.ptr 4 0 sx,.ptr 17 0 sr] (hpV [(4,.row [a,b,c,d,e] sx),(17,.row [.str (Lib.itoa n)] sr)]) K:=by
 refine book_pitches_1.e 100 (by simp) ?_
 simp
 refine FCall.number (n:=n) (t:=[]) (by simp) hn (fun c hc=>by cases hc) ?_
 simp
 exact RetV.view [(4,.row [.int .i64 n,b,c,d,e] sx),(17,.row [.str []] sr)] (by simp) k
theorem hl_mem {l:List Nat} {j:Nat} (h :(hlT l)[j]? = some 32):∃c,(hlT l)[j+1]? = some c∧(isDig c∨c=45):=by
 induction l generalizing j with
 | nil=>simp[hlT] at h
 | cons a l ih=>
   have e:hlT (a::l) =(32::Lib.itoa (a:Nat))++hlT l:=by simp[hlT]
   rw[e] at h ⊢
   obtain ⟨h1,h2,h3⟩:=dec_spec ((a:Int)).toNat
   have hne:1≤(Lib.itoa (a:Nat)).length:=by
    unfold Lib.itoa
    rw[if_neg (by omega)]
    rcases Nat.eq_zero_or_pos (Lib.decDigits ((a:Int)).toNat).length with h|h
    ·exact absurd (List.eq_nil_of_length_eq_zero h) h3
    ·exact h
   by_cases hj:j<(32::Lib.itoa (a:Nat)).length
   ·rw[List.getElem?_append_left hj] at h
    cases j with
    | zero=>
      refine ⟨(Lib.itoa (a:Nat))[0],?_,itoa_chars _ _ (List.getElem_mem _)⟩
      rw[List.getElem?_append_left (by simp;omega)]
      simp
    | succ j=>
      exfalso
      simp only[List.getElem?_cons_succ] at h
      rcases itoa_chars _ 32 (List.mem_of_getElem? h) with h|h
      ·revert h;decide
      ·revert h;decide
   ·rw[List.getElem?_append_right (by omega)] at h
    obtain ⟨c,hc1,hc2⟩:=ih h
    refine ⟨c,?_,hc2⟩
    rw[List.getElem?_append_right (by omega)]
    rw[show j+1 - (32::Lib.itoa (a:Nat)).length=j - (32::Lib.itoa (a:Nat)).length+1 by omega]
    exact hc1
theorem cut_perh (l:List Nat) (b:List UInt8):Lib.cut (hlT l++(perh++b)) perh =(hlT l,b,true):=by
 refine cut_at fun j hj=>?_
 unfold Lib.occAt
 rw[Bool.eq_false_iff]
 intro hp
 rw[List.isPrefixOf_iff_prefix] at hp
 obtain ⟨q,hq⟩:=hp
 have g0 :(hlT l++(perh++b))[j]? = some 32:=by rw[←List.head?_drop,←hq];rfl
 have g1 :(hlT l++(perh++b))[j+1]? = some 112:=by
  have :((hlT l++(perh++b)).drop j)[1]? = some 112:=by rw[←hq];rfl
  rwa [List.getElem?_drop] at this
 rw[List.getElem?_append_left hj] at g0
 obtain ⟨c,hc1,hc2⟩:=hl_mem g0
 have hj1:j+1<(hlT l).length:=(List.getElem?_eq_some_iff.1 hc1).1
 rw[List.getElem?_append_left hj1,hc1] at g1
 cases g1
 rcases hc2 with h|h
 ·revert h;decide
 ·revert h;decide
theorem book_pitches_2_ok {fr pe:Nat} (hf:fr<4096) (hp:pe<4096) {a b c d e:AVal} {sx sr:Nat} {K:AEnd→Heap→Prop} (k:K (.ret (.tup [])) (hpV [(4,.row [a,.int .i64 fr,.int .i64 pe,d,e] sx),(17,.row [.str []] sr)])) :
 ACalls Pg fn_book_pitches_2 [.ptr 4 0 sx,.ptr 17 0 sr] (hpV [(4,.row [a,b,c,d,e] sx),(17,.row [.str ((Prt.h fr).t++(perh++(Prt.h pe).t))] sr)]) K:=by
 have h1 :(Prt.h fr).t=hlT (hlist fr):=hrs_list fr 12
 have hcut:=cut_perh (hlist fr) (Prt.h pe).t
 have hl1:=h_len fr
 have hl2:=h_len pe
 have hco:=strings_Cut_ok (s:=(Prt.h fr).t++(perh++(Prt.h pe).t)) (sep:=perh) (by simp[perh];omega)
 rw[h1] at hco
 rw[hcut,←h1] at hco
 refine book_pitches_2.e 100 (by simp) ?_
 simp
 refine PCallK.intro (PInv.func (by simpa[perh] using hco)) ?_
 simp
 refine FCall.pure (PInv.func (book_ask_ok _)) ?_
 simp
 intro s21
 refine FCall.hours (n:=fr) (t:=[]) (by simp) hf Stops.nil ?_
 simp
 refine ⟨by omega,?_⟩
 refine FCall.hours (n:=pe) (t:=[]) (by simp) hp Stops.nil ?_
 simp
 exact RetV.view [(4,.row [a,.int .i64 fr,.int .i64 pe,d,e] sx),(17,.row [.str []] sr)] (by simp) k
theorem FCall.hoursF {F n₀:Nat} {inr:Bool} {keep:List Nat} {d:Option Nat} {K:KT} {Q:Post} {tm:TM} {df:DF} {hp:Heap} {r s:Nat} {fl:List It} {n:Nat} {t:List UInt8} (hr:hp r=.row [.str ((Prt.h n).t++t)] s) (hn:n<4096) (ht:Stops t)
 (k:FlOk fl (putD tm d (.int .i64 n)) (upd hp r (.row [.str t] s))∧K (putD tm d (.int .i64 n)) df (upd hp r (.row [.str t] s))) :
 FCall ⟨Pg,F,n₀,inr,keep⟩ (.func (.func fn_book_reader_hours) [] []) [.ptr r 0 s] [] fl d K Q tm df hp:=by
 refine FCall.cps [(r,.row [.str ((Prt.h n).t++t)] s)] (fun _:Unit=>.int .i64 n) (fun _=>[(r,.row [.str t] s)]) (fun _=>True) (fun K' hK'=>AInvoke.func ?_) ⟨hr,trivial⟩ (fun _=>rfl) trivial (fun _ _=>k)
 exact book_hours_ok hn t ht (hK' () trivial)
theorem book_pitches_3_ok {n:Nat} (hn:n<4096) (l:List Int) (hl:l.length≤2) {a b c e:AVal} {sx sr st:Nat} {K:AEnd→Heap→Prop}
 (k:∀s',K (.ret (.tup [])) (hpV [(4,.row [a,b,c,gS 1 112 (l.length+1) s',e] sx),(17,.row [.str []] sr),(112,gO (l.length+1) (ints (l++[(n:Int)])) s')])) :
 ACalls Pg fn_book_pitches_3 [.ptr 4 0 sx,.ptr 17 0 sr] (hpV [(4,.row [a,b,c,gS 1 112 l.length st,e] sx),(17,.row [.str (Prt.h n).t] sr),(112,gO l.length (ints l) st)]) K:=by
 refine book_pitches_3.e 100 (by simp) ?_
 simp
 refine FCall.hoursF (n:=n) (t:=[]) (by simp) hn Stops.nil ?_
 simp
 intro s11 s12
 refine xApN_gS (cells:=ints l) (by simp) (by simp) (by omega) (by omega) ?_
 simp
 exact RetV.view [(4,.row [a,b,c,gS 1 112 (l.length+1) (s12+1),e] sx),(17,.row [.str []] sr),(112,gO (l.length+1) (ints (l++[(n:Int)])) (s12+1))] (by simp[ints]) (k (s12+1))
theorem book_pitches_4_1_ok {n:Int} (hn : -99999≤n∧n≤99999) (t:List UInt8) (ht:∀c,t.head? = some c→¬isDig c) {sr s3:Nat} {K:AEnd→Heap→Prop} (k:K (.ret (.int .i64 n)) (hpV [(103,.row [.ptr 17 0 sr] s3),(17,.row [.str t] sr)])) :
 ACalls Pg fn_book_pitches_4_1 [.ptr 103 0 s3] (hpV [(103,.row [.ptr 17 0 sr] s3),(17,.row [.str ([32]++(Lib.itoa n++t))] sr)]) K:=by
 refine book_pitches_4_1.e 400 (by simp) ?_
 simp
 refine FCall.word (p:=[32]) (t:=Lib.itoa n++t) (by simp) ?_
 simp
 refine FCall.number (n:=n) (t:=t) (by simp) hn ht ?_
 simp
 exact RetV.view [(103,.row [.ptr 17 0 sr] s3),(17,.row [.str t] sr)] (by simp) k
theorem FCall.next4 {F n₀:Nat} {inr:Bool} {keep:List Nat} {d:Option Nat} {K:KT} {Q:Post} {tm:TM} {df:DF} {hp:Heap} {n:Int} {t:List UInt8} {sr s3:Nat} (h3:hp 103=.row [.ptr 17 0 sr] s3) (hr:hp 17=.row [.str ([32]++(Lib.itoa n++t))] sr) (hn : -99999≤n∧n≤99999) (ht:∀c,t.head? = some c→¬isDig c)
 (k:K (putD tm d (.int .i64 n)) df (upd (upd hp 17 (.row [.str t] sr)) 103 (.row [.ptr 17 0 sr] s3))) :
 FCall ⟨Pg,F,n₀,inr,keep⟩ (.func (.func fn_book_pitches_4_1) [] [.ptr 103 0 s3]) [] [] [] d K Q tm df hp:=by
 refine FCall.cps [(103,.row [.ptr 17 0 sr] s3),(17,.row [.str ([32]++(Lib.itoa n++t))] sr)] (fun _:Unit=>.int .i64 n) (fun _=>[(103,.row [.ptr 17 0 sr] s3),(17,.row [.str t] sr)]) (fun _=>True) (fun K' hK'=>AInvoke.func ?_) ⟨h3,hr,trivial⟩ (fun _=>rfl) trivial (fun _ _=>⟨trivial,k⟩)
 exact book_pitches_4_1_ok hn t ht (hK' () trivial)
theorem book_pitches_4_ok (o:Pot) (h1 : -99999≤o.h∧o.h≤99999) (h2 : -99999≤o.f∧o.f≤99999) (h3 : -99999≤o.b∧o.b≤99999) (l:List Pot) (hl:l.length≤3) {a b c e:AVal} {sx sr st:Nat} {K:AEnd→Heap→Prop}
 (k:∀s',K (.ret (.tup [])) (hpV [(4,.row [a,b,c,e,gS 3 123 (l.length+1) s'] sx),(17,.row [.str []] sr),(123,gO (l.length+1) (pots (l++[o])) s')])) :
 ACalls Pg fn_book_pitches_4 [.ptr 4 0 sx,.ptr 17 0 sr] (hpV [(4,.row [a,b,c,e,gS 3 123 l.length st] sx),(17,.row [.str (Lib.itoa o.h++(32 ::(Lib.itoa o.f++(32::Lib.itoa o.b))))] sr),(123,gO l.length (pots l) st)]) K:=by
 refine book_pitches_4.e 100 (by simp) ?_
 simp
 intro s3
 refine FCall.number (n:=o.h) (t:=[32]++(Lib.itoa o.f++([32]++(Lib.itoa o.b++[])))) (by simp) h1 (fun c hc=>by cases hc;decide) ?_
 simp
 intro s5
 refine FCall.next4 (sr:=sr) (n:=o.f) (t:=[32]++(Lib.itoa o.b++[])) (by simp) (by simp) h2 (fun c hc=>by cases hc;decide) ?_
 simp
 refine FCall.next4 (sr:=sr) (n:=o.b) (t:=[]) (by simp) (by simp) h3 (fun c hc=>by cases hc) ?_
 simp
 intro s22 s23
 refine xApN_gS (cells:=pots l) (by simp) (by simp) (by omega) (by omega) ?_
 have hone:pots l++[.int .i64 o.h,.int .i64 o.f,.int .i64 o.b]=pots (l++[o]):=fl_one (f:=Pot.c) l o
 simp
 exact RetV.view [(4,.row [a,b,c,e,gS 3 123 (l.length+1) (s23+1)] sx),(17,.row [.str []] sr),(123,gO (l.length+1) (pots (l++[o])) (s23+1))] (by simp[hone]) (k (s23+1))
end Go.Cw
end
section
namespace Go.Cw
open Go Go.Proofs
@[simp] theorem frzL_pots (r s:Nat) (cells:List AVal) (l:List Pot):frzL r s cells (pots l)=pots l:=by
 induction l with
 | nil=>rfl
 | cons a l ih=>rw[show pots (a::l)=a.c++pots l from fl_cons a l,frzL_map,List.map_append,←frzL_map,←frzL_map,ih];rfl
@[simp] theorem Pit.c_set (p:Pit):setRange p.c 0 p.c=p.c:=rfl
@[simp] theorem Pit.c_set5 (p:Pit) (a b c d e:AVal):setRange [a,b,c,d,e] 0 p.c=p.c:=rfl
theorem h_no10 (n:Nat) :(10:UInt8)∉(Prt.h n).t:=by
 have h1 :(Prt.h n).t=hlT (hlist n):=hrs_list n 12
 rw[h1]
 exact flat_no10 fun a _=>by simp[itoa_no10]
def pitLs (p:Pit):List (List UInt8):=headT p::frostT p ::(p.fires.map fireT++p.pots.map potT)
theorem pitTxt_join (p:Pit):pitTxt p=joinL (pitLs p):=by simp[pitTxt,pitLs,joinL,firesT,potsT,List.flatMap_map]
theorem pitLs_no10 (p:Pit):∀x∈pitLs p,(10:UInt8)∉x:=by
 intro x hx
 simp only[pitLs,List.mem_cons,List.mem_append,List.mem_map] at hx
 rcases hx with rfl|rfl|⟨a,_,rfl⟩ | ⟨a,_,rfl⟩
 ·simp[headT,itoa_no10]
 ·simp[frostT,perh,h_no10]
 ·simp[fireT,h_no10]
 ·simp[potT,itoa_no10]
def Pit.frI (p:Pit) (i:Nat):List AVal:=[.int .i64 (if 1≤i then p.hr else 0),.int .i64 (if 2≤i then p.fr else 0),.int .i64 (if 2≤i then p.pe else 0)]
def Pit.nF (p:Pit) (i:Nat):Nat:=min (i - 2) p.fires.length
def Pit.nP (p:Pit) (i:Nat):Nat:=i - 2 - p.fires.length
def Pit.kI (p:Pit) (i:Nat):Nat:=if i≤2 then i else if i≤2+p.fires.length then 2 else 3
def rdP (p:Pit) (s2 s4 s5 sd:Nat) (L:Jm→AObj) (x:Nat×Nat×Nat):List (Nat×AObj):=
 [(2,.row filePc s2),(4,.row [.int .i64 (if 1≤x.1 then p.hr else 0),.int .i64 (if 2≤x.1 then p.fr else 0),.int .i64 (if 2≤x.1 then p.pe else 0),gS 1 112 (p.nF x.1) x.2.1,gS 3 123 (p.nP x.1) x.2.2] s4),(5,.row [.int .i64 (p.kI x.1)] s5),(100,L .go),(101,.dfr false sd),
   (112,gO (p.nF x.1) (ints (p.fires.take (p.nF x.1))) x.2.1),(123,gO (p.nP x.1) (pots (p.pots.take (p.nP x.1))) x.2.2)]
theorem rdP_b (p:Pit) (s2 s4 s5 sd:Nat) (L:Jm→AObj):RowsB (rdP p s2 s4 s5 sd L) 200:=⟨fun _ _=>rfl,fun t x hx=>by simp[rdP] at hx;omega,fun t=>by simp[rdP]⟩
theorem book_read_Pitch_ok {p:Pit} (hv:p.Valid):APure Pg fn_book_read_api_Pitch [.agg filePc,.str (pitTxt p)] p.v:=by
 have hr:=hv.hr
 have hnf:=hv.nf
 have hnp:=hv.np
 have hlen:=pitTxt_len hv
 have hlz :((pitTxt p).length:Int)≤1000:=by omega
 refine book_read_api_Pitch.e.p (by simp) ?_
 simp[filePc]
 intro s2 s4
 simp[hlz]
 refine FCall.pure (PInv.func (book_ask_ok _)) ?_
 simp
 intro s5
 refine FCall.cps [(201,.dead)] (fun x:Nat=>lnV x) (fun x=>[(201,.row [.str (pitTxt p)] x)]) (fun _=>True) (fun K' hK'=>AInvoke.func ?_) (by simp) (fun _=>rfl) (by simp) (fun sl1 _=>⟨by simp,?_⟩)
 ·rw[dead1]
  exact book_lines_ok (pitTxt p) fun x=>hK' x trivial
 simp[lnV]
 refine RF.intro 100 101 rfl (by simp) (by simp) (by simp) fun sl sd LO LB yl=>?_
 obtain ⟨row,hrow⟩ : ∃row,row=rdP p (s2+1) (s4+1) (s5+1) sd LO:=⟨_,rfl⟩
 have hrb:RowsB row 200:=by rw[hrow];exact rdP_b _ _ _ _ _ _
 have hrowe:∀t,row t=rdP p (s2+1) (s4+1) (s5+1) sd LO t:=fun t=>by rw[hrow]
 refine ACalls.rowLe 4 (cells:=[.int .i64 0,.int .i64 0,.int .i64 0,.nils,.nils]) (s:=s4+1) [.int .i64 0,.int .i64 0,.int .i64 0,.es,.es] (by simp) ⟨ALe.refl _,ALe.refl _,ALe.refl _,ALe.nils_es,ALe.nils_es,trivial⟩ ?_
 refine ACalls.cps (σ:=Nat×Nat×Nat) ((201,.row [.str (joinL (pitLs p))] sl1)::row (0,0,0)) (fun _=>.tup []) (fun t=>(201,.row [.str []] sl1)::row t) (fun t=>t.1 =(pitLs p).length) (fun K' hK'=>?_) (by rw[hrowe];simp[rdP,filePc,pitTxt_join,Pit.nF,Pit.nP,Pit.kI]) (fun t=>by rw[hrowe,hrowe];rfl) fun t ht=>?_
 ·refine book_lines_1_ok (pitLs p) (pitLs_no10 p) (by rw[←pitTxt_join];exact hlen) sl1 row hrb 100 sl (fun i t=>t.1=i) (fun i t x hI hx K0 hgo=>?_) (0,0,0) rfl K' (fun t ht=>hK' t ht)
  obtain ⟨i',sa,sb⟩:=t
  obtain rfl:i'=i:=hI
  refine AInvoke.wk (yl _ _ _ rfl (by rw[hrowe];simp[rdP]) ?_)
  rw[hrowe]
  rcases (show i'=0∨i'=1∨(∃j,i'=2+j∧j<p.fires.length)∨∃j,i'=2+p.fires.length+j by
   rcases Nat.lt_or_ge i' 2 with h|h
   ·omega
   ·rcases Nat.lt_or_ge (i' - 2) p.fires.length with h2|h2
    ·exact .inr (.inr (.inl ⟨i' - 2,by omega,h2⟩))
    ·exact .inr (.inr (.inr ⟨i' - 2 - p.fires.length,by omega⟩))) with rfl|rfl|⟨j,rfl,hj⟩ | ⟨j,rfl⟩
  ·have hx0:x=headT p:=by simpa[pitLs] using hx.symm
   subst hx0
   simp[rdP,filePc,Pit.nF,Pit.nP,Pit.kI]
   intro s17
   refine Lp.rounds 1 (LpI.round fun J hJ=>?_)
   simp[kindsP]
   refine FCall.sees (rest:=[112,105,116,99,104,32]++Lib.itoa p.hr) (by simp[headT]) ?_
   rw[pre_app,aft_app]
   simp
   refine hJ.exit ?_
   simp
   refine FCall.pure (PInv.func (book_ask_ok _)) ?_
   simp
   refine FCall.cps (σ:=Unit) [(4,.row [.int .i64 0,.int .i64 0,.int .i64 0,.es,.es] (s4+1)),(17,.row [.str (Lib.itoa p.hr)] (s17+1))] (fun _=>.tup []) (fun _=>[(4,.row [.int .i64 p.hr,.int .i64 0,.int .i64 0,.es,.es] (s4+1)),(17,.row [.str []] (s17+1))]) (fun _=>True)
    (fun K1 hK1=>AInvoke.func (book_pitches_1_ok (n:=p.hr) (by omega) (hK1 () trivial))) (by simp) (fun _=>rfl) (by simp) (fun _ _=>⟨by simp,?_⟩)
   simp
   refine FCall.pure (PInv.func (book_ask_ok _)) ?_
   simp
   (repeat first|refine And.intro (by omega) ?_|refine And.intro (Fits.of (by omega) (by omega)) ?_)
   exact Wk.view ((201,.row [.str (joinL ((pitLs p).drop (0+1)))] sl1)::row (1,sa,sb)) (by rw[hrowe];simp[rdP,filePc,kindsP,Pit.nF,Pit.nP,Pit.kI]) (hgo (1,sa,sb) rfl)
  ·have hx0:x=frostT p:=by simpa[pitLs] using hx.symm
   subst hx0
   obtain ⟨fr,hfr,hfr4⟩:=Pit.Valid.set4 hv hv.fr
   obtain ⟨pe,hpe,hpe4⟩:=Pit.Valid.set4 hv hv.pe
   have hft:frostT p=[102,114,111,115,116]++((Prt.h fr).t++(perh++(Prt.h pe).t)):=by simp[frostT,hfr,hpe]
   simp[rdP,filePc,Pit.nF,Pit.nP,Pit.kI]
   intro s17
   refine Lp.rounds 1 (LpI.round fun J hJ=>?_)
   simp[kindsP]
   refine FCall.sees (rest:=[102,114,111,115,116]++((Prt.h fr).t++(perh++(Prt.h pe).t))) (by simp[hft]) ?_
   rw[pre_app,aft_app]
   simp
   refine hJ.exit ?_
   simp
   refine FCall.pure (PInv.func (book_ask_ok _)) ?_
   simp
   refine FCall.cps (σ:=Unit) [(4,.row [.int .i64 p.hr,.int .i64 0,.int .i64 0,.es,.es] (s4+1)),(17,.row [.str ((Prt.h fr).t++(perh++(Prt.h pe).t))] (s17+1))] (fun _=>.tup []) (fun _=>[(4,.row [.int .i64 p.hr,.int .i64 fr,.int .i64 pe,.es,.es] (s4+1)),(17,.row [.str []] (s17+1))]) (fun _=>True)
    (fun K1 hK1=>AInvoke.func (book_pitches_2_ok hfr4 hpe4 (hK1 () trivial))) (by simp) (fun _=>rfl) (by simp) (fun _ _=>⟨by simp,?_⟩)
   simp
   refine FCall.pure (PInv.func (book_ask_ok _)) ?_
   simp
   (repeat first|refine And.intro (by omega) ?_|refine And.intro (Fits.of (by omega) (by omega)) ?_)
   exact Wk.view ((201,.row [.str (joinL ((pitLs p).drop (1+1)))] sl1)::row (2,sa,sb)) (by rw[hrowe];simp[rdP,filePc,kindsP,Pit.nF,Pit.nP,Pit.kI,hfr,hpe]) (hgo (2,sa,sb) rfl)
  ·obtain ⟨a,ha⟩ : ∃a,a=p.fires[j]:=⟨_,rfl⟩
   have hx0:x=fireT a:=by
    have :(pitLs p)[2+j]? = some (fireT a):=by rw[ha,Nat.add_comm];simp[pitLs,List.getElem?_append_left,hj]
    rw[hx] at this;simpa using this
   subst hx0
   obtain ⟨m,hm,hm4⟩:=Pit.Valid.set4 hv (hv.fi a (by rw[ha];simp))
   have hft:fireT a=[102,105,114,101]++(Prt.h m).t:=by simp[fireT,hm]
   have q1:p.nF (2+j)=j:=by unfold Pit.nF;omega
   have q2:p.nP (2+j)=0:=by unfold Pit.nP;omega
   have q3:p.kI (2+j)=2:=by unfold Pit.kI;repeat' split
                            all_goals omega
   have q4:p.nF (2+j+1)=j+1:=by unfold Pit.nF;omega
   have q5:p.nP (2+j+1)=0:=by unfold Pit.nP;omega
   have q6:p.kI (2+j+1)=2:=by unfold Pit.kI;repeat' split
                              all_goals omega
   have htk:p.fires.take j++[(m:Int)]=p.fires.take (j+1):=by rw[←hm,ha];exact List.take_append_getElem hj
   have htl :(p.fires.take j).length=j:=by simp;omega
   have w1:1≤2+j:=by omega
   have w2:1≤2+j+1:=by omega
   have w3:2≤2+j+1:=by omega
   simp[rdP,filePc,q1,q2,q3,w1]
   intro s17
   refine Lp.rounds 1 (LpI.round fun J hJ=>?_)
   simp[kindsP]
   refine FCall.sees (rest:=[102,105,114,101]++(Prt.h m).t) (by simp[hft]) ?_
   rw[pre_app,aft_app]
   simp
   refine hJ.exit ?_
   simp
   refine FCall.pure (PInv.func (book_ask_ok _)) ?_
   simp
   refine FCall.cps (σ:=Nat) [(4,.row [.int .i64 p.hr,.int .i64 p.fr,.int .i64 p.pe,gS 1 112 j sa,.es] (s4+1)),(17,.row [.str (Prt.h m).t] (s17+1)),(112,gO j (ints (p.fires.take j)) sa)] (fun _=>.tup []) (fun s'=>[(4,.row [.int .i64 p.hr,.int .i64 p.fr,.int .i64 p.pe,gS 1 112 (j+1) s',.es] (s4+1)),(17,.row [.str []] (s17+1)),(112,gO (j+1) (ints (p.fires.take (j+1))) s')]) (fun _=>True)
    (fun K1 hK1=>AInvoke.func ?_) (by simp) (fun _=>rfl) (by simp) (fun s' _=>⟨by simp,?_⟩)
   ·have:=book_pitches_3_ok hm4 (p.fires.take j) (by omega) (a:=.int .i64 p.hr) (b:=.int .i64 p.fr) (c:=.int .i64 p.pe) (e:=.es) (sx:=s4+1) (sr:=s17+1) (st:=sa) (K:=K1) (fun s'=>by rw[htl,htk];exact hK1 s' trivial)
    rw[htl] at this
    exact this
   simp
   refine FCall.pure (PInv.func (book_ask_ok _)) ?_
   simp
   exact Wk.view ((201,.row [.str (joinL ((pitLs p).drop (2+j+1)))] sl1)::row (2+j+1,s',sb)) (by rw[hrowe];simp[rdP,filePc,kindsP,q4,q5,q6,w2,w3]) (hgo (2+j+1,s',sb) rfl)
  ·have hj:j<p.pots.length:=by
    have:=(List.getElem?_eq_some_iff.1 hx).1
    simp[pitLs] at this
    omega
   obtain ⟨a,ha⟩ : ∃a,a=p.pots[j]:=⟨_,rfl⟩
   have hx0:x=potT a:=by
    have :(pitLs p)[2+p.fires.length+j]? = some (potT a):=by
     rw[ha,show 2+p.fires.length+j=p.fires.length+j+1+1 by omega]
     simp[pitLs,List.getElem?_append_right,hj]
    rw[hx] at this;simpa using this
   subst hx0
   obtain ⟨h1,h2,h3⟩:=hv.po a (by rw[ha];simp)
   have hft:potT a=[112,111,116,32]++(Lib.itoa a.h++(32 ::(Lib.itoa a.f++(32::Lib.itoa a.b)))):=rfl
   have q1:p.nF (2+p.fires.length+j)=p.fires.length:=by unfold Pit.nF;omega
   have q2:p.nP (2+p.fires.length+j)=j:=by unfold Pit.nP;omega
   have q4:p.nF (2+p.fires.length+j+1)=p.fires.length:=by unfold Pit.nF;omega
   have q5:p.nP (2+p.fires.length+j+1)=j+1:=by unfold Pit.nP;omega
   have q6:p.kI (2+p.fires.length+j+1)=3:=by unfold Pit.kI;rw[if_neg (by omega),if_neg (by omega)]
   have htk:p.pots.take j++[a]=p.pots.take (j+1):=by rw[ha];exact List.take_append_getElem hj
   have htl :(p.pots.take j).length=j:=by simp;omega
   have w0:1≤2+p.fires.length+j:=by omega
   have w1:2≤2+p.fires.length+j:=by omega
   have w2:1≤2+p.fires.length+j+1:=by omega
   have w3:2≤2+p.fires.length+j+1:=by omega
   have hno:pre [102,105,114,101] (potT a)=false:=pre_head fun c hc=>by rw[hft] at hc;cases hc;decide
   by_cases hj0:j=0
   ·have q3:p.kI (2+p.fires.length+j)=2:=by
     unfold Pit.kI
     split
     ·omega
     ·rw[if_pos (by omega)]
    simp[rdP,filePc,q1,q2,q3,w0,w1]
    intro s17
    refine Lp.rounds 2 (LpI.round fun J hJ=>?_)
    simp[kindsP]
    refine FCall.sees (rest:=potT a) (by simp) ?_
    rw[hno,aft_no hno]
    simp
    (repeat first|refine And.intro (by omega) ?_|refine And.intro (Fits.of (by omega) (by omega)) ?_)
    refine hJ.go (LpI.round fun J hJ=>?_)
    simp
    refine FCall.sees (rest:=[112,111,116,32]++(Lib.itoa a.h++(32 ::(Lib.itoa a.f++(32::Lib.itoa a.b))))) (by simp[hft]) ?_
    rw[pre_app,aft_app]
    simp
    refine hJ.exit ?_
    simp
    refine FCall.pure (PInv.func (book_ask_ok _)) ?_
    simp
    refine FCall.cps (σ:=Nat) [(4,.row [.int .i64 p.hr,.int .i64 p.fr,.int .i64 p.pe,gS 1 112 p.fires.length sa,gS 3 123 j sb] (s4+1)),(17,.row [.str (Lib.itoa a.h++(32 ::(Lib.itoa a.f++(32::Lib.itoa a.b))))] (s17+1)),(123,gO j (pots (p.pots.take j)) sb)] (fun _=>.tup []) (fun s'=>[(4,.row [.int .i64 p.hr,.int .i64 p.fr,.int .i64 p.pe,gS 1 112 p.fires.length sa,gS 3 123 (j+1) s'] (s4+1)),(17,.row [.str []] (s17+1)),(123,gO (j+1) (pots (p.pots.take (j+1))) s')]) (fun _=>True)
     (fun K1 hK1=>AInvoke.func ?_) (by simp) (fun _=>rfl) (by simp) (fun s' _=>⟨by simp,?_⟩)
    ·have:=book_pitches_4_ok a (by omega) (by omega) (by omega) (p.pots.take j) (by omega) (a:=.int .i64 p.hr) (b:=.int .i64 p.fr) (c:=.int .i64 p.pe) (e:=gS 1 112 p.fires.length sa) (sx:=s4+1) (sr:=s17+1) (st:=sb) (K:=K1) (fun s'=>by rw[htl,htk];exact hK1 s' trivial)
     rw[htl] at this
     exact this
    simp
    refine FCall.pure (PInv.func (book_ask_ok _)) ?_
    simp
    exact Wk.view ((201,.row [.str (joinL ((pitLs p).drop (2+p.fires.length+j+1)))] sl1)::row (2+p.fires.length+j+1,sa,s')) (by rw[hrowe];simp[rdP,filePc,kindsP,q4,q5,q6,w2,w3]) (hgo (2+p.fires.length+j+1,sa,s') rfl)
   ·have q3:p.kI (2+p.fires.length+j)=3:=by unfold Pit.kI;rw[if_neg (by omega),if_neg (by omega)]
    simp[rdP,filePc,q1,q2,q3,w0,w1]
    intro s17
    refine Lp.rounds 1 (LpI.round fun J hJ=>?_)
    simp[kindsP]
    refine FCall.sees (rest:=[112,111,116,32]++(Lib.itoa a.h++(32 ::(Lib.itoa a.f++(32::Lib.itoa a.b))))) (by simp[hft]) ?_
    rw[pre_app,aft_app]
    simp
    refine hJ.exit ?_
    simp
    refine FCall.pure (PInv.func (book_ask_ok _)) ?_
    simp
    refine FCall.cps (σ:=Nat) [(4,.row [.int .i64 p.hr,.int .i64 p.fr,.int .i64 p.pe,gS 1 112 p.fires.length sa,gS 3 123 j sb] (s4+1)),(17,.row [.str (Lib.itoa a.h++(32 ::(Lib.itoa a.f++(32::Lib.itoa a.b))))] (s17+1)),(123,gO j (pots (p.pots.take j)) sb)] (fun _=>.tup []) (fun s'=>[(4,.row [.int .i64 p.hr,.int .i64 p.fr,.int .i64 p.pe,gS 1 112 p.fires.length sa,gS 3 123 (j+1) s'] (s4+1)),(17,.row [.str []] (s17+1)),(123,gO (j+1) (pots (p.pots.take (j+1))) s')]) (fun _=>True)
     (fun K1 hK1=>AInvoke.func ?_) (by simp) (fun _=>rfl) (by simp) (fun s' _=>⟨by simp,?_⟩)
    ·have:=book_pitches_4_ok a (by omega) (by omega) (by omega) (p.pots.take j) (by omega) (a:=.int .i64 p.hr) (b:=.int .i64 p.fr) (c:=.int .i64 p.pe) (e:=gS 1 112 p.fires.length sa) (sx:=s4+1) (sr:=s17+1) (st:=sb) (K:=K1) (fun s'=>by rw[htl,htk];exact hK1 s' trivial)
     rw[htl] at this
     exact this
    simp
    refine FCall.pure (PInv.func (book_ask_ok _)) ?_
    simp
    exact Wk.view ((201,.row [.str (joinL ((pitLs p).drop (2+p.fires.length+j+1)))] sl1)::row (2+p.fires.length+j+1,sa,s')) (by rw[hrowe];simp[rdP,filePc,kindsP,q4,q5,q6,w2,w3]) (hgo (2+p.fires.length+j+1,sa,s') rfl)
 ·obtain ⟨i,sa,sb⟩:=t
  have hti:i=p.fires.length+p.pots.length+2:=by
   have:i =(pitLs p).length:=ht
   rw[this];simp[pitLs]
  subst hti
  refine ⟨.go,by rw[hrowe];simp[rdP],?_⟩
  have q1:p.nF (p.fires.length+p.pots.length+2)=p.fires.length:=by unfold Pit.nF;omega
  have q2:p.nP (p.fires.length+p.pots.length+2)=p.pots.length:=by unfold Pit.nP;omega
  have w0:1≤p.fires.length+p.pots.length+2:=by omega
  have w1:2≤p.fires.length+p.pots.length+2:=by omega
  simp
  rw[hrowe]
  simp[rdP,q1,q2,w0,w1]
  refine Sl.toV [(1,.str (pitTxt p)),(2,.ptr 2 0 (s2+1)),(4,.ptr 4 0 (s4+1))] [(2,.row filePc (s2+1)),(4,.row p.c (s4+1)),(101,.dfr false sd)] ?_ ?_
  ·by_cases h0:p.fires.length=0
   ·have hf:p.fires=[]:=List.eq_nil_of_length_eq_zero h0
    refine Sl.rowLe (cells:=[.int .i64 p.hr,.int .i64 p.fr,.int .i64 p.pe,.es,gS 3 123 p.pots.length sb]) (s:=s4+1) 4 [.int .i64 p.hr,.int .i64 p.fr,.int .i64 p.pe,.vl 0 [],gS 3 123 p.pots.length sb] (by simp[hf]) ⟨ALe.refl _,ALe.refl _,ALe.refl _,ALe.es_vl,ALe.refl _,trivial⟩ ?_
    by_cases h1:p.pots.length=0
    ·have hp:p.pots=[]:=List.eq_nil_of_length_eq_zero h1
     refine Sl.rowLe (cells:=[.int .i64 p.hr,.int .i64 p.fr,.int .i64 p.pe,.vl 0 [],.es]) (s:=s4+1) 4 [.int .i64 p.hr,.int .i64 p.fr,.int .i64 p.pe,.vl 0 [],.vl 0 []] (by simp[hp]) ⟨ALe.refl _,ALe.refl _,ALe.refl _,ALe.refl _,ALe.es_vl,trivial⟩ (Sl.refl ⟨rfl,by simp,?_⟩)
     simp[hf,hp,Pit.c,L,LPo,pots,ints,filePc,kindsP]
    ·have hp1:0<p.pots.length:=by omega
     refine Sl.gSH 123 (m:=p.pots.length) (cells:=pots p.pots) (s:=sb) (by omega) (by simp) (Sl.refl ⟨rfl,by simp,?_⟩)
     simp[hf,gS_pos hp1,Pit.c,L,LPo,ints,filePc,kindsP]
   ·have hf1:0<p.fires.length:=by omega
    refine Sl.gSH 112 (m:=p.fires.length) (cells:=ints p.fires) (s:=sa) (by omega) (by simp) ?_
    by_cases h1:p.pots.length=0
    ·have hp:p.pots=[]:=List.eq_nil_of_length_eq_zero h1
     refine Sl.rowLe (cells:=[.int .i64 p.hr,.int .i64 p.fr,.int .i64 p.pe,L p.fires,.es]) (s:=s4+1) 4 [.int .i64 p.hr,.int .i64 p.fr,.int .i64 p.pe,L p.fires,.vl 0 []] (by simp[hp,gS_pos hf1,L]) ⟨ALe.refl _,ALe.refl _,ALe.refl _,ALe.refl _,ALe.es_vl,trivial⟩ (Sl.refl ⟨rfl,by simp,?_⟩)
     simp[hp,Pit.c,L,LPo,pots,filePc,kindsP]
    ·have hp1:0<p.pots.length:=by omega
     refine Sl.gSH 123 (m:=p.pots.length) (cells:=pots p.pots) (s:=sb) (by omega) (by simp) (Sl.refl ⟨rfl,by simp,?_⟩)
     simp[gS_pos hf1,gS_pos hp1,Pit.c,L,LPo,filePc,kindsP]
  ·simp[filePc]
   refine FCall.pure (v:=.bool true) (PInv.func (by simpa[Pit.v] using book_isPitch_ok hv)) ?_
   simp
   refine FCall.pure (v:=.str (pitTxt p)) (PInv.func (by simpa[Pit.v] using book_pitches_5_ok hv)) ?_
   simp
   refine FCall.pure (PInv.func (book_ask_ok _)) ?_
   simp
   exact RetV.wk (nilH_le _) rfl
theorem book_ReadPitch_ok {p:Pit} (hv:p.Valid):APure Pg fn_book_ReadPitch [.str (pitTxt p)] (.tup [p.v,.int .i64 0]):=by
 refine book_ReadPitch.e.p (by simp) ?_
 simp
 intro s2 s3
 refine FCall.pure (PInv.func book_pitches_ok) ?_
 simp
 refine FCall.pure (PInv.func (book_read_Pitch_ok hv)) ?_
 simp
 refine RetA.ret rfl (book_answer_ok ?_)
 simp
 exact RetV.wk (nilH_le _) rfl
end Go.Cw
end
section
namespace Go.Cw
open Go Go.Proofs
theorem book_isIrons_ok {x:Irn} (hv:x.Valid):APure Pg fn_book_isIrons [x.v] (.bool true):=by
 have hft:=hv.ft
 have hno :(x.own.length:Int)≤5:=by have:=hv.no;omega
 have hns :(x.strk.length:Int)≤6:=by have:=hv.ns;omega
 have hnc :(x.clm.length:Int)≤8:=by have:=hv.nc;omega
 have hnm:=hv.nm
 refine book_isIrons.e.p (by simp) ?_
 simp
 intro s1
 refine PCallK.intro (PInv.func (book_within_ok _ _ _)) ?_
 simp[hft,hno,hns,hnc,hnm]
 refine Lp.intro (σ:=Nat) (inv:=fun k=>k≤x.own.length) (vw:=fun k=>[(1,.ptr 1 0 (s1+1)),(3,.bool true),(47,LLv x.own),(48,.int .i64 x.own.length),(49,.int .i64 k)]) (hp:=fun _=>[(1,.row x.c (s1+1))]) (ms:=fun k=>x.own.length - k) 0 (Nat.zero_le _) (by simp) (by simp) ?_
 intro k hk J hJ
 by_cases hkl:k<x.own.length
 ·obtain ⟨l,hl⟩ : ∃l,l=x.own[k]:=⟨_,rfl⟩
  have hlm:l∈x.own:=by rw[hl];simp
  have hlo:=hv.ol l hlm
  have hlv:=hv.ov l hlm
  simp[hkl,←hl,hlo]
  refine Lp.intro (σ:=Nat) (inv:=fun j=>j≤l.length) (vw:=fun j=>[(1,.ptr 1 0 (s1+1)),(3,.bool true),(47,LLv x.own),(48,.int .i64 x.own.length),(49,.int .i64 k),(61,L l),(62,.int .i64 l.length),(63,.int .i64 j)]) (hp:=fun _=>[(1,.row x.c (s1+1))]) (ms:=fun j=>l.length - j) 0 (Nat.zero_le _) (by simp[hlo]) (by simp) ?_
  intro j hj J2 hJ2
  by_cases hjl:j<l.length
  ·have hn:=hlv l[j] (by simp)
   simp[hjl]
   refine PCallK.intro (PInv.func (book_within_ok _ _ _)) ?_
   simp[hn]
   (repeat first|refine And.intro (by omega) ?_|refine And.intro (Fits.of (by omega) (by omega)) ?_)
   exact hJ2.next (j+1) hjl (by omega) (by simp) (by simp)
  simp[hjl]
  refine hJ2.exit ?_
  simp
  (repeat first|refine And.intro (by omega) ?_|refine And.intro (Fits.of (by omega) (by omega)) ?_)
  exact hJ.next (k+1) hkl (by omega) (by simp) (by simp)
 simp[hkl]
 refine hJ.exit ?_
 simp
 refine Lp.intro (σ:=Nat) (inv:=fun k=>k≤x.most.length) (vw:=fun k=>[(1,.ptr 1 0 (s1+1)),(3,.bool true),(75,L x.most),(76,.int .i64 x.most.length),(77,.int .i64 k)]) (hp:=fun _=>[(1,.row x.c (s1+1))]) (ms:=fun k=>x.most.length - k) 0 (Nat.zero_le _) (by simp) (by simp) ?_
 intro k hk J hJ
 by_cases hkl:k<x.most.length
 ·have hn:=hv.mo x.most[k] (by simp)
  simp[hkl]
  refine PCallK.intro (PInv.func (book_within_ok _ _ _)) ?_
  simp[hn]
  (repeat first|refine And.intro (by omega) ?_|refine And.intro (Fits.of (by omega) (by omega)) ?_)
  exact hJ.next (k+1) hkl (by omega) (by simp) (by simp)
 simp[hkl]
 refine hJ.exit ?_
 simp
 refine Lp.intro (σ:=Nat) (inv:=fun k=>k≤x.strk.length) (vw:=fun k=>[(1,.ptr 1 0 (s1+1)),(3,.bool true),(88,LLM x.strk),(89,.int .i64 x.strk.length),(90,.int .i64 k)]) (hp:=fun _=>[(1,.row x.c (s1+1))]) (ms:=fun k=>x.strk.length - k) 0 (Nat.zero_le _) (by simp) (by simp) ?_
 intro k hk J hJ
 by_cases hkl:k<x.strk.length
 ·obtain ⟨l,hl⟩ : ∃l,l=x.strk[k]:=⟨_,rfl⟩
  have hlm:l∈x.strk:=by rw[hl];simp
  have hll :(l.length:Int)≤6:=by have:=hv.ml l hlm;omega
  have hmf:=hv.mf l hlm
  simp[hkl,←hl,hll]
  refine Lp.intro (σ:=Nat) (inv:=fun j=>j≤l.length) (vw:=fun j=>[(1,.ptr 1 0 (s1+1)),(3,.bool true),(88,LLM x.strk),(89,.int .i64 x.strk.length),(90,.int .i64 k),(100,LMk l),(101,.int .i64 l.length),(102,.int .i64 j)]) (hp:=fun _=>[(1,.row x.c (s1+1))]) (ms:=fun j=>l.length - j) 0 (Nat.zero_le _) (by simp) (by simp) ?_
  intro j hj J2 hJ2
  by_cases hjl:j<l.length
  ·obtain ⟨m,hm⟩ : ∃m,m=l[j]:=⟨_,rfl⟩
   obtain ⟨h1,h2,h3,h4⟩:=hmf m (by rw[hm];simp)
   simp[hjl,←hm]
   refine ⟨by omega,fun s2=>⟨by unfold Fits;omega,?_⟩⟩
   refine PCallK.intro (PInv.func (book_within_ok _ _ _)) ?_
   simp[h1]
   refine PCallK.intro (PInv.func (book_isSpan_ok ⟨h2,h3,h4⟩)) ?_
   simp
   (repeat first|refine And.intro (by omega) ?_|refine And.intro (Fits.of (by omega) (by omega)) ?_)
   exact hJ2.next (j+1) hjl (by omega) (by simp) (by simp)
  simp[hjl]
  refine hJ2.exit ?_
  simp
  (repeat first|refine And.intro (by omega) ?_|refine And.intro (Fits.of (by omega) (by omega)) ?_)
  exact hJ.next (k+1) hkl (by omega) (by simp) (by simp)
 simp[hkl]
 refine hJ.exit ?_
 simp
 refine Lp.intro (σ:=Nat) (inv:=fun k=>k≤x.clm.length) (vw:=fun k=>[(1,.ptr 1 0 (s1+1)),(3,.bool true),(126,LCl x.clm),(127,.int .i64 x.clm.length),(128,.int .i64 k)]) (hp:=fun _=>[(1,.row x.c (s1+1))]) (ms:=fun k=>x.clm.length - k) 0 (Nat.zero_le _) (by simp) (by simp) ?_
 intro k hk J hJ
 by_cases hkl:k<x.clm.length
 ·obtain ⟨c,hc⟩ : ∃c,c=x.clm[k]:=⟨_,rfl⟩
  obtain ⟨h1,h2⟩:=hv.cl c (by rw[hc];simp)
  simp[hkl,←hc]
  refine ⟨by omega,fun s2=>⟨by unfold Fits;omega,?_⟩⟩
  refine PCallK.intro (PInv.func (book_within_ok _ _ _)) ?_
  simp[h1]
  refine ⟨by unfold Fits;omega,?_⟩
  refine PCallK.intro (PInv.func (book_within_ok _ _ _)) ?_
  simp[h2]
  (repeat first|refine And.intro (by omega) ?_|refine And.intro (Fits.of (by omega) (by omega)) ?_)
  exact hJ.next (k+1) hkl (by omega) (by simp) (by simp)
 simp[hkl]
 refine hJ.exit ?_
 simp
 exact RetV.wk (nilH_le _) rfl
end Go.Cw
end
section
namespace Go.Cw
open Go Go.Proofs
def intT (n:Int):List UInt8:=32::Lib.itoa n
def markT (m:Mak):List UInt8:=32 ::(Lib.itoa m.f++(61 ::(Prt.sp m.lo m.hi).t))
def ownerT (m:Int) (l:List Int):List UInt8:=[111,119,110,101,114,32]++(Lib.itoa m++l.flatMap intT)
def strakeT (l:List Mak):List UInt8:=[115,116,114,97,107,101]++l.flatMap markT
def claimT (c:Clm):List UInt8:=[99,108,97,105,109,32]++(Lib.itoa c.s++(32 ::((if c.n then [33] else [])++Lib.itoa c.o)))
def ironH (x:Irn):List UInt8:=[105,114,111,110,115,32]++Lib.itoa x.ft
def ownrsT (l:List (Int×List Int)):List UInt8:=l.flatMap fun a=>ownerT a.1 a.2++[10]
def strakesT (l:List (List Mak)):List UInt8:=l.flatMap fun a=>strakeT a++[10]
def claimsT (l:List Clm):List UInt8:=l.flatMap fun a=>claimT a++[10]
def Irn.mo (x:Irn):List (Int×List Int):=x.most.zip x.own
def ironTxt (x:Irn):List UInt8:=ironH x++(10 ::(ownrsT x.mo++(strakesT x.strk++claimsT x.clm)))
namespace Irn.Valid
variable {x : Irn} (hv:x.Valid)
include hv
theorem mo_len : x.mo.length=x.own.length:=by have:=hv.nm;simp[Irn.mo];omega
theorem mo_at {k:Nat} (h:k<x.own.length):x.mo[k]'(by rw[hv.mo_len];exact h) =(x.most[k]'(by rw[hv.nm];exact h),x.own[k]):=by simp[Irn.mo]
theorem ownl {l:List Int} (hl:l∈x.own):l.length≤4:=by have:=hv.ol l hl;have:=hv.ft;omega
theorem ints_len {l:List Int} (hl:l∈x.own) :(l.flatMap intT).length≤16:=by
 have h1 :(l.flatMap intT).length≤l.length*4:=flat_len fun n hn=>by
  have:=hv.ov l hl n hn
  have:=itoa_small (n:=n) (by omega)
  simp[intT];omega
 have:=hv.ownl hl;omega
theorem owner_len {k:Nat} (h:k<x.own.length) :(ownerT (x.most[k]'(by rw[hv.nm];exact h)) x.own[k]).length≤25:=by
 have h1:=hv.ints_len (l:=x.own[k]) (by simp)
 have h2:=hv.mo (x.most[k]'(by rw[hv.nm];exact h)) (by simp)
 have:=itoa_small (n:=x.most[k]'(by rw[hv.nm];exact h)) (by omega)
 simp only[ownerT,List.length_append,List.length_cons,List.length_nil];omega
theorem mark_len {l:List Mak} (hl:l∈x.strk) {m:Mak} (hm:m∈l) :(markT m).length≤13:=by
 obtain ⟨h1,h2,h3,h4⟩:=hv.mf l hl m hm
 have hft:=hv.ft
 have:=itoa_small (n:=m.f) (by omega)
 have:=sp_small (lo:=m.lo) (hi:=m.hi) (by omega) (by omega)
 simp[markT];omega
theorem marks_len {l:List Mak} (hl:l∈x.strk) :(l.flatMap markT).length≤78:=by
 have h1 :(l.flatMap markT).length≤l.length*13:=flat_len fun m hm=>hv.mark_len hl hm
 have:=hv.ml l hl;omega
theorem strake_len {l:List Mak} (hl:l∈x.strk) :(strakeT l).length≤84:=by
 have:=hv.marks_len hl
 simp only[strakeT,List.length_append,List.length_cons,List.length_nil];omega
theorem claim_len {c:Clm} (hc:c∈x.clm) :(claimT c).length≤14:=by
 obtain ⟨h1,h2⟩:=hv.cl c hc
 have:=hv.ns
 have:=hv.no
 have:=itoa_small (n:=c.s) (by omega)
 have:=itoa_small (n:=c.o) (by omega)
 have h3 :(if c.n then [(33:UInt8)] else []).length≤1:=by split<;>simp
 simp only[claimT,List.length_append,List.length_cons,List.length_nil];omega
theorem head_len :(ironH x).length≤9:=by
 have:=hv.ft
 have:=itoa_small (n:=x.ft) (by omega)
 simp[ironH];omega
theorem owners_len :(ownrsT x.mo).length≤130:=by
 have h1 :(ownrsT x.mo).length≤x.mo.length*26:=flat_len fun a ha=>by
  obtain ⟨k,hk,rfl⟩:=List.getElem_of_mem ha
  have hk':k<x.own.length:=by rw[hv.mo_len] at hk;exact hk
  rw[hv.mo_at hk']
  have:=hv.owner_len hk'
  simp;omega
 have:=hv.mo_len;have:=hv.no;omega
theorem strakes_len :(strakesT x.strk).length≤510:=by
 have h1 :(strakesT x.strk).length≤x.strk.length*85:=flat_len fun a ha=>by have:=hv.strake_len ha;simp;omega
 have:=hv.ns;omega
theorem claims_len :(claimsT x.clm).length≤120:=by
 have h1 :(claimsT x.clm).length≤x.clm.length*15:=flat_len fun a ha=>by have:=hv.claim_len ha;simp;omega
 have:=hv.nc;omega
theorem txt_len :(ironTxt x).length≤1000:=by
 have:=hv.head_len
 have:=hv.owners_len
 have:=hv.strakes_len
 have:=hv.claims_len
 simp[ironTxt];omega
end Irn.Valid
theorem said1 (l:List Prt) (v:List UInt8) (hp:prtsT l=v) (h1:l.length≤100) (h2:∀a∈l,a.Ok) (h3:v.length≤1000):APure Pg fn_book_said [.vl l.length (l.map Prt.v)] (.str v):=by
 subst hp;exact book_said_ok l h1 h2 h3
theorem book_irons_5_ok {x:Irn} (hv:x.Valid):APure Pg fn_book_irons_5 [x.v] (.str (ironTxt x)):=by
 have hft:=hv.ft
 have hno:=hv.no
 have hns:=hv.ns
 have hnc:=hv.nc
 have hnm:=hv.nm
 have hl0:=hv.head_len
 have hl1:=hv.owners_len
 have hl2:=hv.strakes_len
 have hl3:=hv.claims_len
 have hml:=hv.mo_len
 obtain ⟨pr,hpr⟩ : ∃pr,pr=ironH x++[10]:=⟨_,rfl⟩
 have hprl:pr.length≤10:=by rw[hpr];simp;omega
 have hsd:=said1 [.s [105,114,111,110,115,32],.i x.ft,.s [10]] pr (by rw[hpr];simp[prtsT,Prt.t,ironH]) (by simp) (by simp[Prt.Ok];omega) (by omega)
 refine book_irons_5.e.p (by simp) ?_
 simp
 intro s1 s20
 refine FCall.frz1 (v:=.str pr) 20 (cells:=[.iface 9 (.str [105,114,111,110,115,32]),.iface 3 (.int .i64 x.ft),.iface 9 (.str [10])]) (s:=s20+1) (by simp) (PInv.func (by simpa[Prt.v] using hsd)) (by simp) ?_
 simp
 refine Lp.intro (σ:=Nat) (inv:=fun k=>k≤x.own.length) (vw:=fun k=>[(1,.ptr 1 0 (s1+1)),(3,.str (pr++ownrsT (x.mo.take k))),(23,LLv x.own),(24,.int .i64 x.own.length),(25,.int .i64 k)]) (hp:=fun _=>[(1,.row x.c (s1+1))]) (ms:=fun k=>x.own.length - k) 0 (Nat.zero_le _) (by simp[ownrsT]) (by simp) ?_
 intro k hk J hJ
 by_cases hkl:k<x.own.length
 ·obtain ⟨l,hl⟩ : ∃l,l=x.own[k]:=⟨_,rfl⟩
  obtain ⟨m,hm⟩ : ∃m,m=x.most[k]'(by omega):=⟨_,rfl⟩
  have hlm:l∈x.own:=by rw[hl];simp
  have hmo:=hv.mo m (by rw[hm];simp)
  have hll:=hv.ownl hlm
  have hat:=hv.mo_at hkl
  rw[←hl,←hm] at hat
  have htk:=flat_snoc (fun a:Int×List Int=>ownerT a.1 a.2++[10]) (l:=x.mo) (k:=k) (by omega)
  simp only[hat] at htk
  have hle :(ownrsT (x.mo.take (k+1))).length≤(ownrsT x.mo).length:=flat_take _ _ _
  have htk':ownrsT (x.mo.take (k+1))=ownrsT (x.mo.take k)++(ownerT m l++[10]):=htk
  rw[htk',List.length_append] at hle
  have hil:=hv.ints_len hlm
  obtain ⟨b0,hb0⟩ : ∃b0,b0=pr++ownrsT (x.mo.take k):=⟨_,rfl⟩
  have hbl:b0.length≤140:=by rw[hb0];simp;omega
  have hsa:=said1 [.s [111,119,110,101,114,32],.i m] ([111,119,110,101,114,32]++Lib.itoa m) (by simp[prtsT,Prt.t]) (by simp) (by simp[Prt.Ok];omega) (by have:=itoa_small (n:=m) (by omega);simp;omega)
  have hmi:=itoa_small (n:=m) (by omega)
  have hkm:k<x.most.length:=by omega
  rw[←hb0]
  simp[hkl,←hl,hkm,←hm]
  intro s38
  refine FCall.frz1 (v:=.str ([111,119,110,101,114,32]++Lib.itoa m)) 38 (cells:=[.iface 9 (.str [111,119,110,101,114,32]),.iface 3 (.int .i64 m)]) (s:=s38+1) (by simp) (PInv.func (by simpa[Prt.v] using hsa)) (by simp) ?_
  simp
  refine ⟨by omega,?_⟩
  obtain ⟨b1,hb1⟩ : ∃b1,b1=b0++([111,119,110,101,114,32]++Lib.itoa m):=⟨_,rfl⟩
  have hb1l:b1.length≤150:=by rw[hb1];simp;omega
  refine Lp.intro (σ:=Nat) (inv:=fun j=>j≤l.length) (vw:=fun j=>[(1,.ptr 1 0 (s1+1)),(3,.str (b1++(l.take j).flatMap intT)),(23,LLv x.own),(24,.int .i64 x.own.length),(25,.int .i64 k),(41,L l),(42,.int .i64 l.length),(43,.int .i64 j)]) (hp:=fun _=>[(1,.row x.c (s1+1))]) (ms:=fun j=>l.length - j) 0 (Nat.zero_le _) (by simp[hb1]) (by simp) ?_
  intro j hj J2 hJ2
  by_cases hjl:j<l.length
  ·obtain ⟨n,hn⟩ : ∃n,n=l[j]:=⟨_,rfl⟩
   have hnv:=hv.ov l hlm n (by rw[hn];simp)
   have hts:=flat_snoc intT hjl
   rw[←hn] at hts
   have hlt:=flat_take intT l (j+1)
   rw[hts,List.length_append] at hlt
   have hsb:=said1 [.s [32],.i n] (intT n) (by simp[prtsT,Prt.t,intT]) (by simp) (by simp[Prt.Ok];omega) (by omega)
   simp[hjl,←hn]
   intro s51
   refine FCall.frz1 (v:=.str (intT n)) 51 (cells:=[.iface 9 (.str [32]),.iface 3 (.int .i64 n)]) (s:=s51+1) (by simp) (PInv.func (by simpa[Prt.v] using hsb)) (by simp) ?_
   obtain ⟨q,hq⟩ : ∃q,q =(l.take j).flatMap intT:=⟨_,rfl⟩
   rw[←hq] at hts hlt ⊢
   simp
   refine ⟨by omega,by unfold Fits;omega,?_⟩
   exact hJ2.next (j+1) hjl (by omega) (by simp[hts]) (by simp)
  have hj':j=l.length:=by omega
  subst hj'
  rw[List.take_length]
  obtain ⟨q,hq⟩ : ∃q,q=l.flatMap intT:=⟨_,rfl⟩
  rw[←hq] at hil ⊢
  simp
  refine hJ2.exit ?_
  simp
  refine ⟨by omega,by unfold Fits;omega,?_⟩
  exact hJ.next (k+1) hkl (by omega) (by simp[htk',hb1,hb0,ownerT,hq]) (by simp)
 have hkl':k=x.own.length:=by omega
 subst hkl'
 rw[←hml,List.take_length]
 simp[hml]
 refine hJ.exit ?_
 simp
 obtain ⟨pq,hpq⟩ : ∃pq,pq=pr++ownrsT x.mo:=⟨_,rfl⟩
 have hpql:pq.length≤140:=by rw[hpq];simp;omega
 rw[←hpq]
 refine Lp.intro (σ:=Nat) (inv:=fun k=>k≤x.strk.length) (vw:=fun k=>[(1,.ptr 1 0 (s1+1)),(3,.str (pq++strakesT (x.strk.take k))),(59,LLM x.strk),(60,.int .i64 x.strk.length),(61,.int .i64 k)]) (hp:=fun _=>[(1,.row x.c (s1+1))]) (ms:=fun k=>x.strk.length - k) 0 (Nat.zero_le _) (by simp[strakesT]) (by simp) ?_
 intro k hk J hJ
 by_cases hkl:k<x.strk.length
 ·obtain ⟨l,hl⟩ : ∃l,l=x.strk[k]:=⟨_,rfl⟩
  have hlm:l∈x.strk:=by rw[hl];simp
  have hll:=hv.ml l hlm
  have htk:=flat_snoc (fun a=>strakeT a++[10]) hkl
  simp only[←hl] at htk
  have hle :(strakesT (x.strk.take (k+1))).length≤(strakesT x.strk).length:=flat_take _ _ _
  have htk':strakesT (x.strk.take (k+1))=strakesT (x.strk.take k)++(strakeT l++[10]):=htk
  rw[htk',List.length_append] at hle
  have hil:=hv.marks_len hlm
  obtain ⟨b0,hb0⟩ : ∃b0,b0=pq++strakesT (x.strk.take k):=⟨_,rfl⟩
  have hbl:b0.length≤650:=by rw[hb0];simp;omega
  rw[←hb0]
  simp[hkl,←hl]
  refine ⟨by omega,?_⟩
  obtain ⟨b1,hb1⟩ : ∃b1,b1=b0++[115,116,114,97,107,101]:=⟨_,rfl⟩
  have hb1l:b1.length≤656:=by rw[hb1];simp;omega
  refine Lp.intro (σ:=Nat) (inv:=fun j=>j≤l.length) (vw:=fun j=>[(1,.ptr 1 0 (s1+1)),(3,.str (b1++(l.take j).flatMap markT)),(59,LLM x.strk),(60,.int .i64 x.strk.length),(61,.int .i64 k),(67,LMk l),(68,.int .i64 l.length),(69,.int .i64 j)]) (hp:=fun _=>[(1,.row x.c (s1+1))]) (ms:=fun j=>l.length - j) 0 (Nat.zero_le _) (by simp[hb1]) (by simp) ?_
  intro j hj J2 hJ2
  by_cases hjl:j<l.length
  ·obtain ⟨m,hm⟩ : ∃m,m=l[j]:=⟨_,rfl⟩
   have hmm:m∈l:=by rw[hm];simp
   obtain ⟨h1,h2,h3,h4⟩:=hv.mf l hlm m hmm
   have hmk:=hv.mark_len hlm hmm
   have hts:=flat_snoc markT hjl
   rw[←hm] at hts
   have hlt:=flat_take markT l (j+1)
   rw[hts,List.length_append] at hlt
   have hsb:=said1 [.s [32],.i m.f,.s [61],.sp m.lo m.hi] (markT m) (by simp[prtsT,Prt.t,markT]) (by simp) (by simp[Prt.Ok];omega) (by omega)
   simp[hjl,←hm]
   refine ⟨by omega,fun s11 s85=>?_⟩
   refine FCall.frz1 (v:=.str (markT m)) 85 (cells:=[.iface 9 (.str [32]),.iface 3 (.int .i64 m.f),.iface 9 (.str [61]),.iface 52 (.agg [.int .i64 m.lo,.int .i64 m.hi])]) (s:=s85+1) (by simp) (PInv.func (by simpa[Prt.v] using hsb)) (by simp) ?_
   obtain ⟨q,hq⟩ : ∃q,q =(l.take j).flatMap markT:=⟨_,rfl⟩
   rw[←hq] at hts hlt ⊢
   simp
   refine ⟨by omega,by unfold Fits;omega,?_⟩
   exact hJ2.next (j+1) hjl (by omega) (by simp[hts]) (by simp)
  have hj':j=l.length:=by omega
  subst hj'
  rw[List.take_length]
  obtain ⟨q,hq⟩ : ∃q,q=l.flatMap markT:=⟨_,rfl⟩
  rw[←hq] at hil ⊢
  simp
  refine hJ2.exit ?_
  simp
  refine ⟨by omega,by unfold Fits;omega,?_⟩
  exact hJ.next (k+1) hkl (by omega) (by simp[htk',hb1,hb0,strakeT,hq]) (by simp)
 have hkl':k=x.strk.length:=by omega
 subst hkl'
 rw[List.take_length]
 simp
 refine hJ.exit ?_
 simp
 obtain ⟨ps,hps⟩ : ∃ps,ps=pq++strakesT x.strk:=⟨_,rfl⟩
 have hpsl:ps.length≤650:=by rw[hps];simp;omega
 rw[←hps]
 refine Lp.intro (σ:=Nat) (inv:=fun k=>k≤x.clm.length) (vw:=fun k=>[(3,.str (ps++claimsT (x.clm.take k))),(93,LCl x.clm),(94,.int .i64 x.clm.length),(95,.int .i64 k)]) (hp:=fun _=>[]) (ms:=fun k=>x.clm.length - k) 0 (Nat.zero_le _) (by simp[claimsT]) (by simp) ?_
 intro k hk J hJ
 by_cases hkl:k<x.clm.length
 ·obtain ⟨c,hc⟩ : ∃c,c=x.clm[k]:=⟨_,rfl⟩
  have hcm:c∈x.clm:=by rw[hc];simp
  obtain ⟨h1,h2⟩:=hv.cl c hcm
  have hcl:=hv.claim_len hcm
  have htk:=flat_snoc (fun a=>claimT a++[10]) hkl
  simp only[←hc] at htk
  have hle :(claimsT (x.clm.take (k+1))).length≤(claimsT x.clm).length:=flat_take _ _ _
  have htk':claimsT (x.clm.take (k+1))=claimsT (x.clm.take k)++(claimT c++[10]):=htk
  rw[htk',List.length_append] at hle
  have e1 :(claimT c++[(10:UInt8)]).length =(claimT c).length+1:=by simp
  rw[e1] at hle
  obtain ⟨b0,hb0⟩ : ∃b0,b0=ps++claimsT (x.clm.take k):=⟨_,rfl⟩
  have hbl:b0.length≤800:=by rw[hb0];simp;omega
  have hsb:=said1 [.s [99,108,97,105,109,32],.i c.s,.s [32],.s (if c.n then [33] else []),.i c.o,.s [10]] (claimT c++[10]) (by simp[prtsT,Prt.t,claimT]) (by simp) (by simp[Prt.Ok];omega) (by rw[e1];omega)
  rw[←hb0]
  simp[hkl,←hc]
  refine ⟨by omega,fun s13=>?_⟩
  cases hcn:c.n with
  | true=>
    rw[hcn] at hsb
    simp
    intro s113
    refine FCall.frz1 (v:=.str (claimT c++[10])) 113 (cells:=[.iface 9 (.str [99,108,97,105,109,32]),.iface 3 (.int .i64 c.s),.iface 9 (.str [32]),.iface 9 (.str [33]),.iface 3 (.int .i64 c.o),.iface 9 (.str [10])]) (s:=s113+1) (by simp) (PInv.func (by simpa[Prt.v] using hsb)) (by simp) ?_
    simp
    refine ⟨by omega,by unfold Fits;omega,?_⟩
    exact hJ.next (k+1) hkl (by omega) (by simp[htk',hb0]) (by simp)
  | false=>
    rw[hcn] at hsb
    simp
    intro s113
    refine FCall.frz1 (v:=.str (claimT c++[10])) 113 (cells:=[.iface 9 (.str [99,108,97,105,109,32]),.iface 3 (.int .i64 c.s),.iface 9 (.str [32]),.iface 9 (.str []),.iface 3 (.int .i64 c.o),.iface 9 (.str [10])]) (s:=s113+1) (by simp) (PInv.func (by simpa[Prt.v] using hsb)) (by simp) ?_
    simp
    refine ⟨by omega,by unfold Fits;omega,?_⟩
    exact hJ.next (k+1) hkl (by omega) (by simp[htk',hb0]) (by simp)
 have hkl':k=x.clm.length:=by omega
 subst hkl'
 rw[List.take_length]
 simp
 refine hJ.exit ?_
 simp
 exact RetV.wk (nilH_le _) (by simp[ironTxt,hps,hpq,hpr])
end Go.Cw
end
section
namespace Go.Cw
open Go Go.Proofs
def numF : AVal:=.func (.func fn_book_reader_number) [] []
def kindsI : List AVal:=[.str [105,114,111,110,115,32],.func (.func fn_book_irons_1) [] [.pv [numF]],.str [111,119,110,101,114,32],.func (.func fn_book_irons_2) [] [.pv [numF]],.str [115,116,114,97,107,101],.func (.func fn_book_irons_3) [] [.pv [numF]],.str [99,108,97,105,109,32],.func (.func fn_book_irons_4) [] [.pv [numF]]]
def fileIc : List AVal:=[.int .i64 1,.vl 4 kindsI,.func (.func fn_book_irons_5) [] [],.func (.func fn_book_isIrons) [] []]
theorem book_irons_ok : APure Pg fn_book_irons [] (.agg fileIc):=by
 refine book_irons.e.p (by simp) ?_
 simp
 intro s0 s1 s10
 refine RetV.frzH 1 (cells:=[numF]) (s:=s1+1) (by simp[numF]) ?_
 simp
 refine RetV.frz 10 (cells:=kindsI) (s:=s10+1) (by simp[kindsI]) ?_
 exact RetV.wk (nilH_le _) (by simp[fileIc])
theorem book_write_Irons_ok {x:Irn} (hv:x.Valid):APure Pg fn_book_write_api_Irons [.agg fileIc,x.v] (.str (ironTxt x)):=by
 refine book_write_api_Irons.e.p (by simp) ?_
 simp[fileIc]
 intro s2 s3
 refine FCall.pure (v:=.bool true) (PInv.func (by simpa[Irn.v] using book_isIrons_ok hv)) ?_
 simp
 refine FCall.pure (PInv.func (book_ask_ok _)) ?_
 simp
 refine FCall.pure (v:=.str (ironTxt x)) (PInv.func (by simpa[Irn.v] using book_irons_5_ok hv)) ?_
 simp
 exact RetV.wk (nilH_le _) rfl
theorem book_WriteIrons_ok {x:Irn} (hv:x.Valid):APure Pg fn_book_WriteIrons [x.v] (.tup [.str (ironTxt x),.int .i64 0]):=by
 refine book_WriteIrons.e.p (by simp) ?_
 simp
 intro s1 s3
 refine FCall.pure' (PInv.func book_irons_ok) (by simp) (by simp) ?_
 simp
 refine FCall.pure (v:=.str (ironTxt x)) (PInv.func (by simpa[Irn.v] using book_write_Irons_ok hv)) ?_
 simp
 refine RetA.ret rfl (book_answer_ok ?_)
 simp
 exact RetV.wk (nilH_le _) rfl
section
variable {F n₀:Nat} {inr:Bool} {keep:List Nat} {d:Option Nat} {K:KT} {Q:Post} {tm:TM} {df:DF} {hp:Heap} {r s:Nat} {fl:List It}
theorem FCall.numF {n:Int} {t:List UInt8} (hr:hp r=.row [.str (Lib.itoa n++t)] s) (hn : -99999≤n∧n≤99999) (ht:∀c,t.head? = some c→¬isDig c) (k:FlOk fl (putD tm d (.int .i64 n)) (upd hp r (.row [.str t] s))∧K (putD tm d (.int .i64 n)) df (upd hp r (.row [.str t] s))) :
 FCall ⟨Pg,F,n₀,inr,keep⟩ Go.Cw.numF [.ptr r 0 s] [] fl d K Q tm df hp:=by
 refine FCall.cps [(r,.row [.str (Lib.itoa n++t)] s)] (fun _:Unit=>.int .i64 n) (fun _=>[(r,.row [.str t] s)]) (fun _=>True) (fun K' hK'=>AInvoke.func ?_) ⟨hr,trivial⟩ (fun _=>rfl) trivial (fun _ _=>k)
 exact book_number_ok n hn t ht (hK' () trivial)
end
theorem book_irons_1_ok {n:Int} (hn : -99999≤n∧n≤99999) {a b c d e:AVal} {sx sr:Nat} {K:AEnd→Heap→Prop} (k:K (.ret (.tup [])) (hpV [(4,.row [.int .i64 n,b,c,d,e] sx),(17,.row [.str []] sr)])) :
 ACalls Pg fn_book_irons_1 [.ptr 4 0 sx,.ptr 17 0 sr,.pv [numF]] (hpV [(4,.row [a,b,c,d,e] sx),(17,.row [.str (Lib.itoa n)] sr)]) K:=by
 refine book_irons_1.e 100 (by simp) ?_
 simp
 refine FCall.numF (n:=n) (t:=[]) (by simp) hn (fun c hc=>by cases hc) ?_
 simp
 exact RetV.view [(4,.row [.int .i64 n,b,c,d,e] sx),(17,.row [.str []] sr)] (by simp) k
theorem ints_stop (l:List Int):∀c,(l.flatMap intT).head? = some c→¬isDig c:=by
 intro c hc
 cases l with
 | nil=>cases hc
 | cons a l=>simp[intT] at hc;subst hc;decide
theorem book_irons_2_ok {m:Int} (hm : -99999≤m∧m≤99999) (l:List Int) (hl:l.length≤4) (hlv:∀n∈l,0≤n∧n≤9) (ms:List Int) (os:List (List Int)) (hms:ms.length≤4) (hos:os.length≤4) {a d e:AVal} (za:∀r s c,frz r s c a=a) (zd:∀r s c,frz r s c d=d) (ze:∀r s c,frz r s c e=e) {sx sr st su:Nat} {K:AEnd→Heap→Prop}
 (k:∀s' s'',K (.ret (.tup [])) (hpV [(4,.row [a,gS 1 133 (os.length+1) s'',gS 1 115 (ms.length+1) s',d,e] sx),(17,.row [.str []] sr),(115,gO (ms.length+1) (ints (ms++[m])) s'),(133,gO (os.length+1) (LL (os++[l])) s'')])) :
 ACalls Pg fn_book_irons_2 [.ptr 4 0 sx,.ptr 17 0 sr,.pv [numF]] (hpV [(4,.row [a,gS 1 133 os.length su,gS 1 115 ms.length st,d,e] sx),(17,.row [.str (Lib.itoa m++l.flatMap intT)] sr),(115,gO ms.length (ints ms) st),(133,gO os.length (LL os) su)]) K:=by
 refine book_irons_2.e 100 (by simp) ?_
 simp
 refine FCall.numF (n:=m) (t:=l.flatMap intT) (by simp) hm (ints_stop l) ?_
 simp
 intro s14 s15
 refine xApN_gS (cells:=ints ms) (by simp) (by simp) (by omega) (by omega) ?_
 simp
 refine Lp.intro' (σ:=Nat×Nat) (inv:=fun x=>x.1≤l.length) (vw:=fun x=>[(0,.ptr 4 0 sx),(1,.ptr 17 0 sr),(2,.pv [numF]),(5,gS 1 125 x.1 x.2)])
  (hp:=fun x=>[(4,.row [a,gS 1 133 os.length su,gS 1 115 (ms.length+1) (s15+1),d,e] sx),(17,.row [.str ((l.drop x.1).flatMap intT)] sr),(115,gO (ms.length+1) (ints (ms++[m])) (s15+1)),(133,gO os.length (LL os) su),(125,gO x.1 (ints (l.take x.1)) x.2)]) (ms:=fun x=>l.length - x.1) (0,0) (Nat.zero_le _)
  (Sl.wk 5 .es ALe.nils_es (Sl.refl ⟨rfl,by simp,by simp[ints]⟩)) ?_
 rintro ⟨i,sv⟩ hi J hJ
 simp only at hi
 by_cases hil:i<l.length
 ·obtain ⟨n,hn⟩ : ∃n,n=l[i]:=⟨_,rfl⟩
  have hnv:=hlv n (by rw[hn];simp)
  have hd :(l.drop i).flatMap intT=[32]++(Lib.itoa n++(l.drop (i+1)).flatMap intT):=by rw[List.drop_eq_getElem_cons hil,←hn];simp[intT]
  have hone:l.take i++[n]=l.take (i+1):=by rw[hn];exact List.take_append_getElem hil
  simp
  refine FCall.sees (rest:=[32]++(Lib.itoa n++(l.drop (i+1)).flatMap intT)) (by simp[hd]) ?_
  rw[pre_app,aft_app]
  simp
  refine FCall.numF (n:=n) (t:=(l.drop (i+1)).flatMap intT) (by simp) (by omega) (ints_stop _) ?_
  simp
  intro s24 s25
  refine xApN_gS (cells:=ints (l.take i)) (by simp) (by simp;omega) (by omega) (by omega) ?_
  simp
  exact hJ.next (i+1,s25+1) hil (by simp;omega) (by simp) (by simp[hone])
 ·obtain rfl:i=l.length:=by omega
  simp
  refine FCall.sees (rest:=[]) (by simp) ?_
  have hp:pre [32] []=false:=rfl
  simp[hp,aft_no hp]
  refine hJ.exit ?_
  simp
  refine Sl.toV [(0,.ptr 4 0 sx),(1,.ptr 17 0 sr),(5,L l)] [(4,.row [a,gS 1 133 os.length su,gS 1 115 (ms.length+1) (s15+1),d,e] sx),(17,.row [.str []] sr),(115,gO (ms.length+1) (ints (ms++[m])) (s15+1)),(133,gO os.length (LL os) su)] ?_ ?_
  ·by_cases h0:l.length=0
   ·have hl0:l=[]:=List.eq_nil_of_length_eq_zero h0
    refine Sl.wk 5 (.vl 0 []) (by simp[hl0];exact ALe.es_vl) (Sl.refl ⟨rfl,by simp[hl0,L,ints],by simp⟩)
   ·have h1:0<l.length:=by omega
    refine Sl.gSH 125 (m:=l.length) (cells:=ints l) (s:=sv) h1 (by simp) (Sl.refl ⟨rfl,?_,?_⟩)
    ·simp[gS_pos h1,L]
    ·simp[za,zd,ze,frz_gS]
  ·simp
   intro s32 s33
   refine xApN_gS (cells:=LL os) (by simp) (by simp) (by omega) (by omega) ?_
   simp
   exact RetV.view [(4,.row [a,gS 1 133 (os.length+1) (s33+1),gS 1 115 (ms.length+1) (s15+1),d,e] sx),(17,.row [.str []] sr),(115,gO (ms.length+1) (ints (ms++[m])) (s15+1)),(133,gO (os.length+1) (LL (os++[l])) (s33+1))] (by simp) (k (s15+1) (s33+1))
theorem marks_stop (l:List Mak):∀c,(l.flatMap markT).head? = some c→¬isDig c∧c≠46:=by
 intro c hc
 cases l with
 | nil=>cases hc
 | cons a l=>simp[markT] at hc;subst hc;decide
theorem book_irons_3_ok (l:List Mak) (hl:l.length≤6) (hlv:∀m∈l,(0≤m.f∧m.f≤9)∧0≤m.lo∧m.lo≤m.hi∧m.hi≤9) (os:List (List Mak)) (hos:os.length≤5) {a b d e:AVal} (za:∀r s c,frz r s c a=a) (zb:∀s c,frz 127 s c b=b) (zd:∀s c,frz 127 s c d=d) (ze:∀r s c,frz r s c e=e) {sx sr su:Nat} {K:AEnd→Heap→Prop}
 (k:∀s'',K (.ret (.tup [])) (hpV [(4,.row [a,b,d,gS 1 135 (os.length+1) s'',e] sx),(17,.row [.str []] sr),(135,gO (os.length+1) (LM (os++[l])) s'')])) :
 ACalls Pg fn_book_irons_3 [.ptr 4 0 sx,.ptr 17 0 sr,.pv [numF]] (hpV [(4,.row [a,b,d,gS 1 135 os.length su,e] sx),(17,.row [.str (l.flatMap markT)] sr),(135,gO os.length (LM os) su)]) K:=by
 refine book_irons_3.e 100 (by simp) ?_
 simp
 refine Lp.intro' (σ:=Nat×Nat) (inv:=fun x=>x.1≤l.length) (vw:=fun x=>[(0,.ptr 4 0 sx),(1,.ptr 17 0 sr),(2,.pv [numF]),(5,gS 3 127 x.1 x.2)])
  (hp:=fun x=>[(4,.row [a,b,d,gS 1 135 os.length su,e] sx),(17,.row [.str ((l.drop x.1).flatMap markT)] sr),(135,gO os.length (LM os) su),(127,gO x.1 (maks (l.take x.1)) x.2)]) (ms:=fun x=>l.length - x.1) (0,0) (Nat.zero_le _)
  (Sl.wk 5 .es ALe.nils_es (Sl.refl ⟨rfl,by simp,by simp⟩)) ?_
 rintro ⟨i,sv⟩ hi J hJ
 simp only at hi
 by_cases hil:i<l.length
 ·obtain ⟨m,hm⟩ : ∃m,m=l[i]:=⟨_,rfl⟩
  obtain ⟨h1,h2,h3,h4⟩:=hlv m (by rw[hm];simp)
  have hd :(l.drop i).flatMap markT=[32]++(Lib.itoa m.f++([61]++((Prt.sp m.lo m.hi).t++(l.drop (i+1)).flatMap markT))):=by rw[List.drop_eq_getElem_cons hil,←hm];simp[markT]
  have hone:maks (l.take i)++[.int .i64 m.f,.int .i64 m.lo,.int .i64 m.hi]=maks (l.take (i+1)):=by
   rw[←List.take_append_getElem hil,←hm];exact fl_one (f:=Mak.c) _ m
  simp
  refine FCall.sees (rest:=[32]++(Lib.itoa m.f++([61]++((Prt.sp m.lo m.hi).t++(l.drop (i+1)).flatMap markT)))) (by simp[hd]) ?_
  rw[pre_app,aft_app]
  simp
  refine FCall.numF (n:=m.f) (t:=[61]++((Prt.sp m.lo m.hi).t++(l.drop (i+1)).flatMap markT)) (by simp) (by omega) (fun c hc=>by cases hc;decide) ?_
  simp
  intro s6
  refine FCall.word (p:=[61]) (t:=(Prt.sp m.lo m.hi).t++(l.drop (i+1)).flatMap markT) (by simp) ?_
  simp
  refine FCall.span (lo:=m.lo) (hi:=m.hi) (t:=(l.drop (i+1)).flatMap markT) (by omega) (by simp) (by omega) (by omega) (marks_stop _) ?_
  simp
  intro s7 s26 s27
  refine xApN_gS (cells:=maks (l.take i)) (by simp) (by simp;omega) (by omega) (by omega) ?_
  simp
  exact hJ.next (i+1,s27+1) hil (by simp;omega) (by simp) (by simp[hone])
 ·obtain rfl:i=l.length:=by omega
  simp
  refine FCall.sees (rest:=[]) (by simp) ?_
  have hp:pre [32] []=false:=rfl
  simp[hp,aft_no hp]
  refine hJ.exit ?_
  simp
  refine Sl.toV [(0,.ptr 4 0 sx),(1,.ptr 17 0 sr),(5,LMk l)] [(4,.row [a,b,d,gS 1 135 os.length su,e] sx),(17,.row [.str []] sr),(135,gO os.length (LM os) su)] ?_ ?_
  ·by_cases h0:l.length=0
   ·have hl0:l=[]:=List.eq_nil_of_length_eq_zero h0
    refine Sl.wk 5 (.vl 0 []) (by simp[hl0];exact ALe.es_vl) (Sl.refl ⟨rfl,by simp[hl0,LMk],by simp⟩)
   ·have h1:0<l.length:=by omega
    refine Sl.gSH 127 (m:=l.length) (cells:=maks l) (s:=sv) h1 (by simp) (Sl.refl ⟨rfl,?_,?_⟩)
    ·simp[gS_pos h1,LMk]
    ·simp[za,zb,zd,ze,frz_gS]
  ·simp
   intro s34 s35
   refine xApN_gS (cells:=LM os) (by simp) (by simp) (by omega) (by omega) ?_
   have hone:LM os++[LMk l]=LM (os++[l]):=by simp[LM]
   simp
   exact RetV.view [(4,.row [a,b,d,gS 1 135 (os.length+1) (s35+1),e] sx),(17,.row [.str []] sr),(135,gO (os.length+1) (LM (os++[l])) (s35+1))] (by simp[hone]) (k (s35+1))
theorem book_irons_4_ok (c:Clm) (h1:0≤c.s∧c.s≤9) (h2:0≤c.o∧c.o≤9) (l:List Clm) (hl:l.length≤7) {a b d e:AVal} {sx sr st:Nat} {K:AEnd→Heap→Prop}
 (k:∀s',K (.ret (.tup [])) (hpV [(4,.row [a,b,d,e,gS 3 126 (l.length+1) s'] sx),(17,.row [.str []] sr),(126,gO (l.length+1) (clms (l++[c])) s')])) :
 ACalls Pg fn_book_irons_4 [.ptr 4 0 sx,.ptr 17 0 sr,.pv [numF]] (hpV [(4,.row [a,b,d,e,gS 3 126 l.length st] sx),(17,.row [.str (Lib.itoa c.s++(32 ::((if c.n then [33] else [])++Lib.itoa c.o)))] sr),(126,gO l.length (clms l) st)]) K:=by
 have hone:clms l++[.int .i64 c.s,.int .i64 c.o,.bool c.n]=clms (l++[c]):=fl_one (f:=Clm.c) l c
 refine book_irons_4.e 100 (by simp) ?_
 simp
 refine FCall.numF (n:=c.s) (t:=[32]++((if c.n then [33] else [])++(Lib.itoa c.o++[]))) (by simp) (by omega) (fun c hc=>by cases hc;decide) ?_
 simp
 intro s5
 refine FCall.word (p:=[32]) (t:=(if c.n then [33] else [])++(Lib.itoa c.o++[])) (by simp) ?_
 simp
 refine FCall.sees (rest:=(if c.n then [33] else [])++(Lib.itoa c.o++[])) (by simp) ?_
 have hpa:pre [33] ((if c.n then [33] else [])++(Lib.itoa c.o++[]))=c.n∧aft [33] ((if c.n then [33] else [])++(Lib.itoa c.o++[]))=Lib.itoa c.o++[]:=by
  cases c.n with
  | true=>exact ⟨pre_app _ _,aft_app _ _⟩
  | false=>
    have:pre [33] (Lib.itoa c.o++[])=false:=pre_head fun d hd=>by
     rw[List.append_nil] at hd
     rcases itoa_chars _ d (List.mem_of_mem_head? hd) with h|h
     ·rintro rfl;revert h;decide
     ·rw[h];decide
    exact ⟨this,aft_no this⟩
 rw[hpa.1,hpa.2]
 simp
 refine FCall.numF (n:=c.o) (t:=[]) (by simp) (by omega) (fun c hc=>by cases hc) ?_
 simp
 intro s25 s26
 refine xApN_gS (cells:=clms l) (by simp) (by simp) (by omega) (by omega) ?_
 simp
 exact RetV.view [(4,.row [a,b,d,e,gS 3 126 (l.length+1) (s26+1)] sx),(17,.row [.str []] sr),(126,gO (l.length+1) (clms (l++[c])) (s26+1))] (by simp[hone]) (k (s26+1))
end Go.Cw
end
section
namespace Go.Cw
open Go Go.Proofs
def ironLs (x:Irn):List (List UInt8):=ironH x ::(x.mo.map (fun a=>ownerT a.1 a.2)++(x.strk.map strakeT++x.clm.map claimT))
theorem ironTxt_join (x:Irn):ironTxt x=joinL (ironLs x):=by simp[ironTxt,ironLs,joinL,ownrsT,strakesT,claimsT,List.flatMap_map]
theorem ironLs_no10 (x:Irn):∀y∈ironLs x,(10:UInt8)∉y:=by
 intro y hy
 simp only[ironLs,List.mem_cons,List.mem_append,List.mem_map] at hy
 rcases hy with rfl|⟨a,_,rfl⟩ | ⟨a,_,rfl⟩ | ⟨a,_,rfl⟩
 ·simp[ironH,itoa_no10]
 ·have :(10:UInt8)∉a.2.flatMap intT:=flat_no10 fun n _=>by simp[intT,itoa_no10]
  unfold ownerT
  simp only[List.mem_append,not_or]
  exact ⟨by decide,itoa_no10 _,this⟩
 ·have :(10:UInt8)∉a.flatMap markT:=flat_no10 fun n _=>by simp[markT,itoa_no10,sp_no10]
  unfold strakeT
  simp only[List.mem_append,not_or]
  exact ⟨by decide,this⟩
 ·unfold claimT
  cases a.n<;>simp[itoa_no10]
namespace Irn
variable (x : Irn)
def nO (i:Nat):Nat:=min (i - 1) x.own.length
def nS (i:Nat):Nat:=min (i - 1 - x.own.length) x.strk.length
def nC (i:Nat):Nat:=i - 1 - x.own.length - x.strk.length
def kI (i:Nat):Nat:=if i=0 then 0 else if i≤1+x.own.length then 1 else if i≤1+x.own.length+x.strk.length then 2 else 3
end Irn
def rdI (x:Irn) (s2 s4 s5 sd:Nat) (L:Jm→AObj) (t:Nat×Nat×Nat×Nat×Nat):List (Nat×AObj):=
 [(2,.row fileIc s2),(4,.row [.int .i64 (if 1≤t.1 then x.ft else 0),gS 1 133 (x.nO t.1) t.2.1,gS 1 115 (x.nO t.1) t.2.2.1,gS 1 135 (x.nS t.1) t.2.2.2.1,gS 3 126 (x.nC t.1) t.2.2.2.2] s4),(5,.row [.int .i64 (x.kI t.1)] s5),(100,L .go),(101,.dfr false sd),
   (133,gO (x.nO t.1) (LL (x.own.take (x.nO t.1))) t.2.1),(115,gO (x.nO t.1) (ints (x.most.take (x.nO t.1))) t.2.2.1),(135,gO (x.nS t.1) (LM (x.strk.take (x.nS t.1))) t.2.2.2.1),(126,gO (x.nC t.1) (clms (x.clm.take (x.nC t.1))) t.2.2.2.2)]
theorem rdI_b (x:Irn) (s2 s4 s5 sd:Nat) (L:Jm→AObj):RowsB (rdI x s2 s4 s5 sd L) 200:=⟨fun _ _=>rfl,fun t y hy=>by simp[rdI] at hy;omega,fun t=>by simp[rdI]⟩
@[simp] theorem Irn.c_set5 (x:Irn) (a b c d e:AVal):setRange [a,b,c,d,e] 0 x.c=x.c:=rfl
@[simp] theorem Irn.c_set (x:Irn):setRange x.c 0 x.c=x.c:=rfl
theorem Sl.toS {n:Nat} {K:KT} {tm:TM} {df:DF} {h:Heap} (l:List (Nat×AVal)) (k:List (Nat×AObj)) (en:Sl n (fun tm' df' h'=>df'=df∧Vw l tm'∧Hw k h') tm df h) (hK:Sl n K (tmV l) df (hpV k)):Sl n K tm df h:=by
 obtain ⟨tm₁,df₁,h₁,a,rfl,hv,hh⟩:=en
 exact Sl.le (a.trans (SLe.view hv hh)) hK
@[simp] theorem frzL_clms (r s:Nat) (cells:List AVal) (l:List Clm):frzL r s cells (clms l)=clms l:=by
 induction l with
 | nil=>rfl
 | cons a l ih=>rw[show clms (a::l)=a.c++clms l from fl_cons a l,frzL_map,List.map_append,←frzL_map,←frzL_map,ih];rfl
theorem book_read_Irons_ok {x:Irn} (hv:x.Valid):APure Pg fn_book_read_api_Irons [.agg fileIc,.str (ironTxt x)] x.v:=by
 have hft:=hv.ft
 have hno:=hv.no
 have hnm:=hv.nm
 have hns:=hv.ns
 have hnc:=hv.nc
 have hml:=hv.mo_len
 have hmt:x.most.take x.own.length=x.most:=List.take_of_length_le (by omega)
 have hlen:=hv.txt_len
 have hlz :((ironTxt x).length:Int)≤1000:=by omega
 refine book_read_api_Irons.e.p (by simp) ?_
 simp[fileIc]
 intro s2 s4
 simp[hlz]
 refine FCall.pure (PInv.func (book_ask_ok _)) ?_
 simp
 intro s5
 refine FCall.cps [(201,.dead)] (fun y:Nat=>lnV y) (fun y=>[(201,.row [.str (ironTxt x)] y)]) (fun _=>True) (fun K' hK'=>AInvoke.func ?_) (by simp) (fun _=>rfl) (by simp) (fun sl1 _=>⟨by simp,?_⟩)
 ·rw[dead1]
  exact book_lines_ok (ironTxt x) fun y=>hK' y trivial
 simp[lnV]
 refine RF.intro 100 101 rfl (by simp) (by simp) (by simp) fun sl sd LO LB yl=>?_
 obtain ⟨row,hrow⟩ : ∃row,row=rdI x (s2+1) (s4+1) (s5+1) sd LO:=⟨_,rfl⟩
 have hrb:RowsB row 200:=by rw[hrow];exact rdI_b _ _ _ _ _ _
 have hrowe:∀t,row t=rdI x (s2+1) (s4+1) (s5+1) sd LO t:=fun t=>by rw[hrow]
 refine ACalls.rowLe 4 (cells:=[.int .i64 0,.nils,.nils,.nils,.nils]) (s:=s4+1) [.int .i64 0,.es,.es,.es,.es] (by simp) ⟨ALe.refl _,ALe.nils_es,ALe.nils_es,ALe.nils_es,ALe.nils_es,trivial⟩ ?_
 refine ACalls.cps (σ:=Nat×Nat×Nat×Nat×Nat) ((201,.row [.str (joinL (ironLs x))] sl1)::row (0,0,0,0,0)) (fun _=>.tup []) (fun t=>(201,.row [.str []] sl1)::row t) (fun t=>t.1 =(ironLs x).length) (fun K' hK'=>?_) (by rw[hrowe];simp[rdI,fileIc,ironTxt_join,Irn.nO,Irn.nS,Irn.nC,Irn.kI]) (fun t=>by rw[hrowe,hrowe];rfl) fun t ht=>?_
 ·refine book_lines_1_ok (ironLs x) (ironLs_no10 x) (by rw[←ironTxt_join];exact hlen) sl1 row hrb 100 sl (fun i t=>t.1=i) (fun i t ln hI hx K0 hgo=>?_) (0,0,0,0,0) rfl K' (fun t ht=>hK' t ht)
  obtain ⟨i',so,sm,ss,sc⟩:=t
  obtain rfl:i'=i:=hI
  refine AInvoke.wk (yl _ _ _ rfl (by rw[hrowe];simp[rdI]) ?_)
  rw[hrowe]
  rcases (show i'=0∨(∃j,i'=1+j∧j<x.own.length)∨(∃j,i'=1+x.own.length+j∧j<x.strk.length)∨∃j,i'=1+x.own.length+x.strk.length+j by
   rcases Nat.lt_or_ge i' 1 with h|h
   ·omega
   ·rcases Nat.lt_or_ge (i' - 1) x.own.length with h2|h2
    ·exact .inr (.inl ⟨i' - 1,by omega,h2⟩)
    ·rcases Nat.lt_or_ge (i' - 1 - x.own.length) x.strk.length with h3|h3
     ·exact .inr (.inr (.inl ⟨i' - 1 - x.own.length,by omega,h3⟩))
     ·exact .inr (.inr (.inr ⟨i' - 1 - x.own.length - x.strk.length,by omega⟩))) with rfl|⟨j,rfl,hj⟩ | ⟨j,rfl,hj⟩ | ⟨j,rfl⟩
  ·have hx0:ln=ironH x:=by simpa[ironLs] using hx.symm
   subst hx0
   simp[rdI,fileIc,Irn.nO,Irn.nS,Irn.nC,Irn.kI]
   intro s17
   refine Lp.rounds 1 (LpI.round fun J hJ=>?_)
   simp[kindsI]
   refine FCall.sees (rest:=[105,114,111,110,115,32]++Lib.itoa x.ft) (by simp[ironH]) ?_
   rw[pre_app,aft_app]
   simp
   refine hJ.exit ?_
   simp
   refine FCall.pure (PInv.func (book_ask_ok _)) ?_
   simp
   refine FCall.cps (σ:=Unit) [(4,.row [.int .i64 0,.es,.es,.es,.es] (s4+1)),(17,.row [.str (Lib.itoa x.ft)] (s17+1))] (fun _=>.tup []) (fun _=>[(4,.row [.int .i64 x.ft,.es,.es,.es,.es] (s4+1)),(17,.row [.str []] (s17+1))]) (fun _=>True)
    (fun K1 hK1=>AInvoke.func (book_irons_1_ok (n:=x.ft) (by omega) (hK1 () trivial))) (by simp) (fun _=>rfl) (by simp) (fun _ _=>⟨by simp,?_⟩)
   simp
   refine FCall.pure (PInv.func (book_ask_ok _)) ?_
   simp
   (repeat first|refine And.intro (by omega) ?_|refine And.intro (Fits.of (by omega) (by omega)) ?_)
   exact Wk.view ((201,.row [.str (joinL ((ironLs x).drop (0+1)))] sl1)::row (1,so,sm,ss,sc)) (by rw[hrowe];simp[rdI,fileIc,kindsI,Irn.nO,Irn.nS,Irn.nC,Irn.kI]) (hgo (1,so,sm,ss,sc) rfl)
  ·have hat:=hv.mo_at hj
   obtain ⟨l,hl⟩ : ∃l,l=x.own[j]:=⟨_,rfl⟩
   obtain ⟨m,hm⟩ : ∃m,m=x.most[j]'(by omega):=⟨_,rfl⟩
   rw[←hl,←hm] at hat
   have hlm:l∈x.own:=by rw[hl];simp
   have hx0:ln=ownerT m l:=by
    have h1:j<x.mo.length:=by omega
    have :(ironLs x)[1+j]? = some (ownerT m l):=by
     rw[Nat.add_comm]
     simp only[ironLs,List.getElem?_cons_succ]
     rw[List.getElem?_append_left (by simp;omega),List.getElem?_map,List.getElem?_eq_getElem h1,hat];rfl
    rw[hx] at this;simpa using this
   subst hx0
   have hmr:=hv.mo m (by rw[hm];simp)
   have hlr:=hv.ov l hlm
   have hll:=hv.ownl hlm
   have hft2:ownerT m l=[111,119,110,101,114,32]++(Lib.itoa m++l.flatMap intT):=rfl
   have q1:x.nO (1+j)=j:=by unfold Irn.nO;omega
   have q2:x.nS (1+j)=0:=by unfold Irn.nS;omega
   have q3:x.nC (1+j)=0:=by unfold Irn.nC;omega
   have q4:x.kI (1+j)=1:=by unfold Irn.kI;rw[if_neg (by omega),if_pos (by omega)]
   have p1:x.nO (1+j+1)=j+1:=by unfold Irn.nO;omega
   have p2:x.nS (1+j+1)=0:=by unfold Irn.nS;omega
   have p3:x.nC (1+j+1)=0:=by unfold Irn.nC;omega
   have p4:x.kI (1+j+1)=1:=by unfold Irn.kI;rw[if_neg (by omega),if_pos (by omega)]
   have htk1:x.own.take j++[l]=x.own.take (j+1):=by rw[hl];exact List.take_append_getElem hj
   have htk2:x.most.take j++[m]=x.most.take (j+1):=by rw[hm];exact List.take_append_getElem (by omega)
   have htl1 :(x.own.take j).length=j:=by simp;omega
   have htl2 :(x.most.take j).length=j:=by simp;omega
   have w1:1≤1+j:=by omega
   have w2:1≤1+j+1:=by omega
   simp[rdI,fileIc,q1,q2,q3,q4,w1]
   intro s17
   refine Lp.rounds 1 (LpI.round fun J hJ=>?_)
   simp[kindsI]
   refine FCall.sees (rest:=[111,119,110,101,114,32]++(Lib.itoa m++l.flatMap intT)) (by simp[hft2]) ?_
   rw[pre_app,aft_app]
   simp
   refine hJ.exit ?_
   simp
   refine FCall.pure (PInv.func (book_ask_ok _)) ?_
   simp
   refine FCall.cps (σ:=Nat×Nat) [(4,.row [.int .i64 x.ft,gS 1 133 j so,gS 1 115 j sm,.es,.es] (s4+1)),(17,.row [.str (Lib.itoa m++l.flatMap intT)] (s17+1)),(115,gO j (ints (x.most.take j)) sm),(133,gO j (LL (x.own.take j)) so)] (fun _=>.tup [])
    (fun y=>[(4,.row [.int .i64 x.ft,gS 1 133 (j+1) y.2,gS 1 115 (j+1) y.1,.es,.es] (s4+1)),(17,.row [.str []] (s17+1)),(115,gO (j+1) (ints (x.most.take (j+1))) y.1),(133,gO (j+1) (LL (x.own.take (j+1))) y.2)]) (fun _=>True)
    (fun K1 hK1=>AInvoke.func ?_) (by simp) (fun _=>rfl) (by simp) (fun y _=>⟨by simp,?_⟩)
   ·have:=book_irons_2_ok (m:=m) (by omega) l hll hlr (x.most.take j) (x.own.take j) (by omega) (by omega) (a:=.int .i64 x.ft) (d:=.es) (e:=.es) (by simp) (by simp) (by simp) (sx:=s4+1) (sr:=s17+1) (st:=sm) (su:=so) (K:=K1) (fun s' s''=>by rw[htl1,htl2,htk1,htk2];exact hK1 (s',s'') trivial)
    rw[htl1,htl2] at this
    simpa using this
   simp
   refine FCall.pure (PInv.func (book_ask_ok _)) ?_
   simp
   exact Wk.view ((201,.row [.str (joinL ((ironLs x).drop (1+j+1)))] sl1)::row (1+j+1,y.2,y.1,ss,sc)) (by rw[hrowe];simp[rdI,fileIc,kindsI,p1,p2,p3,p4,w2]) (hgo (1+j+1,y.2,y.1,ss,sc) rfl)
  ·obtain ⟨l,hl⟩ : ∃l,l=x.strk[j]:=⟨_,rfl⟩
   have hlm:l∈x.strk:=by rw[hl];simp
   have hx0:ln=strakeT l:=by
    have :(ironLs x)[1+x.own.length+j]? = some (strakeT l):=by
     rw[show 1+x.own.length+j=x.own.length+j+1 by omega]
     simp only[ironLs,List.getElem?_cons_succ]
     rw[List.getElem?_append_right (by simp;omega)]
     simp only[List.length_map,hml]
     rw[show x.own.length+j - x.own.length=j by omega,List.getElem?_append_left (by simp;omega),List.getElem?_map,List.getElem?_eq_getElem hj,hl];rfl
    rw[hx] at this;simpa using this
   subst hx0
   have hlv:∀m∈l,(0≤m.f∧m.f≤9)∧0≤m.lo∧m.lo≤m.hi∧m.hi≤9:=fun m hm=>by have:=hv.mf l hlm m hm;omega
   have hll:=hv.ml l hlm
   have hft2:strakeT l=[115,116,114,97,107,101]++l.flatMap markT:=rfl
   have q1:x.nO (1+x.own.length+j)=x.own.length:=by unfold Irn.nO;omega
   have q2:x.nS (1+x.own.length+j)=j:=by unfold Irn.nS;omega
   have q3:x.nC (1+x.own.length+j)=0:=by unfold Irn.nC;omega
   have p1:x.nO (1+x.own.length+j+1)=x.own.length:=by unfold Irn.nO;omega
   have p2:x.nS (1+x.own.length+j+1)=j+1:=by unfold Irn.nS;omega
   have p3:x.nC (1+x.own.length+j+1)=0:=by unfold Irn.nC;omega
   have p4:x.kI (1+x.own.length+j+1)=2:=by unfold Irn.kI;rw[if_neg (by omega),if_neg (by omega),if_pos (by omega)]
   obtain ⟨k0,hk0,hk0r⟩ : ∃k0,x.kI (1+x.own.length+j)=k0∧(k0=1∨k0=2):=⟨_,rfl,by unfold Irn.kI;rw[if_neg (by omega)];(repeat' split)<;>omega⟩
   have htk:x.strk.take j++[l]=x.strk.take (j+1):=by rw[hl];exact List.take_append_getElem hj
   have htl :(x.strk.take j).length=j:=by simp;omega
   have w1:1≤1+x.own.length+j:=by omega
   have w2:1≤1+x.own.length+j+1:=by omega
   simp[rdI,fileIc,q1,q2,q3,hk0,w1]
   intro s17
   refine Lp.intro (σ:=Nat) (inv:=fun k=>k=1∨k=2) (vw:=fun _=>[(2,.ptr 2 0 (s2+1)),(4,.ptr 4 0 (s4+1)),(5,.ptr 5 0 (s5+1)),(7,.ptr 17 0 (s17+1))])
    (hp:=fun k=>[(201,.row [.str (joinL ((ironLs x).drop (1+x.own.length+j+1)))] sl1),(2,.row fileIc (s2+1)),(4,.row [.int .i64 x.ft,gS 1 133 x.own.length so,gS 1 115 x.own.length sm,gS 1 135 j ss,.es] (s4+1)),(5,.row [.int .i64 k] (s5+1)),(100,LB),(101,.dfr false sd),
      (133,gO x.own.length (LL x.own) so),(115,gO x.own.length (ints x.most) sm),(135,gO j (LM (x.strk.take j)) ss),(17,.row [.str (strakeT l)] (s17+1))]) (ms:=fun k=>2 - k) k0 hk0r (by simp) (by simp[fileIc,kindsI,hmt]) ?_
   intro k hk J hJ
   rcases hk with rfl|rfl
   ·have hno1:pre [111,119,110,101,114,32] (strakeT l)=false:=pre_head fun c hc=>by rw[hft2] at hc;cases hc;decide
    simp[fileIc,kindsI]
    refine FCall.sees (rest:=strakeT l) (by simp) ?_
    rw[hno1,aft_no hno1]
    simp
    (repeat first|refine And.intro (by omega) ?_|refine And.intro (Fits.of (by omega) (by omega)) ?_)
    exact hJ.next 2 (by simp) (by omega) (by simp) (by simp[fileIc,kindsI])
   simp[fileIc,kindsI]
   refine FCall.sees (rest:=[115,116,114,97,107,101]++l.flatMap markT) (by simp[hft2]) ?_
   rw[pre_app,aft_app]
   simp
   refine hJ.exit ?_
   simp
   refine FCall.pure (PInv.func (book_ask_ok _)) ?_
   simp
   refine FCall.cps (σ:=Nat) [(4,.row [.int .i64 x.ft,gS 1 133 x.own.length so,gS 1 115 x.own.length sm,gS 1 135 j ss,.es] (s4+1)),(17,.row [.str (l.flatMap markT)] (s17+1)),(135,gO j (LM (x.strk.take j)) ss)] (fun _=>.tup [])
    (fun y=>[(4,.row [.int .i64 x.ft,gS 1 133 x.own.length so,gS 1 115 x.own.length sm,gS 1 135 (j+1) y,.es] (s4+1)),(17,.row [.str []] (s17+1)),(135,gO (j+1) (LM (x.strk.take (j+1))) y)]) (fun _=>True)
    (fun K1 hK1=>AInvoke.func ?_) (by simp) (fun _=>rfl) (by simp) (fun y _=>⟨by simp,?_⟩)
   ·have:=book_irons_3_ok l hll hlv (x.strk.take j) (by omega) (a:=.int .i64 x.ft) (b:=gS 1 133 x.own.length so) (d:=gS 1 115 x.own.length sm) (e:=.es) (by simp) (fun _ _=>frz_gS (by omega)) (fun _ _=>frz_gS (by omega)) (by simp) (sx:=s4+1) (sr:=s17+1) (su:=ss) (K:=K1) (fun s''=>by rw[htl,htk];exact hK1 s'' trivial)
    rw[htl] at this
    simpa using this
   simp
   refine FCall.pure (PInv.func (book_ask_ok _)) ?_
   simp
   exact Wk.view ((201,.row [.str (joinL ((ironLs x).drop (1+x.own.length+j+1)))] sl1)::row (1+x.own.length+j+1,so,sm,y,sc)) (by rw[hrowe];simp[rdI,fileIc,kindsI,p1,p2,p3,p4,w2,hmt]) (hgo (1+x.own.length+j+1,so,sm,y,sc) rfl)
  ·have hj:j<x.clm.length:=by
    have:=(List.getElem?_eq_some_iff.1 hx).1
    simp[ironLs,hml] at this
    omega
   obtain ⟨c,hc⟩ : ∃c,c=x.clm[j]:=⟨_,rfl⟩
   have hcm:c∈x.clm:=by rw[hc];simp
   have hx0:ln=claimT c:=by
    have :(ironLs x)[1+x.own.length+x.strk.length+j]? = some (claimT c):=by
     rw[show 1+x.own.length+x.strk.length+j=x.own.length+x.strk.length+j+1 by omega]
     simp only[ironLs,List.getElem?_cons_succ]
     rw[List.getElem?_append_right (by simp;omega)]
     simp only[List.length_map,hml]
     rw[show x.own.length+x.strk.length+j - x.own.length=x.strk.length+j by omega,List.getElem?_append_right (by simp)]
     simp only[List.length_map]
     rw[show x.strk.length+j - x.strk.length=j by omega,List.getElem?_map,List.getElem?_eq_getElem hj,hc];rfl
    rw[hx] at this;simpa using this
   subst hx0
   obtain ⟨h1,h2⟩:=hv.cl c hcm
   have hft2:claimT c=[99,108,97,105,109,32]++(Lib.itoa c.s++(32 ::((if c.n then [33] else [])++Lib.itoa c.o))):=rfl
   have q1:x.nO (1+x.own.length+x.strk.length+j)=x.own.length:=by unfold Irn.nO;omega
   have q2:x.nS (1+x.own.length+x.strk.length+j)=x.strk.length:=by unfold Irn.nS;omega
   have q3:x.nC (1+x.own.length+x.strk.length+j)=j:=by unfold Irn.nC;omega
   have p1:x.nO (1+x.own.length+x.strk.length+j+1)=x.own.length:=by unfold Irn.nO;omega
   have p2:x.nS (1+x.own.length+x.strk.length+j+1)=x.strk.length:=by unfold Irn.nS;omega
   have p3:x.nC (1+x.own.length+x.strk.length+j+1)=j+1:=by unfold Irn.nC;omega
   have p4:x.kI (1+x.own.length+x.strk.length+j+1)=3:=by unfold Irn.kI;rw[if_neg (by omega),if_neg (by omega),if_neg (by omega)]
   obtain ⟨k0,hk0,hk0r⟩ : ∃k0,x.kI (1+x.own.length+x.strk.length+j)=k0∧(k0=1∨k0=2∨k0=3):=⟨_,rfl,by unfold Irn.kI;rw[if_neg (by omega)];(repeat' split)<;>omega⟩
   have htk:x.clm.take j++[c]=x.clm.take (j+1):=by rw[hc];exact List.take_append_getElem hj
   have htl :(x.clm.take j).length=j:=by simp;omega
   have w1:1≤1+x.own.length+x.strk.length+j:=by omega
   have w2:1≤1+x.own.length+x.strk.length+j+1:=by omega
   obtain ⟨rst,hrst⟩ : ∃rst,rst=Lib.itoa c.s++(32 ::((if c.n then [33] else [])++Lib.itoa c.o)):=⟨_,rfl⟩
   rw[←hrst] at hft2
   simp[rdI,fileIc,q1,q2,q3,hk0,w1]
   intro s17
   refine Lp.intro (σ:=Nat) (inv:=fun k=>k=1∨k=2∨k=3) (vw:=fun _=>[(2,.ptr 2 0 (s2+1)),(4,.ptr 4 0 (s4+1)),(5,.ptr 5 0 (s5+1)),(7,.ptr 17 0 (s17+1))])
    (hp:=fun k=>[(201,.row [.str (joinL ((ironLs x).drop (1+x.own.length+x.strk.length+j+1)))] sl1),(2,.row fileIc (s2+1)),(4,.row [.int .i64 x.ft,gS 1 133 x.own.length so,gS 1 115 x.own.length sm,gS 1 135 x.strk.length ss,gS 3 126 j sc] (s4+1)),(5,.row [.int .i64 k] (s5+1)),(100,LB),(101,.dfr false sd),
      (133,gO x.own.length (LL x.own) so),(115,gO x.own.length (ints x.most) sm),(135,gO x.strk.length (LM x.strk) ss),(126,gO j (clms (x.clm.take j)) sc),(17,.row [.str (claimT c)] (s17+1))]) (ms:=fun k=>3 - k) k0 hk0r (by simp) (by simp[fileIc,kindsI,hmt]) ?_
   intro k hk J hJ
   rcases hk with rfl|rfl|rfl
   ·have hno1:pre [111,119,110,101,114,32] (claimT c)=false:=pre_head fun d hd=>by rw[hft2] at hd;cases hd;decide
    simp[fileIc,kindsI]
    refine FCall.sees (rest:=claimT c) (by simp) ?_
    rw[hno1,aft_no hno1]
    simp
    (repeat first|refine And.intro (by omega) ?_|refine And.intro (Fits.of (by omega) (by omega)) ?_)
    exact hJ.next 2 (by simp) (by omega) (by simp) (by simp[fileIc,kindsI])
   ·have hno2:pre [115,116,114,97,107,101] (claimT c)=false:=pre_head fun d hd=>by rw[hft2] at hd;cases hd;decide
    simp[fileIc,kindsI]
    refine FCall.sees (rest:=claimT c) (by simp) ?_
    rw[hno2,aft_no hno2]
    simp
    (repeat first|refine And.intro (by omega) ?_|refine And.intro (Fits.of (by omega) (by omega)) ?_)
    exact hJ.next 3 (by simp) (by omega) (by simp) (by simp[fileIc,kindsI])
   simp[fileIc,kindsI]
   refine FCall.sees (rest:=[99,108,97,105,109,32]++rst) (by simp[hft2]) ?_
   rw[pre_app,aft_app]
   simp
   refine hJ.exit ?_
   simp
   refine FCall.pure (PInv.func (book_ask_ok _)) ?_
   simp
   refine FCall.cps (σ:=Nat) [(4,.row [.int .i64 x.ft,gS 1 133 x.own.length so,gS 1 115 x.own.length sm,gS 1 135 x.strk.length ss,gS 3 126 j sc] (s4+1)),(17,.row [.str rst] (s17+1)),(126,gO j (clms (x.clm.take j)) sc)] (fun _=>.tup [])
    (fun y=>[(4,.row [.int .i64 x.ft,gS 1 133 x.own.length so,gS 1 115 x.own.length sm,gS 1 135 x.strk.length ss,gS 3 126 (j+1) y] (s4+1)),(17,.row [.str []] (s17+1)),(126,gO (j+1) (clms (x.clm.take (j+1))) y)]) (fun _=>True)
    (fun K1 hK1=>AInvoke.func ?_) (by simp) (fun _=>rfl) (by simp) (fun y _=>⟨by simp,?_⟩)
   ·have:=book_irons_4_ok c (by omega) (by omega) (x.clm.take j) (by omega) (a:=.int .i64 x.ft) (b:=gS 1 133 x.own.length so) (d:=gS 1 115 x.own.length sm) (e:=gS 1 135 x.strk.length ss) (sx:=s4+1) (sr:=s17+1) (st:=sc) (K:=K1) (fun s'=>by rw[htl,htk];exact hK1 s' trivial)
    rw[htl,←hrst] at this
    simpa using this
   simp
   refine FCall.pure (PInv.func (book_ask_ok _)) ?_
   simp
   exact Wk.view ((201,.row [.str (joinL ((ironLs x).drop (1+x.own.length+x.strk.length+j+1)))] sl1)::row (1+x.own.length+x.strk.length+j+1,so,sm,ss,y)) (by rw[hrowe];simp[rdI,fileIc,kindsI,p1,p2,p3,p4,w2,hmt]) (hgo (1+x.own.length+x.strk.length+j+1,so,sm,ss,y) rfl)
 ·obtain ⟨i,so,sm,ss,sc⟩:=t
  have hti:i=1+x.own.length+x.strk.length+x.clm.length:=by
   have:i =(ironLs x).length:=ht
   rw[this];simp[ironLs,hml];omega
  subst hti
  refine ⟨.go,by rw[hrowe];simp[rdI],?_⟩
  have q1:x.nO (1+x.own.length+x.strk.length+x.clm.length)=x.own.length:=by unfold Irn.nO;omega
  have q2:x.nS (1+x.own.length+x.strk.length+x.clm.length)=x.strk.length:=by unfold Irn.nS;omega
  have q3:x.nC (1+x.own.length+x.strk.length+x.clm.length)=x.clm.length:=by unfold Irn.nC;omega
  have w1:1≤1+x.own.length+x.strk.length+x.clm.length:=by omega
  simp
  rw[hrowe]
  simp[rdI,q1,q2,q3,w1,hmt]
  refine Sl.toV [(1,.str (ironTxt x)),(2,.ptr 2 0 (s2+1)),(4,.ptr 4 0 (s4+1))] [(2,.row fileIc (s2+1)),(4,.row x.c (s4+1)),(101,.dfr false sd)] ?_ ?_
  ·refine Sl.toS [(1,.str (ironTxt x)),(2,.ptr 2 0 (s2+1)),(4,.ptr 4 0 (s4+1))] [(2,.row fileIc (s2+1)),(4,.row [.int .i64 x.ft,gS 1 133 x.own.length so,gS 1 115 x.own.length sm,gS 1 135 x.strk.length ss,gS 3 126 x.clm.length sc] (s4+1)),(101,.dfr false sd),(133,gO x.own.length (LL x.own) so),(115,gO x.own.length (ints x.most) sm),(135,gO x.strk.length (LM x.strk) ss),(126,gO x.clm.length (clms x.clm) sc)] (Sl.refl ⟨rfl,by simp,by simp[fileIc,kindsI]⟩) ?_
   refine Sl.toS [(1,.str (ironTxt x)),(2,.ptr 2 0 (s2+1)),(4,.ptr 4 0 (s4+1))] [(2,.row fileIc (s2+1)),(4,.row [.int .i64 x.ft,LLv x.own,gS 1 115 x.own.length sm,gS 1 135 x.strk.length ss,gS 3 126 x.clm.length sc] (s4+1)),(101,.dfr false sd),(115,gO x.own.length (ints x.most) sm),(135,gO x.strk.length (LM x.strk) ss),(126,gO x.clm.length (clms x.clm) sc)] ?_ ?_
   ·by_cases h0:x.own.length=0
    ·have he:x.own=[]:=List.eq_nil_of_length_eq_zero (by omega)
     have hg:gS 1 133 x.own.length so=.es:=by rw[h0];rfl
     refine Sl.rowLe (cells:=[.int .i64 x.ft,.es,gS 1 115 x.own.length sm,gS 1 135 x.strk.length ss,gS 3 126 x.clm.length sc]) (s:=s4+1) 4 [.int .i64 x.ft,.vl 0 [],gS 1 115 x.own.length sm,gS 1 135 x.strk.length ss,gS 3 126 x.clm.length sc] (by simp[hg]) ⟨ALe.refl _,ALe.es_vl,ALe.refl _,ALe.refl _,ALe.refl _,trivial⟩ (Sl.refl ⟨rfl,by simp,?_⟩)
     simp[he,LLv,fileIc,kindsI]
    ·have h1:0<x.own.length:=by omega
     refine Sl.gSH 133 (m:=x.own.length) (cells:=LL x.own) (s:=so) h1 (by simp) (Sl.refl ⟨rfl,by simp,?_⟩)
     simp[gS_pos h1,LLv,fileIc,kindsI,frz_gS,frzO_gO,hnm]
   refine Sl.toS [(1,.str (ironTxt x)),(2,.ptr 2 0 (s2+1)),(4,.ptr 4 0 (s4+1))] [(2,.row fileIc (s2+1)),(4,.row [.int .i64 x.ft,LLv x.own,L x.most,gS 1 135 x.strk.length ss,gS 3 126 x.clm.length sc] (s4+1)),(101,.dfr false sd),(135,gO x.strk.length (LM x.strk) ss),(126,gO x.clm.length (clms x.clm) sc)] ?_ ?_
   ·by_cases h0:x.own.length=0
    ·have he:x.most=[]:=List.eq_nil_of_length_eq_zero (by omega)
     have hg:gS 1 115 x.own.length sm=.es:=by rw[h0];rfl
     refine Sl.rowLe (cells:=[.int .i64 x.ft,LLv x.own,.es,gS 1 135 x.strk.length ss,gS 3 126 x.clm.length sc]) (s:=s4+1) 4 [.int .i64 x.ft,LLv x.own,.vl 0 [],gS 1 135 x.strk.length ss,gS 3 126 x.clm.length sc] (by simp[hg]) ⟨ALe.refl _,ALe.refl _,ALe.es_vl,ALe.refl _,ALe.refl _,trivial⟩ (Sl.refl ⟨rfl,by simp,?_⟩)
     simp[he,L,fileIc,kindsI]
    ·have h1:0<x.own.length:=by omega
     refine Sl.gSH 115 (m:=x.own.length) (cells:=ints x.most) (s:=sm) h1 (by simp) (Sl.refl ⟨rfl,by simp,?_⟩)
     simp[gS_pos h1,L,fileIc,kindsI,frz_gS,frzO_gO,hnm]
   refine Sl.toS [(1,.str (ironTxt x)),(2,.ptr 2 0 (s2+1)),(4,.ptr 4 0 (s4+1))] [(2,.row fileIc (s2+1)),(4,.row [.int .i64 x.ft,LLv x.own,L x.most,LLM x.strk,gS 3 126 x.clm.length sc] (s4+1)),(101,.dfr false sd),(126,gO x.clm.length (clms x.clm) sc)] ?_ ?_
   ·by_cases h0:x.strk.length=0
    ·have he:x.strk=[]:=List.eq_nil_of_length_eq_zero (by omega)
     have hg:gS 1 135 x.strk.length ss=.es:=by rw[h0];rfl
     refine Sl.rowLe (cells:=[.int .i64 x.ft,LLv x.own,L x.most,.es,gS 3 126 x.clm.length sc]) (s:=s4+1) 4 [.int .i64 x.ft,LLv x.own,L x.most,.vl 0 [],gS 3 126 x.clm.length sc] (by simp[hg]) ⟨ALe.refl _,ALe.refl _,ALe.refl _,ALe.es_vl,ALe.refl _,trivial⟩ (Sl.refl ⟨rfl,by simp,?_⟩)
     simp[he,LLM,fileIc,kindsI]
    ·have h1:0<x.strk.length:=by omega
     refine Sl.gSH 135 (m:=x.strk.length) (cells:=LM x.strk) (s:=ss) h1 (by simp) (Sl.refl ⟨rfl,by simp,?_⟩)
     simp[gS_pos h1,LLM,fileIc,kindsI,frz_gS,frzO_gO,hnm]
   refine Sl.toS [(1,.str (ironTxt x)),(2,.ptr 2 0 (s2+1)),(4,.ptr 4 0 (s4+1))] [(2,.row fileIc (s2+1)),(4,.row [.int .i64 x.ft,LLv x.own,L x.most,LLM x.strk,LCl x.clm] (s4+1)),(101,.dfr false sd)] ?_ ?_
   ·by_cases h0:x.clm.length=0
    ·have he:x.clm=[]:=List.eq_nil_of_length_eq_zero (by omega)
     have hg:gS 3 126 x.clm.length sc=.es:=by rw[h0];rfl
     refine Sl.rowLe (cells:=[.int .i64 x.ft,LLv x.own,L x.most,LLM x.strk,.es]) (s:=s4+1) 4 [.int .i64 x.ft,LLv x.own,L x.most,LLM x.strk,.vl 0 []] (by simp[hg]) ⟨ALe.refl _,ALe.refl _,ALe.refl _,ALe.refl _,ALe.es_vl,trivial⟩ (Sl.refl ⟨rfl,by simp,?_⟩)
     simp[he,LCl,clms,fileIc,kindsI]
    ·have h1:0<x.clm.length:=by omega
     refine Sl.gSH 126 (m:=x.clm.length) (cells:=clms x.clm) (s:=sc) h1 (by simp) (Sl.refl ⟨rfl,by simp,?_⟩)
     simp[gS_pos h1,LCl,fileIc,kindsI,frz_gS,frzO_gO,hnm]
   exact Sl.refl ⟨rfl,by simp,by simp[Irn.c]⟩
  ·simp[fileIc]
   refine FCall.pure (v:=.bool true) (PInv.func (by simpa[Irn.v] using book_isIrons_ok hv)) ?_
   simp
   refine FCall.pure (v:=.str (ironTxt x)) (PInv.func (by simpa[Irn.v] using book_irons_5_ok hv)) ?_
   simp
   refine FCall.pure (PInv.func (book_ask_ok _)) ?_
   simp
   exact RetV.wk (nilH_le _) rfl
theorem book_ReadIrons_ok {x:Irn} (hv:x.Valid):APure Pg fn_book_ReadIrons [.str (ironTxt x)] (.tup [x.v,.int .i64 0]):=by
 refine book_ReadIrons.e.p (by simp) ?_
 simp
 intro s2 s3
 refine FCall.pure (PInv.func book_irons_ok) ?_
 simp
 refine FCall.pure (PInv.func (book_read_Irons_ok hv)) ?_
 simp
 refine RetA.ret rfl (book_answer_ok ?_)
 simp
 exact RetV.wk (nilH_le _) rfl
end Go.Cw
end
