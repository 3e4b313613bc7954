/-
  The library's sort; rows that are out of sight; plain reckoning; copies of lists; maps; short words for steps: no program is named here.
-/
import Derived.Test.YtjjhmpfealnciaaGreatAd
import Derived.Shelf.Sort.Plain
import Derived.Test.YtjjhmpfealnciaaGreatAe
set_option linter.unusedVariables false
set_option linter.unusedSimpArgs false
set_option linter.unusedSectionVars false

/- The library's sort of numbers, as a contract over a row. No program is named here. -/
section
namespace Go.Cw
open Go Go.Shelf Go.Sort

def sortI (l : List Int) : List Int := l.mergeSort fun x y => decide (x ≤ y)

theorem sortI_length (l : List Int) : (sortI l).length = l.length := by simp [sortI]
theorem sortI_perm (l : List Int) : (sortI l).Perm l := List.mergeSort_perm _ _

section
variable {Z : Snap} {μ : Mu} {h : Heap} {g : Nat} {w : World} {P : Program}

theorem VPre_ints {c : List Value} : ∀ {l : List Int} {k : Nat}, VPre Z μ g (ints l) (c.drop k) ↔ ∀ j, (hj : j < l.length) → c[k + j]? = some (.int .i64 l[j])
  | l, k => by
    rw [VPre_iff]
    constructor
    · intro hh j hj
      obtain ⟨v, hv, hr⟩ := hh j (.int .i64 l[j]) (by simp [ints, hj])
      simp only [VRel] at hr
      subst hr
      simpa using hv
    · intro hh j a ha
      simp only [ints, List.getElem?_map, Option.map_eq_some_iff] at ha
      obtain ⟨x, hx, rfl⟩ := ha
      obtain ⟨hj, rfl⟩ := List.getElem?_eq_some_iff.1 hx
      exact ⟨_, by simpa using hh j hj, by simp [VRel]⟩

theorem ACalls.sort {ρ : Ren} (Ly : Go.Proofs.Lays.n189 P ρ) (he : Enters P (ρ.f 189)) {r s : Nat} {cap : Cap} {l : List Int} (hl : l.length < 4611686018427387904) {K : AEnd → Heap → Prop} (k : K (.ret (.tup [])) (hpV [(r, .row (ints (sortI l)) s)])) :
    ACalls P (ρ.f 189) [.sl r 0 s l.length cap] (hpV [(r, .row (ints l) s)]) K := by
  refine ⟨he, fun Z μ g w cargs S hsz hv => ?_⟩
  obtain ⟨v, rfl⟩ : ∃ v, cargs = #[v] := by
    match cargs, hsz with
    | ⟨[v]⟩, _ => exact ⟨v, rfl⟩
  have hv0 := (VPre_cons.1 hv).1
  simp only [VRel] at hv0
  obtain ⟨hs, cap', rfl, _, _⟩ := hv0
  have hrow := S.rows r
  have hst : (hpV [(r, .row (ints l) s)]) r = .row (ints l) s := by simp
  rw [hst] at hrow
  simp only [ORel] at hrow
  obtain ⟨_, c, elem, hw, hcs, hpre, hone⟩ := hrow
  have hlt := (Array.getElem?_eq_some_iff.1 hw).1
  have hcell : ∀ j, (hj : j < l.length) → c[j]? = some (.int .i64 l[j]) := by
    intro j hj
    have := (VPre_ints (k := 0) (c := c.toList)).1 (by simpa using hpre) j hj
    simpa using this
  have hlen : l.length ≤ c.size := by
    have := hpre.len
    simpa using this
  have hH : Holds (Value.int .i64) w (μ s).blk 0 l.toArray := by
    intro j hj
    have hj' : j < l.length := by simpa using hj
    refine ⟨?_, ?_⟩
    · simp only [World.cell?, hw, Nat.zero_add]
      have e : l.toArray[j]! = l[j] := by simp [hj']
      rw [e]
      simpa using hcell j hj'
    · simp [World.frozen?, hw]
  refine Calls.mono' (Go.Proofs.Any.slices_Sort_int Ly (μ s).blk 0 cap' l w hH hlt hl) ?_
  rintro e w' ⟨rfl, n, os, rfl⟩
  have hps : (putRow (Value.int .i64) (Sort.ahead w n) (μ s).blk 0 (sortI l).toArray).heap.size = w.heap.size := by simp
  have hmod : ∀ b, b < w.heap.size → (grow (putRow (Value.int .i64) (Sort.ahead w n) (μ s).blk 0 (sortI l).toArray) os).heap[b]? = (w.heap.modify (μ s).blk (onCells (putCells (Value.int .i64) 0 (sortI l).toArray)))[b]? := by
    intro b hb
    rw [heap_grow_old _ _ (by rw [hps]; exact hb)]
    rfl
  obtain ⟨S', t'⟩ := S.put (μ' := μ) (g' := g) (o := .row (ints (sortI l)) s) (b₀ := (μ s).blk) (w' := grow (putRow (Value.int .i64) (Sort.ahead w n) (μ s).blk 0 (sortI l).toArray) os) r (Ext.refl _ _ _) rfl rfl
    (by rw [size_grow, hps]; omega)
    (fun b hb hne => by
      rw [hmod b hb, Array.getElem?_modify, if_neg (fun x => hne x.symm)])
    (.inr ⟨s, by rw [hst]; rfl, rfl⟩) (by
      simp only [ORel]
      refine ⟨hs, putCells (Value.int .i64) 0 (sortI l).toArray c, elem, ?_, ?_, ?_, ?_⟩
      · rw [hmod _ hlt, Array.getElem?_modify, if_pos rfl, hw]; rfl
      · simp [putCells, hcs]
      · have := (VPre_ints (Z := Z) (μ := μ) (g := g) (k := 0) (l := sortI l) (c := (putCells (Value.int .i64) 0 (sortI l).toArray c).toList)).2 (by
          intro j hj
          have hj' : j < l.length := by rwa [sortI_length] at hj
          have hjc : j < c.size := by omega
          have hj2 : j < (sortI l).toArray.size := by simpa using hj
          simp [putCells, hjc, hj])
        simpa using this
      · intro v hv
        rw [List.mem_iff_getElem?] at hv
        obtain ⟨j, hj⟩ := hv
        rw [List.getElem?_take] at hj
        split at hj
        · rename_i hjl
          have hj1 : j < (sortI l).length := by simpa using hjl
          have hj' : j < l.length := by rwa [sortI_length] at hj1
          have hjc : j < c.size := by omega
          simp [putCells, hjc, hj1] at hj
          subst hj
          rfl
        · cases hj)
  refine ⟨Z, μ, g, .ret (.tup []), _, k, ⟨.tuple #[], by simp only [VRel]; exact ⟨#[], rfl, rfl, VPre_nil _⟩, rfl⟩, ?_, ?_⟩
  · have : upd (hpV [(r, .row (ints l) s)]) r (.row (ints (sortI l)) s) = hpV [(r, .row (ints (sortI l)) s)] := by
      simp [hpV, upd_upd]
    rw [← this]; exact S'
  · have : upd (hpV [(r, .row (ints l) s)]) r (.row (ints (sortI l)) s) = hpV [(r, .row (ints (sortI l)) s)] := by
      simp [hpV, upd_upd]
    rw [← this]; exact t'
end

structure MethAt (P : Program) (T : TypeId) (nm : String) (F : FuncId) : Prop where
  h : ∀ (recv : Value) (w : World), (Go.method (P.types.size + Made.depth) T recv nm).run P w = .ok (F, recv) w

theorem AInvoke.meth {P : Program} {T : TypeId} {nm : String} {F : FuncId} (m : MethAt P T nm F) {v : AVal} {args : List AVal} {h : Heap} {K : AEnd → Heap → Prop} (a : ACalls P F (v :: args) h K) : AInvoke P (.func (.method nm) [.iface T v] []) args h K := by
  intro Z μ g w u cargs S hv hl ha
  simp only [VRel] at hv
  obtain ⟨_, f', c', rfl, h1, h2, h3, h4⟩ := hv
  obtain ⟨x, rfl⟩ : ∃ x, f' = #[x] := by
    match f', h1 with
    | ⟨[x]⟩, _ => exact ⟨x, rfl⟩
  have hx := (VPre_cons.1 h3).1
  simp only [VRel] at hx
  obtain ⟨y, rfl, hy⟩ := hx
  have e0 : (#[Value.iface T y] ++ cargs)[0]? = some (.iface T y) := by
    rw [Array.getElem?_append_left (by simp)]; rfl
  have e1 : (#[Value.iface T y] ++ cargs).extract 1 (#[Value.iface T y] ++ cargs).size = cargs := by
    simp
  have hrun : (do let d ← Deferred.ofValue (.func (.method nm) #[.iface T y] c') cargs; invoke d.target d.args : Sem Next).run P w = .ok (.enter F (#[y] ++ cargs)) w := by
    simp only [Deferred.ofValue, Sem.run_bind, Sem.run_pure, Result.andThen_ok, invoke, e0, e1, callMethod, run_program, m.h]
    exact Calls.enters a.1 _ w
  rw [hrun]
  refine ⟨rfl, a.2 Z μ g w _ S ?_ ?_⟩
  · simp [hl]; omega
  · rw [Array.toList_append]
    exact VPre_cons.2 ⟨hy, ha⟩

end Go.Cw
end

/- Rows that are out of sight: a caller's, that a function that is called keeps, or has turned by what it calls. No program is named here. -/
section
namespace Go.Cw
open Go

structure RowsB {τ : Type} (row : τ → List (Nat × AObj)) (B : Nat) : Prop where
  names : ∀ t t', (row t).map Prod.fst = (row t').map Prod.fst
  lt : ∀ t, ∀ x ∈ (row t).map Prod.fst, x < B
  nd : ∀ t, ((row t).map Prod.fst).Nodup

theorem hw_append {h : Heap} : ∀ {a b : List (Nat × AObj)}, Hw (a ++ b) h ↔ Hw a h ∧ Hw b h
  | [], b => by simp
  | (r, o) :: a, b => by
    simp only [List.cons_append, Hw_cons, hw_append, and_assoc]

theorem hw_upd {h : Heap} {x : Nat} {o : AObj} : ∀ {l : List (Nat × AObj)}, x ∉ l.map Prod.fst → (Hw l (upd h x o) ↔ Hw l h)
  | [], _ => by simp
  | (r, o') :: l, hn => by
    simp only [List.map_cons, List.mem_cons, not_or] at hn
    simp only [Hw_cons]
    rw [upd_ne _ _ (fun e => hn.1 e.symm), hw_upd hn.2]

theorem hw_updL {h : Heap} : ∀ {l : List (Nat × AObj)}, (l.map Prod.fst).Nodup → Hw l (updL h l)
  | [], _ => trivial
  | (r, o) :: l, hn => by
    simp only [List.map_cons, List.nodup_cons] at hn
    refine ⟨by simp [upd_same], ?_⟩
    rw [updL_cons, hw_upd hn.1]
    exact hw_updL hn.2

theorem hw_hpV : ∀ {l : List (Nat × AObj)}, (l.map Prod.fst).Nodup → Hw l (hpV l)
  | [], _ => trivial
  | (r, o) :: l, hn => by
    simp only [List.map_cons, List.nodup_cons] at hn
    refine ⟨by simp [upd_same], ?_⟩
    rw [hpV_cons, hw_upd hn.1]
    exact hw_hpV hn.2

namespace RowsB
variable {τ : Type} {row : τ → List (Nat × AObj)} {B : Nat} (hb : RowsB row B)
include hb
theorem out {x : Nat} (hx : B ≤ x) (t : τ) : x ∉ (row t).map Prod.fst := fun hm => by have := hb.lt t x hm; omega
theorem hpV {x : Nat} (hx : B ≤ x) (t : τ) : hpV (row t) x = .dead := hpV_none (hb.out hx t)
theorem updL {x : Nat} (hx : B ≤ x) (t : τ) (h : Heap) : updL h (row t) x = h x := updL_none (hb.out hx t)
theorem upd {x : Nat} (hx : B ≤ x) (t : τ) (h : Heap) (o : AObj) : Hw (row t) (upd h x o) = Hw (row t) h := propext (hw_upd (hb.out hx t))
theorem self (t : τ) : Hw (row t) (Cw.hpV (row t)) = True := eq_true (hw_hpV (hb.nd t))
theorem updL_self (t : τ) (h : Heap) : Hw (row t) (Cw.updL h (row t)) = True := eq_true (hw_updL (hb.nd t))
theorem hn (t t' : τ) : (row t').map Prod.fst = (row t).map Prod.fst := hb.names _ _
end RowsB

theorem RF.intro {E : Env} {ps : List Nat} {A B : Post → KT} {Q : Post} {tm : TM} {df : DF} {h : Heap} {f : FuncId} {first cap : List AVal} (rl rd : Nat) (hi : E.inr = false) (hne : rl ≠ rd) (hl : h rl = .dead) (hd : h rd = .dead)
    (k : ∀ (sl sd : Nat) (L : Jm → AObj) (Lb : AObj),
      (∀ args h' K, args.length = ps.length → h' rl = L .go → A (RdA B rl (L .go) Lb (RdB rl L Lb K)) (putL tm ps args) [] h' → AInvoke E.P (.yield rl sl) args h' K) →
      ACalls E.P f (first ++ [.yield rl sl] ++ cap) (upd (upd h rd (.dfr false sd)) rl (L .go)) (RFK E.keep Q tm ((.yield rd sd, []) :: df) rl L)) : RF E (.func (.func f) first cap) ps A B Q tm df h :=
  ⟨hi, f, first, cap, rfl, rl, rd, hne, hl, hd, k⟩

theorem ACalls.rowLe {P : Program} {f : FuncId} {args : List AVal} {h : Heap} {K : AEnd → Heap → Prop} (r : Nat) {s : Nat} {cells : List AVal} (cells' : List AVal) (hr : h r = .row cells s) (hc : ALeL cells cells') (a : ACalls P f args (upd h r (.row cells' s)) K) : ACalls P f args h K :=
  ⟨a.1, fun Z μ g w cargs S hl hv => Calls.mono' (a.2 Z μ g w cargs (S.rowLe hr hc) hl hv) fun _ _ o => o.pre (Tr.rowLe hr)⟩

theorem AInvoke.wk {P : Program} {fv : AVal} {args : List AVal} {h : Heap} {K : AEnd → Heap → Prop} (a : AInvoke P fv args h fun e => Wk (K e)) : AInvoke P fv args h K :=
  fun Z μ g w v cargs S hv hl ha => (a Z μ g w v cargs S hv hl ha).mono fun _ _ o => o.wk

theorem Wk.view {X : Heap → Prop} {h : Heap} (l : List (Nat × AObj)) (hw : Hw l h) (k : X (hpV l)) : Wk X h := ⟨_, HLe.view hw, k⟩

theorem FCall.frz2 {E : Env} {fv v : AVal} {args : List AVal} {fa fl : List It} {d : Option Nat} {K : KT} {Q : Post} {tm : TM} {df : DF} {h : Heap} {cells cells' : List AVal} {s s' : Nat} (r r' : Nat) (hr : h r = .row cells s) (hr' : h r' = .row cells' s') (hne : r ≠ r')
    (p : PInv E.P (frz r' s' cells' (frz r s cells fv)) (frzL r' s' cells' (frzL r s cells args)) v) (f : FaOk E.F fa tm h)
    (k : FlOk fl (putD tm d v) (upd (upd h r' .dead) r .dead) ∧ K (putD tm d v) df (upd (upd h r' .dead) r .dead)) : FCall E fv args fa fl d K Q tm df h := by
  refine FCall.view [(r, .row cells s), (r', .row cells' s')] (X := fun v' hs' => v' = v ∧ hs' = [(r, .dead), (r', .dead)]) ?_ ⟨hr, hr', trivial⟩ f ?_
  · refine AInvoke.frz (cells := cells) (s := s) r (upd_same _ _ _) ?_
    refine AInvoke.frz (cells := cells') (s := s') r' (by rw [upd_ne _ _ (Ne.symm hne), hpV_cons, upd_ne _ _ (Ne.symm hne), hpV_cons, upd_same]) ?_
    refine AInvoke.mono (p _) ?_
    rintro e h' ⟨rfl, rfl⟩
    refine ⟨v, [(r, .dead), (r', .dead)], rfl, ?_, rfl, rfl, rfl⟩
    funext x
    simp only [hpV, upd]
    repeat' split
    all_goals rfl
  · rintro v' hs' ⟨rfl, rfl⟩
    exact k

section
variable (P : Program) (rs : List RV) (K : AEnd → Heap → Prop) (tm : TM) (df : DF) (h : Heap) (r s : Nat) (l : List AVal)
@[simp] theorem RetD_mark_ret : RetD P rs K .ret tm ((.yield r s, l) :: df) h = (h r = .dfr false s ∧ RetD P rs K .ret tm df (upd h r .dead)) := (rfl)
end

end Go.Cw
end

/- Lists of structs of whole numbers, as values. No program is named here. -/
section
namespace Go.Cw
open Go

def fl {α : Type} (f : α → List AVal) (l : List α) : List AVal := l.flatMap f

section
variable {α : Type} {f : α → List AVal} {w : Nat}

@[simp] theorem fl_nil : fl f [] = [] := (rfl)
theorem fl_cons (a : α) (l : List α) : fl f (a :: l) = f a ++ fl f l := by simp [fl]
theorem fl_one (l : List α) (a : α) : fl f l ++ f a = fl f (l ++ [a]) := by simp [fl]
theorem fl_len (hw : ∀ a, (f a).length = w) (l : List α) : (fl f l).length = l.length * w := by
  induction l with
  | nil => simp
  | cons a l ih => rw [fl_cons, List.length_append, hw, ih, List.length_cons, Nat.add_mul]; omega
theorem fl_drop (hw : ∀ a, (f a).length = w) (l : List α) (k : Nat) : (fl f l).drop (k * w) = fl f (l.drop k) := by
  induction k generalizing l with
  | zero => simp
  | succ k ih =>
    cases l with
    | nil => simp
    | cons a l =>
      rw [fl_cons, Nat.add_mul, Nat.one_mul, Nat.add_comm (k * w) w, List.drop_append, List.drop_of_length_le (by rw [hw]; omega), hw]
      simpa using ih l
theorem fl_take (hw : ∀ a, (f a).length = w) (l : List α) : (fl f l).take w = (l.head?.map f).getD [] := by
  cases l with
  | nil => simp
  | cons a l => rw [fl_cons, List.take_append_of_le_length (by rw [hw]; exact Nat.le_refl _), List.take_of_length_le (by rw [hw]; exact Nat.le_refl _)]; rfl
end

theorem flat_fl {α : Type} {f : α → List AVal} {V : List AVal → Prop} (hV : ∀ a, V a → ∃ x, a = f x) : ∀ {ass : List (List AVal)}, (∀ a ∈ ass, V a) → ∃ l : List α, l.length = ass.length ∧ ass.flatten = fl f l
  | [], _ => ⟨[], rfl, rfl⟩
  | a :: ass, h => by
    obtain ⟨l, h1, h2⟩ := flat_fl hV fun b hb => h b (List.mem_cons_of_mem _ hb)
    obtain ⟨x, h3⟩ := hV a (h a (by simp))
    exact ⟨x :: l, by simp [h1], by rw [List.flatten_cons, h2, h3, fl_cons]⟩

theorem Opens.fl {P : Program} {w : World} {μ : Mu} {t e : TypeId} {α : Type} {f : α → List AVal} (ht : P.underlying t = some (.slice e)) (hc : P.cellsOf t = 1) (hce : 0 < P.cellsOf e) (he : Opens P w μ e fun av => ∃ x, av = f x) :
    Opens P w μ t fun av => ∃ l : List α, av = [.vl l.length (Cw.fl f l)] :=
  (Opens.slice ht hc hce he).mono fun av ⟨ass, h1, h2, h3⟩ => by
    obtain ⟨l, h4, h5⟩ := flat_fl (f := f) (fun a h => h) h2
    exact ⟨l, by rw [h3, h5, ← h4]⟩
end Go.Cw
end

/- Plain reckoning: sets as numbers, spans, sorted lists. No program is named here. -/
section
set_option linter.unusedSimpArgs false
namespace Go.Cw
open Go

def LL (l : List (List Int)) : List AVal := l.map L
def LLv (l : List (List Int)) : AVal := .vl l.length (LL l)
def spanOf (l : List Int) : Int × Int := (l.foldl min (l.headD 0), l.foldl max (l.headD 0))
def SP2 (s : Int × Int) : AVal := .agg [.int .i64 s.1, .int .i64 s.2]
theorem gS_pos {esz r n s : Nat} (h : 0 < n) : gS esz r n s = .sl r 0 s n (.gr esz) := if_neg (by omega)
theorem gO_pos {n s : Nat} {cells : List AVal} (h : 0 < n) : gO n cells s = .row cells s := if_neg (by omega)
def bits (p : Nat → Bool) : Nat → Int
  | 0 => 0
  | n + 1 => bits p n + (if p n then 2 ^ n else 0)
theorem two_pow_le {k n : Nat} (h : k ≤ n) : (2 : Int) ^ k ≤ 2 ^ n := by
  have := Nat.pow_le_pow_right (n := 2) (by omega) h
  exact_mod_cast this
theorem two_pow_pos (k : Nat) : (0 : Int) < 2 ^ k := by
  have := Nat.pow_pos (n := k) (show 0 < 2 by omega)
  exact_mod_cast this
theorem bits_lt (p : Nat → Bool) (n : Nat) : 0 ≤ bits p n ∧ bits p n < 2 ^ n := by
  induction n with
  | zero => simp [bits]
  | succ n ih =>
    have := two_pow_pos n
    rw [Int.pow_succ]
    simp only [bits]
    split <;> omega
def plus (c : Nat → Int) (i : Nat) (x : Int) : Nat → Int := upd c i (c i + x)
theorem bitI_or (a b : Nat) (ha : a < 2 ^ 62) (hb : b < 2 ^ 62) : bitI .or .i64 a b = (a ||| b : Nat) := by
  have h := Nat.or_lt_two_pow ha hb
  unfold bitI
  simp only [BitVec.ofInt_natCast, BitVec.toNat_or, BitVec.toNat_ofNat]
  rw [show IntKind.i64.bits = 64 from rfl, Nat.mod_eq_of_lt (by omega), Nat.mod_eq_of_lt (by omega)]
  show IntKind.i64.wrap (((a ||| b : Nat)) : Int) = _
  have h2 : ((a ||| b : Nat) : Int) < 2 ^ 62 := by exact_mod_cast h
  simp [IntKind.wrap, IntKind.signed, IntKind.bits]
  omega
theorem foldl_min_le (l : List Int) : ∀ a, l.foldl min a ≤ a ∧ ∀ x ∈ l, l.foldl min a ≤ x := by
  induction l with
  | nil => intro a; simp
  | cons y l ih =>
    intro a
    obtain ⟨h1, h2⟩ := ih (min a y)
    refine ⟨Int.le_trans h1 (Int.min_le_left _ _), fun x hx => ?_⟩
    rcases List.mem_cons.1 hx with rfl | hx
    · exact Int.le_trans h1 (Int.min_le_right _ _)
    · exact h2 x hx
theorem foldl_min_mem (l : List Int) : ∀ a, l.foldl min a = a ∨ l.foldl min a ∈ l := by
  induction l with
  | nil => intro a; simp
  | cons y l ih =>
    intro a
    rcases ih (min a y) with h | h
    · by_cases hay : a ≤ y
      · left; simp only [List.foldl_cons, h]; omega
      · right; simp only [List.foldl_cons, h]; rw [show min a y = y by omega]; simp
    · right; simp only [List.foldl_cons]; exact List.mem_cons_of_mem _ h
theorem foldl_max_le (l : List Int) : ∀ a, a ≤ l.foldl max a ∧ ∀ x ∈ l, x ≤ l.foldl max a := by
  induction l with
  | nil => intro a; simp
  | cons y l ih =>
    intro a
    obtain ⟨h1, h2⟩ := ih (max a y)
    refine ⟨Int.le_trans (Int.le_max_left _ _) h1, fun x hx => ?_⟩
    rcases List.mem_cons.1 hx with rfl | hx
    · exact Int.le_trans (Int.le_max_right _ _) h1
    · exact h2 x hx
theorem foldl_max_mem (l : List Int) : ∀ a, l.foldl max a = a ∨ l.foldl max a ∈ l := by
  induction l with
  | nil => intro a; simp
  | cons y l ih =>
    intro a
    rcases ih (max a y) with h | h
    · by_cases hay : y ≤ a
      · left; simp only [List.foldl_cons, h]; omega
      · right; simp only [List.foldl_cons, h]; rw [show max a y = y by omega]; simp
    · right; simp only [List.foldl_cons]; exact List.mem_cons_of_mem _ h
theorem bits_congr {p q : Nat → Bool} {n : Nat} (h : ∀ i, i < n → p i = q i) : bits p n = bits q n := by
  induction n with
  | zero => rfl
  | succ n ih => simp only [bits]; rw [ih fun i hi => h i (by omega), h n (by omega)]
theorem bits_more {p : Nat → Bool} {n m : Nat} (hm : n ≤ m) (h : ∀ i, n ≤ i → i < m → p i = false) : bits p m = bits p n := by
  induction m with
  | zero =>
    obtain rfl : n = 0 := by omega
    rfl
  | succ m ih =>
    by_cases hnm : n = m + 1
    · rw [hnm]
    · simp only [bits]
      rw [ih (by omega) fun i h1 h2 => h i h1 (by omega), h m (by omega) (by omega)]
      simp
theorem bitI_and (a b : Nat) (ha : a < 2 ^ 62) (hb : b < 2 ^ 62) : bitI .and .i64 a b = (a &&& b : Nat) := by
  have h : a &&& b < 2 ^ 62 := Nat.lt_of_le_of_lt Nat.and_le_left ha
  unfold bitI
  simp only [BitVec.ofInt_natCast, BitVec.toNat_and, BitVec.toNat_ofNat]
  rw [show IntKind.i64.bits = 64 from rfl, Nat.mod_eq_of_lt (by omega), Nat.mod_eq_of_lt (by omega)]
  show IntKind.i64.wrap (((a &&& b : Nat)) : Int) = _
  have h2 : ((a &&& b : Nat) : Int) < 2 ^ 62 := by exact_mod_cast h
  simp [IntKind.wrap, IntKind.signed, IntKind.bits]
  omega
theorem bitI_and1 {a : Int} (h0 : 0 ≤ a) (h1 : a < 2 ^ 62) : bitI .and .i64 a 1 = a % 2 := by
  obtain ⟨n, rfl⟩ := Int.eq_ofNat_of_zero_le h0
  have hn : n < 2 ^ 62 := by exact_mod_cast h1
  have := bitI_and n 1 hn (by omega)
  rw [Nat.and_one_is_mod] at this
  rw [show (1 : Int) = ((1 : Nat) : Int) from rfl, this]
  omega
theorem bits_at (p : Nat → Bool) : ∀ (n i : Nat), i < n → bits p n / 2 ^ i % 2 = if p i then 1 else 0 := by
  intro n
  induction n with
  | zero => intro i hi; omega
  | succ n ih =>
    intro i hi
    have hb := bits_lt p n
    have hp := two_pow_pos i
    by_cases h : i = n
    · subst h
      simp only [bits]
      cases p i
      · rw [if_neg (by simp), Int.add_zero, Int.ediv_eq_zero_of_lt hb.1 hb.2]; rfl
      · rw [if_pos rfl, Int.add_ediv_of_dvd_right ⟨1, by omega⟩, Int.ediv_eq_zero_of_lt hb.1 hb.2, Int.ediv_self (by omega)]; rfl
    · have hin : i < n := by omega
      rw [← ih i hin]
      simp only [bits]
      cases p n
      · simp
      · obtain ⟨m, rfl⟩ : ∃ m, n = i + 1 + m := ⟨n - i - 1, by omega⟩
        have e : (2 : Int) ^ (i + 1 + m) = 2 ^ i * (2 * 2 ^ m) := by rw [Int.pow_add, Int.pow_succ, Int.mul_assoc]
        rw [if_pos rfl, e, Int.add_mul_ediv_left _ _ (by omega)]
        omega
theorem bits_and1 (p : Nat → Bool) {n i : Nat} (hn : n ≤ 60) (hi : i < n) : bitI .and .i64 (bits p n / 2 ^ i) 1 = if p i then 1 else 0 := by
  have hb := bits_lt p n
  have h2 := two_pow_le hn
  have hp := two_pow_pos i
  rw [bitI_and1 (Int.ediv_nonneg hb.1 (by omega)), bits_at p n i hi]
  have := Int.ediv_le_self (2 ^ i) hb.1
  have : (2 : Int) ^ 60 < 2 ^ 62 := by decide
  omega
theorem bits_zero {p : Nat → Bool} : ∀ {n : Nat}, bits p n = 0 ↔ ∀ i, i < n → p i = false
  | 0 => by simp [bits]
  | n + 1 => by
    have h1 := bits_lt p n
    have h2 := two_pow_pos n
    have ih := bits_zero (p := p) (n := n)
    simp only [bits]
    constructor
    · intro h i hi
      have hp : p n = false := by
        cases hp : p n with
        | false => rfl
        | true => rw [hp] at h; simp at h; omega
      by_cases hin : i = n
      · subst hin; exact hp
      · rw [hp] at h; exact ih.1 (by simpa using h) i (by omega)
    · intro h
      rw [h n (by omega), ih.2 fun i hi => h i (by omega)]; rfl
def SortedI (l : List Int) : Prop := l.Pairwise (· ≤ ·)
def upto (n : Nat) : List Int := (List.range n).map fun (i : Nat) => (i : Int)
theorem sortI_sorted (l : List Int) : SortedI (sortI l) := by
  have := List.pairwise_mergeSort (le := fun (x y : Int) => decide (x ≤ y)) (fun _ _ _ h1 h2 => by simp at *; omega) (fun _ _ => by simp; omega) l
  unfold SortedI
  simpa [sortI] using this

theorem wrap_u64 {n : Int} (h0 : 0 ≤ n) (h1 : n < 2 ^ 62) : IntKind.u64.wrap n = n := by
  unfold IntKind.wrap
  simp only [IntKind.signed, IntKind.bits, Bool.false_and, Bool.false_eq_true, if_false]
  omega
theorem bitU_and (a b : Nat) (ha : a < 2 ^ 62) (hb : b < 2 ^ 62) : bitI .and .u64 a b = (a &&& b : Nat) := by
  have h : a &&& b < 2 ^ 62 := Nat.lt_of_le_of_lt Nat.and_le_left ha
  unfold bitI
  simp only [BitVec.ofInt_natCast, BitVec.toNat_and, BitVec.toNat_ofNat]
  rw [show IntKind.u64.bits = 64 from rfl, Nat.mod_eq_of_lt (by omega), Nat.mod_eq_of_lt (by omega)]
  have h2 : ((a &&& b : Nat) : Int) < 2 ^ 62 := by exact_mod_cast h
  exact wrap_u64 (Int.natCast_nonneg _) h2
theorem bitU_or (a b : Nat) (ha : a < 2 ^ 62) (hb : b < 2 ^ 62) : bitI .or .u64 a b = (a ||| b : Nat) := by
  have h := Nat.or_lt_two_pow ha hb
  unfold bitI
  simp only [BitVec.ofInt_natCast, BitVec.toNat_or, BitVec.toNat_ofNat]
  rw [show IntKind.u64.bits = 64 from rfl, Nat.mod_eq_of_lt (by omega), Nat.mod_eq_of_lt (by omega)]
  have h2 : ((a ||| b : Nat) : Int) < 2 ^ 62 := by exact_mod_cast h
  exact wrap_u64 (Int.natCast_nonneg _) h2
theorem bitU_and1 {a : Int} (h0 : 0 ≤ a) (h1 : a < 2 ^ 62) : bitI .and .u64 a 1 = a % 2 := by
  obtain ⟨n, rfl⟩ := Int.eq_ofNat_of_zero_le h0
  have hn : n < 2 ^ 62 := by exact_mod_cast h1
  have := bitU_and n 1 hn (by omega)
  rw [Nat.and_one_is_mod] at this
  rw [show (1 : Int) = ((1 : Nat) : Int) from rfl, this]
  omega

def natB (p : Nat → Bool) : Nat → Nat
  | 0 => 0
  | n + 1 => natB p n ||| (if p n then 2 ^ n else 0)
theorem natB_bit (p : Nat → Bool) (n i : Nat) : (natB p n).testBit i = (decide (i < n) && p i) := by
  induction n with
  | zero => simp [natB]
  | succ n ih =>
    simp only [natB, Nat.testBit_or, ih]
    by_cases h : i = n
    · subst h
      cases hp : p i <;> simp [Nat.testBit_two_pow]
    · have h1 : decide (i < n + 1) = decide (i < n) := by rw [decide_eq_decide]; omega
      rw [h1]
      cases hp : p n
      · simp
      · simp [Nat.testBit_two_pow, Ne.symm h]
theorem natB_lt (p : Nat → Bool) (n : Nat) : natB p n < 2 ^ n := by
  refine Nat.lt_pow_two_of_testBit _ fun i hi => ?_
  rw [natB_bit]
  simp; omega
theorem bits_natB (p : Nat → Bool) (n : Nat) : bits p n = natB p n := by
  induction n with
  | zero => rfl
  | succ n ih =>
    simp only [bits, natB, ih]
    cases p n
    · simp
    · have := Nat.two_pow_add_eq_or_of_lt (natB_lt p n) 1
      rw [Nat.mul_one] at this
      rw [if_pos rfl, if_pos rfl, Nat.or_comm, ← this]
      simp; omega
theorem natB_lt62 (p : Nat → Bool) {n : Nat} (hn : n ≤ 60) : natB p n < 2 ^ 62 :=
  Nat.lt_of_lt_of_le (natB_lt p n) (Nat.pow_le_pow_right (by omega) (by omega))
theorem natB_and (p q : Nat → Bool) (n : Nat) : natB p n &&& natB q n = natB (fun i => p i && q i) n := by
  apply Nat.eq_of_testBit_eq
  intro i
  rw [Nat.testBit_and, natB_bit, natB_bit, natB_bit]
  cases decide (i < n) <;> simp
theorem natB_or (p q : Nat → Bool) (n : Nat) : natB p n ||| natB q n = natB (fun i => p i || q i) n := by
  apply Nat.eq_of_testBit_eq
  intro i
  rw [Nat.testBit_or, natB_bit, natB_bit, natB_bit]
  cases decide (i < n) <;> simp
theorem bitsI_and (p q : Nat → Bool) {n : Nat} (hn : n ≤ 60) : bitI .and .i64 (bits p n) (bits q n) = bits (fun i => p i && q i) n := by
  rw [bits_natB, bits_natB, bits_natB, bitI_and _ _ (natB_lt62 p hn) (natB_lt62 q hn), natB_and]
theorem bitsI_or (p q : Nat → Bool) {n : Nat} (hn : n ≤ 60) : bitI .or .i64 (bits p n) (bits q n) = bits (fun i => p i || q i) n := by
  rw [bits_natB, bits_natB, bits_natB, bitI_or _ _ (natB_lt62 p hn) (natB_lt62 q hn), natB_or]
theorem bitsU_and (p q : Nat → Bool) {n : Nat} (hn : n ≤ 60) : bitI .and .u64 (bits p n) (bits q n) = bits (fun i => p i && q i) n := by
  rw [bits_natB, bits_natB, bits_natB, bitU_and _ _ (natB_lt62 p hn) (natB_lt62 q hn), natB_and]
theorem bits_of {s : Int} (h0 : 0 ≤ s) {n : Nat} (h1 : s < 2 ^ n) : bits (fun i => decide (s / 2 ^ i % 2 = 1)) n = s := by
  obtain ⟨m, rfl⟩ := Int.eq_ofNat_of_zero_le h0
  have hm : m < 2 ^ n := by exact_mod_cast h1
  rw [bits_natB]
  congr 1
  apply Nat.eq_of_testBit_eq
  intro i
  rw [natB_bit]
  have e : ((m : Int) / 2 ^ i % 2 = 1) ↔ (m / 2 ^ i % 2 = 1) := by
    rw [show ((2 : Int) ^ i) = ((2 ^ i : Nat) : Int) by simp, ← Int.natCast_ediv]
    omega
  have e2 : decide ((m : Int) / 2 ^ i % 2 = 1) = decide (m / 2 ^ i % 2 = 1) := decide_eq_decide.2 e
  rw [Nat.testBit_eq_decide_div_mod_eq, e2]
  by_cases hi : i < n
  · simp [hi]
  · have : m / 2 ^ i = 0 := Nat.div_eq_of_lt (Nat.lt_of_lt_of_le hm (Nat.pow_le_pow_right (by omega) (by omega)))
    simp [hi, this]
end Go.Cw
end

/- Steps that wait behind a guard; copies of lists that may be empty. -/
section
set_option linter.unusedSimpArgs false
namespace Go.Cw
open Go

section
variable (E : Env) (Q : Post) (op : IOp) (d t : Nat) (b : Bool) (r : List Stp) (K : KT) (tm : TM) (df : DF) (h : Heap)
end

def cpV (esz r s nm s' n : Nat) : AVal := if n = 0 then .sl r 0 s 0 (.ex 0) else .sl nm 0 s' n (.gr esz)
def cpO (n : Nat) (ys : List AVal) (s' : Nat) : AObj := if n = 0 then .dead else .row ys s'
theorem xAp_cp {nm esz bytes s₀ r s n : Nat} {h : Heap} {K : AVal → Heap → Prop} {ys : List AVal} (hr : h r = .row [] s) (hd : h nm = .dead) (hb : (2 * n + 192) * bytes ≤ 281474976710656)
    (hK : K (cpV esz r s nm (s₀ + 1) n) (upd h nm (cpO n ys (s₀ + 1)))) : xAp nm esz bytes s₀ (.sl r 0 s 0 (.ex 0)) h K n ys := by
  unfold cpV cpO at hK
  by_cases hn : n = 0
  · subst hn
    rw [if_pos rfl, if_pos rfl] at hK
    have e : upd h nm .dead = h := by
      funext x
      by_cases hx : x = nm
      · rw [hx, upd_same, hd]
      · rw [upd_ne _ _ hx]
    rw [e] at hK
    simpa using hK
  · rw [if_neg hn, if_neg hn] at hK
    rw [xAp_ne hn, xApN_sl, hr, xApR_ex]
    refine ⟨⟨rfl, by simp, by simpa using hb⟩, fun h1 => absurd h1 (by omega), fun _ => by simpa using hK⟩
theorem VLe.cp {esz r s nm s' n : Nat} {h : Heap} {cells : List AVal} (hh : h nm = cpO n cells s') (hl : cells.length = n * esz) : VLe (cpV esz r s nm s' n) h (.vl n cells) (upd h nm .dead) := by
  unfold cpV
  unfold cpO at hh
  by_cases hn : n = 0
  · subst hn
    rw [if_pos rfl]
    have : cells = [] := List.eq_nil_of_length_eq_zero (by omega)
    rw [this]
    refine VLe.trans (VLe.of_ale ((ALe.sl_es r 0 s).trans ALe.es_vl)) (VLe.wk fun x => ?_)
    by_cases hx : x = nm
    · right; rw [hx, upd_same]
    · left; rw [upd_ne _ _ hx]
  · rw [if_neg hn] at hh ⊢
    exact VLe.sl hh

def cpW (esz r s nm s' k n : Nat) : AVal := if n = 0 then .sl r 0 s k (.ex k) else .sl nm 0 s' (k + n) (.gr esz)
theorem VLe.cpW {esz r s nm s' k n : Nat} {h : Heap} {cs ys : List AVal} (hr : h r = .row cs s) (hh : h nm = cpO n (cs ++ ys) s') (hl : ys.length = n * esz) : VLe (cpW esz r s nm s' k n) h (.vl (k + n) (cs ++ ys)) (upd (upd h r .dead) nm .dead) := by
  unfold Go.Cw.cpW
  unfold cpO at hh
  by_cases hn : n = 0
  · subst hn
    rw [if_pos rfl]
    have : ys = [] := List.eq_nil_of_length_eq_zero (by omega)
    rw [this, List.append_nil]
    refine VLe.trans (VLe.sl hr) (VLe.wk fun x => ?_)
    by_cases hx : x = nm
    · right; rw [hx, upd_same]
    · left; rw [upd_ne _ _ hx]
  · rw [if_neg hn] at hh ⊢
    refine VLe.trans (VLe.sl hh) (VLe.wk fun x => ?_)
    by_cases hx : x = nm
    · left; rw [hx, upd_same, upd_same]
    · rw [upd_ne _ _ hx, upd_ne _ _ hx]
      by_cases hy : x = r
      · right; rw [hy, upd_same]
      · left; rw [upd_ne _ _ hy]

theorem VLe.vl {us vs : List AVal} {h h' : Heap} {n : Nat} (hn : 0 < n) (x : LLe us h vs h') (hl : us.length = vs.length) : VLe (.vl n us) h (.vl n vs) h' := by
  intro Z μ g w u S hv
  simp only [VRel] at hv
  obtain ⟨a, cap, h1, h2, h3⟩ := hv
  rcases h3 with h3 | ⟨b, o, c, h4, h5, h6, h7⟩
  · omega
  obtain ⟨Z', μ', g', S', hv', t⟩ := x Z μ g w _ S h6
  exact ⟨Z', μ', g', S', by simp only [VRel]; exact ⟨a, cap, h1, h2, .inr ⟨b, o, c, h4, t.ext.imm _ _ h5, hv', by rw [← hl]; exact h7⟩⟩, t⟩

section
variable {E : Env} {fv v : AVal} {fa fl : List It} {d : Option Nat} {K : KT} {Q : Post} {tm : TM} {df : DF} {h : Heap}

end

theorem bitsU_add (p : Nat → Bool) (k : Nat) (hk : k ≤ 60) : bitI .or .u64 (bits p k) (2 ^ k) = bits p k + 2 ^ k := by
  obtain ⟨h1, h2⟩ := bits_lt p k
  obtain ⟨a, ha⟩ := Int.eq_ofNat_of_zero_le h1
  have ha2 : a < 2 ^ k := by rw [ha] at h2; exact_mod_cast h2
  have hk2 : 2 ^ k < 2 ^ 62 := Nat.pow_lt_pow_right (by omega) (by omega)
  have := bitU_or a (2 ^ k) (by omega) hk2
  rw [ha, show ((2 : Int) ^ k) = ((2 ^ k : Nat) : Int) by simp, this]
  have h3 := Nat.two_pow_add_eq_or_of_lt ha2 1
  rw [Nat.mul_one] at h3
  rw [Nat.or_comm, ← h3]
  simp; omega
theorem wrapU_pow {k : Nat} (hk : k ≤ 60) : IntKind.u64.wrap (2 ^ k) = 2 ^ k := by
  have h0 := two_pow_pos k
  have h1 := two_pow_le hk
  exact wrap_u64 (by omega) (Int.lt_of_le_of_lt h1 (by decide))
theorem wrapU_pow1 {k : Nat} (hk : k ≤ 60) : IntKind.u64.wrap (2 ^ k - 1) = 2 ^ k - 1 := by
  have h0 := two_pow_pos k
  have h1 := two_pow_le hk
  have : (2 : Int) ^ 60 < 2 ^ 62 := by decide
  exact wrap_u64 (by omega) (by omega)
end Go.Cw
end

/- Maps whose entries are told by a list of keys; a range over one, which meets each key once. No program is named here. -/
section
set_option linter.unusedSectionVars false
namespace Go.Cw
open Go

section
variable {κ : Type} [DecidableEq κ]

def entsK (ek f : κ → AVal) (M : List κ) : List (AVal × AVal) := M.map fun k => (ek k, f k)
@[simp] theorem entsK_length (ek f : κ → AVal) (M : List κ) : (entsK ek f M).length = M.length := by simp [entsK]
@[simp] theorem entsK_nil (ek f : κ → AVal) : entsK ek f [] = [] := (rfl)
theorem entsK_get (ek f : κ → AVal) (M : List κ) (i : Nat) : (entsK ek f M)[i]? = M[i]?.map fun k => (ek k, f k) := by simp [entsK]

structure KeyLaw (kn : Bool × List Kd) (ek : κ → AVal) : Prop where
  eq : ∀ a b, keyEq kn (ek a) (ek b) = some (decide (a = b))

def insK (k : κ) (M : List κ) : List κ := if k ∈ M then M else M ++ [k]
theorem mem_insK {k x : κ} {M : List κ} : x ∈ insK k M ↔ x ∈ M ∨ x = k := by
  unfold insK
  split
  · exact ⟨.inl, fun h => h.elim id fun e => by subst e; assumption⟩
  · simp
theorem nodup_insK {k : κ} {M : List κ} (h : M.Nodup) : (insK k M).Nodup := by
  unfold insK
  split
  · exact h
  · rename_i hk
    rw [List.nodup_append]
    exact ⟨h, by simp, fun a ha b hb => by simp at hb; subst hb; rintro rfl; exact hk ha⟩
theorem insK_le (k : κ) (M : List κ) : M.length ≤ (insK k M).length ∧ (insK k M).length ≤ M.length + 1 := by
  unfold insK; split <;> simp

variable {kn : Bool × List Kd} {ek f : κ → AVal}

theorem mfind_K (hl : KeyLaw kn ek) (k : κ) : ∀ {M : List κ},
    (k ∉ M → mfind kn (ek k) (entsK ek f M) = some none) ∧ (k ∈ M → ∃ i, M[i]? = some k ∧ mfind kn (ek k) (entsK ek f M) = some (some (i, f k)))
  | [] => ⟨fun _ => rfl, fun h => by simp at h⟩
  | l :: M => by
    obtain ⟨h1, h2⟩ := mfind_K hl k (M := M)
    have hc : mfind kn (ek k) (entsK ek f (l :: M)) = match some (decide (k = l)) with
        | none => none
        | some true => some (some (0, f l))
        | some false => (mfind kn (ek k) (entsK ek f M)).map (Option.map fun x => (x.1 + 1, x.2)) := by
      rw [← hl.eq]; rfl
    by_cases hkl : k = l
    · subst hkl
      refine ⟨fun h => absurd (by simp) h, fun _ => ⟨0, rfl, ?_⟩⟩
      rw [hc]; simp
    · refine ⟨fun h => ?_, fun h => ?_⟩
      · rw [hc, h1 (fun hm => h (by simp [hm]))]; simp [hkl]
      · obtain ⟨i, hi, hf⟩ := h2 (by simpa [hkl] using h)
        refine ⟨i + 1, by simpa using hi, ?_⟩
        rw [hc, hf]; simp [hkl]

theorem keyOk_K (hl : KeyLaw kn ek) (k : κ) : keyOk kn (ek k) = true := by simp [keyOk, hl.eq]

theorem aLookup_K (hl : KeyLaw kn ek) {k : κ} {M : List κ} {h : Heap} {m s : Nat} (hm : h m = .map (entsK ek f M) s) (zero : AVal) :
    aLookup h kn true zero (.map m s) (ek k) = some (if k ∈ M then .tup [f k, .bool true] else .tup [zero, .bool false]) := by
  obtain ⟨h1, h2⟩ := mfind_K hl k (f := f) (M := M)
  simp only [aLookup, keyOk_K hl, if_true, mapOf, hm]
  by_cases hkm : k ∈ M
  · obtain ⟨i, _, hi⟩ := h2 hkm
    simp [hi, hkm]
  · simp [h1 hkm, hkm]

theorem aLookup_K1 (hl : KeyLaw kn ek) {k : κ} {M : List κ} {h : Heap} {m s : Nat} (hm : h m = .map (entsK ek f M) s) (zero : AVal) :
    aLookup h kn false zero (.map m s) (ek k) = some (if k ∈ M then f k else zero) := by
  obtain ⟨h1, h2⟩ := mfind_K hl k (f := f) (M := M)
  simp only [aLookup, keyOk_K hl, if_true, mapOf, hm]
  by_cases hkm : k ∈ M
  · obtain ⟨i, _, hi⟩ := h2 hkm
    simp [hi, hkm]
  · simp [h1 hkm, hkm]

theorem mset_K {k : κ} {M : List κ} (hn : M.Nodup) {i : Nat} (hi : M[i]? = some k) {v : AVal} {f' : κ → AVal} (hv : f' k = v) (hf : ∀ x ∈ M, x ≠ k → f' x = f x) : mset (entsK ek f M) i (ek k) v = entsK ek f' M := by
  apply List.ext_getElem?
  intro j
  simp only [mset, List.getElem?_set, entsK_get, entsK_length]
  obtain ⟨hil, hik⟩ := List.getElem?_eq_some_iff.1 hi
  by_cases hij : i = j
  · subst hij
    simp [hil, hik, hv]
  · rw [if_neg hij]
    by_cases hj : j < M.length
    · have hne : M[j] ≠ k := by
        intro e
        rw [← hik] at e
        rcases Nat.lt_or_gt_of_ne hij with h | h
        · exact (List.pairwise_iff_getElem.1 hn) i j hil hj h e.symm
        · exact (List.pairwise_iff_getElem.1 hn) j i hj hil h e
      simp [hj, hf M[j] (by simp) hne]
    · simp [hj]

theorem mapU_K (hl : KeyLaw kn ek) {k : κ} {M : List κ} (hn : M.Nodup) {h : Heap} {m s g : Nat} (hm : h m = .map (entsK ek f M) s) {ρ : Opd → AVal} {a b c : Opd} (ha : ρ a = .map m s) (hb : ρ b = ek k)
    {f' : κ → AVal} (hc : ρ c = f' k) (hf : ∀ x ∈ M, x ≠ k → f' x = f x) :
    ixe (.mapU kn a b c) 0 ρ h g = some (.any, upd h m (.map (entsK ek f' (insK k M)) s), g) := by
  obtain ⟨h1, h2⟩ := mfind_K hl k (f := f) (M := M)
  simp only [ixe, ha, hm, hb, keyOk_K hl, and_self, if_true]
  by_cases hkm : k ∈ M
  · obtain ⟨i, hi, hf2⟩ := h2 hkm
    simp only [hf2, hc, insK, if_pos hkm, mset_K hn hi (f' := f') rfl hf]
  · simp only [h1 hkm, hc, insK, if_neg hkm]
    have : entsK ek f M = entsK ek f' M := by
      unfold entsK
      refine List.map_congr_left fun x hx => ?_
      rw [hf x hx fun e => hkm (e ▸ hx)]
    rw [this]
    simp [entsK]

def keysAt (M : List κ) (left : List Nat) : List κ := left.filterMap (M[·]?)
theorem keysAt_range (M : List κ) : keysAt M (List.range M.length) = M := by
  apply List.ext_getElem?
  intro i
  unfold keysAt
  have : (List.range M.length).filterMap (M[·]?) = M := by
    induction M with
    | nil => rfl
    | cons a M ih =>
      rw [List.length_cons, List.range_succ_eq_map, List.filterMap_cons]
      simp only [List.getElem?_cons_zero, List.filterMap_map]
      congr 1
  rw [this]

theorem keysAt_step {M D : List κ} {left : List Nat} {i : Nat} {k : κ} (hi : i ∈ left) (hk : M[i]? = some k) (h : (D ++ keysAt M left).Perm M) : (D ++ [k] ++ keysAt M (left.erase i)).Perm M := by
  have h1 : (keysAt M left).Perm (k :: keysAt M (left.erase i)) := by
    have := (List.perm_cons_erase hi).filterMap (M[·]?)
    simpa [keysAt, hk] using this
  refine List.Perm.trans ?_ h
  rw [List.append_assoc]
  exact List.Perm.append_left D h1.symm

theorem xNextM_K {h : Heap} {r s m s₁ n : Nat} {left : List Nat} {M : List κ} {K : AVal → Heap → Prop} (hn : n = M.length) (h0 : left = [] → K (.tup [.bool false]) h)
    (h1 : ∀ i k, i ∈ left → M[i]? = some k → K (.tup [.bool true, ek k, f k]) (upd h r (.iter (some (m, s₁)) n (left.erase i) (some i) s))) : xNextM (.map (entsK ek f M) s₁) h r s m s₁ n left K := by
  refine xNextM_map (by simp [hn]) h0 fun i k v hi hkv => ?_
  rw [entsK_get] at hkv
  cases hM : M[i]? with
  | none => rw [hM] at hkv; simp at hkv
  | some x =>
    rw [hM] at hkv
    simp only [Option.map_some, Option.some.injEq, Prod.mk.injEq] at hkv
    obtain ⟨rfl, rfl⟩ := hkv
    exact h1 i x hi hM

end

def lenMO (o : AObj) (s : Nat) : Option AVal :=
  match o with
  | .map es s' => if s = s' then some (.int .i64 es.length) else none
  | _ => none
@[simp] theorem lenMO_map (es : List (AVal × AVal)) (s s' : Nat) : lenMO (.map es s') s = if s = s' then some (.int .i64 es.length) else none := (rfl)
@[simp] theorem aLenM_map (h : Heap) (r s : Nat) : aLenM (mapOf h (.map r s)) = lenMO (h r) s := by
  simp only [mapOf]
  cases h r with
  | map es s' => simp only [lenMO_map]; split <;> rfl
  | _ => rfl

def keysOf {κ : Type} [DecidableEq κ] (l : List κ) : List κ := l.foldl (fun M x => insK x M) []
section
variable {κ : Type} [DecidableEq κ]
end

def maxL (l : List Int) : Int := l.foldl max 0
theorem sortI_congr {l m : List Int} (h : l.Perm m) : sortI l = sortI m := by
  refine List.Perm.eq_of_pairwise (le := (· ≤ ·)) (fun a b _ _ h1 h2 => Int.le_antisymm h1 h2) (sortI_sorted l) (sortI_sorted m) ?_
  exact ((sortI_perm l).trans h).trans (sortI_perm m).symm

theorem sortI_eq {l m : List Int} (h : l.Perm m) (hs : SortedI m) : sortI l = m :=
  List.Perm.eq_of_pairwise (le := (· ≤ ·)) (fun a b _ _ h1 h2 => Int.le_antisymm h1 h2) (sortI_sorted l) hs ((sortI_perm l).trans h)

theorem setRange_app (A B v : List AVal) : setRange (A ++ B) A.length v = A ++ (v ++ B.drop v.length) := by
  unfold setRange
  rw [List.take_left, List.drop_append]
  congr 2
  have : A.drop (A.length + v.length) = [] := List.drop_eq_nil_of_le (by omega)
  rw [this, List.nil_append]
  congr 1
  omega

theorem setRange_fill {D : List Int} {c : Nat} (k : Int) (h : D.length + 1 ≤ c) :
    setRange (ints (D ++ List.replicate (c - D.length) 0)) D.length [.int .i64 k] = ints (D ++ [k] ++ List.replicate (c - (D.length + 1)) 0) := by
  have e : (ints D).length = D.length := by simp
  have : ints (D ++ List.replicate (c - D.length) 0) = ints D ++ ints (List.replicate (c - D.length) 0) := by simp [ints]
  rw [this, ← e, setRange_app, e]
  have h1 : c - D.length = (c - (D.length + 1)) + 1 := by omega
  rw [h1]
  simp [ints, List.replicate_succ]

theorem keyLaw_int (k : IntKind) : KeyLaw (false, [.i]) (fun n : Int => AVal.int k n) := ⟨fun a b => by
  simp only [keyEq, flatEq, if_true, Bool.false_eq_true, if_false, Option.map_some]
  by_cases h : a = b <;> simp [h]⟩

end Go.Cw
end

/- A row that is never written again becomes part of values, in what other rows hold too; lists of drawn numbers, as values. No program is named here. -/
section
namespace Go.Cw
open Go

def frzO (r s : Nat) (cells : List AVal) : AObj → AObj
  | .row cs s' => .row (frzL r s cells cs) s'
  | o => o
def frzH (r s : Nat) (cells : List AVal) (h : Heap) : Heap := fun x => frzO r s cells (h x)
@[simp] theorem frzH_at (r s : Nat) (cells : List AVal) (h : Heap) (x : Nat) : frzH r s cells h x = frzO r s cells (h x) := (rfl)
@[simp] theorem frzO_dead (r s : Nat) (cells : List AVal) : frzO r s cells .dead = .dead := (rfl)
@[simp] theorem frzO_row (r s : Nat) (cells cs : List AVal) (s' : Nat) : frzO r s cells (.row cs s') = .row (frzL r s cells cs) s' := (rfl)
theorem frzO_stamp (r s : Nat) (cells : List AVal) (o : AObj) : (frzO r s cells o).stamp = o.stamp := by cases o <;> rfl
@[simp] theorem frzL_ints (r s : Nat) (cells : List AVal) (l : List Int) : frzL r s cells (ints l) = ints l := by induction l <;> simp [*]
@[simp] theorem frzO_gO (r s : Nat) (cells : List AVal) (n : Nat) (cs : List AVal) (s' : Nat) : frzO r s cells (gO n cs s') = gO n (frzL r s cells cs) s' := by cases n <;> rfl
theorem SLe.frzHp {n : Nat} {tm : TM} {df : DF} {h : Heap} {cells : List AVal} {s : Nat} (r : Nat) (hr : h r = .row cells s) : SLe n tm df h (frzT r s cells tm) df (frzH r s cells (upd h r .dead)) := by
  intro Z μ g w ca S T D
  obtain ⟨c, hz, h3, ho, S', t⟩ := S.freeze hr
  have h3' := VPre.mono t.ext _ _ h3
  refine ⟨_, μ, g, ⟨fun x => ?_, fun x y s₁ s₂ hx hy hne => ?_, S'.imm, fun x s₁ hx => ?_⟩, ⟨T.1, fun x => frz_rel t.ext h3' ho hz _ _ (T.2 x)⟩, D.mono t.ext,
    ⟨t.ext, t.size, t.frame, fun x s₁ hx hlt => ?_, t.imm, t.env⟩⟩
  · have hrow := S'.rows x
    simp only [frzH_at]
    by_cases hxr : x = r
    · subst hxr; rw [upd_same]; simp [ORel]
    · rw [upd_ne _ _ hxr] at hrow ⊢
      have hrow0 := S.rows x
      cases hx : h x with
      | row cs s' =>
        rw [hx] at hrow0
        simp only [frzO_row, ORel] at hrow0 ⊢
        obtain ⟨hs, c', elem, h1, h2, h4, h5⟩ := hrow0
        exact ⟨hs, c', elem, h1, h2, frzL_rel t.ext h3' ho hz _ _ h4, by simpa using h5⟩
      | _ => rw [hx] at hrow; exact hrow
  · rw [frzH_at, frzO_stamp] at hx hy; exact S'.inj x y s₁ s₂ hx hy hne
  · rw [frzH_at, frzO_stamp] at hx; exact S'.sep x s₁ hx
  · rw [frzH_at, frzO_stamp] at hx; exact t.wr x s₁ hx hlt

theorem Sl.frzHp {n : Nat} {K : KT} {tm : TM} {df : DF} {h : Heap} {cells : List AVal} {s : Nat} (r : Nat) (hr : h r = .row cells s) (k : Sl n K (frzT r s cells tm) df (frzH r s cells (upd h r .dead))) : Sl n K tm df h := Sl.le (SLe.frzHp r hr) k

theorem Sl.gSH {n : Nat} {K : KT} {tm : TM} {df : DF} {h : Heap} {cells : List AVal} {m s : Nat} (r : Nat) (hm : 0 < m) (hr : h r = gO m cells s) (k : Sl n K (frzT r s cells tm) df (frzH r s cells (upd h r .dead))) : Sl n K tm df h :=
  Sl.frzHp r (by rw [hr, gO_pos hm]) k

theorem xApN_cp {nm₁ nm₂ esz bytes s₀ r s s' n m : Nat} {h : Heap} {K : AVal → Heap → Prop} {cs ys : List AVal} (hr : h r = .row [] s) (h1 : h nm₁ = cpO n cs s') (hl : cs.length = n * esz) (hm : 0 < m) (hb : (2 * (n + m) + 192) * bytes ≤ 281474976710656)
    (hK : K (.sl nm₂ 0 (s₀ + 1) (n + m) (.gr esz)) (upd (upd h nm₁ .dead) nm₂ (.row (cs ++ ys) (s₀ + 1)))) : xApN nm₂ esz bytes s₀ (cpV esz r s nm₁ s' n) h K m ys := by
  unfold cpO at h1
  unfold cpV
  by_cases hn : n = 0
  · subst hn
    rw [if_pos rfl] at h1 ⊢
    have hcs : cs = [] := List.eq_nil_of_length_eq_zero (by omega)
    have e : upd h nm₁ .dead = h := by
      funext x
      by_cases hx : x = nm₁
      · rw [hx, upd_same, h1]
      · rw [upd_ne _ _ hx]
    rw [e, hcs] at hK
    rw [xApN_sl, hr, xApR_ex]
    refine ⟨⟨rfl, by simp, by simpa using hb⟩, fun h1 => absurd h1 (by omega), fun _ => by simpa using hK⟩
  · rw [if_neg hn] at h1 ⊢
    rw [xApN_sl, h1, xApR_gr]
    refine ⟨⟨rfl, by omega, by simpa using hb⟩, ⟨rfl, rfl, by omega⟩, by simpa using hK⟩

def U16 (l : List Int) : AVal := .vl l.length (intsK .u16 l)
structure U16ok (l : List Int) : Prop where
  len : l.length ≤ 9223372036854775807
  rng : ∀ x ∈ l, 0 ≤ x ∧ x ≤ 65535
@[simp] theorem acells_U16 (l : List Int) : acells (U16 l) = some [U16 l] := (rfl)
@[simp] theorem aLen_U16 (l : List Int) : aLen (U16 l) = some (.int .i64 l.length) := (rfl)
@[simp] theorem satIxS_U16 (l : List Int) (k : IntKind) (n : Int) (K : AVal → Prop) : satIxS 1 (U16 l) (.int k n) K = ((0 ≤ n ∧ n < l.length) ∧ K (.pv (intsK .u16 (l.drop n.toNat)))) := by
  simp [U16]

end Go.Cw
end

/- A call that only looks at a row: the row is still writable behind it. No program is named here. -/
section
set_option maxRecDepth 100000
set_option linter.unusedSimpArgs false
namespace Go.Cw
open Go

def ZF (v : AVal) : Prop := ∀ Z Z' μ g u, VRel Z μ g v u → VRel Z' μ g v u
theorem ZF.int (k : IntKind) (n : Int) : ZF (.int k n) := fun _ _ _ _ _ h => by simpa [VRel] using h
theorem ZF.bool (b : Bool) : ZF (.bool b) := fun _ _ _ _ _ h => by simpa [VRel] using h
theorem ZF.nils : ZF .nils := fun _ _ _ _ _ h => by simpa [VRel] using h
theorem ZF.sl (r off s len : Nat) (cap : Cap) : ZF (.sl r off s len cap) := fun _ _ _ _ _ h => by simpa [VRel] using h
theorem ZF.pre : ∀ {l : List AVal}, (∀ a ∈ l, ZF a) → ∀ Z Z' μ g us, VPre Z μ g l us → VPre Z' μ g l us
  | [], _, _, _, _, _, _, _ => by simp [VPre]
  | a :: l, h, Z, Z', μ, g, [], hp => by simp [VPre] at hp
  | a :: l, h, Z, Z', μ, g, u :: us, hp => by
    simp only [VPre] at hp ⊢
    exact ⟨h a (by simp) Z Z' μ g u hp.1, ZF.pre (fun b hb => h b (by simp [hb])) Z Z' μ g us hp.2⟩
theorem ZF.tup {l : List AVal} (h : ∀ a ∈ l, ZF a) : ZF (.tup l) := fun Z Z' μ g u hu => by
  simp only [VRel] at hu ⊢
  obtain ⟨x, h1, h2, h3⟩ := hu
  exact ⟨x, h1, h2, ZF.pre h Z Z' μ g _ h3⟩
theorem ZF.ints (l : List Int) : ∀ a ∈ ints l, ZF a := fun a ha => by
  unfold Go.Cw.ints at ha
  obtain ⟨n, _, rfl⟩ := List.mem_map.1 ha
  exact ZF.int _ _
def RowsZ (h : Heap) : Prop := ∀ x, h x = .dead ∨ ∃ cells s, h x = .row cells s ∧ ∀ a ∈ cells, ZF a
theorem RowsZ.one (r : Nat) {cells : List AVal} (s : Nat) (hc : ∀ a ∈ cells, ZF a) : RowsZ (hpV [(r, .row cells s)]) := fun x => by
  rw [hpV_cons, hpV_nil]
  by_cases h : x = r
  · subst h; exact .inr ⟨cells, s, upd_same _ _ _, hc⟩
  · exact .inl (upd_ne _ _ h)
theorem RowsZ.nil : RowsZ nilH := fun _ => .inl rfl

theorem AInvoke.peek {P : Program} {fv : AVal} {args : List AVal} {K K0 : AEnd → Heap → Prop} {cells : List AVal} {s : Nat} (r : Nat) (a : AInvoke P (Go.Cw.frz r s cells fv) (Go.Cw.frzL r s cells args) nilH K0)
    (hK : ∀ e h', K0 e h' → ∃ v, e = .ret v ∧ ZF v ∧ RowsZ h' ∧ h' r = .dead ∧ K (.ret v) (upd h' r (.row cells s))) : AInvoke P fv args (hpV [(r, .row cells s)]) K := by
  intro Z μ g w v cargs S hv hl ha
  obtain ⟨h, hh⟩ : ∃ h, h = hpV [(r, AObj.row cells s)] := ⟨_, rfl⟩
  have hr : h r = .row cells s := by rw [hh]; exact upd_same _ _ _
  have hx : ∀ x, x ≠ r → h x = .dead := fun x hx => by rw [hh]; exact upd_ne _ _ hx
  rw [← hh] at S ⊢
  obtain ⟨c, hz, h3, ho, S', t⟩ := S.freeze hr
  have hd : upd h r .dead = nilH := by
    funext x
    by_cases e : x = r
    · subst e; exact upd_same _ _ _
    · rw [upd_ne _ _ e, hx x e]; rfl
  rw [hd] at S' t
  refine (a _ _ _ _ v cargs S' (frz_rel t.ext (VPre.mono t.ext _ _ h3) ho hz _ _ hv) (by simpa using hl) (frzL_rel t.ext (VPre.mono t.ext _ _ h3) ho hz _ _ ha)).mono ?_
  rintro e w' ⟨Z', μ', g', ae, h', k0, er, Sx, T⟩
  obtain ⟨u, rfl, hzu, hrz, hdr, hk⟩ := hK _ _ k0
  obtain ⟨x, hxv, rfl⟩ := er
  have hfr : ∀ b, b < w.heap.size → w'.heap[b]? = w.heap[b]? := fun b hb => T.frame b hb fun r s hs => by simp [nilH, AObj.stamp] at hs
  have hext : Ext Z μ g Z μ' g' := ⟨fun _ _ h => h, T.ext.loc, T.ext.cnt⟩
  have hsr := S.lt (r := r) (s := s) (by rw [hr]; rfl)
  have hnew : ∀ x s', (h' x).stamp = some s' → w.heap.size ≤ (μ' s').blk := fun x s' hs => Nat.le_of_not_lt fun hlt => by
    obtain ⟨r₀, s₀, h0, _⟩ := T.wr x s' hs hlt
    simp [nilH, AObj.stamp] at h0
  have hloc := T.ext.loc s hsr.1
  have hup : ∀ y, y ≠ r → upd h' r (.row cells s) y = h' y := fun y hy => upd_ne _ _ hy
  have hur : upd h' r (.row cells s) r = .row cells s := upd_same _ _ _
  refine ⟨Z, μ', g', .ret u, upd h' r (.row cells s), hk, ⟨x, hzu _ _ _ _ _ hxv, rfl⟩, ⟨fun y => ?_, fun y y' q q' hq hq' hne => ?_, fun b c hb => ?_, fun y q hq => ?_⟩, ⟨hext, T.size, fun b hb _ => hfr b hb, fun y q hq hlt => ?_, fun _ _ hb _ => .inl hb, T.env⟩⟩
  · by_cases e : y = r
    · subst e
      rw [hur]
      have := S.rows y
      rw [hr] at this
      exact this.mono hext fun q hq => by
        simp only [AObj.stamp, Option.some.injEq] at hq
        subst hq
        exact hfr _ hsr.2
    · rw [hup y e]
      have := Sx.rows y
      rcases hrz y with hy | ⟨cs, q, hy, hc⟩
      · rw [hy]; simp [ORel]
      · rw [hy] at this ⊢
        simp only [ORel] at this ⊢
        obtain ⟨h1, c', el, h2, h4, h5, h6⟩ := this
        exact ⟨h1, c', el, h2, h4, ZF.pre hc _ _ _ _ _ h5, h6⟩
  · by_cases e : y = r
    · subst e
      rw [hur] at hq
      simp only [AObj.stamp, Option.some.injEq] at hq
      subst hq
      rw [hup y' (fun e => hne e.symm)] at hq'
      have := hnew y' q' hq'
      rw [hloc]
      omega
    · rw [hup y e] at hq
      by_cases e' : y' = r
      · subst e'
        rw [hur] at hq'
        simp only [AObj.stamp, Option.some.injEq] at hq'
        subst hq'
        have := hnew y q hq
        rw [hloc]
        omega
      · rw [hup y' e'] at hq'
        exact Sx.inj y y' q q' hq hq' hne
  · obtain ⟨arr, elem, fr, h1, h2⟩ := S.imm b c hb
    exact ⟨arr, elem, fr, by rw [hfr b (S.imm_lt hb)]; exact h1, h2⟩
  · by_cases e : y = r
    · subst e
      rw [hur] at hq
      simp only [AObj.stamp, Option.some.injEq] at hq
      subst hq
      rw [hloc]
      exact S.sep y s (by rw [hr]; rfl)
    · rw [hup y e] at hq
      cases hZ : Z (μ' q).blk with
      | none => rfl
      | some c' =>
        have h1 := S.imm_lt hZ
        have h2 := hnew y q hq
        omega
  · by_cases e : y = r
    · subst e
      rw [hur] at hq
      simp only [AObj.stamp, Option.some.injEq] at hq
      subst hq
      exact ⟨y, s, by rw [hr]; rfl, by rw [hloc]⟩
    · rw [hup y e] at hq
      have := hnew y q hq
      omega
end Go.Cw
end

/- Short words for steps of small forms; how a function in the small form is told. -/
section
set_option linter.unusedVariables false
namespace Go.Cw
open Go

namespace Sh
@[simp] def M (d x : Nat) : Stp := S d (.mv (.t x))
@[simp] def MI (d : Nat) (n : Int) : Stp := S d (.mv (.c (.int .i64 n)))
@[simp] def X (d x n : Nat) : Stp := S d (.ext (.t x) n)
@[simp] def Ld (d : Nat) (b : Bool) (n x : Nat) : Stp := S d (.load b n (.t x))
@[simp] def Fa (d n x : Nat) : Stp := S d (.fAddr n (.t x))
@[simp] def Bn (d : Nat) (op : BinOp) (x y : Nat) : Stp := S d (.bin op (.t x) (.t y))
@[simp] def Bi (d : Nat) (op : BinOp) (x : Nat) (n : Int) : Stp := S d (.bin op (.t x) (.c (.int .i64 n)))
@[simp] def Po (d a b : Nat) : Stp := S d (.pick (.t a) (.c (.bool true)) (.t b))
@[simp] def Pa (d a b : Nat) : Stp := S d (.pick (.t a) (.t b) (.c (.bool false)))
@[simp] def Mg (d t : Nat) (b : Bool) (x : Nat) : Stp := SG d t b (.mv (.t x))
@[simp] def fc (f : FuncId) : Opd := .c (.func (.func f) [] [])
@[simp] def ci (n : Int) : Opd := .c (.int .i64 n)
end Sh
def Entr (P : Program) (f : FuncId) (n : Nat) (keep : List Nat) (ir : IR) (ret : (AEnd → Heap → Prop) → Post) : Prop :=
  ∀ {args : List AVal} {h : Heap} {K : AEnd → Heap → Prop} (F : Nat) (hl : args.length ≤ n) (a : AW ⟨P, F, n, false, keep⟩ ir (ret K) (initT args) [] h), ACalls P f args h K
def Pur (P : Program) (f : FuncId) (n : Nat) (keep : List Nat) (ir : IR) (ret : (AEnd → Heap → Prop) → Post) : Prop :=
  ∀ {args : List AVal} {v : AVal} (hl : args.length ≤ n) (a : AW ⟨P, 0, n, false, keep⟩ ir (ret fun e _ => e = .ret v) (initT args) [] nilH), APure P f args v
section
variable {P : Program} {f : FuncId} {fn : Func} {cfg : Cfg} {ir : IR} {rs : List RV} {n : Nat}
theorem Entr.of (hm : P.follows .mixedOrders = true) (hf : P.funcs[f]? = some fn) (hc : compF P cfg fn = some (ir, rs, n)) : Entr P f n cfg.keep ir (RetK rs) :=
  fun _ hl a => ACalls.of_comp hm hf hc hl a
theorem Entr.ofD (hm : P.follows .mixedOrders = true) (hf : P.funcs[f]? = some fn) (hc : compF P cfg fn = some (ir, rs, n)) : Entr P f n cfg.keep ir (RetD P rs) :=
  fun _ hl a => ACalls.of_comp_defer hm hf hc hl a
theorem Pur.of {keep : List Nat} {ret : (AEnd → Heap → Prop) → Post} (e : Entr P f n keep ir ret) : Pur P f n keep ir ret :=
  fun hl a => APure.of_nil (e 0 hl a)
end
end Go.Cw
end
