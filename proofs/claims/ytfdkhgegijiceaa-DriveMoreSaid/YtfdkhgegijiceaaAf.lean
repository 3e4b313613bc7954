/-
  The library's sort; rows that are out of sight: no program is named.
-/
import Derived.Test.YtfdkhgegijiceaaAd
import Derived.Shelf.Sort.Plain
set_option linter.unusedVariables false
set_option linter.unusedSimpArgs false
set_option linter.unusedSectionVars false

/- The library's sort of numbers, as a contract over a row. No program is named here. -/
section
namespace Go.Cw
open Go Go.Shelf Go.Sort

def sortI (l : List Int) : List Int := l.mergeSort fun x y => decide (x ≤ y)

theorem sortI_length (l : List Int) : (sortI l).length = l.length := by simp [sortI]
theorem sortI_perm (l : List Int) : (sortI l).Perm l := List.mergeSort_perm _ _

section
variable {Z : Snap} {μ : Mu} {h : Heap} {g : Nat} {w : World} {P : Program}

theorem VPre_ints {c : List Value} : ∀ {l : List Int} {k : Nat}, VPre Z μ g (ints l) (c.drop k) ↔ ∀ j, (hj : j < l.length) → c[k + j]? = some (.int .i64 l[j])
  | l, k => by
    rw [VPre_iff]
    constructor
    · intro hh j hj
      obtain ⟨v, hv, hr⟩ := hh j (.int .i64 l[j]) (by simp [ints, hj])
      simp only [VRel] at hr
      subst hr
      simpa using hv
    · intro hh j a ha
      simp only [ints, List.getElem?_map, Option.map_eq_some_iff] at ha
      obtain ⟨x, hx, rfl⟩ := ha
      obtain ⟨hj, rfl⟩ := List.getElem?_eq_some_iff.1 hx
      exact ⟨_, by simpa using hh j hj, by simp [VRel]⟩

/-- SORT. -/
theorem ACalls.sort {ρ : Ren} (Ly : Go.Proofs.Lays.n189 P ρ) (he : Enters P (ρ.f 189)) {r s : Nat} {cap : Cap} {l : List Int} (hl : l.length < 4611686018427387904) {K : AEnd → Heap → Prop} (k : K (.ret (.tup [])) (hpV [(r, .row (ints (sortI l)) s)])) :
    ACalls P (ρ.f 189) [.sl r 0 s l.length cap] (hpV [(r, .row (ints l) s)]) K := by
  refine ⟨he, fun Z μ g w cargs S hsz hv => ?_⟩
  obtain ⟨v, rfl⟩ : ∃ v, cargs = #[v] := by
    match cargs, hsz with
    | ⟨[v]⟩, _ => exact ⟨v, rfl⟩
  have hv0 := (VPre_cons.1 hv).1
  simp only [VRel] at hv0
  obtain ⟨hs, cap', rfl, _, _⟩ := hv0
  have hrow := S.rows r
  have hst : (hpV [(r, .row (ints l) s)]) r = .row (ints l) s := by simp
  rw [hst] at hrow
  simp only [ORel] at hrow
  obtain ⟨_, c, elem, hw, hcs, hpre, hone⟩ := hrow
  have hlt := (Array.getElem?_eq_some_iff.1 hw).1
  have hcell : ∀ j, (hj : j < l.length) → c[j]? = some (.int .i64 l[j]) := by
    intro j hj
    have := (VPre_ints (k := 0) (c := c.toList)).1 (by simpa using hpre) j hj
    simpa using this
  have hlen : l.length ≤ c.size := by
    have := hpre.len
    simpa using this
  have hH : Holds (Value.int .i64) w (μ s).blk 0 l.toArray := by
    intro j hj
    have hj' : j < l.length := by simpa using hj
    refine ⟨?_, ?_⟩
    · simp only [World.cell?, hw, Nat.zero_add]
      have e : l.toArray[j]! = l[j] := by simp [hj']
      rw [e]
      simpa using hcell j hj'
    · simp [World.frozen?, hw]
  refine Calls.mono' (Go.Proofs.Any.slices_Sort_int Ly (μ s).blk 0 cap' l w hH hlt hl) ?_
  rintro e w' ⟨rfl, n, os, rfl⟩
  have hps : (putRow (Value.int .i64) (Sort.ahead w n) (μ s).blk 0 (sortI l).toArray).heap.size = w.heap.size := by simp
  have hmod : ∀ b, b < w.heap.size → (grow (putRow (Value.int .i64) (Sort.ahead w n) (μ s).blk 0 (sortI l).toArray) os).heap[b]? = (w.heap.modify (μ s).blk (onCells (putCells (Value.int .i64) 0 (sortI l).toArray)))[b]? := by
    intro b hb
    rw [heap_grow_old _ _ (by rw [hps]; exact hb)]
    rfl
  obtain ⟨S', t'⟩ := S.put (μ' := μ) (g' := g) (o := .row (ints (sortI l)) s) (b₀ := (μ s).blk) (w' := grow (putRow (Value.int .i64) (Sort.ahead w n) (μ s).blk 0 (sortI l).toArray) os) r (Ext.refl _ _ _) rfl rfl
    (by rw [size_grow, hps]; omega)
    (fun b hb hne => by
      rw [hmod b hb, Array.getElem?_modify, if_neg (fun x => hne x.symm)])
    (.inr ⟨s, by rw [hst]; rfl, rfl⟩) (by
      simp only [ORel]
      refine ⟨hs, putCells (Value.int .i64) 0 (sortI l).toArray c, elem, ?_, ?_, ?_, ?_⟩
      · rw [hmod _ hlt, Array.getElem?_modify, if_pos rfl, hw]; rfl
      · simp [putCells, hcs]
      · have := (VPre_ints (Z := Z) (μ := μ) (g := g) (k := 0) (l := sortI l) (c := (putCells (Value.int .i64) 0 (sortI l).toArray c).toList)).2 (by
          intro j hj
          have hj' : j < l.length := by rwa [sortI_length] at hj
          have hjc : j < c.size := by omega
          have hj2 : j < (sortI l).toArray.size := by simpa using hj
          simp [putCells, hjc, hj])
        simpa using this
      · intro v hv
        rw [List.mem_iff_getElem?] at hv
        obtain ⟨j, hj⟩ := hv
        rw [List.getElem?_take] at hj
        split at hj
        · rename_i hjl
          have hj1 : j < (sortI l).length := by simpa using hjl
          have hj' : j < l.length := by rwa [sortI_length] at hj1
          have hjc : j < c.size := by omega
          simp [putCells, hjc, hj1] at hj
          subst hj
          rfl
        · cases hj)
  refine ⟨Z, μ, g, .ret (.tup []), _, k, ⟨.tuple #[], by simp only [VRel]; exact ⟨#[], rfl, rfl, VPre_nil _⟩, rfl⟩, ?_, ?_⟩
  · have : upd (hpV [(r, .row (ints l) s)]) r (.row (ints (sortI l)) s) = hpV [(r, .row (ints (sortI l)) s)] := by
      simp [hpV, upd_upd]
    rw [← this]; exact S'
  · have : upd (hpV [(r, .row (ints l) s)]) r (.row (ints (sortI l)) s) = hpV [(r, .row (ints (sortI l)) s)] := by
      simp [hpV, upd_upd]
    rw [← this]; exact t'
end

/-! ## A method of a value in an interface -/

/-- The type's method is this function, and takes the value as it is. -/
structure MethAt (P : Program) (T : TypeId) (nm : String) (F : FuncId) : Prop where
  h : ∀ (recv : Value) (w : World), (Go.method (P.types.size + Made.depth) T recv nm).run P w = .ok (F, recv) w

theorem AInvoke.meth {P : Program} {T : TypeId} {nm : String} {F : FuncId} (m : MethAt P T nm F) {v : AVal} {args : List AVal} {h : Heap} {K : AEnd → Heap → Prop} (a : ACalls P F (v :: args) h K) : AInvoke P (.func (.method nm) [.iface T v] []) args h K := by
  intro Z μ g w u cargs S hv hl ha
  simp only [VRel] at hv
  obtain ⟨_, f', c', rfl, h1, h2, h3, h4⟩ := hv
  obtain ⟨x, rfl⟩ : ∃ x, f' = #[x] := by
    match f', h1 with
    | ⟨[x]⟩, _ => exact ⟨x, rfl⟩
  have hx := (VPre_cons.1 h3).1
  simp only [VRel] at hx
  obtain ⟨y, rfl, hy⟩ := hx
  have e0 : (#[Value.iface T y] ++ cargs)[0]? = some (.iface T y) := by
    rw [Array.getElem?_append_left (by simp)]; rfl
  have e1 : (#[Value.iface T y] ++ cargs).extract 1 (#[Value.iface T y] ++ cargs).size = cargs := by
    simp
  have hrun : (do let d ← Deferred.ofValue (.func (.method nm) #[.iface T y] c') cargs; invoke d.target d.args : Sem Next).run P w = .ok (.enter F (#[y] ++ cargs)) w := by
    simp only [Deferred.ofValue, Sem.run_bind, Sem.run_pure, Result.andThen_ok, invoke, e0, e1, callMethod, run_program, m.h]
    exact Calls.enters a.1 _ w
  rw [hrun]
  refine ⟨rfl, a.2 Z μ g w _ S ?_ ?_⟩
  · simp [hl]; omega
  · rw [Array.toList_append]
    exact VPre_cons.2 ⟨hy, ha⟩

end Go.Cw
end

/- Rows that are out of sight: a caller's, that a function that is called keeps, or has turned by what it calls. No program is named here. -/
section
namespace Go.Cw
open Go

/-- Rows with the same names, each below B, none twice. -/
structure RowsB {τ : Type} (row : τ → List (Nat × AObj)) (B : Nat) : Prop where
  names : ∀ t t', (row t).map Prod.fst = (row t').map Prod.fst
  lt : ∀ t, ∀ x ∈ (row t).map Prod.fst, x < B
  nd : ∀ t, ((row t).map Prod.fst).Nodup

theorem hw_append {h : Heap} : ∀ {a b : List (Nat × AObj)}, Hw (a ++ b) h ↔ Hw a h ∧ Hw b h
  | [], b => by simp
  | (r, o) :: a, b => by
    simp only [List.cons_append, Hw_cons, hw_append, and_assoc]

theorem hw_upd {h : Heap} {x : Nat} {o : AObj} : ∀ {l : List (Nat × AObj)}, x ∉ l.map Prod.fst → (Hw l (upd h x o) ↔ Hw l h)
  | [], _ => by simp
  | (r, o') :: l, hn => by
    simp only [List.map_cons, List.mem_cons, not_or] at hn
    simp only [Hw_cons]
    rw [upd_ne _ _ (fun e => hn.1 e.symm), hw_upd hn.2]

theorem hw_updL {h : Heap} : ∀ {l : List (Nat × AObj)}, (l.map Prod.fst).Nodup → Hw l (updL h l)
  | [], _ => trivial
  | (r, o) :: l, hn => by
    simp only [List.map_cons, List.nodup_cons] at hn
    refine ⟨by simp [upd_same], ?_⟩
    rw [updL_cons, hw_upd hn.1]
    exact hw_updL hn.2

theorem hw_hpV : ∀ {l : List (Nat × AObj)}, (l.map Prod.fst).Nodup → Hw l (hpV l)
  | [], _ => trivial
  | (r, o) :: l, hn => by
    simp only [List.map_cons, List.nodup_cons] at hn
    refine ⟨by simp [upd_same], ?_⟩
    rw [hpV_cons, hw_upd hn.1]
    exact hw_hpV hn.2

namespace RowsB
variable {τ : Type} {row : τ → List (Nat × AObj)} {B : Nat} (hb : RowsB row B)
include hb
theorem out {x : Nat} (hx : B ≤ x) (t : τ) : x ∉ (row t).map Prod.fst := fun hm => by have := hb.lt t x hm; omega
theorem hpV {x : Nat} (hx : B ≤ x) (t : τ) : hpV (row t) x = .dead := hpV_none (hb.out hx t)
theorem updL {x : Nat} (hx : B ≤ x) (t : τ) (h : Heap) : updL h (row t) x = h x := updL_none (hb.out hx t)
theorem upd {x : Nat} (hx : B ≤ x) (t : τ) (h : Heap) (o : AObj) : Hw (row t) (upd h x o) = Hw (row t) h := propext (hw_upd (hb.out hx t))
theorem self (t : τ) : Hw (row t) (Cw.hpV (row t)) = True := eq_true (hw_hpV (hb.nd t))
theorem updL_self (t : τ) (h : Heap) : Hw (row t) (Cw.updL h (row t)) = True := eq_true (hw_updL (hb.nd t))
theorem hn (t t' : τ) : (row t').map Prod.fst = (row t).map Prod.fst := hb.names _ _
end RowsB

/-! ## A range over a function, in use -/

theorem RF.intro {E : Env} {ps : List Nat} {A B : Post → KT} {Q : Post} {tm : TM} {df : DF} {h : Heap} {f : FuncId} {first cap : List AVal} (rl rd : Nat) (hi : E.inr = false) (hne : rl ≠ rd) (hl : h rl = .dead) (hd : h rd = .dead)
    (k : ∀ (sl sd : Nat) (L : Jm → AObj) (Lb : AObj),
      (∀ args h' K, args.length = ps.length → h' rl = L .go → A (RdA B rl (L .go) Lb (RdB rl L Lb K)) (putL tm ps args) [] h' → AInvoke E.P (.yield rl sl) args h' K) →
      ACalls E.P f (first ++ [.yield rl sl] ++ cap) (upd (upd h rd (.dfr false sd)) rl (L .go)) (RFK E.keep Q tm ((.yield rd sd, []) :: df) rl L)) : RF E (.func (.func f) first cap) ps A B Q tm df h :=
  ⟨hi, f, first, cap, rfl, rl, rd, hne, hl, hd, k⟩

theorem ACalls.rowLe {P : Program} {f : FuncId} {args : List AVal} {h : Heap} {K : AEnd → Heap → Prop} (r : Nat) {s : Nat} {cells : List AVal} (cells' : List AVal) (hr : h r = .row cells s) (hc : ALeL cells cells') (a : ACalls P f args (upd h r (.row cells' s)) K) : ACalls P f args h K :=
  ⟨a.1, fun Z μ g w cargs S hl hv => Calls.mono' (a.2 Z μ g w cargs (S.rowLe hr hc) hl hv) fun _ _ o => o.pre (Tr.rowLe hr)⟩

theorem AInvoke.wk {P : Program} {fv : AVal} {args : List AVal} {h : Heap} {K : AEnd → Heap → Prop} (a : AInvoke P fv args h fun e => Wk (K e)) : AInvoke P fv args h K :=
  fun Z μ g w v cargs S hv hl ha => (a Z μ g w v cargs S hv hl ha).mono fun _ _ o => o.wk

theorem Wk.view {X : Heap → Prop} {h : Heap} (l : List (Nat × AObj)) (hw : Hw l h) (k : X (hpV l)) : Wk X h := ⟨_, HLe.view hw, k⟩

/-- A call of what only computes, with two rows that are never written again. -/
theorem FCall.frz2 {E : Env} {fv v : AVal} {args : List AVal} {fa fl : List It} {d : Option Nat} {K : KT} {Q : Post} {tm : TM} {df : DF} {h : Heap} {cells cells' : List AVal} {s s' : Nat} (r r' : Nat) (hr : h r = .row cells s) (hr' : h r' = .row cells' s') (hne : r ≠ r')
    (p : PInv E.P (frz r' s' cells' (frz r s cells fv)) (frzL r' s' cells' (frzL r s cells args)) v) (f : FaOk E.F fa tm h)
    (k : FlOk fl (putD tm d v) (upd (upd h r' .dead) r .dead) ∧ K (putD tm d v) df (upd (upd h r' .dead) r .dead)) : FCall E fv args fa fl d K Q tm df h := by
  refine FCall.view [(r, .row cells s), (r', .row cells' s')] (X := fun v' hs' => v' = v ∧ hs' = [(r, .dead), (r', .dead)]) ?_ ⟨hr, hr', trivial⟩ f ?_
  · refine AInvoke.frz (cells := cells) (s := s) r (upd_same _ _ _) ?_
    refine AInvoke.frz (cells := cells') (s := s') r' (by rw [upd_ne _ _ (Ne.symm hne), hpV_cons, upd_ne _ _ (Ne.symm hne), hpV_cons, upd_same]) ?_
    refine AInvoke.mono (p _) ?_
    rintro e h' ⟨rfl, rfl⟩
    refine ⟨v, [(r, .dead), (r', .dead)], rfl, ?_, rfl, rfl, rfl⟩
    funext x
    simp only [hpV, upd]
    repeat' split
    all_goals rfl
  · rintro v' hs' ⟨rfl, rfl⟩
    exact k

@[simp] theorem acells_gS (esz r n s : Nat) : acells (gS esz r n s) = [gS esz r n s] := by
  cases n <;> rfl

section
variable (P : Program) (rs : List RV) (K : AEnd → Heap → Prop) (tm : TM) (df : DF) (h : Heap) (r s : Nat) (l : List AVal)
@[simp] theorem RetD_mark_normal : RetD P rs K .normal tm ((.yield r s, l) :: df) h = (h r = .dfr false s ∧ RetD P rs K .normal tm df (upd h r .dead)) := (rfl)
@[simp] theorem RetD_mark_ret : RetD P rs K .ret tm ((.yield r s, l) :: df) h = (h r = .dfr false s ∧ RetD P rs K .ret tm df (upd h r .dead)) := (rfl)
@[simp] theorem RetD_mark_panic (v : AVal) : RetD P rs K (.panic v) tm ((.yield r s, l) :: df) h = (h r = .dfr false s ∧ RetD P rs K (.panic v) tm df (upd h r .dead)) := (rfl)
end

end Go.Cw
end
