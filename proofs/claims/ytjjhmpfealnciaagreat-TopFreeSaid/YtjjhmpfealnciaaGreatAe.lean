/-
  From contracts to a given statement: no program is named here.
-/
import Derived.Test.YtjjhmpfealnciaaGreatAd
import Derived.ReadAgain
import Derived.ProofKit
import Derived.OpenShut
import Derived.RowKit3
set_option linter.unusedVariables false
set_option linter.unusedSimpArgs false
set_option linter.unusedSectionVars false

/- From what a function computes of abstract values to a given statement: arguments that are read as data are values that nobody writes, and behind the call they read as before. No program is named here. -/
section
namespace Go.Cw
open Go Go.ChangeShapes Go.WideShapes

def Zof (w : World) : Snap := fun b => match w.heap[b]? with
  | some (.cells arr _ _) => some arr.toList
  | _ => none

theorem Zof_cells {w : World} {b : Nat} {arr : Array Value} {t : TypeId} {fr : Nat × Nat} (h : w.heap[b]? = some (.cells arr t fr)) : Zof w b = some arr.toList := by simp [Zof, h]

theorem Sim.all (w : World) (μ : Mu) : Sim (Zof w) μ nilH 0 w := by
  refine ⟨fun r => by simp [nilH, ORel], fun r r' s s' h => by simp [nilH, AObj.stamp] at h, fun b c h => ?_, fun r s h => by simp [nilH, AObj.stamp] at h⟩
  unfold Zof at h
  split at h
  · rename_i arr t fr hb
    simp only [Option.some.injEq] at h
    exact ⟨arr, t, fr, hb, h⟩
  · cases h

structure Stays (w w' : World) : Prop where
  os : w'.os = w.os
  output : w'.output = w.output
  old : ∀ b, b < w.heap.size → w'.heap[b]? = w.heap[b]?

theorem Tr.stays {Z Z' : Snap} {μ μ' : Mu} {g g' : Nat} {h' : Heap} {w w' : World} (T : Tr Z μ nilH g w Z' μ' h' g' w') : Stays w w' :=
  ⟨T.env.1, T.env.2, fun b hb => T.frame b hb fun r s h => by simp [nilH, AObj.stamp] at h⟩

theorem APure.calls {P : Program} {f : FuncId} {args : List AVal} {b : Bool} (a : APure P f args (.bool b)) {μ : Mu} {w : World} {cargs : Array Value} (hl : cargs.size = args.length) (hv : VPre (Zof w) μ 0 args cargs.toList) :
    Calls P f cargs w fun e w' => e = .returned (.bool b) ∧ Stays w w' := by
  refine Calls.mono' ((a nilH).2 (Zof w) μ 0 w cargs (Sim.all w μ) hl hv) ?_
  rintro e w' ⟨Z', μ', g', ae, h', ⟨rfl, rfl⟩, hr, _, T⟩
  simp only [EndRel, VRel] at hr
  obtain ⟨v, rfl, rfl⟩ := hr
  exact ⟨rfl, T.stays⟩

theorem Stays.keptBut {w w' : World} (h : Stays w w') (may : MemPlace → Prop) : w.keptBut w' may := by
  refine ⟨h.os, h.output, fun i hi => ?_⟩
  rw [h.old i hi]
  split
  · rename_i h1 h2
    simp only [h1, Option.some.injEq, Obj.cells.injEq] at h2
    obtain ⟨rfl, rfl, rfl⟩ := h2
    exact ⟨rfl, rfl, rfl, fun _ _ => rfl⟩
  · rename_i h1 h2
    simp only [h1, Option.some.injEq, Obj.map.injEq] at h2
    obtain ⟨rfl, rfl⟩ := h2
    exact .inr ⟨rfl, rfl⟩
  · rfl

theorem Stays.sameAt {w w' : World} (h : Stays w w') {p : MemPlace} (hp : p.block < w.heap.size) : w.sameAt w' p := by
  cases p with
  | cell b off =>
    simp only [World.sameAt, World.cell?]
    rw [h.old b hp]
  | map b => exact h.old b hp

section
variable {H : Type} {enc : TypeId × Value → H} {P : Program} {w w' : World} {T : TypeId → Prop}

theorem DataW.Trod.stays {base : Nat} {sp : Nat → Bool} {held : Bool} {t : TypeId} {v : Value} {d : DataW H} {ps : List MemPlace} (hs : ∀ p ∈ ps, w.sameAt w' p) (h : DataW.Trod enc P w base sp held t v d ps) : DataW.Trod enc P w' base sp held t v d ps := by
  obtain ⟨n, hn⟩ := h
  exact ⟨n, DataW.trod_carry n _ _ _ hn hs⟩

theorem DataW.TrodAll.stays {base : Nat} {sp : Nat → Bool} {held : Bool} : ∀ {ts : List TypeId} {vs : List Value} {ds : List (DataW H)} {ps : List MemPlace}, (∀ p ∈ ps, w.sameAt w' p) → DataW.TrodAll enc P w base sp held ts vs ds ps → DataW.TrodAll enc P w' base sp held ts vs ds ps
  | [], [], [], _, _, h => h
  | _ :: _, _ :: _, _ :: _, _, hs, ⟨p, q, h1, h2, e⟩ => ⟨p, q, DataW.Trod.stays (fun x hx => hs x (by rw [e]; exact List.mem_append_left _ hx)) h1, DataW.TrodAll.stays (fun x hx => hs x (by rw [e]; exact List.mem_append_right _ hx)) h2, e⟩

theorem law_post {f : Func} {s : ChangeSpec} {fresh handsOn : Bool} {args : Array Value} {ds : List (DataW H)} {before : List MemPlace} {tb : TypeId} (K : Kids P T) (hz : ∀ t e, T t → P.underlying t = some (.slice e) → 0 < P.cellsOf e) (hT : ∀ t ∈ f.params.toList, T t)
    (hS : Stays w w') (hvars : s.vars = []) (hres : f.resultTypes = #[tb]) (hb : P.underlying tb = some .bool) (hfn : s.fn H ds = { results := [.lit (.bool true)], args := ds })
    (hW : DataW.Whole enc P f.params.toList s.vars false w args.toList ds [] before) : s.post enc P f false fresh handsOn false w args (.bool true) w' := by
  have hW' := hW
  obtain ⟨p, q, hA, hV, hpq, hfz, hnd⟩ := hW
  rw [hvars] at hV
  obtain ⟨_, rfl⟩ := trodVars_none hV
  obtain rfl : before = p := by simpa using hpq
  have hlt := hW'.lt
  have hsame : ∀ x ∈ before, w.sameAt w' x := fun x hx => hS.sameAt (hlt x hx)
  have hA' : DataW.TrodAll enc P w' 0 (fun _ => true) true f.params.toList args.toList ds before := DataW.TrodAll.stays hsame hA
  refine ⟨ds, [], before, [], before, [], hW', ?_, ?_, ?_, hS.keptBut _, fun h => by cases h⟩
  · rw [List.append_nil, hfn, hres]
    refine ⟨[], [], ⟨1, ?_⟩, rfl, rfl⟩
    simp [DataW.trod, hb, Value.cells]
  · rw [List.append_nil, hfn]
    exact DataW.TrodAll.respare K hz hT hA' fun x hx => by simpa using hlt x hx
  · rw [hvars, List.append_nil, hfn]
    rfl
end

def Opens (P : Program) (w : World) (μ : Mu) (t : TypeId) (V : List AVal → Prop) : Prop :=
  ∀ (H : Type) (enc : TypeId × Value → H) (sp : Nat → Bool) (held : Bool) (fuel : Nat) (cs : List Value) (x : DataW H × List MemPlace), DataW.trod enc P w 0 sp held fuel t cs = some x →
    ∃ av, V av ∧ av.length = P.cellsOf t ∧ cs.length = P.cellsOf t ∧ VPre (Zof w) μ 0 av cs ∧ One cs

section
variable {P : Program} {w : World} {μ : Mu} {t e : TypeId} {V V' : List AVal → Prop}

theorem Opens.mono (h : Opens P w μ t V) (k : ∀ av, V av → V' av) : Opens P w μ t V' := by
  intro H enc sp held fuel cs x hx
  obtain ⟨av, h1, h2⟩ := h H enc sp held fuel cs x hx
  exact ⟨av, k av h1, h2⟩

theorem Opens.int {k : IntKind} (ht : P.underlying t = some (.int k)) (hc : P.cellsOf t = 1) : Opens P w μ t fun av => ∃ n, (Lit.int k n).wf = true ∧ av = [.int k n] := by
  intro H enc sp held fuel cs x hx
  obtain ⟨n, rfl, _, hw⟩ := DataW.trod_int ht hx
  exact ⟨[.int k n], ⟨n, hw, rfl⟩, by simp [hc], by simp [hc], by simp [VPre, VRel], by intro v hv; simp at hv; subst hv; rfl⟩

theorem Opens.bool (ht : P.underlying t = some .bool) (hc : P.cellsOf t = 1) : Opens P w μ t fun av => ∃ b, av = [.bool b] := by
  intro H enc sp held fuel cs x hx
  cases fuel with
  | zero => simp [DataW.trod] at hx
  | succ n =>
    unfold DataW.trod at hx
    rw [ht] at hx
    split at hx <;> first | (cases hx; done) | (rename_i h1; cases h1; done) | skip
    rename_i b _
    exact ⟨[.bool b], ⟨b, rfl⟩, by simp [hc], by simp [hc], by simp [VPre, VRel], by intro v hv; simp at hv; subst hv; rfl⟩

theorem Opens.string (ht : P.underlying t = some .string) (hc : P.cellsOf t = 1) : Opens P w μ t fun av => ∃ s : List UInt8, s.length ≤ maxLen ∧ av = [.str s] := by
  intro H enc sp held fuel cs x hx
  cases fuel with
  | zero => simp [DataW.trod] at hx
  | succ n =>
    unfold DataW.trod at hx
    rw [ht] at hx
    split at hx <;> simp_all
    rename_i s
    obtain ⟨hs, _⟩ := hx
    exact ⟨[.str s.data.toList], ⟨s.data.toList, by simpa using hs, rfl⟩, rfl, by simp [VPre, VRel], by intro v hv; simp at hv; subst hv; rfl⟩

def All2 : List (List AVal → Prop) → List (List AVal) → Prop
  | [], [] => True
  | V :: Vs, a :: av => V a ∧ All2 Vs av
  | _, _ => False

@[simp] theorem All2_nil (av : List (List AVal)) : All2 [] av ↔ av = [] := by cases av <;> simp [All2]
@[simp] theorem All2_cons (V : List AVal → Prop) (Vs : List (List AVal → Prop)) (av : List (List AVal)) : All2 (V :: Vs) av ↔ ∃ a r, av = a :: r ∧ V a ∧ All2 Vs r := by
  cases av with
  | nil => simp [All2]
  | cons a r =>
    show V a ∧ All2 Vs r ↔ _
    constructor
    · rintro ⟨h1, h2⟩; exact ⟨a, r, rfl, h1, h2⟩
    · rintro ⟨a', r', h, h1, h2⟩; cases h; exact ⟨h1, h2⟩

theorem All2.two {V W : List AVal → Prop} {l : List (List AVal)} (h : All2 [V, W] l) : ∃ a b, l = [a, b] ∧ V a ∧ W b := by
  obtain ⟨a, r, rfl, h1, h⟩ := (All2_cons _ _ _).1 h
  obtain ⟨b, r, rfl, h2, h⟩ := (All2_cons _ _ _).1 h
  obtain rfl := (All2_nil _).1 h
  exact ⟨a, b, rfl, h1, h2⟩
def OpensL (P : Program) (w : World) (μ : Mu) : List Field → List (List AVal → Prop) → Nat → Prop
  | [], [], _ => True
  | f :: fs, V :: Vs, off => f.offset = off ∧ Opens P w μ f.type V ∧ OpensL P w μ fs Vs (off + P.cellsOf f.type)
  | _, _, _ => False

theorem One.split {l : List Value} {k : Nat} (h : One (l.take k)) (h' : One (l.drop k)) : One l := by
  rw [← List.take_append_drop k l]; exact h.append h'

theorem opens_fields {H : Type} {enc : TypeId × Value → H} {sp : Nat → Bool} {held : Bool} {n : Nat} {cs : List Value} : ∀ {fs : List Field} {Vs : List (List AVal → Prop)} {off : Nat}, OpensL P w μ fs Vs off →
    (∀ (i : Nat) (f : Field), fs[i]? = some f → ∃ y, DataW.trod enc P w 0 sp held n f.type ((cs.drop f.offset).take (P.cellsOf f.type)) = some y) → cs.length = off + (fs.map fun f => P.cellsOf f.type).sum →
    ∃ ass, All2 Vs ass ∧ ass.flatten.length = (fs.map fun f => P.cellsOf f.type).sum ∧ VPre (Zof w) μ 0 ass.flatten (cs.drop off) ∧ One (cs.drop off)
  | [], [], off, _, _, hl => ⟨[], by simp, by simp, by simp [VPre], by
      simp only [List.map_nil, List.sum_nil, Nat.add_zero] at hl
      rw [List.drop_of_length_le (by omega)]
      intro v hv; cases hv⟩
  | [], _ :: _, _, h, _, _ => h.elim
  | _ :: _, [], _, h, _, _ => h.elim
  | f :: fs, V :: Vs, off, h, hx, hl => by
    obtain ⟨rfl, ho, hr⟩ := h
    simp only [List.map_cons, List.sum_cons] at hl
    obtain ⟨y, hy⟩ := hx 0 f rfl
    obtain ⟨av, h1, h2, h3, h4, h5⟩ := ho H enc sp held n _ y hy
    obtain ⟨ass, k1, k2, k3, k4⟩ := opens_fields hr (fun i f' hi => hx (i + 1) f' (by simpa using hi)) (by omega)
    have hd : cs.drop (f.offset + P.cellsOf f.type) = (cs.drop f.offset).drop (P.cellsOf f.type) := by rw [List.drop_drop]
    rw [hd] at k3 k4
    refine ⟨av :: ass, ⟨h1, k1⟩, by simp only [List.flatten_cons, List.length_append, List.map_cons, List.sum_cons, h2, k2], ?_, One.split h5 k4⟩
    rw [List.flatten_cons, ← List.take_append_drop (P.cellsOf f.type) (cs.drop f.offset)]
    exact h4.append (by rw [h3, h2]) k3

theorem Opens.struct {fs : Array Field} {Vs : List (List AVal → Prop)} (ht : P.underlying t = some (.struct fs)) (hc : P.cellsOf t = (fs.toList.map fun f => P.cellsOf f.type).sum) (h : OpensL P w μ fs.toList Vs 0) :
    Opens P w μ t fun av => ∃ ass, All2 Vs ass ∧ av = ass.flatten := by
  intro H enc sp held fuel cs x hx
  obtain ⟨xs, n, _, _, hl, hlen, hf⟩ := DataW.trod_struct ht hx
  obtain ⟨ass, h1, h2, h3, h4⟩ := opens_fields (enc := enc) (sp := sp) (held := held) (n := n) (cs := cs) h (fun i f hi => by
    have hi' : fs[i]? = some f := by simpa using hi
    have hlt : i < xs.length := by rw [hlen]; exact (Array.getElem?_eq_some_iff.1 hi').1
    exact ⟨xs[i], by rw [hf i f hi']; exact List.getElem?_eq_getElem hlt⟩) (by rw [hl, hc]; simp)
  exact ⟨ass.flatten, ⟨ass, h1, rfl⟩, by rw [h2, hc], hl, by simpa using h3, by simpa using h4⟩

theorem opens_elems {H : Type} {enc : TypeId × Value → H} {sp : Nat → Bool} {held : Bool} {n k : Nat} {cs : List Value} (ho : Opens P w μ e V) : ∀ (m : Nat),
    (∀ i, i < m → ∃ y, DataW.trod enc P w 0 sp held n e ((cs.drop (k + i * P.cellsOf e)).take (P.cellsOf e)) = some y) →
    ∃ ass : List (List AVal), ass.length = m ∧ (∀ a ∈ ass, V a) ∧ ass.flatten.length = m * P.cellsOf e ∧ VPre (Zof w) μ 0 ass.flatten (cs.drop k) ∧ One ((cs.drop k).take (m * P.cellsOf e))
  | 0, _ => ⟨[], rfl, by simp, by simp, by simp [VPre], by intro v hv; simp at hv⟩
  | m + 1, hx => by
    obtain ⟨ass, h1, h2, h3, h4, h5⟩ := opens_elems ho m fun i hi => hx i (by omega)
    obtain ⟨y, hy⟩ := hx m (by omega)
    obtain ⟨av, k1, k2, k3, k4, k5⟩ := ho H enc sp held n _ y hy
    have hlen : k + m * P.cellsOf e + P.cellsOf e ≤ cs.length ∨ P.cellsOf e = 0 := by
      simp only [List.length_take, List.length_drop] at k3
      omega
    have hm : (m + 1) * P.cellsOf e = m * P.cellsOf e + P.cellsOf e := by rw [Nat.add_mul, Nat.one_mul]
    have e1 : (cs.drop k).take ((m + 1) * P.cellsOf e) = (cs.drop k).take (m * P.cellsOf e) ++ ((cs.drop (k + m * P.cellsOf e)).take (P.cellsOf e)) := by
      rw [hm, List.take_add, List.drop_drop]
    refine ⟨ass ++ [av], by simp [h1], by simpa [or_imp, forall_and] using ⟨h2, k1⟩, by simp only [List.flatten_append, List.length_append, h3, List.flatten_cons, List.flatten_nil, List.append_nil, k2, hm], ?_, ?_⟩
    · have e2 : cs.drop k = ((cs.drop k).take (m * P.cellsOf e)) ++ (((cs.drop (k + m * P.cellsOf e)).take (P.cellsOf e)) ++ cs.drop (k + (m + 1) * P.cellsOf e)) := by
        rw [← List.append_assoc, ← e1, ← List.drop_drop (i := (m + 1) * P.cellsOf e) (j := k)]
        exact (List.take_append_drop _ _).symm
      rw [e2, List.flatten_append]
      refine VPre.append ?_ ?_ ?_
      · have := h4.take (m * P.cellsOf e)
        rwa [List.take_of_length_le (by omega)] at this
      · simp only [List.length_take, List.length_drop, h3]
        rcases hlen with hl | hl
        · omega
        · rw [hl]; omega
      · simp only [List.flatten_cons, List.flatten_nil, List.append_nil]
        exact k4.more _
    · rw [e1]
      exact h5.append k5

theorem Opens.array {n : Nat} (ht : P.underlying t = some (.array n e)) (hc : P.cellsOf t = n * P.cellsOf e) (h : Opens P w μ e V) : Opens P w μ t fun av => ∃ ass : List (List AVal), ass.length = n ∧ (∀ a ∈ ass, V a) ∧ av = ass.flatten := by
  intro H enc sp held fuel cs x hx
  obtain ⟨xs, m, _, _, hl, hlen, hf⟩ := DataW.trod_array ht hx
  obtain ⟨ass, h1, h2, h3, h4, h5⟩ := opens_elems (k := 0) h n fun i hi => ⟨xs[i]'(by omega), by rw [Nat.zero_add, hf i hi]; exact List.getElem?_eq_getElem _⟩
  refine ⟨ass.flatten, ⟨ass, h1, h2, rfl⟩, by rw [h3, hc], hl, by simpa using h4, ?_⟩
  rw [List.drop_zero, List.take_of_length_le (by rw [hl, hc]; exact Nat.le_refl _)] at h5
  exact h5

theorem cells?_drop {b off k m : Nat} {arr : Array Value} {te : TypeId} {fr : Nat × Nat} {cs : List Value} (hb : w.heap[b]? = some (.cells arr te fr)) (h : w.cells? 0 ((⟨b, off, none⟩ : Addr).add k) m = some cs) : cs = (arr.toList.drop (off + k)).take m := by
  rw [add_plain] at h
  unfold World.cells? at h
  rw [if_pos (Nat.zero_le _)] at h
  have hl : cs.length = m := by simpa using mapM_some_length h
  apply List.ext_getElem?
  intro i
  by_cases hi : i < m
  · have h1 := mapM_some_get h i i (by simp [hi])
    have h2 : w.cell? ((⟨b, off + k, none⟩ : Addr).add i) = arr[off + k + i]? := by
      rw [add_plain]; simp [World.cell?, hb]
    rw [h2] at h1
    rw [List.getElem?_take, if_pos hi, List.getElem?_drop, ← h1]
    simp
  · rw [List.getElem?_eq_none (by omega), List.getElem?_take, if_neg hi]

theorem Opens.slice (ht : P.underlying t = some (.slice e)) (hc : P.cellsOf t = 1) (hp : 0 < P.cellsOf e) (h : Opens P w μ e V) : Opens P w μ t fun av => ∃ ass : List (List AVal), ass.length ≤ maxLen ∧ (∀ a ∈ ass, V a) ∧ av = [.vl ass.length ass.flatten] := by
  intro H enc sp held fuel cs x hx
  rcases DataW.trod_slice ht hx with ⟨rfl, _⟩ | ⟨a, len, cap, elems, rest, n, _, rfl, _, _, hle, hmax, hel, hread, _, _⟩
  · refine ⟨[.vl 0 []], ⟨[], by simp, by simp, rfl⟩, by simp [hc], by simp [hc], ?_, by intro v hv; simp at hv; subst hv; rfl⟩
    simp only [VPre, VRel, and_true]
    exact ⟨none, 0, rfl, Nat.le_refl _, by simp⟩
  · cases len with
    | zero =>
      refine ⟨[.vl 0 []], ⟨[], by simp, by simp, rfl⟩, by simp [hc], by simp [hc], ?_, by intro v hv; simp at hv; subst hv; rfl⟩
      simp only [VPre, VRel, and_true]
      exact ⟨some a, cap, rfl, hle, by simp⟩
    | succ len =>
      have hall : ∀ i, i < len + 1 → ∃ y, (w.cells? 0 (a.add (i * P.cellsOf e)) (P.cellsOf e)).bind (DataW.trod enc P w 0 sp held n e) = some y := fun i hi =>
        ⟨elems[i]'(by omega), by rw [hread i hi]; exact List.getElem?_eq_getElem _⟩
      obtain ⟨y0, hy0⟩ := hall 0 (by omega)
      rw [Option.bind_eq_some_iff] at hy0
      obtain ⟨c0, hc0, _⟩ := hy0
      have hcell : ∃ v, w.cell? a = some v := by
        unfold World.cells? at hc0
        rw [if_pos (Nat.zero_le _)] at hc0
        have hl0 : c0.length = P.cellsOf e := by simpa using mapM_some_length hc0
        have := mapM_some_get hc0 0 0 (by simp [hp])
        rw [List.getElem?_eq_getElem (by omega)] at this
        exact ⟨_, by simpa [Addr.add] using this⟩
      obtain ⟨v0, hv0⟩ := hcell
      have hspot := World.cell?_spot hv0
      obtain ⟨b, off, spot⟩ := a
      simp only at hspot
      subst hspot
      have hblk : ∃ arr te fr, w.heap[b]? = some (.cells arr te fr) := by
        unfold World.cell? at hv0
        split at hv0
        · rename_i c1 _ _ hb; exact ⟨_, _, _, hb⟩
        · cases hv0
      obtain ⟨arr, te, fr, hb⟩ := hblk
      obtain ⟨ass, h1, h2, h3, h4, h5⟩ := opens_elems (cs := arr.toList) (k := off) (n := n) (enc := enc) (sp := sp) (held := held) h (len + 1) fun i hi => by
        obtain ⟨y, hy⟩ := hall i hi
        rw [Option.bind_eq_some_iff] at hy
        obtain ⟨ci, hci, hy⟩ := hy
        rw [cells?_drop hb hci] at hy
        exact ⟨y, hy⟩
      refine ⟨[.vl ass.length ass.flatten], ⟨ass, by omega, h2, rfl⟩, by simp [hc], by simp [hc], ?_, by intro v hv; simp at hv; subst hv; rfl⟩
      simp only [VPre, VRel, and_true]
      refine ⟨some ⟨b, off, none⟩, cap, by rw [h1], by omega, .inr ⟨b, off, arr.toList, rfl, Zof_cells hb, h4, ?_⟩⟩
      rw [h3]; exact h5

theorem Opens.arg {H : Type} {enc : TypeId × Value → H} {sp : Nat → Bool} {held : Bool} {v : Value} {d : DataW H} {ps : List MemPlace} (h : Opens P w μ t V) (hc : P.cellsOf t = 1) (hx : DataW.Trod enc P w 0 sp held t v d ps) (hv : ∀ cs, v ≠ .agg cs) :
    ∃ a, V [a] ∧ VRel (Zof w) μ 0 a v := by
  obtain ⟨n, hn⟩ := hx
  obtain ⟨av, h1, h2, h3, h4, h5⟩ := h H enc sp held n _ _ hn
  have hcs : v.cells.toList = [v] := by
    cases v <;> first | rfl | exact absurd rfl (hv _)
  rw [hcs] at h4
  match av, h2, h4 with
  | [a], _, h4 => exact ⟨a, h1, by simpa [VPre] using h4⟩
  | [], h2, _ => simp [hc] at h2
  | _ :: _ :: _, h2, _ => simp [hc] at h2

theorem Opens.argS {H : Type} {enc : TypeId × Value → H} {sp : Nat → Bool} {held : Bool} {cs : Array Value} {d : DataW H} {ps : List MemPlace} (h : Opens P w μ t V) (hx : DataW.Trod enc P w 0 sp held t (.agg cs) d ps) :
    ∃ av, V av ∧ VRel (Zof w) μ 0 (.agg av) (.agg cs) := by
  obtain ⟨n, hn⟩ := hx
  obtain ⟨av, h1, h2, h3, h4, h5⟩ := h H enc sp held n _ _ hn
  refine ⟨av, h1, ?_⟩
  simp only [VRel]
  have h3' : cs.size = P.cellsOf t := by simpa [Value.cells] using h3
  exact ⟨cs, rfl, by rw [h2, h3'], by simpa [Value.cells] using h4, by simpa [Value.cells] using h5⟩
end

inductive OpensA (P : Program) (w : World) (μ : Mu) : List TypeId → (List AVal → Prop) → Prop where
  | nil {X : List AVal → Prop} (h : X []) : OpensA P w μ [] X
  | cell {t : TypeId} {ts : List TypeId} {V : List AVal → Prop} {X : List AVal → Prop} (ho : Opens P w μ t V) (hc : P.cellsOf t = 1) (hs : ∀ fs, P.underlying t ≠ some (.struct fs)) (ha : ∀ n e, P.underlying t ≠ some (.array n e)) (r : ∀ a, V [a] → OpensA P w μ ts fun av => X (a :: av)) : OpensA P w μ (t :: ts) X
  | struct {t : TypeId} {ts : List TypeId} {V : List AVal → Prop} {X : List AVal → Prop} {fs : Array Field} (ho : Opens P w μ t V) (hs : P.underlying t = some (.struct fs)) (r : ∀ av, V av → OpensA P w μ ts fun bs => X (.agg av :: bs)) : OpensA P w μ (t :: ts) X

theorem okWide_cell {P : Program} {w : World} {base : Nat} {t : TypeId} {cs : Array Value} (hs : ∀ fs, P.underlying t ≠ some (.struct fs)) (ha : ∀ n e, P.underlying t ≠ some (.array n e)) (h : Value.okWide P w .any base t (.agg cs)) : False := by
  unfold Value.okWide at h
  split at h
  · rename_i h1; exact hs _ h1
  · rename_i h1; exact ha _ _ h1
  · unfold Cell.okWide at h
    split at h <;> first | (exact h.elim) | skip
    all_goals first | (unfold Cell.ok at h; split at h <;> simp_all; done) | skip
    all_goals simp_all

theorem OpensA.args {H : Type} {enc : TypeId × Value → H} {P : Program} {w : World} {μ : Mu} {base : Nat} {sp : Nat → Bool} {held : Bool} : ∀ {ts : List TypeId} {X : List AVal → Prop}, OpensA P w μ ts X → ∀ {vs : List Value} {ds : List (DataW H)} {ps : List MemPlace},
    DataW.TrodAll enc P w 0 sp held ts vs ds ps → (∀ (j : Nat) t v, ts[j]? = some t → vs[j]? = some v → Value.okWide P w .any base t v) → ∃ av, X av ∧ av.length = vs.length ∧ VPre (Zof w) μ 0 av vs := by
  intro ts X h
  induction h with
  | nil hx =>
    intro vs ds ps hA _
    obtain ⟨rfl, rfl, rfl⟩ := trodAll_nil hA
    exact ⟨[], hx, rfl, by simp [VPre]⟩
  | cell ho hc hs ha r ih =>
    intro vs ds ps hA hk
    obtain ⟨v, vs, d, ds, p, q, rfl, rfl, rfl, h1, h2⟩ := trodAll_cons hA
    obtain ⟨a, hV, hr⟩ := ho.arg hc h1 fun cs e => okWide_cell hs ha (by rw [← e]; exact hk 0 _ _ rfl rfl)
    obtain ⟨av, hX, hl, hv⟩ := ih a hV h2 fun j t v ht hv => hk (j + 1) t v (by simpa using ht) (by simpa using hv)
    exact ⟨a :: av, hX, by simp [hl], by simpa [VPre] using ⟨hr, hv⟩⟩
  | struct ho hs r ih =>
    intro vs ds ps hA hk
    obtain ⟨v, vs, d, ds, p, q, rfl, rfl, rfl, h1, h2⟩ := trodAll_cons hA
    obtain ⟨cs, rfl, _⟩ := okWide_struct hs (hk 0 _ _ rfl rfl)
    obtain ⟨as₀, hV, hr⟩ := ho.argS h1
    obtain ⟨av, hX, hl, hv⟩ := ih as₀ hV h2 fun j t v ht hv => hk (j + 1) t v (by simpa using ht) (by simpa using hv)
    exact ⟨.agg as₀ :: av, hX, by simp [hl], by simpa [VPre] using ⟨hr, hv⟩⟩

theorem law_lifted {C : Checked} {f : FuncId} {fn : Func} {s : ChangeSpec} {fresh handsOn : Bool} {tb : TypeId} {T : TypeId → Prop} {os : Os} (started : os.Started) {H : Type} {enc : TypeId × Value → H}
    (own : ownKnob C.prog.godebug = none) (noInit : C.prog.inits.idxOf? f = none) (hfn : C.prog.funcs[f]? = some fn)
    (witness : ∃ (w : World) (tape : Tape) (i : Input), w.os = os ∧ (w.forCall tape i).Shaped C.prog ∧ i.vars = [] ∧ Input.okWide C.prog (w.forCall tape i) .any w.heap.size f i ∧
      s.pre6 enc C.prog fn [] false (w.forCall tape i).memory i.args ∧ ({} : Assume).holds C.prog (lone (Frame.enter C.prog f i.args .normal) [] (w.forCall tape i)))
    (K : Kids C.prog T) (hz : ∀ t e, T t → C.prog.underlying t = some (.slice e) → 0 < C.prog.cellsOf e) (hT : ∀ t ∈ fn.params.toList, T t)
    (hvars : s.vars = []) (hres : fn.resultTypes = #[tb]) (hb : C.prog.underlying tb = some .bool) (hspec : ∀ ds : List (DataW H), ds.length = fn.params.size → s.fn H ds = { results := [.lit (.bool true)], args := ds })
    (law : ∀ (w : World), OpensA C.prog w (fun _ => ⟨0, 0⟩) fn.params.toList fun av => APure C.prog f av (.bool true)) :
    ReturnsInHanded {} C os f .any (s.pre6 enc C.prog fn [] false) (s.post enc C.prog fn false fresh handsOn false) := by
  refine returnsInHanded_of_change own started noInit hfn witness ?_
  intro W base args ds gs before hval hW _ _
  have hW' := hW
  obtain ⟨p, q, hA, hV, hpq, hfz, hnd⟩ := hW
  have hV' := hV
  rw [hvars] at hV'
  obtain ⟨rfl, rfl⟩ := trodVars_none hV'
  obtain ⟨av, ha, hl, hv⟩ := (law W).args hA fun j t v ht hv => hval j t v (by simpa using ht) (by simpa using hv)
  refine Calls.mono' (ha.calls (by simpa using hl.symm) hv) ?_
  rintro e W' ⟨rfl, hS⟩
  refine ⟨_, rfl, law_post K hz hT hS hvars hres hb (hspec ds ?_) hW'⟩
  have : ∀ {ts : List TypeId} {vs : List Value} {ds : List (DataW H)} {ps : List MemPlace}, DataW.TrodAll enc C.prog W 0 (fun _ => true) true ts vs ds ps → ds.length = ts.length := by
    intro ts
    induction ts with
    | nil => intro vs ds ps h; obtain ⟨_, rfl, _⟩ := trodAll_nil h; rfl
    | cons t ts ih => intro vs ds ps h; obtain ⟨_, _, _, _, _, _, _, rfl, _, _, h2⟩ := trodAll_cons h; simp [ih h2]
  simpa using this hA
end Go.Cw
end

/- Lists of numbers and of pairs of numbers, as arguments. No program is named here. -/
section
namespace Go.Cw
open Go

def intsK (k : IntKind) (l : List Int) : List AVal := l.map (.int k)
@[simp] theorem intsK_drop (k : IntKind) (l : List Int) (n : Nat) : (intsK k l).drop n = intsK k (l.drop n) := by simp [intsK]
@[simp] theorem intsK_head (k : IntKind) (l : List Int) : (intsK k l).head? = l.head?.map (.int k) := by simp [intsK]
theorem flat_intsK {k : IntKind} : ∀ {ass : List (List AVal)}, (∀ a ∈ ass, ∃ n, (Lit.int k n).wf = true ∧ a = [.int k n]) → ∃ l : List Int, l.length = ass.length ∧ (∀ n ∈ l, (Lit.int k n).wf = true) ∧ ass.flatten = intsK k l
  | [], _ => ⟨[], rfl, by simp, rfl⟩
  | a :: ass, h => by
    obtain ⟨l, h1, h2, h3⟩ := flat_intsK fun b hb => h b (List.mem_cons_of_mem _ hb)
    obtain ⟨n, h4, h5⟩ := h a (by simp)
    exact ⟨n :: l, by simp [h1], by simpa using ⟨h4, h2⟩, by simp [h5, h3, intsK]⟩

theorem flat_prs : ∀ {ass : List (List AVal)}, (∀ a ∈ ass, ∃ p : Int × Int, a = [.int .i64 p.1, .int .i64 p.2]) → ∃ l : List (Int × Int), l.length = ass.length ∧ ass.flatten = prs l
  | [], _ => ⟨[], rfl, rfl⟩
  | a :: ass, h => by
    obtain ⟨l, h1, h2⟩ := flat_prs fun b hb => h b (List.mem_cons_of_mem _ hb)
    obtain ⟨p, h3⟩ := h a (by simp)
    exact ⟨p :: l, by simp [h1], by simp [h3, h2]⟩

section
variable {P : Program} {w : World} {μ : Mu} {t e : TypeId}

theorem Opens.intsK {k : IntKind} (ht : P.underlying t = some (.slice e)) (hc : P.cellsOf t = 1) (he : P.underlying e = some (.int k)) (hce : P.cellsOf e = 1) : Opens P w μ t fun av => ∃ l : List Int, l.length ≤ maxLen ∧ (∀ n ∈ l, (Lit.int k n).wf = true) ∧ av = [.vl l.length (Cw.intsK k l)] :=
  (Opens.slice ht hc (by omega) (Opens.int he hce)).mono fun av ⟨ass, h1, h2, h3⟩ => by
    obtain ⟨l, h4, h5, h6⟩ := flat_intsK h2
    exact ⟨l, by omega, h5, by rw [h3, h6, h4]⟩

theorem Opens.ints (ht : P.underlying t = some (.slice e)) (hc : P.cellsOf t = 1) (he : P.underlying e = some (.int .i64)) (hce : P.cellsOf e = 1) : Opens P w μ t fun av => ∃ l : List Int, av = [L l] :=
  (Opens.intsK ht hc he hce).mono fun _ ⟨l, _, _, h⟩ => ⟨l, h⟩

theorem Opens.prs (ht : P.underlying t = some (.slice e)) (hc : P.cellsOf t = 1) (hce : P.cellsOf e = 2) (he : Opens P w μ e fun av => ∃ p : Int × Int, av = [.int .i64 p.1, .int .i64 p.2]) : Opens P w μ t fun av => ∃ l : List (Int × Int), av = [LP l] :=
  (Opens.slice ht hc (by omega) he).mono fun av ⟨ass, h1, h2, h3⟩ => by
    obtain ⟨l, h4, h5⟩ := flat_prs h2
    exact ⟨l, by rw [h3, h5, ← h4]; rfl⟩

theorem Opens.two (ht : P.underlying t = some (.array 2 e)) (hc : P.cellsOf t = 2) (he : P.underlying e = some (.int .i64)) (hce : P.cellsOf e = 1) : Opens P w μ t fun av => ∃ p : Int × Int, av = [.int .i64 p.1, .int .i64 p.2] :=
  (Opens.array ht (by omega) (Opens.int he hce)).mono fun av ⟨ass, h1, h2, h3⟩ => by
    obtain ⟨l, h4, _, h6⟩ := flat_intsK h2
    match l, h4, h6 with
    | [a, b], _, h6 => exact ⟨(a, b), by rw [h3, h6]; rfl⟩
    | [], h4, _ => simp at h4; omega
    | [_], h4, _ => simp at h4; omega
    | _ :: _ :: _ :: _, h4, _ => simp at h4; omega
end
end Go.Cw
end
