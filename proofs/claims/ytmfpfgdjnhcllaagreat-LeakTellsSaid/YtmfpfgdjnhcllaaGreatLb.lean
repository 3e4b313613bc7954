/-
  What the functions of layer 1 compute; the laws' own functions.
-/
import Derived.Test.YtmfpfgdjnhcllaaGreatLa
import Derived.Test.YtmfpfgdjnhcllaaGreatKa
import Derived.Test.YtmfpfgdjnhcllaaGreatAf
set_option linter.unusedVariables false
set_option linter.unusedSimpArgs false
set_option linter.unusedSectionVars false

/- All truths, as the program collects them. -/
section
set_option maxRecDepth 100000
set_option linter.unusedSimpArgs false
namespace Go.Cw
open Go Go.Proofs

/-- Lists of what six seams let in. -/
def infs (l : List (List Int)) : List AVal := l.flatMap fun x => ints (tab 6 (ofL x))
theorem infs_len (l : List (List Int)) : (infs l).length = l.length * 6 := by
  induction l with
  | nil => rfl
  | cons x l ih => simp only [infs, List.flatMap_cons, List.length_append] at ih ⊢; rw [ih]; simp; omega
theorem infs_push (l : List (List Int)) (x : List Int) : infs l ++ ints (tab 6 (ofL x)) = infs (l ++ [x]) := by simp [infs]
def LI (l : List (List Int)) : AVal := .vl l.length (infs l)

/-- What is kept while truths are collected. -/
def seqRow (s sd : Nat) (L : Jm → AObj) (t : List (List Int) × Nat) : List (Nat × AObj) :=
  [(2, .row [gS 6 11 t.1.length t.2] s), (11, gO t.1.length (infs t.1) t.2), (100, L .go), (101, .dfr false sd)]
theorem seqRow_b (s sd : Nat) (L : Jm → AObj) : RowsB (seqRow s sd L) 300 := ⟨fun _ _ => rfl, fun t x hx => by simp [seqRow] at hx; omega, fun t => by simp [seqRow]⟩

theorem slices_AppendSeq_ok (h : Hul) (hv : h.Valid) (q : Int) (m ms : Nat) :
    APure Pg fn_slices_AppendSeq_leak_inflow_leak_inflow [.nils, .func (.func fn_leak_hull_inflows_1) [] [.pv [h.H m ms], .pv [h.C q]]] (LI (h.truths q)) := by
  refine slices_AppendSeq_leak_inflow_leak_inflow.pure (by simp) ?_
  simp
  intro s
  refine RF.intro 100 101 rfl (by simp) (by simp) (by simp) fun sl sd LO LB yl => ?_
  refine ACalls.rowLe 2 [.es] rfl (by simpa using ALe.nils_es) ?_
  refine ACalls.cps (σ := List (List Int) × Nat) (seqRow (s + 1) sd LO ([], 0)) (fun _ => .tup []) (fun t => seqRow (s + 1) sd LO t) (fun t => t.1 = h.truths q) (fun K' hK' => ?_) (by simp [seqRow]) (fun _ => rfl) fun t ht => ?_
  · refine leak_hull_inflows_1_ok h hv q m ms false (seqRow (s + 1) sd LO) (seqRow_b _ _ _) (fun t => t.1) 100 sl (fun t x K hlt hst hx hk => ?_) ([], 0) rfl K' fun t ht => hK' t ht
    refine AInvoke.wk (yl _ _ _ rfl (by simp [seqRow]) ?_)
    simp [seqRow]
    intro s5 s6 s7
    refine xApN_gS (cells := infs t.1) (by simp) (by rw [infs_len]) (by omega) (by omega) ?_
    rw [infs_push]
    simp
    exact Wk.view (seqRow (s + 1) sd LO (t.1 ++ [x], s7 + 1)) (by simp [seqRow]) (by simpa using hk (t.1 ++ [x], s7 + 1) rfl)
  · refine ⟨.go, by simp [seqRow], ?_⟩
    simp [seqRow]
    refine RetV.le (VLe.gS (cells := infs t.1) (s := t.2) (by simp) (by rw [infs_len])) (RetV.refl ?_)
    rw [ht]; rfl

theorem slices_Collect_ok (h : Hul) (hv : h.Valid) (q : Int) (m ms : Nat) :
    APure Pg fn_slices_Collect_leak_inflow [.func (.func fn_leak_hull_inflows_1) [] [.pv [h.H m ms], .pv [h.C q]]] (LI (h.truths q)) := by
  refine slices_Collect_leak_inflow.pure (by simp) ?_
  simp
  refine FCall.pure (PInv.func (slices_AppendSeq_ok h hv q m ms)) ?_
  simp
  exact RetV.refl rfl

section
variable (l : List (List Int))
@[simp] theorem aLen_LI : aLen (LI l) = some (.int .i64 l.length) := (rfl)
@[simp] theorem frz_LI (r s : Nat) (cells : List AVal) : frz r s cells (LI l) = LI l := (rfl)
@[simp] theorem ren_LI (r nm : Nat) : ren r nm (LI l) = LI l := (rfl)
@[simp] theorem acells_LI : acells (LI l) = some [LI l] := (rfl)
end

theorem leak_hull_truths_ok (h : Hul) (hv : h.Valid) (s : Nat) (M : List (List Int)) (hM : ∀ l ∈ M, l.length = 2) (ht : h.truths h.every ≠ [])
    (K : AEnd → Heap → Prop) (hK : ∀ M', (∀ l ∈ M', l.length = 2) → K (.ret (LI (h.truths h.every))) (hpV [(200, .map (h.memo M') s)])) :
    ACalls Pg fn_leak_hull_truths [h.H 200 s] (hpV [(200, .map (h.memo M) s)]) K := by
  have hlen : 0 < (h.truths h.every).length := List.length_pos_iff.2 ht
  refine leak_hull_truths.enter 0 (by simp) ?_
  simp
  refine FCall.pure (PInv.func (leak_hull_every_ok h hv 200 s)) ?_
  simp
  refine FCall.cps [(200, .map (h.memo M) s)] (fun _ : {M' : List (List Int) // ∀ l ∈ M', l.length = 2} => .func (.func fn_leak_hull_inflows_1) [] [.pv [h.H 200 s], .pv [h.C h.every]]) (fun M' => [(200, .map (h.memo M'.1) s)]) (fun _ => True) (fun K' hK' => AInvoke.func ?_) (by simp) (fun _ => rfl) trivial (fun M' _ => ⟨trivial, ?_⟩)
  · exact leak_hull_inflows_ok h hv h.every (Hul.every62 hv) 200 s M hM K' fun M' hM' => hK' ⟨M', hM'⟩ trivial
  simp
  refine FCall.pure (PInv.func (slices_Collect_ok h hv h.every 200 s)) ?_
  simp [hlen]
  refine FCall.pure (PInv.func (leak_want_ok 10)) ?_
  simp
  refine RetV.view [(200, .map (h.memo M'.1) s)] (by simp) ?_
  simpa using hK M'.1 M'.2
end Go.Cw
end

/- Which seams are under water: the program tells it. -/
section
set_option maxRecDepth 100000
set_option linter.unusedSimpArgs false
namespace Go.Cw
open Go Go.Proofs

noncomputable def Hul.wetV (h : Hul) (d l : Int) : AVal := if h.Valid then (if Hul.At d l then .tup [.int .i64 (h.wet d l), .int .i64 0] else .tup [.int .i64 0, .int .i64 2]) else .tup [.int .i64 0, .int .i64 1]

theorem leak_Wet_ok (h : Hul) (hs : h.Small) (d l : Int) : APure Pg fn_leak_Wet [h.v, .int .i64 d, .int .i64 l] (h.wetV d l) := by
  refine leak_Wet.pure (by simp) ?_
  simp
  intro s1 s2 s3
  refine PCallK.intro (PInv.func (leak_isPlace_ok d l)) ?_
  simp
  by_cases hv : ¬ h.Valid
  · refine FCall.pan (PInvPan.func (leak_open_arg h hs hv _)) ?_
    simp
    refine RetD.panic rfl leak_Wet_1.recClo ?_
    refine ACalls.cps [(7, .row [.int .i64 0] (s2 + 1))] (fun _ : Unit => .tup []) (fun _ => [(7, .row [.int .i64 1] (s2 + 1))]) (fun _ => True) (fun K' hK' => leak_said_ref _ _ _ _ K' (hK' () trivial)) (by simp) (fun _ => rfl) fun _ _ => ?_
    simp
    exact RetV.refl (by simp [Hul.wetV, hv])
  replace hv := Classical.not_not.1 hv
  by_cases ha : ¬ Hul.At d l
  · simp [ha]
    refine FCall.pan (PInvPan.func (leak_open_range h hs hv)) ?_
    simp
    refine RetD.panic rfl leak_Wet_1.recClo ?_
    refine ACalls.cps [(7, .row [.int .i64 0] (s2 + 1))] (fun _ : Unit => .tup []) (fun _ => [(7, .row [.int .i64 2] (s2 + 1))]) (fun _ => True) (fun K' hK' => leak_said_ref _ _ _ _ K' (hK' () trivial)) (by simp) (fun _ => rfl) fun _ _ => ?_
    simp
    exact RetV.refl (by simp [Hul.wetV, hv, ha])
  replace ha := Classical.not_not.1 ha
  simp [ha]
  refine FCall.cps [(200, .dead)] (fun s : Nat => h.H 200 s) (fun s => [(200, .map [] s)]) (fun _ => True) (fun K' hK' => AInvoke.func (leak_open_ok h hs hv 200 K' fun s => hK' s trivial)) (by simp) (fun _ => rfl) trivial (fun s _ => ⟨trivial, ?_⟩)
  simp
  refine FCall.wet hv ha (M := []) (by simp) (by simp; rfl) trivial fun M0 hM0 => ⟨trivial, ?_⟩
  have hw := hv.wet64 d l
  simp
  refine ⟨by unfold Fits; omega, ?_⟩
  refine RetD.ret rfl leak_Wet_1.recClo ((leak_said_nil _ _).mono ?_)
  rintro e h' ⟨rfl, rfl⟩
  simp
  exact RetV.refl (by simp [Hul.wetV, hv, ha])
end Go.Cw
end

/- What seams can let in together: the program tells it. -/
section
set_option maxRecDepth 100000
set_option linter.unusedSimpArgs false
namespace Go.Cw
open Go Go.Proofs

theorem inf_w (x : List Int) : (ints (tab 6 (ofL x))).length = 6 := by simp
section
variable (l : List (List Int))
theorem infs_fl : infs l = fl (fun x => ints (tab 6 (ofL x))) l := (rfl)
@[simp] theorem infs_length : (infs l).length = l.length * 6 := infs_len l
@[simp] theorem infs_drop (k : Nat) : (infs l).drop (k * 6) = infs (l.drop k) := fl_drop inf_w l k
@[simp] theorem infs_take6 : (infs l).take 6 = (l.head?.map fun x => ints (tab 6 (ofL x))).getD [] := fl_take inf_w l
@[simp] theorem satIxS_LI (k : IntKind) (n : Int) (K : AVal → Prop) : satIxS 6 (LI l) (.int k n) K = ((0 ≤ n ∧ n < l.length) ∧ K (.pv (infs (l.drop n.toNat)))) := by simp [LI]
end

theorem leak_sums_ok (l : List (List Int)) (hl : l ≠ []) (hl2 : l.length ≤ 100000) (f : AVal) (g : List Int → Int) (hf : ∀ x ∈ l, PInv Pg f [inf (ofL x)] (.int .i64 (g x))) : APure Pg fn_leak_sums [LI l, f] (SP2 (spanOf (l.map g))) := by
  obtain ⟨a, l', hal⟩ := List.exists_cons_of_ne_nil hl
  have ha : a ∈ l := by rw [hal]; simp
  have hh : l.head? = some a := by rw [hal]; rfl
  have h0 : 0 < l.length := by rw [hal]; simp
  refine leak_sums.pure (by simp) ?_
  have h6 : 6 ≤ l.length * 6 := by omega
  simp [h0, hh]
  intro s1
  refine ⟨h6, FCall.pure' (hf a ha) (by simp) (by simp [h0, hh, h6]) ?_⟩
  simp
  refine FCall.pure' (hf a ha) (by simp) (by simp) ?_
  simp
  intro s2
  refine Lp.intro (σ := Nat) (inv := fun k => k ≤ l.length) (vw := fun k => [(1, f), (4, .ptr 4 0 (s1+1)), (5, .ptr 5 0 (s2+1)), (19, LI l), (20, .int .i64 l.length), (21, .int .i64 k)])
    (hp := fun k => [(4, .row [.int .i64 0, .int .i64 0] (s1+1)), (5, .row [.int .i64 (((l.map g).take k).foldl min (g a)), .int .i64 (((l.map g).take k).foldl max (g a))] (s2+1))]) (ms := fun k => l.length - k) 0 (by simp) (by simp) (by simp) ?_
  intro k hk J hJ
  by_cases hkc : k < l.length
  · have hkm : k < (l.map g).length := by simpa using hkc
    have e1 : ((l.map g).take (k + 1)).foldl min (g a) = min (((l.map g).take k).foldl min (g a)) (g l[k]) := by
      rw [← List.take_append_getElem hkm, List.foldl_append]; simp
    have e2 : ((l.map g).take (k + 1)).foldl max (g a) = max (((l.map g).take k).foldl max (g a)) (g l[k]) := by
      rw [← List.take_append_getElem hkm, List.foldl_append]; simp
    have hfk := hf l[k] (by simp)
    have h6k : 6 ≤ (l.length - k) * 6 := by omega
    simp [hkc]
    refine ⟨by omega, fun s3 => ?_⟩
    refine FCall.pure' hfk (by simp) (by simp) ?_
    simp
    refine FCall.pure' hfk (by simp) (by simp) ?_
    simp
    (repeat first | refine And.intro (by omega) ?_ | refine And.intro (Fits.of (by omega) (by omega)) ?_)
    exact hJ.next (k + 1) (by omega) (by omega) (by simp) (by simp [e1, e2])
  obtain rfl : k = l.length := by omega
  have ht : (l.map g).take l.length = l.map g := List.take_of_length_le (by simp)
  simp
  refine hJ.exit ?_
  rw [ht]
  simp
  exact RetV.refl (by simp [SP2, spanOf, hh])

theorem truths_in {h : Hul} (hv : h.Valid) {q : Int} {t : List Int} (ht : t ∈ h.truths q) : t.length = h.n ∧ ∀ i, 0 ≤ ofL t i ∧ ofL t i ≤ 4 := by
  unfold Hul.truths at ht
  obtain ⟨h1, h2⟩ := mem_allT.1 (List.mem_filter.1 ht).1
  rw [Hul.mosts_length] at h1 h2
  refine ⟨h1, fun i => ?_⟩
  by_cases hi : i < h.n
  · have := h2 i hi
    have hm := hv.most (List.getElem?_eq_getElem (show i < h.mosts.length by rw [Hul.mosts_length]; exact hi))
    rw [ofL_at _ (show i < h.mosts.length by rw [Hul.mosts_length]; exact hi)] at hm
    omega
  · rw [ofL_none _ (by omega)]; omega

theorem leak_hull_total_1_ok (c : Nat → Int) (hc : ∀ i, i < 6 → 0 ≤ c i ∧ c i ≤ 100) (s : Int) (hs : 0 ≤ s ∧ s < 2 ^ 62) :
    APure Pg fn_leak_hull_total_1 [inf c, .pv [.func (.func fn_leak_inflow_sum) [] []], .pv [.int .u64 s]] (.int .i64 (sumN 6 fun i => if inS s i then c i else 0)) := by
  refine leak_hull_total_1.pure (by simp) ?_
  simp
  intro s1
  refine FCall.pure (PInv.func (leak_inflow_sum_ok c hc s hs)) ?_
  simp
  exact RetV.refl rfl
end Go.Cw
end

/- Rates, totals and flows: the program tells them. -/
section
set_option maxRecDepth 100000
set_option linter.unusedSimpArgs false
namespace Go.Cw
open Go Go.Proofs

section
variable {F n₀ : Nat} {inr : Bool} {keep : List Nat} {t : Option Nat} {K : KT} {Q : Post} {tm : TM} {df : DF} {hp : Heap}
theorem FCall.truths {h : Hul} (hv : h.Valid) {s : Nat} {M : List (List Int)} (hM : ∀ l ∈ M, l.length = 2) (ht : h.truths h.every ≠ []) (hm : hp 200 = .map (h.memo M) s)
    (k : ∀ M', (∀ l ∈ M', l.length = 2) → K (putD tm t (LI (h.truths h.every))) df (upd hp 200 (.map (h.memo M') s))) :
    FCall ⟨Pg, F, n₀, inr, keep⟩ (.func (.func fn_leak_hull_truths) [] []) [h.H 200 s] [] [] t K Q tm df hp := by
  refine FCall.cps [(200, .map (h.memo M) s)] (fun _ : {M' : List (List Int) // ∀ l ∈ M', l.length = 2} => LI (h.truths h.every)) (fun M' => [(200, .map (h.memo M'.1) s)]) (fun _ => True) (fun K' hK' => AInvoke.func ?_) ⟨hm, trivial⟩ (fun _ => rfl) trivial (fun M' _ => ⟨trivial, k M'.1 M'.2⟩)
  exact leak_hull_truths_ok h hv s M hM ht K' fun M' hM' => hK' ⟨M', hM'⟩ trivial
end

theorem sumT_six {h : Hul} (hv : h.Valid) {q : Int} {t : List Int} (ht : t ∈ h.truths q) (s : Int) : (sumN 6 fun i => if inS s i then ofL t i else 0) = Hul.sumT t s := by
  obtain ⟨h1, _⟩ := truths_in hv ht
  unfold Hul.sumT
  refine sumN_ext (by have := hv.n6; omega) fun i hi => ?_
  rw [ofL_none _ hi]; simp

theorem leak_hull_total_ok (h : Hul) (hv : h.Valid) (q : Int) (hq : 0 ≤ q ∧ q < 2 ^ 62) (s : Nat) (M : List (List Int)) (hM : ∀ l ∈ M, l.length = 2) (ht : h.truths h.every ≠ [])
    (K : AEnd → Heap → Prop) (hK : ∀ M', (∀ l ∈ M', l.length = 2) → K (.ret (SP2 (spanOf ((h.truths h.every).map (Hul.sumT · q))))) (hpV [(200, .map (h.memo M') s)])) :
    ACalls Pg fn_leak_hull_total [h.H 200 s, .int .u64 q] (hpV [(200, .map (h.memo M) s)]) K := by
  have hlen := hv.ext_len h.every []
  rw [← Hul.truths_ext] at hlen
  refine leak_hull_total.enter 0 (by simp) ?_
  simp
  intro s3 s4 s5
  refine FCall.truths hv hM ht (by simp) fun M2 hM2 => ?_
  simp
  refine FCall.frz2 5 3 (cells := [.func (.func fn_leak_inflow_sum) [] []]) (cells' := [.int .u64 q]) (s := s5 + 1) (s' := s3 + 1) (v := SP2 (spanOf ((h.truths h.every).map (Hul.sumT · q)))) (by simp) (by simp) (by omega) ?_ trivial ⟨trivial, ?_⟩
  · simp
    refine PInv.func (leak_sums_ok (h.truths h.every) ht (by omega) _ (Hul.sumT · q) fun x hx => ?_)
    have hx4 := (truths_in hv hx).2
    have := PInv.func (first := []) (cap := [.pv [.func (.func fn_leak_inflow_sum) [] []], .pv [.int .u64 q]]) (args := [inf (ofL x)]) (leak_hull_total_1_ok (ofL x) (fun i _ => by have := hx4 i; omega) q hq)
    rw [sumT_six hv hx] at this
    exact this
  simp [SP2]
  refine RetV.view [(200, .map (h.memo M2) s)] (by simp) ?_
  simpa [SP2] using hK M2 hM2
end Go.Cw
end

/- When there is no truth: the program refuses. -/
section
set_option maxRecDepth 100000
set_option linter.unusedSimpArgs false
namespace Go.Cw
open Go Go.Proofs

def deads (hs : List (Nat × AObj)) : List (Nat × AObj) := hs.map fun x => (x.1, .dead)
theorem deads_fst (hs : List (Nat × AObj)) : (deads hs).map Prod.fst = hs.map Prod.fst := by simp [deads]
theorem hpV_deads (hs : List (Nat × AObj)) (r : Nat) : hpV (deads hs) r = .dead := by
  induction hs with
  | nil => rfl
  | cons x hs ih =>
    obtain ⟨a, o⟩ := x
    show upd (hpV (deads hs)) a .dead r = .dead
    unfold upd
    split
    · rfl
    · exact ih
section
variable {E : Env} {fv v : AVal} {args : List AVal} {fl : List It} {d : Option Nat} {K : KT} {Q : Post} {tm : TM} {df : DF} {h : Heap}
/-- A call that panics, and looks at some rows. -/
theorem FCall.panV (hs : List (Nat × AObj)) (hw : Hw hs h) (a : AInvoke E.P fv args (hpV hs) fun e _ => e = .pan v) (k : Q (.panic v) (kpT E.keep tm) df (updL h (deads hs))) : FCall E fv args [] fl d K Q tm df h := by
  refine ⟨hpV hs, HLe.view hw, trivial, a.mono ?_⟩
  rintro e h' rfl
  simp only [CallK]
  refine ⟨updL h (deads hs), fun r => ?_, trivial, k⟩
  by_cases hr : r ∈ hs.map Prod.fst
  · right
    rw [updL_some (by rw [deads_fst]; exact hr), hpV_deads]
  · have e1 : updL h (deads hs) r = h r := updL_none (by rw [deads_fst]; exact hr)
    by_cases hd : h r = .dead
    · right; rw [e1, hd]
    · left; rw [e1]; exact (glue_out (hpV_none hr) hd).symm
end

theorem leak_hull_truths_pan (h : Hul) (hv : h.Valid) (s : Nat) (M : List (List Int)) (hM : ∀ l ∈ M, l.length = 2) (ht : h.truths h.every = []) :
    ACalls Pg fn_leak_hull_truths [h.H 200 s] (hpV [(200, .map (h.memo M) s)]) fun e _ => e = .pan (refV 10) := by
  refine leak_hull_truths.enter 0 (by simp) ?_
  simp
  refine FCall.pure (PInv.func (leak_hull_every_ok h hv 200 s)) ?_
  simp
  refine FCall.cps [(200, .map (h.memo M) s)] (fun _ : {M' : List (List Int) // ∀ l ∈ M', l.length = 2} => .func (.func fn_leak_hull_inflows_1) [] [.pv [h.H 200 s], .pv [h.C h.every]]) (fun M' => [(200, .map (h.memo M'.1) s)]) (fun _ => True) (fun K' hK' => AInvoke.func ?_) (by simp) (fun _ => rfl) trivial (fun M' _ => ⟨trivial, ?_⟩)
  · exact leak_hull_inflows_ok h hv h.every (Hul.every62 hv) 200 s M hM K' fun M' hM' => hK' ⟨M', hM'⟩ trivial
  simp
  refine FCall.pure (PInv.func (slices_Collect_ok h hv h.every 200 s)) ?_
  simp [ht]
  refine FCall.pan (PInvPan.func (leak_want_pan 10)) ?_
  simp
  exact ⟨_, HLe.refl _, trivial⟩

theorem leak_hull_total_pan (h : Hul) (hv : h.Valid) (q : Int) (s : Nat) (M : List (List Int)) (hM : ∀ l ∈ M, l.length = 2) (ht : h.truths h.every = []) :
    ACalls Pg fn_leak_hull_total [h.H 200 s, .int .u64 q] (hpV [(200, .map (h.memo M) s)]) fun e _ => e = .pan (refV 10) := by
  refine leak_hull_total.enter 0 (by simp) ?_
  simp
  intro s3 s4 s5
  refine FCall.panV [(200, .map (h.memo M) s)] (by simp) (AInvoke.func (leak_hull_truths_pan h hv s M hM ht)) ?_
  simp
  exact ⟨_, HLe.refl _, trivial⟩
end Go.Cw
end

/- Total: the program tells it. -/
section
set_option maxRecDepth 100000
set_option linter.unusedSimpArgs false
namespace Go.Cw
open Go Go.Proofs

theorem leak_isSet_ok (h : Hul) (hs : h.Small) (n : Int) : APure Pg fn_leak_isSet [h.v, .int .i64 n] (.bool (decide (h.Set n))) := by
  have h40 : h.n ≤ 40 := hs.s
  have hl : h.seams.length = h.n := rfl
  have h0 := two_pow_pos h.n
  have hmin : min (h.n : Int) 62 = h.n := by omega
  refine leak_isSet.pure (by simp) ?_
  simp
  intro s
  by_cases h1 : 0 ≤ n
  · have hd : decide (n / 2 ^ h.n = 0) = decide (h.Set n) := by
      rw [decide_eq_decide]
      unfold Hul.Set
      constructor
      · intro e
        refine ⟨h1, ?_⟩
        have := Int.lt_ediv_add_one_mul_self n h0
        rw [e] at this; omega
      · intro e; exact Int.ediv_eq_zero_of_lt h1 e.2
    simp [h1, hl, hmin]
    refine ⟨by omega, RetV.refl ?_⟩
    rw [hd]
  · simp [h1]
    exact RetV.refl (by simp [Hul.Set, h1])

/-- What is told of some seams together. -/
noncomputable def Hul.sumV (h : Hul) (ok : Prop) [Decidable ok] (q : Int) : AVal := if h.Valid then (if ok then (if h.truths h.every = [] then .tup [SP2 (0, 0), .int .i64 10] else .tup [SP2 (spanOf ((h.truths h.every).map (Hul.sumT · q))), .int .i64 0]) else .tup [SP2 (0, 0), .int .i64 2]) else .tup [SP2 (0, 0), .int .i64 1]

theorem leak_Total_ok (h : Hul) (hs : h.Small) (q : Int) : APure Pg fn_leak_Total [h.v, .int .i64 q] (h.sumV (h.Set q) q) := by
  refine leak_Total.pure (by simp) ?_
  simp
  intro s1 s2 s3
  refine PCallK.intro (PInv.func (leak_isSet_ok h hs q)) ?_
  simp
  by_cases hv : ¬ h.Valid
  · refine FCall.pan (PInvPan.func (leak_open_arg h hs hv _)) ?_
    simp
    refine RetD.panic rfl leak_Total_1.recClo ?_
    refine ACalls.cps [(5, .row [.int .i64 0] (s3 + 1))] (fun _ : Unit => .tup []) (fun _ => [(5, .row [.int .i64 1] (s3 + 1))]) (fun _ => True) (fun K' hK' => leak_said_ref _ _ _ _ K' (hK' () trivial)) (by simp) (fun _ => rfl) fun _ _ => ?_
    simp
    exact RetV.refl (by simp [Hul.sumV, hv, SP2])
  replace hv := Classical.not_not.1 hv
  by_cases ha : ¬ h.Set q
  · simp [ha]
    refine FCall.pan (PInvPan.func (leak_open_range h hs hv)) ?_
    simp
    refine RetD.panic rfl leak_Total_1.recClo ?_
    refine ACalls.cps [(5, .row [.int .i64 0] (s3 + 1))] (fun _ : Unit => .tup []) (fun _ => [(5, .row [.int .i64 2] (s3 + 1))]) (fun _ => True) (fun K' hK' => leak_said_ref _ _ _ _ K' (hK' () trivial)) (by simp) (fun _ => rfl) fun _ _ => ?_
    simp
    exact RetV.refl (by simp [Hul.sumV, hv, ha, SP2])
  replace ha := Classical.not_not.1 ha
  have hq : 0 ≤ q ∧ q < 2 ^ 62 := by
    have h1 := ha.2
    have h2 := two_pow_le (show h.n ≤ 40 from hs.s)
    have : (2 : Int) ^ 40 < 2 ^ 62 := by decide
    exact ⟨ha.1, by omega⟩
  have hw := wrap_u64 hq.1 hq.2
  simp [ha]
  refine FCall.cps [(200, .dead)] (fun s : Nat => h.H 200 s) (fun s => [(200, .map [] s)]) (fun _ => True) (fun K' hK' => AInvoke.func (leak_open_ok h hs hv 200 K' fun s => hK' s trivial)) (by simp) (fun _ => rfl) trivial (fun s _ => ⟨trivial, ?_⟩)
  simp [hw]
  by_cases ht : h.truths h.every = []
  · refine FCall.panV [(200, .map (h.memo []) s)] (by simp; rfl) (AInvoke.func (leak_hull_total_pan h hv q s [] (by simp) ht)) ?_
    simp [deads]
    refine RetD.panic rfl leak_Total_1.recClo ?_
    refine ACalls.cps [(5, .row [.int .i64 0] (s3 + 1))] (fun _ : Unit => .tup []) (fun _ => [(5, .row [.int .i64 10] (s3 + 1))]) (fun _ => True) (fun K' hK' => leak_said_ref _ _ _ _ K' (hK' () trivial)) (by simp) (fun _ => rfl) fun _ _ => ?_
    simp
    exact RetV.refl (by simp [Hul.sumV, hv, ha, ht, SP2])
  refine FCall.cps [(200, .map (h.memo []) s)] (fun _ : {M' : List (List Int) // ∀ l ∈ M', l.length = 2} => SP2 (spanOf ((h.truths h.every).map (Hul.sumT · q)))) (fun M' => [(200, .map (h.memo M'.1) s)]) (fun _ => True) (fun K' hK' => AInvoke.func ?_) (by simp; rfl) (fun _ => rfl) trivial (fun M' _ => ⟨trivial, ?_⟩)
  · exact leak_hull_total_ok h hv q hq s [] (by simp) ht K' fun M' hM' => hK' ⟨M', hM'⟩ trivial
  simp [SP2]
  refine RetD.ret rfl leak_Total_1.recClo ((leak_said_nil _ _).mono ?_)
  rintro e h' ⟨rfl, rfl⟩
  simp
  exact RetV.refl (by simp [Hul.sumV, hv, ha, ht, SP2])
end Go.Cw
end

/- Flow: the program tells it. -/
section
set_option maxRecDepth 100000
set_option linter.unusedSimpArgs false
namespace Go.Cw
open Go Go.Proofs

theorem leak_Flow_ok (h : Hul) (hs : h.Small) (d l : Int) : APure Pg fn_leak_Flow [h.v, .int .i64 d, .int .i64 l] (h.sumV (Hul.At d l) (h.wet d l)) := by
  refine leak_Flow.pure (by simp) ?_
  simp
  intro s1 s2 s3 s4
  refine PCallK.intro (PInv.func (leak_isPlace_ok d l)) ?_
  simp
  by_cases hv : ¬ h.Valid
  · refine FCall.pan (PInvPan.func (leak_open_arg h hs hv _)) ?_
    simp
    refine RetD.panic rfl leak_Flow_1.recClo ?_
    refine ACalls.cps [(7, .row [.int .i64 0] (s3 + 1))] (fun _ : Unit => .tup []) (fun _ => [(7, .row [.int .i64 1] (s3 + 1))]) (fun _ => True) (fun K' hK' => leak_said_ref _ _ _ _ K' (hK' () trivial)) (by simp) (fun _ => rfl) fun _ _ => ?_
    simp
    exact RetV.refl (by simp [Hul.sumV, hv, SP2])
  replace hv := Classical.not_not.1 hv
  by_cases ha : ¬ Hul.At d l
  · simp [ha]
    refine FCall.pan (PInvPan.func (leak_open_range h hs hv)) ?_
    simp
    refine RetD.panic rfl leak_Flow_1.recClo ?_
    refine ACalls.cps [(7, .row [.int .i64 0] (s3 + 1))] (fun _ : Unit => .tup []) (fun _ => [(7, .row [.int .i64 2] (s3 + 1))]) (fun _ => True) (fun K' hK' => leak_said_ref _ _ _ _ K' (hK' () trivial)) (by simp) (fun _ => rfl) fun _ _ => ?_
    simp
    exact RetV.refl (by simp [Hul.sumV, hv, ha, SP2])
  replace ha := Classical.not_not.1 ha
  have hq := Hul.wet62 hv d l
  simp [ha]
  refine FCall.cps [(200, .dead)] (fun s : Nat => h.H 200 s) (fun s => [(200, .map [] s)]) (fun _ => True) (fun K' hK' => AInvoke.func (leak_open_ok h hs hv 200 K' fun s => hK' s trivial)) (by simp) (fun _ => rfl) trivial (fun s _ => ⟨trivial, ?_⟩)
  simp
  refine FCall.wet hv ha (M := []) (by simp) (by simp; rfl) trivial fun M0 hM0 => ⟨trivial, ?_⟩
  simp
  by_cases ht : h.truths h.every = []
  · refine FCall.panV [(200, .map (h.memo M0) s)] (by simp) (AInvoke.func (leak_hull_total_pan h hv (h.wet d l) s M0 hM0 ht)) ?_
    simp [deads]
    refine RetD.panic rfl leak_Flow_1.recClo ?_
    refine ACalls.cps [(7, .row [.int .i64 0] (s3 + 1))] (fun _ : Unit => .tup []) (fun _ => [(7, .row [.int .i64 10] (s3 + 1))]) (fun _ => True) (fun K' hK' => leak_said_ref _ _ _ _ K' (hK' () trivial)) (by simp) (fun _ => rfl) fun _ _ => ?_
    simp
    exact RetV.refl (by simp [Hul.sumV, hv, ha, ht, SP2])
  refine FCall.cps [(200, .map (h.memo M0) s)] (fun _ : {M' : List (List Int) // ∀ l ∈ M', l.length = 2} => SP2 (spanOf ((h.truths h.every).map (Hul.sumT · (h.wet d l))))) (fun M' => [(200, .map (h.memo M'.1) s)]) (fun _ => True) (fun K' hK' => AInvoke.func ?_) (by simp) (fun _ => rfl) trivial (fun M' _ => ⟨trivial, ?_⟩)
  · exact leak_hull_total_ok h hv (h.wet d l) hq s M0 hM0 ht K' fun M' hM' => hK' ⟨M', hM'⟩ trivial
  simp [SP2]
  refine RetD.ret rfl leak_Flow_1.recClo ((leak_said_nil _ _).mono ?_)
  rintro e h' ⟨rfl, rfl⟩
  simp
  exact RetV.refl (by simp [Hul.sumV, hv, ha, ht, SP2])
end Go.Cw
end

/- Rate: the program tells it. -/
section
set_option maxRecDepth 100000
set_option linter.unusedSimpArgs false
namespace Go.Cw
open Go Go.Proofs

theorem leak_Rate_ok (h : Hul) (hs : h.Small) (q : Int) : APure Pg fn_leak_Rate [h.v, .int .i64 q] (h.sumV (h.Seam q) (2 ^ q.toNat)) := by
  refine leak_Rate.pure (by simp) ?_
  simp
  intro s1 s2 s3
  have h40 : h.n ≤ 40 := hs.s
  have hl : h.seams.length = h.n := rfl
  refine ⟨by unfold Fits; omega, PCallK.intro (PInv.func (leak_within_ok _ _ _)) ?_⟩
  have hsm : decide (0 ≤ q ∧ q ≤ (h.seams.length : Int) - 1) = decide (h.Seam q) := by
    rw [decide_eq_decide]; unfold Hul.Seam; omega
  rw [hsm]
  simp
  by_cases hv : ¬ h.Valid
  · refine FCall.pan (PInvPan.func (leak_open_arg h hs hv _)) ?_
    simp
    refine RetD.panic rfl leak_Rate_1.recClo ?_
    refine ACalls.cps [(5, .row [.int .i64 0] (s3 + 1))] (fun _ : Unit => .tup []) (fun _ => [(5, .row [.int .i64 1] (s3 + 1))]) (fun _ => True) (fun K' hK' => leak_said_ref _ _ _ _ K' (hK' () trivial)) (by simp) (fun _ => rfl) fun _ _ => ?_
    simp
    exact RetV.refl (by simp [Hul.sumV, hv, SP2])
  replace hv := Classical.not_not.1 hv
  by_cases ha : ¬ h.Seam q
  · simp [ha]
    refine FCall.pan (PInvPan.func (leak_open_range h hs hv)) ?_
    simp
    refine RetD.panic rfl leak_Rate_1.recClo ?_
    refine ACalls.cps [(5, .row [.int .i64 0] (s3 + 1))] (fun _ : Unit => .tup []) (fun _ => [(5, .row [.int .i64 2] (s3 + 1))]) (fun _ => True) (fun K' hK' => leak_said_ref _ _ _ _ K' (hK' () trivial)) (by simp) (fun _ => rfl) fun _ _ => ?_
    simp
    exact RetV.refl (by simp [Hul.sumV, hv, ha, SP2])
  replace ha := Classical.not_not.1 ha
  obtain ⟨i, rfl⟩ := Int.eq_ofNat_of_zero_le ha.1
  have hi : i < h.n := by have := ha.2; omega
  have hq : (0 : Int) ≤ 2 ^ i ∧ (2 : Int) ^ i < 2 ^ 62 := by
    have h0 := two_pow_pos i
    have h2 := two_pow_le (show i ≤ 40 by omega)
    have : (2 : Int) ^ 40 < 2 ^ 62 := by decide
    exact ⟨by omega, by omega⟩
  have hw := wrapU_pow (show i ≤ 60 by omega)
  simp [ha]
  refine FCall.cps [(200, .dead)] (fun s : Nat => h.H 200 s) (fun s => [(200, .map [] s)]) (fun _ => True) (fun K' hK' => AInvoke.func (leak_open_ok h hs hv 200 K' fun s => hK' s trivial)) (by simp) (fun _ => rfl) trivial (fun s _ => ⟨trivial, ?_⟩)
  simp [hw]
  refine ⟨by omega, ?_⟩
  by_cases ht : h.truths h.every = []
  · refine FCall.panV [(200, .map (h.memo []) s)] (by simp; rfl) (AInvoke.func (leak_hull_total_pan h hv (2 ^ i) s [] (by simp) ht)) ?_
    simp [deads]
    refine RetD.panic rfl leak_Rate_1.recClo ?_
    refine ACalls.cps [(5, .row [.int .i64 0] (s3 + 1))] (fun _ : Unit => .tup []) (fun _ => [(5, .row [.int .i64 10] (s3 + 1))]) (fun _ => True) (fun K' hK' => leak_said_ref _ _ _ _ K' (hK' () trivial)) (by simp) (fun _ => rfl) fun _ _ => ?_
    simp
    exact RetV.refl (by simp [Hul.sumV, hv, ha, ht, SP2])
  refine FCall.cps [(200, .map (h.memo []) s)] (fun _ : {M' : List (List Int) // ∀ l ∈ M', l.length = 2} => SP2 (spanOf ((h.truths h.every).map (Hul.sumT · (2 ^ i))))) (fun M' => [(200, .map (h.memo M'.1) s)]) (fun _ => True) (fun K' hK' => AInvoke.func ?_) (by simp; rfl) (fun _ => rfl) trivial (fun M' _ => ⟨trivial, ?_⟩)
  · exact leak_hull_total_ok h hv (2 ^ i) hq s [] (by simp) ht K' fun M' hM' => hK' ⟨M', hM'⟩ trivial
  simp [SP2]
  refine RetD.ret rfl leak_Rate_1.recClo ((leak_said_nil _ _).mono ?_)
  rintro e h' ⟨rfl, rfl⟩
  simp
  exact RetV.refl (by simp [Hul.sumV, hv, ha, ht, SP2])
end Go.Cw
end

/- Leaks: the program tells them. -/
section
set_option maxRecDepth 100000
set_option linter.unusedSimpArgs false
namespace Go.Cw
open Go Go.Proofs

/-- Who can leak, and who surely does. -/
def canL (l : List (List Int)) (i : Nat) : Bool := l.any fun t => decide (0 < ofL t i)
def sureL (l : List (List Int)) (i : Nat) : Bool := l.all fun t => decide (0 < ofL t i)
noncomputable def Hul.leaksV (h : Hul) : AVal := if h.Valid then (if h.truths h.every = [] then .tup [.int .i64 0, .int .i64 0, .int .i64 10] else .tup [.int .i64 (bits (canL (h.truths h.every)) 6), .int .i64 (bits (sureL (h.truths h.every)) 6), .int .i64 0]) else .tup [.int .i64 0, .int .i64 0, .int .i64 1]

theorem leak_Leaks_ok (h : Hul) (hs : h.Small) : APure Pg fn_leak_Leaks [h.v] h.leaksV := by
  refine leak_Leaks.pure (by simp) ?_
  simp
  intro s1 s2
  by_cases hv : ¬ h.Valid
  · refine FCall.pan (PInvPan.func (leak_open_arg h hs hv _)) ?_
    simp
    refine RetD.panic rfl leak_Leaks_1.recClo ?_
    refine ACalls.cps [(4, .row [.int .i64 0] (s2 + 1))] (fun _ : Unit => .tup []) (fun _ => [(4, .row [.int .i64 1] (s2 + 1))]) (fun _ => True) (fun K' hK' => leak_said_ref _ _ _ _ K' (hK' () trivial)) (by simp) (fun _ => rfl) fun _ _ => ?_
    simp
    exact RetV.refl (by simp [Hul.leaksV, hv])
  replace hv := Classical.not_not.1 hv
  refine FCall.cps [(200, .dead)] (fun s : Nat => h.H 200 s) (fun s => [(200, .map [] s)]) (fun _ => True) (fun K' hK' => AInvoke.func (leak_open_ok h hs hv 200 K' fun s => hK' s trivial)) (by simp) (fun _ => rfl) trivial (fun s _ => ⟨trivial, ?_⟩)
  simp
  by_cases ht : h.truths h.every = []
  · refine FCall.panV [(200, .map (h.memo []) s)] (by simp; rfl) (AInvoke.func (leak_hull_truths_pan h hv s [] (by simp) ht)) ?_
    simp [deads]
    refine RetD.panic rfl leak_Leaks_1.recClo ?_
    refine ACalls.cps [(4, .row [.int .i64 0] (s2 + 1))] (fun _ : Unit => .tup []) (fun _ => [(4, .row [.int .i64 10] (s2 + 1))]) (fun _ => True) (fun K' hK' => leak_said_ref _ _ _ _ K' (hK' () trivial)) (by simp) (fun _ => rfl) fun _ _ => ?_
    simp
    exact RetV.refl (by simp [Hul.leaksV, hv, ht])
  have hlen := hv.ext_len h.every []
  rw [← Hul.truths_ext] at hlen
  refine FCall.truths hv (M := []) (by simp) ht (by simp; rfl) fun M2 hM2 => ?_
  obtain ⟨T, hT⟩ : ∃ T, T = h.truths h.every := ⟨_, rfl⟩
  rw [← hT] at hlen ⊢
  simp
  refine Lp.intro (σ := Nat) (inv := fun k => k ≤ T.length) (vw := fun k => [(4, .ptr 4 0 (s2+1)), (5, .int .u64 (bits (sureL (T.take k)) 6)), (6, .int .u64 (bits (canL (T.take k)) 6)), (13, LI T), (14, .int .i64 T.length), (15, .int .i64 k)])
    (hp := fun _ => [(4, .row [.int .i64 0] (s2+1))]) (ms := fun k => T.length - k) 0 (by simp) (by simp [bits, sureL, canL]) (by simp) ?_
  intro k hk J hJ
  by_cases hkc : k < T.length
  · have e1 : (fun i => sureL (T.take k) i && decide (0 < ofL T[k] i)) = sureL (T.take (k + 1)) := by
      funext i; unfold sureL; rw [← List.take_append_getElem hkc, List.all_append]; simp
    have e2 : (fun i => canL (T.take k) i || decide (0 < ofL T[k] i)) = canL (T.take (k + 1)) := by
      funext i; unfold canL; rw [← List.take_append_getElem hkc, List.any_append]; simp
    have a1 := bitsU_and (sureL (T.take k)) (fun i => decide (0 < ofL T[k] i)) (show 6 ≤ 60 by omega)
    have a2 := bitsU_or (canL (T.take k)) (fun i => decide (0 < ofL T[k] i)) (show 6 ≤ 60 by omega)
    rw [e1] at a1
    rw [e2] at a2
    have hlk := PInv.func (first := [inf (ofL T[k])]) (cap := []) (args := []) (leak_inflow_leaks_ok (ofL T[k]))
    simp [hkc]
    refine ⟨by omega, fun s3 => ?_⟩
    refine FCall.pure (v := .int .u64 (bits (fun i => decide (0 < ofL T[k] i)) 6)) hlk ?_
    simp [a1]
    refine FCall.pure (v := .int .u64 (bits (fun i => decide (0 < ofL T[k] i)) 6)) hlk ?_
    simp [a2]
    (repeat first | refine And.intro (by omega) ?_ | refine And.intro (Fits.of (by omega) (by omega)) ?_)
    exact hJ.next (k + 1) (by omega) (by omega) (by simp) (by simp)
  obtain rfl : k = T.length := by omega
  have b1 := bits_lt (canL T) 6
  have b2 := bits_lt (sureL T) 6
  have e6 : (2 : Int) ^ 6 = 64 := by decide
  simp
  refine hJ.exit ?_
  simp
  refine ⟨by unfold Fits; omega, by unfold Fits; omega, ?_⟩
  refine RetD.ret rfl leak_Leaks_1.recClo ((leak_said_nil _ _).mono ?_)
  rintro e h' ⟨rfl, rfl⟩
  simp
  refine RetV.refl ?_
  rw [hT] at *
  simp [Hul.leaksV, hv, ht]
end Go.Cw
end

/- Which hulls a law goes through. -/
section
set_option maxRecDepth 100000
set_option linter.unusedSimpArgs false
namespace Go.Cw
open Go Go.Proofs

def Hul.longB (h : Hul) : Bool := decide ((40 : Int) < max (h.seams.length : Int) (h.snds.length : Int))
theorem Hul.longB_iff {h : Hul} : h.longB = false ↔ h.Small := by
  unfold Hul.longB
  rw [decide_eq_false_iff_not]
  exact ⟨fun a => ⟨by omega, by omega⟩, fun a => by have := a.s; have := a.d; omega⟩

theorem law01_long_ok (h : Hul) : APure Pg fn_law01_long [h.v] (.bool h.longB) := by
  refine law01_long.pure (by simp) ?_
  simp
  intro s
  exact RetV.refl (by simp [Hul.longB])

/-- In how many ways seams can let in. -/
def waysL (l : List Int) : Int := l.foldl (fun n m => n * (m + 1)) 1
theorem waysL_push (l : List Int) (m : Int) : waysL (l ++ [m]) = waysL l * (m + 1) := by simp [waysL]
noncomputable def Hul.heavyB (h : Hul) (w n : Int) : Bool := if h.longB then true else if h.Valid then decide (w < waysL h.mosts) || decide (n < h.k) else false

theorem waysL_le {h : Hul} (hv : h.Valid) (k : Nat) : 1 ≤ waysL (h.mosts.take k) ∧ waysL (h.mosts.take k) ≤ ((5 ^ k : Nat) : Int) := by
  induction k with
  | zero => simp [waysL]
  | succ k ih =>
    by_cases hk : k < h.mosts.length
    · have hm := hv.most (List.getElem?_eq_getElem hk)
      rw [← List.take_append_getElem hk, waysL_push]
      obtain ⟨h1, h2⟩ := ih
      constructor
      · have : 1 * 1 ≤ waysL (h.mosts.take k) * (h.mosts[k] + 1) := Int.mul_le_mul h1 (by omega) (by omega) (by omega)
        omega
      · have : waysL (h.mosts.take k) * (h.mosts[k] + 1) ≤ ((5 ^ k : Nat) : Int) * 5 := Int.mul_le_mul h2 (by omega) (by omega) (by omega)
        rw [Nat.pow_succ, Int.natCast_mul]
        exact this
    · rw [List.take_of_length_le (by omega)] at ih ⊢
      have : (5 : Nat) ^ k ≤ 5 ^ (k + 1) := Nat.pow_le_pow_right (by omega) (by omega)
      omega

theorem law01_heavy_ok (h : Hul) (w n : Int) : APure Pg fn_law01_heavy [h.v, .int .i64 w, .int .i64 n] (.bool (h.heavyB w n)) := by
  refine law01_heavy.pure (by simp) ?_
  simp
  intro s
  refine PCallK.intro (PInv.func (law01_long_ok h)) ?_
  cases hl : h.longB with
  | true =>
    simp
    refine PCallK.intro (PInv.func (law01_long_ok h)) ?_
    simp
    exact RetV.refl (by simp [Hul.heavyB, hl])
  | false =>
  have hs := Hul.longB_iff.1 hl
  simp
  refine PCallK.intro (PInv.func (ref01_Hull_ok h hs)) ?_
  by_cases hv : ¬ h.Valid
  · simp [hv]
    refine PCallK.intro (PInv.func (law01_long_ok h)) ?_
    simp
    exact RetV.refl (by simp [Hul.heavyB, hl, hv])
  replace hv := Classical.not_not.1 hv
  have hn6 := hv.n6
  have hn : h.seams.length = h.n := rfl
  simp [hv]
  refine Lp.intro (σ := Nat) (inv := fun k => k ≤ h.n) (vw := fun k => [(1, .int .i64 w), (2, .int .i64 n), (3, .ptr 3 0 (s+1)), (7, .int .i64 (waysL (h.mosts.take k))), (20, LS h.seams), (21, .int .i64 h.n), (22, .int .i64 k)])
    (hp := fun _ => [(3, .row h.cells (s+1))]) (ms := fun k => h.n - k) 0 (by simp) (by simp [waysL, hn]) (by simp [Hul.cells]) ?_
  intro k hk J hJ
  by_cases hkc : k < h.n
  · have hkl : k < h.seams.length := hkc
    obtain ⟨a, hak⟩ : ∃ a, h.seams[k] = a := ⟨_, rfl⟩
    have hok := hv.sm a (by rw [← hak]; simp)
    unfold Hul.OkS at hok
    have htk : h.mosts.take (k + 1) = h.mosts.take k ++ [a.m] := by
      have h1 : k < h.mosts.length := by simpa using hkc
      rw [← List.take_append_getElem h1]
      simp [Hul.mosts, hak]
    have hw1 := waysL_le hv (k + 1)
    have hp : (5 : Nat) ^ (k + 1) ≤ 5 ^ 6 := Nat.pow_le_pow_right (by omega) (by omega)
    have h5 : (5 : Nat) ^ 6 = 15625 := by decide
    rw [htk, waysL_push] at hw1
    simp [Hul.cells, hkc, hkl, hak]
    refine ⟨by omega, fun s2 => ?_⟩
    (repeat first | refine And.intro (by omega) ?_ | refine And.intro (Fits.of (by omega) (by omega)) ?_)
    exact hJ.next (k + 1) (by omega) (by omega) (by simp [htk, waysL_push]) (by simp [Hul.cells])
  obtain rfl : k = h.n := by omega
  have ht : h.mosts.take h.n = h.mosts := List.take_of_length_le (by simp)
  simp [ht]
  refine hJ.exit ?_
  by_cases h1 : w < waysL h.mosts
  · simp [h1]
    exact RetV.refl (by simp [Hul.heavyB, hl, hv, h1])
  · simp [Hul.cells, h1]
    exact RetV.refl (by simp [Hul.heavyB, hl, hv, h1, Hul.k]; rfl)
end Go.Cw
end

/- The first of the least. -/
section
set_option maxRecDepth 100000
set_option linter.unusedSimpArgs false
namespace Go.Cw
open Go Go.Proofs

/-- The first of some numbers of which another number is least, and this one. -/
def bestI (g : Int → Int) : List Int → Int × Int
  | [] => (0, 0)
  | x :: l => l.foldl (fun b y => if g y < b.2 then (y, g y) else b) (x, g x)
theorem bestI_push (g : Int → Int) (l : List Int) (y : Int) (hl : l ≠ []) : bestI g (l ++ [y]) = if g y < (bestI g l).2 then (y, g y) else bestI g l := by
  obtain ⟨a, l', rfl⟩ := List.exists_cons_of_ne_nil hl
  show List.foldl _ _ (l' ++ [y]) = _
  rw [List.foldl_append]
  rfl

theorem leak_best_int_ok (l : List Int) (hl : l.length ≤ 100000) (f : AVal) (g : Int → Int) (hf : ∀ x ∈ l, PInv Pg f [.int .i64 x] (.int .i64 (g x))) : APure Pg fn_leak_best_int [L l, .agg [f]] (.tup [.int .i64 (bestI g l).1, .int .i64 (bestI g l).2]) := by
  refine leak_best_int.pure (by simp) ?_
  simp
  intro s
  refine Lp.intro (σ := Nat) (inv := fun k => k ≤ l.length) (vw := fun k => [(3, .ptr 3 0 (s+1)), (4, .int .i64 (bestI g (l.take k)).1), (5, .int .i64 (bestI g (l.take k)).2), (9, L l), (10, .int .i64 l.length), (11, .int .i64 k)])
    (hp := fun _ => [(3, .row [f] (s+1))]) (ms := fun k => l.length - k) 0 (by simp) (by simp [bestI]) (by simp) ?_
  intro k hk J hJ
  by_cases hkc : k < l.length
  · have hfk := hf l[k] (by simp)
    have htk : l.take (k + 1) = l.take k ++ [l[k]] := (List.take_append_getElem hkc).symm
    simp [hkc]
    refine FCall.pure hfk ?_
    by_cases hk0 : k = 0
    · subst hk0
      have e : bestI g (l.take 1) = (l[0], g l[0]) := by rw [htk]; simp [bestI]
      simp
      (repeat first | refine And.intro (by omega) ?_ | refine And.intro (Fits.of (by omega) (by omega)) ?_)
      exact hJ.next 1 (by omega) (by omega) (by simp [e]) (by simp)
    · have hne : l.take k ≠ [] := by intro h; have := congrArg List.length h; rw [List.length_take] at this; simp only [List.length_nil] at this; omega
      have e := bestI_push g (l.take k) l[k] hne
      rw [← htk] at e
      by_cases hlt : g l[k] < (bestI g (l.take k)).2
      · rw [if_pos hlt] at e
        simp [hk0, hlt]
        (repeat first | refine And.intro (by omega) ?_ | refine And.intro (Fits.of (by omega) (by omega)) ?_)
        exact hJ.next (k + 1) (by omega) (by omega) (by simp [e]) (by simp)
      · rw [if_neg hlt] at e
        simp [hk0, hlt]
        (repeat first | refine And.intro (by omega) ?_ | refine And.intro (Fits.of (by omega) (by omega)) ?_)
        exact hJ.next (k + 1) (by omega) (by omega) (by simp [e]) (by simp)
  obtain rfl : k = l.length := by omega
  simp
  refine hJ.exit ?_
  simp
  exact RetV.refl rfl
end Go.Cw
end

/- Which seams can leak together: the program tells it. -/
section
set_option maxRecDepth 100000
set_option linter.unusedSimpArgs false
namespace Go.Cw
open Go Go.Proofs

/-- The sets that were seen, in the order in which they were. -/
def seenK (l : List (List Int)) : List Int := l.foldl (fun M t => insK (leaksT t) M) []
theorem seenK_push (l : List (List Int)) (t : List Int) : seenK (l ++ [t]) = insK (leaksT t) (seenK l) := by simp [seenK]
theorem seenK_nodup (l : List (List Int)) (k : Nat) : (seenK (l.take k)).Nodup := by
  induction k with
  | zero => simp [seenK]
  | succ k ih =>
    by_cases hk : k < l.length
    · rw [← List.take_append_getElem hk, seenK_push]; exact nodup_insK ih
    · rw [List.take_of_length_le (by omega)] at ih ⊢; exact ih
theorem seenK_mem (l : List (List Int)) (k : Nat) (s : Int) : s ∈ seenK (l.take k) ↔ ∃ t ∈ l.take k, leaksT t = s := by
  induction k with
  | zero => simp [seenK]
  | succ k ih =>
    by_cases hk : k < l.length
    · rw [← List.take_append_getElem hk, seenK_push, mem_insK, ih]
      constructor
      · rintro (⟨t, h1, h2⟩ | h)
        · exact ⟨t, List.mem_append_left _ h1, h2⟩
        · exact ⟨l[k], List.mem_append_right _ (by simp), h.symm⟩
      · rintro ⟨t, h1, h2⟩
        rcases List.mem_append.1 h1 with h | h
        · exact .inl ⟨t, h, h2⟩
        · obtain rfl : t = l[k] := by simpa using h
          exact .inr h2.symm
    · rw [List.take_of_length_le (by omega)] at ih ⊢; exact ih
theorem seenK_len (l : List (List Int)) (k : Nat) : (seenK (l.take k)).length ≤ k := by
  induction k with
  | zero => simp [seenK]
  | succ k ih =>
    by_cases hk : k < l.length
    · rw [← List.take_append_getElem hk, seenK_push]; have := (insK_le (leaksT l[k]) (seenK (l.take k))).2; omega
    · rw [List.take_of_length_le (by omega)] at ih ⊢; omega

theorem leaks6 {h : Hul} (hv : h.Valid) {q : Int} {t : List Int} (ht : t ∈ h.truths q) : bits (fun i => decide (0 < ofL t i)) 6 = leaksT t := by
  have hl := (truths_in hv ht).1
  have h6 := hv.n6
  unfold leaksT
  refine bits_more (by omega) fun i hi _ => ?_
  simp [ofL, hi]

/-- The sets that are told. -/
def Hul.setsL (h : Hul) : List Int := sortI (seenK (h.truths h.every))

theorem leak_hull_sets_ok (h : Hul) (hv : h.Valid) (s : Nat) (M : List (List Int)) (hM : ∀ l ∈ M, l.length = 2) (ht : h.truths h.every ≠ [])
    (K : AEnd → Heap → Prop) (hK : ∀ M' s', (∀ l ∈ M', l.length = 2) → K (.ret (.sl 900 0 s' h.setsL.length (.ex h.setsL.length))) (hpV [(200, .map (h.memo M') s), (900, .row (ints h.setsL) s')])) :
    ACalls Pg fn_leak_hull_sets [h.H 200 s] (hpV [(200, .map (h.memo M) s), (900, .dead)]) K := by
  have hlen := hv.ext_len h.every []
  rw [← Hul.truths_ext] at hlen
  refine leak_hull_sets.enter 0 (by simp) ?_
  simp
  intro s1
  refine FCall.truths hv (M := M) hM ht (by simp) fun M2 hM2 => ?_
  obtain ⟨T, hT⟩ : ∃ T, T = h.truths h.every := ⟨_, rfl⟩
  have hin : ∀ t ∈ T, bits (fun i => decide (0 < ofL t i)) 6 = leaksT t := fun t ht => leaks6 hv (hT ▸ ht)
  rw [← hT] at hlen ⊢
  simp
  refine Lp.intro (σ := Nat) (inv := fun k => k ≤ T.length) (vw := fun k => [(3, .map 9 (s1+1)), (11, LI T), (12, .int .i64 T.length), (13, .int .i64 k)])
    (hp := fun k => [(200, .map (h.memo M2) s), (9, .map (entsK (fun n : Int => AVal.int .u64 n) (fun _ => .bool true) (seenK (T.take k))) (s1+1))]) (ms := fun k => T.length - k) 0 (by simp) (by simp) (by simp [seenK]) ?_
  intro k hk J hJ
  by_cases hkc : k < T.length
  · have hlk := hin T[k] (by simp)
    have hpk := leak_inflow_leaks_ok (ofL T[k])
    rw [hlk] at hpk
    simp [hkc]
    refine ⟨by omega, fun s3 => ?_⟩
    refine PCallK.intro (PInv.func hpk) ?_
    simp
    refine osat_iff.2 ⟨_, mapU_K (keyLaw_int .u64) (k := leaksT T[k]) (M := seenK (T.take k)) (f := fun _ => .bool true) (f' := fun _ => .bool true) (m := 9) (s := s1 + 1) (seenK_nodup T k) ?_ (by simp) (by simp) (by simp) (fun _ _ _ => rfl), ?_⟩
    · simp
    rw [← seenK_push, List.take_append_getElem hkc]
    simp
    (repeat first | refine And.intro (by omega) ?_ | refine And.intro (Fits.of (by omega) (by omega)) ?_)
    exact hJ.next (k + 1) (by omega) (by omega) (by simp) (by simp)
  obtain rfl : k = T.length := by omega
  have hnd := seenK_nodup T T.length
  have hsl := seenK_len T T.length
  rw [List.take_length] at hnd hsl
  simp
  refine hJ.exit ?_
  simp
  intro s4
  refine ⟨by omega, fun s5 => ?_⟩
  obtain ⟨C, hC⟩ : ∃ C, C = seenK T := ⟨_, rfl⟩
  rw [← hC] at hnd hsl ⊢
  refine Lp.intro (σ := List Int × List Nat × Option Nat) (inv := fun t => (t.1 ++ keysAt C t.2.1).Perm C)
    (vw := fun t => [(6, .sl 23 0 (s4+1) t.1.length (.ex C.length)), (25, .ptr 25 0 (s5+1))])
    (hp := fun t => [(200, .map (h.memo M2) s), (9, .map (entsK (fun n : Int => AVal.int .u64 n) (fun _ => .bool true) C) (s1+1)), (23, .row (ints (t.1 ++ List.replicate (C.length - t.1.length) 0)) (s4+1)), (25, .iter (some (9, s1+1)) C.length t.2.1 t.2.2 (s5+1))])
    (ms := fun t => C.length - t.1.length) ([], List.range C.length, none) (by simp [keysAt_range]) (by simp) (by simp [ints]) ?_
  have hCb : ∀ x ∈ C, 0 ≤ x ∧ x < 64 := by
    intro x hx
    rw [hC] at hx
    obtain ⟨t, h1, h2⟩ := (seenK_mem T T.length x).1 (by rwa [List.take_length])
    have h3 : t ∈ T := List.mem_of_mem_take h1
    have h4 := bits_lt (fun i => decide (0 < ofL t i)) 6
    rw [hin t h3, h2] at h4
    exact h4
  rintro ⟨D, left, cur⟩ hp J hJ
  have hpl := hp.length_eq
  rw [List.length_append] at hpl
  simp only at hpl
  simp
  refine xNextM_K rfl (fun hl => ?_) (fun i k hi hk => ?_)
  · subst hl
    have hD : D.Perm C := by simpa [keysAt] using hp
    simp
    refine hJ.exit ?_
    simp
    intro s6
    (repeat first | refine And.intro (by omega) ?_ | refine And.intro (Fits.of (by omega) (by omega)) ?_)
    refine FCall.cps (σ := Unit) [(37, .row (ints D) (s6 + 1))] (fun _ => .tup []) (fun _ => [(37, .row (ints (sortI D)) (s6 + 1))]) (fun _ => True) (fun K k => AInvoke.func (slices_Sort_int_int.c (by omega) (k () trivial))) (by simp) (fun _ => rfl) trivial (fun _ _ => ⟨trivial, ?_⟩)
    have hsd : sortI D = sortI C := sortI_congr hD
    have hsn : (sortI C).length = D.length := by rw [← hsd, sortI_length]
    simp [hsd]
    refine RetV.move 37 900 (RetV.view [(200, .map (h.memo M2) s), (900, .row (ints h.setsL) (s6+1))] ?_ ?_)
    · simp [Hul.setsL, ← hT, ← hC]
    have := hK M2 (s6+1) hM2
    have e : h.setsL.length = D.length := by rw [← hsn, hC, hT]; rfl
    rw [e] at this
    simpa using this
  · have hk1 := keysAt_step hi hk hp
    have hkl : (D ++ [k]).length ≤ C.length := by rw [← hk1.length_eq]; simp
    simp only [List.length_append, List.length_cons, List.length_nil] at hkl
    have hkb := hCb k (List.mem_of_getElem? hk)
    have hset : setRange (ints (D ++ List.replicate (C.length - D.length) 0)) D.length [.int .i64 k] = ints (D ++ [k] ++ List.replicate (C.length - (D.length + 1)) 0) := by
      exact setRange_fill k hkl
    simp
    refine ⟨_, _, by rw [entsK_get, hk]; rfl, ?_⟩
    simp
    refine ⟨by unfold Fits; omega, ?_⟩
    intro s6 s7
    refine ⟨by omega, fun _ => ⟨by omega, ?_⟩, fun hx => by omega⟩
    rw [hset]
    exact hJ.next (D ++ [k], left.erase i, some i) hk1 (by simp; omega) (by simp) (by simp)
end Go.Cw
end

/- Sets and Fewest: the program tells them. -/
section
set_option maxRecDepth 100000
set_option linter.unusedSimpArgs false
namespace Go.Cw
open Go Go.Proofs

theorem leak_hull_sets_pan (h : Hul) (hv : h.Valid) (s : Nat) (M : List (List Int)) (hM : ∀ l ∈ M, l.length = 2) (ht : h.truths h.every = []) :
    ACalls Pg fn_leak_hull_sets [h.H 200 s] (hpV [(200, .map (h.memo M) s)]) fun e _ => e = .pan (refV 10) := by
  refine leak_hull_sets.enter 0 (by simp) ?_
  simp
  intro s1
  refine FCall.panV [(200, .map (h.memo M) s)] (by simp) (AInvoke.func (leak_hull_truths_pan h hv s M hM ht)) ?_
  simp [deads]
  exact ⟨_, HLe.refl _, trivial⟩

theorem leak_Sets_gen (h : Hul) (hs : h.Small) (hv : h.Valid) (ht : h.truths h.every ≠ []) (K : AEnd → Heap → Prop)
    (hK : ∀ s', RetV K (hpV [(900, .row (ints h.setsL) s')]) (.tup [.sl 900 0 s' h.setsL.length (.ex h.setsL.length), .int .i64 0])) : ACalls Pg fn_leak_Sets [h.v] (hpV [(900, .dead)]) K := by
  refine leak_Sets.enter 0 (by simp) ?_
  simp
  intro s1 s2
  refine FCall.cps [(200, .dead)] (fun s : Nat => h.H 200 s) (fun s => [(200, .map [] s)]) (fun _ => True) (fun K' hK' => AInvoke.func (leak_open_ok h hs hv 200 K' fun s => hK' s trivial)) (by simp) (fun _ => rfl) trivial (fun s _ => ⟨trivial, ?_⟩)
  simp
  refine FCall.cps [(200, .map (h.memo []) s), (900, .dead)] (fun t : {M' : List (List Int) // ∀ l ∈ M', l.length = 2} × Nat => .sl 900 0 t.2 h.setsL.length (.ex h.setsL.length)) (fun t => [(200, .map (h.memo t.1.1) s), (900, .row (ints h.setsL) t.2)]) (fun _ => True)
    (fun K' hK' => AInvoke.func ?_) (by simp; rfl) (fun _ => rfl) trivial (fun t _ => ⟨trivial, ?_⟩)
  · exact leak_hull_sets_ok h hv s [] (by simp) ht K' fun M' s' hM' => hK' (⟨M', hM'⟩, s') trivial
  simp
  refine RetD.ret rfl leak_Sets_1.recClo ((leak_said_nil _ _).mono ?_)
  rintro e h' ⟨rfl, rfl⟩
  simp
  exact RetV.le (VLe.wk (HLe.view (k := [(900, .row (ints h.setsL) t.2)]) (by simp))) (hK t.2)

noncomputable def Hul.setsV (h : Hul) : AVal := if h.Valid then (if h.truths h.every = [] then .tup [L [], .int .i64 10] else .tup [L h.setsL, .int .i64 0]) else .tup [L [], .int .i64 1]

theorem leak_Sets_ok (h : Hul) (hs : h.Small) : APure Pg fn_leak_Sets [h.v] h.setsV := by
  by_cases hv : ¬ h.Valid
  · refine leak_Sets.pure (by simp) ?_
    simp
    intro s1 s2
    refine FCall.pan (PInvPan.func (leak_open_arg h hs hv _)) ?_
    simp
    refine RetD.panic rfl leak_Sets_1.recClo ?_
    refine ACalls.cps [(3, .row [.int .i64 0] (s2 + 1))] (fun _ : Unit => .tup []) (fun _ => [(3, .row [.int .i64 1] (s2 + 1))]) (fun _ => True) (fun K' hK' => leak_said_ref _ _ _ _ K' (hK' () trivial)) (by simp) (fun _ => rfl) fun _ _ => ?_
    simp
    exact RetV.ale (v' := .tup [L [], .int .i64 1]) (ALe.tup ⟨ALe.nils_vl, ALe.refl _, trivial⟩) (RetV.refl (by simp [Hul.setsV, hv]))
  replace hv := Classical.not_not.1 hv
  by_cases ht : h.truths h.every = []
  · refine leak_Sets.pure (by simp) ?_
    simp
    intro s1 s2
    refine FCall.cps [(200, .dead)] (fun s : Nat => h.H 200 s) (fun s => [(200, .map [] s)]) (fun _ => True) (fun K' hK' => AInvoke.func (leak_open_ok h hs hv 200 K' fun s => hK' s trivial)) (by simp) (fun _ => rfl) trivial (fun s _ => ⟨trivial, ?_⟩)
    simp
    refine FCall.panV [(200, .map (h.memo []) s)] (by simp; rfl) (AInvoke.func (leak_hull_sets_pan h hv s [] (by simp) ht)) ?_
    simp [deads]
    refine RetD.panic rfl leak_Sets_1.recClo ?_
    refine ACalls.cps [(3, .row [.int .i64 0] (s2 + 1))] (fun _ : Unit => .tup []) (fun _ => [(3, .row [.int .i64 10] (s2 + 1))]) (fun _ => True) (fun K' hK' => leak_said_ref _ _ _ _ K' (hK' () trivial)) (by simp) (fun _ => rfl) fun _ _ => ?_
    simp
    exact RetV.ale (v' := .tup [L [], .int .i64 10]) (ALe.tup ⟨ALe.nils_vl, ALe.refl _, trivial⟩) (RetV.refl (by simp [Hul.setsV, hv, ht]))
  refine APure.of_nil ?_
  rw [← hpV_dead1 900]
  refine leak_Sets_gen h hs hv ht _ fun s' => ?_
  refine RetV.frz 900 rfl ?_
  simp
  exact RetV.refl (by simp [Hul.setsV, hv, ht]; rfl)

theorem leak_Fewest_2_ok (x : Int) (hx : 0 ≤ x ∧ x < 64) : APure Pg fn_leak_Fewest_2 [.int .i64 x] (.int .i64 (sizeS x)) := by
  refine leak_Fewest_2.pure (by simp) ?_
  have hw := wrap_u64 (n := x) (by omega) (by omega)
  simp [hw]
  refine PCallK.intro (PInv.func (math_OnesCount_ok x (by omega))) ?_
  simp
  exact RetV.refl rfl

theorem Hul.setsL_in {h : Hul} (hv : h.Valid) {x : Int} (hx : x ∈ h.setsL) : 0 ≤ x ∧ x < 64 := by
  have h1 := (sortI_perm _).mem_iff.1 hx
  obtain ⟨t, h2, h3⟩ := (seenK_mem (h.truths h.every) (h.truths h.every).length x).1 (by rwa [List.take_length])
  have h4 : t ∈ h.truths h.every := List.mem_of_mem_take h2
  have h5 := bits_lt (fun i => decide (0 < ofL t i)) 6
  rw [leaks6 hv h4, h3] at h5
  exact h5

theorem Hul.setsL_len {h : Hul} (hv : h.Valid) : h.setsL.length ≤ 15625 := by
  have := seenK_len (h.truths h.every) (h.truths h.every).length
  rw [List.take_length] at this
  have hlen := hv.ext_len h.every []
  rw [← Hul.truths_ext] at hlen
  unfold Hul.setsL
  rw [sortI_length]
  omega

noncomputable def Hul.fewV (h : Hul) : AVal := if h.Valid then (if h.truths h.every = [] then .tup [.int .i64 0, .int .i64 0, .int .i64 10] else .tup [.int .i64 (bestI sizeS h.setsL).2, .int .i64 (bestI sizeS h.setsL).1, .int .i64 0]) else .tup [.int .i64 0, .int .i64 0, .int .i64 1]

theorem leak_Fewest_ok (h : Hul) (hs : h.Small) : APure Pg fn_leak_Fewest [h.v] h.fewV := by
  refine leak_Fewest.pure (by simp) ?_
  simp
  intro s1 s2
  by_cases hv : ¬ h.Valid
  · refine FCall.pan (PInvPan.func (leak_open_arg h hs hv _)) ?_
    simp
    refine RetD.panic rfl leak_Fewest_1.recClo ?_
    refine ACalls.cps [(4, .row [.int .i64 0] (s2 + 1))] (fun _ : Unit => .tup []) (fun _ => [(4, .row [.int .i64 1] (s2 + 1))]) (fun _ => True) (fun K' hK' => leak_said_ref _ _ _ _ K' (hK' () trivial)) (by simp) (fun _ => rfl) fun _ _ => ?_
    simp
    exact RetV.refl (by simp [Hul.fewV, hv])
  replace hv := Classical.not_not.1 hv
  refine FCall.cps [(200, .dead)] (fun s : Nat => h.H 200 s) (fun s => [(200, .map [] s)]) (fun _ => True) (fun K' hK' => AInvoke.func (leak_open_ok h hs hv 200 K' fun s => hK' s trivial)) (by simp) (fun _ => rfl) trivial (fun s _ => ⟨trivial, ?_⟩)
  simp
  by_cases ht : h.truths h.every = []
  · refine FCall.panV [(200, .map (h.memo []) s)] (by simp; rfl) (AInvoke.func (leak_hull_sets_pan h hv s [] (by simp) ht)) ?_
    simp [deads]
    refine RetD.panic rfl leak_Fewest_1.recClo ?_
    refine ACalls.cps [(4, .row [.int .i64 0] (s2 + 1))] (fun _ : Unit => .tup []) (fun _ => [(4, .row [.int .i64 10] (s2 + 1))]) (fun _ => True) (fun K' hK' => leak_said_ref _ _ _ _ K' (hK' () trivial)) (by simp) (fun _ => rfl) fun _ _ => ?_
    simp
    exact RetV.refl (by simp [Hul.fewV, hv, ht])
  refine FCall.cps [(200, .map (h.memo []) s), (900, .dead)] (fun t : {M' : List (List Int) // ∀ l ∈ M', l.length = 2} × Nat => .sl 900 0 t.2 h.setsL.length (.ex h.setsL.length)) (fun t => [(200, .map (h.memo t.1.1) s), (900, .row (ints h.setsL) t.2)]) (fun _ => True)
    (fun K' hK' => AInvoke.func ?_) (by simp; rfl) (fun _ => rfl) trivial (fun t _ => ⟨trivial, ?_⟩)
  · exact leak_hull_sets_ok h hv s [] (by simp) ht K' fun M' s' hM' => hK' (⟨M', hM'⟩, s') trivial
  simp
  refine FCall.frz1 900 (cells := ints h.setsL) (s := t.2) (by simp) (v := .tup [.int .i64 (bestI sizeS h.setsL).1, .int .i64 (bestI sizeS h.setsL).2]) ?_ trivial ?_
  · simp
    exact PInv.func (leak_best_int_ok h.setsL (by have := Hul.setsL_len hv; omega) (.func (.func fn_leak_Fewest_2) [] []) sizeS fun x hx => PInv.func (leak_Fewest_2_ok x (Hul.setsL_in hv hx)))
  simp
  refine RetD.ret rfl leak_Fewest_1.recClo ((leak_said_nil _ _).mono ?_)
  rintro e h' ⟨rfl, rfl⟩
  simp
  exact RetV.refl (by simp [Hul.fewV, hv, ht])
end Go.Cw
end

/- The first of the least, of places, by a function that turns rows. -/
section
set_option maxRecDepth 100000
set_option linter.unusedSimpArgs false
namespace Go.Cw
open Go Go.Proofs

def bestP (g : Int × Int → Int) : List (Int × Int) → (Int × Int) × Int
  | [] => ((0, 0), 0)
  | x :: l => l.foldl (fun b y => if g y < b.2 then (y, g y) else b) (x, g x)
theorem bestP_push (g : Int × Int → Int) (l : List (Int × Int)) (y : Int × Int) (hl : l ≠ []) : bestP g (l ++ [y]) = if g y < (bestP g l).2 then (y, g y) else bestP g l := by
  obtain ⟨a, l', rfl⟩ := List.exists_cons_of_ne_nil hl
  show List.foldl _ _ (l' ++ [y]) = _
  rw [List.foldl_append]
  rfl

def PL (p : Int × Int) : AVal := .agg [.int .i64 p.1, .int .i64 p.2]

theorem leak_best_place_ok (l : List (Int × Int)) (hl : l.length ≤ 100000) (f : AVal) (g : Int × Int → Int)
    {τ : Type} (row : τ → List (Nat × AObj)) (hb : RowsB row 300)
    (hf : ∀ x ∈ l, ∀ t (K : AEnd → Heap → Prop), (∀ t', K (.ret (.int .i64 (g x))) (hpV (row t'))) → AInvoke Pg f [PL x] (hpV (row t)) K)
    (t₀ : τ) (K : AEnd → Heap → Prop) (hK : ∀ t, K (.ret (.tup [PL (bestP g l).1, .int .i64 (bestP g l).2])) (hpV (row t))) :
    ACalls Pg fn_leak_best_leak_place [LP l, .agg [f]] (hpV (row t₀)) K := by
  refine leak_best_leak_place.enter 300 (by simp) ?_
  simp
  intro s3 s4
  refine Lp.intro (σ := Nat × τ) (inv := fun x => x.1 ≤ l.length) (vw := fun x => [(3, .ptr 303 0 (s3+1)), (4, .ptr 304 0 (s4+1)), (5, .int .i64 (bestP g (l.take x.1)).2), (9, LP l), (10, .int .i64 l.length), (11, .int .i64 x.1)])
    (hp := fun x => (303, .row [f] (s3+1)) :: (304, .row [.int .i64 (bestP g (l.take x.1)).1.1, .int .i64 (bestP g (l.take x.1)).1.2] (s4+1)) :: row x.2) (ms := fun x => l.length - x.1) (0, t₀) (by simp) (by simp [bestP]) (by simp [bestP, hb.upd, hb.self]) ?_
  rintro ⟨k, t⟩ hk J hJ
  simp at hk
  by_cases hkc : k < l.length
  · have htk : l.take (k + 1) = l.take k ++ [l[k]] := (List.take_append_getElem hkc).symm
    simp [hkc]
    refine ⟨by omega, fun s5 => ?_⟩
    refine FCall.cps (σ := τ) (row t) (fun _ => .int .i64 (g l[k])) row (fun _ => True) (fun K' hK' => hf l[k] (by simp) t K' fun t' => hK' t' trivial) (by simp [hb.upd, hb.self]) (fun t' => hb.hn _ _) trivial (fun t' _ => ⟨trivial, ?_⟩)
    by_cases hk0 : k = 0
    · subst hk0
      have e : bestP g (l.take 1) = (l[0], g l[0]) := by rw [htk]; simp [bestP]
      simp [hb.updL]
      (repeat first | refine And.intro (by omega) ?_ | refine And.intro (Fits.of (by omega) (by omega)) ?_)
      exact hJ.next (1, t') (by simp; omega) (by simp; omega) (by simp [e]) (by simp [e, hb.upd, hb.updL, hb.updL_self])
    · have hne : l.take k ≠ [] := by intro h; have := congrArg List.length h; rw [List.length_take] at this; simp only [List.length_nil] at this; omega
      have e := bestP_push g (l.take k) l[k] hne
      rw [← htk] at e
      by_cases hlt : g l[k] < (bestP g (l.take k)).2
      · rw [if_pos hlt] at e
        simp [hk0, hlt, hb.updL]
        (repeat first | refine And.intro (by omega) ?_ | refine And.intro (Fits.of (by omega) (by omega)) ?_)
        exact hJ.next (k + 1, t') (by simp; omega) (by simp; omega) (by simp [e]) (by simp [e, hb.upd, hb.updL, hb.updL_self])
      · rw [if_neg hlt] at e
        simp [hk0, hlt, hb.updL]
        (repeat first | refine And.intro (by omega) ?_ | refine And.intro (Fits.of (by omega) (by omega)) ?_)
        exact hJ.next (k + 1, t') (by simp; omega) (by simp; omega) (by simp [e]) (by simp [e, hb.upd, hb.updL, hb.updL_self])
  obtain rfl : k = l.length := by omega
  simp
  refine hJ.exit ?_
  simp
  refine RetV.view (row t) (by simp [hb.upd, hb.self]) ?_
  simpa [PL] using hK t
end Go.Cw
end

/- How many truths are left at worst behind a sounding: the program counts them. -/
section
set_option maxRecDepth 100000
set_option linter.unusedSimpArgs false
namespace Go.Cw
open Go Go.Proofs

/-- How often each stands in a list, at most. -/
def mostL (l : List Int) : Int := maxL (l.map fun n => (l.count n : Int))
/-- How many truths are left at worst, if the seams of a set are under water. -/
def worstT (T : List (List Int)) (w : Int) : Int := mostL (T.map (Hul.sumT · w))

theorem mostL_keys (l : List Int) {D : List Int} (h : D.Perm (keysOf l)) : maxL (D.map fun n => (l.count n : Int)) = mostL l := by
  refine maxL_eq fun x => ?_
  simp only [List.mem_map]
  constructor
  · rintro ⟨n, h1, h2⟩; exact ⟨n, (keysOf_mem l n).1 (h.mem_iff.1 h1), h2⟩
  · rintro ⟨n, h1, h2⟩; exact ⟨n, h.mem_iff.2 ((keysOf_mem l n).2 h1), h2⟩

/-- What is kept while the best sounding is looked for. -/
def nextRow (h : Hul) (T : List (List Int)) (s a b c d : Nat) (t : {W : List Int // W.Nodup} × {M : List (List Int) // ∀ l ∈ M, l.length = 2}) : List (Nat × AObj) :=
  [(6, .row [h.H 200 s] a), (11, .row [.map 33 b] c), (7, .row [LI T] d), (33, .map (entsK (fun n : Int => AVal.int .u64 n) (fun w => .int .i64 (worstT T w)) t.1.1) b), (200, .map (h.memo t.2.1) s)]
theorem nextRow_b (h : Hul) (T : List (List Int)) (s a b c d : Nat) : RowsB (nextRow h T s a b c d) 300 := ⟨fun _ _ => rfl, fun t x hx => by simp [nextRow] at hx; omega, fun t => by simp [nextRow]⟩

theorem leak_Next_2_ok (h : Hul) (hv : h.Valid) (T : List (List Int)) (hT : T = h.truths h.every) (ht : T ≠ []) (s a b c d : Nat) (x : Int × Int) (hx : Hul.At x.1 x.2) (t : {W : List Int // W.Nodup} × {M : List (List Int) // ∀ l ∈ M, l.length = 2})
    (K : AEnd → Heap → Prop) (hK : ∀ t', K (.ret (.int .i64 (worstT T (h.wet x.1 x.2)))) (hpV (nextRow h T s a b c d t'))) :
    ACalls Pg fn_leak_Next_2 [PL x, .ptr 6 0 a, .ptr 11 0 c, .ptr 7 0 d] (hpV (nextRow h T s a b c d t)) K := by
  have hlen := hv.ext_len h.every []
  rw [← Hul.truths_ext, ← hT] at hlen
  obtain ⟨⟨W, hW⟩, ⟨M, hM⟩⟩ := t
  have hwb := Hul.wet62 hv x.1 x.2
  refine leak_Next_2.enter 300 (by simp) ?_
  simp [nextRow, PL]
  intro s4
  refine FCall.wet hv hx (M := M) hM (by simp) trivial fun M2 hM2 => ⟨trivial, ?_⟩
  obtain ⟨w, hw⟩ : ∃ w, w = h.wet x.1 x.2 := ⟨_, rfl⟩
  rw [← hw] at hwb hK ⊢
  have hlk : ∀ (hh : Heap) (M : List Int) (f : Int → AVal) (sb : Nat), hh 33 = .map (entsK (fun n : Int => AVal.int .u64 n) f M) sb → ∀ zero, aLookup hh (false, [.i]) true zero (.map 33 sb) (.int .u64 w) = some (if w ∈ M then .tup [f w, .bool true] else .tup [zero, .bool false]) :=
    fun hh M f sb h1 zero => aLookup_K (keyLaw_int .u64) (k := w) h1 zero
  have hlk1 : ∀ (hh : Heap) (M : List Int) (f : Int → AVal) (sb : Nat), hh 33 = .map (entsK (fun n : Int => AVal.int .u64 n) f M) sb → ∀ zero, aLookup hh (false, [.i]) false zero (.map 33 sb) (.int .u64 w) = some (if w ∈ M then f w else zero) :=
    fun hh M f sb h1 zero => aLookup_K1 (keyLaw_int .u64) (k := w) h1 zero
  simp
  rw [hlk _ W (fun w => .int .i64 (worstT T w)) b (by simp)]
  by_cases hwW : w ∈ W
  · simp [hwW]
    refine RetV.view (nextRow h T s a b c d (⟨W, hW⟩, ⟨M2, hM2⟩)) (by simp [nextRow]) (hK _)
  simp [hwW]
  intro sm
  obtain ⟨N, hN⟩ : ∃ N, N = T.map (Hul.sumT · w) := ⟨_, rfl⟩
  have hNl : N.length = T.length := by rw [hN]; simp
  refine Lp.intro (σ := Nat) (inv := fun k => k ≤ T.length) (vw := fun k => [(2, .ptr 11 0 c), (6, .int .u64 w), (9, .map 325 (sm+1)), (26, LI T), (27, .int .i64 T.length), (28, .int .i64 k)])
    (hp := fun k => (325, .map (entsK (fun n : Int => AVal.int .i64 n) (fun n => .int .i64 ((N.take k).count n : Nat)) (keysOf (N.take k))) (sm+1)) :: nextRow h T s a b c d (⟨W, hW⟩, ⟨M2, hM2⟩)) (ms := fun k => T.length - k) 0 (by simp) (by simp) (by simp [nextRow]) ?_
  intro k hk J hJ
  by_cases hkc : k < T.length
  · have hkN : k < N.length := by omega
    have hmem : T[k] ∈ h.truths h.every := by rw [← hT]; simp
    have hin := truths_in hv hmem
    have hsum := leak_inflow_sum_ok (ofL T[k]) (fun i _ => by have := hin.2 i; omega) w hwb
    rw [sumT_six hv hmem w] at hsum
    have hNk : N[k] = Hul.sumT T[k] w := by simp [hN]
    rw [← hNk] at hsum
    have htk : N.take (k + 1) = N.take k ++ [N[k]] := (List.take_append_getElem hkN).symm
    have hc1 : (N.take (k + 1)).count N[k] = (N.take k).count N[k] + 1 := by rw [htk, List.count_append]; simp
    have hc2 : ∀ x, x ≠ N[k] → (N.take (k + 1)).count x = (N.take k).count x := by
      intro x hx
      rw [htk, List.count_append, List.count_singleton]
      have : (N[k] == x) = false := by simpa using Ne.symm hx
      simp [this]
    have hcnt : (N.take k).count N[k] ≤ 15625 := by have := List.count_le_length (a := N[k]) (l := N.take k); rw [List.length_take] at this; omega
    have h6k : 6 ≤ (T.length - k) * 6 := by omega
    simp [hkc, nextRow]
    refine ⟨by omega, fun s5 => ?_⟩
    refine PCallK.intro (PInv.func hsum) ?_
    simp
    rw [aLookup_K1 (keyLaw_int .i64) (k := N[k]) (M := keysOf (N.take k)) (f := fun n => .int .i64 ((N.take k).count n : Nat)) (by simp)]
    have hz : (if N[k] ∈ keysOf (N.take k) then AVal.int .i64 ((N.take k).count N[k] : Nat) else AVal.int .i64 0) = .int .i64 ((N.take k).count N[k] : Nat) := by
      split
      · rfl
      · rename_i hn
        rw [keysOf_mem] at hn
        rw [List.count_eq_zero_of_not_mem hn]; rfl
    simp only [hz]
    simp
    refine ⟨Fits.of (by omega) (by omega), ?_⟩
    refine osat_iff.2 ⟨_, mapU_K (keyLaw_int .i64) (k := N[k]) (M := keysOf (N.take k)) (f := fun n => .int .i64 ((N.take k).count n : Nat)) (f' := fun n => .int .i64 ((N.take (k + 1)).count n : Nat)) (m := 325) (s := sm + 1) (keysOf_nodup _) ?_ (by simp) (by simp) ?_ (fun x _ hx => ?_), ?_⟩
    · simp
    · simp [hc1]
    · simp [hc2 x hx]
    rw [← keysOf_push, ← htk]
    simp
    (repeat first | refine And.intro (by omega) ?_ | refine And.intro (Fits.of (by omega) (by omega)) ?_)
    exact hJ.next (k + 1) (by omega) (by omega) (by simp) (by simp [nextRow])
  obtain rfl : k = T.length := by omega
  have htN : N.take T.length = N := List.take_of_length_le (by omega)
  simp
  refine hJ.exit ?_
  rw [htN]
  simp [nextRow]
  intro s5
  obtain ⟨C, hC⟩ : ∃ C, C = keysOf N := ⟨_, rfl⟩
  rw [← hC]
  have hC0 : C ≠ [] := by
    have h0 : 0 < N.length := by rw [hNl]; exact List.length_pos_iff.2 ht
    have := (keysOf_mem N N[0]).2 (by simp)
    rw [← hC] at this
    intro e; rw [e] at this; simp at this
  have hmw : maxL (C.map fun n => (N.count n : Int)) = worstT T w := by
    rw [mostL_keys N (by rw [hC])]
    unfold worstT
    rw [← hN]
  obtain ⟨KD, hKD⟩ : ∃ KD : List Int → List Int, KD = fun D => if D = [] then W else insK w W := ⟨_, rfl⟩
  obtain ⟨FD, hFD⟩ : ∃ FD : List Int → Int → AVal, FD = fun D y => .int .i64 (if y = w then maxL (D.map fun n => (N.count n : Int)) else worstT T y) := ⟨_, rfl⟩
  have hKn : ∀ D, (KD D).Nodup := by intro D; rw [hKD]; simp only []; split; exact hW; exact nodup_insK hW
  have hF0 : entsK (fun n : Int => AVal.int .u64 n) (fun w => .int .i64 (worstT T w)) W = entsK (fun n : Int => AVal.int .u64 n) (FD []) (KD []) := by
    rw [hKD, hFD]
    simp only [if_true, entsK]
    refine List.map_congr_left fun y hy => ?_
    rw [if_neg (fun e => hwW (by rw [← e]; exact hy))]
  have hFD1 : ∀ D, (if w ∈ KD D then FD D w else .int .i64 0) = .int .i64 (maxL (D.map fun n => (N.count n : Int))) := by
    intro D
    split
    · rw [hFD]; simp
    · rename_i hn
      rw [hKD] at hn
      simp only [] at hn
      split at hn
      · rename_i hD; subst hD; rfl
      · exact absurd (mem_insK.2 (.inr rfl)) hn
  have hKD1 : ∀ D k, insK w (KD D) = KD (D ++ [k]) := by
    intro D k
    rw [hKD]
    simp only [List.append_eq_nil_iff, List.cons_ne_nil, and_false, if_false]
    split
    · rfl
    · unfold insK
      split <;> simp_all
  rw [hF0]
  refine Lp.intro (σ := List Int × List Nat × Option Nat) (inv := fun x => (x.1 ++ keysAt C x.2.1).Perm C) (vw := fun x => [(2, .ptr 11 0 c), (6, .int .u64 w), (40, .ptr 340 0 (s5+1))])
    (hp := fun x => [(340, .iter (some (325, sm+1)) C.length x.2.1 x.2.2 (s5+1)), (325, .map (entsK (fun n : Int => AVal.int .i64 n) (fun n => .int .i64 (N.count n : Nat)) C) (sm+1)), (6, .row [h.H 200 s] a), (11, .row [.map 33 b] c), (7, .row [LI T] d), (33, .map (entsK (fun n : Int => AVal.int .u64 n) (FD x.1) (KD x.1)) b), (200, .map (h.memo M2) s)])
    (ms := fun x => C.length - x.1.length) ([], List.range C.length, none) (by simp [keysAt_range]) (by simp) (by simp) ?_
  rintro ⟨D, left, cur⟩ hp J hJ
  have hpl := hp.length_eq
  rw [List.length_append] at hpl
  simp only at hpl
  simp
  refine xNextM_K rfl (fun hl => ?_) (fun i k hi hk => ?_)
  · subst hl
    have hD : D.Perm C := by simpa [keysAt] using hp
    have hD0 : D ≠ [] := by rintro rfl; exact hC0 (by simpa using hD.length_eq.symm)
    have hmD : maxL (D.map fun n => (N.count n : Int)) = worstT T w := by
      rw [← hmw]
      refine maxL_eq fun x => ?_
      simp only [List.mem_map, hD.mem_iff]
    simp
    refine hJ.exit ?_
    simp
    rw [aLookup_K1 (keyLaw_int .u64) (k := w) (M := KD D) (f := FD D) (by simp), hFD1, hmD]
    simp
    have hfin : entsK (fun n : Int => AVal.int .u64 n) (FD D) (KD D) = entsK (fun n : Int => AVal.int .u64 n) (fun w => .int .i64 (worstT T w)) (KD D) := by
      unfold entsK
      refine List.map_congr_left fun y _ => ?_
      rw [hFD]
      simp only [hmD]
      split
      · rename_i e; rw [e]
      · rfl
    refine RetV.view (nextRow h T s a b c d (⟨KD D, hKn D⟩, ⟨M2, hM2⟩)) ?_ (hK _)
    simp [nextRow, hfin]
  · have hk1 := keysAt_step hi hk hp
    have hkl : (D ++ [k]).length ≤ C.length := by rw [← hk1.length_eq]; simp
    simp only [List.length_append, List.length_cons, List.length_nil] at hkl
    have hmk : max (maxL (D.map fun n => (N.count n : Int))) (N.count k : Int) = maxL ((D ++ [k]).map fun n => (N.count n : Int)) := by
      rw [List.map_append, List.map_cons, List.map_nil, maxL_push]
    simp
    refine ⟨_, _, by rw [entsK_get, hk]; rfl, ?_⟩
    rw [aLookup_K1 (keyLaw_int .u64) (k := w) (M := KD D) (f := FD D) (by simp), hFD1]
    simp
    refine osat_iff.2 ⟨_, mapU_K (keyLaw_int .u64) (k := w) (M := KD D) (f := FD D) (f' := FD (D ++ [k])) (m := 33) (s := b) (hKn D) ?_ (by simp) (by simp) ?_ (fun x _ hx => ?_), ?_⟩
    · simp
    · rw [hFD]; simp only [if_true, ← hmk]; simp
    · rw [hFD]; simp only [if_neg hx]
    rw [hKD1 D k]
    simp
    exact hJ.next (D ++ [k], left.erase i, some i) hk1 (by simp; omega) (by simp) (by simp)
end Go.Cw
end

/- Next: the program tells it. -/
section
set_option maxRecDepth 100000
set_option linter.unusedSimpArgs false
namespace Go.Cw
open Go Go.Proofs

/-- All places, in order. -/
def placeAt (i : Nat) : Int × Int := (((i / 7 : Nat) : Int), ((i % 7 : Nat) : Int) - 3)
def placesL (n : Nat) : List (Int × Int) := (List.range n).map placeAt
@[simp] theorem placesL_length (n : Nat) : (placesL n).length = n := by simp [placesL]
theorem placesL_succ (n : Nat) : placesL n ++ [placeAt n] = placesL (n + 1) := by simp [placesL, List.range_succ]
theorem placeAt_at {d j : Nat} (hj : j < 7) : placeAt (7 * d + j) = ((d : Int), (j : Int) - 3) := by
  unfold placeAt
  rw [show (7 * d + j) / 7 = d by omega, show (7 * d + j) % 7 = j by omega]
theorem placesL_in {n : Nat} (hn : n ≤ 91) {p : Int × Int} (hp : p ∈ placesL n) : Hul.At p.1 p.2 := by
  obtain ⟨i, hi, rfl⟩ := List.mem_map.1 hp
  have := List.mem_range.1 hi
  unfold placeAt Hul.At
  simp only []
  omega

noncomputable def Hul.nextP (h : Hul) : (Int × Int) × Int := bestP (fun p => worstT (h.truths h.every) (h.wet p.1 p.2)) (placesL 91)
noncomputable def Hul.nextV (h : Hul) : AVal := if h.Valid then (if h.truths h.every = [] then .tup [.int .i64 0, .int .i64 0, .int .i64 0, .int .i64 10] else .tup [.int .i64 h.nextP.1.1, .int .i64 h.nextP.1.2, .int .i64 h.nextP.2, .int .i64 0]) else .tup [.int .i64 0, .int .i64 0, .int .i64 0, .int .i64 1]

theorem leak_Next_ok (h : Hul) (hs : h.Small) : APure Pg fn_leak_Next [h.v] h.nextV := by
  refine leak_Next.pure (by simp) ?_
  simp
  intro s1 s2
  by_cases hv : ¬ h.Valid
  · refine FCall.pan (PInvPan.func (leak_open_arg h hs hv _)) ?_
    simp
    refine RetD.panic rfl leak_Next_1.recClo ?_
    refine ACalls.cps [(5, .row [.int .i64 0] (s2 + 1))] (fun _ : Unit => .tup []) (fun _ => [(5, .row [.int .i64 1] (s2 + 1))]) (fun _ => True) (fun K' hK' => leak_said_ref _ _ _ _ K' (hK' () trivial)) (by simp) (fun _ => rfl) fun _ _ => ?_
    simp
    exact RetV.refl (by simp [Hul.nextV, hv])
  replace hv := Classical.not_not.1 hv
  refine FCall.cps [(200, .dead)] (fun s : Nat => h.H 200 s) (fun s => [(200, .map [] s)]) (fun _ => True) (fun K' hK' => AInvoke.func (leak_open_ok h hs hv 200 K' fun s => hK' s trivial)) (by simp) (fun _ => rfl) trivial (fun s _ => ⟨trivial, ?_⟩)
  simp
  intro s6
  by_cases ht : h.truths h.every = []
  · refine FCall.panV [(200, .map (h.memo []) s)] (by simp; rfl) (AInvoke.func (leak_hull_truths_pan h hv s [] (by simp) ht)) ?_
    simp [deads]
    refine RetD.panic rfl leak_Next_1.recClo ?_
    refine ACalls.cps [(5, .row [.int .i64 0] (s2 + 1))] (fun _ : Unit => .tup []) (fun _ => [(5, .row [.int .i64 10] (s2 + 1))]) (fun _ => True) (fun K' hK' => leak_said_ref _ _ _ _ K' (hK' () trivial)) (by simp) (fun _ => rfl) fun _ _ => ?_
    simp
    exact RetV.refl (by simp [Hul.nextV, hv, ht])
  refine FCall.truths hv (M := []) (by simp) ht (by simp; rfl) fun M2 hM2 => ?_
  obtain ⟨T, hT⟩ : ∃ T, T = h.truths h.every := ⟨_, rfl⟩
  rw [← hT] at ht ⊢
  simp
  intro s7
  refine Lp.intro' (σ := Nat × Nat) (inv := fun x => x.1 ≤ 13) (vw := fun x => [(5, .ptr 5 0 (s2+1)), (6, .ptr 6 0 (s6+1)), (7, .ptr 7 0 (s7+1)), (8, gS 2 31 (7 * x.1) x.2), (19, .int .i64 x.1)])
    (hp := fun x => [(5, .row [.int .i64 0] (s2+1)), (6, .row [h.H 200 s] (s6+1)), (7, .row [LI T] (s7+1)), (200, .map (h.memo M2) s), (31, gO (7 * x.1) (prs (placesL (7 * x.1))) x.2)]) (ms := fun x => 13 - x.1) (0, 0) (by simp)
    (Sl.wk 8 .es (by simpa using ALe.nils_es) (Sl.refl ⟨rfl, by simp, by simp⟩)) ?_
  rintro ⟨d, st⟩ hd J hJ
  simp at hd
  by_cases hdc : d < 13
  · have hdi : (d : Int) < 13 := by omega
    simp [hdi]
    refine Lp.intro (σ := Nat × Nat) (inv := fun x => x.1 ≤ 7) (vw := fun x => [(5, .ptr 5 0 (s2+1)), (6, .ptr 6 0 (s6+1)), (7, .ptr 7 0 (s7+1)), (8, gS 2 31 (7 * d + x.1) x.2), (9, .int .i64 d), (10, .int .i64 ((x.1 : Int) - 3)), (19, .int .i64 d)])
      (hp := fun x => [(5, .row [.int .i64 0] (s2+1)), (6, .row [h.H 200 s] (s6+1)), (7, .row [LI T] (s7+1)), (200, .map (h.memo M2) s), (31, gO (7 * d + x.1) (prs (placesL (7 * d + x.1))) x.2)]) (ms := fun x => 7 - x.1) (0, st) (by simp) (by simp) (by simp) ?_
    rintro ⟨j, sj⟩ hj J2 hJ2
    simp at hj
    by_cases hjc : j < 7
    · have hle : (j : Int) - 3 ≤ 3 := by omega
      have hpa := placeAt_at (d := d) hjc
      have hpp : prs (placesL (7 * d + j)) ++ [.int .i64 (d : Int), .int .i64 ((j : Int) - 3)] = prs (placesL (7 * d + (j + 1))) := by
        rw [show 7 * d + (j + 1) = 7 * d + j + 1 by omega, ← placesL_succ, hpa, ← prs_append]; simp
      simp [hle]
      intro s30 s31
      refine xApN_gS (cells := prs (placesL (7 * d + j))) (by simp) (by simp; omega) (by omega) (by omega) ?_
      rw [hpp]
      simp
      (repeat first | refine And.intro (by omega) ?_ | refine And.intro (Fits.of (by omega) (by omega)) ?_)
      have e7 : 7 * d + (j + 1) = 7 * d + j + 1 := by omega
      exact hJ2.next (j + 1, s31 + 1) (by simp; omega) (by simp; omega) (by simp [e7]; omega) (by simp [e7])
    obtain rfl : j = 7 := by omega
    simp
    refine hJ2.exit ?_
    simp
    (repeat first | refine And.intro (by omega) ?_ | refine And.intro (Fits.of (by omega) (by omega)) ?_)
    have e7 : 7 * (d + 1) = 7 * d + 7 := by omega
    exact hJ.next (d + 1, sj) (by simp; omega) (by simp; omega) (by simp [e7]) (by simp [e7])
  obtain rfl : d = 13 := by omega
  simp
  refine hJ.exitS (Sl.frz 31 (cells := prs (placesL 91)) (s := st) (by simp) (Sl.refl ?_))
  simp
  intro b c
  have hT0 : T = h.truths h.every := hT
  refine FCall.cps (σ := {W : List Int // W.Nodup} × {M : List (List Int) // ∀ l ∈ M, l.length = 2}) (nextRow h T s (s6+1) (b+1) (c+1) (s7+1) (⟨[], by simp⟩, ⟨M2, hM2⟩)) (fun _ => .tup [PL h.nextP.1, .int .i64 h.nextP.2])
    (fun t => nextRow h T s (s6+1) (b+1) (c+1) (s7+1) t) (fun _ => True) (fun K' hK' => AInvoke.func ?_) (by simp [nextRow]) (fun _ => rfl) trivial (fun t _ => ⟨trivial, ?_⟩)
  · have hnp : h.nextP = bestP (fun p => worstT T (h.wet p.1 p.2)) (placesL 91) := by rw [hT]; rfl
    have := leak_best_place_ok (placesL 91) (by simp) (.func (.func fn_leak_Next_2) [] [.ptr 6 0 (s6+1), .ptr 11 0 (c+1), .ptr 7 0 (s7+1)]) (fun p => worstT T (h.wet p.1 p.2))
      (nextRow h T s (s6+1) (b+1) (c+1) (s7+1)) (nextRow_b _ _ _ _ _ _ _) (fun x hx t K'' hk => AInvoke.func (leak_Next_2_ok h hv T hT ht s (s6+1) (b+1) (c+1) (s7+1) x (placesL_in (by omega) hx) t K'' hk)) (⟨[], by simp⟩, ⟨M2, hM2⟩) K' (fun t => by
        have := hK' t trivial
        rw [hnp] at this
        exact this)
    simpa [LP] using this
  simp [PL, nextRow]
  intro s12
  refine RetD.ret rfl leak_Next_1.recClo ((leak_said_nil _ _).mono ?_)
  rintro e h' ⟨rfl, rfl⟩
  simp
  exact RetV.refl (by rw [hT] at ht; simp [Hul.nextV, hv, ht])
end Go.Cw
end

/- What the document fixes of its example is met. -/
section
set_option maxRecDepth 100000
set_option linter.unusedSimpArgs false
namespace Go.Cw
open Go Go.Proofs

/-- The document's example; with a third sounding. -/
def lsm (b : Bool) : Hul := ⟨[⟨2, 0, 3⟩, ⟨5, -1, 2⟩, ⟨5, 1, 4⟩], if b then [⟨3, 0, 1, 2⟩, ⟨6, 0, 4, 4⟩, ⟨4, -1, 0, 0⟩] else [⟨3, 0, 1, 2⟩, ⟨6, 0, 4, 4⟩]⟩
theorem lsm_small (b : Bool) : (lsm b).Small := ⟨by simp [lsm], by cases b <;> simp [lsm]⟩
theorem lsm_valid (b : Bool) : (lsm b).Valid :=
  ⟨by simp [lsm, Hul.n], by simp [lsm, Hul.n], by cases b <;> simp [lsm, Hul.k], by cases b <;> decide, by cases b <;> decide⟩
theorem lsm_truths : (lsm false).truths (lsm false).every = [[1, 0, 3], [1, 1, 2], [1, 2, 1], [2, 0, 2], [2, 1, 1], [2, 2, 0]] := by decide +kernel
theorem lsm_none : (lsm true).truths (lsm true).every = [] := by decide +kernel
theorem lsm_wet (b : Bool) (d l : Int) (hd : Hul.At d l) (w : Int) (hw : (lsm false).wet d l = w) : (lsm b).wetV d l = .tup [.int .i64 w, .int .i64 0] := by
  have : (lsm b).wet d l = w := by rw [← hw]; rfl
  simp [Hul.wetV, lsm_valid, hd, this]
theorem lsm_sum (ok : Prop) [Decidable ok] (hok : ok) (q : Int) (s : Int × Int) (hs : spanOf ([[1, 0, 3], [1, 1, 2], [1, 2, 1], [2, 0, 2], [2, 1, 1], [2, 2, 0]].map (Hul.sumT · q)) = s) : (lsm false).sumV ok q = .tup [SP2 s, .int .i64 0] := by
  simp only [Hul.sumV, lsm_valid, hok, lsm_truths, if_true]
  rw [if_neg (by simp), hs]
theorem lsm_clash : (lsm false).clashV = .tup [.int .i64 0, .int .i64 4] := by
  simp [Hul.clashV, lsm_valid, lsm_truths]
theorem lsm_clash3 : (lsm true).clashV = .tup [.int .i64 5, .int .i64 0] := by
  have : (lsm true).clashB (2 ^ (lsm true).k) = 5 := by decide +kernel
  simp only [Hul.clashV, lsm_valid, lsm_none, if_true, this]
theorem lsm_leaks : (lsm false).leaksV = .tup [.int .i64 7, .int .i64 1, .int .i64 0] := by
  simp only [Hul.leaksV, lsm_valid, lsm_truths, if_true]
  rw [if_neg (by simp), show bits (canL [[1, 0, 3], [1, 1, 2], [1, 2, 1], [2, 0, 2], [2, 1, 1], [2, 2, 0]]) 6 = 7 by decide +kernel, show bits (sureL [[1, 0, 3], [1, 1, 2], [1, 2, 1], [2, 0, 2], [2, 1, 1], [2, 2, 0]]) 6 = 1 by decide +kernel]
theorem lsm_setsL : (lsm false).setsL = [3, 5, 7] := by
  unfold Hul.setsL
  rw [lsm_truths]
  exact sortI_eq (by decide +kernel) (by unfold SortedI; decide +kernel)
theorem lsm_sets : (lsm false).setsV = .tup [L [3, 5, 7], .int .i64 0] := by
  simp only [Hul.setsV, lsm_valid, lsm_setsL, lsm_truths, if_true]
  rw [if_neg (by simp)]
theorem lsm_few : (lsm false).fewV = .tup [.int .i64 2, .int .i64 3, .int .i64 0] := by
  simp only [Hul.fewV, lsm_valid, lsm_setsL, lsm_truths, if_true]
  rw [if_neg (by simp), show bestI sizeS [3, 5, 7] = (3, 2) by decide +kernel]
theorem lsm_next : (lsm false).nextV = .tup [.int .i64 2, .int .i64 (-3), .int .i64 2, .int .i64 0] := by
  have : (lsm false).nextP = ((2, -3), 2) := by
    unfold Hul.nextP
    rw [lsm_truths]
    decide +kernel
  simp only [Hul.nextV, lsm_valid, lsm_truths, if_true, this]
  rw [if_neg (by simp)]

theorem law01_span_ok (a b : Int) : APure Pg fn_law01_span [.int .i64 a, .int .i64 b] (SP2 (a, b)) := by
  refine law01_span.pure (by simp) ?_
  simp
  intro s
  exact RetV.refl (by simp [SP2])

theorem law01_sample_ok (b : Bool) : APure Pg fn_law01_sample [.bool b] (lsm b).v := by
  refine law01_sample.pure (by simp) ?_
  simp
  intro s1 s2
  refine PCallK.intro (PInv.func (law01_span_ok _ _)) ?_
  simp [SP2]
  refine PCallK.intro (PInv.func (law01_span_ok _ _)) ?_
  simp [SP2]
  intro s3 s4
  cases b
  · simp
    refine RetV.frz 7 rfl (RetV.frz 12 rfl (RetV.refl ?_))
    simp [lsm, LS, LD, sms, sds, fl, Sm.c, Sd.c]
  · simp
    intro s5 s6
    refine RetV.frz 7 rfl (RetV.frz 19 rfl (RetV.refl ?_))
    simp [lsm, LS, LD, sms, sds, fl, Sm.c, Sd.c]

theorem law01_alive_ok : APure Pg fn_law01_alive [] (.bool true) := by
  refine law01_alive.pure (by simp) ?_
  simp
  refine PCallK.intro (PInv.func (law01_sample_ok false)) ?_
  simp
  refine PCallK.intro (PInv.func (leak_Wet_ok (lsm false) (lsm_small _) 4 1)) ?_
  rw [lsm_wet false 4 1 (by decide) 5 (by decide +kernel)]
  simp
  refine PCallK.intro (PInv.func (law01_sample_ok false)) ?_
  simp
  refine PCallK.intro (PInv.func (leak_Rate_ok (lsm false) (lsm_small _) 2)) ?_
  rw [lsm_sum _ (by decide) _ (0, 3) (by decide +kernel)]
  simp [SP2]
  intro s3
  refine PCallK.intro (PInv.func (law01_sample_ok false)) ?_
  simp
  refine PCallK.intro (PInv.func (leak_Total_ok (lsm false) (lsm_small _) 6)) ?_
  rw [lsm_sum _ (by decide) _ (2, 3) (by decide +kernel)]
  simp [SP2]
  intro s5
  refine PCallK.intro (PInv.func (law01_sample_ok false)) ?_
  simp
  refine PCallK.intro (PInv.func (leak_Leaks_ok (lsm false) (lsm_small _))) ?_
  rw [lsm_leaks]
  simp
  refine PCallK.intro (PInv.func (law01_sample_ok false)) ?_
  simp
  refine PCallK.intro (PInv.func (leak_Sets_ok (lsm false) (lsm_small _))) ?_
  rw [lsm_sets]
  simp
  refine PCallK.intro (PInv.func (law01_sample_ok false)) ?_
  simp
  refine PCallK.intro (PInv.func (leak_Fewest_ok (lsm false) (lsm_small _))) ?_
  rw [lsm_few]
  simp
  refine PCallK.intro (PInv.func (law01_sample_ok false)) ?_
  simp
  refine PCallK.intro (PInv.func (leak_Flow_ok (lsm false) (lsm_small _) 4 1)) ?_
  rw [lsm_sum _ (by decide) _ (2, 4) (by decide +kernel)]
  simp [SP2]
  intro s15
  refine PCallK.intro (PInv.func (law01_sample_ok false)) ?_
  simp
  refine PCallK.intro (PInv.func (leak_Next_ok (lsm false) (lsm_small _))) ?_
  rw [lsm_next]
  simp
  refine PCallK.intro (PInv.func (law01_sample_ok true)) ?_
  simp
  refine PCallK.intro (PInv.func (leak_Clash_ok (lsm true) (lsm_small _))) ?_
  rw [lsm_clash3]
  simp
  refine PCallK.intro (PInv.func (law01_span_ok _ _)) ?_
  simp [SP2]
  refine PCallK.intro (PInv.func (law01_span_ok _ _)) ?_
  simp [SP2]
  intro s110
  refine FCall.frz1 110 rfl (v := .bool true) ?_ trivial ⟨trivial, ?_⟩
  · have := PInv.func (first := []) (cap := []) (args := [L [3, 5, 7], L [3, 5, 7]]) (ref01_Ints_ok [3, 5, 7] [3, 5, 7] (by simp) (by simp))
    simpa [L] using this
  simp
  refine PCallK.intro (PInv.func (law01_span_ok _ _)) ?_
  simp [SP2]
  exact RetV.refl rfl
end Go.Cw
end

/- Plain reckoning on sets and truths. -/
section
set_option maxRecDepth 100000
set_option linter.unusedSimpArgs false
namespace Go.Cw
open Go Go.Proofs

theorem bitsI_andNot (p q : Nat → Bool) {n : Nat} (hn : n ≤ 60) : bitI .andNot .i64 (bits p n) (bits q n) = bits (fun i => p i && !q i) n := by
  have ha := natB_lt62 p hn
  have hb := natB_lt62 q hn
  have hc := natB_lt62 (fun i => p i && !q i) hn
  rw [bits_natB, bits_natB, bits_natB]
  have key : (BitVec.ofNat 64 (natB p n) &&& ~~~(BitVec.ofNat 64 (natB q n))).toNat = natB (fun i => p i && !q i) n := by
    apply Nat.eq_of_testBit_eq
    intro i
    rw [← BitVec.getLsbD, BitVec.getLsbD_and, BitVec.getLsbD_not, BitVec.getLsbD_ofNat, BitVec.getLsbD_ofNat, natB_bit, natB_bit, natB_bit]
    by_cases hi : i < n
    · have : i < 64 := by omega
      simp [hi, this]
    · simp [hi]
  show IntKind.i64.wrap (Int.ofNat (BitVec.ofInt 64 (natB p n : Nat) &&& ~~~(BitVec.ofInt 64 (natB q n : Nat))).toNat) = _
  rw [BitVec.ofInt_natCast, BitVec.ofInt_natCast, key]
  have hh : ((natB (fun i => p i && !q i) n : Nat) : Int) < 2 ^ 62 := by exact_mod_cast hc
  refine wrap_fits ?_
  unfold Fits
  simp only [Int.ofNat_eq_natCast]
  omega

theorem andNot_zero {p q : Nat → Bool} {n : Nat} (hn : n ≤ 60) (h : ∀ i, i < n → p i = true → q i = true) : bitI .andNot .i64 (bits p n) (bits q n) = 0 := by
  rw [bitsI_andNot p q hn, bits_zero]
  intro i hi
  cases hp : p i
  · simp
  · simp [h i hi hp]

theorem bits_pow {i n : Nat} (hi : i < n) : bits (fun j => decide (j = i)) n = 2 ^ i := by
  induction n with
  | zero => omega
  | succ n ih =>
    simp only [bits]
    by_cases h : i = n
    · subst h
      have : bits (fun j => decide (j = i)) i = 0 := bits_zero.2 fun j hj => by simp; omega
      rw [this]; simp
    · rw [ih (by omega)]
      have : ¬ n = i := fun e => h e.symm
      simp [this]
theorem inS_pow {i j n : Nat} (hi : i < n) (hj : j < n) : inS (2 ^ i) j = decide (j = i) := by
  rw [← bits_pow hi, inS_bits _ hj]

theorem sumN_one {n i : Nat} {c : Nat → Int} (hi : i < n) : (sumN n fun j => if j = i then c j else 0) = c i := by
  induction n with
  | zero => omega
  | succ n ih =>
    simp only [sumN]
    by_cases h : i = n
    · subst h
      have : (sumN i fun j => if j = i then c j else 0) = 0 := by
        rw [sumN_congr (c' := fun _ => 0) fun j hj => by rw [if_neg (by omega)]]
        clear ih
        induction i with
        | zero => rfl
        | succ i ih => simp only [sumN]; rw [ih (by omega)]; rfl
      rw [this]; simp
    · rw [ih (by omega), if_neg (fun e => h e.symm)]; simp

theorem sumT_pow {t : List Int} {i : Nat} (hi : i < t.length) : Hul.sumT t (2 ^ i) = ofL t i := by
  unfold Hul.sumT
  rw [← sumN_one (c := ofL t) hi]
  refine sumN_congr fun j hj => ?_
  rw [inS_pow hi hj]
  simp

theorem span_in {l : List Int} {x : Int} (hx : x ∈ l) : (spanOf l).1 ≤ x ∧ x ≤ (spanOf l).2 := by
  have hne : l ≠ [] := by rintro rfl; cases hx
  exact (spanOf_mem hne).2.2 x hx

theorem bestI_spec (g : Int → Int) {l : List Int} (hl : l ≠ []) : (bestI g l).1 ∈ l ∧ (bestI g l).2 = g (bestI g l).1 ∧ ∀ x ∈ l, (bestI g l).2 ≤ g x := by
  induction l using list_push_ind with
  | h0 => exact absurd rfl hl
  | h1 l y ih =>
    by_cases h : l = []
    · subst h; simp [bestI]
    · have := ih h
      rw [bestI_push g l y h]
      split
      · rename_i hlt
        refine ⟨by simp, rfl, fun x hx => ?_⟩
        rcases List.mem_append.1 hx with hx | hx
        · have := this.2.2 x hx; simp only []; omega
        · obtain rfl : x = y := by simpa using hx
          exact Int.le_refl _
      · rename_i hlt
        refine ⟨List.mem_append_left _ this.1, this.2.1, fun x hx => ?_⟩
        rcases List.mem_append.1 hx with hx | hx
        · exact this.2.2 x hx
        · obtain rfl : x = y := by simpa using hx
          omega

namespace Hul
variable {h : Hul}
theorem setsL_mem {s : Int} : s ∈ h.setsL ↔ ∃ t ∈ h.truths h.every, leaksT t = s := by
  unfold setsL
  rw [(sortI_perm _).mem_iff]
  have := seenK_mem (h.truths h.every) (h.truths h.every).length s
  rwa [List.take_length] at this
theorem setsL_lt {i j : Nat} (hj : j < h.setsL.length) (hij : i < j) : h.setsL[i] < h.setsL[j] := by
  have hi : i < h.setsL.length := by omega
  have h1 := List.pairwise_iff_getElem.1 (sortI_sorted (seenK (h.truths h.every))) i j hi hj hij
  have hnd : h.setsL.Nodup := by
    unfold setsL
    rw [(sortI_perm _).nodup_iff]
    have := seenK_nodup (h.truths h.every) (h.truths h.every).length
    rwa [List.take_length] at this
  have h2 := List.pairwise_iff_getElem.1 hnd i j (by omega) hj hij
  have h3 : h.setsL[i] ≤ h.setsL[j] := h1
  omega
theorem setsL_ne (ht : h.truths h.every ≠ []) : h.setsL ≠ [] := by
  obtain ⟨t, l, hl⟩ := List.exists_cons_of_ne_nil ht
  have : leaksT t ∈ h.setsL := setsL_mem.2 ⟨t, by rw [hl]; simp, rfl⟩
  intro e; rw [e] at this; cases this
theorem leaks_can (hv : h.Valid) {t : List Int} (ht : t ∈ h.truths h.every) : bitI .andNot .i64 (leaksT t) (bits (canL (h.truths h.every)) 6) = 0 := by
  rw [← leaks6 hv ht]
  refine andNot_zero (by omega) fun i _ hi => ?_
  unfold canL
  rw [List.any_eq_true]
  exact ⟨t, ht, hi⟩
theorem sure_leaks (hv : h.Valid) {t : List Int} (ht : t ∈ h.truths h.every) : bitI .andNot .i64 (bits (sureL (h.truths h.every)) 6) (leaksT t) = 0 := by
  rw [← leaks6 hv ht]
  refine andNot_zero (by omega) fun i _ hi => ?_
  unfold sureL at hi
  rw [List.all_eq_true] at hi
  exact hi t ht
theorem sets_can (hv : h.Valid) {s : Int} (hs : s ∈ h.setsL) : bitI .andNot .i64 s (bits (canL (h.truths h.every)) 6) = 0 := by
  obtain ⟨t, ht, rfl⟩ := setsL_mem.1 hs
  exact leaks_can hv ht
theorem sure_sets (hv : h.Valid) {s : Int} (hs : s ∈ h.setsL) : bitI .andNot .i64 (bits (sureL (h.truths h.every)) 6) s = 0 := by
  obtain ⟨t, ht, rfl⟩ := setsL_mem.1 hs
  exact sure_leaks hv ht
end Hul
end Go.Cw
end
