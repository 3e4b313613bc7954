/-
  What the functions of layer 11 compute.
-/
import Derived.Test.YtjjhmpfealnciaaGreatWa
import Derived.Test.YtjjhmpfealnciaaGreatProg
import Derived.Shelf.SlSortCmp.NoneTotal
set_option linter.unusedVariables false
set_option linter.unusedSimpArgs false
set_option linter.unusedSectionVars false

/- Again: what is told of a ship. -/
section
set_option maxRecDepth 100000
set_option linter.unusedSimpArgs false
namespace Go.Cw
open Go Go.Proofs

theorem Agn.span_bound {a : Agn} (hv : a.Valid) (hS : a.S ≠ []) (u : Nat → Bool) : (0 ≤ (a.spanP u).1 ∧ (a.spanP u).1 ≤ 600) ∧ 0 ≤ (a.spanP u).2 ∧ (a.spanP u).2 ≤ 600 := by
  obtain ⟨_, ⟨x, _, h1⟩, ⟨y, _, h2⟩⟩ := Ag.jn_spec (g := Ag.payS a.F a.n u) hS
  unfold Agn.spanP
  rw [← h1, ← h2]
  exact ⟨Agn.pay_bound hv u x, Agn.pay_bound hv u y⟩
theorem Ag.told_ver (n : Nat) (u : Nat → Bool) (S : List Int) : (if S.any (Ag.yesS n u) then (if S.any fun x => !Ag.yesS n u x then 1 else 2) else (if S.any fun x => !Ag.yesS n u x then 0 else 1) : Int) = Ag.toldV n u S := rfl
theorem again_Promised_ok (a : Agn) (hs : a.Small) : APure Pg fn_again_Promised [a.v] a.promV := by
  by_cases he : ¬ a.errO true = 0
  · refine again_Promised.pure (by simp) ?_
    simp
    intro s1 s3
    refine FCall.pan' (E := ⟨Pg, 0, 10, false, [2, 3]⟩) (PInvPan.func (first := []) (cap := []) (args := [a.v, .bool true]) (again_open_pan a hs true he)) ?_ ?_
    · simp
    simp
    refine RetD.panic rfl again_Promised_1.recClo ?_
    refine ACalls.cps [(3, .row [.int .i64 0] (s3 + 1))] (fun _ : Unit => .tup []) (fun _ => [(3, .row [.int .i64 (a.errO true)] (s3 + 1))]) (fun _ => True) (fun K' hK' => again_said_ref _ _ _ _ K' (hK' () trivial)) (by simp) (fun _ => rfl) fun _ _ => ?_
    simp
    exact RetV.refl (by simp [Agn.promV, he])
  replace he := Classical.not_not.1 he
  obtain ⟨hv, _⟩ := Agn.errO_zero.1 he
  have hto := hv.to
  refine again_Promised.pure (by simp) ?_
  simp
  intro s1 s3
  refine FCall.cps [(200, .dead)] (fun s : Nat => .pv (a.shipC 200 s .nils)) (fun s => [(200, a.mapO s)]) (fun _ => True) (fun K' hK' => AInvoke.func (first := []) (cap := []) (args := [a.v, .bool true]) (again_open_frz a hs true he K' fun s => hK' s trivial)) (by simp) (fun _ => rfl) (by simp) (fun s _ => ⟨by simp, ?_⟩)
  simp
  refine FCall.promised hv (by omega) (by simp) (by simp) ⟨by simp, ?_⟩
  simp
  refine RetD.ret rfl again_Promised_1.recClo ((again_said_nil _ _).mono ?_)
  rintro e h' ⟨rfl, rfl⟩
  simp
  exact RetV.refl (by simp [Agn.promV, he])
theorem again_Yard_ok (a : Agn) (hs : a.Small) : APure Pg fn_again_Yard [a.v] a.yardV := by
  by_cases he : ¬ a.errL true = 0
  · refine again_Yard.pure (by simp) ?_
    simp
    intro s1 s3
    refine FCall.lookP hs he ?_
    simp
    refine RetD.panic rfl again_Yard_1.recClo ?_
    refine ACalls.cps [(3, .row [.int .i64 0] (s3 + 1))] (fun _ : Unit => .tup []) (fun _ => [(3, .row [.int .i64 (a.errL true)] (s3 + 1))]) (fun _ => True) (fun K' hK' => again_said_ref _ _ _ _ K' (hK' () trivial)) (by simp) (fun _ => rfl) fun _ _ => ?_
    simp
    exact RetV.refl (by simp [Agn.yardV, he])
  replace he := Classical.not_not.1 he
  obtain ⟨hv, _, hS⟩ := Agn.errL_zero.1 he
  have hSl := Agn.S_len hv
  have hto := hv.to
  have h13 : ∀ s, (a.shipC 200 s (L a.S)).drop 13 = [L a.S] := fun _ => rfl
  refine again_Yard.pure (by simp) ?_
  simp
  intro s1 s3
  refine FCall.look hs he (by simp) (by simp) fun s => ⟨by simp, ?_⟩
  simp [h13]
  refine FCall.verdict hv hS (by omega) (Agn.S_in hv) (by omega) (by simp) (by simp) ⟨by simp, ?_⟩
  simp [Ag.verV]
  refine PCallK.intro (PInv.func (again_verdict_told_ok _ _)) ?_
  rw [Ag.told_ver]
  simp
  refine RetD.ret rfl again_Yard_1.recClo ((again_said_nil _ _).mono ?_)
  rintro e h' ⟨rfl, rfl⟩
  simp
  exact RetV.refl (by simp [Agn.yardV, Agn.yardN, he])
theorem again_Pays_ok (a : Agn) (hs : a.Small) : APure Pg fn_again_Pays [a.v] a.paysV := by
  by_cases he : ¬ a.errL true = 0
  · refine again_Pays.pure (by simp) ?_
    simp
    intro s1 s2 s3
    refine FCall.lookP hs he ?_
    simp
    refine RetD.panic rfl again_Pays_1.recClo ?_
    refine ACalls.cps [(3, .row [.int .i64 0] (s3 + 1))] (fun _ : Unit => .tup []) (fun _ => [(3, .row [.int .i64 (a.errL true)] (s3 + 1))]) (fun _ => True) (fun K' hK' => again_said_ref _ _ _ _ K' (hK' () trivial)) (by simp) (fun _ => rfl) fun _ _ => ?_
    simp
    exact RetV.refl (by simp [Agn.paysV, Agn.paysP, SP2, he])
  replace he := Classical.not_not.1 he
  obtain ⟨hv, _, hS⟩ := Agn.errL_zero.1 he
  have hSl := Agn.S_len hv
  have hto := hv.to
  have h13 : ∀ s, (a.shipC 200 s (L a.S)).drop 13 = [L a.S] := fun _ => rfl
  refine again_Pays.pure (by simp) ?_
  simp
  intro s1 s2 s3
  refine FCall.look hs he (by simp) (by simp) fun s => ⟨by simp, ?_⟩
  simp [h13]
  have hco := hv.co
  obtain ⟨⟨b1, b2⟩, b3, b4⟩ := Agn.span_bound hv hS (Payer.u a .owner)
  have m1 : 0 ≤ (a.spanP (Payer.u a .owner)).1 * a.c ∧ (a.spanP (Payer.u a .owner)).1 * a.c ≤ 60000 := ⟨Int.mul_nonneg b1 hco.1, Int.le_trans (Int.mul_le_mul b2 hco.2 hco.1 (by omega)) (by omega)⟩
  have m2 : 0 ≤ (a.spanP (Payer.u a .owner)).2 * a.c ∧ (a.spanP (Payer.u a .owner)).2 * a.c ≤ 60000 := ⟨Int.mul_nonneg b3 hco.1, Int.le_trans (Int.mul_le_mul b4 hco.2 hco.1 (by omega)) (by omega)⟩
  refine FCall.spanA hv hS .owner rfl (by simp) (by simp) ⟨by simp, ?_⟩
  simp [SP2]
  intro s4
  refine ⟨by simp only [Fits]; omega, by simp only [Fits]; omega, ?_⟩
  refine RetD.ret rfl again_Pays_1.recClo ((again_said_nil _ _).mono ?_)
  rintro e h' ⟨rfl, rfl⟩
  simp
  exact RetV.refl (by simp [Agn.paysV, Agn.paysP, SP2, Payer.u, he])
theorem again_Nothing_ok (a : Agn) (hs : a.Small) : APure Pg fn_again_Nothing [a.v] a.nothV := by
  by_cases he : ¬ a.errL true = 0
  · refine again_Nothing.pure (by simp) ?_
    simp
    intro s1 s2 s3
    refine FCall.lookP hs he ?_
    simp
    refine RetD.panic rfl again_Nothing_1.recClo ?_
    refine ACalls.cps [(3, .row [.int .i64 0] (s3 + 1))] (fun _ : Unit => .tup []) (fun _ => [(3, .row [.int .i64 (a.errL true)] (s3 + 1))]) (fun _ => True) (fun K' hK' => again_said_ref _ _ _ _ K' (hK' () trivial)) (by simp) (fun _ => rfl) fun _ _ => ?_
    simp
    exact RetV.refl (by simp [Agn.nothV, Agn.nothP, SP2, he])
  replace he := Classical.not_not.1 he
  obtain ⟨hv, _, hS⟩ := Agn.errL_zero.1 he
  have hSl := Agn.S_len hv
  have hto := hv.to
  have h13 : ∀ s, (a.shipC 200 s (L a.S)).drop 13 = [L a.S] := fun _ => rfl
  refine again_Nothing.pure (by simp) ?_
  simp
  intro s1 s2 s3
  refine FCall.look hs he (by simp) (by simp) fun s => ⟨by simp, ?_⟩
  simp [h13]
  refine FCall.spanA hv hS .yard rfl (by simp) (by simp) ⟨by simp, ?_⟩
  simp [SP2]
  refine RetD.ret rfl again_Nothing_1.recClo ((again_said_nil _ _).mono ?_)
  rintro e h' ⟨rfl, rfl⟩
  simp
  exact RetV.refl (by simp [Agn.nothV, Agn.nothP, SP2, Payer.u, he])

end Go.Cw
end

/- Again: whose work leaks; until when the leak is the yard's. -/
section
set_option maxRecDepth 100000
set_option linter.unusedSimpArgs false
namespace Go.Cw
open Go Go.Proofs

def Ag.upTo (p : Nat → Bool) (k : Nat) : Int := bits (fun i => decide (i < k) && p i) 4
section
variable {F n₀ : Nat} {inr : Bool} {keep : List Nat} {fa fl : List It} {t : Option Nat} {K : KT} {Q : Post} {tm : TM} {df : DF} {h : Heap}
end

noncomputable def Agn.daysK (a : Agn) (D : List Int) : List Int := D.filterMap fun k => if a.S.any (fun s => inS s k.toNat) then (Ag.lastW a.w k).map (·.d) else none
def Ag.midF (S : List Int) (j : Nat) (x d : Int) (k : Nat) : Int := if (S.take k).any (fun s => inS s j) then Ag.leastD x d else x
end Go.Cw
end

/- Again: until when the leak is the yard's. -/
section
set_option maxRecDepth 100000
set_option linter.unusedSimpArgs false
namespace Go.Cw
open Go Go.Proofs

end Go.Cw
end

/- Ships that come back: a sounding more; which sounding settles. -/
section
set_option maxRecDepth 100000
set_option linter.unusedSimpArgs false
namespace Go.Cw
open Go Go.Proofs

namespace Hul
def okT (h : Hul) (t : List Int) (a : Sd) : Bool := decide (a.lo ≤ sumT t (h.wet a.d a.l) ∧ sumT t (h.wet a.d a.l) ≤ a.hi)
theorem inS_every {h : Hul} {j : Nat} (hj : j < h.k) : inS h.every j = true := by
  have : h.every = bits (fun _ => true) h.k := by
    unfold every
    generalize h.k = n
    induction n with
    | zero => rfl
    | succ n ih => simp only [bits, if_true]; rw [← ih, Int.pow_succ]; omega
  rw [this, inS_bits _ hj]
theorem right_every {h : Hul} {t : List Int} : h.right h.every t = h.snds.all (h.okT t) := by
  unfold right
  rw [Bool.eq_iff_iff, List.all_eq_true, List.all_eq_true]
  constructor
  · intro H a ha
    obtain ⟨j, hj, rfl⟩ := List.getElem_of_mem ha
    have := H j (List.mem_range.2 hj)
    unfold sndB at this
    rw [List.getElem?_eq_getElem hj] at this
    simp only [inS_every (show j < h.k from hj), Bool.not_true, Bool.false_or] at this
    exact this
  · intro H j hj
    have hj' : j < h.snds.length := List.mem_range.1 hj
    unfold sndB
    rw [List.getElem?_eq_getElem hj']
    simp only [inS_every (show j < h.k from hj'), Bool.not_true, Bool.false_or]
    exact H _ (List.getElem_mem hj')
theorem mem_truths {h : Hul} {t : List Int} : t ∈ h.truths h.every ↔ t ∈ allT h.mosts ∧ ∀ a ∈ h.snds, a.lo ≤ sumT t (h.wet a.d a.l) ∧ sumT t (h.wet a.d a.l) ≤ a.hi := by
  unfold truths
  rw [List.mem_filter, right_every, List.all_eq_true]
  simp [okT]
def more (h : Hul) (a : Sd) : Hul := ⟨h.seams, h.snds ++ [a]⟩
theorem truths_more (h : Hul) (a : Sd) : (h.more a).truths (h.more a).every = (h.truths h.every).filter fun t => decide (a.lo ≤ sumT t (h.wet a.d a.l) ∧ sumT t (h.wet a.d a.l) ≤ a.hi) := by
  unfold truths
  rw [List.filter_filter]
  refine List.filter_congr fun t _ => ?_
  rw [right_every, right_every]
  show (h.snds ++ [a]).all ((h.more a).okT t) = _
  rw [List.all_append]
  have : (h.more a).okT t = h.okT t := rfl
  rw [this, Bool.and_comm]
  simp [okT]
theorem Valid.more {h : Hul} (hv : h.Valid) (hk : h.k < 8) {a : Sd} (ha : OkD a) : (h.more a).Valid :=
  ⟨hv.n1, hv.n6, by show (h.snds ++ [a]).length ≤ 8; rw [List.length_append]; unfold k at hk; simp; omega, hv.sm, fun b hb => by
    rcases List.mem_append.1 hb with hb | hb
    · exact hv.sd b hb
    · obtain rfl : b = a := by simpa using hb
      exact ha⟩
theorem Valid.small {h : Hul} (hv : h.Valid) : h.Small := ⟨by have := hv.n6; unfold n at this; omega, by have := hv.k8; unfold k at this; omega⟩
end Hul

namespace Agn
noncomputable def soundS (a : Agn) (d l n : Int) : List Int := (a.h.more ⟨d, l, n, n⟩).setsL
noncomputable def perB (a : Agn) (d l n : Int) : Bool := decide (a.soundS d l n ≠ []) && decide (Ag.toldV a.n (Ag.pr a.w a.t) (a.soundS d l n) = 1)
noncomputable def setB (a : Agn) (d l : Int) : Bool := (List.range 25).all fun n => !a.perB d l n
def places : List (Int × Int) := (List.range 13).flatMap fun (d : Nat) => (List.range 7).map fun (l : Nat) => ((d : Int), (l : Int) - 3)
noncomputable def askP (a : Agn) : Option (Int × Int) := places.find? fun p => a.setB p.1 p.2
noncomputable def errA (a : Agn) : Int := if a.errL true = 0 then (if a.yardN = 1 then (if a.askP = none then 4 else 0) else 11) else a.errL true
noncomputable def askV (a : Agn) : AVal := .tup [.int .i64 (if a.errA = 0 then (a.askP.getD (0, 0)).1 else 0), .int .i64 (if a.errA = 0 then (a.askP.getD (0, 0)).2 else 0), .int .i64 a.errA]
noncomputable def flowP (a : Agn) (d l : Int) : Int × Int := spanOf ((a.h.truths a.h.every).map (Hul.sumT · (a.h.wet d l)))
variable {a : Agn}
theorem soundS_eq (d l n : Int) : a.soundS d l n = sortI (seenK ((a.h.truths a.h.every).filter fun t => decide (n ≤ Hul.sumT t (a.h.wet d l) ∧ Hul.sumT t (a.h.wet d l) ≤ n))) := by
  unfold soundS Hul.setsL
  rw [Hul.truths_more]
theorem setsL_nil {h : Hul} : h.setsL = [] ↔ h.truths h.every = [] := S_nil (a := ⟨h, [], 0, [], 0⟩)
theorem soundS_mem {d l n : Int} (h : a.soundS d l n ≠ []) : ∃ t ∈ a.h.truths a.h.every, Hul.sumT t (a.h.wet d l) = n := by
  have h1 := mt setsL_nil.2 h
  rw [Hul.truths_more] at h1
  obtain ⟨t, ht⟩ := List.exists_mem_of_ne_nil _ h1
  rw [List.mem_filter] at ht
  have h2 := ht.2
  simp only [decide_eq_true_eq] at h2
  exact ⟨t, ht.1, by omega⟩
theorem sum_rng (hv : a.h.Valid) {t : List Int} (ht : t ∈ a.h.truths a.h.every) (q : Int) : 0 ≤ Hul.sumT t q ∧ Hul.sumT t q ≤ 24 := by
  obtain ⟨h1, h2⟩ := truths_in hv ht
  have hn6 := hv.n6
  unfold Hul.sumT
  have b1 := sumN_nonneg (n := t.length) (c := fun i => if inS q i then ofL t i else 0) fun i _ => by have := h2 i; split <;> omega
  have b2 := sumN_le (n := t.length) (c := fun i => if inS q i then ofL t i else 0) (m := 4) fun i _ => by have := h2 i; split <;> omega
  rw [h1] at b1 b2 ⊢
  omega
theorem span_mem {l : List Int} {x : Int} (hx : x ∈ l) : (spanOf l).1 ≤ x ∧ x ≤ (spanOf l).2 := ⟨(foldl_min_le l _).2 x hx, (foldl_max_le l _).2 x hx⟩
theorem span_in {l : List Int} (hl : l ≠ []) : (spanOf l).1 ∈ l ∧ (spanOf l).2 ∈ l := by
  cases l with
  | nil => exact absurd rfl hl
  | cons x r =>
    unfold spanOf
    refine ⟨?_, ?_⟩
    · rcases foldl_min_mem (x :: r) x with h | h
      · simp only [List.headD_cons]; rw [h]; simp
      · exact h
    · rcases foldl_max_mem (x :: r) x with h | h
      · simp only [List.headD_cons]; rw [h]; simp
      · exact h
theorem flow_rng (hv : a.h.Valid) (ht : a.h.truths a.h.every ≠ []) (d l : Int) : 0 ≤ (a.flowP d l).1 ∧ (a.flowP d l).1 ≤ 24 ∧ 0 ≤ (a.flowP d l).2 ∧ (a.flowP d l).2 ≤ 24 := by
  unfold flowP
  obtain ⟨h1, h2⟩ := span_in (l := (a.h.truths a.h.every).map (Hul.sumT · (a.h.wet d l))) (by simpa using ht)
  obtain ⟨t, h3, h4⟩ := List.mem_map.1 h1
  obtain ⟨u, h5, h6⟩ := List.mem_map.1 h2
  have := sum_rng hv h3 (a.h.wet d l)
  have := sum_rng hv h5 (a.h.wet d l)
  omega
theorem per_rng {d l n : Int} (h : a.perB d l n = true) : (a.flowP d l).1 ≤ n ∧ n ≤ (a.flowP d l).2 := by
  unfold perB at h
  rw [Bool.and_eq_true, decide_eq_true_eq] at h
  obtain ⟨t, h1, h2⟩ := soundS_mem h.1
  exact span_mem (List.mem_map.2 ⟨t, h1, h2⟩)
theorem setB_iff (hv : a.h.Valid) {d l : Int} : a.setB d l = true ↔ ∀ n : Int, (a.flowP d l).1 ≤ n → n ≤ (a.flowP d l).2 → a.perB d l n = false := by
  unfold setB
  rw [List.all_eq_true]
  constructor
  · intro h n h1 h2
    cases hp : a.perB d l n
    · rfl
    · have hp' := hp
      unfold perB at hp'
      rw [Bool.and_eq_true, decide_eq_true_eq] at hp'
      obtain ⟨t, h3, h4⟩ := soundS_mem hp'.1
      have := sum_rng hv h3 (a.h.wet d l)
      have h5 := h n.toNat (List.mem_range.2 (by omega))
      rw [Int.toNat_of_nonneg (by omega), hp] at h5
      cases h5
  · intro h n _
    cases hp : a.perB d l (n : Int)
    · rfl
    · obtain ⟨h1, h2⟩ := per_rng hp
      rw [h _ h1 h2] at hp
      cases hp
theorem setB_wet {d l d' l' : Int} (h : a.h.wet d l = a.h.wet d' l') : a.setB d l = a.setB d' l' := by
  unfold setB perB
  simp only [soundS_eq, h]
theorem mem_places {p : Int × Int} : p ∈ places ↔ Hul.At p.1 p.2 := by
  unfold places Hul.At
  rw [List.mem_flatMap]
  constructor
  · rintro ⟨d, hd, h⟩
    obtain ⟨l, hl, rfl⟩ := List.mem_map.1 h
    rw [List.mem_range] at hd hl
    simp only
    omega
  · rintro ⟨h1, h2⟩
    refine ⟨p.1.toNat, List.mem_range.2 (by omega), List.mem_map.2 ⟨(p.2 + 3).toNat, List.mem_range.2 (by omega), ?_⟩⟩
    have e1 : ((p.1.toNat : Nat) : Int) = p.1 := Int.toNat_of_nonneg (by omega)
    have e2 : (((p.2 + 3).toNat : Nat) : Int) = p.2 + 3 := Int.toNat_of_nonneg (by omega)
    rw [e1, e2]
    obtain ⟨x, y⟩ := p
    simp only [Prod.mk.injEq, true_and]
    omega
end Agn
end Go.Cw
end

/- Again: the library's Clone of an empty list of soundings, walked by the kit's own steps. -/
section
namespace Go.Proofs
open Go Go.Shelf Go.RowKit Go.Lib Go.Sort
set_option maxRecDepth 20000 in
set_option maxHeartbeats 1000000 in
theorem Tryz.cloneS0 (o : Option Addr) (c : Nat) (W : World) : Calls Tryz.prog 69 #[.slice o 0 c] W fun e w' => (∃ o', e = .returned (.slice o' 0 0)) ∧ ∃ q os', w' = grow (W.drewN q) os' := by
  go_enter Tryz.func69, Tryz.ntmps69
  go_wp2
  have hb : Sem.run Tryz.prog (binOp BinOp.eql 26 (Value.slice o 0 c) (Value.slice none 0 0)) W = .ok (.bool o.isNone) W := by
    show Sem.run Tryz.prog (do pure (Value.bool (← Op.equal 26 (Value.slice o 0 c) (Value.slice none 0 0)))) W = _
    have : Sem.run Tryz.prog (Op.equal 26 (Value.slice o 0 c) (Value.slice none 0 0)) W = .ok o.isNone W := by
      show Sem.run Tryz.prog (Op.equalIn (9999 + 1) 26 (Value.slice o 0 c) (Value.slice none 0 0)) W = _
      rw [Op.equalIn]
      cases o <;> simp [run_underlying (show Tryz.prog.underlying 26 = some (.slice 59) by kernel_rfl)]
    simp [this]
  rw [hb]
  simp only [Result.andThen]
  rw [Oper.upon_value]
  cases o
  all_goals simp only [Option.isNone]
  all_goals go_wp2
  · go_ret
    exact ⟨⟨_, rfl⟩, 0, #[], by rw [grow_empty]; rfl⟩
  · go_ret
    exact ⟨⟨_, rfl⟩, 0, _, by rw [alloc_eq_grow]; rfl⟩
end Go.Proofs
end

/- Again: a copy of soundings, with one more. -/
section
set_option maxRecDepth 100000
set_option linter.unusedSimpArgs false
namespace Go.Cw
open Go Go.Proofs Go.Sort

theorem Sim.grown {Z : Snap} {μ : Mu} {h : Heap} {g : Nat} {w : World} (S : Sim Z μ h g w) (q : Nat) (os : Array Obj) :
    Sim Z μ h g (grow (w.drewN q) os) ∧ Tr Z μ h g w Z μ h g (grow (w.drewN q) os) := by
  have hsz : w.heap.size ≤ (grow (w.drewN q) os).heap.size := by
    rw [size_grow]; exact Nat.le_add_right _ _
  have hfr : ∀ b, b < w.heap.size → (grow (w.drewN q) os).heap[b]? = w.heap[b]? := fun b hb => heap_grow_old (w.drewN q) os hb
  refine ⟨⟨fun r => (S.rows r).mono (Ext.refl _ _ _) (fun s hs => hfr _ (S.lt hs).2), S.inj, fun b c hb => ?_, S.sep⟩, ⟨Ext.refl _ _ _, hsz, fun b hb _ => hfr b hb, fun r s hs _ => ⟨r, s, hs, rfl⟩, fun _ _ hb _ => .inl hb, rfl, rfl⟩⟩
  obtain ⟨arr, elem, fr, h1, h2⟩ := S.imm b c hb
  exact ⟨arr, elem, fr, by rw [hfr b (S.imm_lt hb)]; exact h1, h2⟩

theorem cloneS_empty : APure Pg fn_slices_Clone_api_LeakSounding_api_LeakSounding [LD []] .es := by
  refine APure.of_nil ⟨⟨_, _, Tryz.func69, rfl, rfl⟩, fun Z μ g w cargs S hsz hv => ?_⟩
  obtain ⟨x, rfl⟩ : ∃ x, cargs = #[x] := by
    match cargs, hsz with
    | ⟨[x]⟩, _ => exact ⟨x, rfl⟩
  have h3 := (VPre_cons.1 hv).1
  unfold LD at h3
  simp only [VRel] at h3
  obtain ⟨a, cap, rfl, _⟩ := h3
  refine Calls.mono' (Tryz.cloneS0 a cap w) ?_
  rintro e w' ⟨⟨o', rfl⟩, q, os, rfl⟩
  obtain ⟨S', T⟩ := S.grown q os
  exact ⟨Z, μ, g, .ret .es, _, rfl, ⟨_, by simp only [VRel]; exact ⟨o', rfl⟩, rfl⟩, S', T⟩
theorem cloneS_L (b : List Sd) (hb : b ≠ []) (hl : b.length ≤ 1000) (nm : Nat) (K : AEnd → Heap → Prop)
    (hK : ∀ s', K (.ret (.sl nm 0 s' b.length (.gr 4))) (hpV [(nm, .row (sds b) s')])) : ACalls Pg fn_slices_Clone_api_LeakSounding_api_LeakSounding [LD b] (hpV [(nm, .dead)]) K := by
  have h0 : b.length ≠ 0 := by simpa using hb
  obtain ⟨F, hF⟩ : ∃ F, nm < F := ⟨nm + 1, by omega⟩
  have e3 : ∀ k, ¬ F + k = nm := fun k => by omega
  have e4 : ∀ k, ¬ nm = F + k := fun k => by omega
  refine slices_Clone_api_LeakSounding_api_LeakSounding.enter F (by simp) ?_
  have hnil : isNil .s (LD b) = some false := isNil_vl h0 _
  simp [hnil, e3, e4, h0]
  intro s5 s7
  refine xAp_cp (by simp) (by simp) (by omega) ?_
  simp [cpV, cpO, h0, e3, e4]
  refine RetV.move (F + 7) nm (RetV.view [(nm, .row (sds b) (s7 + 1))] (by simp [e3, e4]) ?_)
  simpa using hK (s7 + 1)
def cpS (b : List Sd) (s' : Nat) : AVal := if b = [] then .es else .sl 300 0 s' b.length (.gr 4)
def coS (b : List Sd) (s' : Nat) : AObj := if b = [] then .dead else .row (sds b) s'
theorem xApN_cpS {nm bytes s₀ s' : Nat} {b : List Sd} {h : Heap} {K : AVal → Heap → Prop} {ys : List AVal} (h1 : h 300 = coS b s') (hb : (2 * (b.length + 1) + 192) * bytes ≤ 281474976710656)
    (hK : K (.sl nm 0 (s₀ + 1) (b.length + 1) (.gr 4)) (upd (upd h 300 .dead) nm (.row (sds b ++ ys) (s₀ + 1)))) : xApN nm 4 bytes s₀ (cpS b s') h K 1 ys := by
  unfold coS at h1
  unfold cpS
  by_cases hn : b = []
  · subst hn
    rw [if_pos rfl] at h1 ⊢
    have e : upd h 300 .dead = h := by
      funext x
      by_cases hx : x = 300
      · rw [hx, upd_same, h1]
      · rw [upd_ne _ _ hx]
    rw [e] at hK
    simp only [xApN_es]
    exact ⟨by simpa using hb, by simpa [sds, fl] using hK⟩
  · rw [if_neg hn] at h1 ⊢
    have := @xApN_gS nm 300 4 bytes s₀ b.length s' 1 h K (sds b) ys
    have h0 : 0 < b.length := List.length_pos_iff.2 hn
    rw [gS_pos h0, gO_pos h0, gS_pos (by omega), gO_pos (by omega)] at this
    exact this h1 (by simp) hb (by omega) hK
section
variable {F n₀ : Nat} {inr : Bool} {keep : List Nat} {fa fl : List It} {t : Option Nat} {K : KT} {Q : Post} {tm : TM} {df : DF} {h : Heap}
theorem FCall.cloneS {b : List Sd} (hl : b.length ≤ 1000) (hw : h 300 = .dead) (f : FaOk F fa tm h)
    (next : ∀ s', FlOk fl (putD tm t (cpS b s')) (upd h 300 (coS b s')) ∧ K (putD tm t (cpS b s')) df (upd h 300 (coS b s'))) :
    FCall ⟨Pg, F, n₀, inr, keep⟩ (.func (.func fn_slices_Clone_api_LeakSounding_api_LeakSounding) [] []) [LD b] fa fl t K Q tm df h := by
  refine FCall.cps [(300, .dead)] (fun s' : Nat => cpS b s') (fun s' => [(300, coS b s')]) (fun _ => True) (fun K' hK' => ?_) ⟨hw, trivial⟩ (fun _ => rfl) f (fun s' _ => by simpa using next s')
  by_cases hb : b = []
  · subst hb
    have hk := hK' 0 trivial
    simp only [cpS, coS, if_true, if_pos] at hk
    have e : hpV [(300, .dead)] = nilH := by rw [hpV_dead1]
    rw [e] at hk ⊢
    exact AInvoke.func (first := []) (cap := []) (args := [LD []]) ((cloneS_empty nilH).mono (by rintro e h' ⟨rfl, rfl⟩; exact hk))
  · refine AInvoke.func (first := []) (cap := []) (args := [LD b]) (cloneS_L b hb hl 300 K' fun s' => ?_)
    have hk := hK' s' trivial
    simpa only [cpS, coS, if_neg hb] using hk
end
end Go.Cw
end

/- Again: does a sounding at a place settle it? -/
section
set_option maxRecDepth 100000
set_option linter.unusedSimpArgs false
namespace Go.Cw
open Go Go.Proofs

theorem Hul.setsL_lt {h : Hul} (hv : h.Valid) {x : Int} (hx : x ∈ h.setsL) : 0 ≤ x ∧ x < 2 ^ h.n := by
  obtain ⟨t, ht, rfl⟩ := (Agn.mem_S (a := ⟨h, [], 0, [], 0⟩)).1 hx
  have h1 := (truths_in hv ht).1
  unfold leaksT
  rw [h1]
  exact bits_lt _ _
theorem again_ship_settles_ok (a : Agn) (hv : a.Valid) (hS : a.S ≠ []) (s : Nat) (d l : Int) (hp : Hul.At d l) (K : AEnd → Heap → Prop) (hK : K (.ret (.bool (a.setB d l))) (hpV [(200, a.mapO s)])) :
    ACalls Pg fn_again_ship_settles [.pv (a.shipC 200 s (L a.S)), .agg [.int .i64 d, .int .i64 l]] (hpV [(200, a.mapO s)]) K := by
  have hn6 := hv.n6
  have hk7 := hv.k7
  have hkl : a.h.snds.length < 8 := hk7
  have hto := hv.to
  have ht := mt Agn.S_nil.2 hS
  obtain ⟨f1, f2, f3, f4⟩ := Agn.flow_rng hv.h ht d l
  have hset := Agn.setB_iff hv.h (d := d) (l := l)
  obtain ⟨lo, hlo⟩ : ∃ x, x = (a.flowP d l).1 := ⟨_, rfl⟩
  obtain ⟨hi, hhi⟩ : ∃ x, x = (a.flowP d l).2 := ⟨_, rfl⟩
  have hfl : a.h.sumV (Hul.At d l) (a.h.wet d l) = .tup [.agg [.int .i64 lo, .int .i64 hi], .int .i64 0] := by
    simp only [Hul.sumV, if_pos hv.h, if_pos hp, if_neg ht]
    rw [hlo, hhi]; rfl
  have cF := leak_Flow_ok a.h hv.h.small d l
  rw [hfl] at cF
  rw [← hlo] at f1 f2
  rw [← hhi] at f3 f4
  rw [← hlo, ← hhi] at hset
  have h2 : (a.shipC 200 s (L a.S)).take 2 = [LS a.h.seams, LD a.h.snds] := rfl
  have h1g : (a.shipC 200 s (L a.S))[1]? = some (LD a.h.snds) := rfl
  have h1d : (a.shipC 200 s (L a.S)).drop 1 = LD a.h.snds :: (a.shipC 200 s (L a.S)).drop 2 := rfl
  have h5 : (a.shipC 200 s (L a.S)).drop 5 = .int .i64 a.t :: (ints (tab 6 a.F) ++ [.map 200 s, L a.S]) := rfl
  have h5g : (a.shipC 200 s (L a.S))[5]? = some (.int .i64 a.t) := rfl
  refine again_ship_settles.enter 0 (by simp) ?_
  have hl14 := a.shipC_len 200 s (L a.S)
  simp [h2, h1g, h1d, h5, h5g, hl14]
  intro s3
  refine PCallK.intro (PInv.func (first := []) (cap := []) (args := [a.h.v, .int .i64 d, .int .i64 l]) cF) ?_
  simp
  intro s5
  refine FCall.pure (PInv.func (again_want_ok 0)) ?_
  simp
  refine Lp.intro (σ := Nat) (inv := fun k => lo + k ≤ 25 ∧ ∀ m : Int, lo ≤ m → m < lo + k → a.perB d l m = false)
    (vw := fun k => [(0, .pv (a.shipC 200 s (L a.S))), (3, .ptr 3 0 (s3+1)), (5, .ptr 5 0 (s5+1)), (7, .int .i64 (lo + k))])
    (hp := fun k => [(200, a.mapO s), (3, .row [.int .i64 d, .int .i64 l] (s3+1)), (5, .row [.int .i64 lo, .int .i64 hi] (s5+1))]) (ms := fun k => 26 - k) 0 ⟨by omega, fun m h1 h2 => by omega⟩ (by simp) (by simp) ?_
  rintro k ⟨hk1, hk2⟩ J hJ
  by_cases hkc : lo + k ≤ hi
  · obtain ⟨n, hn⟩ : ∃ n : Int, n = lo + k := ⟨_, rfl⟩
    rw [← hn] at hkc hk2 ⊢
    have hn24 : 0 ≤ n ∧ n ≤ 24 := by omega
    have hvm : (a.h.more ⟨d, l, n, n⟩).Valid := hv.h.more hk7 ⟨hp, hn24.1, Int.le_refl _, hn24.2⟩
    have cS := leak_Sets_ok _ hvm.small
    have hmc : (a.h.more ⟨d, l, n, n⟩).v = .agg [LS a.h.seams, LD (a.h.snds ++ [⟨d, l, n, n⟩])] := rfl
    rw [hmc] at cS
    simp [hkc, h2, h1g, h1d, h5, h5g, hl14]
    intro s8
    refine FCall.cloneS (b := a.h.snds) (by omega) (by simp) (by simp) fun s47 => ⟨by simp, ?_⟩
    simp
    intro s56 s57
    refine xApN_cpS (b := a.h.snds) (s' := s47) (by simp) (by omega) ?_
    rw [show sds a.h.snds ++ [AVal.int .i64 d, .int .i64 l, .int .i64 n, .int .i64 n] = sds (a.h.snds ++ [⟨d, l, n, n⟩]) by simp [sds, fl, Sd.c]]
    simp
    have hnx : ∀ {b : Bool}, a.perB d l n = b → b = false → ∀ m : Int, lo ≤ m → m < lo + ((k + 1 : Nat) : Int) → a.perB d l m = false := fun h1 h2 m h3 h4 => by
      by_cases e : m = n
      · rw [e, h1, h2]
      · exact hk2 m h3 (by omega)
    have hn1 : n + 1 = lo + ((k + 1 : Nat) : Int) := by omega
    have hlen : (a.h.snds ++ [(⟨d, l, n, n⟩ : Sd)]).length = a.h.snds.length + 1 := by simp
    by_cases hE : a.soundS d l n = []
    · have hper : a.perB d l n = false := by unfold Agn.perB; simp [hE]
      have hsv : (a.h.more ⟨d, l, n, n⟩).setsV = .tup [L [], .int .i64 10] := by simp [Hul.setsV, hvm, Agn.setsL_nil.1 hE]
      rw [hsv] at cS
      refine FCall.frz1 57 rfl (v := .tup [L [], .int .i64 10]) ?_ (by simp) ?_
      · have := PInv.func (first := []) (cap := []) (args := [.agg [LS a.h.seams, LD (a.h.snds ++ [⟨d, l, n, n⟩])]]) cS
        simpa [LD] using this
      simp
      (repeat first | refine And.intro (by omega) ?_ | refine And.intro (Fits.of (by omega) (by omega)) ?_)
      exact hJ.next (k + 1) ⟨by omega, hnx hper rfl⟩ (by omega) (by simp [hn1]) (by simp)
    · have hsv : (a.h.more ⟨d, l, n, n⟩).setsV = .tup [L (a.soundS d l n), .int .i64 0] := by
        simp only [Hul.setsV, if_pos hvm, if_neg (mt Agn.setsL_nil.2 hE)]
        rfl
      rw [hsv] at cS
      have hSl : (a.soundS d l n).length ≤ 15625 := Hul.setsL_len hvm
      have hSi : ∀ x ∈ a.soundS d l n, 0 ≤ x ∧ x < 2 ^ a.n := fun x hx => by
        have := Hul.setsL_lt hvm hx
        have e : (a.h.more ⟨d, l, n, n⟩).n = a.n := hv.len.symm
        rwa [e] at this
      have hper : a.perB d l n = decide (Ag.toldV a.n (Ag.pr a.w a.t) (a.soundS d l n) = 1) := by unfold Agn.perB; simp [hE]
      obtain ⟨SS, hSS⟩ : ∃ SS, SS = a.soundS d l n := ⟨_, rfl⟩
      rw [← hSS] at cS hSl hSi hper hE
      refine FCall.frz1 57 rfl (v := .tup [L SS, .int .i64 0]) ?_ (by simp) ?_
      · have := PInv.func (first := []) (cap := []) (args := [.agg [LS a.h.seams, LD (a.h.snds ++ [⟨d, l, n, n⟩])]]) cS
        simpa [LD] using this
      simp [h2, h1g, h1d, h5, h5g, hl14]
      refine FCall.verdict hv hE (by omega) hSi (by omega) (by simp) (by simp) ⟨by simp, ?_⟩
      simp [Ag.verV]
      refine PCallK.intro (PInv.func (again_verdict_told_ok _ _)) ?_
      rw [Ag.told_ver]
      simp
      by_cases hT : Ag.toldV a.n (Ag.pr a.w a.t) SS = 1
      · have hno : a.setB d l = false := by
          cases hb : a.setB d l
          · rfl
          · have := hset.1 hb n (by omega) hkc
            rw [hper] at this
            simp [hT] at this
        simp [hT]
        refine hJ.ret ?_
        simp
        exact RetV.view [(200, a.mapO s)] (by simp) (by rw [← hno]; exact hK)
      · simp [hT] at hper
        simp [hT]
        (repeat first | refine And.intro (by omega) ?_ | refine And.intro (Fits.of (by omega) (by omega)) ?_)
        exact hJ.next (k + 1) ⟨by omega, hnx hper rfl⟩ (by omega) (by simp [hn1]) (by simp)
  · have hall : a.setB d l = true := hset.2 fun m h1 h2 => hk2 m h1 (by omega)
    simp [hkc]
    refine hJ.exit ?_
    simp
    exact RetV.view [(200, a.mapO s)] (by simp) (by rw [← hall]; exact hK)
end Go.Cw
end

/- Again: all places, in order. -/
section
set_option maxRecDepth 100000
set_option linter.unusedSimpArgs false
namespace Go.Cw
open Go Go.Proofs

theorem Agn.places_len : Agn.places.length = 91 := by decide +kernel
theorem Agn.places_get (k j : Nat) (hk : k < 13) (hj : j < 7) : Agn.places[7 * k + j]? = some ((k : Int), (j : Int) - 3) := by
  have : ∀ k : Fin 13, ∀ j : Fin 7, Agn.places[7 * k.1 + j.1]? = some ((k.1 : Int), (j.1 : Int) - 3) := by decide +kernel
  exact this ⟨k, hk⟩ ⟨j, hj⟩
theorem again_places_ok : APure Pg fn_again_places [] (.func (.func fn_again_places_1) [] []) := by
  refine again_places.pure (by simp) ?_
  simp
  exact RetV.refl rfl
theorem again_places_1_ok {τ : Type} (row : τ → List (Nat × AObj)) (hb : RowsB row 300) (yr ys : Nat) (I : Nat → τ → Prop) (X : τ → Prop)
    (hy : ∀ m p t (K : AEnd → Heap → Prop), Agn.places[m]? = some p → I m t → (∀ t', I (m + 1) t' → K (.ret (.bool true)) (hpV (row t'))) → (∀ t', X t' → K (.ret (.bool false)) (hpV (row t'))) → AInvoke Pg (.yield yr ys) [.agg [.int .i64 p.1, .int .i64 p.2]] (hpV (row t)) K)
    (t₀ : τ) (h0 : I 0 t₀) (K : AEnd → Heap → Prop) (hK : ∀ t, I 91 t ∨ X t → K (.ret (.tup [])) (hpV (row t))) : ACalls Pg fn_again_places_1 [.yield yr ys] (hpV (row t₀)) K := by
  refine again_places_1.enter 320 (by simp) ?_
  simp
  refine Lp.intro (σ := Nat × τ) (inv := fun x => x.1 ≤ 13 ∧ I (7 * x.1) x.2) (vw := fun x => [(0, .yield yr ys), (4, .int .i64 x.1)]) (hp := fun x => row x.2) (ms := fun x => 13 - x.1) (0, t₀) ⟨by simp, by simpa using h0⟩ (by simp) (by simp [hb.self]) ?_
  rintro ⟨k, t⟩ ⟨hk, hI⟩ J hJ
  simp at hk hI
  by_cases hkc : k < 13
  · have hkc' : (k : Int) < 13 := by omega
    simp [hkc, hkc']
    refine Lp.intro (σ := Nat × τ) (inv := fun x => x.1 ≤ 7 ∧ I (7 * k + x.1) x.2) (vw := fun x => [(0, .yield yr ys), (2, .int .i64 k), (3, .int .i64 ((x.1 : Int) - 3)), (4, .int .i64 k)]) (hp := fun x => row x.2) (ms := fun x => 7 - x.1) (0, t) ⟨by simp, by simpa using hI⟩ (by simp) (by simp [hb.updL_self, hb.self]) ?_
    rintro ⟨j, t⟩ ⟨hj, hI⟩ J2 hJ2
    simp at hj hI
    by_cases hjc : j < 7
    · have hjc' : (j : Int) - 3 ≤ 3 := by omega
      have hg := Agn.places_get k j hkc hjc
      simp [hjc, hjc']
      refine FCall.cps (σ := {x : Bool × τ // (x.1 = true ∧ I (7 * k + j + 1) x.2) ∨ (x.1 = false ∧ X x.2)}) (row t) (fun x => .bool x.1.1) (fun x => row x.1.2) (fun _ => True) (fun K' hK' => hy (7 * k + j) _ t K' hg hI (fun t' h' => hK' ⟨(true, t'), .inl ⟨rfl, h'⟩⟩ trivial) (fun t' h' => hK' ⟨(false, t'), .inr ⟨rfl, h'⟩⟩ trivial)) (by simp [hb.updL_self, hb.self]) (fun x => hb.hn _ _) trivial fun x _ => ⟨trivial, ?_⟩
      obtain ⟨⟨b, t'⟩, hx⟩ := x
      simp only at hx ⊢
      rcases hx with ⟨rfl, hx⟩ | ⟨rfl, hx⟩
      · simp
        (repeat first | refine And.intro (by omega) ?_ | refine And.intro (Fits.of (by omega) (by omega)) ?_)
        exact hJ2.next (j + 1, t') ⟨by simp; omega, by simpa [Nat.add_assoc] using hx⟩ (by simp; omega) (by simp; omega) (by simp [hb.updL_self, hb.self])
      · simp
        refine hJ2.ret ?_
        simp
        refine hJ.ret ?_
        simp
        exact RetV.view (row t') (by simp [hb.updL_self, hb.self]) (hK t' (.inr hx))
    obtain rfl : j = 7 := by omega
    simp
    refine hJ2.exit ?_
    simp
    (repeat first | refine And.intro (by omega) ?_ | refine And.intro (Fits.of (by omega) (by omega)) ?_)
    exact hJ.next (k + 1, t) ⟨by simp; omega, by simpa [Nat.mul_add] using hI⟩ (by simp; omega) (by simp) (by simp [hb.updL_self, hb.self])
  obtain rfl : k = 13 := by omega
  simp
  refine hJ.exit ?_
  simp
  exact RetV.view (row t) (by simp [hb.updL_self, hb.self]) (hK t (.inl hI))
end Go.Cw
end

/- Again: which sounding settles whose the leak is. -/
section
set_option maxRecDepth 100000
set_option linter.unusedSimpArgs false
namespace Go.Cw
open Go Go.Proofs

section
variable {F n₀ : Nat} {inr : Bool} {keep : List Nat} {fa fl : List It} {t : Option Nat} {K : KT} {Q : Post} {tm : TM} {df : DF} {h : Heap}
theorem FCall.settles {a : Agn} (hv : a.Valid) (hS : a.S ≠ []) {s : Nat} {d l : Int} (hp : Hul.At d l) (hw : h 200 = a.mapO s) (f : FaOk F fa tm h)
    (next : FlOk fl (putD tm t (.bool (a.setB d l))) (upd h 200 (a.mapO s)) ∧ K (putD tm t (.bool (a.setB d l))) df (upd h 200 (a.mapO s))) :
    FCall ⟨Pg, F, n₀, inr, keep⟩ (.func (.func fn_again_ship_settles) [] []) [.pv (a.shipC 200 s (L a.S)), .agg [.int .i64 d, .int .i64 l]] fa fl t K Q tm df h := by
  refine FCall.cps [(200, a.mapO s)] (fun _ : Unit => .bool (a.setB d l)) (fun _ => [(200, a.mapO s)]) (fun _ => True) (fun K' hK' => AInvoke.func (first := []) (cap := []) (args := [.pv (a.shipC 200 s (L a.S)), .agg [.int .i64 d, .int .i64 l]]) (again_ship_settles_ok a hv hS s d l hp K' (hK' () trivial))) ⟨hw, trivial⟩ (fun _ => rfl) f (fun _ _ => by simpa using next)
end
noncomputable def askRow (a : Agn) (s1 s2 s3 s4 s5 s6 s24 s sd : Nat) (LO : Jm → AObj) (t : List Int × Option (Int × Int)) : List (Nat × AObj) :=
  [(1, .row a.cells s1), (2, .row [.int .i64 (t.2.getD (0, 0)).1] s2), (3, .row [.int .i64 (t.2.getD (0, 0)).2] s3), (4, .row [.int .i64 0] s4), (5, .row [.pv (a.shipC 200 s (L a.S))] s5), (6, .row [.map 24 s24] s6),
    (24, .map (entsK ekI (fun _ => .bool true) t.1) s24), (100, if t.2.isSome then LO .ret else LO .go), (101, .dfr false sd), (200, a.mapO s)]
theorem askRow_b (a : Agn) (s1 s2 s3 s4 s5 s6 s24 s sd : Nat) (LO : Jm → AObj) : RowsB (askRow a s1 s2 s3 s4 s5 s6 s24 s sd LO) 300 := ⟨fun _ _ => rfl, fun t x hx => by simp [askRow] at hx; omega, fun t => by simp [askRow]⟩
def Agn.Ahead (a : Agn) (m : Nat) (t : List Int × Option (Int × Int)) : Prop :=
  t.2 = none ∧ (∀ m', m' < m → ∀ p, Agn.places[m']? = some p → a.setB p.1 p.2 = false) ∧ t.1.Nodup ∧ t.1.length ≤ m ∧ ∀ w ∈ t.1, ∃ m', m' < m ∧ ∃ p, Agn.places[m']? = some p ∧ a.h.wet p.1 p.2 = w
theorem Agn.Ahead.none_ {a : Agn} {t : List Int × Option (Int × Int)} (h : a.Ahead 91 t) : a.askP = none := by
  unfold Agn.askP
  rw [List.find?_eq_none]
  intro p hp
  obtain ⟨i, hi, rfl⟩ := List.getElem_of_mem hp
  have hi' : i < 91 := by rw [← Agn.places_len]; exact hi
  have := h.2.1 i hi' _ (List.getElem?_eq_getElem hi)
  simp [this]
theorem Agn.Ahead.some_ {a : Agn} {m : Nat} {t : List Int × Option (Int × Int)} (h : a.Ahead m t) {p : Int × Int} (hp : Agn.places[m]? = some p) (hb : a.setB p.1 p.2 = true) : a.askP = some p := by
  unfold Agn.askP
  rw [List.find?_eq_some_iff_getElem]
  obtain ⟨hm, he⟩ := List.getElem?_eq_some_iff.1 hp
  refine ⟨hb, m, hm, he, fun j hj => ?_⟩
  have := h.2.1 j hj _ (List.getElem?_eq_getElem (by omega))
  simp [this]
theorem Agn.Ahead.seen {a : Agn} {m : Nat} {M : List Int} (h : a.Ahead m (M, none)) {p : Int × Int} (hp : Agn.places[m]? = some p) (hw : a.h.wet p.1 p.2 ∈ M) : a.Ahead (m + 1) (M, none) := by
  obtain ⟨_, h2, h3, h4, h5⟩ := h
  refine ⟨rfl, fun m' hm q hq => ?_, h3, Nat.le_succ_of_le h4, fun w hw => ?_⟩
  · by_cases e : m' = m
    · subst e
      rw [hp] at hq; cases hq
      obtain ⟨m2, hm2, p2, hp2, e2⟩ := h5 _ hw
      rw [← Agn.setB_wet e2]
      exact h2 m2 hm2 p2 hp2
    · exact h2 m' (by omega) q hq
  · obtain ⟨m2, hm2, r⟩ := h5 w hw
    exact ⟨m2, by omega, r⟩
theorem Agn.Ahead.next {a : Agn} {m : Nat} {M : List Int} (h : a.Ahead m (M, none)) {p : Int × Int} (hp : Agn.places[m]? = some p) (hb : a.setB p.1 p.2 = false) : a.Ahead (m + 1) (insK (a.h.wet p.1 p.2) M, none) := by
  obtain ⟨_, h2, h3, h4, h5⟩ := h
  refine ⟨rfl, fun m' hm q hq => ?_, nodup_insK h3, ?_, fun w hw => ?_⟩
  · by_cases e : m' = m
    · subst e
      rw [hp] at hq; cases hq
      exact hb
    · exact h2 m' (by omega) q hq
  · have := (insK_le (a.h.wet p.1 p.2) M).2
    simp only at h4 ⊢
    omega
  · rcases mem_insK.1 hw with hw | hw
    · obtain ⟨m2, hm2, r⟩ := h5 w hw
      exact ⟨m2, by omega, r⟩
    · exact ⟨m, by omega, p, hp, hw.symm⟩
theorem again_Ask_ok (a : Agn) (hs : a.Small) : APure Pg fn_again_Ask [a.v] a.askV := by
  by_cases he : ¬ a.errL true = 0
  · refine again_Ask.pure (by simp) ?_
    simp
    intro s1 s2 s3 s4
    refine FCall.lookP hs he ?_
    simp
    refine RetD.panic rfl again_Ask_1.recClo ?_
    refine ACalls.cps [(4, .row [.int .i64 0] (s4 + 1))] (fun _ : Unit => .tup []) (fun _ => [(4, .row [.int .i64 (a.errL true)] (s4 + 1))]) (fun _ => True) (fun K' hK' => again_said_ref _ _ _ _ K' (hK' () trivial)) (by simp) (fun _ => rfl) fun _ _ => ?_
    simp
    exact RetV.refl (by simp [Agn.askV, Agn.errA, he])
  replace he := Classical.not_not.1 he
  obtain ⟨hv, _, hS⟩ := Agn.errL_zero.1 he
  have hSl := Agn.S_len hv
  have hto := hv.to
  have hn6 := hv.n6
  have h13 : ∀ s, (a.shipC 200 s (L a.S)).drop 13 = [L a.S] := fun _ => rfl
  have h13g : ∀ s, (a.shipC 200 s (L a.S))[13]? = some (L a.S) := fun _ => rfl
  have h2 : ∀ s, (a.shipC 200 s (L a.S)).take 2 = [LS a.h.seams, LD a.h.snds] := fun _ => rfl
  have hl14 : ∀ s, (a.shipC 200 s (L a.S)).length = 14 := fun s => a.shipC_len 200 s (L a.S)
  refine again_Ask.pure (by simp) ?_
  simp
  intro s1 s2 s3 s4
  refine FCall.look hs he (by simp) (by simp) fun s => ⟨by simp, ?_⟩
  simp [h13, h13g]
  intro s5
  refine FCall.verdict hv hS (by omega) (Agn.S_in hv) (by omega) (by simp) (by simp) ⟨by simp, ?_⟩
  simp [Ag.verV]
  refine PCallK.intro (PInv.func (again_verdict_told_ok _ _)) ?_
  rw [Ag.told_ver]
  have hyn : Ag.toldV a.n (Ag.pr a.w a.t) a.S = a.yardN := rfl
  rw [hyn]
  simp
  by_cases hy : ¬ a.yardN = 1
  · have hd : decide (a.yardN = 1) = false := by simp [hy]
    rw [hd]
    refine FCall.pan (PInvPan.func (again_want_pan 11)) ?_
    simp
    refine RetD.panic rfl again_Ask_1.recClo ?_
    refine ACalls.cps [(4, .row [.int .i64 0] (s4 + 1))] (fun _ : Unit => .tup []) (fun _ => [(4, .row [.int .i64 11] (s4 + 1))]) (fun _ => True) (fun K' hK' => again_said_ref _ _ _ _ K' (hK' () trivial)) (by simp) (fun _ => rfl) fun _ _ => ?_
    simp
    exact RetV.refl (by simp [Agn.askV, Agn.errA, he, hy])
  have hy : a.yardN = 1 := Classical.not_not.1 hy
  have hd : decide (a.yardN = 1) = true := by simp [hy]
  rw [hd]
  refine FCall.pure (PInv.func (again_want_ok 11)) ?_
  simp
  intro s24 s6
  refine FCall.pure (PInv.func again_places_ok) ?_
  simp
  refine RF.intro 100 101 rfl (by simp) (by simp) (by simp) fun sl sd LO LB yl => ?_
  obtain ⟨row, hrow⟩ : ∃ row, row = askRow a (s1 + 1) (s2 + 1) (s3 + 1) (s4 + 1) (s5 + 1) (s6 + 1) (s24 + 1) s sd LO := ⟨_, rfl⟩
  have hrb : RowsB row 300 := by rw [hrow]; exact askRow_b _ _ _ _ _ _ _ _ _ _ _
  refine ACalls.cps (σ := List Int × Option (Int × Int)) (row ([], none)) (fun _ => .tup []) (fun t => row t) (fun t => t.2 = a.askP) (fun K' hK' => ?_) (by simp [hrow, askRow, Agn.cells]) (fun _ => hrb.hn _ _) fun t ht => ?_
  · refine again_places_1_ok row hrb 100 sl a.Ahead (fun t => t.2 = a.askP) (fun m p t K hp hI hk1 hk2 => ?_) ([], none) ⟨rfl, fun m' h => by omega, by simp, by simp, by simp⟩ K' fun t ht => hK' t ?_
    · have hat : Hul.At p.1 p.2 := Agn.mem_places.1 (List.mem_of_getElem? hp)
      have cW := leak_Wet_ok a.h hs.h p.1 p.2
      have hwv : a.h.wetV p.1 p.2 = .tup [.int .i64 (a.h.wet p.1 p.2), .int .i64 0] := by simp [Hul.wetV, hv.h, hat]
      rw [hwv] at cW
      obtain ⟨M, o⟩ := t
      obtain rfl : o = none := hI.1
      have hMl : M.length ≤ m := hI.2.2.2.1
      have hm91 : m < 91 := by rw [← Agn.places_len]; exact (List.getElem?_eq_some_iff.1 hp).1
      refine AInvoke.wk (yl _ _ _ rfl (by simp [hrow, askRow]) ?_)
      rw [hrow] at hk1 hk2 ⊢
      simp [askRow, h2, hl14]
      intro s7
      refine PCallK.intro (PInv.func (first := []) (cap := []) (args := [a.h.v, .int .i64 p.1, .int .i64 p.2]) cW) ?_
      simp
      refine FCall.pure (PInv.func (again_want_ok 0)) ?_
      simp
      obtain ⟨w, hw⟩ : ∃ w, w = a.h.wet p.1 p.2 := ⟨_, rfl⟩
      rw [← hw]
      rw [show AVal.int .i64 w = ekI w from rfl, aLookup_K1 ekI_law (k := w) (M := M) (f := fun _ => .bool true) (by simp)]
      by_cases hm : w ∈ M
      · simp [hm]
        have hk := hk1 (M, none) (hI.seen hp (by rw [← hw]; exact hm))
        exact Wk.view (askRow a (s1 + 1) (s2 + 1) (s3 + 1) (s4 + 1) (s5 + 1) (s6 + 1) (s24 + 1) s sd LO (M, none)) (by simp [askRow]) hk
      · simp [hm]
        refine osat_iff.2 ⟨_, mapU_K ekI_law (k := w) (M := M) (f := fun _ => .bool true) (f' := fun _ => .bool true) (m := 24) (s := s24 + 1) hI.2.2.1 (by simp) (by simp) (by simp [ekI]) (by simp) (fun _ _ _ => rfl), ?_⟩
        simp
        refine FCall.settles hv hS hat (by simp) (by simp) ⟨by simp, ?_⟩
        simp
        cases hb : a.setB p.1 p.2 with
        | true =>
          simp
          have hk := hk2 (insK w M, some p) (hI.some_ hp hb).symm
          exact Wk.view (askRow a (s1 + 1) (s2 + 1) (s3 + 1) (s4 + 1) (s5 + 1) (s6 + 1) (s24 + 1) s sd LO (insK w M, some p)) (by simp [askRow]) hk
        | false =>
          simp
          have hk := hk1 (insK w M, none) (by rw [hw]; exact hI.next hp hb)
          exact Wk.view (askRow a (s1 + 1) (s2 + 1) (s3 + 1) (s4 + 1) (s5 + 1) (s6 + 1) (s24 + 1) s sd LO (insK w M, none)) (by simp [askRow]) hk
    · rcases ht with ht | ht
      · rw [ht.none_, ht.1]
      · exact ht
  · obtain ⟨M, o⟩ := t
    simp only at ht
    rw [hrow]
    cases o with
    | none =>
      refine ⟨.go, by simp [askRow], ?_⟩
      simp [askRow]
      refine RetD.ret rfl again_Ask_1.recClo ((again_said_nil _ _).mono ?_)
      rintro e h' ⟨rfl, rfl⟩
      simp
      exact RetV.refl (by simp [Agn.askV, Agn.errA, he, hy, ← ht])
    | some p =>
      refine ⟨.ret, by simp [askRow], ?_⟩
      simp [askRow]
      refine RetD.ret rfl again_Ask_1.recClo ((again_said_nil _ _).mono ?_)
      rintro e h' ⟨rfl, rfl⟩
      simp
      exact RetV.refl (by simp [Agn.askV, Agn.errA, he, hy, ← ht])
end Go.Cw
end
