/-
  What the document's reference of layer 11 computes; laws of layer 11; how a ship is read as an argument.
-/
import Derived.Test.YtkcppdggfnfpiaaGreatWb
import Derived.Test.YtkcppdggfnfpiaaGreatLa
import Derived.Test.YtkcppdggfnfpiaaGreatAe
import Derived.Test.YtkcppdggfnfpiaaGreatAf
import Derived.Test.YtkcppdggfnfpiaaGreatRows
set_option linter.unusedVariables false
set_option linter.unusedSimpArgs false
set_option linter.unusedSectionVars false

/- The reference of chapter 11: is a ship valid; the last works; promises. -/
section
set_option maxRecDepth 100000
set_option linter.unusedSimpArgs false
namespace Go.Cw
open Go Go.Proofs

theorem ref11_in_ok (n lo hi : Int) : APure Pg fn_ref11_in [.int .i64 n, .int .i64 lo, .int .i64 hi] (.bool (decide (lo ≤ n ∧ n ≤ hi))) := by
  refine ref11_in.pure (by simp) ?_
  by_cases h : lo ≤ n <;> simp [h] <;> refine RetV.refl ?_ <;> simp_all

theorem ref11_Ship_ok (a : Agn) (hs : a.Small) : APure Pg fn_ref11_Ship [a.v] (.bool (decide a.Valid)) := by
  have hf40 := hs.f
  have hw40 := hs.w
  have hfn : a.f.length = a.n := rfl
  refine ref11_Ship.pure (by simp) ?_
  simp
  intro s1
  refine PCallK.intro (PInv.func (first := []) (cap := []) (args := [a.h.v]) (ref01_Hull_ok a.h hs.h)) ?_
  by_cases c1 : ¬ a.h.Valid
  · have hn : ¬ a.Valid := fun hv => c1 hv.h
    simp [c1]
    exact RetV.refl (by simp [hn])
  replace c1 := Classical.not_not.1 c1
  have hsl : a.h.seams.length ≤ 6 := c1.n6
  have hdl : a.h.snds.length ≤ 8 := c1.k8
  by_cases c2 : ¬ a.h.snds.length < 8
  · have hn : ¬ a.Valid := fun hv => c2 hv.k7
    have c2' : (8 : Int) ≤ a.h.snds.length := by omega
    simp [c1, c2']
    exact RetV.refl (by simp [hn])
  replace c2 := Classical.not_not.1 c2
  have c2' : ¬ (8 : Int) ≤ a.h.snds.length := by omega
  by_cases c3 : ¬ a.f.length = a.h.seams.length
  · have hn : ¬ a.Valid := fun hv => c3 hv.len
    have c3' : ¬ (a.f.length : Int) = a.h.seams.length := by omega
    simp [c1, c2', c3, c3']
    exact RetV.refl (by simp [hn])
  replace c3 := Classical.not_not.1 c3
  have c3' : (a.f.length : Int) = a.h.seams.length := by omega
  simp [c1, c2', c3, c3']
  refine PCallK.intro (PInv.func (ref11_in_ok _ _ _)) ?_
  by_cases c4 : ¬ (0 ≤ a.c ∧ a.c ≤ 100)
  · have hn : ¬ a.Valid := fun hv => c4 hv.co
    simp [c4]
    exact RetV.refl (by simp [hn])
  replace c4 := Classical.not_not.1 c4
  simp [c4]
  refine PCallK.intro (PInv.func (ref11_in_ok _ _ _)) ?_
  by_cases c5 : ¬ (0 ≤ a.t ∧ a.t ≤ 5000)
  · have hn : ¬ a.Valid := fun hv => c5 hv.to
    simp [c5]
    exact RetV.refl (by simp [hn])
  replace c5 := Classical.not_not.1 c5
  simp [c5]
  by_cases c6 : ¬ a.w.length ≤ 12
  · have hn : ¬ a.Valid := fun hv => c6 hv.w12
    have c6' : (12 : Int) < a.w.length := by omega
    simp [c6']
    exact RetV.refl (by simp [hn])
  replace c6 := Classical.not_not.1 c6
  have c6' : ¬ (12 : Int) < a.w.length := by omega
  simp [c6']
  refine Lp.intro (σ := Nat) (inv := fun k => k ≤ a.f.length ∧ ∀ x ∈ a.f.take k, 1 ≤ x ∧ x ≤ 20) (vw := fun k => [(1, .ptr 1 0 (s1+1)), (3, .int .i64 k)]) (hp := fun _ => [(1, .row a.cells (s1+1))]) (ms := fun k => a.f.length - k) 0 (by simp) (by simp) (by simp [Agn.cells]) ?_
  rintro k ⟨hk, hall⟩ J hJ
  by_cases hkc : k < a.f.length
  · obtain ⟨x, hx⟩ : ∃ x, a.f[k] = x := ⟨_, rfl⟩
    have hg : a.f[k]? = some x := by rw [List.getElem?_eq_getElem hkc, hx]
    simp [hkc, hx, hg, Agn.cells]
    refine PCallK.intro (PInv.func (ref11_in_ok _ _ _)) ?_
    by_cases hb : 1 ≤ x ∧ x ≤ 20
    · simp [hb]
      (repeat first | refine And.intro (by omega) ?_ | refine And.intro (Fits.of (by omega) (by omega)) ?_)
      refine hJ.next (k + 1) ⟨by omega, fun y hy => ?_⟩ (by omega) (by simp) (by simp [Agn.cells])
      rw [← List.take_append_getElem hkc] at hy
      rcases List.mem_append.1 hy with hy | hy
      · exact hall y hy
      · simp [hx] at hy; rw [hy]; exact hb
    · have hn : ¬ a.Valid := fun hv => hb (hv.fa x (by rw [← hx]; exact List.getElem_mem hkc))
      simp [hb]
      refine hJ.ret ?_
      simp
      exact RetV.refl (by simp [hn])
  obtain rfl : k = a.f.length := by omega
  rw [List.take_length] at hall
  simp [Agn.cells]
  refine hJ.exit ?_
  simp
  refine Lp.intro (σ := Nat) (inv := fun k => k ≤ a.w.length ∧ ∀ x ∈ a.w.take k, a.OkW x) (vw := fun k => [(1, .ptr 1 0 (s1+1)), (4, .int .i64 k)]) (hp := fun _ => [(1, .row a.cells (s1+1))]) (ms := fun k => a.w.length - k) 0 (by simp) (by simp) (by simp [Agn.cells]) ?_
  rintro k ⟨hk, hallw⟩ J hJ
  by_cases hkc : k < a.w.length
  · obtain ⟨x, hx⟩ : ∃ x, a.w[k] = x := ⟨_, rfl⟩
    have hg : a.w[k]? = some x := by rw [List.getElem?_eq_getElem hkc, hx]
    have hno : ¬ a.OkW x → ¬ a.Valid := fun h hv => h (hv.wo x (by rw [← hx]; exact List.getElem_mem hkc))
    have hsm : a.h.Seam x.s ↔ 0 ≤ x.s ∧ x.s < a.n := by
      unfold Hul.Seam
      have : (a.h.n : Int) = a.n := by rw [← hfn]; exact c3'.symm
      rw [this]
    simp [hkc, hx, hg, Agn.cells]
    refine ⟨by omega, fun s5 => ?_⟩
    refine PCallK.intro (PInv.func (first := []) (cap := []) (args := [a.h.v, .int .i64 x.s]) (ref01_Seam_ok a.h hs.h x.s)) ?_
    by_cases d1 : ¬ a.h.Seam x.s
    · have hn := hno fun h => d1 (hsm.2 h.1)
      simp [d1]
      refine hJ.ret ?_
      simp
      exact RetV.refl (by simp [hn])
    replace d1 := Classical.not_not.1 d1
    simp [d1]
    refine PCallK.intro (PInv.func (ref11_in_ok _ _ _)) ?_
    by_cases d2 : ¬ (0 ≤ x.g ∧ x.g ≤ 3)
    · have hn := hno fun h => d2 h.2.1
      simp [d2]
      refine hJ.ret ?_
      simp
      exact RetV.refl (by simp [hn])
    replace d2 := Classical.not_not.1 d2
    simp [d2]
    refine PCallK.intro (PInv.func (ref11_in_ok _ _ _)) ?_
    by_cases d3 : ¬ (0 ≤ x.d ∧ x.d ≤ a.t)
    · have hn := hno fun h => d3 h.2.2
      simp [d3]
      refine hJ.ret ?_
      simp
      exact RetV.refl (by simp [hn])
    replace d3 := Classical.not_not.1 d3
    simp [d3]
    (repeat first | refine And.intro (by omega) ?_ | refine And.intro (Fits.of (by omega) (by omega)) ?_)
    refine hJ.next (k + 1) ⟨by omega, fun y hy => ?_⟩ (by omega) (by simp) (by simp [Agn.cells])
    rw [← List.take_append_getElem hkc] at hy
    rcases List.mem_append.1 hy with hy | hy
    · exact hallw y hy
    · simp [hx] at hy; rw [hy]; exact ⟨hsm.1 d1, d2, d3⟩
  obtain rfl : k = a.w.length := by omega
  rw [List.take_length] at hallw
  have hv : a.Valid := ⟨c1, c2, c3, hall, c4, c5, c6, hallw⟩
  simp [Agn.cells]
  refine hJ.exit ?_
  simp
  exact RetV.refl (by simp [hv])
namespace Ag
def lastI (W : List Wrk) (i : Int) : Nat → Int
  | 0 => -1
  | k + 1 => match W[k]? with
    | some w => if w.s = i then (match lastW (W.take k) i with
      | none => k
      | some v => if v.d ≤ w.d then k else lastI W i k) else lastI W i k
    | none => lastI W i k
theorem lastI_spec (W : List Wrk) (i : Int) : ∀ k, k ≤ W.length → (lastI W i k = -1 ∧ lastW (W.take k) i = none) ∨ ∃ j, j < k ∧ lastI W i k = j ∧ ∃ v, W[j]? = some v ∧ lastW (W.take k) i = some v
  | 0, _ => .inl ⟨rfl, rfl⟩
  | k + 1, hk => by
    have hkc : k < W.length := by omega
    have ih := lastI_spec W i k (by omega)
    have hg : W[k]? = some W[k] := List.getElem?_eq_getElem hkc
    have ht : W.take (k + 1) = W.take k ++ [W[k]] := (List.take_append_getElem hkc).symm
    simp only [lastI, hg]
    rw [ht, lastW_push]
    rcases ih with ⟨h1, h2⟩ | ⟨j, h1, h2, v, h3, h4⟩
    · rw [h2]
      simp only [betW]
      by_cases e : W[k].s = i
      · rw [if_pos e, if_pos e]
        exact .inr ⟨k, by omega, rfl, _, hg, rfl⟩
      · rw [if_neg e, if_neg e]
        exact .inl ⟨h1, rfl⟩
    · rw [h4]
      simp only [betW]
      by_cases e : W[k].s = i
      · rw [if_pos e]
        by_cases e2 : v.d ≤ W[k].d
        · rw [if_pos e2, if_pos ⟨e, e2⟩]
          exact .inr ⟨k, by omega, rfl, _, hg, rfl⟩
        · rw [if_neg e2, if_neg fun h => e2 h.2]
          exact .inr ⟨j, by omega, h2, v, h3, rfl⟩
      · rw [if_neg e, if_neg fun h => e h.1]
        exact .inr ⟨j, by omega, h2, v, h3, rfl⟩
end Ag
theorem ref11_last_ok (a : Agn) (hw : a.w.length ≤ 40) (i : Int) : APure Pg fn_ref11_last [a.v, .int .i64 i] (.int .i64 (Ag.lastI a.w i a.w.length)) := by
  refine ref11_last.pure (by simp) ?_
  simp
  intro s2
  refine Lp.intro (σ := Nat) (inv := fun k => k ≤ a.w.length) (vw := fun k => [(1, .int .i64 i), (2, .ptr 2 0 (s2+1)), (5, .int .i64 (Ag.lastI a.w i k)), (6, .int .i64 k)]) (hp := fun _ => [(2, .row a.cells (s2+1))]) (ms := fun k => a.w.length - k) 0 (by simp) (by simp [Ag.lastI]) (by simp [Agn.cells]) ?_
  intro k hk J hJ
  by_cases hkc : k < a.w.length
  · obtain ⟨x, hx⟩ : ∃ x, a.w[k] = x := ⟨_, rfl⟩
    have hg : a.w[k]? = some x := by rw [List.getElem?_eq_getElem hkc, hx]
    have hsp := Ag.lastI_spec a.w i k hk
    have hst : Ag.lastI a.w i (k + 1) = if x.s = i then (match Ag.lastW (a.w.take k) i with
      | none => (k : Int)
      | some v => if v.d ≤ x.d then (k : Int) else Ag.lastI a.w i k) else Ag.lastI a.w i k := by
      simp only [Ag.lastI, hg]
    obtain ⟨y, hy⟩ : ∃ y, y = Ag.lastI a.w i k := ⟨_, rfl⟩
    rw [← hy] at hsp hst ⊢
    by_cases e : x.s = i
    · rw [if_pos e] at hst
      rcases hsp with ⟨h1, h2⟩ | ⟨j, h1, h2, v, h3, h4⟩
      · rw [h2] at hst
        simp only at hst
        have hy0 : y < 0 := by omega
        simp [hkc, hx, hg, Agn.cells, e, hy0]
        (repeat first | refine And.intro (by omega) ?_ | refine And.intro (Fits.of (by omega) (by omega)) ?_)
        exact hJ.next (k + 1) (by omega) (by omega) (by simp [hst]) (by simp [Agn.cells])
      · rw [h4] at hst
        simp only at hst
        have hy0 : ¬ (j : Int) < 0 := by omega
        have hjc : j < a.w.length := by omega
        have hje : a.w[j] = v := (List.getElem?_eq_some_iff.1 h3).2
        by_cases e2 : v.d ≤ x.d
        · rw [if_pos e2] at hst
          simp [hkc, hx, hg, Agn.cells, e, h2, hy0, hjc, hje, h3, e2]
          (repeat first | refine And.intro (by omega) ?_ | refine And.intro (Fits.of (by omega) (by omega)) ?_)
          exact hJ.next (k + 1) (by omega) (by omega) (by simp [hst]) (by simp [Agn.cells])
        · rw [if_neg e2] at hst
          simp [hkc, hx, hg, Agn.cells, e, h2, hy0, hjc, hje, h3, e2]
          (repeat first | refine And.intro (by omega) ?_ | refine And.intro (Fits.of (by omega) (by omega)) ?_)
          exact hJ.next (k + 1) (by omega) (by omega) (by simp [hst, h2]) (by simp [Agn.cells])
    · rw [if_neg e] at hst
      simp [hkc, hx, hg, Agn.cells, e]
      (repeat first | refine And.intro (by omega) ?_ | refine And.intro (Fits.of (by omega) (by omega)) ?_)
      exact hJ.next (k + 1) (by omega) (by omega) (by simp [hst]) (by simp [Agn.cells])
  obtain rfl : k = a.w.length := by omega
  simp [Agn.cells]
  refine hJ.exit ?_
  simp
  exact RetV.refl rfl
structure Agn.Days (a : Agn) : Prop where
  w : a.w.length ≤ 40
  d : ∀ x ∈ a.w, 0 ≤ x.d ∧ x.d ≤ 5000
  t : 0 ≤ a.t ∧ a.t ≤ 1000000
theorem Agn.Valid.days {a : Agn} (hv : a.Valid) : a.Days := ⟨by have := hv.w12; omega, fun x hx => by have := (hv.wo x hx).2.2; have := hv.to; omega, by have := hv.to; omega⟩
theorem ref11_Under_ok (a : Agn) (hd : a.Days) (i : Nat) : APure Pg fn_ref11_Under [a.v, .int .i64 i] (.bool (Ag.pr a.w a.t i)) := by
  have hw40 := hd.w
  have hto := hd.t
  refine ref11_Under.pure (by simp) ?_
  simp
  intro s2
  refine PCallK.intro (PInv.func (first := []) (cap := []) (args := [a.v, .int .i64 i]) (ref11_last_ok a hd.w i)) ?_
  have hsp := Ag.lastI_spec a.w i a.w.length (Nat.le_refl _)
  rw [List.take_length] at hsp
  rcases hsp with ⟨h1, h2⟩ | ⟨j, h1, h2, v, h3, h4⟩
  · rw [h1]
    simp
    exact RetV.refl (by simp [Ag.pr, h2])
  · rw [h2]
    have hje : a.w[j] = v := (List.getElem?_eq_some_iff.1 h3).2
    have hvd := hd.d v (List.mem_of_getElem? h3)
    simp [h1, hje, h3]
    (repeat first | refine And.intro (by omega) ?_ | refine And.intro (Fits.of (by omega) (by omega)) ?_)
    exact RetV.refl (by simp [Ag.pr, h4])

theorem ref11_check_ok (a : Agn) (hs : a.Small) (is : Bool) : APure Pg fn_ref11_check [a.v, .bool is] (.int .i64 (a.errO is)) := by
  refine ref11_check.pure (by simp) ?_
  simp
  intro s2
  refine PCallK.intro (PInv.func (first := []) (cap := []) (args := [a.v]) (ref11_Ship_ok a hs)) ?_
  by_cases hv : a.Valid
  · cases is
    · simp [hv]
      exact RetV.refl (by simp [Agn.errO, hv])
    · simp [hv]
      exact RetV.refl (by simp [Agn.errO, hv])
  · simp [hv]
    exact RetV.refl (by simp [Agn.errO, hv])
end Go.Cw
end

/- The reference of chapter 11: promises; what truths tell. -/
section
set_option maxRecDepth 100000
set_option linter.unusedSimpArgs false
namespace Go.Cw
open Go Go.Proofs


noncomputable def Agn.truthsL (a : Agn) (is : Bool) : List (List Int) := if a.errL is = 0 then a.h.truths a.h.every else []
noncomputable def Agn.tellV (a : Agn) (is : Bool) : AVal := .tup [LLv (a.truthsL is), .int .i64 (a.errL is)]
theorem ref11_told_ok (a : Agn) (hs : a.Small) (is : Bool) : APure Pg fn_ref11_told [a.v, .bool is] (a.tellV is) := by
  refine ref11_told.pure (by simp) ?_
  simp
  intro s2
  refine PCallK.intro (PInv.func (first := []) (cap := []) (args := [a.v, .bool is]) (ref11_check_ok a hs is)) ?_
  by_cases he : ¬ a.errO is = 0
  · have h1 := Agn.errL_O he
    simp [he]
    exact RetV.ale (v' := .tup [LLv [], .int .i64 (a.errO is)]) (ALe.tup ⟨ALe.nils_vl, ALe.refl _, trivial⟩) (RetV.refl (by simp [Agn.tellV, Agn.truthsL, h1, he]))
  replace he := Classical.not_not.1 he
  obtain ⟨hv, his⟩ := Agn.errO_zero.1 he
  simp [he]
  refine PCallK.intro (PInv.func (first := []) (cap := []) (args := [a.h.v]) (ref01_Truths_ok a.h hv.h)) ?_
  by_cases ht : a.h.truths a.h.every = []
  · have h10 : a.errL is = 10 := by simp [Agn.errL, hv, his, Agn.S_nil.2 ht]
    rw [ht]
    simp
    exact RetV.ale (v' := .tup [LLv [], .int .i64 10]) (ALe.tup ⟨ALe.nils_vl, ALe.refl _, trivial⟩) (RetV.refl (by simp [Agn.tellV, Agn.truthsL, h10]))
  · have h0 : a.errL is = 0 := Agn.errL_zero.2 ⟨hv, his, mt Agn.S_nil.1 ht⟩
    simp [ht]
    exact RetV.refl (by simp [Agn.tellV, Agn.truthsL, h0])
def Agn.isT (a : Agn) (t : List Int) : Bool := (List.range t.length).any (fun i => decide (0 < ofL t i)) && (List.range t.length).all (fun i => !decide (0 < ofL t i) || Ag.pr a.w a.t i)
theorem ref11_Is_ok (a : Agn) (hd : a.Days) (t : List Int) (ht : t.length ≤ 40) : APure Pg fn_ref11_Is [a.v, L t] (.bool (a.isT t)) := by
  refine ref11_Is.pure (by simp) ?_
  simp
  intro s2
  refine Lp.intro (σ := Nat) (inv := fun k => k ≤ t.length ∧ (List.range k).all (fun i => !decide (0 < ofL t i) || Ag.pr a.w a.t i) = true) (vw := fun k => [(1, L t), (2, .ptr 2 0 (s2+1)), (5, .bool ((List.range k).any fun i => decide (0 < ofL t i))), (6, .int .i64 k)]) (hp := fun _ => [(2, .row a.cells (s2+1))]) (ms := fun k => t.length - k) 0 (by simp) (by simp) (by simp [Agn.cells]) ?_
  rintro k ⟨hk, hall⟩ J hJ
  by_cases hkc : k < t.length
  · obtain ⟨x, hx⟩ : ∃ x, t[k] = x := ⟨_, rfl⟩
    have hg : t[k]? = some x := by rw [List.getElem?_eq_getElem hkc, hx]
    have hof : ofL t k = x := by rw [← ofL_at t hkc]; exact hx
    have hany : ((List.range (k + 1)).any fun i => decide (0 < ofL t i)) = (((List.range k).any fun i => decide (0 < ofL t i)) || decide (0 < x)) := by rw [List.range_succ, List.any_append]; simp [hof]
    have halls : ((List.range (k + 1)).all fun i => !decide (0 < ofL t i) || Ag.pr a.w a.t i) = (((List.range k).all fun i => !decide (0 < ofL t i) || Ag.pr a.w a.t i) && (!decide (0 < x) || Ag.pr a.w a.t k)) := by rw [List.range_succ, List.all_append]; simp [hof]
    rw [hall] at halls
    by_cases h0 : 0 < x
    · simp only [hkc, hx, hg, Agn.cells, h0]
      simp [hkc, hx, hg, Agn.cells, h0]
      refine PCallK.intro (PInv.func (first := []) (cap := []) (args := [a.v, .int .i64 k]) (ref11_Under_ok a hd k)) ?_
      cases hp : Ag.pr a.w a.t k with
      | true =>
        simp
        (repeat first | refine And.intro (by omega) ?_ | refine And.intro (Fits.of (by omega) (by omega)) ?_)
        exact hJ.next (k + 1) ⟨by omega, by rw [halls, hp]; simp⟩ (by omega) (by rw [hany]; simp [h0]) (by simp [Agn.cells])
      | false =>
        have hno : a.isT t = false := by
          unfold Agn.isT
          rw [Bool.and_eq_false_iff]
          right
          rw [List.all_eq_false]
          exact ⟨k, List.mem_range.2 hkc, by simp [hof, h0, hp]⟩
        simp
        refine hJ.ret ?_
        simp
        exact RetV.refl (by simp [hno])
    · simp [hkc, hx, hg, Agn.cells, h0]
      (repeat first | refine And.intro (by omega) ?_ | refine And.intro (Fits.of (by omega) (by omega)) ?_)
      exact hJ.next (k + 1) ⟨by omega, by rw [halls]; simp [h0]⟩ (by omega) (by rw [hany]; simp [h0]) (by simp [Agn.cells])
  obtain rfl : k = t.length := by omega
  simp [Agn.cells]
  refine hJ.exit ?_
  simp
  exact RetV.refl (by unfold Agn.isT; rw [hall]; simp)
def Agn.yardT (a : Agn) (T : List (List Int)) : Int := if T.all a.isT then 2 else if T.any a.isT then 1 else 0
theorem ref11_yard_ok (a : Agn) (hd : a.Days) (T : List (List Int)) (hT : ∀ t ∈ T, t.length ≤ 40) (hl : T.length ≤ 100000) : APure Pg fn_ref11_yard [a.v, LLv T] (.int .i64 (a.yardT T)) := by
  refine ref11_yard.pure (by simp) ?_
  simp
  intro s2
  obtain ⟨c, hc⟩ : ∃ c : Nat → Nat, c = fun k => (T.take k).countP a.isT := ⟨_, rfl⟩
  have hc0 : c 0 = 0 := by rw [hc]; simp
  have hcs : ∀ k (h : k < T.length), c (k + 1) = c k + if a.isT T[k] then 1 else 0 := fun k h => by
    rw [hc]
    simp only
    rw [← List.take_append_getElem h, List.countP_append, List.countP_singleton]
  have hcl : ∀ k, c k ≤ k := fun k => by
    rw [hc]
    exact Nat.le_trans List.countP_le_length (by rw [List.length_take]; omega)
  refine Lp.intro (σ := Nat) (inv := fun k => k ≤ T.length) (vw := fun k => [(1, LLv T), (2, .ptr 2 0 (s2+1)), (5, .int .i64 (c k)), (6, .int .i64 k)]) (hp := fun _ => [(2, .row a.cells (s2+1))]) (ms := fun k => T.length - k) 0 (by simp) (by simp [hc0]) (by simp [Agn.cells]) ?_
  intro k hk J hJ
  by_cases hkc : k < T.length
  · obtain ⟨t, ht⟩ : ∃ t, T[k] = t := ⟨_, rfl⟩
    have hg : T[k]? = some t := by rw [List.getElem?_eq_getElem hkc, ht]
    have cI := ref11_Is_ok a hd t (hT t (by rw [← ht]; exact List.getElem_mem hkc))
    have hst := hcs k hkc
    have hcb := hcl k
    rw [ht] at hst
    simp [hkc, ht, hg, Agn.cells]
    refine PCallK.intro (PInv.func (first := []) (cap := []) (args := [a.v, L t]) cI) ?_
    cases hi : a.isT t with
    | true =>
      rw [hi] at hst
      simp
      (repeat first | refine And.intro (by omega) ?_ | refine And.intro (Fits.of (by omega) (by omega)) ?_)
      exact hJ.next (k + 1) (by omega) (by omega) (by simp [hst]) (by simp [Agn.cells])
    | false =>
      rw [hi] at hst
      simp
      (repeat first | refine And.intro (by omega) ?_ | refine And.intro (Fits.of (by omega) (by omega)) ?_)
      exact hJ.next (k + 1) (by omega) (by omega) (by simp [hst]) (by simp [Agn.cells])
  obtain rfl : k = T.length := by omega
  have hE : c T.length = T.countP a.isT := by rw [hc]; simp only [List.take_length]
  rw [hE]
  simp [Agn.cells]
  refine hJ.exit ?_
  by_cases h1 : T.countP a.isT = T.length
  · have h1' : ((T.countP a.isT : Nat) : Int) = T.length := by omega
    have ha : T.all a.isT = true := by rw [List.all_eq_true]; exact List.countP_eq_length.1 h1
    simp [h1, h1']
    exact RetV.refl (by simp only [Agn.yardT, ha, if_true])
  · have h1' : ¬ ((T.countP a.isT : Nat) : Int) = T.length := by omega
    have ha : ¬ T.all a.isT = true := fun h => h1 (List.countP_eq_length.2 (List.all_eq_true.1 h))
    by_cases h2 : T.countP a.isT = 0
    · have hn : ¬ T.any a.isT = true := fun h => by
        obtain ⟨t, h3, h4⟩ := List.any_eq_true.1 h
        exact List.countP_eq_zero.1 h2 t h3 h4
      have h2' : ¬ T.length = 0 := by omega
      have h3' : ¬ (0 : Int) = T.length := by omega
      rw [h2]
      simp [h2', h3', fun h : T = [] => h2' (by rw [h]; rfl)]
      exact RetV.refl (by simp only [Agn.yardT, if_neg ha, if_neg hn])
    · have h2' : ¬ ((T.countP a.isT : Nat) : Int) = 0 := by omega
      have hn : T.any a.isT = true := by
        rw [List.any_eq_true]
        obtain ⟨t, h3, h4⟩ := List.countP_pos_iff.1 (Nat.pos_of_ne_zero h2)
        exact ⟨t, h3, h4⟩
      simp [h1, h1', h2, h2']
      exact RetV.refl (by simp only [Agn.yardT, if_neg ha, hn, if_true])
theorem Agn.isT_yes {a : Agn} {t : List Int} (h : t.length = a.n) : a.isT t = Ag.yesS a.n (Ag.pr a.w a.t) (leaksT t) := by
  have hin : ∀ i, i < a.n → inS (leaksT t) i = decide (0 < ofL t i) := fun i hi => by
    unfold leaksT
    exact inS_bits _ (by rw [h]; exact hi)
  rw [Bool.eq_iff_iff, Ag.yes_iff]
  unfold Agn.isT
  rw [Bool.and_eq_true, List.any_eq_true, List.all_eq_true, h]
  have hz : leaksT t ≠ 0 ↔ ∃ i ∈ List.range a.n, decide (0 < ofL t i) = true := by
    unfold leaksT
    rw [ne_eq, bits_zero, h]
    constructor
    · intro hn
      refine Classical.byContradiction fun hx => hn fun i hi => ?_
      cases hb : decide (0 < ofL t i)
      · rfl
      · exact absurd ⟨i, List.mem_range.2 hi, hb⟩ hx
    · rintro ⟨i, hi, hb⟩ hn
      rw [hn i (List.mem_range.1 hi)] at hb
      cases hb
  rw [hz]
  refine and_congr_right fun _ => ⟨fun H i hi hs => ?_, fun H i hi => ?_⟩
  · have := H i (List.mem_range.2 hi)
    rw [← hin i hi, hs] at this
    simpa using this
  · have hi' := List.mem_range.1 hi
    rw [← hin i hi']
    cases hs : inS (leaksT t) i
    · rfl
    · simpa using H i hi' hs
theorem Agn.yardT_eq {a : Agn} {h : Hul} (hv : h.Valid) (hn : h.n = a.n) (ht : h.truths h.every ≠ []) : a.yardT (h.truths h.every) = Ag.toldV a.n (Ag.pr a.w a.t) h.setsL := by
  have hm : ∀ s, s ∈ h.setsL ↔ ∃ t ∈ h.truths h.every, leaksT t = s := fun s => Agn.mem_S (a := ⟨h, [], 0, [], 0⟩)
  have hi : ∀ t ∈ h.truths h.every, a.isT t = Ag.yesS a.n (Ag.pr a.w a.t) (leaksT t) := fun t h1 => Agn.isT_yes (by rw [(truths_in hv h1).1]; exact hn)
  have hS : h.setsL ≠ [] := mt Agn.setsL_nil.1 ht
  unfold Agn.yardT
  by_cases h1 : (h.truths h.every).all a.isT = true
  · rw [if_pos h1]
    symm
    rw [Ag.told_two hS]
    intro s hs
    obtain ⟨t, h2, rfl⟩ := (hm s).1 hs
    rw [← hi t h2]
    exact List.all_eq_true.1 h1 t h2
  · rw [if_neg h1]
    by_cases h2 : (h.truths h.every).any a.isT = true
    · rw [if_pos h2]
      symm
      rw [Ag.told_one hS]
      obtain ⟨t, h3, h4⟩ := List.any_eq_true.1 h2
      have h1 : (h.truths h.every).all a.isT = false := by simpa using h1
      obtain ⟨u, h5, h6⟩ := List.all_eq_false.1 h1
      refine ⟨⟨_, (hm _).2 ⟨t, h3, rfl⟩, by rw [← hi t h3]; exact h4⟩, _, (hm _).2 ⟨u, h5, rfl⟩, by rw [← hi u h5]; simpa using h6⟩
    · rw [if_neg h2]
      symm
      rw [Ag.told_zero hS]
      intro s hs
      obtain ⟨t, h3, rfl⟩ := (hm s).1 hs
      rw [← hi t h3]
      cases hb : a.isT t
      · rfl
      · exact absurd (List.any_eq_true.2 ⟨t, h3, hb⟩) h2
theorem Agn.truths_len {h : Hul} (hv : h.Valid) : (h.truths h.every).length ≤ 15625 := by
  have hlen := hv.ext_len h.every []
  rwa [← Hul.truths_ext] at hlen

end Go.Cw
end

/- The reference of chapter 11: fathoms; who pays; whose work leaks. -/
section
set_option maxRecDepth 100000
set_option linter.unusedSimpArgs false
namespace Go.Cw
open Go Go.Proofs

def Agn.cntB (a : Agn) (under : Bool) (g : Int) (i : Nat) : Bool := (Ag.pr a.w a.t i == under) && (decide (g < 0) || decide (Ag.ofW a.w i = g))
def Agn.lenT (a : Agn) (t : List Int) (under : Bool) (g : Int) : Int := Ag.lenB a.F t.length fun i => decide (0 < ofL t i) && a.cntB under g i


noncomputable def Agn.lensP (a : Agn) (under : Bool) (g : Int) (is : Bool) : Int × Int := if a.errL is = 0 then spanOf ((a.h.truths a.h.every).map fun t => a.lenT t under g) else (0, 0)

end Go.Cw
end

/- The reference of chapter 11: Pays, Nothing, Gang, Blame, Until. -/
section
set_option maxRecDepth 100000
set_option linter.unusedSimpArgs false
namespace Go.Cw
open Go Go.Proofs

theorem Agn.lenT_pay {a : Agn} {t : List Int} (h : t.length = a.n) {under : Bool} {g : Int} {u : Nat → Bool} (hu : ∀ i, i < a.n → a.cntB under g i = u i) : a.lenT t under g = Ag.payS a.F a.n u (leaksT t) := by
  unfold Agn.lenT Ag.payS
  rw [h]
  refine Ag.lenB_congr fun i hi => ?_
  rw [hu i hi]
  congr 1
  unfold leaksT
  exact (inS_bits (fun i => decide (0 < ofL t i)) (n := t.length) (by rw [h]; exact hi)).symm
theorem Agn.lensP_eq {a : Agn} {is : Bool} (he : a.errL is = 0) {under : Bool} {g : Int} {u : Nat → Bool} (hu : ∀ i, i < a.n → a.cntB under g i = u i) : a.lensP under g is = a.spanP u := by
  obtain ⟨hv, _, hS⟩ := Agn.errL_zero.1 he
  have ht := mt Agn.S_nil.2 hS
  unfold Agn.lensP
  rw [if_pos he]
  have hmap : ((a.h.truths a.h.every).map fun t => a.lenT t under g) = (a.h.truths a.h.every).map fun t => Ag.payS a.F a.n u (leaksT t) :=
    List.map_congr_left fun t h1 => Agn.lenT_pay (by rw [(truths_in hv.h h1).1]; exact hv.len.symm) hu
  rw [hmap]
  obtain ⟨l, hl⟩ : ∃ l, l = (a.h.truths a.h.every).map fun t => Ag.payS a.F a.n u (leaksT t) := ⟨_, rfl⟩
  have hne : l ≠ [] := by rw [hl]; simpa using ht
  obtain ⟨h1, h2⟩ := Agn.span_in hne
  rw [← hl]
  unfold Agn.spanP
  symm
  have hmem : ∀ y, y ∈ l → ∃ s ∈ a.S, Ag.payS a.F a.n u s = y := fun y hy => by
    rw [hl] at hy
    obtain ⟨t, h3, h4⟩ := List.mem_map.1 hy
    exact ⟨leaksT t, Agn.mem_S.2 ⟨t, h3, rfl⟩, h4⟩
  refine Ag.jn_eq hS (fun s hs => ?_) (hmem _ h1) (hmem _ h2)
  obtain ⟨t, h3, rfl⟩ := Agn.mem_S.1 hs
  exact Agn.span_mem (by rw [hl]; exact List.mem_map.2 ⟨t, h3, rfl⟩)
theorem Agn.cnt_any (a : Agn) (under : Bool) (i : Nat) : a.cntB under (-1) i = (Ag.pr a.w a.t i == under) := by simp [Agn.cntB]




end Go.Cw
end

/- The reference of chapter 11: Until. -/
section
set_option maxRecDepth 100000
set_option linter.unusedSimpArgs false
namespace Go.Cw
open Go Go.Proofs

theorem Agn.mem_days {a : Agn} {d : Int} : d ∈ a.daysL ↔ ∃ i, i < a.n ∧ (∃ s ∈ a.S, inS s i = true) ∧ ∃ w, Ag.lastW a.w i = some w ∧ w.d = d := by
  unfold Agn.daysL
  rw [List.mem_filterMap]
  constructor
  · rintro ⟨i, hi, h⟩
    split at h
    · rename_i hs
      obtain ⟨s, h1, h2⟩ := List.any_eq_true.1 hs
      cases hw : Ag.lastW a.w i with
      | none => rw [hw] at h; simp at h
      | some w =>
        rw [hw] at h
        exact ⟨i, List.mem_range.1 hi, ⟨s, h1, h2⟩, w, hw, by simpa using h⟩
    · cases h
  · rintro ⟨i, hi, ⟨s, h1, h2⟩, w, hw, rfl⟩
    refine ⟨i, List.mem_range.2 hi, ?_⟩
    rw [if_pos (List.any_eq_true.2 ⟨s, h1, h2⟩), hw]
    rfl
theorem Agn.first_is {a : Agn} (hv : a.Valid) (hS : a.S ≠ []) (hy : a.yardN = 2) : Ag.IsFirst a.n a.w a.S a.firstD := by
  have hdn : ∀ d ∈ a.daysL, 0 ≤ d := fun d hd => by
    obtain ⟨i, _, _, w, hw, rfl⟩ := Agn.mem_days.1 hd
    exact (Agn.work_rng hv hw).2.2.2.1
  obtain ⟨s, h1, i, h2, h3, w, h4⟩ := Ag.first_ex hS (Agn.S_in hv) hy
  have hm := Agn.mem_days.2 ⟨i, h2, ⟨s, h1, h3⟩, w, h4, rfl⟩
  rcases Ag.least_spec hdn with ⟨e, _⟩ | ⟨h5, h6⟩
  · rw [e] at hm; cases hm
  · obtain ⟨j, h7, ⟨t, h8, h9⟩, v, h10, h11⟩ := Agn.mem_days.1 h5
    exact ⟨⟨t, h8, j, h7, h9, v, h10, h11⟩, fun s hs i hi hsi w hw => h6 _ (Agn.mem_days.2 ⟨i, hi, ⟨s, hs, hsi⟩, w, hw, rfl⟩)⟩

end Go.Cw
end

/- The laws of chapter 11: the document's ship; what it fixes. -/
section
set_option maxRecDepth 100000
set_option linter.unusedSimpArgs false
namespace Go.Cw
open Go Go.Proofs

def asm (t : Int) : Agn := ⟨⟨[⟨2, 0, 3⟩, ⟨5, -1, 2⟩, ⟨5, 1, 4⟩], [⟨3, 0, 1, 2⟩, ⟨6, 0, 4, 4⟩]⟩, [4, 3, 5], 10, [⟨0, 100, 0⟩, ⟨1, 90, 1⟩, ⟨2, 10, 0⟩], t⟩
theorem asm_small (t : Int) : (asm t).Small := ⟨⟨by simp [asm], by simp [asm]⟩, by simp [asm], by simp [asm]⟩
def asmT : List (List Int) := [[1, 0, 3], [1, 1, 2], [1, 2, 1], [2, 0, 2], [2, 1, 1], [2, 2, 0]]
theorem asm_truths (t : Int) : (asm t).h.truths (asm t).h.every = asmT := by
  have : (asm 300).h.truths (asm 300).h.every = asmT := by decide +kernel
  exact this
theorem asm_S (t : Int) : (asm t).S = [3, 5, 7] := by
  unfold Agn.S Hul.setsL
  rw [asm_truths]
  exact sortI_eq (by decide +kernel) (by unfold SortedI; decide +kernel)
theorem asm_valid {t : Int} (h : t = 300 ∨ t = 400) : (asm t).Valid := by
  have hh : ∀ t, (asm t).h.Valid := fun t => by
    have : (asm 300).h.Valid := ⟨by simp [asm, Hul.n], by simp [asm, Hul.n], by simp [asm, Hul.k], by decide, by decide⟩
    exact this
  rcases h with rfl | rfl
  · exact ⟨hh _, by simp [asm, Hul.k], by simp [asm, Hul.n], by decide, by simp [asm], by simp [asm], by simp [asm], by decide⟩
  · exact ⟨hh _, by simp [asm, Hul.k], by simp [asm, Hul.n], by decide, by simp [asm], by simp [asm], by simp [asm], by decide⟩
theorem asm_errO {t : Int} (h : t = 300 ∨ t = 400) : (asm t).errO true = 0 := Agn.errO_zero.2 ⟨asm_valid h, rfl⟩
theorem asm_errL {t : Int} (h : t = 300 ∨ t = 400) : (asm t).errL true = 0 := Agn.errL_zero.2 ⟨asm_valid h, rfl, by rw [asm_S]; simp⟩
theorem asm_prom {t x : Int} (h : t = 300 ∨ t = 400) (hx : bits (Ag.pr (asm t).w t) 3 = x) : (asm t).promV = .tup [.int .i64 x, .int .i64 0] := by
  have e : (asm t).under (asm t).t = x := hx
  unfold Agn.promV
  rw [asm_errO h, e]
  simp
theorem asm_yardN {t x : Int} (hx : Ag.toldV 3 (Ag.pr (asm t).w t) [3, 5, 7] = x) : (asm t).yardN = x := by
  unfold Agn.yardN
  rw [asm_S]
  exact hx
theorem asm_yard {t x : Int} (h : t = 300 ∨ t = 400) (hx : Ag.toldV 3 (Ag.pr (asm t).w t) [3, 5, 7] = x) : (asm t).yardV = .tup [.int .i64 x, .int .i64 0] := by
  unfold Agn.yardV
  rw [asm_errL h, asm_yardN hx]
  simp
theorem asm_span {t : Int} {u : Nat → Bool} {x : Int × Int} (hx : Ag.jn (Ag.payS (ofL [4, 3, 5]) 3 u) [3, 5, 7] = x) : (asm t).spanP u = x := by
  unfold Agn.spanP
  rw [asm_S]
  exact hx
theorem asm_pays {t : Int} (h : t = 300 ∨ t = 400) {x : Int × Int} (hx : Ag.jn (Ag.payS (ofL [4, 3, 5]) 3 fun i => !Ag.pr (asm t).w t i) [3, 5, 7] = x) : (asm t).paysV = .tup [SP2 (x.1 * 10, x.2 * 10), .int .i64 0] := by
  have e : (asm t).spanP (fun i => !Ag.pr (asm t).w (asm t).t i) = x := asm_span hx
  unfold Agn.paysV Agn.paysP
  rw [asm_errL h, e]
  rfl
theorem asm_noth {t : Int} (h : t = 300 ∨ t = 400) {x : Int × Int} (hx : Ag.jn (Ag.payS (ofL [4, 3, 5]) 3 (Ag.pr (asm t).w t)) [3, 5, 7] = x) : (asm t).nothV = .tup [SP2 x, .int .i64 0] := by
  have e : (asm t).spanP (Ag.pr (asm t).w (asm t).t) = x := asm_span hx
  unfold Agn.nothV Agn.nothP
  rw [asm_errL h, e]
  rfl
theorem asm_own {t : Int} (g : Int) : (asm t).ownB g = fun i => Ag.pr (asm t).w t i && decide (Ag.ofW (asm t).w i = g) := rfl
theorem asm_gang {t : Int} (h : t = 300 ∨ t = 400) (g : Int) (hg : Agn.GangOk g) {x : Int × Int} (hx : Ag.jn (Ag.payS (ofL [4, 3, 5]) 3 fun i => Ag.pr (asm t).w t i && decide (Ag.ofW (asm t).w i = g)) [3, 5, 7] = x) : (asm t).gangV g = .tup [SP2 x, .int .i64 0] := by
  have e : (asm t).spanP ((asm t).ownB g) = x := asm_span hx
  unfold Agn.gangV Agn.gangP
  rw [decide_eq_true hg, asm_errL h, e]
  rfl
theorem asm_blame : (asm 400).blameV = .tup [.int .i64 1, .int .i64 3, .int .i64 0] := by
  have hs : ∀ i : Nat, (asm 400).spanP ((asm 400).ownB i) = Ag.jn (Ag.payS (ofL [4, 3, 5]) 3 fun j => Ag.pr (asm 400).w 400 j && decide (Ag.ofW (asm 400).w j = i)) [3, 5, 7] := fun i => asm_span rfl
  have e1 : bits (asm 400).surelyB 4 = 1 := by
    have : (asm 400).surelyB = fun i : Nat => decide (0 < (Ag.jn (Ag.payS (ofL [4, 3, 5]) 3 fun j => Ag.pr (asm 400).w 400 j && decide (Ag.ofW (asm 400).w j = i)) [3, 5, 7]).1) := funext fun i => by unfold Agn.surelyB; rw [hs]
    rw [this]
    decide +kernel
  have e2 : bits (asm 400).perhapsB 4 = 3 := by
    have : (asm 400).perhapsB = fun i : Nat => decide (0 < (Ag.jn (Ag.payS (ofL [4, 3, 5]) 3 fun j => Ag.pr (asm 400).w 400 j && decide (Ag.ofW (asm 400).w j = i)) [3, 5, 7]).2) := funext fun i => by unfold Agn.perhapsB; rw [hs]
    rw [this]
    decide +kernel
  unfold Agn.blameV
  rw [asm_errL (.inr rfl), e1, e2]
  simp
theorem asm_until : (asm 300).untilV = .tup [.int .i64 375, .int .i64 0] := by
  have e1 : (asm 300).yardN = 2 := asm_yardN (by decide +kernel)
  have e2 : (asm 300).firstD = 10 := by
    unfold Agn.firstD Agn.daysL
    rw [asm_S]
    decide +kernel
  have e3 : (asm 300).errU = 0 := by unfold Agn.errU; rw [asm_errL (.inl rfl), e1]; simp
  unfold Agn.untilV
  rw [e3, e2]
  simp
def asmC (w : Int) : Bool := (List.range 25).all fun (n : Nat) =>
  !(decide (seenK (asmT.filter fun t => decide ((n : Int) ≤ Hul.sumT t w ∧ Hul.sumT t w ≤ n)) ≠ []) && decide (Ag.toldV 3 (Ag.pr (asm 400).w 400) (seenK (asmT.filter fun t => decide ((n : Int) ≤ Hul.sumT t w ∧ Hul.sumT t w ≤ n))) = 1))
theorem asm_ask : (asm 400).askV = .tup [.int .i64 2, .int .i64 (-3), .int .i64 0] := by
  have hset : ∀ d l, (asm 400).setB d l = asmC ((asm 400).h.wet d l) := fun d l => by
    unfold Agn.setB asmC
    refine congrArg (List.all (List.range 25)) (funext fun n => ?_)
    unfold Agn.perB
    rw [Agn.soundS_eq, asm_truths]
    have h1 : ∀ X : List Int, decide (sortI X ≠ []) = decide (X ≠ []) := fun X => by
      refine decide_eq_decide.2 (not_congr ?_)
      constructor
      · intro h
        have := (sortI_perm X).length_eq
        rw [h] at this
        exact List.eq_nil_of_length_eq_zero this.symm
      · rintro rfl
        have := (sortI_perm []).length_eq
        exact List.eq_nil_of_length_eq_zero this
    have h2 : ∀ X : List Int, Ag.toldV (asm 400).n (Ag.pr (asm 400).w (asm 400).t) (sortI X) = Ag.toldV 3 (Ag.pr (asm 400).w 400) X := fun X => Ag.told_same fun s => (sortI_perm X).mem_iff
    rw [h1, h2]
  have e1 : (asm 400).askP = some (2, -3) := by
    unfold Agn.askP
    simp only [hset]
    decide +kernel
  have e2 : (asm 400).errA = 0 := by
    unfold Agn.errA
    rw [asm_errL (.inr rfl), asm_yardN (x := 1) (by decide +kernel), e1]
    simp
  unfold Agn.askV
  rw [e2, e1]
  simp
theorem law11_span_ok (a b : Int) : APure Pg fn_law11_span [.int .i64 a, .int .i64 b] (SP2 (a, b)) := by
  refine law11_span.pure (by simp) ?_
  simp
  intro s
  exact RetV.refl (by simp [SP2])
theorem law11_work_ok (a b c : Int) : APure Pg fn_law11_work [.int .i64 a, .int .i64 b, .int .i64 c] (.agg [.int .i64 a, .int .i64 b, .int .i64 c]) := by
  refine law11_work.pure (by simp) ?_
  simp
  intro s
  exact RetV.refl (by simp)
theorem law11_sample_ok (t : Int) : APure Pg fn_law11_sample [.int .i64 t] (asm t).v := by
  refine law11_sample.pure (by simp) ?_
  simp
  intro s1 s2
  refine PCallK.intro (PInv.func (law11_span_ok _ _)) ?_
  simp [SP2]
  refine PCallK.intro (PInv.func (law11_span_ok _ _)) ?_
  simp [SP2]
  intro s3 s4
  refine PCallK.intro (PInv.func (law11_work_ok _ _ _)) ?_
  simp
  refine PCallK.intro (PInv.func (law11_work_ok _ _ _)) ?_
  simp
  refine PCallK.intro (PInv.func (law11_work_ok _ _ _)) ?_
  simp
  intro s5
  refine RetV.frz 6 rfl (RetV.frz 11 rfl (RetV.frz 13 rfl (RetV.frz 17 rfl (RetV.refl ?_))))
  simp [asm, LS, LD, sms, sds, fl, Sm.c, Sd.c, L, ints, LW, wks, wkC]
theorem law11_alive_ok : APure Pg fn_law11_alive [] (.bool true) := by
  have w0 := fun t => PInv.func (first := []) (cap := []) (args := [.int .i64 t]) (law11_sample_ok t)
  have c1 := again_Promised_ok (asm 400) (asm_small _)
  rw [asm_prom (.inr rfl) (x := 3) (by decide +kernel)] at c1
  have c2 := again_Yard_ok (asm 300) (asm_small _)
  rw [asm_yard (.inl rfl) (x := 2) (by decide +kernel)] at c2
  have c3 := again_Pays_ok (asm 400) (asm_small _)
  rw [asm_pays (.inr rfl) (x := (0, 5)) (by decide +kernel)] at c3
  have c4 := again_Nothing_ok (asm 300) (asm_small _)
  rw [asm_noth (.inl rfl) (x := (7, 12)) (by decide +kernel)] at c4
  have c5 := again_Gang_ok (asm 400) (asm_small _) 1
  rw [asm_gang (.inr rfl) 1 (by decide) (x := (0, 3)) (by decide +kernel)] at c5
  have c6 := again_Blame_ok (asm 400) (asm_small _)
  rw [asm_blame] at c6
  have c7 := again_Until_ok (asm 300) (asm_small _)
  rw [asm_until] at c7
  have c8 := again_Ask_ok (asm 400) (asm_small _)
  rw [asm_ask] at c8
  refine law11_alive.pure (by simp) ?_
  simp only [Agn.v_agg] at c1 c2 c3 c4 c5 c6 c7 c8
  simp
  refine PCallK.intro (w0 400) ?_
  simp
  refine PCallK.intro (PInv.func c1) ?_
  simp
  refine PCallK.intro (w0 300) ?_
  simp
  refine PCallK.intro (PInv.func c2) ?_
  simp
  refine PCallK.intro (w0 400) ?_
  simp
  refine PCallK.intro (PInv.func c3) ?_
  simp [SP2]
  intro s5
  refine PCallK.intro (w0 300) ?_
  simp
  refine PCallK.intro (PInv.func c4) ?_
  simp [SP2]
  intro s7
  refine PCallK.intro (w0 400) ?_
  simp
  refine PCallK.intro (PInv.func c5) ?_
  simp [SP2]
  intro s9
  refine PCallK.intro (w0 400) ?_
  simp
  refine PCallK.intro (PInv.func c6) ?_
  simp
  refine PCallK.intro (w0 300) ?_
  simp
  refine PCallK.intro (PInv.func c7) ?_
  simp
  refine PCallK.intro (w0 400) ?_
  simp
  refine PCallK.intro (PInv.func c8) ?_
  simp
  refine PCallK.intro (PInv.func (law11_span_ok _ _)) ?_
  simp [SP2]
  refine PCallK.intro (PInv.func (law11_span_ok _ _)) ?_
  simp [SP2]
  refine PCallK.intro (PInv.func (law11_span_ok _ _)) ?_
  simp [SP2]
  exact RetV.refl rfl
def Agn.longB (a : Agn) : Bool := decide ((40 : Int) < max (a.h.seams.length : Int) (max (a.h.snds.length : Int) (max (a.f.length : Int) (a.w.length : Int))))
theorem Agn.long_small {a : Agn} (h : a.longB = false) : a.Small := by
  unfold Agn.longB at h
  have h := of_decide_eq_false h
  exact ⟨⟨by omega, by omega⟩, by omega, by omega⟩
theorem law11_long_ok (a : Agn) : APure Pg fn_law11_long [a.v] (.bool a.longB) := by
  refine law11_long.pure (by simp) ?_
  simp
  intro s1
  exact RetV.refl (by simp [Agn.longB])
def Agn.ways (a : Agn) (k : Nat) : Int := (a.h.seams.take k).foldl (fun n s => n * (s.m + 1)) 1
theorem Agn.ways_step {a : Agn} {k : Nat} (h : k < a.h.seams.length) : a.ways (k + 1) = a.ways k * ((a.h.seams[k]).m + 1) := by
  unfold Agn.ways
  rw [← List.take_append_getElem h, List.foldl_append]
  rfl
theorem Agn.ways_rng {a : Agn} (hv : a.h.Valid) : ∀ k, k ≤ a.h.seams.length → 1 ≤ a.ways k ∧ a.ways k ≤ 5 ^ k
  | 0, _ => by simp [Agn.ways]
  | k + 1, hk => by
    have hkc : k < a.h.seams.length := by omega
    obtain ⟨h1, h2⟩ := Agn.ways_rng hv k (by omega)
    rw [Agn.ways_step hkc]
    have h3 := (hv.sm a.h.seams[k] (List.getElem_mem hkc)).2.2
    obtain ⟨m, hm⟩ : ∃ m, m = (a.h.seams[k]).m + 1 := ⟨_, rfl⟩
    rw [← hm]
    have hm1 : 1 ≤ m ∧ m ≤ 5 := by omega
    refine ⟨?_, ?_⟩
    · have := Int.mul_le_mul h1 hm1.1 (by omega) (by omega)
      omega
    · have := Int.mul_le_mul h2 hm1.2 (by omega) (by omega)
      rw [Int.pow_succ]
      exact this
noncomputable def Agn.heavyB (a : Agn) (w : Int) : Bool := if a.longB then true else if a.Valid then decide (w < a.ways a.h.seams.length) else false
theorem Agn.heavy_small {a : Agn} {w : Int} (h : a.heavyB w = false) : a.Small := by
  unfold Agn.heavyB at h
  cases hl : a.longB
  · exact Agn.long_small hl
  · rw [hl] at h; simp at h
theorem law11_heavy_ok (a : Agn) (w : Int) : APure Pg fn_law11_heavy [a.v, .int .i64 w] (.bool (a.heavyB w)) := by
  have cL := PInv.func (first := []) (cap := []) (args := [a.v]) (law11_long_ok a)
  refine law11_heavy.pure (by simp) ?_
  simp
  intro s2
  refine PCallK.intro cL ?_
  cases hl : a.longB with
  | true =>
    rw [hl] at cL
    simp
    refine PCallK.intro cL ?_
    simp
    exact RetV.refl (by simp [Agn.heavyB, hl])
  | false =>
    rw [hl] at cL
    have hs := Agn.long_small hl
    simp
    refine PCallK.intro (PInv.func (first := []) (cap := []) (args := [a.v]) (ref11_Ship_ok a hs)) ?_
    by_cases hv : ¬ a.Valid
    · simp [hv]
      refine PCallK.intro cL ?_
      simp
      exact RetV.refl (by simp [Agn.heavyB, hl, hv])
    replace hv := Classical.not_not.1 hv
    have hn6 : a.h.seams.length ≤ 6 := hv.h.n6
    simp [hv]
    refine Lp.intro (σ := Nat) (inv := fun k => k ≤ a.h.seams.length) (vw := fun k => [(1, .int .i64 w), (5, .int .i64 (a.ways k)), (19, LS a.h.seams), (20, .int .i64 a.h.seams.length), (21, .int .i64 k)]) (hp := fun _ => []) (ms := fun k => a.h.seams.length - k) 0 (by simp) (by simp [Agn.ways]) (by simp) ?_
    intro k hk J hJ
    by_cases hkc : k < a.h.seams.length
    · obtain ⟨x, hx⟩ : ∃ x, a.h.seams[k] = x := ⟨_, rfl⟩
      have hg : a.h.seams[k]? = some x := by rw [List.getElem?_eq_getElem hkc, hx]
      have hst := Agn.ways_step hkc
      rw [hx] at hst
      have hxm := (hv.h.sm x (by rw [← hx]; exact List.getElem_mem hkc)).2.2
      obtain ⟨r1, r2⟩ := Agn.ways_rng hv.h (k + 1) (by omega)
      have h5 : (5 : Int) ^ (k + 1) ≤ 15625 := by
        have : (5 : Nat) ^ (k + 1) ≤ 5 ^ 6 := Nat.pow_le_pow_right (by omega) (by omega)
        have e : (5 : Nat) ^ 6 = 15625 := by decide
        rw [e] at this
        exact_mod_cast this
      rw [hst] at r1 r2
      simp [hkc, hx, hg]
      refine ⟨by omega, fun s7 => ⟨Fits.of (by omega) (by omega), Fits.of (by omega) (by omega), ?_⟩⟩
      (repeat first | refine And.intro (by omega) ?_ | refine And.intro (Fits.of (by omega) (by omega)) ?_)
      exact hJ.next (k + 1) (by omega) (by omega) (by simp [hst]) (by simp)
    obtain rfl : k = a.h.seams.length := by omega
    simp
    refine hJ.exit ?_
    simp
    exact RetV.refl (by simp [Agn.heavyB, hl, hv])
end Go.Cw
end

/- The laws of chapter 11: what is told is what the document tells. -/
section
set_option maxRecDepth 100000
set_option linter.unusedSimpArgs false
namespace Go.Cw
open Go Go.Proofs


end Go.Cw
end

/- How a ship that came back is read as an argument. -/
section
set_option maxRecDepth 100000
namespace Go.Cw
open Go Go.Proofs

theorem All2.five' {V W X Y Z : List AVal → Prop} {l : List (List AVal)} (h : All2 [V, W, X, Y, Z] l) : ∃ a b c d e, l = [a, b, c, d, e] ∧ V a ∧ W b ∧ X c ∧ Y d ∧ Z e := by
  match l, h with
  | [a, b, c, d, e], h => exact ⟨a, b, c, d, e, rfl, h.1, h.2.1, h.2.2.1, h.2.2.2.1, h.2.2.2.2.1⟩
section
variable {w : World} {μ : Mu}

theorem opens_int : Opens Pg w μ 3 fun av => ∃ n, (Lit.int .i64 n).wf = true ∧ av = [.int .i64 n] := Opens.int Tryz.underlying3 (by kernel_rfl)
theorem opens_bool : Opens Pg w μ 4 fun av => ∃ b, av = [.bool b] := Opens.bool Tryz.underlying4 (by kernel_rfl)
theorem opens_ints : Opens Pg w μ 26 fun av => ∃ l : List Int, av = [L l] := Opens.ints Tryz.underlying26 (by kernel_rfl) Tryz.underlying3 (by kernel_rfl)
theorem opens_span : Opens Pg w μ 36 fun av => ∃ p : Int × Int, av = [.int .i64 p.1, .int .i64 p.2] := by
  refine (Opens.struct (Vs := [_, _]) Tryz.underlying36 (by kernel_rfl) ⟨rfl, opens_int, by kernel_rfl, opens_int, trivial⟩).mono ?_
  rintro av ⟨ass, h, rfl⟩
  obtain ⟨a, b, rfl, ⟨n, _, rfl⟩, ⟨m, _, rfl⟩⟩ := h.two
  exact ⟨(n, m), rfl⟩
theorem opens_seam : Opens Pg w μ 67 fun av => ∃ a : Sm, av = a.c := by
  refine (Opens.struct (Vs := [_, _, _]) Tryz.underlying67 (by kernel_rfl) ⟨rfl, opens_int, by kernel_rfl, opens_int, by kernel_rfl, opens_int, trivial⟩).mono ?_
  rintro av ⟨ass, h, rfl⟩
  obtain ⟨a, b, c, rfl, ⟨n, _, rfl⟩, ⟨m, _, rfl⟩, ⟨k, _, rfl⟩⟩ := h.three
  exact ⟨⟨n, m, k⟩, rfl⟩
theorem opens_sounding : Opens Pg w μ 57 fun av => ∃ a : Sd, av = a.c := by
  refine (Opens.struct (Vs := [_, _, _]) Tryz.underlying57 (by kernel_rfl) ⟨rfl, opens_int, by kernel_rfl, opens_int, by kernel_rfl, opens_span, trivial⟩).mono ?_
  rintro av ⟨ass, h, rfl⟩
  obtain ⟨a, b, c, rfl, ⟨n, _, rfl⟩, ⟨m, _, rfl⟩, ⟨p, rfl⟩⟩ := h.three
  exact ⟨⟨n, m, p.1, p.2⟩, rfl⟩
theorem c67 : 0 < Pg.cellsOf 67 := by rw [show Pg.cellsOf 67 = 3 by kernel_rfl]; omega
theorem c57 : 0 < Pg.cellsOf 57 := by rw [show Pg.cellsOf 57 = 4 by kernel_rfl]; omega
theorem opens_hull : Opens Pg w μ 25 fun av => ∃ h : Hul, av = h.cells := by
  refine (Opens.struct (Vs := [_, _]) Tryz.underlying25 (by kernel_rfl) ⟨rfl, Opens.fl Tryz.underlying22 (by kernel_rfl) c67 opens_seam, by kernel_rfl, Opens.fl Tryz.underlying23 (by kernel_rfl) c57 opens_sounding, trivial⟩).mono ?_
  rintro av ⟨ass, h, rfl⟩
  obtain ⟨a, b, rfl, ⟨n, rfl⟩, ⟨m, rfl⟩⟩ := h.two
  exact ⟨⟨n, m⟩, rfl⟩
theorem opens_work : Opens Pg w μ 62 fun av => ∃ a : Wrk, av = wkC a := by
  refine (Opens.struct (Vs := [_, _, _]) Tryz.underlying62 (by kernel_rfl) ⟨rfl, opens_int, by kernel_rfl, opens_int, by kernel_rfl, opens_int, trivial⟩).mono ?_
  rintro av ⟨ass, h, rfl⟩
  obtain ⟨a, b, c, rfl, ⟨n, _, rfl⟩, ⟨m, _, rfl⟩, ⟨k, _, rfl⟩⟩ := h.three
  exact ⟨⟨n, m, k⟩, rfl⟩
theorem c62 : 0 < Pg.cellsOf 62 := by rw [show Pg.cellsOf 62 = 3 by kernel_rfl]; omega
theorem opens_again : Opens Pg w μ 29 fun av => ∃ a : Agn, av = a.cells := by
  refine (Opens.struct (Vs := [_, _, _, _, _]) Tryz.underlying29 (by kernel_rfl) ⟨rfl, opens_hull, by kernel_rfl, opens_ints, by kernel_rfl, opens_int, by kernel_rfl, Opens.fl Tryz.underlying27 (by kernel_rfl) c62 opens_work, by kernel_rfl, opens_int, trivial⟩).mono ?_
  rintro av ⟨ass, h, rfl⟩
  obtain ⟨a, b, c, d, e, rfl, ⟨n, rfl⟩, ⟨m, rfl⟩, ⟨k, _, rfl⟩, ⟨o, rfl⟩, ⟨q, _, rfl⟩⟩ := h.five'
  exact ⟨⟨n, m, k, o, q⟩, rfl⟩
theorem opens_u8 : Opens Pg w μ 5 fun av => ∃ n : Int, (0 ≤ n ∧ n ≤ 255) ∧ av = [.int .u8 n] :=
  (Opens.int Tryz.underlying5 (by kernel_rfl)).mono fun av ⟨n, h1, h2⟩ => ⟨n, bounds_u8 h1, h2⟩
end

theorem kids : Kids Pg (· < Pg.types.size) := kids_rows (by kernel_rfl) (by kernel_rfl)
theorem slices_full : ∀ t e, t < Pg.types.size → Pg.underlying t = some (.slice e) → 0 < Pg.cellsOf e := slices_full_of Pg (by kernel_rfl)
theorem ownKnobNone : ownKnob Pg.godebug = none := by kernel_rfl

end Go.Cw
end

/- The reference of chapter 11: which sounding settles; the law AgainAsks. -/
section
set_option maxRecDepth 100000
set_option linter.unusedSimpArgs false
namespace Go.Cw
open Go Go.Proofs

theorem ref11_settles_ok (a : Agn) (hv : a.Valid) (d l : Int) (hp : Hul.At d l) : APure Pg fn_ref11_settles [a.v, .int .i64 d, .int .i64 l] (.bool (a.setB d l)) := by
  have hn6 := hv.n6
  have hk7 := hv.k7
  have hkl : a.h.snds.length < 8 := hk7
  refine ref11_settles.pure (by simp) ?_
  simp
  intro s3
  refine Lp.intro (σ := Nat) (inv := fun k => k ≤ 25 ∧ ∀ m : Nat, m < k → a.perB d l m = false) (vw := fun k => [(1, .int .i64 d), (2, .int .i64 l), (3, .ptr 3 0 (s3+1)), (7, .int .i64 k)]) (hp := fun _ => [(3, .row a.cells (s3+1))]) (ms := fun k => 25 - k) 0 (by simp) (by simp) (by simp [Agn.cells]) ?_
  rintro k ⟨hk1, hk2⟩ J hJ
  by_cases hkc : k < 25
  · have hkc' : (k : Int) ≤ 24 := by omega
    have hvm : (a.h.more ⟨d, l, k, k⟩).Valid := hv.h.more hk7 ⟨hp, by simp, Int.le_refl _, hkc'⟩
    have cT := ref01_Truths_ok _ hvm
    have hmc : (a.h.more ⟨d, l, k, k⟩).v = .agg [LS a.h.seams, LD (a.h.snds ++ [⟨d, l, k, k⟩])] := rfl
    rw [hmc] at cT
    obtain ⟨T, hT⟩ : ∃ T, T = (a.h.more ⟨d, l, k, k⟩).truths (a.h.more ⟨d, l, k, k⟩).every := ⟨_, rfl⟩
    have hTl : T.length ≤ 15625 := by rw [hT]; exact Agn.truths_len hvm
    have hTt : ∀ t ∈ T, t.length ≤ 40 := fun t ht => by
      rw [hT] at ht
      have := (truths_in hvm ht).1
      have := hvm.n6
      omega
    have hye : T ≠ [] → a.yardT T = Ag.toldV a.n (Ag.pr a.w a.t) (a.soundS d l k) := fun hne => by
      rw [hT]
      exact Agn.yardT_eq hvm hv.len.symm (by rw [← hT]; exact hne)
    have hnil : a.soundS d l k = [] ↔ T = [] := by rw [hT]; exact Agn.setsL_nil
    rw [← hT] at cT
    have hnx : a.perB d l k = false → ∀ m : Nat, m < k + 1 → a.perB d l m = false := fun h m hm => by
      by_cases e : m = k
      · rw [e]; exact h
      · exact hk2 m (by omega)
    simp [hkc, hkc', Agn.cells]
    intro s8 s16 s20
    refine xAp_cp (by simp) (by simp) (by omega) ?_
    simp
    intro s27 s28
    refine xApN_cp (n := a.h.snds.length) (cs := sds a.h.snds) (by simp) (by simp) (by simp) (by omega) (by omega) ?_
    rw [show sds a.h.snds ++ [AVal.int .i64 d, .int .i64 l, .int .i64 k, .int .i64 k] = sds (a.h.snds ++ [⟨d, l, k, k⟩]) by simp [sds, fl, Sd.c]]
    simp
    refine FCall.frz1 28 rfl (v := LLv T) ?_ (by simp) ?_
    · have := PInv.func (first := []) (cap := []) (args := [.agg [LS a.h.seams, LD (a.h.snds ++ [⟨d, l, k, k⟩])]]) cT
      simpa [LD] using this
    by_cases hne : T = []
    · have hper : a.perB d l k = false := by unfold Agn.perB; simp [hnil.2 hne]
      rw [hne]
      simp
      (repeat first | refine And.intro (by omega) ?_ | refine And.intro (Fits.of (by omega) (by omega)) ?_)
      exact hJ.next (k + 1) ⟨by omega, hnx hper⟩ (by omega) (by simp) (by simp [Agn.cells])
    · have hper : a.perB d l k = decide (a.yardT T = 1) := by unfold Agn.perB; rw [hye hne]; simp [mt hnil.1 hne]
      have hlp : 0 < T.length := List.length_pos_iff.2 hne
      have cY := PInv.func (first := []) (cap := []) (args := [a.v, LLv T]) (ref11_yard_ok a hv.days T hTt (by omega))
      simp [hlp, hne]
      refine PCallK.intro cY ?_
      by_cases h1 : a.yardT T = 1
      · have hno : a.setB d l = false := by
          unfold Agn.setB
          rw [List.all_eq_false]
          exact ⟨k, List.mem_range.2 hkc, by rw [hper]; simp [h1]⟩
        simp [h1]
        refine hJ.ret ?_
        simp
        exact RetV.refl (by rw [hno])
      · rw [decide_eq_false h1] at hper
        simp [h1]
        (repeat first | refine And.intro (by omega) ?_ | refine And.intro (Fits.of (by omega) (by omega)) ?_)
        exact hJ.next (k + 1) ⟨by omega, hnx hper⟩ (by omega) (by simp) (by simp [Agn.cells])
  obtain rfl : k = 25 := by omega
  have hall : a.setB d l = true := by
    unfold Agn.setB
    rw [List.all_eq_true]
    intro m hm
    rw [hk2 m (List.mem_range.1 hm)]
    rfl
  simp
  refine hJ.exit ?_
  simp
  exact RetV.refl (by rw [hall])
theorem ref11_Ask_ok (a : Agn) (hs : a.Small) : APure Pg fn_ref11_Ask [a.v] a.askV := by
  refine ref11_Ask.pure (by simp) ?_
  simp
  intro s1
  refine PCallK.intro (PInv.func (first := []) (cap := []) (args := [a.v, .bool true]) (ref11_told_ok a hs true)) ?_
  by_cases he : ¬ a.errL true = 0
  · simp [Agn.tellV, he]
    exact RetV.refl (by simp [Agn.askV, Agn.errA, he])
  replace he := Classical.not_not.1 he
  obtain ⟨hv, _, hS⟩ := Agn.errL_zero.1 he
  have ht := mt Agn.S_nil.2 hS
  have hT : a.truthsL true = a.h.truths a.h.every := by simp [Agn.truthsL, he]
  have hlen := Agn.truths_len hv.h
  have hn6 := hv.h.n6
  have hye := Agn.yardT_eq (a := a) hv.h hv.len.symm ht
  have hyn : Ag.toldV a.n (Ag.pr a.w a.t) a.h.setsL = a.yardN := rfl
  rw [hyn] at hye
  have hTl : ∀ t ∈ a.h.truths a.h.every, t.length ≤ 40 := fun t h => by have := (truths_in hv.h h).1; omega
  simp [Agn.tellV, he, hT]
  have cY := ref11_yard_ok a hv.days _ hTl (by omega)
  rw [hye] at cY
  refine PCallK.intro (PInv.func (first := []) (cap := []) (args := [a.v, LLv (a.h.truths a.h.every)]) cY) ?_
  by_cases hy : ¬ a.yardN = 1
  · simp [hy]
    exact RetV.refl (by simp [Agn.askV, Agn.errA, he, hy])
  replace hy := Classical.not_not.1 hy
  simp [hy]
  have hfind : ∀ k j : Nat, k < 13 → j < 7 → (∀ m, m < 7 * k + j → ∀ p, Agn.places[m]? = some p → a.setB p.1 p.2 = false) → a.setB (k : Int) ((j : Int) - 3) = true → a.askP = some ((k : Int), (j : Int) - 3) := fun k j hk hj hb h1 => by
    unfold Agn.askP
    rw [List.find?_eq_some_iff_getElem]
    have hg := Agn.places_get k j hk hj
    obtain ⟨hm, e⟩ := List.getElem?_eq_some_iff.1 hg
    refine ⟨h1, 7 * k + j, hm, e, fun i hi => ?_⟩
    have := hb i hi _ (List.getElem?_eq_getElem (by omega))
    simp [this]
  refine Lp.intro (σ := Nat) (inv := fun k => k ≤ 13 ∧ ∀ m, m < 7 * k → ∀ p, Agn.places[m]? = some p → a.setB p.1 p.2 = false) (vw := fun k => [(1, .ptr 1 0 (s1+1)), (7, .int .i64 k)]) (hp := fun _ => [(1, .row a.cells (s1+1))]) (ms := fun k => 13 - k) 0 ⟨by omega, fun m h => by omega⟩ (by simp) (by simp [Agn.cells]) ?_
  rintro k ⟨hk, hb⟩ J hJ
  by_cases hkc : k < 13
  · have hkc' : (k : Int) ≤ 12 := by omega
    simp [hkc']
    refine Lp.intro (σ := Nat) (inv := fun j => j ≤ 7 ∧ ∀ m, m < 7 * k + j → ∀ p, Agn.places[m]? = some p → a.setB p.1 p.2 = false) (vw := fun j => [(1, .ptr 1 0 (s1+1)), (7, .int .i64 k), (8, .int .i64 ((j : Int) - 3))]) (hp := fun _ => [(1, .row a.cells (s1+1))]) (ms := fun j => 7 - j) 0 ⟨by omega, fun m h => hb m (by omega)⟩ (by simp) (by simp [Agn.cells]) ?_
    rintro j ⟨hj, hbj⟩ J2 hJ2
    by_cases hjc : j < 7
    · have hjc' : (j : Int) - 3 ≤ 3 := by omega
      have hat : Hul.At (k : Int) ((j : Int) - 3) := ⟨⟨by omega, hkc'⟩, by omega, by omega⟩
      have cS := PInv.func (first := []) (cap := []) (args := [a.v, .int .i64 k, .int .i64 ((j : Int) - 3)]) (ref11_settles_ok a hv _ _ hat)
      simp [hjc', Agn.cells]
      refine PCallK.intro cS ?_
      cases h1 : a.setB (k : Int) ((j : Int) - 3) with
      | true =>
        have hP := hfind k j hkc hjc hbj h1
        simp
        refine hJ2.ret ?_
        simp
        refine hJ.ret ?_
        simp
        exact RetV.refl (by simp [Agn.askV, Agn.errA, he, hy, hP])
      | false =>
        simp
        (repeat first | refine And.intro (by omega) ?_ | refine And.intro (Fits.of (by omega) (by omega)) ?_)
        refine hJ2.next (j + 1) ⟨by omega, fun m hm p hp => ?_⟩ (by omega) (by simp; omega) (by simp [Agn.cells])
        by_cases e : m = 7 * k + j
        · rw [e, Agn.places_get k j hkc hjc] at hp
          cases hp
          exact h1
        · exact hbj m (by omega) p hp
    obtain rfl : j = 7 := by omega
    simp
    refine hJ2.exit ?_
    simp
    (repeat first | refine And.intro (by omega) ?_ | refine And.intro (Fits.of (by omega) (by omega)) ?_)
    exact hJ.next (k + 1) ⟨by omega, fun m hm => hbj m (by omega)⟩ (by omega) (by simp) (by simp [Agn.cells])
  obtain rfl : k = 13 := by omega
  have hP : a.askP = none := by
    unfold Agn.askP
    rw [List.find?_eq_none]
    intro p hp
    obtain ⟨i, hi, rfl⟩ := List.getElem_of_mem hp
    have hi' : i < 91 := by rw [← Agn.places_len]; exact hi
    have := hb i (by omega) _ (List.getElem?_eq_getElem hi)
    simp [this]
  simp
  refine hJ.exit ?_
  simp
  exact RetV.refl (by simp [Agn.askV, Agn.errA, he, hy, hP])
theorem law11_AgainAsks_ok (a : Agn) : APure Pg fn_law11_AgainAsks [a.v] (.bool true) := by
  refine law11_AgainAsks.pure (by simp) ?_
  simp
  intro s1
  refine PCallK.intro (PInv.func (first := []) (cap := []) (args := [a.v, .int .i64 100]) (law11_heavy_ok a 100)) ?_
  cases hh : a.heavyB 100 with
  | true =>
    simp
    refine PCallK.intro (PInv.func law11_alive_ok) ?_
    simp
    exact RetV.refl rfl
  | false =>
    have hs := Agn.heavy_small hh
    obtain ⟨x, y, e, h1⟩ : ∃ x y e, a.askV = .tup [.int .i64 x, .int .i64 y, .int .i64 e] := ⟨_, _, _, rfl⟩
    have c1 := again_Ask_ok a hs
    have r1 := ref11_Ask_ok a hs
    rw [h1] at c1 r1
    simp only [Agn.v_agg] at c1 r1
    simp
    refine PCallK.intro (PInv.func c1) ?_
    simp
    refine PCallK.intro (PInv.func r1) ?_
    simp
    refine PCallK.intro (PInv.func law11_alive_ok) ?_
    simp
    exact RetV.refl rfl
end Go.Cw
end
