/-
  What the document's reference of layer 11 computes; laws of layer 11; how a ship is read as an argument.
-/
import Derived.Test.YtkcppdggfnfpiaaGreatWb
import Derived.Test.YtkcppdggfnfpiaaGreatLa
import Derived.Test.YtkcppdggfnfpiaaGreatAe
import Derived.Test.YtkcppdggfnfpiaaGreatAf
import Derived.Test.YtkcppdggfnfpiaaGreatRows
set_option linter.unusedVariables false
set_option linter.unusedSimpArgs false
set_option linter.unusedSectionVars false

/- The reference of chapter 11: is a ship valid; the last works; promises. -/
section
set_option maxRecDepth 100000
set_option linter.unusedSimpArgs false
namespace Go.Cw
open Go Go.Proofs

theorem ref11_in_ok (n lo hi : Int) : APure Pg fn_ref11_in [.int .i64 n, .int .i64 lo, .int .i64 hi] (.bool (decide (lo ≤ n ∧ n ≤ hi))) := by
  refine ref11_in.pure (by simp) ?_
  by_cases h : lo ≤ n <;> simp [h] <;> refine RetV.refl ?_ <;> simp_all

theorem ref11_Ship_ok (a : Agn) (hs : a.Small) : APure Pg fn_ref11_Ship [a.v] (.bool (decide a.Valid)) := by
  have hf40 := hs.f
  have hw40 := hs.w
  have hfn : a.f.length = a.n := rfl
  refine ref11_Ship.pure (by simp) ?_
  simp
  intro s1
  refine PCallK.intro (PInv.func (first := []) (cap := []) (args := [a.h.v]) (ref01_Hull_ok a.h hs.h)) ?_
  by_cases c1 : ¬ a.h.Valid
  · have hn : ¬ a.Valid := fun hv => c1 hv.h
    simp [c1]
    exact RetV.refl (by simp [hn])
  replace c1 := Classical.not_not.1 c1
  have hsl : a.h.seams.length ≤ 6 := c1.n6
  have hdl : a.h.snds.length ≤ 8 := c1.k8
  by_cases c2 : ¬ a.h.snds.length < 8
  · have hn : ¬ a.Valid := fun hv => c2 hv.k7
    have c2' : (8 : Int) ≤ a.h.snds.length := by omega
    simp [c1, c2']
    exact RetV.refl (by simp [hn])
  replace c2 := Classical.not_not.1 c2
  have c2' : ¬ (8 : Int) ≤ a.h.snds.length := by omega
  by_cases c3 : ¬ a.f.length = a.h.seams.length
  · have hn : ¬ a.Valid := fun hv => c3 hv.len
    have c3' : ¬ (a.f.length : Int) = a.h.seams.length := by omega
    simp [c1, c2', c3, c3']
    exact RetV.refl (by simp [hn])
  replace c3 := Classical.not_not.1 c3
  have c3' : (a.f.length : Int) = a.h.seams.length := by omega
  simp [c1, c2', c3, c3']
  refine PCallK.intro (PInv.func (ref11_in_ok _ _ _)) ?_
  by_cases c4 : ¬ (0 ≤ a.c ∧ a.c ≤ 100)
  · have hn : ¬ a.Valid := fun hv => c4 hv.co
    simp [c4]
    exact RetV.refl (by simp [hn])
  replace c4 := Classical.not_not.1 c4
  simp [c4]
  refine PCallK.intro (PInv.func (ref11_in_ok _ _ _)) ?_
  by_cases c5 : ¬ (0 ≤ a.t ∧ a.t ≤ 5000)
  · have hn : ¬ a.Valid := fun hv => c5 hv.to
    simp [c5]
    exact RetV.refl (by simp [hn])
  replace c5 := Classical.not_not.1 c5
  simp [c5]
  by_cases c6 : ¬ a.w.length ≤ 12
  · have hn : ¬ a.Valid := fun hv => c6 hv.w12
    have c6' : (12 : Int) < a.w.length := by omega
    simp [c6']
    exact RetV.refl (by simp [hn])
  replace c6 := Classical.not_not.1 c6
  have c6' : ¬ (12 : Int) < a.w.length := by omega
  simp [c6']
  refine Lp.intro (σ := Nat) (inv := fun k => k ≤ a.f.length ∧ ∀ x ∈ a.f.take k, 1 ≤ x ∧ x ≤ 20) (vw := fun k => [(1, .ptr 1 0 (s1+1)), (3, .int .i64 k)]) (hp := fun _ => [(1, .row a.cells (s1+1))]) (ms := fun k => a.f.length - k) 0 (by simp) (by simp) (by simp [Agn.cells]) ?_
  rintro k ⟨hk, hall⟩ J hJ
  by_cases hkc : k < a.f.length
  · obtain ⟨x, hx⟩ : ∃ x, a.f[k] = x := ⟨_, rfl⟩
    have hg : a.f[k]? = some x := by rw [List.getElem?_eq_getElem hkc, hx]
    simp [hkc, hx, hg, Agn.cells]
    refine PCallK.intro (PInv.func (ref11_in_ok _ _ _)) ?_
    by_cases hb : 1 ≤ x ∧ x ≤ 20
    · simp [hb]
      (repeat first | refine And.intro (by omega) ?_ | refine And.intro (Fits.of (by omega) (by omega)) ?_)
      refine hJ.next (k + 1) ⟨by omega, fun y hy => ?_⟩ (by omega) (by simp) (by simp [Agn.cells])
      rw [← List.take_append_getElem hkc] at hy
      rcases List.mem_append.1 hy with hy | hy
      · exact hall y hy
      · simp [hx] at hy; rw [hy]; exact hb
    · have hn : ¬ a.Valid := fun hv => hb (hv.fa x (by rw [← hx]; exact List.getElem_mem hkc))
      simp [hb]
      refine hJ.ret ?_
      simp
      exact RetV.refl (by simp [hn])
  obtain rfl : k = a.f.length := by omega
  rw [List.take_length] at hall
  simp [Agn.cells]
  refine hJ.exit ?_
  simp
  refine Lp.intro (σ := Nat) (inv := fun k => k ≤ a.w.length ∧ ∀ x ∈ a.w.take k, a.OkW x) (vw := fun k => [(1, .ptr 1 0 (s1+1)), (4, .int .i64 k)]) (hp := fun _ => [(1, .row a.cells (s1+1))]) (ms := fun k => a.w.length - k) 0 (by simp) (by simp) (by simp [Agn.cells]) ?_
  rintro k ⟨hk, hallw⟩ J hJ
  by_cases hkc : k < a.w.length
  · obtain ⟨x, hx⟩ : ∃ x, a.w[k] = x := ⟨_, rfl⟩
    have hg : a.w[k]? = some x := by rw [List.getElem?_eq_getElem hkc, hx]
    have hno : ¬ a.OkW x → ¬ a.Valid := fun h hv => h (hv.wo x (by rw [← hx]; exact List.getElem_mem hkc))
    have hsm : a.h.Seam x.s ↔ 0 ≤ x.s ∧ x.s < a.n := by
      unfold Hul.Seam
      have : (a.h.n : Int) = a.n := by rw [← hfn]; exact c3'.symm
      rw [this]
    simp [hkc, hx, hg, Agn.cells]
    refine ⟨by omega, fun s5 => ?_⟩
    refine PCallK.intro (PInv.func (first := []) (cap := []) (args := [a.h.v, .int .i64 x.s]) (ref01_Seam_ok a.h hs.h x.s)) ?_
    by_cases d1 : ¬ a.h.Seam x.s
    · have hn := hno fun h => d1 (hsm.2 h.1)
      simp [d1]
      refine hJ.ret ?_
      simp
      exact RetV.refl (by simp [hn])
    replace d1 := Classical.not_not.1 d1
    simp [d1]
    refine PCallK.intro (PInv.func (ref11_in_ok _ _ _)) ?_
    by_cases d2 : ¬ (0 ≤ x.g ∧ x.g ≤ 3)
    · have hn := hno fun h => d2 h.2.1
      simp [d2]
      refine hJ.ret ?_
      simp
      exact RetV.refl (by simp [hn])
    replace d2 := Classical.not_not.1 d2
    simp [d2]
    refine PCallK.intro (PInv.func (ref11_in_ok _ _ _)) ?_
    by_cases d3 : ¬ (0 ≤ x.d ∧ x.d ≤ a.t)
    · have hn := hno fun h => d3 h.2.2
      simp [d3]
      refine hJ.ret ?_
      simp
      exact RetV.refl (by simp [hn])
    replace d3 := Classical.not_not.1 d3
    simp [d3]
    (repeat first | refine And.intro (by omega) ?_ | refine And.intro (Fits.of (by omega) (by omega)) ?_)
    refine hJ.next (k + 1) ⟨by omega, fun y hy => ?_⟩ (by omega) (by simp) (by simp [Agn.cells])
    rw [← List.take_append_getElem hkc] at hy
    rcases List.mem_append.1 hy with hy | hy
    · exact hallw y hy
    · simp [hx] at hy; rw [hy]; exact ⟨hsm.1 d1, d2, d3⟩
  obtain rfl : k = a.w.length := by omega
  rw [List.take_length] at hallw
  have hv : a.Valid := ⟨c1, c2, c3, hall, c4, c5, c6, hallw⟩
  simp [Agn.cells]
  refine hJ.exit ?_
  simp
  exact RetV.refl (by simp [hv])
namespace Ag
def lastI (W : List Wrk) (i : Int) : Nat → Int
  | 0 => -1
  | k + 1 => match W[k]? with
    | some w => if w.s = i then (match lastW (W.take k) i with
      | none => k
      | some v => if v.d ≤ w.d then k else lastI W i k) else lastI W i k
    | none => lastI W i k
theorem lastI_spec (W : List Wrk) (i : Int) : ∀ k, k ≤ W.length → (lastI W i k = -1 ∧ lastW (W.take k) i = none) ∨ ∃ j, j < k ∧ lastI W i k = j ∧ ∃ v, W[j]? = some v ∧ lastW (W.take k) i = some v
  | 0, _ => .inl ⟨rfl, rfl⟩
  | k + 1, hk => by
    have hkc : k < W.length := by omega
    have ih := lastI_spec W i k (by omega)
    have hg : W[k]? = some W[k] := List.getElem?_eq_getElem hkc
    have ht : W.take (k + 1) = W.take k ++ [W[k]] := (List.take_append_getElem hkc).symm
    simp only [lastI, hg]
    rw [ht, lastW_push]
    rcases ih with ⟨h1, h2⟩ | ⟨j, h1, h2, v, h3, h4⟩
    · rw [h2]
      simp only [betW]
      by_cases e : W[k].s = i
      · rw [if_pos e, if_pos e]
        exact .inr ⟨k, by omega, rfl, _, hg, rfl⟩
      · rw [if_neg e, if_neg e]
        exact .inl ⟨h1, rfl⟩
    · rw [h4]
      simp only [betW]
      by_cases e : W[k].s = i
      · rw [if_pos e]
        by_cases e2 : v.d ≤ W[k].d
        · rw [if_pos e2, if_pos ⟨e, e2⟩]
          exact .inr ⟨k, by omega, rfl, _, hg, rfl⟩
        · rw [if_neg e2, if_neg fun h => e2 h.2]
          exact .inr ⟨j, by omega, h2, v, h3, rfl⟩
      · rw [if_neg e, if_neg fun h => e h.1]
        exact .inr ⟨j, by omega, h2, v, h3, rfl⟩
end Ag
theorem ref11_last_ok (a : Agn) (hw : a.w.length ≤ 40) (i : Int) : APure Pg fn_ref11_last [a.v, .int .i64 i] (.int .i64 (Ag.lastI a.w i a.w.length)) := by
  refine ref11_last.pure (by simp) ?_
  simp
  intro s2
  refine Lp.intro (σ := Nat) (inv := fun k => k ≤ a.w.length) (vw := fun k => [(1, .int .i64 i), (2, .ptr 2 0 (s2+1)), (5, .int .i64 (Ag.lastI a.w i k)), (6, .int .i64 k)]) (hp := fun _ => [(2, .row a.cells (s2+1))]) (ms := fun k => a.w.length - k) 0 (by simp) (by simp [Ag.lastI]) (by simp [Agn.cells]) ?_
  intro k hk J hJ
  by_cases hkc : k < a.w.length
  · obtain ⟨x, hx⟩ : ∃ x, a.w[k] = x := ⟨_, rfl⟩
    have hg : a.w[k]? = some x := by rw [List.getElem?_eq_getElem hkc, hx]
    have hsp := Ag.lastI_spec a.w i k hk
    have hst : Ag.lastI a.w i (k + 1) = if x.s = i then (match Ag.lastW (a.w.take k) i with
      | none => (k : Int)
      | some v => if v.d ≤ x.d then (k : Int) else Ag.lastI a.w i k) else Ag.lastI a.w i k := by
      simp only [Ag.lastI, hg]
    obtain ⟨y, hy⟩ : ∃ y, y = Ag.lastI a.w i k := ⟨_, rfl⟩
    rw [← hy] at hsp hst ⊢
    by_cases e : x.s = i
    · rw [if_pos e] at hst
      rcases hsp with ⟨h1, h2⟩ | ⟨j, h1, h2, v, h3, h4⟩
      · rw [h2] at hst
        simp only at hst
        have hy0 : y < 0 := by omega
        simp [hkc, hx, hg, Agn.cells, e, hy0]
        (repeat first | refine And.intro (by omega) ?_ | refine And.intro (Fits.of (by omega) (by omega)) ?_)
        exact hJ.next (k + 1) (by omega) (by omega) (by simp [hst]) (by simp [Agn.cells])
      · rw [h4] at hst
        simp only at hst
        have hy0 : ¬ (j : Int) < 0 := by omega
        have hjc : j < a.w.length := by omega
        have hje : a.w[j] = v := (List.getElem?_eq_some_iff.1 h3).2
        by_cases e2 : v.d ≤ x.d
        · rw [if_pos e2] at hst
          simp [hkc, hx, hg, Agn.cells, e, h2, hy0, hjc, hje, h3, e2]
          (repeat first | refine And.intro (by omega) ?_ | refine And.intro (Fits.of (by omega) (by omega)) ?_)
          exact hJ.next (k + 1) (by omega) (by omega) (by simp [hst]) (by simp [Agn.cells])
        · rw [if_neg e2] at hst
          simp [hkc, hx, hg, Agn.cells, e, h2, hy0, hjc, hje, h3, e2]
          (repeat first | refine And.intro (by omega) ?_ | refine And.intro (Fits.of (by omega) (by omega)) ?_)
          exact hJ.next (k + 1) (by omega) (by omega) (by simp [hst, h2]) (by simp [Agn.cells])
    · rw [if_neg e] at hst
      simp [hkc, hx, hg, Agn.cells, e]
      (repeat first | refine And.intro (by omega) ?_ | refine And.intro (Fits.of (by omega) (by omega)) ?_)
      exact hJ.next (k + 1) (by omega) (by omega) (by simp [hst]) (by simp [Agn.cells])
  obtain rfl : k = a.w.length := by omega
  simp [Agn.cells]
  refine hJ.exit ?_
  simp
  exact RetV.refl rfl
structure Agn.Days (a : Agn) : Prop where
  w : a.w.length ≤ 40
  d : ∀ x ∈ a.w, 0 ≤ x.d ∧ x.d ≤ 5000
  t : 0 ≤ a.t ∧ a.t ≤ 1000000
theorem Agn.Valid.days {a : Agn} (hv : a.Valid) : a.Days := ⟨by have := hv.w12; omega, fun x hx => by have := (hv.wo x hx).2.2; have := hv.to; omega, by have := hv.to; omega⟩

theorem ref11_Of_ok (a : Agn) (hd : a.Days) (i : Nat) : APure Pg fn_ref11_Of [a.v, .int .i64 i] (.int .i64 (Ag.ofW a.w i)) := by
  have hw40 := hd.w
  refine ref11_Of.pure (by simp) ?_
  simp
  intro s2
  refine PCallK.intro (PInv.func (first := []) (cap := []) (args := [a.v, .int .i64 i]) (ref11_last_ok a hd.w i)) ?_
  have hsp := Ag.lastI_spec a.w i a.w.length (Nat.le_refl _)
  rw [List.take_length] at hsp
  rcases hsp with ⟨h1, h2⟩ | ⟨j, h1, h2, v, h3, h4⟩
  · rw [h1]
    simp
    exact RetV.refl (by simp [Ag.ofW, h2])
  · rw [h2]
    have hje : a.w[j] = v := (List.getElem?_eq_some_iff.1 h3).2
    have hj0 : ¬ (j : Int) < 0 := by omega
    simp [h1, hje, h3, hj0]
    (repeat first | refine And.intro (by omega) ?_ | refine And.intro (Fits.of (by omega) (by omega)) ?_)
    exact RetV.refl (by simp [Ag.ofW, h4])

end Go.Cw
end

/- The reference of chapter 11: promises; what truths tell. -/
section
set_option maxRecDepth 100000
set_option linter.unusedSimpArgs false
namespace Go.Cw
open Go Go.Proofs


noncomputable def Agn.truthsL (a : Agn) (is : Bool) : List (List Int) := if a.errL is = 0 then a.h.truths a.h.every else []
noncomputable def Agn.tellV (a : Agn) (is : Bool) : AVal := .tup [LLv (a.truthsL is), .int .i64 (a.errL is)]

def Agn.isT (a : Agn) (t : List Int) : Bool := (List.range t.length).any (fun i => decide (0 < ofL t i)) && (List.range t.length).all (fun i => !decide (0 < ofL t i) || Ag.pr a.w a.t i)

def Agn.yardT (a : Agn) (T : List (List Int)) : Int := if T.all a.isT then 2 else if T.any a.isT then 1 else 0

theorem Agn.isT_yes {a : Agn} {t : List Int} (h : t.length = a.n) : a.isT t = Ag.yesS a.n (Ag.pr a.w a.t) (leaksT t) := by
  have hin : ∀ i, i < a.n → inS (leaksT t) i = decide (0 < ofL t i) := fun i hi => by
    unfold leaksT
    exact inS_bits _ (by rw [h]; exact hi)
  rw [Bool.eq_iff_iff, Ag.yes_iff]
  unfold Agn.isT
  rw [Bool.and_eq_true, List.any_eq_true, List.all_eq_true, h]
  have hz : leaksT t ≠ 0 ↔ ∃ i ∈ List.range a.n, decide (0 < ofL t i) = true := by
    unfold leaksT
    rw [ne_eq, bits_zero, h]
    constructor
    · intro hn
      refine Classical.byContradiction fun hx => hn fun i hi => ?_
      cases hb : decide (0 < ofL t i)
      · rfl
      · exact absurd ⟨i, List.mem_range.2 hi, hb⟩ hx
    · rintro ⟨i, hi, hb⟩ hn
      rw [hn i (List.mem_range.1 hi)] at hb
      cases hb
  rw [hz]
  refine and_congr_right fun _ => ⟨fun H i hi hs => ?_, fun H i hi => ?_⟩
  · have := H i (List.mem_range.2 hi)
    rw [← hin i hi, hs] at this
    simpa using this
  · have hi' := List.mem_range.1 hi
    rw [← hin i hi']
    cases hs : inS (leaksT t) i
    · rfl
    · simpa using H i hi' hs
theorem Agn.yardT_eq {a : Agn} {h : Hul} (hv : h.Valid) (hn : h.n = a.n) (ht : h.truths h.every ≠ []) : a.yardT (h.truths h.every) = Ag.toldV a.n (Ag.pr a.w a.t) h.setsL := by
  have hm : ∀ s, s ∈ h.setsL ↔ ∃ t ∈ h.truths h.every, leaksT t = s := fun s => Agn.mem_S (a := ⟨h, [], 0, [], 0⟩)
  have hi : ∀ t ∈ h.truths h.every, a.isT t = Ag.yesS a.n (Ag.pr a.w a.t) (leaksT t) := fun t h1 => Agn.isT_yes (by rw [(truths_in hv h1).1]; exact hn)
  have hS : h.setsL ≠ [] := mt Agn.setsL_nil.1 ht
  unfold Agn.yardT
  by_cases h1 : (h.truths h.every).all a.isT = true
  · rw [if_pos h1]
    symm
    rw [Ag.told_two hS]
    intro s hs
    obtain ⟨t, h2, rfl⟩ := (hm s).1 hs
    rw [← hi t h2]
    exact List.all_eq_true.1 h1 t h2
  · rw [if_neg h1]
    by_cases h2 : (h.truths h.every).any a.isT = true
    · rw [if_pos h2]
      symm
      rw [Ag.told_one hS]
      obtain ⟨t, h3, h4⟩ := List.any_eq_true.1 h2
      have h1 : (h.truths h.every).all a.isT = false := by simpa using h1
      obtain ⟨u, h5, h6⟩ := List.all_eq_false.1 h1
      refine ⟨⟨_, (hm _).2 ⟨t, h3, rfl⟩, by rw [← hi t h3]; exact h4⟩, _, (hm _).2 ⟨u, h5, rfl⟩, by rw [← hi u h5]; simpa using h6⟩
    · rw [if_neg h2]
      symm
      rw [Ag.told_zero hS]
      intro s hs
      obtain ⟨t, h3, rfl⟩ := (hm s).1 hs
      rw [← hi t h3]
      cases hb : a.isT t
      · rfl
      · exact absurd (List.any_eq_true.2 ⟨t, h3, hb⟩) h2
theorem Agn.truths_len {h : Hul} (hv : h.Valid) : (h.truths h.every).length ≤ 15625 := by
  have hlen := hv.ext_len h.every []
  rwa [← Hul.truths_ext] at hlen

end Go.Cw
end

/- The reference of chapter 11: fathoms; who pays; whose work leaks. -/
section
set_option maxRecDepth 100000
set_option linter.unusedSimpArgs false
namespace Go.Cw
open Go Go.Proofs

def Agn.cntB (a : Agn) (under : Bool) (g : Int) (i : Nat) : Bool := (Ag.pr a.w a.t i == under) && (decide (g < 0) || decide (Ag.ofW a.w i = g))
def Agn.lenT (a : Agn) (t : List Int) (under : Bool) (g : Int) : Int := Ag.lenB a.F t.length fun i => decide (0 < ofL t i) && a.cntB under g i


noncomputable def Agn.lensP (a : Agn) (under : Bool) (g : Int) (is : Bool) : Int × Int := if a.errL is = 0 then spanOf ((a.h.truths a.h.every).map fun t => a.lenT t under g) else (0, 0)

end Go.Cw
end

/- The reference of chapter 11: Pays, Nothing, Gang, Blame, Until. -/
section
set_option maxRecDepth 100000
set_option linter.unusedSimpArgs false
namespace Go.Cw
open Go Go.Proofs

theorem Agn.lenT_pay {a : Agn} {t : List Int} (h : t.length = a.n) {under : Bool} {g : Int} {u : Nat → Bool} (hu : ∀ i, i < a.n → a.cntB under g i = u i) : a.lenT t under g = Ag.payS a.F a.n u (leaksT t) := by
  unfold Agn.lenT Ag.payS
  rw [h]
  refine Ag.lenB_congr fun i hi => ?_
  rw [hu i hi]
  congr 1
  unfold leaksT
  exact (inS_bits (fun i => decide (0 < ofL t i)) (n := t.length) (by rw [h]; exact hi)).symm
theorem Agn.lensP_eq {a : Agn} {is : Bool} (he : a.errL is = 0) {under : Bool} {g : Int} {u : Nat → Bool} (hu : ∀ i, i < a.n → a.cntB under g i = u i) : a.lensP under g is = a.spanP u := by
  obtain ⟨hv, _, hS⟩ := Agn.errL_zero.1 he
  have ht := mt Agn.S_nil.2 hS
  unfold Agn.lensP
  rw [if_pos he]
  have hmap : ((a.h.truths a.h.every).map fun t => a.lenT t under g) = (a.h.truths a.h.every).map fun t => Ag.payS a.F a.n u (leaksT t) :=
    List.map_congr_left fun t h1 => Agn.lenT_pay (by rw [(truths_in hv.h h1).1]; exact hv.len.symm) hu
  rw [hmap]
  obtain ⟨l, hl⟩ : ∃ l, l = (a.h.truths a.h.every).map fun t => Ag.payS a.F a.n u (leaksT t) := ⟨_, rfl⟩
  have hne : l ≠ [] := by rw [hl]; simpa using ht
  obtain ⟨h1, h2⟩ := Agn.span_in hne
  rw [← hl]
  unfold Agn.spanP
  symm
  have hmem : ∀ y, y ∈ l → ∃ s ∈ a.S, Ag.payS a.F a.n u s = y := fun y hy => by
    rw [hl] at hy
    obtain ⟨t, h3, h4⟩ := List.mem_map.1 hy
    exact ⟨leaksT t, Agn.mem_S.2 ⟨t, h3, rfl⟩, h4⟩
  refine Ag.jn_eq hS (fun s hs => ?_) (hmem _ h1) (hmem _ h2)
  obtain ⟨t, h3, rfl⟩ := Agn.mem_S.1 hs
  exact Agn.span_mem (by rw [hl]; exact List.mem_map.2 ⟨t, h3, rfl⟩)
theorem Agn.cnt_any (a : Agn) (under : Bool) (i : Nat) : a.cntB under (-1) i = (Ag.pr a.w a.t i == under) := by simp [Agn.cntB]




end Go.Cw
end

/- The reference of chapter 11: Until. -/
section
set_option maxRecDepth 100000
set_option linter.unusedSimpArgs false
namespace Go.Cw
open Go Go.Proofs

theorem Agn.mem_days {a : Agn} {d : Int} : d ∈ a.daysL ↔ ∃ i, i < a.n ∧ (∃ s ∈ a.S, inS s i = true) ∧ ∃ w, Ag.lastW a.w i = some w ∧ w.d = d := by
  unfold Agn.daysL
  rw [List.mem_filterMap]
  constructor
  · rintro ⟨i, hi, h⟩
    split at h
    · rename_i hs
      obtain ⟨s, h1, h2⟩ := List.any_eq_true.1 hs
      cases hw : Ag.lastW a.w i with
      | none => rw [hw] at h; simp at h
      | some w =>
        rw [hw] at h
        exact ⟨i, List.mem_range.1 hi, ⟨s, h1, h2⟩, w, hw, by simpa using h⟩
    · cases h
  · rintro ⟨i, hi, ⟨s, h1, h2⟩, w, hw, rfl⟩
    refine ⟨i, List.mem_range.2 hi, ?_⟩
    rw [if_pos (List.any_eq_true.2 ⟨s, h1, h2⟩), hw]
    rfl
theorem Agn.first_is {a : Agn} (hv : a.Valid) (hS : a.S ≠ []) (hy : a.yardN = 2) : Ag.IsFirst a.n a.w a.S a.firstD := by
  have hdn : ∀ d ∈ a.daysL, 0 ≤ d := fun d hd => by
    obtain ⟨i, _, _, w, hw, rfl⟩ := Agn.mem_days.1 hd
    exact (Agn.work_rng hv hw).2.2.2.1
  obtain ⟨s, h1, i, h2, h3, w, h4⟩ := Ag.first_ex hS (Agn.S_in hv) hy
  have hm := Agn.mem_days.2 ⟨i, h2, ⟨s, h1, h3⟩, w, h4, rfl⟩
  rcases Ag.least_spec hdn with ⟨e, _⟩ | ⟨h5, h6⟩
  · rw [e] at hm; cases hm
  · obtain ⟨j, h7, ⟨t, h8, h9⟩, v, h10, h11⟩ := Agn.mem_days.1 h5
    exact ⟨⟨t, h8, j, h7, h9, v, h10, h11⟩, fun s hs i hi hsi w hw => h6 _ (Agn.mem_days.2 ⟨i, hi, ⟨s, hs, hsi⟩, w, hw, rfl⟩)⟩

end Go.Cw
end

/- The laws of chapter 11: the document's ship; what it fixes. -/
section
set_option maxRecDepth 100000
set_option linter.unusedSimpArgs false
namespace Go.Cw
open Go Go.Proofs

def asm (t : Int) : Agn := ⟨⟨[⟨2, 0, 3⟩, ⟨5, -1, 2⟩, ⟨5, 1, 4⟩], [⟨3, 0, 1, 2⟩, ⟨6, 0, 4, 4⟩]⟩, [4, 3, 5], 10, [⟨0, 100, 0⟩, ⟨1, 90, 1⟩, ⟨2, 10, 0⟩], t⟩
theorem asm_small (t : Int) : (asm t).Small := ⟨⟨by simp [asm], by simp [asm]⟩, by simp [asm], by simp [asm]⟩
def asmT : List (List Int) := [[1, 0, 3], [1, 1, 2], [1, 2, 1], [2, 0, 2], [2, 1, 1], [2, 2, 0]]
theorem asm_truths (t : Int) : (asm t).h.truths (asm t).h.every = asmT := by
  have : (asm 300).h.truths (asm 300).h.every = asmT := by decide +kernel
  exact this
theorem asm_S (t : Int) : (asm t).S = [3, 5, 7] := by
  unfold Agn.S Hul.setsL
  rw [asm_truths]
  exact sortI_eq (by decide +kernel) (by unfold SortedI; decide +kernel)
theorem asm_valid {t : Int} (h : t = 300 ∨ t = 400) : (asm t).Valid := by
  have hh : ∀ t, (asm t).h.Valid := fun t => by
    have : (asm 300).h.Valid := ⟨by simp [asm, Hul.n], by simp [asm, Hul.n], by simp [asm, Hul.k], by decide, by decide⟩
    exact this
  rcases h with rfl | rfl
  · exact ⟨hh _, by simp [asm, Hul.k], by simp [asm, Hul.n], by decide, by simp [asm], by simp [asm], by simp [asm], by decide⟩
  · exact ⟨hh _, by simp [asm, Hul.k], by simp [asm, Hul.n], by decide, by simp [asm], by simp [asm], by simp [asm], by decide⟩
theorem asm_errO {t : Int} (h : t = 300 ∨ t = 400) : (asm t).errO true = 0 := Agn.errO_zero.2 ⟨asm_valid h, rfl⟩
theorem asm_errL {t : Int} (h : t = 300 ∨ t = 400) : (asm t).errL true = 0 := Agn.errL_zero.2 ⟨asm_valid h, rfl, by rw [asm_S]; simp⟩
theorem asm_prom {t x : Int} (h : t = 300 ∨ t = 400) (hx : bits (Ag.pr (asm t).w t) 3 = x) : (asm t).promV = .tup [.int .i64 x, .int .i64 0] := by
  have e : (asm t).under (asm t).t = x := hx
  unfold Agn.promV
  rw [asm_errO h, e]
  simp
theorem asm_yardN {t x : Int} (hx : Ag.toldV 3 (Ag.pr (asm t).w t) [3, 5, 7] = x) : (asm t).yardN = x := by
  unfold Agn.yardN
  rw [asm_S]
  exact hx
theorem asm_yard {t x : Int} (h : t = 300 ∨ t = 400) (hx : Ag.toldV 3 (Ag.pr (asm t).w t) [3, 5, 7] = x) : (asm t).yardV = .tup [.int .i64 x, .int .i64 0] := by
  unfold Agn.yardV
  rw [asm_errL h, asm_yardN hx]
  simp
theorem asm_span {t : Int} {u : Nat → Bool} {x : Int × Int} (hx : Ag.jn (Ag.payS (ofL [4, 3, 5]) 3 u) [3, 5, 7] = x) : (asm t).spanP u = x := by
  unfold Agn.spanP
  rw [asm_S]
  exact hx
theorem asm_pays {t : Int} (h : t = 300 ∨ t = 400) {x : Int × Int} (hx : Ag.jn (Ag.payS (ofL [4, 3, 5]) 3 fun i => !Ag.pr (asm t).w t i) [3, 5, 7] = x) : (asm t).paysV = .tup [SP2 (x.1 * 10, x.2 * 10), .int .i64 0] := by
  have e : (asm t).spanP (fun i => !Ag.pr (asm t).w (asm t).t i) = x := asm_span hx
  unfold Agn.paysV Agn.paysP
  rw [asm_errL h, e]
  rfl
theorem asm_noth {t : Int} (h : t = 300 ∨ t = 400) {x : Int × Int} (hx : Ag.jn (Ag.payS (ofL [4, 3, 5]) 3 (Ag.pr (asm t).w t)) [3, 5, 7] = x) : (asm t).nothV = .tup [SP2 x, .int .i64 0] := by
  have e : (asm t).spanP (Ag.pr (asm t).w (asm t).t) = x := asm_span hx
  unfold Agn.nothV Agn.nothP
  rw [asm_errL h, e]
  rfl
theorem asm_own {t : Int} (g : Int) : (asm t).ownB g = fun i => Ag.pr (asm t).w t i && decide (Ag.ofW (asm t).w i = g) := rfl
theorem asm_gang {t : Int} (h : t = 300 ∨ t = 400) (g : Int) (hg : Agn.GangOk g) {x : Int × Int} (hx : Ag.jn (Ag.payS (ofL [4, 3, 5]) 3 fun i => Ag.pr (asm t).w t i && decide (Ag.ofW (asm t).w i = g)) [3, 5, 7] = x) : (asm t).gangV g = .tup [SP2 x, .int .i64 0] := by
  have e : (asm t).spanP ((asm t).ownB g) = x := asm_span hx
  unfold Agn.gangV Agn.gangP
  rw [decide_eq_true hg, asm_errL h, e]
  rfl
theorem asm_blame : (asm 400).blameV = .tup [.int .i64 1, .int .i64 3, .int .i64 0] := by
  have hs : ∀ i : Nat, (asm 400).spanP ((asm 400).ownB i) = Ag.jn (Ag.payS (ofL [4, 3, 5]) 3 fun j => Ag.pr (asm 400).w 400 j && decide (Ag.ofW (asm 400).w j = i)) [3, 5, 7] := fun i => asm_span rfl
  have e1 : bits (asm 400).surelyB 4 = 1 := by
    have : (asm 400).surelyB = fun i : Nat => decide (0 < (Ag.jn (Ag.payS (ofL [4, 3, 5]) 3 fun j => Ag.pr (asm 400).w 400 j && decide (Ag.ofW (asm 400).w j = i)) [3, 5, 7]).1) := funext fun i => by unfold Agn.surelyB; rw [hs]
    rw [this]
    decide +kernel
  have e2 : bits (asm 400).perhapsB 4 = 3 := by
    have : (asm 400).perhapsB = fun i : Nat => decide (0 < (Ag.jn (Ag.payS (ofL [4, 3, 5]) 3 fun j => Ag.pr (asm 400).w 400 j && decide (Ag.ofW (asm 400).w j = i)) [3, 5, 7]).2) := funext fun i => by unfold Agn.perhapsB; rw [hs]
    rw [this]
    decide +kernel
  unfold Agn.blameV
  rw [asm_errL (.inr rfl), e1, e2]
  simp
theorem asm_until : (asm 300).untilV = .tup [.int .i64 375, .int .i64 0] := by
  have e1 : (asm 300).yardN = 2 := asm_yardN (by decide +kernel)
  have e2 : (asm 300).firstD = 10 := by
    unfold Agn.firstD Agn.daysL
    rw [asm_S]
    decide +kernel
  have e3 : (asm 300).errU = 0 := by unfold Agn.errU; rw [asm_errL (.inl rfl), e1]; simp
  unfold Agn.untilV
  rw [e3, e2]
  simp
def asmC (w : Int) : Bool := (List.range 25).all fun (n : Nat) =>
  !(decide (seenK (asmT.filter fun t => decide ((n : Int) ≤ Hul.sumT t w ∧ Hul.sumT t w ≤ n)) ≠ []) && decide (Ag.toldV 3 (Ag.pr (asm 400).w 400) (seenK (asmT.filter fun t => decide ((n : Int) ≤ Hul.sumT t w ∧ Hul.sumT t w ≤ n))) = 1))
theorem asm_ask : (asm 400).askV = .tup [.int .i64 2, .int .i64 (-3), .int .i64 0] := by
  have hset : ∀ d l, (asm 400).setB d l = asmC ((asm 400).h.wet d l) := fun d l => by
    unfold Agn.setB asmC
    refine congrArg (List.all (List.range 25)) (funext fun n => ?_)
    unfold Agn.perB
    rw [Agn.soundS_eq, asm_truths]
    have h1 : ∀ X : List Int, decide (sortI X ≠ []) = decide (X ≠ []) := fun X => by
      refine decide_eq_decide.2 (not_congr ?_)
      constructor
      · intro h
        have := (sortI_perm X).length_eq
        rw [h] at this
        exact List.eq_nil_of_length_eq_zero this.symm
      · rintro rfl
        have := (sortI_perm []).length_eq
        exact List.eq_nil_of_length_eq_zero this
    have h2 : ∀ X : List Int, Ag.toldV (asm 400).n (Ag.pr (asm 400).w (asm 400).t) (sortI X) = Ag.toldV 3 (Ag.pr (asm 400).w 400) X := fun X => Ag.told_same fun s => (sortI_perm X).mem_iff
    rw [h1, h2]
  have e1 : (asm 400).askP = some (2, -3) := by
    unfold Agn.askP
    simp only [hset]
    decide +kernel
  have e2 : (asm 400).errA = 0 := by
    unfold Agn.errA
    rw [asm_errL (.inr rfl), asm_yardN (x := 1) (by decide +kernel), e1]
    simp
  unfold Agn.askV
  rw [e2, e1]
  simp
theorem law11_span_ok (a b : Int) : APure Pg fn_law11_span [.int .i64 a, .int .i64 b] (SP2 (a, b)) := by
  refine law11_span.pure (by simp) ?_
  simp
  intro s
  exact RetV.refl (by simp [SP2])
theorem law11_work_ok (a b c : Int) : APure Pg fn_law11_work [.int .i64 a, .int .i64 b, .int .i64 c] (.agg [.int .i64 a, .int .i64 b, .int .i64 c]) := by
  refine law11_work.pure (by simp) ?_
  simp
  intro s
  exact RetV.refl (by simp)
theorem law11_sample_ok (t : Int) : APure Pg fn_law11_sample [.int .i64 t] (asm t).v := by
  refine law11_sample.pure (by simp) ?_
  simp
  intro s1 s2
  refine PCallK.intro (PInv.func (law11_span_ok _ _)) ?_
  simp [SP2]
  refine PCallK.intro (PInv.func (law11_span_ok _ _)) ?_
  simp [SP2]
  intro s3 s4
  refine PCallK.intro (PInv.func (law11_work_ok _ _ _)) ?_
  simp
  refine PCallK.intro (PInv.func (law11_work_ok _ _ _)) ?_
  simp
  refine PCallK.intro (PInv.func (law11_work_ok _ _ _)) ?_
  simp
  intro s5
  refine RetV.frz 6 rfl (RetV.frz 11 rfl (RetV.frz 13 rfl (RetV.frz 17 rfl (RetV.refl ?_))))
  simp [asm, LS, LD, sms, sds, fl, Sm.c, Sd.c, L, ints, LW, wks, wkC]
theorem law11_alive_ok : APure Pg fn_law11_alive [] (.bool true) := by
  have w0 := fun t => PInv.func (first := []) (cap := []) (args := [.int .i64 t]) (law11_sample_ok t)
  have c1 := again_Promised_ok (asm 400) (asm_small _)
  rw [asm_prom (.inr rfl) (x := 3) (by decide +kernel)] at c1
  have c2 := again_Yard_ok (asm 300) (asm_small _)
  rw [asm_yard (.inl rfl) (x := 2) (by decide +kernel)] at c2
  have c3 := again_Pays_ok (asm 400) (asm_small _)
  rw [asm_pays (.inr rfl) (x := (0, 5)) (by decide +kernel)] at c3
  have c4 := again_Nothing_ok (asm 300) (asm_small _)
  rw [asm_noth (.inl rfl) (x := (7, 12)) (by decide +kernel)] at c4
  have c5 := again_Gang_ok (asm 400) (asm_small _) 1
  rw [asm_gang (.inr rfl) 1 (by decide) (x := (0, 3)) (by decide +kernel)] at c5
  have c6 := again_Blame_ok (asm 400) (asm_small _)
  rw [asm_blame] at c6
  have c7 := again_Until_ok (asm 300) (asm_small _)
  rw [asm_until] at c7
  have c8 := again_Ask_ok (asm 400) (asm_small _)
  rw [asm_ask] at c8
  refine law11_alive.pure (by simp) ?_
  simp only [Agn.v_agg] at c1 c2 c3 c4 c5 c6 c7 c8
  simp
  refine PCallK.intro (w0 400) ?_
  simp
  refine PCallK.intro (PInv.func c1) ?_
  simp
  refine PCallK.intro (w0 300) ?_
  simp
  refine PCallK.intro (PInv.func c2) ?_
  simp
  refine PCallK.intro (w0 400) ?_
  simp
  refine PCallK.intro (PInv.func c3) ?_
  simp [SP2]
  intro s5
  refine PCallK.intro (w0 300) ?_
  simp
  refine PCallK.intro (PInv.func c4) ?_
  simp [SP2]
  intro s7
  refine PCallK.intro (w0 400) ?_
  simp
  refine PCallK.intro (PInv.func c5) ?_
  simp [SP2]
  intro s9
  refine PCallK.intro (w0 400) ?_
  simp
  refine PCallK.intro (PInv.func c6) ?_
  simp
  refine PCallK.intro (w0 300) ?_
  simp
  refine PCallK.intro (PInv.func c7) ?_
  simp
  refine PCallK.intro (w0 400) ?_
  simp
  refine PCallK.intro (PInv.func c8) ?_
  simp
  refine PCallK.intro (PInv.func (law11_span_ok _ _)) ?_
  simp [SP2]
  refine PCallK.intro (PInv.func (law11_span_ok _ _)) ?_
  simp [SP2]
  refine PCallK.intro (PInv.func (law11_span_ok _ _)) ?_
  simp [SP2]
  exact RetV.refl rfl
def Agn.longB (a : Agn) : Bool := decide ((40 : Int) < max (a.h.seams.length : Int) (max (a.h.snds.length : Int) (max (a.f.length : Int) (a.w.length : Int))))
theorem Agn.long_small {a : Agn} (h : a.longB = false) : a.Small := by
  unfold Agn.longB at h
  have h := of_decide_eq_false h
  exact ⟨⟨by omega, by omega⟩, by omega, by omega⟩
theorem law11_long_ok (a : Agn) : APure Pg fn_law11_long [a.v] (.bool a.longB) := by
  refine law11_long.pure (by simp) ?_
  simp
  intro s1
  exact RetV.refl (by simp [Agn.longB])
def Agn.ways (a : Agn) (k : Nat) : Int := (a.h.seams.take k).foldl (fun n s => n * (s.m + 1)) 1
theorem Agn.ways_step {a : Agn} {k : Nat} (h : k < a.h.seams.length) : a.ways (k + 1) = a.ways k * ((a.h.seams[k]).m + 1) := by
  unfold Agn.ways
  rw [← List.take_append_getElem h, List.foldl_append]
  rfl
theorem Agn.ways_rng {a : Agn} (hv : a.h.Valid) : ∀ k, k ≤ a.h.seams.length → 1 ≤ a.ways k ∧ a.ways k ≤ 5 ^ k
  | 0, _ => by simp [Agn.ways]
  | k + 1, hk => by
    have hkc : k < a.h.seams.length := by omega
    obtain ⟨h1, h2⟩ := Agn.ways_rng hv k (by omega)
    rw [Agn.ways_step hkc]
    have h3 := (hv.sm a.h.seams[k] (List.getElem_mem hkc)).2.2
    obtain ⟨m, hm⟩ : ∃ m, m = (a.h.seams[k]).m + 1 := ⟨_, rfl⟩
    rw [← hm]
    have hm1 : 1 ≤ m ∧ m ≤ 5 := by omega
    refine ⟨?_, ?_⟩
    · have := Int.mul_le_mul h1 hm1.1 (by omega) (by omega)
      omega
    · have := Int.mul_le_mul h2 hm1.2 (by omega) (by omega)
      rw [Int.pow_succ]
      exact this
noncomputable def Agn.heavyB (a : Agn) (w : Int) : Bool := if a.longB then true else if a.Valid then decide (w < a.ways a.h.seams.length) else false
theorem Agn.heavy_small {a : Agn} {w : Int} (h : a.heavyB w = false) : a.Small := by
  unfold Agn.heavyB at h
  cases hl : a.longB
  · exact Agn.long_small hl
  · rw [hl] at h; simp at h

end Go.Cw
end

/- The laws of chapter 11: what is told is what the document tells. -/
section
set_option maxRecDepth 100000
set_option linter.unusedSimpArgs false
namespace Go.Cw
open Go Go.Proofs


end Go.Cw
end

/- How a ship that came back is read as an argument. -/
section
set_option maxRecDepth 100000
namespace Go.Cw
open Go Go.Proofs

theorem All2.five' {V W X Y Z : List AVal → Prop} {l : List (List AVal)} (h : All2 [V, W, X, Y, Z] l) : ∃ a b c d e, l = [a, b, c, d, e] ∧ V a ∧ W b ∧ X c ∧ Y d ∧ Z e := by
  match l, h with
  | [a, b, c, d, e], h => exact ⟨a, b, c, d, e, rfl, h.1, h.2.1, h.2.2.1, h.2.2.2.1, h.2.2.2.2.1⟩
section
variable {w : World} {μ : Mu}

theorem opens_int : Opens Pg w μ 3 fun av => ∃ n, (Lit.int .i64 n).wf = true ∧ av = [.int .i64 n] := Opens.int Tryz.underlying3 (by kernel_rfl)
theorem opens_bool : Opens Pg w μ 4 fun av => ∃ b, av = [.bool b] := Opens.bool Tryz.underlying4 (by kernel_rfl)
theorem opens_ints : Opens Pg w μ 26 fun av => ∃ l : List Int, av = [L l] := Opens.ints Tryz.underlying26 (by kernel_rfl) Tryz.underlying3 (by kernel_rfl)
theorem opens_span : Opens Pg w μ 36 fun av => ∃ p : Int × Int, av = [.int .i64 p.1, .int .i64 p.2] := by
  refine (Opens.struct (Vs := [_, _]) Tryz.underlying36 (by kernel_rfl) ⟨rfl, opens_int, by kernel_rfl, opens_int, trivial⟩).mono ?_
  rintro av ⟨ass, h, rfl⟩
  obtain ⟨a, b, rfl, ⟨n, _, rfl⟩, ⟨m, _, rfl⟩⟩ := h.two
  exact ⟨(n, m), rfl⟩
theorem opens_seam : Opens Pg w μ 67 fun av => ∃ a : Sm, av = a.c := by
  refine (Opens.struct (Vs := [_, _, _]) Tryz.underlying67 (by kernel_rfl) ⟨rfl, opens_int, by kernel_rfl, opens_int, by kernel_rfl, opens_int, trivial⟩).mono ?_
  rintro av ⟨ass, h, rfl⟩
  obtain ⟨a, b, c, rfl, ⟨n, _, rfl⟩, ⟨m, _, rfl⟩, ⟨k, _, rfl⟩⟩ := h.three
  exact ⟨⟨n, m, k⟩, rfl⟩
theorem opens_sounding : Opens Pg w μ 57 fun av => ∃ a : Sd, av = a.c := by
  refine (Opens.struct (Vs := [_, _, _]) Tryz.underlying57 (by kernel_rfl) ⟨rfl, opens_int, by kernel_rfl, opens_int, by kernel_rfl, opens_span, trivial⟩).mono ?_
  rintro av ⟨ass, h, rfl⟩
  obtain ⟨a, b, c, rfl, ⟨n, _, rfl⟩, ⟨m, _, rfl⟩, ⟨p, rfl⟩⟩ := h.three
  exact ⟨⟨n, m, p.1, p.2⟩, rfl⟩
theorem c67 : 0 < Pg.cellsOf 67 := by rw [show Pg.cellsOf 67 = 3 by kernel_rfl]; omega
theorem c57 : 0 < Pg.cellsOf 57 := by rw [show Pg.cellsOf 57 = 4 by kernel_rfl]; omega
theorem opens_hull : Opens Pg w μ 25 fun av => ∃ h : Hul, av = h.cells := by
  refine (Opens.struct (Vs := [_, _]) Tryz.underlying25 (by kernel_rfl) ⟨rfl, Opens.fl Tryz.underlying22 (by kernel_rfl) c67 opens_seam, by kernel_rfl, Opens.fl Tryz.underlying23 (by kernel_rfl) c57 opens_sounding, trivial⟩).mono ?_
  rintro av ⟨ass, h, rfl⟩
  obtain ⟨a, b, rfl, ⟨n, rfl⟩, ⟨m, rfl⟩⟩ := h.two
  exact ⟨⟨n, m⟩, rfl⟩
theorem opens_work : Opens Pg w μ 62 fun av => ∃ a : Wrk, av = wkC a := by
  refine (Opens.struct (Vs := [_, _, _]) Tryz.underlying62 (by kernel_rfl) ⟨rfl, opens_int, by kernel_rfl, opens_int, by kernel_rfl, opens_int, trivial⟩).mono ?_
  rintro av ⟨ass, h, rfl⟩
  obtain ⟨a, b, c, rfl, ⟨n, _, rfl⟩, ⟨m, _, rfl⟩, ⟨k, _, rfl⟩⟩ := h.three
  exact ⟨⟨n, m, k⟩, rfl⟩
theorem c62 : 0 < Pg.cellsOf 62 := by rw [show Pg.cellsOf 62 = 3 by kernel_rfl]; omega
theorem opens_again : Opens Pg w μ 29 fun av => ∃ a : Agn, av = a.cells := by
  refine (Opens.struct (Vs := [_, _, _, _, _]) Tryz.underlying29 (by kernel_rfl) ⟨rfl, opens_hull, by kernel_rfl, opens_ints, by kernel_rfl, opens_int, by kernel_rfl, Opens.fl Tryz.underlying27 (by kernel_rfl) c62 opens_work, by kernel_rfl, opens_int, trivial⟩).mono ?_
  rintro av ⟨ass, h, rfl⟩
  obtain ⟨a, b, c, d, e, rfl, ⟨n, rfl⟩, ⟨m, rfl⟩, ⟨k, _, rfl⟩, ⟨o, rfl⟩, ⟨q, _, rfl⟩⟩ := h.five'
  exact ⟨⟨n, m, k, o, q⟩, rfl⟩
theorem opens_u8 : Opens Pg w μ 5 fun av => ∃ n : Int, (0 ≤ n ∧ n ≤ 255) ∧ av = [.int .u8 n] :=
  (Opens.int Tryz.underlying5 (by kernel_rfl)).mono fun av ⟨n, h1, h2⟩ => ⟨n, bounds_u8 h1, h2⟩
end

theorem kids : Kids Pg (· < Pg.types.size) := kids_rows (by kernel_rfl) (by kernel_rfl)
theorem slices_full : ∀ t e, t < Pg.types.size → Pg.underlying t = some (.slice e) → 0 < Pg.cellsOf e := slices_full_of Pg (by kernel_rfl)
theorem ownKnobNone : ownKnob Pg.godebug = none := by kernel_rfl

end Go.Cw
end

/- The laws of chapter 11: spans, fathoms of a set. -/
section
set_option maxRecDepth 100000
set_option linter.unusedSimpArgs false
namespace Go.Cw
open Go Go.Proofs

theorem law11_inside_ok (n : Int) (s : Int × Int) : APure Pg fn_law11_inside [.int .i64 n, SP2 s] (.bool (decide (s.1 ≤ n ∧ n ≤ s.2))) := by
  refine law11_inside.pure (by simp) ?_
  simp [SP2]
  intro s3
  by_cases h1 : s.1 ≤ n
  · simp [h1]
    exact RetV.refl (by simp)
  · simp [h1]
    exact RetV.refl (by simp)
theorem law11_length_ok (a : Agn) (hv : a.Valid) (x : Int) (hx : 0 ≤ x ∧ x < 2 ^ 62) : APure Pg fn_law11_length [a.v, .int .i64 x] (.int .i64 (Ag.lenB a.F a.n (inS x))) := by
  have hn6 := hv.n6
  have hfn : a.f.length = a.n := rfl
  refine law11_length.pure (by simp) ?_
  simp
  intro s2
  refine Lp.intro (σ := Nat) (inv := fun k => k ≤ a.n) (vw := fun k => [(1, .int .i64 x), (4, .int .i64 (Ag.lenB a.F k (inS x))), (8, L a.f), (9, .int .i64 a.n), (10, .int .i64 k)]) (hp := fun _ => []) (ms := fun k => a.n - k) 0 (by omega) (by simp [Ag.lenB, hfn]) (by simp) ?_
  intro k hk J hJ
  by_cases hkc : k < a.n
  · have hkf : k < a.f.length := hkc
    obtain ⟨y, hy⟩ : ∃ y, a.f[k] = y := ⟨_, rfl⟩
    have hgf : a.f[k]? = some y := by rw [List.getElem?_eq_getElem hkf, hy]
    have hF : a.F k = y := by unfold Agn.F; rw [← ofL_at a.f hkf]; exact hy
    have hyb := hv.fa y (by rw [← hy]; exact List.getElem_mem hkf)
    have hb := Ag.lenB_bound (n := k) (p := inS x) (f := a.F) (M := 100) (fun i hi => Agn.F_in hv i (by omega)) (by omega)
    have hnn := Ag.lenB_nonneg (n := k) (p := inS x) (f := a.F) (fun i hi => (Agn.F_in hv i (by omega)).1)
    have hdv : 0 ≤ x / 2 ^ k := Int.ediv_nonneg hx.1 (by have := two_pow_pos k; omega)
    have hand := bitI_and1 hdv (by have := Int.ediv_le_self (2 ^ k) hx.1; omega)
    cases hq : inS x k with
    | false =>
      have hmod : ¬ x / 2 ^ k % 2 = 1 := by simpa [inS] using hq
      simp [hkc, hkf, hfn, hy, hgf, hand, hmod]
      (repeat first | refine And.intro (by omega) ?_ | refine And.intro (Fits.of (by omega) (by omega)) ?_)
      exact hJ.next (k + 1) (by omega) (by omega) (by simp [Ag.lenB, hq]) (by simp)
    | true =>
      have hmod : x / 2 ^ k % 2 = 1 := by simpa [inS] using hq
      simp [hkc, hkf, hfn, hy, hgf, hand, hmod]
      (repeat first | refine And.intro (by omega) ?_ | refine And.intro (Fits.of (by omega) (by omega)) ?_)
      exact hJ.next (k + 1) (by omega) (by omega) (by simp [Ag.lenB, hq, hF]) (by simp)
  obtain rfl : k = a.n := by omega
  simp
  refine hJ.exit ?_
  simp
  exact RetV.refl rfl
end Go.Cw
end

/- Plain reckoning on the sets that can leak: what is under promise, and what is not; whose it is. -/
section
set_option maxRecDepth 100000
set_option linter.unusedSimpArgs false
namespace Go.Cw
open Go Go.Proofs

namespace Agn
theorem wrap64 {x : Int} (h1 : -9223372036854775808 ≤ x) (h2 : x ≤ 9223372036854775807) : IntKind.i64.wrap x = x := by
  simp [IntKind.wrap, IntKind.signed, IntKind.bits]
  omega
variable {a : Agn}
theorem cut_and (hv : a.Valid) {s : Int} (hs : 0 ≤ s ∧ s < 2 ^ a.n) (q : Nat → Bool) : bitI .and .i64 s (bits q a.n) = bits (fun i => inS s i && q i) a.n := by
  have hn6 := hv.n6
  have h := bitsI_and (inS s) q (show a.n ≤ 60 by omega)
  rwa [show bits (inS s) a.n = s from bits_of hs.1 hs.2] at h
theorem cut_not (hv : a.Valid) {s : Int} (hs : 0 ≤ s ∧ s < 2 ^ a.n) (q : Nat → Bool) : bitI .andNot .i64 s (bits q a.n) = bits (fun i => inS s i && !q i) a.n := by
  have hn6 := hv.n6
  have h := Ag.bitsI_andNot (inS s) q (show a.n ≤ 60 by omega)
  rwa [show bits (inS s) a.n = s from bits_of hs.1 hs.2] at h
theorem len_bits (s : Int) (q : Nat → Bool) : Ag.lenB a.F a.n (inS (bits (fun i => inS s i && q i) a.n)) = Ag.payS a.F a.n q s :=
  Ag.lenB_congr fun i hi => inS_bits _ hi
theorem bits_61 (hv : a.Valid) (p : Nat → Bool) : 0 ≤ bits p a.n ∧ bits p a.n < 2 ^ 62 := by
  have hn6 := hv.n6
  exact bits_fits p (by omega)
theorem span_has (hS : a.S ≠ []) (u : Nat → Bool) {s : Int} (hs : s ∈ a.S) : (a.spanP u).1 ≤ Ag.payS a.F a.n u s ∧ Ag.payS a.F a.n u s ≤ (a.spanP u).2 := (Ag.jn_spec hS).1 s hs
theorem span_lo (hS : a.S ≠ []) (u : Nat → Bool) : ∃ s ∈ a.S, Ag.payS a.F a.n u s = (a.spanP u).1 := (Ag.jn_spec hS).2.1
theorem span_hi (hS : a.S ≠ []) (u : Nat → Bool) : ∃ s ∈ a.S, Ag.payS a.F a.n u s = (a.spanP u).2 := (Ag.jn_spec hS).2.2
theorem pay_rng (hv : a.Valid) (u : Nat → Bool) (s : Int) : 0 ≤ Ag.payS a.F a.n u s ∧ Ag.payS a.F a.n u s ≤ 120 := by
  have hn6 := hv.n6
  have h1 := Ag.lenB_nonneg (n := a.n) (p := fun i => inS s i && u i) (f := a.F) fun i hi => by have := hv.fat hi; omega
  have h2 := Ag.lenB_bound (n := a.n) (p := fun i => inS s i && u i) (f := a.F) (M := 20) (fun i hi => by have := hv.fat hi; omega) (by omega)
  unfold Ag.payS
  omega
theorem own_le (hv : a.Valid) (g s : Int) : Ag.payS a.F a.n (a.ownB g) s ≤ Ag.payS a.F a.n (Ag.pr a.w a.t) s :=
  Ag.pay_mono (fun i hi => by have := hv.fat hi; omega) (fun i _ h => by unfold ownB at h; rw [Bool.and_eq_true] at h; exact h.1) s
theorem own_free (hv : a.Valid) (hS : a.S ≠ []) (g : Int) : (a.spanP (a.ownB g)).1 ≤ (a.spanP (Ag.pr a.w a.t)).2 ∧ (a.spanP (a.ownB g)).2 ≤ (a.spanP (Ag.pr a.w a.t)).2 := by
  obtain ⟨s, hs, e⟩ := span_hi hS (a.ownB g)
  obtain ⟨t, ht, e2⟩ := span_lo hS (a.ownB g)
  have h1 := own_le hv g s
  have h2 := span_has hS (Ag.pr a.w a.t) hs
  have h3 := own_le hv g t
  have h4 := span_has hS (Ag.pr a.w a.t) ht
  omega
theorem own_sum (hv : a.Valid) (s : Int) : Ag.payS a.F a.n (Ag.pr a.w a.t) s = Ag.payS a.F a.n (a.ownB 0) s + Ag.payS a.F a.n (a.ownB 1) s + Ag.payS a.F a.n (a.ownB 2) s + Ag.payS a.F a.n (a.ownB 3) s :=
  Ag.gangs_sum (fun w hw => by have := (hv.wo w hw).2.1; omega) s
def ownK (a : Agn) (g : Int) (k : Nat) : Int := bits (fun i => decide (i < k) && a.ownB g i) a.n
theorem ownK_zero (g : Int) : a.ownK g 0 = 0 := bits_zero.2 fun i _ => by simp
theorem ownK_all (g : Int) : a.ownK g a.n = bits (a.ownB g) a.n := bits_congr fun i hi => by simp [hi]
theorem ownK_no {g : Int} {k : Nat} (h : a.ownB g k = false) : a.ownK g (k + 1) = a.ownK g k := bits_congr fun i _ => by
  by_cases e : i = k
  · subst e; simp [h]
  · have : decide (i < k + 1) = decide (i < k) := decide_eq_decide.2 (by omega)
    rw [this]
theorem ownK_yes (hv : a.Valid) {g : Int} {k : Nat} (hk : k < a.n) (h : a.ownB g k = true) : bitI .or .i64 (a.ownK g k) (2 ^ k) = a.ownK g (k + 1) := by
  have hn6 := hv.n6
  unfold ownK
  rw [← bits_one hk, bitsI_or _ _ (by omega)]
  refine bits_congr fun i _ => ?_
  by_cases e : i = k
  · subst e; simp [h]
  · have : decide (i < k + 1) = decide (i < k) := decide_eq_decide.2 (by omega)
    rw [this]
    simp [e]
theorem under_bit (hv : a.Valid) {i : Nat} (hi : i < a.n) (d : Int) : bitI .and .i64 (a.under d / 2 ^ i) 1 = if Ag.pr a.w d i then 1 else 0 := by
  have hn6 := hv.n6
  exact bits_and1 _ (by omega) hi
noncomputable def gsum (a : Agn) (s : Int) : Nat → Int
  | 0 => 0
  | k + 1 => a.gsum s k + Ag.payS a.F a.n (a.ownB k) s
theorem gsum_all (hv : a.Valid) (s : Int) : a.gsum s 4 = Ag.payS a.F a.n (Ag.pr a.w a.t) s := by
  rw [own_sum hv]
  simp only [gsum]
  have e : (0 : Int) + Ag.payS a.F a.n (a.ownB ((0 : Nat) : Int)) s = Ag.payS a.F a.n (a.ownB 0) s := by rw [Int.zero_add]; rfl
  rw [e]
  rfl
theorem gsum_rng (hv : a.Valid) (s : Int) (k : Nat) : 0 ≤ a.gsum s k ∧ a.gsum s k ≤ k * 120 := by
  induction k with
  | zero => simp [gsum]
  | succ k ih =>
    have := pay_rng hv (a.ownB k) s
    simp only [gsum]
    omega
theorem gangV_ok (he : a.errL true = 0) {g : Int} (hg : GangOk g) : a.gangV g = .tup [SP2 (a.spanP (a.ownB g)), .int .i64 0] := by
  simp [gangV, gangP, hg, he]
theorem gangV_no (hv : a.Valid) {g : Int} (hg : ¬ GangOk g) : a.gangV g = .tup [SP2 (0, 0), .int .i64 2] := by
  have : a.errL false = 2 := by simp [errL, hv]
  simp [gangV, gangP, hg, this]
end Agn
end Go.Cw
end

/- The law AgainEnds, walked. -/
section
set_option maxRecDepth 100000
set_option linter.unusedSimpArgs false
namespace Go.Cw
open Go Go.Proofs

namespace Agn
variable {a : Agn}
noncomputable def outC (a : Agn) (s : Int) : Int := a.c * Ag.payS a.F a.n (fun i => !Ag.pr a.w a.t i) s
noncomputable def freeC (a : Agn) (s : Int) : Int := Ag.payS a.F a.n (Ag.pr a.w a.t) s
noncomputable def ownC (a : Agn) (g s : Int) : Int := Ag.payS a.F a.n (a.ownB g) s
noncomputable def endB (a : Agn) (g : Int) (s : Int) : Nat → Bool
  | 0 => decide (a.outC s = a.paysP.1)
  | 1 => decide (a.outC s = a.paysP.2)
  | 2 => decide (a.freeC s = a.nothP.1)
  | 3 => decide (a.freeC s = a.nothP.2)
  | 4 => decide (a.ownC g s = (a.gangP g).1)
  | _ => decide (a.ownC g s = (a.gangP g).2)
noncomputable def fndB (a : Agn) (g : Int) (k o : Nat) : Bool := (a.S.take k).any fun s => a.endB g s o
theorem fnd_step {g : Int} {k : Nat} (hk : k < a.S.length) (o : Nat) : a.fndB g (k + 1) o = (a.fndB g k o || a.endB g a.S[k] o) := by
  unfold fndB
  rw [← List.take_append_getElem hk, List.any_append]
  simp
theorem fnd_zero {g : Int} (o : Nat) : a.fndB g 0 o = false := by simp [fndB]
noncomputable def midB (a : Agn) (g : Int) (k : Nat) (s : Int) (o i : Nat) : Bool := if i < o then a.fndB g k i || a.endB g s i else a.fndB g k i
theorem out_end (he : a.errL true = 0) : (∃ s ∈ a.S, a.outC s = a.paysP.1) ∧ ∃ s ∈ a.S, a.outC s = a.paysP.2 := by
  obtain ⟨_, _, hS⟩ := Agn.errL_zero.1 he
  obtain ⟨s, hs, e⟩ := span_lo hS (fun i => !Ag.pr a.w a.t i)
  obtain ⟨t, ht, f⟩ := span_hi hS (fun i => !Ag.pr a.w a.t i)
  refine ⟨⟨s, hs, ?_⟩, t, ht, ?_⟩
  · simp only [outC, paysP, if_pos he, e, Int.mul_comm]
  · simp only [outC, paysP, if_pos he, f, Int.mul_comm]
theorem free_end (he : a.errL true = 0) : (∃ s ∈ a.S, a.freeC s = a.nothP.1) ∧ ∃ s ∈ a.S, a.freeC s = a.nothP.2 := by
  obtain ⟨_, _, hS⟩ := Agn.errL_zero.1 he
  obtain ⟨s, hs, e⟩ := span_lo hS (Ag.pr a.w a.t)
  obtain ⟨t, ht, f⟩ := span_hi hS (Ag.pr a.w a.t)
  exact ⟨⟨s, hs, by simp only [freeC, nothP, if_pos he, e]⟩, t, ht, by simp only [freeC, nothP, if_pos he, f]⟩
theorem gangP_eq (he : a.errL true = 0) {g : Int} (hg : GangOk g) : a.gangP g = a.spanP (a.ownB g) := by
  simp [gangP, hg, he]
theorem own_end (he : a.errL true = 0) {g : Int} (hg : GangOk g) : (∃ s ∈ a.S, a.ownC g s = (a.gangP g).1) ∧ ∃ s ∈ a.S, a.ownC g s = (a.gangP g).2 := by
  obtain ⟨_, _, hS⟩ := Agn.errL_zero.1 he
  obtain ⟨s, hs, e⟩ := span_lo hS (a.ownB g)
  obtain ⟨t, ht, f⟩ := span_hi hS (a.ownB g)
  rw [gangP_eq he hg]
  exact ⟨⟨s, hs, e⟩, t, ht, f⟩
theorem fnd_all (he : a.errL true = 0) {g : Int} (hg : GangOk g) (o : Nat) : a.fndB g a.S.length o = true := by
  unfold fndB
  rw [List.take_length, List.any_eq_true]
  obtain ⟨⟨s0, h0, e0⟩, s1, h1, e1⟩ := out_end he
  obtain ⟨⟨s2, h2, e2⟩, s3, h3, e3⟩ := free_end he
  obtain ⟨⟨s4, h4, e4⟩, s5, h5, e5⟩ := own_end he hg
  match o with
  | 0 => exact ⟨s0, h0, decide_eq_true e0⟩
  | 1 => exact ⟨s1, h1, decide_eq_true e1⟩
  | 2 => exact ⟨s2, h2, decide_eq_true e2⟩
  | 3 => exact ⟨s3, h3, decide_eq_true e3⟩
  | 4 => exact ⟨s4, h4, decide_eq_true e4⟩
  | _ + 5 => exact ⟨s5, h5, decide_eq_true e5⟩
theorem three_in (hv : a.Valid) (he : a.errL true = 0) {g : Int} (hg : GangOk g) {s : Int} (hs : s ∈ a.S) : (a.paysP.1 ≤ a.outC s ∧ a.outC s ≤ a.paysP.2) ∧ (a.nothP.1 ≤ a.freeC s ∧ a.freeC s ≤ a.nothP.2) ∧ ((a.gangP g).1 ≤ a.ownC g s ∧ a.ownC g s ≤ (a.gangP g).2) := by
  obtain ⟨_, _, hS⟩ := Agn.errL_zero.1 he
  have hco := hv.co
  have h1 := span_has hS (fun i => !Ag.pr a.w a.t i) hs
  have h2 := span_has hS (Ag.pr a.w a.t) hs
  have h3 := span_has hS (a.ownB g) hs
  rw [gangP_eq he hg]
  simp only [outC, freeC, ownC, paysP, nothP, if_pos he]
  refine ⟨⟨?_, ?_⟩, h2, h3⟩
  · rw [Int.mul_comm]; exact Int.mul_le_mul_of_nonneg_left h1.1 hco.1
  · rw [Int.mul_comm (a.spanP _).2]; exact Int.mul_le_mul_of_nonneg_left h1.2 hco.1
theorem own_some (hv : a.Valid) {s : Int} (hs : s ∈ a.S) (g : Int) : (bitI .and .i64 s (bits (a.ownB g) a.n) = 0) = (a.ownC g s = 0) := by
  rw [cut_and hv (S_in hv s hs)]
  have h1 := Ag.pay_pos (f := a.F) (n := a.n) (u := a.ownB g) (s := s) fun i hi => (hv.fat hi).1
  have h2 := (pay_rng hv (a.ownB g) s).1
  refine propext ⟨fun h => ?_, fun h => ?_⟩
  · refine Classical.byContradiction fun hc => ?_
    obtain ⟨i, hi, a1, a2⟩ := h1.1 (by unfold ownC at hc; omega)
    have := bits_zero.1 h i hi
    simp [a1, a2] at this
  · refine bits_zero.2 fun i hi => ?_
    cases hc : inS s i && a.ownB g i
    · rfl
    · rw [Bool.and_eq_true] at hc
      have := h1.2 ⟨i, hi, hc.1, hc.2⟩
      unfold ownC at h
      omega
noncomputable def isK (a : Agn) (k : Nat) : Bool := (a.S.take k).any (Ag.yesS a.n (Ag.pr a.w a.t))
noncomputable def notK (a : Agn) (k : Nat) : Bool := (a.S.take k).any fun s => !Ag.yesS a.n (Ag.pr a.w a.t) s
noncomputable def alwK (a : Agn) (g : Int) (k : Nat) : Bool := (a.S.take k).all fun s => decide (a.ownC g s ≠ 0)
noncomputable def somK (a : Agn) (g : Int) (k : Nat) : Bool := (a.S.take k).any fun s => decide (a.ownC g s ≠ 0)
theorem four_step {g : Int} {k : Nat} (hk : k < a.S.length) : a.isK (k + 1) = (a.isK k || Ag.yesS a.n (Ag.pr a.w a.t) a.S[k]) ∧ a.notK (k + 1) = (a.notK k || !Ag.yesS a.n (Ag.pr a.w a.t) a.S[k]) ∧
    a.alwK g (k + 1) = (a.alwK g k && decide (a.ownC g a.S[k] ≠ 0)) ∧ a.somK g (k + 1) = (a.somK g k || decide (a.ownC g a.S[k] ≠ 0)) := by
  have e : a.S.take (k + 1) = a.S.take k ++ [a.S[k]] := (List.take_append_getElem hk).symm
  unfold isK notK alwK somK
  rw [e]
  simp only [List.any_append, List.all_append, List.any_cons, List.any_nil, List.all_cons, List.all_nil, Bool.or_false, Bool.and_true]
  exact ⟨trivial, trivial, trivial, trivial⟩
theorem is_all (hS : a.S ≠ []) : (a.yardN = 0) = (a.isK a.S.length = false) := by
  unfold isK yardN
  rw [List.take_length, List.any_eq_false]
  refine propext ((Ag.told_zero hS).trans ⟨fun h s hs => by simp [h s hs], fun h s hs => by simpa using h s hs⟩)
theorem not_all (hS : a.S ≠ []) : (a.yardN = 2) = (a.notK a.S.length = false) := by
  unfold notK yardN
  rw [List.take_length, List.any_eq_false]
  refine propext ((Ag.told_two hS).trans ⟨fun h s hs => by simp [h s hs], fun h s hs => by simpa using h s hs⟩)
theorem alw_all (hv : a.Valid) (he : a.errL true = 0) (g : Nat) : a.alwK g a.S.length = a.surelyB g := by
  obtain ⟨_, _, hS⟩ := Agn.errL_zero.1 he
  unfold alwK surelyB
  rw [List.take_length, Bool.eq_iff_iff, List.all_eq_true, decide_eq_true_eq]
  constructor
  · intro h
    obtain ⟨s, hs, e⟩ := span_lo hS (a.ownB g)
    have h1 : Ag.payS a.F a.n (a.ownB g) s ≠ 0 := of_decide_eq_true (h s hs)
    have h2 := (pay_rng hv (a.ownB g) s).1
    omega
  · intro h s hs
    have h1 := span_has hS (a.ownB g) hs
    refine decide_eq_true ?_
    show Ag.payS a.F a.n (a.ownB g) s ≠ 0
    omega
theorem som_all (hv : a.Valid) (he : a.errL true = 0) (g : Nat) : a.somK g a.S.length = a.perhapsB g := by
  obtain ⟨_, _, hS⟩ := Agn.errL_zero.1 he
  unfold somK perhapsB
  rw [List.take_length, Bool.eq_iff_iff, List.any_eq_true, decide_eq_true_eq]
  constructor
  · rintro ⟨s, hs, h⟩
    have h1 := span_has hS (a.ownB g) hs
    have h2 := (pay_rng hv (a.ownB g) s).1
    have h3 : Ag.payS a.F a.n (a.ownB g) s ≠ 0 := of_decide_eq_true h
    omega
  · intro h
    obtain ⟨s, hs, e⟩ := span_hi hS (a.ownB g)
    refine ⟨s, hs, decide_eq_true ?_⟩
    show Ag.payS a.F a.n (a.ownB g) s ≠ 0
    omega
end Agn
theorem law11_AgainEnds_four (a : Agn) (g k : Nat) (s : Int) (s2 s8 s10 s12 s23 : Nat) (hk : (k : Int) ≤ 100000) (h0 : (bitI .and .i64 s (bits (a.ownB g) a.n) = 0) = (a.ownC g s = 0)) (Y : Bool) (J : Post) (tm : TM) (h : Heap)
    (hvw : Vw [(2, .ptr 2 0 s2), (5, L a.S), (7, .int .i64 g), (8, .ptr 8 0 s8), (10, .ptr 10 0 s10), (12, .ptr 12 0 s12), (14, .int .i64 a.yardN), (16, .int .i64 (bits a.surelyB 4)), (17, .int .i64 (bits a.perhapsB 4)), (19, .int .i64 (a.under a.t)), (21, .int .i64 (bits (a.ownB g) a.n)), (23, .ptr 23 0 s23), (165, L a.S), (166, .int .i64 a.S.length), (24, .bool (a.isK k)), (25, .bool (a.notK k)), (26, .bool (a.alwK g k)), (27, .bool (a.somK g k)), (167, .int .i64 (k : Int)), (29, .int .i64 s), (35, .bool Y)] tm)
    (hh : Hw [(2, .row a.cells s2), (8, .row [.int .i64 a.paysP.1, .int .i64 a.paysP.2] s8), (10, .row [.int .i64 a.nothP.1, .int .i64 a.nothP.2] s10), (12, .row [.int .i64 (a.gangP g).1, .int .i64 (a.gangP g).2] s12), (23, .row [.bool (a.fndB g k 0 || a.endB g s 0), .bool (a.fndB g k 1 || a.endB g s 1), .bool (a.fndB g k 2 || a.endB g s 2), .bool (a.fndB g k 3 || a.endB g s 3), .bool (a.fndB g k 4 || a.endB g s 4), .bool (a.fndB g k 5 || a.endB g s 5)] s23)] h)
    (next : ∀ tm h', Vw [(2, .ptr 2 0 s2), (5, L a.S), (7, .int .i64 g), (8, .ptr 8 0 s8), (10, .ptr 10 0 s10), (12, .ptr 12 0 s12), (14, .int .i64 a.yardN), (16, .int .i64 (bits a.surelyB 4)), (17, .int .i64 (bits a.perhapsB 4)), (19, .int .i64 (a.under a.t)), (21, .int .i64 (bits (a.ownB g) a.n)), (23, .ptr 23 0 s23), (24, .bool (a.isK k || Y)), (25, .bool (a.notK k || !Y)), (26, .bool (a.alwK g k && decide (a.ownC g s ≠ 0))), (27, .bool (a.somK g k || decide (a.ownC g s ≠ 0))), (165, L a.S), (166, .int .i64 a.S.length), (167, .int .i64 ((k + 1 : Nat) : Int))] tm → Hw [(2, .row a.cells s2), (8, .row [.int .i64 a.paysP.1, .int .i64 a.paysP.2] s8), (10, .row [.int .i64 a.nothP.1, .int .i64 a.nothP.2] s10), (12, .row [.int .i64 (a.gangP g).1, .int .i64 (a.gangP g).2] s12), (23, .row [.bool (a.fndB g k 0 || a.endB g s 0), .bool (a.fndB g k 1 || a.endB g s 1), .bool (a.fndB g k 2 || a.endB g s 2), .bool (a.fndB g k 3 || a.endB g s 3), .bool (a.fndB g k 4 || a.endB g s 4), .bool (a.fndB g k 5 || a.endB g s 5)] s23)] h' → J .normal tm [] h') :
    AWops ⟨Pg, 0, 315, false, []⟩ (InB 3 (Then (AW ⟨Pg, 0, 315, false, []⟩ (.ops law11_AgainEnds.r37) J) J)) (law11_AgainEnds.r36 ()) (InB 3 (Then (AW ⟨Pg, 0, 315, false, []⟩ (.ops law11_AgainEnds.r37) J) J) .normal) tm [] h := by
  simp [Vw, Hw] at hvw hh
  cases e1 : a.isK k <;> cases e2 : a.notK k <;> cases e3 : a.alwK g k <;> cases e4 : a.somK g k
  all_goals
    simp only [e1, e2, e3, e4] at next hvw
    simp [hvw, h0]
    refine ⟨Fits.of (by omega) (by omega), ?_⟩
    exact next _ _ (by simp [Vw, hvw]) (by simp [Hw, hh])
theorem law11_AgainEnds_round (a : Agn) (hs : a.Small) (hv : a.Valid) (he : a.errL true = 0) (g : Nat) (hg : g < 4) (k : Nat) (hk : k < a.S.length) (s2 s8 s10 s12 s23 : Nat) (J : Post)
    (next : ∀ tm h', Vw [(2, .ptr 2 0 s2), (5, L a.S), (7, .int .i64 g), (8, .ptr 8 0 s8), (10, .ptr 10 0 s10), (12, .ptr 12 0 s12), (14, .int .i64 a.yardN), (16, .int .i64 (bits a.surelyB 4)), (17, .int .i64 (bits a.perhapsB 4)), (19, .int .i64 (a.under a.t)), (21, .int .i64 (bits (a.ownB g) a.n)), (23, .ptr 23 0 s23), (24, .bool (a.isK (k + 1))), (25, .bool (a.notK (k + 1))), (26, .bool (a.alwK g (k + 1))), (27, .bool (a.somK g (k + 1))), (165, L a.S), (166, .int .i64 a.S.length), (167, .int .i64 (((k + 1) : Nat) : Int))] tm → Hw [(2, .row a.cells s2), (8, .row [.int .i64 a.paysP.1, .int .i64 a.paysP.2] s8), (10, .row [.int .i64 a.nothP.1, .int .i64 a.nothP.2] s10), (12, .row [.int .i64 (a.gangP g).1, .int .i64 (a.gangP g).2] s12), (23, .row [.bool (a.fndB g (k + 1) 0), .bool (a.fndB g (k + 1) 1), .bool (a.fndB g (k + 1) 2), .bool (a.fndB g (k + 1) 3), .bool (a.fndB g (k + 1) 4), .bool (a.fndB g (k + 1) 5)] s23)] h' → J .normal tm [] h') :
    AW ⟨Pg, 0, 315, false, []⟩ (.seq (.ops law11_AgainEnds.r25) (.seq (.cond (.t 168) .skip (.exit 2)) (.seq (.block 3 (.seq (.ops law11_AgainEnds.r26) (.seq (.ops law11_AgainEnds.r27) (.seq (.seq (.ops law11_AgainEnds.r28) (.block 4 (.loop (.seq (.ops law11_AgainEnds.r29) (.seq (.cond (.t 216) .skip (.exit 4)) (.seq (.block 5 (.seq (.ops law11_AgainEnds.r30) (.ops law11_AgainEnds.r31))) (.ops law11_AgainEnds.r32))))))) (.seq (.seq (.ops law11_AgainEnds.r33) (.cond (.t 244) (.seq (.ops law11_AgainEnds.r34) .ret) .skip)) (.seq (.ops law11_AgainEnds.r35) (.ops law11_AgainEnds.r36))))))) (.ops law11_AgainEnds.r37)))) J
      (tmV [(2, .ptr 2 0 s2), (5, L a.S), (7, .int .i64 g), (8, .ptr 8 0 s8), (10, .ptr 10 0 s10), (12, .ptr 12 0 s12), (14, .int .i64 a.yardN), (16, .int .i64 (bits a.surelyB 4)), (17, .int .i64 (bits a.perhapsB 4)), (19, .int .i64 (a.under a.t)), (21, .int .i64 (bits (a.ownB g) a.n)), (23, .ptr 23 0 s23), (24, .bool (a.isK k)), (25, .bool (a.notK k)), (26, .bool (a.alwK g k)), (27, .bool (a.somK g k)), (165, L a.S), (166, .int .i64 a.S.length), (167, .int .i64 ((k : Nat) : Int))]) [] (hpV [(2, .row a.cells s2), (8, .row [.int .i64 a.paysP.1, .int .i64 a.paysP.2] s8), (10, .row [.int .i64 a.nothP.1, .int .i64 a.nothP.2] s10), (12, .row [.int .i64 (a.gangP g).1, .int .i64 (a.gangP g).2] s12), (23, .row [.bool (a.fndB g k 0), .bool (a.fndB g k 1), .bool (a.fndB g k 2), .bool (a.fndB g k 3), .bool (a.fndB g k 4), .bool (a.fndB g k 5)] s23)]) := by
  have hn6 := hv.n6
  have hgk : Agn.GangOk (g : Int) := ⟨by omega, by omega⟩
  obtain ⟨_, _, hS⟩ := Agn.errL_zero.1 he
  have hSl := Agn.S_len hv
  obtain ⟨s, hse⟩ : ∃ s, a.S[k] = s := ⟨_, rfl⟩
  have hsS : s ∈ a.S := by rw [← hse]; exact List.getElem_mem hk
  have hsg : a.S[k]? = some s := by rw [List.getElem?_eq_getElem hk, hse]
  have hsr := Agn.S_in hv s hsS
  have hcn : bitI .andNot .i64 s (a.under a.t) = bits (fun i => inS s i && !Ag.pr a.w a.t i) a.n := Agn.cut_not hv hsr _
  have hcp : bitI .and .i64 s (a.under a.t) = bits (fun i => inS s i && Ag.pr a.w a.t i) a.n := Agn.cut_and hv hsr _
  have hco : bitI .and .i64 s (bits (a.ownB g) a.n) = bits (fun i => inS s i && a.ownB g i) a.n := Agn.cut_and hv hsr _
  have cN := law11_length_ok a hv _ (Agn.bits_61 hv fun i => inS s i && !Ag.pr a.w a.t i)
  have cP := law11_length_ok a hv _ (Agn.bits_61 hv fun i => inS s i && Ag.pr a.w a.t i)
  have cO := law11_length_ok a hv _ (Agn.bits_61 hv fun i => inS s i && a.ownB g i)
  rw [Agn.len_bits] at cN cP cO
  simp only [Agn.v_agg] at cN cP cO
  have b1 := Agn.pay_rng hv (fun i => !Ag.pr a.w a.t i) s
  have b2 := Agn.pay_rng hv (Ag.pr a.w a.t) s
  have b3 := Agn.pay_rng hv (a.ownB g) s
  have hcc := hv.co
  have b4 : 0 ≤ a.outC s := Int.mul_nonneg hcc.1 b1.1
  have b5 : a.outC s ≤ 100 * 120 := Int.mul_le_mul hcc.2 b1.2 b1.1 (by omega)
  obtain ⟨i1, i2, i3⟩ := Agn.three_in hv he hgk hsS
  have cI1 := law11_inside_ok (a.outC s) a.paysP
  have cI2 := law11_inside_ok (a.freeC s) a.nothP
  have cI3 := law11_inside_ok (a.ownC g s) (a.gangP g)
  have hsome := Agn.own_some hv hsS (g : Int)
  obtain ⟨f1, f2, f3, f4⟩ := Agn.four_step (g := (g : Int)) hk
  have hfs := Agn.fnd_step (g := (g : Int)) hk
  rw [hse] at f1 f2 f3 f4 hfs
  rw [f1, f2, f3, f4] at next
  simp only [hfs] at next
  simp [hk, hse, hsg, hcn, hcp, hco, Agn.cells]
  refine PCallK.intro (PInv.func cN) ?_
  simp
  rw [show a.c * Ag.payS a.F a.n (fun i => !Ag.pr a.w a.t i) s = a.outC s from rfl]
  refine ⟨Fits.of (by omega) (by omega), ?_⟩
  refine PCallK.intro (PInv.func cP) ?_
  simp [hcp, hco]
  refine PCallK.intro (PInv.func cO) ?_
  simp
  intro s213
  have hmid : ∀ o i, a.midB g k s o i = if i < o then a.fndB g k i || a.endB g s i else a.fndB g k i := fun _ _ => rfl
  refine Lp.intro (σ := Nat) (inv := fun o => o ≤ 6) (vw := fun o => [(2, .ptr 2 0 s2), (5, L a.S), (7, .int .i64 g), (8, .ptr 8 0 s8), (10, .ptr 10 0 s10), (12, .ptr 12 0 s12), (14, .int .i64 a.yardN), (16, .int .i64 (bits a.surelyB 4)), (17, .int .i64 (bits a.perhapsB 4)), (19, .int .i64 (a.under a.t)), (21, .int .i64 (bits (a.ownB g) a.n)), (23, .ptr 23 0 s23), (24, .bool (a.isK k)), (25, .bool (a.notK k)), (26, .bool (a.alwK g k)), (27, .bool (a.somK g k)), (165, L a.S), (166, .int .i64 a.S.length), (167, .int .i64 k), (29, .int .i64 s), (30, .int .i64 (a.outC s)), (31, .int .i64 (a.freeC s)), (32, .int .i64 (a.ownC g s)), (213, .sl 213 0 (s213+1) 6 (.ex 6)), (214, .int .i64 6), (215, .int .i64 (o : Nat))]) (hp := fun o => [(2, .row a.cells s2), (8, .row [.int .i64 a.paysP.1, .int .i64 a.paysP.2] s8), (10, .row [.int .i64 a.nothP.1, .int .i64 a.nothP.2] s10), (12, .row [.int .i64 (a.gangP g).1, .int .i64 (a.gangP g).2] s12), (23, .row [.bool (a.midB g k s o 0), .bool (a.midB g k s o 1), .bool (a.midB g k s o 2), .bool (a.midB g k s o 3), .bool (a.midB g k s o 4), .bool (a.midB g k s o 5)] s23), (213, .row [.bool (a.endB g s 0), .bool (a.endB g s 1), .bool (a.endB g s 2), .bool (a.endB g s 3), .bool (a.endB g s 4), .bool (a.endB g s 5)] (s213+1))]) (ms := fun o => 6 - o) 0 (by omega) (by simp; exact ⟨rfl, rfl⟩) (by simp [Agn.cells, hmid]; exact ⟨rfl, rfl, rfl, rfl, rfl, rfl⟩) ?_
  intro o ho J2 hJ2
  by_cases hoc : o < 6
  · rcases (by omega : o = 0 ∨ o = 1 ∨ o = 2 ∨ o = 3 ∨ o = 4 ∨ o = 5) with rfl | rfl | rfl | rfl | rfl | rfl
    · cases hf : a.fndB g k 0
      all_goals
        simp [hmid, hf]
        (repeat first | refine And.intro (by omega) ?_ | refine And.intro (Fits.of (by omega) (by omega)) ?_)
        exact hJ2.next 1 (by omega) (by omega) (by simp) (by simp [hmid, hf])
    · cases hf : a.fndB g k 1
      all_goals
        simp [hmid, hf]
        (repeat first | refine And.intro (by omega) ?_ | refine And.intro (Fits.of (by omega) (by omega)) ?_)
        exact hJ2.next 2 (by omega) (by omega) (by simp) (by simp [hmid, hf])
    · cases hf : a.fndB g k 2
      all_goals
        simp [hmid, hf]
        (repeat first | refine And.intro (by omega) ?_ | refine And.intro (Fits.of (by omega) (by omega)) ?_)
        exact hJ2.next 3 (by omega) (by omega) (by simp) (by simp [hmid, hf])
    · cases hf : a.fndB g k 3
      all_goals
        simp [hmid, hf]
        (repeat first | refine And.intro (by omega) ?_ | refine And.intro (Fits.of (by omega) (by omega)) ?_)
        exact hJ2.next 4 (by omega) (by omega) (by simp) (by simp [hmid, hf])
    · cases hf : a.fndB g k 4
      all_goals
        simp [hmid, hf]
        (repeat first | refine And.intro (by omega) ?_ | refine And.intro (Fits.of (by omega) (by omega)) ?_)
        exact hJ2.next 5 (by omega) (by omega) (by simp) (by simp [hmid, hf])
    · cases hf : a.fndB g k 5
      all_goals
        simp [hmid, hf]
        (repeat first | refine And.intro (by omega) ?_ | refine And.intro (Fits.of (by omega) (by omega)) ?_)
        exact hJ2.next 6 (by omega) (by omega) (by simp) (by simp [hmid, hf])
  obtain rfl : o = 6 := by omega
  simp
  refine hJ2.exit ?_
  simp
  refine PCallK.intro (PInv.func cI1) ?_
  simp [i1]
  refine PCallK.intro (PInv.func cI2) ?_
  simp [i2]
  refine PCallK.intro (PInv.func cI3) ?_
  simp [i3]
  have hyn := Ag.andNot_yes hn6 (Ag.pr a.w a.t) hsr
  rw [show bits (Ag.pr a.w a.t) a.n = a.under a.t from rfl] at hyn
  have hmd : ∀ i, i < 6 → a.midB g k s 6 i = (a.fndB g k i || a.endB g s i) := fun i hi => by rw [hmid, if_pos hi]
  obtain ⟨Y, hY⟩ : ∃ Y, Ag.yesS a.n (Ag.pr a.w a.t) s = Y := ⟨_, rfl⟩
  rw [hY] at hyn next
  have hcs : ((s = 0) = True ∧ (bitI .andNot .i64 s (a.under a.t) = 0) = True ∧ Y = false) ∨ ((s = 0) = True ∧ (bitI .andNot .i64 s (a.under a.t) = 0) = False ∧ Y = false) ∨ ((s = 0) = False ∧ (bitI .andNot .i64 s (a.under a.t) = 0) = True ∧ Y = true) ∨ ((s = 0) = False ∧ (bitI .andNot .i64 s (a.under a.t) = 0) = False ∧ Y = false) := by
    by_cases c0 : s = 0
    · have h1 : Y = false := by rw [← hyn, decide_eq_false (fun h => h c0)]; rfl
      by_cases c1 : bitI .andNot .i64 s (a.under a.t) = 0
      · exact .inl ⟨eq_true c0, eq_true c1, h1⟩
      · exact .inr (.inl ⟨eq_true c0, eq_false c1, h1⟩)
    · by_cases c1 : bitI .andNot .i64 s (a.under a.t) = 0
      · exact .inr (.inr (.inl ⟨eq_false c0, eq_true c1, by rw [← hyn, decide_eq_true c0, decide_eq_true c1]; rfl⟩))
      · exact .inr (.inr (.inr ⟨eq_false c0, eq_false c1, by rw [← hyn, decide_eq_true c0, decide_eq_false c1]; rfl⟩))
  rcases hcs with ⟨c0, c1, hY2⟩ | ⟨c0, c1, hY2⟩ | ⟨c0, c1, hY2⟩ | ⟨c0, c1, hY2⟩
  all_goals
    simp [c0, c1, -law11_AgainEnds.r36]
    refine law11_AgainEnds_four a g k s s2 s8 s10 s12 s23 (by omega) hsome Y J _ _ (by simp [Vw, hY2]) (by simp [Hw, Agn.cells]; exact ⟨hmd 0 (by omega), hmd 1 (by omega), hmd 2 (by omega), hmd 3 (by omega), hmd 4 (by omega), hmd 5 (by omega)⟩) next
end Go.Cw
end

/- The law AgainEnds, walked. -/
section
set_option maxRecDepth 100000
set_option linter.unusedSimpArgs false
namespace Go.Cw
open Go Go.Proofs

theorem law11_AgainEnds_ok (a : Agn) (b : Int) (hb : 0 ≤ b ∧ b ≤ 255) : APure Pg fn_law11_AgainEnds [a.v, .int .u8 b] (.bool true) := by
  have cL := PInv.func (first := []) (cap := []) (args := [a.v]) (law11_long_ok a)
  have cA := PInv.func (first := []) (cap := []) (args := []) law11_alive_ok
  refine law11_AgainEnds.pure (by simp) ?_
  simp
  intro s2
  refine PCallK.intro cL ?_
  cases hl : a.longB with
  | true =>
    simp
    refine PCallK.intro cA ?_
    simp
    exact RetV.refl rfl
  | false =>
  have hs := Agn.long_small hl
  have cS := ref11_Ship_ok a hs
  simp only [Agn.v_agg] at cS
  simp
  refine PCallK.intro (PInv.func cS) ?_
  by_cases hv : ¬ a.Valid
  · simp [hv]
    refine PCallK.intro cA ?_
    simp
    exact RetV.refl rfl
  replace hv := Classical.not_not.1 hv
  have hn6 := hv.n6
  have hO : a.errO true = 0 := Agn.errO_zero.2 ⟨hv, rfl⟩
  have e3 : a.promV = .tup [.int .i64 (a.under a.t), .int .i64 0] := by simp [Agn.promV, hO]
  have hfn : a.f.length = a.n := rfl
  obtain ⟨g, hg⟩ : ∃ g : Nat, (b.tmod 4) = g := ⟨(b.tmod 4).toNat, by have := Int.tmod_nonneg 4 hb.1; omega⟩
  have hg4 : g < 4 := by have := Int.tmod_lt_of_pos b (show (0 : Int) < 4 by omega); omega
  have hgk : Agn.GangOk (g : Int) := ⟨by omega, by omega⟩
  have hwb := Agn.wrap64 (x := b) (by omega) (by omega)
  have cH := leak_Sets_ok a.h hs.h
  have cY := again_Yard_ok a hs
  have cP := again_Promised_ok a hs
  have cB := again_Blame_ok a hs
  have cF := again_Nothing_ok a hs
  have cO := again_Pays_ok a hs
  have cG := again_Gang_ok a hs g
  rw [e3] at cP
  by_cases he : ¬ a.errL true = 0
  · have hS : a.S = [] := Classical.byContradiction fun h => he (Agn.errL_zero.2 ⟨hv, rfl, h⟩)
    have h10 : a.errL true = 10 := by unfold Agn.errL; rw [if_pos hv]; simp only [if_true]; rw [if_pos hS]
    have e1 : a.h.setsV = .tup [L [], .int .i64 10] := by simp [Hul.setsV, hv.h, Agn.S_nil.1 hS]
    have e2 : a.yardV = .tup [.int .i64 0, .int .i64 10] := by simp [Agn.yardV, h10]
    have e4 : a.blameV = .tup [.int .i64 0, .int .i64 0, .int .i64 10] := by simp [Agn.blameV, h10]
    have e5 : a.nothV = .tup [SP2 (0, 0), .int .i64 10] := by simp [Agn.nothV, Agn.nothP, h10]
    have e6 : a.paysV = .tup [SP2 (0, 0), .int .i64 10] := by simp [Agn.paysV, Agn.paysP, h10]
    have e7 : a.gangV g = .tup [SP2 (0, 0), .int .i64 10] := by simp [Agn.gangV, Agn.gangP, hgk, h10]
    rw [e1] at cH
    rw [e2] at cY
    rw [e4] at cB
    rw [e5] at cF
    rw [e6] at cO
    rw [e7] at cG
    simp only [Agn.v_agg] at cY cP cB cF cO cG
    simp [hv]
    refine PCallK.intro (PInv.func (first := []) (cap := []) (args := [a.h.v]) cH) ?_
    simp [hwb]
    refine ⟨Fits.of (by omega) (by omega), ?_⟩
    refine PCallK.intro (PInv.func cO) ?_
    simp [SP2]
    intro s8
    refine PCallK.intro (PInv.func cF) ?_
    simp [SP2, hg]
    intro s10
    refine PCallK.intro (PInv.func cG) ?_
    simp [SP2]
    intro s12
    refine PCallK.intro (PInv.func cY) ?_
    simp
    refine PCallK.intro (PInv.func cB) ?_
    simp
    refine PCallK.intro (PInv.func cP) ?_
    simp
    refine PCallK.intro cA ?_
    simp
    exact RetV.refl rfl
  replace he := Classical.not_not.1 he
  obtain ⟨_, _, hS⟩ := Agn.errL_zero.1 he
  have hSne : a.h.truths a.h.every ≠ [] := mt Agn.S_nil.2 hS
  have hSl := Agn.S_len hv
  have e1 : a.h.setsV = .tup [L a.S, .int .i64 0] := by simp [Hul.setsV, hv.h, hSne, Agn.S]
  have e2 : a.yardV = .tup [.int .i64 a.yardN, .int .i64 0] := by simp [Agn.yardV, he]
  have e4 : a.blameV = .tup [.int .i64 (bits a.surelyB 4), .int .i64 (bits a.perhapsB 4), .int .i64 0] := by simp [Agn.blameV, he]
  have e5 : a.nothV = .tup [SP2 a.nothP, .int .i64 0] := by simp [Agn.nothV, he]
  have e6 : a.paysV = .tup [SP2 a.paysP, .int .i64 0] := by simp [Agn.paysV, he]
  have e7 : a.gangV g = .tup [SP2 (a.gangP g), .int .i64 0] := by simp [Agn.gangV, hgk, he]
  rw [e1] at cH
  rw [e2] at cY
  rw [e4] at cB
  rw [e5] at cF
  rw [e6] at cO
  rw [e7] at cG
  simp only [Agn.v_agg] at cY cP cB cF cO cG
  simp [hv]
  refine PCallK.intro (PInv.func (first := []) (cap := []) (args := [a.h.v]) cH) ?_
  simp [hwb]
  refine ⟨Fits.of (by omega) (by omega), ?_⟩
  refine PCallK.intro (PInv.func cO) ?_
  simp [SP2]
  intro s8
  refine PCallK.intro (PInv.func cF) ?_
  simp [SP2, hg]
  intro s10
  refine PCallK.intro (PInv.func cG) ?_
  simp [SP2]
  intro s12
  refine PCallK.intro (PInv.func cY) ?_
  simp
  refine PCallK.intro (PInv.func cB) ?_
  simp
  refine PCallK.intro (PInv.func cP) ?_
  simp
  refine Lp.intro (σ := Nat) (inv := fun j => j ≤ a.n) (vw := fun j => [(2, .ptr 2 0 (s2+1)), (5, L a.S), (7, .int .i64 g), (8, .ptr 8 0 (s8+1)), (10, .ptr 10 0 (s10+1)), (12, .ptr 12 0 (s12+1)), (14, .int .i64 a.yardN), (16, .int .i64 (bits a.surelyB 4)), (17, .int .i64 (bits a.perhapsB 4)), (19, .int .i64 (a.under a.t)), (21, .int .i64 (a.ownK g j)), (144, .int .i64 a.n), (145, .int .i64 j)])
    (hp := fun _ => [(2, .row a.cells (s2+1)), (8, .row [.int .i64 a.paysP.1, .int .i64 a.paysP.2] (s8+1)), (10, .row [.int .i64 a.nothP.1, .int .i64 a.nothP.2] (s10+1)), (12, .row [.int .i64 (a.gangP g).1, .int .i64 (a.gangP g).2] (s12+1))]) (ms := fun j => a.n - j) 0 (by omega) (by simp [Agn.ownK_zero, hfn]) (by simp [Agn.cells]) ?_
  intro j hj J2 hJ2
  by_cases hjc : j < a.n
  · have hub := Agn.under_bit hv hjc a.t
    have cO := ref11_Of_ok a hv.days j
    simp only [Agn.v_agg] at cO
    have hj64 : (j : Int) < 64 := by omega
    have h2p := two_pow_le (show j ≤ 6 by omega)
    have h2q := two_pow_pos j
    have e6 : (2 : Int) ^ 6 = 64 := by decide
    cases hp : Ag.pr a.w a.t j with
    | false =>
      have hno : a.ownB g j = false := by simp [Agn.ownB, hp]
      have hst := Agn.ownK_no hno
      rw [hp] at hub
      simp [hjc, hj64, hub]
      (repeat first | refine And.intro (by omega) ?_ | refine And.intro (Fits.of (by omega) (by omega)) ?_)
      exact hJ2.next (j + 1) (by omega) (by omega) (by simp [hst]) (by simp)
    | true =>
      rw [hp] at hub
      simp [hjc, hj64, hub, Agn.cells]
      refine PCallK.intro (PInv.func cO) ?_
      by_cases hof : Ag.ofW a.w j = g
      · have hyes : a.ownB g j = true := by simp [Agn.ownB, hp, hof]
        have hst := Agn.ownK_yes hv hjc hyes
        simp [hof, hst]
        (repeat first | refine And.intro (by omega) ?_ | refine And.intro (Fits.of (by omega) (by omega)) ?_)
        exact hJ2.next (j + 1) (by omega) (by omega) (by simp) (by simp [Agn.cells])
      · have hno : a.ownB g j = false := by simp [Agn.ownB, hof]
        have hst := Agn.ownK_no hno
        simp [hof]
        (repeat first | refine And.intro (by omega) ?_ | refine And.intro (Fits.of (by omega) (by omega)) ?_)
        exact hJ2.next (j + 1) (by omega) (by omega) (by simp [hst]) (by simp [Agn.cells])
  obtain rfl : j = a.n := by omega
  have hall := Agn.ownK_all (a := a) (g := (g : Int))
  simp
  refine hJ2.exit ?_
  simp [hall]
  intro s23
  refine Lp.intro (σ := Nat) (inv := fun k => k ≤ a.S.length) (vw := fun k => [(2, .ptr 2 0 (s2+1)), (5, L a.S), (7, .int .i64 g), (8, .ptr 8 0 (s8+1)), (10, .ptr 10 0 (s10+1)), (12, .ptr 12 0 (s12+1)), (14, .int .i64 a.yardN), (16, .int .i64 (bits a.surelyB 4)), (17, .int .i64 (bits a.perhapsB 4)), (19, .int .i64 (a.under a.t)), (21, .int .i64 (bits (a.ownB g) a.n)), (23, .ptr 23 0 (s23+1)), (24, .bool (a.isK k)), (25, .bool (a.notK k)), (26, .bool (a.alwK g k)), (27, .bool (a.somK g k)), (165, L a.S), (166, .int .i64 a.S.length), (167, .int .i64 k)])
    (hp := fun k => [(2, .row a.cells (s2+1)), (8, .row [.int .i64 a.paysP.1, .int .i64 a.paysP.2] (s8+1)), (10, .row [.int .i64 a.nothP.1, .int .i64 a.nothP.2] (s10+1)), (12, .row [.int .i64 (a.gangP g).1, .int .i64 (a.gangP g).2] (s12+1)), (23, .row [.bool (a.fndB g k 0), .bool (a.fndB g k 1), .bool (a.fndB g k 2), .bool (a.fndB g k 3), .bool (a.fndB g k 4), .bool (a.fndB g k 5)] (s23+1))])
    (ms := fun k => a.S.length - k) 0 (by omega) (by simp [Agn.isK, Agn.notK, Agn.alwK, Agn.somK]) (by simp [Agn.cells, Agn.fnd_zero]) ?_
  intro k hk J hJ
  by_cases hkc : k < a.S.length
  · refine law11_AgainEnds_round a hs hv he g hg4 k hkc (s2+1) (s8+1) (s10+1) (s12+1) (s23+1) J fun tm h' h1 h2 => ?_
    simp [Vw, Hw] at h1 h2
    exact hJ.next (k + 1) (by omega) (by omega) (by simp [h1]) (by simp [h2])
  obtain rfl : k = a.S.length := by omega
  have hf := Agn.fnd_all he hgk
  have h1 := Agn.is_all hS
  have h2 := Agn.not_all hS
  have h3 := Agn.alw_all hv he g
  have h4 := Agn.som_all hv he g
  have hsb := bits_and1 a.surelyB (n := 4) (by omega) hg4
  have hpb := bits_and1 a.perhapsB (n := 4) (by omega) hg4
  have hg64 : (g : Int) < 64 := by omega
  simp
  refine hJ.exit ?_
  simp [hf, h1, h2, h3, h4, hsb, hpb, hg64]
  refine PCallK.intro cA ?_
  simp
  exact RetV.refl rfl
end Go.Cw
end
