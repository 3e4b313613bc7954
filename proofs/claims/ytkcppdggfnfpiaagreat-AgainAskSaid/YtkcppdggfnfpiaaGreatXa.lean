/-
  What the document's reference of layer 11 computes; laws of layer 11; how a ship is read as an argument.
-/
import Derived.Test.YtkcppdggfnfpiaaGreatWb
import Derived.Test.YtkcppdggfnfpiaaGreatLa
import Derived.Test.YtkcppdggfnfpiaaGreatAe
import Derived.Test.YtkcppdggfnfpiaaGreatAf
import Derived.Test.YtkcppdggfnfpiaaGreatRows
set_option linter.unusedVariables false
set_option linter.unusedSimpArgs false
set_option linter.unusedSectionVars false

/- The reference of chapter 11: is a ship valid; the last works; promises. -/
section
set_option maxRecDepth 100000
set_option linter.unusedSimpArgs false
namespace Go.Cw
open Go Go.Proofs

theorem ref11_in_ok (n lo hi : Int) : APure Pg fn_ref11_in [.int .i64 n, .int .i64 lo, .int .i64 hi] (.bool (decide (lo ≤ n ∧ n ≤ hi))) := by
  refine ref11_in.pure (by simp) ?_
  by_cases h : lo ≤ n <;> simp [h] <;> refine RetV.refl ?_ <;> simp_all

theorem ref11_Ship_ok (a : Agn) (hs : a.Small) : APure Pg fn_ref11_Ship [a.v] (.bool (decide a.Valid)) := by
  have hf40 := hs.f
  have hw40 := hs.w
  have hfn : a.f.length = a.n := rfl
  refine ref11_Ship.pure (by simp) ?_
  simp
  intro s1
  refine PCallK.intro (PInv.func (first := []) (cap := []) (args := [a.h.v]) (ref01_Hull_ok a.h hs.h)) ?_
  by_cases c1 : ¬ a.h.Valid
  · have hn : ¬ a.Valid := fun hv => c1 hv.h
    simp [c1]
    exact RetV.refl (by simp [hn])
  replace c1 := Classical.not_not.1 c1
  have hsl : a.h.seams.length ≤ 6 := c1.n6
  have hdl : a.h.snds.length ≤ 8 := c1.k8
  by_cases c2 : ¬ a.h.snds.length < 8
  · have hn : ¬ a.Valid := fun hv => c2 hv.k7
    have c2' : (8 : Int) ≤ a.h.snds.length := by omega
    simp [c1, c2']
    exact RetV.refl (by simp [hn])
  replace c2 := Classical.not_not.1 c2
  have c2' : ¬ (8 : Int) ≤ a.h.snds.length := by omega
  by_cases c3 : ¬ a.f.length = a.h.seams.length
  · have hn : ¬ a.Valid := fun hv => c3 hv.len
    have c3' : ¬ (a.f.length : Int) = a.h.seams.length := by omega
    simp [c1, c2', c3, c3']
    exact RetV.refl (by simp [hn])
  replace c3 := Classical.not_not.1 c3
  have c3' : (a.f.length : Int) = a.h.seams.length := by omega
  simp [c1, c2', c3, c3']
  refine PCallK.intro (PInv.func (ref11_in_ok _ _ _)) ?_
  by_cases c4 : ¬ (0 ≤ a.c ∧ a.c ≤ 100)
  · have hn : ¬ a.Valid := fun hv => c4 hv.co
    simp [c4]
    exact RetV.refl (by simp [hn])
  replace c4 := Classical.not_not.1 c4
  simp [c4]
  refine PCallK.intro (PInv.func (ref11_in_ok _ _ _)) ?_
  by_cases c5 : ¬ (0 ≤ a.t ∧ a.t ≤ 5000)
  · have hn : ¬ a.Valid := fun hv => c5 hv.to
    simp [c5]
    exact RetV.refl (by simp [hn])
  replace c5 := Classical.not_not.1 c5
  simp [c5]
  by_cases c6 : ¬ a.w.length ≤ 12
  · have hn : ¬ a.Valid := fun hv => c6 hv.w12
    have c6' : (12 : Int) < a.w.length := by omega
    simp [c6']
    exact RetV.refl (by simp [hn])
  replace c6 := Classical.not_not.1 c6
  have c6' : ¬ (12 : Int) < a.w.length := by omega
  simp [c6']
  refine Lp.intro (σ := Nat) (inv := fun k => k ≤ a.f.length ∧ ∀ x ∈ a.f.take k, 1 ≤ x ∧ x ≤ 20) (vw := fun k => [(1, .ptr 1 0 (s1+1)), (3, .int .i64 k)]) (hp := fun _ => [(1, .row a.cells (s1+1))]) (ms := fun k => a.f.length - k) 0 (by simp) (by simp) (by simp [Agn.cells]) ?_
  rintro k ⟨hk, hall⟩ J hJ
  by_cases hkc : k < a.f.length
  · obtain ⟨x, hx⟩ : ∃ x, a.f[k] = x := ⟨_, rfl⟩
    have hg : a.f[k]? = some x := by rw [List.getElem?_eq_getElem hkc, hx]
    simp [hkc, hx, hg, Agn.cells]
    refine PCallK.intro (PInv.func (ref11_in_ok _ _ _)) ?_
    by_cases hb : 1 ≤ x ∧ x ≤ 20
    · simp [hb]
      (repeat first | refine And.intro (by omega) ?_ | refine And.intro (Fits.of (by omega) (by omega)) ?_)
      refine hJ.next (k + 1) ⟨by omega, fun y hy => ?_⟩ (by omega) (by simp) (by simp [Agn.cells])
      rw [← List.take_append_getElem hkc] at hy
      rcases List.mem_append.1 hy with hy | hy
      · exact hall y hy
      · simp [hx] at hy; rw [hy]; exact hb
    · have hn : ¬ a.Valid := fun hv => hb (hv.fa x (by rw [← hx]; exact List.getElem_mem hkc))
      simp [hb]
      refine hJ.ret ?_
      simp
      exact RetV.refl (by simp [hn])
  obtain rfl : k = a.f.length := by omega
  rw [List.take_length] at hall
  simp [Agn.cells]
  refine hJ.exit ?_
  simp
  refine Lp.intro (σ := Nat) (inv := fun k => k ≤ a.w.length ∧ ∀ x ∈ a.w.take k, a.OkW x) (vw := fun k => [(1, .ptr 1 0 (s1+1)), (4, .int .i64 k)]) (hp := fun _ => [(1, .row a.cells (s1+1))]) (ms := fun k => a.w.length - k) 0 (by simp) (by simp) (by simp [Agn.cells]) ?_
  rintro k ⟨hk, hallw⟩ J hJ
  by_cases hkc : k < a.w.length
  · obtain ⟨x, hx⟩ : ∃ x, a.w[k] = x := ⟨_, rfl⟩
    have hg : a.w[k]? = some x := by rw [List.getElem?_eq_getElem hkc, hx]
    have hno : ¬ a.OkW x → ¬ a.Valid := fun h hv => h (hv.wo x (by rw [← hx]; exact List.getElem_mem hkc))
    have hsm : a.h.Seam x.s ↔ 0 ≤ x.s ∧ x.s < a.n := by
      unfold Hul.Seam
      have : (a.h.n : Int) = a.n := by rw [← hfn]; exact c3'.symm
      rw [this]
    simp [hkc, hx, hg, Agn.cells]
    refine ⟨by omega, fun s5 => ?_⟩
    refine PCallK.intro (PInv.func (first := []) (cap := []) (args := [a.h.v, .int .i64 x.s]) (ref01_Seam_ok a.h hs.h x.s)) ?_
    by_cases d1 : ¬ a.h.Seam x.s
    · have hn := hno fun h => d1 (hsm.2 h.1)
      simp [d1]
      refine hJ.ret ?_
      simp
      exact RetV.refl (by simp [hn])
    replace d1 := Classical.not_not.1 d1
    simp [d1]
    refine PCallK.intro (PInv.func (ref11_in_ok _ _ _)) ?_
    by_cases d2 : ¬ (0 ≤ x.g ∧ x.g ≤ 3)
    · have hn := hno fun h => d2 h.2.1
      simp [d2]
      refine hJ.ret ?_
      simp
      exact RetV.refl (by simp [hn])
    replace d2 := Classical.not_not.1 d2
    simp [d2]
    refine PCallK.intro (PInv.func (ref11_in_ok _ _ _)) ?_
    by_cases d3 : ¬ (0 ≤ x.d ∧ x.d ≤ a.t)
    · have hn := hno fun h => d3 h.2.2
      simp [d3]
      refine hJ.ret ?_
      simp
      exact RetV.refl (by simp [hn])
    replace d3 := Classical.not_not.1 d3
    simp [d3]
    (repeat first | refine And.intro (by omega) ?_ | refine And.intro (Fits.of (by omega) (by omega)) ?_)
    refine hJ.next (k + 1) ⟨by omega, fun y hy => ?_⟩ (by omega) (by simp) (by simp [Agn.cells])
    rw [← List.take_append_getElem hkc] at hy
    rcases List.mem_append.1 hy with hy | hy
    · exact hallw y hy
    · simp [hx] at hy; rw [hy]; exact ⟨hsm.1 d1, d2, d3⟩
  obtain rfl : k = a.w.length := by omega
  rw [List.take_length] at hallw
  have hv : a.Valid := ⟨c1, c2, c3, hall, c4, c5, c6, hallw⟩
  simp [Agn.cells]
  refine hJ.exit ?_
  simp
  exact RetV.refl (by simp [hv])
namespace Ag
def lastI (W : List Wrk) (i : Int) : Nat → Int
  | 0 => -1
  | k + 1 => match W[k]? with
    | some w => if w.s = i then (match lastW (W.take k) i with
      | none => k
      | some v => if v.d ≤ w.d then k else lastI W i k) else lastI W i k
    | none => lastI W i k
theorem lastI_spec (W : List Wrk) (i : Int) : ∀ k, k ≤ W.length → (lastI W i k = -1 ∧ lastW (W.take k) i = none) ∨ ∃ j, j < k ∧ lastI W i k = j ∧ ∃ v, W[j]? = some v ∧ lastW (W.take k) i = some v
  | 0, _ => .inl ⟨rfl, rfl⟩
  | k + 1, hk => by
    have hkc : k < W.length := by omega
    have ih := lastI_spec W i k (by omega)
    have hg : W[k]? = some W[k] := List.getElem?_eq_getElem hkc
    have ht : W.take (k + 1) = W.take k ++ [W[k]] := (List.take_append_getElem hkc).symm
    simp only [lastI, hg]
    rw [ht, lastW_push]
    rcases ih with ⟨h1, h2⟩ | ⟨j, h1, h2, v, h3, h4⟩
    · rw [h2]
      simp only [betW]
      by_cases e : W[k].s = i
      · rw [if_pos e, if_pos e]
        exact .inr ⟨k, by omega, rfl, _, hg, rfl⟩
      · rw [if_neg e, if_neg e]
        exact .inl ⟨h1, rfl⟩
    · rw [h4]
      simp only [betW]
      by_cases e : W[k].s = i
      · rw [if_pos e]
        by_cases e2 : v.d ≤ W[k].d
        · rw [if_pos e2, if_pos ⟨e, e2⟩]
          exact .inr ⟨k, by omega, rfl, _, hg, rfl⟩
        · rw [if_neg e2, if_neg fun h => e2 h.2]
          exact .inr ⟨j, by omega, h2, v, h3, rfl⟩
      · rw [if_neg e, if_neg fun h => e h.1]
        exact .inr ⟨j, by omega, h2, v, h3, rfl⟩
end Ag

structure Agn.Days (a : Agn) : Prop where
  w : a.w.length ≤ 40
  d : ∀ x ∈ a.w, 0 ≤ x.d ∧ x.d ≤ 5000
  t : 0 ≤ a.t ∧ a.t ≤ 1000000
theorem Agn.Valid.days {a : Agn} (hv : a.Valid) : a.Days := ⟨by have := hv.w12; omega, fun x hx => by have := (hv.wo x hx).2.2; have := hv.to; omega, by have := hv.to; omega⟩



end Go.Cw
end

/- The reference of chapter 11: promises; what truths tell. -/
section
set_option maxRecDepth 100000
set_option linter.unusedSimpArgs false
namespace Go.Cw
open Go Go.Proofs


noncomputable def Agn.truthsL (a : Agn) (is : Bool) : List (List Int) := if a.errL is = 0 then a.h.truths a.h.every else []
noncomputable def Agn.tellV (a : Agn) (is : Bool) : AVal := .tup [LLv (a.truthsL is), .int .i64 (a.errL is)]

def Agn.isT (a : Agn) (t : List Int) : Bool := (List.range t.length).any (fun i => decide (0 < ofL t i)) && (List.range t.length).all (fun i => !decide (0 < ofL t i) || Ag.pr a.w a.t i)

def Agn.yardT (a : Agn) (T : List (List Int)) : Int := if T.all a.isT then 2 else if T.any a.isT then 1 else 0

theorem Agn.isT_yes {a : Agn} {t : List Int} (h : t.length = a.n) : a.isT t = Ag.yesS a.n (Ag.pr a.w a.t) (leaksT t) := by
  have hin : ∀ i, i < a.n → inS (leaksT t) i = decide (0 < ofL t i) := fun i hi => by
    unfold leaksT
    exact inS_bits _ (by rw [h]; exact hi)
  rw [Bool.eq_iff_iff, Ag.yes_iff]
  unfold Agn.isT
  rw [Bool.and_eq_true, List.any_eq_true, List.all_eq_true, h]
  have hz : leaksT t ≠ 0 ↔ ∃ i ∈ List.range a.n, decide (0 < ofL t i) = true := by
    unfold leaksT
    rw [ne_eq, bits_zero, h]
    constructor
    · intro hn
      refine Classical.byContradiction fun hx => hn fun i hi => ?_
      cases hb : decide (0 < ofL t i)
      · rfl
      · exact absurd ⟨i, List.mem_range.2 hi, hb⟩ hx
    · rintro ⟨i, hi, hb⟩ hn
      rw [hn i (List.mem_range.1 hi)] at hb
      cases hb
  rw [hz]
  refine and_congr_right fun _ => ⟨fun H i hi hs => ?_, fun H i hi => ?_⟩
  · have := H i (List.mem_range.2 hi)
    rw [← hin i hi, hs] at this
    simpa using this
  · have hi' := List.mem_range.1 hi
    rw [← hin i hi']
    cases hs : inS (leaksT t) i
    · rfl
    · simpa using H i hi' hs
theorem Agn.yardT_eq {a : Agn} {h : Hul} (hv : h.Valid) (hn : h.n = a.n) (ht : h.truths h.every ≠ []) : a.yardT (h.truths h.every) = Ag.toldV a.n (Ag.pr a.w a.t) h.setsL := by
  have hm : ∀ s, s ∈ h.setsL ↔ ∃ t ∈ h.truths h.every, leaksT t = s := fun s => Agn.mem_S (a := ⟨h, [], 0, [], 0⟩)
  have hi : ∀ t ∈ h.truths h.every, a.isT t = Ag.yesS a.n (Ag.pr a.w a.t) (leaksT t) := fun t h1 => Agn.isT_yes (by rw [(truths_in hv h1).1]; exact hn)
  have hS : h.setsL ≠ [] := mt Agn.setsL_nil.1 ht
  unfold Agn.yardT
  by_cases h1 : (h.truths h.every).all a.isT = true
  · rw [if_pos h1]
    symm
    rw [Ag.told_two hS]
    intro s hs
    obtain ⟨t, h2, rfl⟩ := (hm s).1 hs
    rw [← hi t h2]
    exact List.all_eq_true.1 h1 t h2
  · rw [if_neg h1]
    by_cases h2 : (h.truths h.every).any a.isT = true
    · rw [if_pos h2]
      symm
      rw [Ag.told_one hS]
      obtain ⟨t, h3, h4⟩ := List.any_eq_true.1 h2
      have h1 : (h.truths h.every).all a.isT = false := by simpa using h1
      obtain ⟨u, h5, h6⟩ := List.all_eq_false.1 h1
      refine ⟨⟨_, (hm _).2 ⟨t, h3, rfl⟩, by rw [← hi t h3]; exact h4⟩, _, (hm _).2 ⟨u, h5, rfl⟩, by rw [← hi u h5]; simpa using h6⟩
    · rw [if_neg h2]
      symm
      rw [Ag.told_zero hS]
      intro s hs
      obtain ⟨t, h3, rfl⟩ := (hm s).1 hs
      rw [← hi t h3]
      cases hb : a.isT t
      · rfl
      · exact absurd (List.any_eq_true.2 ⟨t, h3, hb⟩) h2
theorem Agn.truths_len {h : Hul} (hv : h.Valid) : (h.truths h.every).length ≤ 15625 := by
  have hlen := hv.ext_len h.every []
  rwa [← Hul.truths_ext] at hlen

end Go.Cw
end

/- The reference of chapter 11: fathoms; who pays; whose work leaks. -/
section
set_option maxRecDepth 100000
set_option linter.unusedSimpArgs false
namespace Go.Cw
open Go Go.Proofs

def Agn.cntB (a : Agn) (under : Bool) (g : Int) (i : Nat) : Bool := (Ag.pr a.w a.t i == under) && (decide (g < 0) || decide (Ag.ofW a.w i = g))
def Agn.lenT (a : Agn) (t : List Int) (under : Bool) (g : Int) : Int := Ag.lenB a.F t.length fun i => decide (0 < ofL t i) && a.cntB under g i


noncomputable def Agn.lensP (a : Agn) (under : Bool) (g : Int) (is : Bool) : Int × Int := if a.errL is = 0 then spanOf ((a.h.truths a.h.every).map fun t => a.lenT t under g) else (0, 0)

end Go.Cw
end

/- The reference of chapter 11: Pays, Nothing, Gang, Blame, Until. -/
section
set_option maxRecDepth 100000
set_option linter.unusedSimpArgs false
namespace Go.Cw
open Go Go.Proofs

theorem Agn.lenT_pay {a : Agn} {t : List Int} (h : t.length = a.n) {under : Bool} {g : Int} {u : Nat → Bool} (hu : ∀ i, i < a.n → a.cntB under g i = u i) : a.lenT t under g = Ag.payS a.F a.n u (leaksT t) := by
  unfold Agn.lenT Ag.payS
  rw [h]
  refine Ag.lenB_congr fun i hi => ?_
  rw [hu i hi]
  congr 1
  unfold leaksT
  exact (inS_bits (fun i => decide (0 < ofL t i)) (n := t.length) (by rw [h]; exact hi)).symm
theorem Agn.lensP_eq {a : Agn} {is : Bool} (he : a.errL is = 0) {under : Bool} {g : Int} {u : Nat → Bool} (hu : ∀ i, i < a.n → a.cntB under g i = u i) : a.lensP under g is = a.spanP u := by
  obtain ⟨hv, _, hS⟩ := Agn.errL_zero.1 he
  have ht := mt Agn.S_nil.2 hS
  unfold Agn.lensP
  rw [if_pos he]
  have hmap : ((a.h.truths a.h.every).map fun t => a.lenT t under g) = (a.h.truths a.h.every).map fun t => Ag.payS a.F a.n u (leaksT t) :=
    List.map_congr_left fun t h1 => Agn.lenT_pay (by rw [(truths_in hv.h h1).1]; exact hv.len.symm) hu
  rw [hmap]
  obtain ⟨l, hl⟩ : ∃ l, l = (a.h.truths a.h.every).map fun t => Ag.payS a.F a.n u (leaksT t) := ⟨_, rfl⟩
  have hne : l ≠ [] := by rw [hl]; simpa using ht
  obtain ⟨h1, h2⟩ := Agn.span_in hne
  rw [← hl]
  unfold Agn.spanP
  symm
  have hmem : ∀ y, y ∈ l → ∃ s ∈ a.S, Ag.payS a.F a.n u s = y := fun y hy => by
    rw [hl] at hy
    obtain ⟨t, h3, h4⟩ := List.mem_map.1 hy
    exact ⟨leaksT t, Agn.mem_S.2 ⟨t, h3, rfl⟩, h4⟩
  refine Ag.jn_eq hS (fun s hs => ?_) (hmem _ h1) (hmem _ h2)
  obtain ⟨t, h3, rfl⟩ := Agn.mem_S.1 hs
  exact Agn.span_mem (by rw [hl]; exact List.mem_map.2 ⟨t, h3, rfl⟩)
theorem Agn.cnt_any (a : Agn) (under : Bool) (i : Nat) : a.cntB under (-1) i = (Ag.pr a.w a.t i == under) := by simp [Agn.cntB]




end Go.Cw
end

/- The reference of chapter 11: Until. -/
section
set_option maxRecDepth 100000
set_option linter.unusedSimpArgs false
namespace Go.Cw
open Go Go.Proofs

theorem Agn.mem_days {a : Agn} {d : Int} : d ∈ a.daysL ↔ ∃ i, i < a.n ∧ (∃ s ∈ a.S, inS s i = true) ∧ ∃ w, Ag.lastW a.w i = some w ∧ w.d = d := by
  unfold Agn.daysL
  rw [List.mem_filterMap]
  constructor
  · rintro ⟨i, hi, h⟩
    split at h
    · rename_i hs
      obtain ⟨s, h1, h2⟩ := List.any_eq_true.1 hs
      cases hw : Ag.lastW a.w i with
      | none => rw [hw] at h; simp at h
      | some w =>
        rw [hw] at h
        exact ⟨i, List.mem_range.1 hi, ⟨s, h1, h2⟩, w, hw, by simpa using h⟩
    · cases h
  · rintro ⟨i, hi, ⟨s, h1, h2⟩, w, hw, rfl⟩
    refine ⟨i, List.mem_range.2 hi, ?_⟩
    rw [if_pos (List.any_eq_true.2 ⟨s, h1, h2⟩), hw]
    rfl
theorem Agn.first_is {a : Agn} (hv : a.Valid) (hS : a.S ≠ []) (hy : a.yardN = 2) : Ag.IsFirst a.n a.w a.S a.firstD := by
  have hdn : ∀ d ∈ a.daysL, 0 ≤ d := fun d hd => by
    obtain ⟨i, _, _, w, hw, rfl⟩ := Agn.mem_days.1 hd
    exact (Agn.work_rng hv hw).2.2.2.1
  obtain ⟨s, h1, i, h2, h3, w, h4⟩ := Ag.first_ex hS (Agn.S_in hv) hy
  have hm := Agn.mem_days.2 ⟨i, h2, ⟨s, h1, h3⟩, w, h4, rfl⟩
  rcases Ag.least_spec hdn with ⟨e, _⟩ | ⟨h5, h6⟩
  · rw [e] at hm; cases hm
  · obtain ⟨j, h7, ⟨t, h8, h9⟩, v, h10, h11⟩ := Agn.mem_days.1 h5
    exact ⟨⟨t, h8, j, h7, h9, v, h10, h11⟩, fun s hs i hi hsi w hw => h6 _ (Agn.mem_days.2 ⟨i, hi, ⟨s, hs, hsi⟩, w, hw, rfl⟩)⟩

end Go.Cw
end

/- The laws of chapter 11: the document's ship; what it fixes. -/
section
set_option maxRecDepth 100000
set_option linter.unusedSimpArgs false
namespace Go.Cw
open Go Go.Proofs

def asm (t : Int) : Agn := ⟨⟨[⟨2, 0, 3⟩, ⟨5, -1, 2⟩, ⟨5, 1, 4⟩], [⟨3, 0, 1, 2⟩, ⟨6, 0, 4, 4⟩]⟩, [4, 3, 5], 10, [⟨0, 100, 0⟩, ⟨1, 90, 1⟩, ⟨2, 10, 0⟩], t⟩
theorem asm_small (t : Int) : (asm t).Small := ⟨⟨by simp [asm], by simp [asm]⟩, by simp [asm], by simp [asm]⟩
def asmT : List (List Int) := [[1, 0, 3], [1, 1, 2], [1, 2, 1], [2, 0, 2], [2, 1, 1], [2, 2, 0]]
theorem asm_truths (t : Int) : (asm t).h.truths (asm t).h.every = asmT := by
  have : (asm 300).h.truths (asm 300).h.every = asmT := by decide +kernel
  exact this
theorem asm_S (t : Int) : (asm t).S = [3, 5, 7] := by
  unfold Agn.S Hul.setsL
  rw [asm_truths]
  exact sortI_eq (by decide +kernel) (by unfold SortedI; decide +kernel)
theorem asm_valid {t : Int} (h : t = 300 ∨ t = 400) : (asm t).Valid := by
  have hh : ∀ t, (asm t).h.Valid := fun t => by
    have : (asm 300).h.Valid := ⟨by simp [asm, Hul.n], by simp [asm, Hul.n], by simp [asm, Hul.k], by decide, by decide⟩
    exact this
  rcases h with rfl | rfl
  · exact ⟨hh _, by simp [asm, Hul.k], by simp [asm, Hul.n], by decide, by simp [asm], by simp [asm], by simp [asm], by decide⟩
  · exact ⟨hh _, by simp [asm, Hul.k], by simp [asm, Hul.n], by decide, by simp [asm], by simp [asm], by simp [asm], by decide⟩
theorem asm_errO {t : Int} (h : t = 300 ∨ t = 400) : (asm t).errO true = 0 := Agn.errO_zero.2 ⟨asm_valid h, rfl⟩
theorem asm_errL {t : Int} (h : t = 300 ∨ t = 400) : (asm t).errL true = 0 := Agn.errL_zero.2 ⟨asm_valid h, rfl, by rw [asm_S]; simp⟩
theorem asm_prom {t x : Int} (h : t = 300 ∨ t = 400) (hx : bits (Ag.pr (asm t).w t) 3 = x) : (asm t).promV = .tup [.int .i64 x, .int .i64 0] := by
  have e : (asm t).under (asm t).t = x := hx
  unfold Agn.promV
  rw [asm_errO h, e]
  simp
theorem asm_yardN {t x : Int} (hx : Ag.toldV 3 (Ag.pr (asm t).w t) [3, 5, 7] = x) : (asm t).yardN = x := by
  unfold Agn.yardN
  rw [asm_S]
  exact hx
theorem asm_yard {t x : Int} (h : t = 300 ∨ t = 400) (hx : Ag.toldV 3 (Ag.pr (asm t).w t) [3, 5, 7] = x) : (asm t).yardV = .tup [.int .i64 x, .int .i64 0] := by
  unfold Agn.yardV
  rw [asm_errL h, asm_yardN hx]
  simp
theorem asm_span {t : Int} {u : Nat → Bool} {x : Int × Int} (hx : Ag.jn (Ag.payS (ofL [4, 3, 5]) 3 u) [3, 5, 7] = x) : (asm t).spanP u = x := by
  unfold Agn.spanP
  rw [asm_S]
  exact hx
theorem asm_pays {t : Int} (h : t = 300 ∨ t = 400) {x : Int × Int} (hx : Ag.jn (Ag.payS (ofL [4, 3, 5]) 3 fun i => !Ag.pr (asm t).w t i) [3, 5, 7] = x) : (asm t).paysV = .tup [SP2 (x.1 * 10, x.2 * 10), .int .i64 0] := by
  have e : (asm t).spanP (fun i => !Ag.pr (asm t).w (asm t).t i) = x := asm_span hx
  unfold Agn.paysV Agn.paysP
  rw [asm_errL h, e]
  rfl
theorem asm_noth {t : Int} (h : t = 300 ∨ t = 400) {x : Int × Int} (hx : Ag.jn (Ag.payS (ofL [4, 3, 5]) 3 (Ag.pr (asm t).w t)) [3, 5, 7] = x) : (asm t).nothV = .tup [SP2 x, .int .i64 0] := by
  have e : (asm t).spanP (Ag.pr (asm t).w (asm t).t) = x := asm_span hx
  unfold Agn.nothV Agn.nothP
  rw [asm_errL h, e]
  rfl
theorem asm_own {t : Int} (g : Int) : (asm t).ownB g = fun i => Ag.pr (asm t).w t i && decide (Ag.ofW (asm t).w i = g) := rfl
theorem asm_gang {t : Int} (h : t = 300 ∨ t = 400) (g : Int) (hg : Agn.GangOk g) {x : Int × Int} (hx : Ag.jn (Ag.payS (ofL [4, 3, 5]) 3 fun i => Ag.pr (asm t).w t i && decide (Ag.ofW (asm t).w i = g)) [3, 5, 7] = x) : (asm t).gangV g = .tup [SP2 x, .int .i64 0] := by
  have e : (asm t).spanP ((asm t).ownB g) = x := asm_span hx
  unfold Agn.gangV Agn.gangP
  rw [decide_eq_true hg, asm_errL h, e]
  rfl
theorem asm_blame : (asm 400).blameV = .tup [.int .i64 1, .int .i64 3, .int .i64 0] := by
  have hs : ∀ i : Nat, (asm 400).spanP ((asm 400).ownB i) = Ag.jn (Ag.payS (ofL [4, 3, 5]) 3 fun j => Ag.pr (asm 400).w 400 j && decide (Ag.ofW (asm 400).w j = i)) [3, 5, 7] := fun i => asm_span rfl
  have e1 : bits (asm 400).surelyB 4 = 1 := by
    have : (asm 400).surelyB = fun i : Nat => decide (0 < (Ag.jn (Ag.payS (ofL [4, 3, 5]) 3 fun j => Ag.pr (asm 400).w 400 j && decide (Ag.ofW (asm 400).w j = i)) [3, 5, 7]).1) := funext fun i => by unfold Agn.surelyB; rw [hs]
    rw [this]
    decide +kernel
  have e2 : bits (asm 400).perhapsB 4 = 3 := by
    have : (asm 400).perhapsB = fun i : Nat => decide (0 < (Ag.jn (Ag.payS (ofL [4, 3, 5]) 3 fun j => Ag.pr (asm 400).w 400 j && decide (Ag.ofW (asm 400).w j = i)) [3, 5, 7]).2) := funext fun i => by unfold Agn.perhapsB; rw [hs]
    rw [this]
    decide +kernel
  unfold Agn.blameV
  rw [asm_errL (.inr rfl), e1, e2]
  simp
theorem asm_until : (asm 300).untilV = .tup [.int .i64 375, .int .i64 0] := by
  have e1 : (asm 300).yardN = 2 := asm_yardN (by decide +kernel)
  have e2 : (asm 300).firstD = 10 := by
    unfold Agn.firstD Agn.daysL
    rw [asm_S]
    decide +kernel
  have e3 : (asm 300).errU = 0 := by unfold Agn.errU; rw [asm_errL (.inl rfl), e1]; simp
  unfold Agn.untilV
  rw [e3, e2]
  simp
def asmC (w : Int) : Bool := (List.range 25).all fun (n : Nat) =>
  !(decide (seenK (asmT.filter fun t => decide ((n : Int) ≤ Hul.sumT t w ∧ Hul.sumT t w ≤ n)) ≠ []) && decide (Ag.toldV 3 (Ag.pr (asm 400).w 400) (seenK (asmT.filter fun t => decide ((n : Int) ≤ Hul.sumT t w ∧ Hul.sumT t w ≤ n))) = 1))
theorem asm_ask : (asm 400).askV = .tup [.int .i64 2, .int .i64 (-3), .int .i64 0] := by
  have hset : ∀ d l, (asm 400).setB d l = asmC ((asm 400).h.wet d l) := fun d l => by
    unfold Agn.setB asmC
    refine congrArg (List.all (List.range 25)) (funext fun n => ?_)
    unfold Agn.perB
    rw [Agn.soundS_eq, asm_truths]
    have h1 : ∀ X : List Int, decide (sortI X ≠ []) = decide (X ≠ []) := fun X => by
      refine decide_eq_decide.2 (not_congr ?_)
      constructor
      · intro h
        have := (sortI_perm X).length_eq
        rw [h] at this
        exact List.eq_nil_of_length_eq_zero this.symm
      · rintro rfl
        have := (sortI_perm []).length_eq
        exact List.eq_nil_of_length_eq_zero this
    have h2 : ∀ X : List Int, Ag.toldV (asm 400).n (Ag.pr (asm 400).w (asm 400).t) (sortI X) = Ag.toldV 3 (Ag.pr (asm 400).w 400) X := fun X => Ag.told_same fun s => (sortI_perm X).mem_iff
    rw [h1, h2]
  have e1 : (asm 400).askP = some (2, -3) := by
    unfold Agn.askP
    simp only [hset]
    decide +kernel
  have e2 : (asm 400).errA = 0 := by
    unfold Agn.errA
    rw [asm_errL (.inr rfl), asm_yardN (x := 1) (by decide +kernel), e1]
    simp
  unfold Agn.askV
  rw [e2, e1]
  simp
theorem law11_span_ok (a b : Int) : APure Pg fn_law11_span [.int .i64 a, .int .i64 b] (SP2 (a, b)) := by
  refine law11_span.pure (by simp) ?_
  simp
  intro s
  exact RetV.refl (by simp [SP2])
theorem law11_work_ok (a b c : Int) : APure Pg fn_law11_work [.int .i64 a, .int .i64 b, .int .i64 c] (.agg [.int .i64 a, .int .i64 b, .int .i64 c]) := by
  refine law11_work.pure (by simp) ?_
  simp
  intro s
  exact RetV.refl (by simp)
theorem law11_sample_ok (t : Int) : APure Pg fn_law11_sample [.int .i64 t] (asm t).v := by
  refine law11_sample.pure (by simp) ?_
  simp
  intro s1 s2
  refine PCallK.intro (PInv.func (law11_span_ok _ _)) ?_
  simp [SP2]
  refine PCallK.intro (PInv.func (law11_span_ok _ _)) ?_
  simp [SP2]
  intro s3 s4
  refine PCallK.intro (PInv.func (law11_work_ok _ _ _)) ?_
  simp
  refine PCallK.intro (PInv.func (law11_work_ok _ _ _)) ?_
  simp
  refine PCallK.intro (PInv.func (law11_work_ok _ _ _)) ?_
  simp
  intro s5
  refine RetV.frz 6 rfl (RetV.frz 11 rfl (RetV.frz 13 rfl (RetV.frz 17 rfl (RetV.refl ?_))))
  simp [asm, LS, LD, sms, sds, fl, Sm.c, Sd.c, L, ints, LW, wks, wkC]
theorem law11_alive_ok : APure Pg fn_law11_alive [] (.bool true) := by
  have w0 := fun t => PInv.func (first := []) (cap := []) (args := [.int .i64 t]) (law11_sample_ok t)
  have c1 := again_Promised_ok (asm 400) (asm_small _)
  rw [asm_prom (.inr rfl) (x := 3) (by decide +kernel)] at c1
  have c2 := again_Yard_ok (asm 300) (asm_small _)
  rw [asm_yard (.inl rfl) (x := 2) (by decide +kernel)] at c2
  have c3 := again_Pays_ok (asm 400) (asm_small _)
  rw [asm_pays (.inr rfl) (x := (0, 5)) (by decide +kernel)] at c3
  have c4 := again_Nothing_ok (asm 300) (asm_small _)
  rw [asm_noth (.inl rfl) (x := (7, 12)) (by decide +kernel)] at c4
  have c5 := again_Gang_ok (asm 400) (asm_small _) 1
  rw [asm_gang (.inr rfl) 1 (by decide) (x := (0, 3)) (by decide +kernel)] at c5
  have c6 := again_Blame_ok (asm 400) (asm_small _)
  rw [asm_blame] at c6
  have c7 := again_Until_ok (asm 300) (asm_small _)
  rw [asm_until] at c7
  have c8 := again_Ask_ok (asm 400) (asm_small _)
  rw [asm_ask] at c8
  refine law11_alive.pure (by simp) ?_
  simp only [Agn.v_agg] at c1 c2 c3 c4 c5 c6 c7 c8
  simp
  refine PCallK.intro (w0 400) ?_
  simp
  refine PCallK.intro (PInv.func c1) ?_
  simp
  refine PCallK.intro (w0 300) ?_
  simp
  refine PCallK.intro (PInv.func c2) ?_
  simp
  refine PCallK.intro (w0 400) ?_
  simp
  refine PCallK.intro (PInv.func c3) ?_
  simp [SP2]
  intro s5
  refine PCallK.intro (w0 300) ?_
  simp
  refine PCallK.intro (PInv.func c4) ?_
  simp [SP2]
  intro s7
  refine PCallK.intro (w0 400) ?_
  simp
  refine PCallK.intro (PInv.func c5) ?_
  simp [SP2]
  intro s9
  refine PCallK.intro (w0 400) ?_
  simp
  refine PCallK.intro (PInv.func c6) ?_
  simp
  refine PCallK.intro (w0 300) ?_
  simp
  refine PCallK.intro (PInv.func c7) ?_
  simp
  refine PCallK.intro (w0 400) ?_
  simp
  refine PCallK.intro (PInv.func c8) ?_
  simp
  refine PCallK.intro (PInv.func (law11_span_ok _ _)) ?_
  simp [SP2]
  refine PCallK.intro (PInv.func (law11_span_ok _ _)) ?_
  simp [SP2]
  refine PCallK.intro (PInv.func (law11_span_ok _ _)) ?_
  simp [SP2]
  exact RetV.refl rfl
def Agn.longB (a : Agn) : Bool := decide ((40 : Int) < max (a.h.seams.length : Int) (max (a.h.snds.length : Int) (max (a.f.length : Int) (a.w.length : Int))))
theorem Agn.long_small {a : Agn} (h : a.longB = false) : a.Small := by
  unfold Agn.longB at h
  have h := of_decide_eq_false h
  exact ⟨⟨by omega, by omega⟩, by omega, by omega⟩
theorem law11_long_ok (a : Agn) : APure Pg fn_law11_long [a.v] (.bool a.longB) := by
  refine law11_long.pure (by simp) ?_
  simp
  intro s1
  exact RetV.refl (by simp [Agn.longB])
def Agn.ways (a : Agn) (k : Nat) : Int := (a.h.seams.take k).foldl (fun n s => n * (s.m + 1)) 1
theorem Agn.ways_step {a : Agn} {k : Nat} (h : k < a.h.seams.length) : a.ways (k + 1) = a.ways k * ((a.h.seams[k]).m + 1) := by
  unfold Agn.ways
  rw [← List.take_append_getElem h, List.foldl_append]
  rfl
theorem Agn.ways_rng {a : Agn} (hv : a.h.Valid) : ∀ k, k ≤ a.h.seams.length → 1 ≤ a.ways k ∧ a.ways k ≤ 5 ^ k
  | 0, _ => by simp [Agn.ways]
  | k + 1, hk => by
    have hkc : k < a.h.seams.length := by omega
    obtain ⟨h1, h2⟩ := Agn.ways_rng hv k (by omega)
    rw [Agn.ways_step hkc]
    have h3 := (hv.sm a.h.seams[k] (List.getElem_mem hkc)).2.2
    obtain ⟨m, hm⟩ : ∃ m, m = (a.h.seams[k]).m + 1 := ⟨_, rfl⟩
    rw [← hm]
    have hm1 : 1 ≤ m ∧ m ≤ 5 := by omega
    refine ⟨?_, ?_⟩
    · have := Int.mul_le_mul h1 hm1.1 (by omega) (by omega)
      omega
    · have := Int.mul_le_mul h2 hm1.2 (by omega) (by omega)
      rw [Int.pow_succ]
      exact this
noncomputable def Agn.heavyB (a : Agn) (w : Int) : Bool := if a.longB then true else if a.Valid then decide (w < a.ways a.h.seams.length) else false
theorem Agn.heavy_small {a : Agn} {w : Int} (h : a.heavyB w = false) : a.Small := by
  unfold Agn.heavyB at h
  cases hl : a.longB
  · exact Agn.long_small hl
  · rw [hl] at h; simp at h

end Go.Cw
end

/- The laws of chapter 11: what is told is what the document tells. -/
section
set_option maxRecDepth 100000
set_option linter.unusedSimpArgs false
namespace Go.Cw
open Go Go.Proofs


end Go.Cw
end

/- How a ship that came back is read as an argument. -/
section
set_option maxRecDepth 100000
namespace Go.Cw
open Go Go.Proofs

theorem All2.five' {V W X Y Z : List AVal → Prop} {l : List (List AVal)} (h : All2 [V, W, X, Y, Z] l) : ∃ a b c d e, l = [a, b, c, d, e] ∧ V a ∧ W b ∧ X c ∧ Y d ∧ Z e := by
  match l, h with
  | [a, b, c, d, e], h => exact ⟨a, b, c, d, e, rfl, h.1, h.2.1, h.2.2.1, h.2.2.2.1, h.2.2.2.2.1⟩
section
variable {w : World} {μ : Mu}

theorem opens_int : Opens Pg w μ 3 fun av => ∃ n, (Lit.int .i64 n).wf = true ∧ av = [.int .i64 n] := Opens.int Tryz.underlying3 (by kernel_rfl)
theorem opens_bool : Opens Pg w μ 4 fun av => ∃ b, av = [.bool b] := Opens.bool Tryz.underlying4 (by kernel_rfl)
theorem opens_ints : Opens Pg w μ 26 fun av => ∃ l : List Int, av = [L l] := Opens.ints Tryz.underlying26 (by kernel_rfl) Tryz.underlying3 (by kernel_rfl)
theorem opens_span : Opens Pg w μ 36 fun av => ∃ p : Int × Int, av = [.int .i64 p.1, .int .i64 p.2] := by
  refine (Opens.struct (Vs := [_, _]) Tryz.underlying36 (by kernel_rfl) ⟨rfl, opens_int, by kernel_rfl, opens_int, trivial⟩).mono ?_
  rintro av ⟨ass, h, rfl⟩
  obtain ⟨a, b, rfl, ⟨n, _, rfl⟩, ⟨m, _, rfl⟩⟩ := h.two
  exact ⟨(n, m), rfl⟩
theorem opens_seam : Opens Pg w μ 67 fun av => ∃ a : Sm, av = a.c := by
  refine (Opens.struct (Vs := [_, _, _]) Tryz.underlying67 (by kernel_rfl) ⟨rfl, opens_int, by kernel_rfl, opens_int, by kernel_rfl, opens_int, trivial⟩).mono ?_
  rintro av ⟨ass, h, rfl⟩
  obtain ⟨a, b, c, rfl, ⟨n, _, rfl⟩, ⟨m, _, rfl⟩, ⟨k, _, rfl⟩⟩ := h.three
  exact ⟨⟨n, m, k⟩, rfl⟩
theorem opens_sounding : Opens Pg w μ 57 fun av => ∃ a : Sd, av = a.c := by
  refine (Opens.struct (Vs := [_, _, _]) Tryz.underlying57 (by kernel_rfl) ⟨rfl, opens_int, by kernel_rfl, opens_int, by kernel_rfl, opens_span, trivial⟩).mono ?_
  rintro av ⟨ass, h, rfl⟩
  obtain ⟨a, b, c, rfl, ⟨n, _, rfl⟩, ⟨m, _, rfl⟩, ⟨p, rfl⟩⟩ := h.three
  exact ⟨⟨n, m, p.1, p.2⟩, rfl⟩
theorem c67 : 0 < Pg.cellsOf 67 := by rw [show Pg.cellsOf 67 = 3 by kernel_rfl]; omega
theorem c57 : 0 < Pg.cellsOf 57 := by rw [show Pg.cellsOf 57 = 4 by kernel_rfl]; omega
theorem opens_hull : Opens Pg w μ 25 fun av => ∃ h : Hul, av = h.cells := by
  refine (Opens.struct (Vs := [_, _]) Tryz.underlying25 (by kernel_rfl) ⟨rfl, Opens.fl Tryz.underlying22 (by kernel_rfl) c67 opens_seam, by kernel_rfl, Opens.fl Tryz.underlying23 (by kernel_rfl) c57 opens_sounding, trivial⟩).mono ?_
  rintro av ⟨ass, h, rfl⟩
  obtain ⟨a, b, rfl, ⟨n, rfl⟩, ⟨m, rfl⟩⟩ := h.two
  exact ⟨⟨n, m⟩, rfl⟩
theorem opens_work : Opens Pg w μ 62 fun av => ∃ a : Wrk, av = wkC a := by
  refine (Opens.struct (Vs := [_, _, _]) Tryz.underlying62 (by kernel_rfl) ⟨rfl, opens_int, by kernel_rfl, opens_int, by kernel_rfl, opens_int, trivial⟩).mono ?_
  rintro av ⟨ass, h, rfl⟩
  obtain ⟨a, b, c, rfl, ⟨n, _, rfl⟩, ⟨m, _, rfl⟩, ⟨k, _, rfl⟩⟩ := h.three
  exact ⟨⟨n, m, k⟩, rfl⟩
theorem c62 : 0 < Pg.cellsOf 62 := by rw [show Pg.cellsOf 62 = 3 by kernel_rfl]; omega
theorem opens_again : Opens Pg w μ 29 fun av => ∃ a : Agn, av = a.cells := by
  refine (Opens.struct (Vs := [_, _, _, _, _]) Tryz.underlying29 (by kernel_rfl) ⟨rfl, opens_hull, by kernel_rfl, opens_ints, by kernel_rfl, opens_int, by kernel_rfl, Opens.fl Tryz.underlying27 (by kernel_rfl) c62 opens_work, by kernel_rfl, opens_int, trivial⟩).mono ?_
  rintro av ⟨ass, h, rfl⟩
  obtain ⟨a, b, c, d, e, rfl, ⟨n, rfl⟩, ⟨m, rfl⟩, ⟨k, _, rfl⟩, ⟨o, rfl⟩, ⟨q, _, rfl⟩⟩ := h.five'
  exact ⟨⟨n, m, k, o, q⟩, rfl⟩
theorem opens_u8 : Opens Pg w μ 5 fun av => ∃ n : Int, (0 ≤ n ∧ n ≤ 255) ∧ av = [.int .u8 n] :=
  (Opens.int Tryz.underlying5 (by kernel_rfl)).mono fun av ⟨n, h1, h2⟩ => ⟨n, bounds_u8 h1, h2⟩
end

theorem kids : Kids Pg (· < Pg.types.size) := kids_rows (by kernel_rfl) (by kernel_rfl)
theorem slices_full : ∀ t e, t < Pg.types.size → Pg.underlying t = some (.slice e) → 0 < Pg.cellsOf e := slices_full_of Pg (by kernel_rfl)
theorem ownKnobNone : ownKnob Pg.godebug = none := by kernel_rfl

end Go.Cw
end

/- The laws of chapter 11: spans, fathoms of a set. -/
section
set_option maxRecDepth 100000
set_option linter.unusedSimpArgs false
namespace Go.Cw
open Go Go.Proofs



end Go.Cw
end

/- Plain reckoning on the sets that can leak: what is under promise, and what is not; whose it is. -/
section
set_option maxRecDepth 100000
set_option linter.unusedSimpArgs false
namespace Go.Cw
open Go Go.Proofs

namespace Agn
theorem wrap64 {x : Int} (h1 : -9223372036854775808 ≤ x) (h2 : x ≤ 9223372036854775807) : IntKind.i64.wrap x = x := by
  simp [IntKind.wrap, IntKind.signed, IntKind.bits]
  omega
variable {a : Agn}
theorem cut_and (hv : a.Valid) {s : Int} (hs : 0 ≤ s ∧ s < 2 ^ a.n) (q : Nat → Bool) : bitI .and .i64 s (bits q a.n) = bits (fun i => inS s i && q i) a.n := by
  have hn6 := hv.n6
  have h := bitsI_and (inS s) q (show a.n ≤ 60 by omega)
  rwa [show bits (inS s) a.n = s from bits_of hs.1 hs.2] at h
theorem cut_not (hv : a.Valid) {s : Int} (hs : 0 ≤ s ∧ s < 2 ^ a.n) (q : Nat → Bool) : bitI .andNot .i64 s (bits q a.n) = bits (fun i => inS s i && !q i) a.n := by
  have hn6 := hv.n6
  have h := Ag.bitsI_andNot (inS s) q (show a.n ≤ 60 by omega)
  rwa [show bits (inS s) a.n = s from bits_of hs.1 hs.2] at h
theorem len_bits (s : Int) (q : Nat → Bool) : Ag.lenB a.F a.n (inS (bits (fun i => inS s i && q i) a.n)) = Ag.payS a.F a.n q s :=
  Ag.lenB_congr fun i hi => inS_bits _ hi
theorem bits_61 (hv : a.Valid) (p : Nat → Bool) : 0 ≤ bits p a.n ∧ bits p a.n < 2 ^ 62 := by
  have hn6 := hv.n6
  exact bits_fits p (by omega)
theorem span_has (hS : a.S ≠ []) (u : Nat → Bool) {s : Int} (hs : s ∈ a.S) : (a.spanP u).1 ≤ Ag.payS a.F a.n u s ∧ Ag.payS a.F a.n u s ≤ (a.spanP u).2 := (Ag.jn_spec hS).1 s hs
theorem span_lo (hS : a.S ≠ []) (u : Nat → Bool) : ∃ s ∈ a.S, Ag.payS a.F a.n u s = (a.spanP u).1 := (Ag.jn_spec hS).2.1
theorem span_hi (hS : a.S ≠ []) (u : Nat → Bool) : ∃ s ∈ a.S, Ag.payS a.F a.n u s = (a.spanP u).2 := (Ag.jn_spec hS).2.2
theorem pay_rng (hv : a.Valid) (u : Nat → Bool) (s : Int) : 0 ≤ Ag.payS a.F a.n u s ∧ Ag.payS a.F a.n u s ≤ 120 := by
  have hn6 := hv.n6
  have h1 := Ag.lenB_nonneg (n := a.n) (p := fun i => inS s i && u i) (f := a.F) fun i hi => by have := hv.fat hi; omega
  have h2 := Ag.lenB_bound (n := a.n) (p := fun i => inS s i && u i) (f := a.F) (M := 20) (fun i hi => by have := hv.fat hi; omega) (by omega)
  unfold Ag.payS
  omega
theorem own_le (hv : a.Valid) (g s : Int) : Ag.payS a.F a.n (a.ownB g) s ≤ Ag.payS a.F a.n (Ag.pr a.w a.t) s :=
  Ag.pay_mono (fun i hi => by have := hv.fat hi; omega) (fun i _ h => by unfold ownB at h; rw [Bool.and_eq_true] at h; exact h.1) s
theorem own_free (hv : a.Valid) (hS : a.S ≠ []) (g : Int) : (a.spanP (a.ownB g)).1 ≤ (a.spanP (Ag.pr a.w a.t)).2 ∧ (a.spanP (a.ownB g)).2 ≤ (a.spanP (Ag.pr a.w a.t)).2 := by
  obtain ⟨s, hs, e⟩ := span_hi hS (a.ownB g)
  obtain ⟨t, ht, e2⟩ := span_lo hS (a.ownB g)
  have h1 := own_le hv g s
  have h2 := span_has hS (Ag.pr a.w a.t) hs
  have h3 := own_le hv g t
  have h4 := span_has hS (Ag.pr a.w a.t) ht
  omega
theorem own_sum (hv : a.Valid) (s : Int) : Ag.payS a.F a.n (Ag.pr a.w a.t) s = Ag.payS a.F a.n (a.ownB 0) s + Ag.payS a.F a.n (a.ownB 1) s + Ag.payS a.F a.n (a.ownB 2) s + Ag.payS a.F a.n (a.ownB 3) s :=
  Ag.gangs_sum (fun w hw => by have := (hv.wo w hw).2.1; omega) s
def ownK (a : Agn) (g : Int) (k : Nat) : Int := bits (fun i => decide (i < k) && a.ownB g i) a.n
theorem ownK_zero (g : Int) : a.ownK g 0 = 0 := bits_zero.2 fun i _ => by simp
theorem ownK_all (g : Int) : a.ownK g a.n = bits (a.ownB g) a.n := bits_congr fun i hi => by simp [hi]
theorem ownK_no {g : Int} {k : Nat} (h : a.ownB g k = false) : a.ownK g (k + 1) = a.ownK g k := bits_congr fun i _ => by
  by_cases e : i = k
  · subst e; simp [h]
  · have : decide (i < k + 1) = decide (i < k) := decide_eq_decide.2 (by omega)
    rw [this]
theorem ownK_yes (hv : a.Valid) {g : Int} {k : Nat} (hk : k < a.n) (h : a.ownB g k = true) : bitI .or .i64 (a.ownK g k) (2 ^ k) = a.ownK g (k + 1) := by
  have hn6 := hv.n6
  unfold ownK
  rw [← bits_one hk, bitsI_or _ _ (by omega)]
  refine bits_congr fun i _ => ?_
  by_cases e : i = k
  · subst e; simp [h]
  · have : decide (i < k + 1) = decide (i < k) := decide_eq_decide.2 (by omega)
    rw [this]
    simp [e]
theorem under_bit (hv : a.Valid) {i : Nat} (hi : i < a.n) (d : Int) : bitI .and .i64 (a.under d / 2 ^ i) 1 = if Ag.pr a.w d i then 1 else 0 := by
  have hn6 := hv.n6
  exact bits_and1 _ (by omega) hi
noncomputable def gsum (a : Agn) (s : Int) : Nat → Int
  | 0 => 0
  | k + 1 => a.gsum s k + Ag.payS a.F a.n (a.ownB k) s
theorem gsum_all (hv : a.Valid) (s : Int) : a.gsum s 4 = Ag.payS a.F a.n (Ag.pr a.w a.t) s := by
  rw [own_sum hv]
  simp only [gsum]
  have e : (0 : Int) + Ag.payS a.F a.n (a.ownB ((0 : Nat) : Int)) s = Ag.payS a.F a.n (a.ownB 0) s := by rw [Int.zero_add]; rfl
  rw [e]
  rfl
theorem gsum_rng (hv : a.Valid) (s : Int) (k : Nat) : 0 ≤ a.gsum s k ∧ a.gsum s k ≤ k * 120 := by
  induction k with
  | zero => simp [gsum]
  | succ k ih =>
    have := pay_rng hv (a.ownB k) s
    simp only [gsum]
    omega
theorem gangV_ok (he : a.errL true = 0) {g : Int} (hg : GangOk g) : a.gangV g = .tup [SP2 (a.spanP (a.ownB g)), .int .i64 0] := by
  simp [gangV, gangP, hg, he]
theorem gangV_no (hv : a.Valid) {g : Int} (hg : ¬ GangOk g) : a.gangV g = .tup [SP2 (0, 0), .int .i64 2] := by
  have : a.errL false = 2 := by simp [errL, hv]
  simp [gangV, gangP, hg, this]
end Agn
end Go.Cw
end

/- The law AgainAsk: what its closure tells. -/
section
set_option maxRecDepth 100000
set_option linter.unusedSimpArgs false
namespace Go.Cw
open Go Go.Proofs

def Ag.yesK (n : Nat) (u : Nat → Bool) (S : List Int) (k : Nat) : Bool := (S.take k).any (Ag.yesS n u)
def Ag.noK (n : Nat) (u : Nat → Bool) (S : List Int) (k : Nat) : Bool := (S.take k).any fun s => !Ag.yesS n u s
theorem Ag.two_step {n : Nat} {u : Nat → Bool} {S : List Int} {k : Nat} (hk : k < S.length) : Ag.yesK n u S (k + 1) = (Ag.yesK n u S k || Ag.yesS n u S[k]) ∧ Ag.noK n u S (k + 1) = (Ag.noK n u S k || !Ag.yesS n u S[k]) := by
  have e : S.take (k + 1) = S.take k ++ [S[k]] := (List.take_append_getElem hk).symm
  unfold Ag.yesK Ag.noK
  rw [e]
  simp only [List.any_append, List.any_cons, List.any_nil, Bool.or_false]
  exact ⟨trivial, trivial⟩
theorem Ag.two_all {n : Nat} {u : Nat → Bool} {S : List Int} (hS : S ≠ []) : (Ag.yesK n u S S.length && Ag.noK n u S S.length) = decide (Ag.toldV n u S = 1) := by
  unfold Ag.yesK Ag.noK
  rw [List.take_length, Bool.eq_iff_iff, Bool.and_eq_true, decide_eq_true_eq, List.any_eq_true, List.any_eq_true, Ag.told_one hS]
  simp
theorem law11_AgainAsk_1_ok (a : Agn) (hs : a.Small) (hv : a.Valid) (hS : a.S ≠ []) (d l : Int) (hp : Hul.At d l) (s : Nat) (K : AEnd → Heap → Prop) (hK : K (.ret (.tup [.bool (a.setB d l), .bool true])) (hpV [(3, .row a.cells s)])) :
    ACalls Pg fn_law11_AgainAsk_1 [.int .i64 d, .int .i64 l, .ptr 3 0 s] (hpV [(3, .row a.cells s)]) K := by
  have hn6 := hv.n6
  have hk7 := hv.k7
  have hkl : a.h.snds.length < 8 := hk7
  have hto := hv.to
  have ht := mt Agn.S_nil.2 hS
  obtain ⟨f1, f2, f3, f4⟩ := Agn.flow_rng hv.h ht d l
  have hset := Agn.setB_iff hv.h (d := d) (l := l)
  obtain ⟨lo, hlo⟩ : ∃ x, x = (a.flowP d l).1 := ⟨_, rfl⟩
  obtain ⟨hi, hhi⟩ : ∃ x, x = (a.flowP d l).2 := ⟨_, rfl⟩
  have hfl : a.h.sumV (Hul.At d l) (a.h.wet d l) = .tup [.agg [.int .i64 lo, .int .i64 hi], .int .i64 0] := by
    simp only [Hul.sumV, if_pos hv.h, if_pos hp, if_neg ht]
    rw [hlo, hhi]; rfl
  have cF := leak_Flow_ok a.h hv.h.small d l
  rw [hfl] at cF
  rw [← hlo] at f1 f2
  rw [← hhi] at f3 f4
  rw [← hlo, ← hhi] at hset
  have hO : a.errO true = 0 := Agn.errO_zero.2 ⟨hv, rfl⟩
  have e3 : a.promV = .tup [.int .i64 (a.under a.t), .int .i64 0] := by simp [Agn.promV, hO]
  have cP := again_Promised_ok a hs
  rw [e3] at cP
  simp only [Agn.v_agg] at cP
  have n1 : ¬ lo < 0 := by omega
  have n2 : ¬ 24 < hi := by omega
  refine law11_AgainAsk_1.enter 300 (by simp) ?_
  simp [Agn.cells]
  refine PCallK.intro (PInv.func (first := []) (cap := []) (args := [a.h.v, .int .i64 d, .int .i64 l]) cF) ?_
  simp [n1, n2]
  intro s7
  refine Lp.intro (σ := Nat) (inv := fun k => lo + k ≤ 25 ∧ ∀ m : Int, lo ≤ m → m < lo + k → a.perB d l m = false)
    (vw := fun k => [(0, .int .i64 d), (1, .int .i64 l), (2, .ptr 3 0 s), (7, .ptr 307 0 (s7+1)), (9, .int .i64 (lo + k))])
    (hp := fun k => [(3, .row a.cells s), (307, .row [.int .i64 lo, .int .i64 hi] (s7+1))]) (ms := fun k => 26 - k) 0 ⟨by omega, fun m h1 h2 => by omega⟩ (by simp) (by simp [Agn.cells]) ?_
  rintro k ⟨hk1, hk2⟩ J hJ
  by_cases hkc : lo + k ≤ hi
  · obtain ⟨n, hn⟩ : ∃ n : Int, n = lo + k := ⟨_, rfl⟩
    rw [← hn] at hkc hk2 ⊢
    have hn24 : 0 ≤ n ∧ n ≤ 24 := by omega
    have hvm : (a.h.more ⟨d, l, n, n⟩).Valid := hv.h.more hk7 ⟨hp, hn24.1, Int.le_refl _, hn24.2⟩
    have cS := leak_Sets_ok _ hvm.small
    have hmc : (a.h.more ⟨d, l, n, n⟩).v = .agg [LS a.h.seams, LD (a.h.snds ++ [⟨d, l, n, n⟩])] := rfl
    rw [hmc] at cS
    simp [hkc, Agn.cells]
    intro s10 s49 s53
    refine xAp_cp (by simp) (by simp) (by omega) ?_
    simp
    refine PCallK.intro (PInv.func (law11_span_ok n n)) ?_
    simp [SP2]
    intro s60 s61
    refine xApN_cp (n := a.h.snds.length) (cs := sds a.h.snds) (by simp) (by simp) (by simp) (by omega) (by omega) ?_
    rw [show sds a.h.snds ++ [AVal.int .i64 d, .int .i64 l, .int .i64 n, .int .i64 n] = sds (a.h.snds ++ [⟨d, l, n, n⟩]) by simp [sds, fl, Sd.c]]
    simp
    have hnx : a.perB d l n = false → ∀ m : Int, lo ≤ m → m < lo + ((k + 1 : Nat) : Int) → a.perB d l m = false := fun h1 m h3 h4 => by
      by_cases e : m = n
      · rw [e, h1]
      · exact hk2 m h3 (by omega)
    have hn1 : n + 1 = lo + ((k + 1 : Nat) : Int) := by omega
    have hlen : (a.h.snds ++ [(⟨d, l, n, n⟩ : Sd)]).length = a.h.snds.length + 1 := by simp
    by_cases hE : a.soundS d l n = []
    · have hper : a.perB d l n = false := by unfold Agn.perB; simp [hE]
      have hsv : (a.h.more ⟨d, l, n, n⟩).setsV = .tup [L [], .int .i64 10] := by simp [Hul.setsV, hvm, Agn.setsL_nil.1 hE]
      rw [hsv] at cS
      refine FCall.frz1 361 rfl (v := .tup [L [], .int .i64 10]) ?_ (by simp) ?_
      · have := PInv.func (first := []) (cap := []) (args := [.agg [LS a.h.seams, LD (a.h.snds ++ [⟨d, l, n, n⟩])]]) cS
        simpa [LD] using this
      simp
      (repeat first | refine And.intro (by omega) ?_ | refine And.intro (Fits.of (by omega) (by omega)) ?_)
      exact hJ.next (k + 1) ⟨by omega, hnx hper⟩ (by omega) (by simp [hn1]) (by simp [Agn.cells])
    have hsv : (a.h.more ⟨d, l, n, n⟩).setsV = .tup [L (a.soundS d l n), .int .i64 0] := by
      simp only [Hul.setsV, if_pos hvm, if_neg (mt Agn.setsL_nil.2 hE)]
      rfl
    rw [hsv] at cS
    have hSl : (a.soundS d l n).length ≤ 15625 := Hul.setsL_len hvm
    have hSi : ∀ x ∈ a.soundS d l n, 0 ≤ x ∧ x < 2 ^ a.n := fun x hx => by
      have := Hul.setsL_lt hvm hx
      have e : (a.h.more ⟨d, l, n, n⟩).n = a.n := hv.len.symm
      rwa [e] at this
    have hper : a.perB d l n = decide (Ag.toldV a.n (Ag.pr a.w a.t) (a.soundS d l n) = 1) := by unfold Agn.perB; simp [hE]
    obtain ⟨SS, hSS⟩ : ∃ SS, SS = a.soundS d l n := ⟨_, rfl⟩
    rw [← hSS] at cS hSl hSi hper hE
    rw [← Ag.two_all hE] at hper
    refine FCall.frz1 361 rfl (v := .tup [L SS, .int .i64 0]) ?_ (by simp) ?_
    · have := PInv.func (first := []) (cap := []) (args := [.agg [LS a.h.seams, LD (a.h.snds ++ [⟨d, l, n, n⟩])]]) cS
      simpa [LD] using this
    simp
    refine PCallK.intro (PInv.func cP) ?_
    simp
    refine Lp.intro (σ := Nat) (inv := fun j => j ≤ SS.length)
      (vw := fun j => [(0, .int .i64 d), (1, .int .i64 l), (2, .ptr 3 0 s), (7, .ptr 307 0 (s7+1)), (9, .int .i64 n), (13, .bool (Ag.yesK a.n (Ag.pr a.w a.t) SS j)), (14, .bool (Ag.noK a.n (Ag.pr a.w a.t) SS j)), (15, .int .i64 (a.under a.t)), (16, .int .i64 0), (79, L SS), (80, .int .i64 SS.length), (81, .int .i64 j)])
      (hp := fun j => [(3, .row a.cells s), (307, .row [.int .i64 lo, .int .i64 hi] (s7+1))]) (ms := fun j => SS.length - j) 0 (by omega) (by simp [Ag.yesK, Ag.noK]) (by simp [Agn.cells]) ?_
    intro j hj J2 hJ2
    by_cases hjc : j < SS.length
    · obtain ⟨x, hx⟩ : ∃ x, SS[j] = x := ⟨_, rfl⟩
      have hxg : SS[j]? = some x := by rw [List.getElem?_eq_getElem hjc, hx]
      have hxr := hSi x (by rw [← hx]; exact List.getElem_mem hjc)
      obtain ⟨t1, t2⟩ := Ag.two_step (n := a.n) (u := Ag.pr a.w a.t) hjc
      have hyn := Ag.andNot_yes hn6 (Ag.pr a.w a.t) hxr
      rw [show bits (Ag.pr a.w a.t) a.n = a.under a.t from rfl] at hyn
      rw [hx, ← hyn] at t1 t2
      cases e1 : Ag.yesK a.n (Ag.pr a.w a.t) SS j <;> cases e2 : Ag.noK a.n (Ag.pr a.w a.t) SS j
      all_goals
        rw [e1] at t1
        rw [e2] at t2
        by_cases c0 : (x = 0) = True
        · simp [hjc, hx, hxg, c0, e1, e2]
          (repeat first | refine And.intro (by omega) ?_ | refine And.intro (Fits.of (by omega) (by omega)) ?_)
          exact hJ2.next (j + 1) (by omega) (by omega) (by simp [t1, t2, c0]) (by simp)
        · have c0 : (x = 0) = False := eq_false (fun h => c0 (eq_true h))
          simp [hjc, hx, hxg, c0, e1, e2]
          (repeat first | refine And.intro (by omega) ?_ | refine And.intro (Fits.of (by omega) (by omega)) ?_)
          exact hJ2.next (j + 1) (by omega) (by omega) (by simp [t1, t2, c0]) (by simp)
    obtain rfl : j = SS.length := by omega
    simp
    refine hJ2.exit ?_
    cases e1 : Ag.yesK a.n (Ag.pr a.w a.t) SS SS.length <;> cases e2 : Ag.noK a.n (Ag.pr a.w a.t) SS SS.length
    all_goals
      rw [e1, e2] at hper
      simp [e1, e2]
    · (repeat first | refine And.intro (by omega) ?_ | refine And.intro (Fits.of (by omega) (by omega)) ?_)
      exact hJ.next (k + 1) ⟨by omega, hnx hper⟩ (by omega) (by simp [hn1]) (by simp [Agn.cells])
    · (repeat first | refine And.intro (by omega) ?_ | refine And.intro (Fits.of (by omega) (by omega)) ?_)
      exact hJ.next (k + 1) ⟨by omega, hnx hper⟩ (by omega) (by simp [hn1]) (by simp [Agn.cells])
    · (repeat first | refine And.intro (by omega) ?_ | refine And.intro (Fits.of (by omega) (by omega)) ?_)
      exact hJ.next (k + 1) ⟨by omega, hnx hper⟩ (by omega) (by simp [hn1]) (by simp [Agn.cells])
    · have hno : a.setB d l = false := by
        cases hb : a.setB d l
        · rfl
        · have := hset.1 hb n (by omega) hkc
          rw [hper] at this
          cases this
      refine hJ.ret ?_
      simp
      exact RetV.view [(3, .row a.cells s)] (by simp [Agn.cells]) (by rw [← hno]; exact hK)
  have hall : a.setB d l = true := hset.2 fun m h1 h2 => hk2 m h1 (by omega)
  rw [hall] at hK
  simp [hkc]
  refine hJ.exit ?_
  simp
  exact RetV.view [(3, .row a.cells s)] (by simp [Agn.cells]) hK
end Go.Cw
end

/- The law AgainAsk, walked. -/
section
set_option maxRecDepth 100000
set_option linter.unusedSimpArgs false
namespace Go.Cw
open Go Go.Proofs

namespace Agn
variable {a : Agn}
theorem places_sorted : places.Pairwise fun p q => p.1 < q.1 ∨ p.1 = q.1 ∧ p.2 < q.2 := by decide +kernel
theorem ask_none (h : a.askP = none) {x y : Int} (hp : Hul.At x y) : a.setB x y = false := by
  have := List.find?_eq_none.1 h (x, y) (mem_places.2 hp)
  simpa using this
theorem ask_some {d l : Int} (h : a.askP = some (d, l)) : Hul.At d l ∧ a.setB d l = true ∧ ∀ x y, Hul.At x y → a.setB x y = true → x > d ∨ x = d ∧ y ≥ l := by
  obtain ⟨h1, ps, qs, e, h2⟩ := List.find?_eq_some_iff_append.1 h
  refine ⟨(mem_places (p := (d, l))).1 (by rw [e]; simp), h1, fun x y hp hb => ?_⟩
  have hm := (mem_places (p := (x, y))).2 hp
  have hs := places_sorted
  rw [e] at hm hs
  rcases List.mem_append.1 hm with hm | hm
  · have := h2 _ hm
    simp [hb] at this
  · rcases List.mem_cons.1 hm with hm | hm
    · simp only [Prod.mk.injEq] at hm
      omega
    · rw [List.pairwise_append, List.pairwise_cons] at hs
      have := hs.2.1.1 _ hm
      simp only at this
      omega
end Agn
theorem law11_AgainAsk_ok (a : Agn) (b : Int) (hb : 0 ≤ b ∧ b ≤ 255) (c : Int) (hc : 0 ≤ c ∧ c ≤ 255) : APure Pg fn_law11_AgainAsk [a.v, .int .u8 b, .int .u8 c] (.bool true) := by
  have cL := PInv.func (first := []) (cap := []) (args := [a.v]) (law11_long_ok a)
  have cA := PInv.func (first := []) (cap := []) (args := []) law11_alive_ok
  refine law11_AgainAsk.pure (by simp) ?_
  simp
  intro s3
  refine PCallK.intro cL ?_
  cases hl : a.longB with
  | true =>
    simp
    refine PCallK.intro cA ?_
    simp
    exact RetV.refl rfl
  | false =>
  have hs := Agn.long_small hl
  have cS := ref11_Ship_ok a hs
  simp only [Agn.v_agg] at cS
  simp
  refine PCallK.intro (PInv.func cS) ?_
  by_cases hv : ¬ a.Valid
  · simp [hv]
    refine PCallK.intro cA ?_
    simp
    exact RetV.refl rfl
  replace hv := Classical.not_not.1 hv
  have cK := again_Ask_ok a hs
  have cY := again_Yard_ok a hs
  by_cases he : ¬ a.errL true = 0
  · have hS : a.S = [] := Classical.byContradiction fun h => he (Agn.errL_zero.2 ⟨hv, rfl, h⟩)
    have h10 : a.errL true = 10 := by unfold Agn.errL; rw [if_pos hv]; simp only [if_true]; rw [if_pos hS]
    have e1 : a.askV = .tup [.int .i64 0, .int .i64 0, .int .i64 10] := by simp [Agn.askV, Agn.errA, h10]
    have e2 : a.yardV = .tup [.int .i64 0, .int .i64 10] := by simp [Agn.yardV, h10]
    rw [e1] at cK
    rw [e2] at cY
    simp only [Agn.v_agg] at cK cY
    simp [hv]
    refine PCallK.intro (PInv.func cK) ?_
    simp
    refine PCallK.intro (PInv.func cY) ?_
    simp
    refine PCallK.intro cA ?_
    simp
    exact RetV.refl rfl
  replace he := Classical.not_not.1 he
  obtain ⟨_, _, hS⟩ := Agn.errL_zero.1 he
  have e2 : a.yardV = .tup [.int .i64 a.yardN, .int .i64 0] := by simp [Agn.yardV, he]
  rw [e2] at cY
  by_cases hy : ¬ a.yardN = 1
  · have e1 : a.askV = .tup [.int .i64 0, .int .i64 0, .int .i64 11] := by simp [Agn.askV, Agn.errA, he, hy]
    rw [e1] at cK
    simp only [Agn.v_agg] at cK cY
    simp [hv]
    refine PCallK.intro (PInv.func cK) ?_
    simp
    refine PCallK.intro (PInv.func cY) ?_
    simp [hy]
    refine PCallK.intro cA ?_
    simp
    exact RetV.refl rfl
  replace hy := Classical.not_not.1 hy
  obtain ⟨x, hx⟩ : ∃ x, b.tmod 13 = x := ⟨_, rfl⟩
  obtain ⟨z, hz⟩ : ∃ z, c.tmod 7 = z := ⟨_, rfl⟩
  have hx0 : 0 ≤ x ∧ x < 13 := by rw [← hx]; exact ⟨Int.tmod_nonneg 13 hb.1, Int.tmod_lt_of_pos b (by omega)⟩
  have hz0 : 0 ≤ z ∧ z < 7 := by rw [← hz]; exact ⟨Int.tmod_nonneg 7 hc.1, Int.tmod_lt_of_pos c (by omega)⟩
  have hat : Hul.At x (z - 3) := by unfold Hul.At; omega
  have hwb := Agn.wrap64 (x := b) (by omega) (by omega)
  have hwc := Agn.wrap64 (x := c) (by omega) (by omega)
  cases hak : a.askP with
  | none =>
    have hno := Agn.ask_none hak hat
    have e1 : a.askV = .tup [.int .i64 0, .int .i64 0, .int .i64 4] := by simp [Agn.askV, Agn.errA, he, hy, hak]
    rw [e1] at cK
    simp only [Agn.v_agg] at cK cY
    simp [hv]
    refine PCallK.intro (PInv.func cK) ?_
    simp
    refine PCallK.intro (PInv.func cY) ?_
    simp [hy, hwb, hwc, hx, hz]
    refine ⟨Fits.of (by omega) (by omega), Fits.of (by omega) (by omega), Fits.of (by omega) (by omega), ?_⟩
    refine FCall.cps [(3, .row a.cells (s3+1))] (fun _ : Unit => .tup [.bool false, .bool true]) (fun _ => [(3, .row a.cells (s3+1))]) (fun _ => True) (fun K' hK' => AInvoke.func (law11_AgainAsk_1_ok a hs hv hS x (z - 3) hat (s3+1) K' (by rw [hno]; exact hK' () trivial))) (by simp [Agn.cells]) (fun _ => rfl) trivial (fun _ _ => ⟨trivial, ?_⟩)
    simp
    refine PCallK.intro cA ?_
    simp
    exact RetV.refl rfl
  | some p =>
    obtain ⟨d, l⟩ := p
    obtain ⟨hdl, hyes, hleast⟩ := Agn.ask_some hak
    have hl2 := hleast x (z - 3) hat
    obtain ⟨hd1, hd2⟩ := id hdl
    have e1 : a.askV = .tup [.int .i64 d, .int .i64 l, .int .i64 0] := by simp [Agn.askV, Agn.errA, he, hy, hak]
    rw [e1] at cK
    simp only [Agn.v_agg] at cK cY
    simp [hv]
    refine PCallK.intro (PInv.func cK) ?_
    simp
    refine PCallK.intro (PInv.func cY) ?_
    simp [hy, hwb, hwc, hx, hz]
    refine ⟨Fits.of (by omega) (by omega), Fits.of (by omega) (by omega), Fits.of (by omega) (by omega), ?_⟩
    refine FCall.cps [(3, .row a.cells (s3+1))] (fun _ : Unit => .tup [.bool (a.setB x (z - 3)), .bool true]) (fun _ => [(3, .row a.cells (s3+1))]) (fun _ => True) (fun K' hK' => AInvoke.func (law11_AgainAsk_1_ok a hs hv hS x (z - 3) hat (s3+1) K' (hK' () trivial))) (by simp [Agn.cells]) (fun _ => rfl) trivial (fun _ _ => ⟨trivial, ?_⟩)
    have n1 : ¬ d < 0 := by omega
    have n2 : ¬ 12 < d := by omega
    have n3 : ¬ l < -3 := by omega
    have n4 : ¬ 3 < l := by omega
    simp [n1, n2, n3, n4]
    refine FCall.cps [(3, .row a.cells (s3+1))] (fun _ : Unit => .tup [.bool true, .bool true]) (fun _ => [(3, .row a.cells (s3+1))]) (fun _ => True) (fun K' hK' => AInvoke.func (law11_AgainAsk_1_ok a hs hv hS d l hdl (s3+1) K' (by rw [hyes]; exact hK' () trivial))) (by simp [Agn.cells]) (fun _ => rfl) trivial (fun _ _ => ⟨trivial, ?_⟩)
    cases hb2 : a.setB x (z - 3) with
    | false =>
      simp
      refine PCallK.intro cA ?_
      simp
      exact RetV.refl rfl
    | true =>
      have h3 := hl2 hb2
      by_cases h4 : d < x
      · simp [h4]
        refine PCallK.intro cA ?_
        simp
        exact RetV.refl rfl
      · have h5 : x = d ∧ l ≤ z - 3 := by omega
        simp [h5]
        refine PCallK.intro cA ?_
        simp
        exact RetV.refl rfl
end Go.Cw
end
