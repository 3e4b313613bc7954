/-
  What the document's reference of layer 11 computes; laws of layer 11; how a ship is read as an argument.
-/
import Derived.Test.YtkcppdggfnfpiaaGreatWb
import Derived.Test.YtkcppdggfnfpiaaGreatLa
import Derived.Test.YtkcppdggfnfpiaaGreatAe
import Derived.Test.YtkcppdggfnfpiaaGreatAf
import Derived.Test.YtkcppdggfnfpiaaGreatRows
set_option linter.unusedVariables false
set_option linter.unusedSimpArgs false
set_option linter.unusedSectionVars false

/- The reference of chapter 11: is a ship valid; the last works; promises. -/
section
set_option maxRecDepth 100000
set_option linter.unusedSimpArgs false
namespace Go.Cw
open Go Go.Proofs

theorem ref11_in_ok (n lo hi : Int) : APure Pg fn_ref11_in [.int .i64 n, .int .i64 lo, .int .i64 hi] (.bool (decide (lo ≤ n ∧ n ≤ hi))) := by
  refine ref11_in.pure (by simp) ?_
  by_cases h : lo ≤ n <;> simp [h] <;> refine RetV.refl ?_ <;> simp_all

theorem ref11_Ship_ok (a : Agn) (hs : a.Small) : APure Pg fn_ref11_Ship [a.v] (.bool (decide a.Valid)) := by
  have hf40 := hs.f
  have hw40 := hs.w
  have hfn : a.f.length = a.n := rfl
  refine ref11_Ship.pure (by simp) ?_
  simp
  intro s1
  refine PCallK.intro (PInv.func (first := []) (cap := []) (args := [a.h.v]) (ref01_Hull_ok a.h hs.h)) ?_
  by_cases c1 : ¬ a.h.Valid
  · have hn : ¬ a.Valid := fun hv => c1 hv.h
    simp [c1]
    exact RetV.refl (by simp [hn])
  replace c1 := Classical.not_not.1 c1
  have hsl : a.h.seams.length ≤ 6 := c1.n6
  have hdl : a.h.snds.length ≤ 8 := c1.k8
  by_cases c2 : ¬ a.h.snds.length < 8
  · have hn : ¬ a.Valid := fun hv => c2 hv.k7
    have c2' : (8 : Int) ≤ a.h.snds.length := by omega
    simp [c1, c2']
    exact RetV.refl (by simp [hn])
  replace c2 := Classical.not_not.1 c2
  have c2' : ¬ (8 : Int) ≤ a.h.snds.length := by omega
  by_cases c3 : ¬ a.f.length = a.h.seams.length
  · have hn : ¬ a.Valid := fun hv => c3 hv.len
    have c3' : ¬ (a.f.length : Int) = a.h.seams.length := by omega
    simp [c1, c2', c3, c3']
    exact RetV.refl (by simp [hn])
  replace c3 := Classical.not_not.1 c3
  have c3' : (a.f.length : Int) = a.h.seams.length := by omega
  simp [c1, c2', c3, c3']
  refine PCallK.intro (PInv.func (ref11_in_ok _ _ _)) ?_
  by_cases c4 : ¬ (0 ≤ a.c ∧ a.c ≤ 100)
  · have hn : ¬ a.Valid := fun hv => c4 hv.co
    simp [c4]
    exact RetV.refl (by simp [hn])
  replace c4 := Classical.not_not.1 c4
  simp [c4]
  refine PCallK.intro (PInv.func (ref11_in_ok _ _ _)) ?_
  by_cases c5 : ¬ (0 ≤ a.t ∧ a.t ≤ 5000)
  · have hn : ¬ a.Valid := fun hv => c5 hv.to
    simp [c5]
    exact RetV.refl (by simp [hn])
  replace c5 := Classical.not_not.1 c5
  simp [c5]
  by_cases c6 : ¬ a.w.length ≤ 12
  · have hn : ¬ a.Valid := fun hv => c6 hv.w12
    have c6' : (12 : Int) < a.w.length := by omega
    simp [c6']
    exact RetV.refl (by simp [hn])
  replace c6 := Classical.not_not.1 c6
  have c6' : ¬ (12 : Int) < a.w.length := by omega
  simp [c6']
  refine Lp.intro (σ := Nat) (inv := fun k => k ≤ a.f.length ∧ ∀ x ∈ a.f.take k, 1 ≤ x ∧ x ≤ 20) (vw := fun k => [(1, .ptr 1 0 (s1+1)), (3, .int .i64 k)]) (hp := fun _ => [(1, .row a.cells (s1+1))]) (ms := fun k => a.f.length - k) 0 (by simp) (by simp) (by simp [Agn.cells]) ?_
  rintro k ⟨hk, hall⟩ J hJ
  by_cases hkc : k < a.f.length
  · obtain ⟨x, hx⟩ : ∃ x, a.f[k] = x := ⟨_, rfl⟩
    have hg : a.f[k]? = some x := by rw [List.getElem?_eq_getElem hkc, hx]
    simp [hkc, hx, hg, Agn.cells]
    refine PCallK.intro (PInv.func (ref11_in_ok _ _ _)) ?_
    by_cases hb : 1 ≤ x ∧ x ≤ 20
    · simp [hb]
      (repeat first | refine And.intro (by omega) ?_ | refine And.intro (Fits.of (by omega) (by omega)) ?_)
      refine hJ.next (k + 1) ⟨by omega, fun y hy => ?_⟩ (by omega) (by simp) (by simp [Agn.cells])
      rw [← List.take_append_getElem hkc] at hy
      rcases List.mem_append.1 hy with hy | hy
      · exact hall y hy
      · simp [hx] at hy; rw [hy]; exact hb
    · have hn : ¬ a.Valid := fun hv => hb (hv.fa x (by rw [← hx]; exact List.getElem_mem hkc))
      simp [hb]
      refine hJ.ret ?_
      simp
      exact RetV.refl (by simp [hn])
  obtain rfl : k = a.f.length := by omega
  rw [List.take_length] at hall
  simp [Agn.cells]
  refine hJ.exit ?_
  simp
  refine Lp.intro (σ := Nat) (inv := fun k => k ≤ a.w.length ∧ ∀ x ∈ a.w.take k, a.OkW x) (vw := fun k => [(1, .ptr 1 0 (s1+1)), (4, .int .i64 k)]) (hp := fun _ => [(1, .row a.cells (s1+1))]) (ms := fun k => a.w.length - k) 0 (by simp) (by simp) (by simp [Agn.cells]) ?_
  rintro k ⟨hk, hallw⟩ J hJ
  by_cases hkc : k < a.w.length
  · obtain ⟨x, hx⟩ : ∃ x, a.w[k] = x := ⟨_, rfl⟩
    have hg : a.w[k]? = some x := by rw [List.getElem?_eq_getElem hkc, hx]
    have hno : ¬ a.OkW x → ¬ a.Valid := fun h hv => h (hv.wo x (by rw [← hx]; exact List.getElem_mem hkc))
    have hsm : a.h.Seam x.s ↔ 0 ≤ x.s ∧ x.s < a.n := by
      unfold Hul.Seam
      have : (a.h.n : Int) = a.n := by rw [← hfn]; exact c3'.symm
      rw [this]
    simp [hkc, hx, hg, Agn.cells]
    refine ⟨by omega, fun s5 => ?_⟩
    refine PCallK.intro (PInv.func (first := []) (cap := []) (args := [a.h.v, .int .i64 x.s]) (ref01_Seam_ok a.h hs.h x.s)) ?_
    by_cases d1 : ¬ a.h.Seam x.s
    · have hn := hno fun h => d1 (hsm.2 h.1)
      simp [d1]
      refine hJ.ret ?_
      simp
      exact RetV.refl (by simp [hn])
    replace d1 := Classical.not_not.1 d1
    simp [d1]
    refine PCallK.intro (PInv.func (ref11_in_ok _ _ _)) ?_
    by_cases d2 : ¬ (0 ≤ x.g ∧ x.g ≤ 3)
    · have hn := hno fun h => d2 h.2.1
      simp [d2]
      refine hJ.ret ?_
      simp
      exact RetV.refl (by simp [hn])
    replace d2 := Classical.not_not.1 d2
    simp [d2]
    refine PCallK.intro (PInv.func (ref11_in_ok _ _ _)) ?_
    by_cases d3 : ¬ (0 ≤ x.d ∧ x.d ≤ a.t)
    · have hn := hno fun h => d3 h.2.2
      simp [d3]
      refine hJ.ret ?_
      simp
      exact RetV.refl (by simp [hn])
    replace d3 := Classical.not_not.1 d3
    simp [d3]
    (repeat first | refine And.intro (by omega) ?_ | refine And.intro (Fits.of (by omega) (by omega)) ?_)
    refine hJ.next (k + 1) ⟨by omega, fun y hy => ?_⟩ (by omega) (by simp) (by simp [Agn.cells])
    rw [← List.take_append_getElem hkc] at hy
    rcases List.mem_append.1 hy with hy | hy
    · exact hallw y hy
    · simp [hx] at hy; rw [hy]; exact ⟨hsm.1 d1, d2, d3⟩
  obtain rfl : k = a.w.length := by omega
  rw [List.take_length] at hallw
  have hv : a.Valid := ⟨c1, c2, c3, hall, c4, c5, c6, hallw⟩
  simp [Agn.cells]
  refine hJ.exit ?_
  simp
  exact RetV.refl (by simp [hv])
namespace Ag
def lastI (W : List Wrk) (i : Int) : Nat → Int
  | 0 => -1
  | k + 1 => match W[k]? with
    | some w => if w.s = i then (match lastW (W.take k) i with
      | none => k
      | some v => if v.d ≤ w.d then k else lastI W i k) else lastI W i k
    | none => lastI W i k
theorem lastI_spec (W : List Wrk) (i : Int) : ∀ k, k ≤ W.length → (lastI W i k = -1 ∧ lastW (W.take k) i = none) ∨ ∃ j, j < k ∧ lastI W i k = j ∧ ∃ v, W[j]? = some v ∧ lastW (W.take k) i = some v
  | 0, _ => .inl ⟨rfl, rfl⟩
  | k + 1, hk => by
    have hkc : k < W.length := by omega
    have ih := lastI_spec W i k (by omega)
    have hg : W[k]? = some W[k] := List.getElem?_eq_getElem hkc
    have ht : W.take (k + 1) = W.take k ++ [W[k]] := (List.take_append_getElem hkc).symm
    simp only [lastI, hg]
    rw [ht, lastW_push]
    rcases ih with ⟨h1, h2⟩ | ⟨j, h1, h2, v, h3, h4⟩
    · rw [h2]
      simp only [betW]
      by_cases e : W[k].s = i
      · rw [if_pos e, if_pos e]
        exact .inr ⟨k, by omega, rfl, _, hg, rfl⟩
      · rw [if_neg e, if_neg e]
        exact .inl ⟨h1, rfl⟩
    · rw [h4]
      simp only [betW]
      by_cases e : W[k].s = i
      · rw [if_pos e]
        by_cases e2 : v.d ≤ W[k].d
        · rw [if_pos e2, if_pos ⟨e, e2⟩]
          exact .inr ⟨k, by omega, rfl, _, hg, rfl⟩
        · rw [if_neg e2, if_neg fun h => e2 h.2]
          exact .inr ⟨j, by omega, h2, v, h3, rfl⟩
      · rw [if_neg e, if_neg fun h => e h.1]
        exact .inr ⟨j, by omega, h2, v, h3, rfl⟩
end Ag

structure Agn.Days (a : Agn) : Prop where
  w : a.w.length ≤ 40
  d : ∀ x ∈ a.w, 0 ≤ x.d ∧ x.d ≤ 5000
  t : 0 ≤ a.t ∧ a.t ≤ 1000000
theorem Agn.Valid.days {a : Agn} (hv : a.Valid) : a.Days := ⟨by have := hv.w12; omega, fun x hx => by have := (hv.wo x hx).2.2; have := hv.to; omega, by have := hv.to; omega⟩



end Go.Cw
end

/- The reference of chapter 11: promises; what truths tell. -/
section
set_option maxRecDepth 100000
set_option linter.unusedSimpArgs false
namespace Go.Cw
open Go Go.Proofs


noncomputable def Agn.truthsL (a : Agn) (is : Bool) : List (List Int) := if a.errL is = 0 then a.h.truths a.h.every else []
noncomputable def Agn.tellV (a : Agn) (is : Bool) : AVal := .tup [LLv (a.truthsL is), .int .i64 (a.errL is)]

def Agn.isT (a : Agn) (t : List Int) : Bool := (List.range t.length).any (fun i => decide (0 < ofL t i)) && (List.range t.length).all (fun i => !decide (0 < ofL t i) || Ag.pr a.w a.t i)

def Agn.yardT (a : Agn) (T : List (List Int)) : Int := if T.all a.isT then 2 else if T.any a.isT then 1 else 0

theorem Agn.isT_yes {a : Agn} {t : List Int} (h : t.length = a.n) : a.isT t = Ag.yesS a.n (Ag.pr a.w a.t) (leaksT t) := by
  have hin : ∀ i, i < a.n → inS (leaksT t) i = decide (0 < ofL t i) := fun i hi => by
    unfold leaksT
    exact inS_bits _ (by rw [h]; exact hi)
  rw [Bool.eq_iff_iff, Ag.yes_iff]
  unfold Agn.isT
  rw [Bool.and_eq_true, List.any_eq_true, List.all_eq_true, h]
  have hz : leaksT t ≠ 0 ↔ ∃ i ∈ List.range a.n, decide (0 < ofL t i) = true := by
    unfold leaksT
    rw [ne_eq, bits_zero, h]
    constructor
    · intro hn
      refine Classical.byContradiction fun hx => hn fun i hi => ?_
      cases hb : decide (0 < ofL t i)
      · rfl
      · exact absurd ⟨i, List.mem_range.2 hi, hb⟩ hx
    · rintro ⟨i, hi, hb⟩ hn
      rw [hn i (List.mem_range.1 hi)] at hb
      cases hb
  rw [hz]
  refine and_congr_right fun _ => ⟨fun H i hi hs => ?_, fun H i hi => ?_⟩
  · have := H i (List.mem_range.2 hi)
    rw [← hin i hi, hs] at this
    simpa using this
  · have hi' := List.mem_range.1 hi
    rw [← hin i hi']
    cases hs : inS (leaksT t) i
    · rfl
    · simpa using H i hi' hs
theorem Agn.yardT_eq {a : Agn} {h : Hul} (hv : h.Valid) (hn : h.n = a.n) (ht : h.truths h.every ≠ []) : a.yardT (h.truths h.every) = Ag.toldV a.n (Ag.pr a.w a.t) h.setsL := by
  have hm : ∀ s, s ∈ h.setsL ↔ ∃ t ∈ h.truths h.every, leaksT t = s := fun s => Agn.mem_S (a := ⟨h, [], 0, [], 0⟩)
  have hi : ∀ t ∈ h.truths h.every, a.isT t = Ag.yesS a.n (Ag.pr a.w a.t) (leaksT t) := fun t h1 => Agn.isT_yes (by rw [(truths_in hv h1).1]; exact hn)
  have hS : h.setsL ≠ [] := mt Agn.setsL_nil.1 ht
  unfold Agn.yardT
  by_cases h1 : (h.truths h.every).all a.isT = true
  · rw [if_pos h1]
    symm
    rw [Ag.told_two hS]
    intro s hs
    obtain ⟨t, h2, rfl⟩ := (hm s).1 hs
    rw [← hi t h2]
    exact List.all_eq_true.1 h1 t h2
  · rw [if_neg h1]
    by_cases h2 : (h.truths h.every).any a.isT = true
    · rw [if_pos h2]
      symm
      rw [Ag.told_one hS]
      obtain ⟨t, h3, h4⟩ := List.any_eq_true.1 h2
      have h1 : (h.truths h.every).all a.isT = false := by simpa using h1
      obtain ⟨u, h5, h6⟩ := List.all_eq_false.1 h1
      refine ⟨⟨_, (hm _).2 ⟨t, h3, rfl⟩, by rw [← hi t h3]; exact h4⟩, _, (hm _).2 ⟨u, h5, rfl⟩, by rw [← hi u h5]; simpa using h6⟩
    · rw [if_neg h2]
      symm
      rw [Ag.told_zero hS]
      intro s hs
      obtain ⟨t, h3, rfl⟩ := (hm s).1 hs
      rw [← hi t h3]
      cases hb : a.isT t
      · rfl
      · exact absurd (List.any_eq_true.2 ⟨t, h3, hb⟩) h2
theorem Agn.truths_len {h : Hul} (hv : h.Valid) : (h.truths h.every).length ≤ 15625 := by
  have hlen := hv.ext_len h.every []
  rwa [← Hul.truths_ext] at hlen

end Go.Cw
end

/- The reference of chapter 11: fathoms; who pays; whose work leaks. -/
section
set_option maxRecDepth 100000
set_option linter.unusedSimpArgs false
namespace Go.Cw
open Go Go.Proofs

def Agn.cntB (a : Agn) (under : Bool) (g : Int) (i : Nat) : Bool := (Ag.pr a.w a.t i == under) && (decide (g < 0) || decide (Ag.ofW a.w i = g))
def Agn.lenT (a : Agn) (t : List Int) (under : Bool) (g : Int) : Int := Ag.lenB a.F t.length fun i => decide (0 < ofL t i) && a.cntB under g i


noncomputable def Agn.lensP (a : Agn) (under : Bool) (g : Int) (is : Bool) : Int × Int := if a.errL is = 0 then spanOf ((a.h.truths a.h.every).map fun t => a.lenT t under g) else (0, 0)

end Go.Cw
end

/- The reference of chapter 11: Pays, Nothing, Gang, Blame, Until. -/
section
set_option maxRecDepth 100000
set_option linter.unusedSimpArgs false
namespace Go.Cw
open Go Go.Proofs

theorem Agn.lenT_pay {a : Agn} {t : List Int} (h : t.length = a.n) {under : Bool} {g : Int} {u : Nat → Bool} (hu : ∀ i, i < a.n → a.cntB under g i = u i) : a.lenT t under g = Ag.payS a.F a.n u (leaksT t) := by
  unfold Agn.lenT Ag.payS
  rw [h]
  refine Ag.lenB_congr fun i hi => ?_
  rw [hu i hi]
  congr 1
  unfold leaksT
  exact (inS_bits (fun i => decide (0 < ofL t i)) (n := t.length) (by rw [h]; exact hi)).symm
theorem Agn.lensP_eq {a : Agn} {is : Bool} (he : a.errL is = 0) {under : Bool} {g : Int} {u : Nat → Bool} (hu : ∀ i, i < a.n → a.cntB under g i = u i) : a.lensP under g is = a.spanP u := by
  obtain ⟨hv, _, hS⟩ := Agn.errL_zero.1 he
  have ht := mt Agn.S_nil.2 hS
  unfold Agn.lensP
  rw [if_pos he]
  have hmap : ((a.h.truths a.h.every).map fun t => a.lenT t under g) = (a.h.truths a.h.every).map fun t => Ag.payS a.F a.n u (leaksT t) :=
    List.map_congr_left fun t h1 => Agn.lenT_pay (by rw [(truths_in hv.h h1).1]; exact hv.len.symm) hu
  rw [hmap]
  obtain ⟨l, hl⟩ : ∃ l, l = (a.h.truths a.h.every).map fun t => Ag.payS a.F a.n u (leaksT t) := ⟨_, rfl⟩
  have hne : l ≠ [] := by rw [hl]; simpa using ht
  obtain ⟨h1, h2⟩ := Agn.span_in hne
  rw [← hl]
  unfold Agn.spanP
  symm
  have hmem : ∀ y, y ∈ l → ∃ s ∈ a.S, Ag.payS a.F a.n u s = y := fun y hy => by
    rw [hl] at hy
    obtain ⟨t, h3, h4⟩ := List.mem_map.1 hy
    exact ⟨leaksT t, Agn.mem_S.2 ⟨t, h3, rfl⟩, h4⟩
  refine Ag.jn_eq hS (fun s hs => ?_) (hmem _ h1) (hmem _ h2)
  obtain ⟨t, h3, rfl⟩ := Agn.mem_S.1 hs
  exact Agn.span_mem (by rw [hl]; exact List.mem_map.2 ⟨t, h3, rfl⟩)
theorem Agn.cnt_any (a : Agn) (under : Bool) (i : Nat) : a.cntB under (-1) i = (Ag.pr a.w a.t i == under) := by simp [Agn.cntB]




end Go.Cw
end

/- The reference of chapter 11: Until. -/
section
set_option maxRecDepth 100000
set_option linter.unusedSimpArgs false
namespace Go.Cw
open Go Go.Proofs

theorem Agn.mem_days {a : Agn} {d : Int} : d ∈ a.daysL ↔ ∃ i, i < a.n ∧ (∃ s ∈ a.S, inS s i = true) ∧ ∃ w, Ag.lastW a.w i = some w ∧ w.d = d := by
  unfold Agn.daysL
  rw [List.mem_filterMap]
  constructor
  · rintro ⟨i, hi, h⟩
    split at h
    · rename_i hs
      obtain ⟨s, h1, h2⟩ := List.any_eq_true.1 hs
      cases hw : Ag.lastW a.w i with
      | none => rw [hw] at h; simp at h
      | some w =>
        rw [hw] at h
        exact ⟨i, List.mem_range.1 hi, ⟨s, h1, h2⟩, w, hw, by simpa using h⟩
    · cases h
  · rintro ⟨i, hi, ⟨s, h1, h2⟩, w, hw, rfl⟩
    refine ⟨i, List.mem_range.2 hi, ?_⟩
    rw [if_pos (List.any_eq_true.2 ⟨s, h1, h2⟩), hw]
    rfl
theorem Agn.first_is {a : Agn} (hv : a.Valid) (hS : a.S ≠ []) (hy : a.yardN = 2) : Ag.IsFirst a.n a.w a.S a.firstD := by
  have hdn : ∀ d ∈ a.daysL, 0 ≤ d := fun d hd => by
    obtain ⟨i, _, _, w, hw, rfl⟩ := Agn.mem_days.1 hd
    exact (Agn.work_rng hv hw).2.2.2.1
  obtain ⟨s, h1, i, h2, h3, w, h4⟩ := Ag.first_ex hS (Agn.S_in hv) hy
  have hm := Agn.mem_days.2 ⟨i, h2, ⟨s, h1, h3⟩, w, h4, rfl⟩
  rcases Ag.least_spec hdn with ⟨e, _⟩ | ⟨h5, h6⟩
  · rw [e] at hm; cases hm
  · obtain ⟨j, h7, ⟨t, h8, h9⟩, v, h10, h11⟩ := Agn.mem_days.1 h5
    exact ⟨⟨t, h8, j, h7, h9, v, h10, h11⟩, fun s hs i hi hsi w hw => h6 _ (Agn.mem_days.2 ⟨i, hi, ⟨s, hs, hsi⟩, w, hw, rfl⟩)⟩

end Go.Cw
end

/- The laws of chapter 11: the document's ship; what it fixes. -/
section
set_option maxRecDepth 100000
set_option linter.unusedSimpArgs false
namespace Go.Cw
open Go Go.Proofs

def asm (t : Int) : Agn := ⟨⟨[⟨2, 0, 3⟩, ⟨5, -1, 2⟩, ⟨5, 1, 4⟩], [⟨3, 0, 1, 2⟩, ⟨6, 0, 4, 4⟩]⟩, [4, 3, 5], 10, [⟨0, 100, 0⟩, ⟨1, 90, 1⟩, ⟨2, 10, 0⟩], t⟩
theorem asm_small (t : Int) : (asm t).Small := ⟨⟨by simp [asm], by simp [asm]⟩, by simp [asm], by simp [asm]⟩
def asmT : List (List Int) := [[1, 0, 3], [1, 1, 2], [1, 2, 1], [2, 0, 2], [2, 1, 1], [2, 2, 0]]
theorem asm_truths (t : Int) : (asm t).h.truths (asm t).h.every = asmT := by
  have : (asm 300).h.truths (asm 300).h.every = asmT := by decide +kernel
  exact this
theorem asm_S (t : Int) : (asm t).S = [3, 5, 7] := by
  unfold Agn.S Hul.setsL
  rw [asm_truths]
  exact sortI_eq (by decide +kernel) (by unfold SortedI; decide +kernel)
theorem asm_valid {t : Int} (h : t = 300 ∨ t = 400) : (asm t).Valid := by
  have hh : ∀ t, (asm t).h.Valid := fun t => by
    have : (asm 300).h.Valid := ⟨by simp [asm, Hul.n], by simp [asm, Hul.n], by simp [asm, Hul.k], by decide, by decide⟩
    exact this
  rcases h with rfl | rfl
  · exact ⟨hh _, by simp [asm, Hul.k], by simp [asm, Hul.n], by decide, by simp [asm], by simp [asm], by simp [asm], by decide⟩
  · exact ⟨hh _, by simp [asm, Hul.k], by simp [asm, Hul.n], by decide, by simp [asm], by simp [asm], by simp [asm], by decide⟩
theorem asm_errO {t : Int} (h : t = 300 ∨ t = 400) : (asm t).errO true = 0 := Agn.errO_zero.2 ⟨asm_valid h, rfl⟩
theorem asm_errL {t : Int} (h : t = 300 ∨ t = 400) : (asm t).errL true = 0 := Agn.errL_zero.2 ⟨asm_valid h, rfl, by rw [asm_S]; simp⟩
theorem asm_prom {t x : Int} (h : t = 300 ∨ t = 400) (hx : bits (Ag.pr (asm t).w t) 3 = x) : (asm t).promV = .tup [.int .i64 x, .int .i64 0] := by
  have e : (asm t).under (asm t).t = x := hx
  unfold Agn.promV
  rw [asm_errO h, e]
  simp
theorem asm_yardN {t x : Int} (hx : Ag.toldV 3 (Ag.pr (asm t).w t) [3, 5, 7] = x) : (asm t).yardN = x := by
  unfold Agn.yardN
  rw [asm_S]
  exact hx
theorem asm_yard {t x : Int} (h : t = 300 ∨ t = 400) (hx : Ag.toldV 3 (Ag.pr (asm t).w t) [3, 5, 7] = x) : (asm t).yardV = .tup [.int .i64 x, .int .i64 0] := by
  unfold Agn.yardV
  rw [asm_errL h, asm_yardN hx]
  simp
theorem asm_span {t : Int} {u : Nat → Bool} {x : Int × Int} (hx : Ag.jn (Ag.payS (ofL [4, 3, 5]) 3 u) [3, 5, 7] = x) : (asm t).spanP u = x := by
  unfold Agn.spanP
  rw [asm_S]
  exact hx
theorem asm_pays {t : Int} (h : t = 300 ∨ t = 400) {x : Int × Int} (hx : Ag.jn (Ag.payS (ofL [4, 3, 5]) 3 fun i => !Ag.pr (asm t).w t i) [3, 5, 7] = x) : (asm t).paysV = .tup [SP2 (x.1 * 10, x.2 * 10), .int .i64 0] := by
  have e : (asm t).spanP (fun i => !Ag.pr (asm t).w (asm t).t i) = x := asm_span hx
  unfold Agn.paysV Agn.paysP
  rw [asm_errL h, e]
  rfl
theorem asm_noth {t : Int} (h : t = 300 ∨ t = 400) {x : Int × Int} (hx : Ag.jn (Ag.payS (ofL [4, 3, 5]) 3 (Ag.pr (asm t).w t)) [3, 5, 7] = x) : (asm t).nothV = .tup [SP2 x, .int .i64 0] := by
  have e : (asm t).spanP (Ag.pr (asm t).w (asm t).t) = x := asm_span hx
  unfold Agn.nothV Agn.nothP
  rw [asm_errL h, e]
  rfl
theorem asm_own {t : Int} (g : Int) : (asm t).ownB g = fun i => Ag.pr (asm t).w t i && decide (Ag.ofW (asm t).w i = g) := rfl
theorem asm_gang {t : Int} (h : t = 300 ∨ t = 400) (g : Int) (hg : Agn.GangOk g) {x : Int × Int} (hx : Ag.jn (Ag.payS (ofL [4, 3, 5]) 3 fun i => Ag.pr (asm t).w t i && decide (Ag.ofW (asm t).w i = g)) [3, 5, 7] = x) : (asm t).gangV g = .tup [SP2 x, .int .i64 0] := by
  have e : (asm t).spanP ((asm t).ownB g) = x := asm_span hx
  unfold Agn.gangV Agn.gangP
  rw [decide_eq_true hg, asm_errL h, e]
  rfl
theorem asm_blame : (asm 400).blameV = .tup [.int .i64 1, .int .i64 3, .int .i64 0] := by
  have hs : ∀ i : Nat, (asm 400).spanP ((asm 400).ownB i) = Ag.jn (Ag.payS (ofL [4, 3, 5]) 3 fun j => Ag.pr (asm 400).w 400 j && decide (Ag.ofW (asm 400).w j = i)) [3, 5, 7] := fun i => asm_span rfl
  have e1 : bits (asm 400).surelyB 4 = 1 := by
    have : (asm 400).surelyB = fun i : Nat => decide (0 < (Ag.jn (Ag.payS (ofL [4, 3, 5]) 3 fun j => Ag.pr (asm 400).w 400 j && decide (Ag.ofW (asm 400).w j = i)) [3, 5, 7]).1) := funext fun i => by unfold Agn.surelyB; rw [hs]
    rw [this]
    decide +kernel
  have e2 : bits (asm 400).perhapsB 4 = 3 := by
    have : (asm 400).perhapsB = fun i : Nat => decide (0 < (Ag.jn (Ag.payS (ofL [4, 3, 5]) 3 fun j => Ag.pr (asm 400).w 400 j && decide (Ag.ofW (asm 400).w j = i)) [3, 5, 7]).2) := funext fun i => by unfold Agn.perhapsB; rw [hs]
    rw [this]
    decide +kernel
  unfold Agn.blameV
  rw [asm_errL (.inr rfl), e1, e2]
  simp
theorem asm_until : (asm 300).untilV = .tup [.int .i64 375, .int .i64 0] := by
  have e1 : (asm 300).yardN = 2 := asm_yardN (by decide +kernel)
  have e2 : (asm 300).firstD = 10 := by
    unfold Agn.firstD Agn.daysL
    rw [asm_S]
    decide +kernel
  have e3 : (asm 300).errU = 0 := by unfold Agn.errU; rw [asm_errL (.inl rfl), e1]; simp
  unfold Agn.untilV
  rw [e3, e2]
  simp
def asmC (w : Int) : Bool := (List.range 25).all fun (n : Nat) =>
  !(decide (seenK (asmT.filter fun t => decide ((n : Int) ≤ Hul.sumT t w ∧ Hul.sumT t w ≤ n)) ≠ []) && decide (Ag.toldV 3 (Ag.pr (asm 400).w 400) (seenK (asmT.filter fun t => decide ((n : Int) ≤ Hul.sumT t w ∧ Hul.sumT t w ≤ n))) = 1))
theorem asm_ask : (asm 400).askV = .tup [.int .i64 2, .int .i64 (-3), .int .i64 0] := by
  have hset : ∀ d l, (asm 400).setB d l = asmC ((asm 400).h.wet d l) := fun d l => by
    unfold Agn.setB asmC
    refine congrArg (List.all (List.range 25)) (funext fun n => ?_)
    unfold Agn.perB
    rw [Agn.soundS_eq, asm_truths]
    have h1 : ∀ X : List Int, decide (sortI X ≠ []) = decide (X ≠ []) := fun X => by
      refine decide_eq_decide.2 (not_congr ?_)
      constructor
      · intro h
        have := (sortI_perm X).length_eq
        rw [h] at this
        exact List.eq_nil_of_length_eq_zero this.symm
      · rintro rfl
        have := (sortI_perm []).length_eq
        exact List.eq_nil_of_length_eq_zero this
    have h2 : ∀ X : List Int, Ag.toldV (asm 400).n (Ag.pr (asm 400).w (asm 400).t) (sortI X) = Ag.toldV 3 (Ag.pr (asm 400).w 400) X := fun X => Ag.told_same fun s => (sortI_perm X).mem_iff
    rw [h1, h2]
  have e1 : (asm 400).askP = some (2, -3) := by
    unfold Agn.askP
    simp only [hset]
    decide +kernel
  have e2 : (asm 400).errA = 0 := by
    unfold Agn.errA
    rw [asm_errL (.inr rfl), asm_yardN (x := 1) (by decide +kernel), e1]
    simp
  unfold Agn.askV
  rw [e2, e1]
  simp
theorem law11_span_ok (a b : Int) : APure Pg fn_law11_span [.int .i64 a, .int .i64 b] (SP2 (a, b)) := by
  refine law11_span.pure (by simp) ?_
  simp
  intro s
  exact RetV.refl (by simp [SP2])
theorem law11_work_ok (a b c : Int) : APure Pg fn_law11_work [.int .i64 a, .int .i64 b, .int .i64 c] (.agg [.int .i64 a, .int .i64 b, .int .i64 c]) := by
  refine law11_work.pure (by simp) ?_
  simp
  intro s
  exact RetV.refl (by simp)
theorem law11_sample_ok (t : Int) : APure Pg fn_law11_sample [.int .i64 t] (asm t).v := by
  refine law11_sample.pure (by simp) ?_
  simp
  intro s1 s2
  refine PCallK.intro (PInv.func (law11_span_ok _ _)) ?_
  simp [SP2]
  refine PCallK.intro (PInv.func (law11_span_ok _ _)) ?_
  simp [SP2]
  intro s3 s4
  refine PCallK.intro (PInv.func (law11_work_ok _ _ _)) ?_
  simp
  refine PCallK.intro (PInv.func (law11_work_ok _ _ _)) ?_
  simp
  refine PCallK.intro (PInv.func (law11_work_ok _ _ _)) ?_
  simp
  intro s5
  refine RetV.frz 6 rfl (RetV.frz 11 rfl (RetV.frz 13 rfl (RetV.frz 17 rfl (RetV.refl ?_))))
  simp [asm, LS, LD, sms, sds, fl, Sm.c, Sd.c, L, ints, LW, wks, wkC]
theorem law11_alive_ok : APure Pg fn_law11_alive [] (.bool true) := by
  have w0 := fun t => PInv.func (first := []) (cap := []) (args := [.int .i64 t]) (law11_sample_ok t)
  have c1 := again_Promised_ok (asm 400) (asm_small _)
  rw [asm_prom (.inr rfl) (x := 3) (by decide +kernel)] at c1
  have c2 := again_Yard_ok (asm 300) (asm_small _)
  rw [asm_yard (.inl rfl) (x := 2) (by decide +kernel)] at c2
  have c3 := again_Pays_ok (asm 400) (asm_small _)
  rw [asm_pays (.inr rfl) (x := (0, 5)) (by decide +kernel)] at c3
  have c4 := again_Nothing_ok (asm 300) (asm_small _)
  rw [asm_noth (.inl rfl) (x := (7, 12)) (by decide +kernel)] at c4
  have c5 := again_Gang_ok (asm 400) (asm_small _) 1
  rw [asm_gang (.inr rfl) 1 (by decide) (x := (0, 3)) (by decide +kernel)] at c5
  have c6 := again_Blame_ok (asm 400) (asm_small _)
  rw [asm_blame] at c6
  have c7 := again_Until_ok (asm 300) (asm_small _)
  rw [asm_until] at c7
  have c8 := again_Ask_ok (asm 400) (asm_small _)
  rw [asm_ask] at c8
  refine law11_alive.pure (by simp) ?_
  simp only [Agn.v_agg] at c1 c2 c3 c4 c5 c6 c7 c8
  simp
  refine PCallK.intro (w0 400) ?_
  simp
  refine PCallK.intro (PInv.func c1) ?_
  simp
  refine PCallK.intro (w0 300) ?_
  simp
  refine PCallK.intro (PInv.func c2) ?_
  simp
  refine PCallK.intro (w0 400) ?_
  simp
  refine PCallK.intro (PInv.func c3) ?_
  simp [SP2]
  intro s5
  refine PCallK.intro (w0 300) ?_
  simp
  refine PCallK.intro (PInv.func c4) ?_
  simp [SP2]
  intro s7
  refine PCallK.intro (w0 400) ?_
  simp
  refine PCallK.intro (PInv.func c5) ?_
  simp [SP2]
  intro s9
  refine PCallK.intro (w0 400) ?_
  simp
  refine PCallK.intro (PInv.func c6) ?_
  simp
  refine PCallK.intro (w0 300) ?_
  simp
  refine PCallK.intro (PInv.func c7) ?_
  simp
  refine PCallK.intro (w0 400) ?_
  simp
  refine PCallK.intro (PInv.func c8) ?_
  simp
  refine PCallK.intro (PInv.func (law11_span_ok _ _)) ?_
  simp [SP2]
  refine PCallK.intro (PInv.func (law11_span_ok _ _)) ?_
  simp [SP2]
  refine PCallK.intro (PInv.func (law11_span_ok _ _)) ?_
  simp [SP2]
  exact RetV.refl rfl
def Agn.longB (a : Agn) : Bool := decide ((40 : Int) < max (a.h.seams.length : Int) (max (a.h.snds.length : Int) (max (a.f.length : Int) (a.w.length : Int))))
theorem Agn.long_small {a : Agn} (h : a.longB = false) : a.Small := by
  unfold Agn.longB at h
  have h := of_decide_eq_false h
  exact ⟨⟨by omega, by omega⟩, by omega, by omega⟩
theorem law11_long_ok (a : Agn) : APure Pg fn_law11_long [a.v] (.bool a.longB) := by
  refine law11_long.pure (by simp) ?_
  simp
  intro s1
  exact RetV.refl (by simp [Agn.longB])
def Agn.ways (a : Agn) (k : Nat) : Int := (a.h.seams.take k).foldl (fun n s => n * (s.m + 1)) 1
theorem Agn.ways_step {a : Agn} {k : Nat} (h : k < a.h.seams.length) : a.ways (k + 1) = a.ways k * ((a.h.seams[k]).m + 1) := by
  unfold Agn.ways
  rw [← List.take_append_getElem h, List.foldl_append]
  rfl
theorem Agn.ways_rng {a : Agn} (hv : a.h.Valid) : ∀ k, k ≤ a.h.seams.length → 1 ≤ a.ways k ∧ a.ways k ≤ 5 ^ k
  | 0, _ => by simp [Agn.ways]
  | k + 1, hk => by
    have hkc : k < a.h.seams.length := by omega
    obtain ⟨h1, h2⟩ := Agn.ways_rng hv k (by omega)
    rw [Agn.ways_step hkc]
    have h3 := (hv.sm a.h.seams[k] (List.getElem_mem hkc)).2.2
    obtain ⟨m, hm⟩ : ∃ m, m = (a.h.seams[k]).m + 1 := ⟨_, rfl⟩
    rw [← hm]
    have hm1 : 1 ≤ m ∧ m ≤ 5 := by omega
    refine ⟨?_, ?_⟩
    · have := Int.mul_le_mul h1 hm1.1 (by omega) (by omega)
      omega
    · have := Int.mul_le_mul h2 hm1.2 (by omega) (by omega)
      rw [Int.pow_succ]
      exact this
noncomputable def Agn.heavyB (a : Agn) (w : Int) : Bool := if a.longB then true else if a.Valid then decide (w < a.ways a.h.seams.length) else false
theorem Agn.heavy_small {a : Agn} {w : Int} (h : a.heavyB w = false) : a.Small := by
  unfold Agn.heavyB at h
  cases hl : a.longB
  · exact Agn.long_small hl
  · rw [hl] at h; simp at h

end Go.Cw
end

/- The laws of chapter 11: what is told is what the document tells. -/
section
set_option maxRecDepth 100000
set_option linter.unusedSimpArgs false
namespace Go.Cw
open Go Go.Proofs


end Go.Cw
end

/- How a ship that came back is read as an argument. -/
section
set_option maxRecDepth 100000
namespace Go.Cw
open Go Go.Proofs

theorem All2.five' {V W X Y Z : List AVal → Prop} {l : List (List AVal)} (h : All2 [V, W, X, Y, Z] l) : ∃ a b c d e, l = [a, b, c, d, e] ∧ V a ∧ W b ∧ X c ∧ Y d ∧ Z e := by
  match l, h with
  | [a, b, c, d, e], h => exact ⟨a, b, c, d, e, rfl, h.1, h.2.1, h.2.2.1, h.2.2.2.1, h.2.2.2.2.1⟩
section
variable {w : World} {μ : Mu}

theorem opens_int : Opens Pg w μ 3 fun av => ∃ n, (Lit.int .i64 n).wf = true ∧ av = [.int .i64 n] := Opens.int Tryz.underlying3 (by kernel_rfl)
theorem opens_bool : Opens Pg w μ 4 fun av => ∃ b, av = [.bool b] := Opens.bool Tryz.underlying4 (by kernel_rfl)
theorem opens_ints : Opens Pg w μ 26 fun av => ∃ l : List Int, av = [L l] := Opens.ints Tryz.underlying26 (by kernel_rfl) Tryz.underlying3 (by kernel_rfl)
theorem opens_span : Opens Pg w μ 36 fun av => ∃ p : Int × Int, av = [.int .i64 p.1, .int .i64 p.2] := by
  refine (Opens.struct (Vs := [_, _]) Tryz.underlying36 (by kernel_rfl) ⟨rfl, opens_int, by kernel_rfl, opens_int, trivial⟩).mono ?_
  rintro av ⟨ass, h, rfl⟩
  obtain ⟨a, b, rfl, ⟨n, _, rfl⟩, ⟨m, _, rfl⟩⟩ := h.two
  exact ⟨(n, m), rfl⟩
theorem opens_seam : Opens Pg w μ 67 fun av => ∃ a : Sm, av = a.c := by
  refine (Opens.struct (Vs := [_, _, _]) Tryz.underlying67 (by kernel_rfl) ⟨rfl, opens_int, by kernel_rfl, opens_int, by kernel_rfl, opens_int, trivial⟩).mono ?_
  rintro av ⟨ass, h, rfl⟩
  obtain ⟨a, b, c, rfl, ⟨n, _, rfl⟩, ⟨m, _, rfl⟩, ⟨k, _, rfl⟩⟩ := h.three
  exact ⟨⟨n, m, k⟩, rfl⟩
theorem opens_sounding : Opens Pg w μ 57 fun av => ∃ a : Sd, av = a.c := by
  refine (Opens.struct (Vs := [_, _, _]) Tryz.underlying57 (by kernel_rfl) ⟨rfl, opens_int, by kernel_rfl, opens_int, by kernel_rfl, opens_span, trivial⟩).mono ?_
  rintro av ⟨ass, h, rfl⟩
  obtain ⟨a, b, c, rfl, ⟨n, _, rfl⟩, ⟨m, _, rfl⟩, ⟨p, rfl⟩⟩ := h.three
  exact ⟨⟨n, m, p.1, p.2⟩, rfl⟩
theorem c67 : 0 < Pg.cellsOf 67 := by rw [show Pg.cellsOf 67 = 3 by kernel_rfl]; omega
theorem c57 : 0 < Pg.cellsOf 57 := by rw [show Pg.cellsOf 57 = 4 by kernel_rfl]; omega
theorem opens_hull : Opens Pg w μ 25 fun av => ∃ h : Hul, av = h.cells := by
  refine (Opens.struct (Vs := [_, _]) Tryz.underlying25 (by kernel_rfl) ⟨rfl, Opens.fl Tryz.underlying22 (by kernel_rfl) c67 opens_seam, by kernel_rfl, Opens.fl Tryz.underlying23 (by kernel_rfl) c57 opens_sounding, trivial⟩).mono ?_
  rintro av ⟨ass, h, rfl⟩
  obtain ⟨a, b, rfl, ⟨n, rfl⟩, ⟨m, rfl⟩⟩ := h.two
  exact ⟨⟨n, m⟩, rfl⟩
theorem opens_work : Opens Pg w μ 62 fun av => ∃ a : Wrk, av = wkC a := by
  refine (Opens.struct (Vs := [_, _, _]) Tryz.underlying62 (by kernel_rfl) ⟨rfl, opens_int, by kernel_rfl, opens_int, by kernel_rfl, opens_int, trivial⟩).mono ?_
  rintro av ⟨ass, h, rfl⟩
  obtain ⟨a, b, c, rfl, ⟨n, _, rfl⟩, ⟨m, _, rfl⟩, ⟨k, _, rfl⟩⟩ := h.three
  exact ⟨⟨n, m, k⟩, rfl⟩
theorem c62 : 0 < Pg.cellsOf 62 := by rw [show Pg.cellsOf 62 = 3 by kernel_rfl]; omega
theorem opens_again : Opens Pg w μ 29 fun av => ∃ a : Agn, av = a.cells := by
  refine (Opens.struct (Vs := [_, _, _, _, _]) Tryz.underlying29 (by kernel_rfl) ⟨rfl, opens_hull, by kernel_rfl, opens_ints, by kernel_rfl, opens_int, by kernel_rfl, Opens.fl Tryz.underlying27 (by kernel_rfl) c62 opens_work, by kernel_rfl, opens_int, trivial⟩).mono ?_
  rintro av ⟨ass, h, rfl⟩
  obtain ⟨a, b, c, d, e, rfl, ⟨n, rfl⟩, ⟨m, rfl⟩, ⟨k, _, rfl⟩, ⟨o, rfl⟩, ⟨q, _, rfl⟩⟩ := h.five'
  exact ⟨⟨n, m, k, o, q⟩, rfl⟩
theorem opens_u8 : Opens Pg w μ 5 fun av => ∃ n : Int, (0 ≤ n ∧ n ≤ 255) ∧ av = [.int .u8 n] :=
  (Opens.int Tryz.underlying5 (by kernel_rfl)).mono fun av ⟨n, h1, h2⟩ => ⟨n, bounds_u8 h1, h2⟩
end

theorem kids : Kids Pg (· < Pg.types.size) := kids_rows (by kernel_rfl) (by kernel_rfl)
theorem slices_full : ∀ t e, t < Pg.types.size → Pg.underlying t = some (.slice e) → 0 < Pg.cellsOf e := slices_full_of Pg (by kernel_rfl)
theorem ownKnobNone : ownKnob Pg.godebug = none := by kernel_rfl

end Go.Cw
end

/- The law AgainUntil, walked. -/
section
set_option maxRecDepth 100000
set_option linter.unusedSimpArgs false
namespace Go.Cw
open Go Go.Proofs

theorem wrap_i64 {x : Int} (h1 : -9223372036854775808 ≤ x) (h2 : x ≤ 9223372036854775807) : IntKind.i64.wrap x = x := by
  simp [IntKind.wrap, IntKind.signed, IntKind.bits]
  omega
def Agn.on (a : Agn) (d : Int) : Agn := ⟨a.h, a.f, a.c, a.w, d⟩
theorem Agn.Valid.on {a : Agn} (hv : a.Valid) {d : Int} (h1 : a.t ≤ d) (h2 : d ≤ 5000) : (a.on d).Valid :=
  ⟨hv.h, hv.k7, hv.len, hv.fa, hv.co, ⟨by have := hv.to; show 0 ≤ d; omega, h2⟩, hv.w12, fun x hx => ⟨(hv.wo x hx).1, (hv.wo x hx).2.1, (hv.wo x hx).2.2.1, by have := (hv.wo x hx).2.2.2; show x.d ≤ d; omega⟩⟩

theorem opens_u16 {w : World} {μ : Mu} : Opens Pg w μ 53 fun av => ∃ n : Int, (0 ≤ n ∧ n ≤ 65535) ∧ av = [.int .u16 n] :=
  (Opens.int Tryz.underlying53 (by kernel_rfl)).mono fun av ⟨n, h1, h2⟩ => ⟨n, bounds_u16 h1, h2⟩
end Go.Cw
end

/- The laws of chapter 11: spans, fathoms of a set. -/
section
set_option maxRecDepth 100000
set_option linter.unusedSimpArgs false
namespace Go.Cw
open Go Go.Proofs



end Go.Cw
end

/- Plain reckoning on the sets that can leak: what is under promise, and what is not; whose it is. -/
section
set_option maxRecDepth 100000
set_option linter.unusedSimpArgs false
namespace Go.Cw
open Go Go.Proofs

namespace Agn
theorem wrap64 {x : Int} (h1 : -9223372036854775808 ≤ x) (h2 : x ≤ 9223372036854775807) : IntKind.i64.wrap x = x := by
  simp [IntKind.wrap, IntKind.signed, IntKind.bits]
  omega
variable {a : Agn}
theorem cut_and (hv : a.Valid) {s : Int} (hs : 0 ≤ s ∧ s < 2 ^ a.n) (q : Nat → Bool) : bitI .and .i64 s (bits q a.n) = bits (fun i => inS s i && q i) a.n := by
  have hn6 := hv.n6
  have h := bitsI_and (inS s) q (show a.n ≤ 60 by omega)
  rwa [show bits (inS s) a.n = s from bits_of hs.1 hs.2] at h
theorem cut_not (hv : a.Valid) {s : Int} (hs : 0 ≤ s ∧ s < 2 ^ a.n) (q : Nat → Bool) : bitI .andNot .i64 s (bits q a.n) = bits (fun i => inS s i && !q i) a.n := by
  have hn6 := hv.n6
  have h := Ag.bitsI_andNot (inS s) q (show a.n ≤ 60 by omega)
  rwa [show bits (inS s) a.n = s from bits_of hs.1 hs.2] at h
theorem len_bits (s : Int) (q : Nat → Bool) : Ag.lenB a.F a.n (inS (bits (fun i => inS s i && q i) a.n)) = Ag.payS a.F a.n q s :=
  Ag.lenB_congr fun i hi => inS_bits _ hi
theorem bits_61 (hv : a.Valid) (p : Nat → Bool) : 0 ≤ bits p a.n ∧ bits p a.n < 2 ^ 62 := by
  have hn6 := hv.n6
  exact bits_fits p (by omega)
theorem span_has (hS : a.S ≠ []) (u : Nat → Bool) {s : Int} (hs : s ∈ a.S) : (a.spanP u).1 ≤ Ag.payS a.F a.n u s ∧ Ag.payS a.F a.n u s ≤ (a.spanP u).2 := (Ag.jn_spec hS).1 s hs
theorem span_lo (hS : a.S ≠ []) (u : Nat → Bool) : ∃ s ∈ a.S, Ag.payS a.F a.n u s = (a.spanP u).1 := (Ag.jn_spec hS).2.1
theorem span_hi (hS : a.S ≠ []) (u : Nat → Bool) : ∃ s ∈ a.S, Ag.payS a.F a.n u s = (a.spanP u).2 := (Ag.jn_spec hS).2.2
theorem pay_rng (hv : a.Valid) (u : Nat → Bool) (s : Int) : 0 ≤ Ag.payS a.F a.n u s ∧ Ag.payS a.F a.n u s ≤ 120 := by
  have hn6 := hv.n6
  have h1 := Ag.lenB_nonneg (n := a.n) (p := fun i => inS s i && u i) (f := a.F) fun i hi => by have := hv.fat hi; omega
  have h2 := Ag.lenB_bound (n := a.n) (p := fun i => inS s i && u i) (f := a.F) (M := 20) (fun i hi => by have := hv.fat hi; omega) (by omega)
  unfold Ag.payS
  omega
theorem own_le (hv : a.Valid) (g s : Int) : Ag.payS a.F a.n (a.ownB g) s ≤ Ag.payS a.F a.n (Ag.pr a.w a.t) s :=
  Ag.pay_mono (fun i hi => by have := hv.fat hi; omega) (fun i _ h => by unfold ownB at h; rw [Bool.and_eq_true] at h; exact h.1) s
theorem own_free (hv : a.Valid) (hS : a.S ≠ []) (g : Int) : (a.spanP (a.ownB g)).1 ≤ (a.spanP (Ag.pr a.w a.t)).2 ∧ (a.spanP (a.ownB g)).2 ≤ (a.spanP (Ag.pr a.w a.t)).2 := by
  obtain ⟨s, hs, e⟩ := span_hi hS (a.ownB g)
  obtain ⟨t, ht, e2⟩ := span_lo hS (a.ownB g)
  have h1 := own_le hv g s
  have h2 := span_has hS (Ag.pr a.w a.t) hs
  have h3 := own_le hv g t
  have h4 := span_has hS (Ag.pr a.w a.t) ht
  omega
theorem own_sum (hv : a.Valid) (s : Int) : Ag.payS a.F a.n (Ag.pr a.w a.t) s = Ag.payS a.F a.n (a.ownB 0) s + Ag.payS a.F a.n (a.ownB 1) s + Ag.payS a.F a.n (a.ownB 2) s + Ag.payS a.F a.n (a.ownB 3) s :=
  Ag.gangs_sum (fun w hw => by have := (hv.wo w hw).2.1; omega) s
def ownK (a : Agn) (g : Int) (k : Nat) : Int := bits (fun i => decide (i < k) && a.ownB g i) a.n
theorem ownK_zero (g : Int) : a.ownK g 0 = 0 := bits_zero.2 fun i _ => by simp
theorem ownK_all (g : Int) : a.ownK g a.n = bits (a.ownB g) a.n := bits_congr fun i hi => by simp [hi]
theorem ownK_no {g : Int} {k : Nat} (h : a.ownB g k = false) : a.ownK g (k + 1) = a.ownK g k := bits_congr fun i _ => by
  by_cases e : i = k
  · subst e; simp [h]
  · have : decide (i < k + 1) = decide (i < k) := decide_eq_decide.2 (by omega)
    rw [this]
theorem ownK_yes (hv : a.Valid) {g : Int} {k : Nat} (hk : k < a.n) (h : a.ownB g k = true) : bitI .or .i64 (a.ownK g k) (2 ^ k) = a.ownK g (k + 1) := by
  have hn6 := hv.n6
  unfold ownK
  rw [← bits_one hk, bitsI_or _ _ (by omega)]
  refine bits_congr fun i _ => ?_
  by_cases e : i = k
  · subst e; simp [h]
  · have : decide (i < k + 1) = decide (i < k) := decide_eq_decide.2 (by omega)
    rw [this]
    simp [e]
theorem under_bit (hv : a.Valid) {i : Nat} (hi : i < a.n) (d : Int) : bitI .and .i64 (a.under d / 2 ^ i) 1 = if Ag.pr a.w d i then 1 else 0 := by
  have hn6 := hv.n6
  exact bits_and1 _ (by omega) hi
noncomputable def gsum (a : Agn) (s : Int) : Nat → Int
  | 0 => 0
  | k + 1 => a.gsum s k + Ag.payS a.F a.n (a.ownB k) s
theorem gsum_all (hv : a.Valid) (s : Int) : a.gsum s 4 = Ag.payS a.F a.n (Ag.pr a.w a.t) s := by
  rw [own_sum hv]
  simp only [gsum]
  have e : (0 : Int) + Ag.payS a.F a.n (a.ownB ((0 : Nat) : Int)) s = Ag.payS a.F a.n (a.ownB 0) s := by rw [Int.zero_add]; rfl
  rw [e]
  rfl
theorem gsum_rng (hv : a.Valid) (s : Int) (k : Nat) : 0 ≤ a.gsum s k ∧ a.gsum s k ≤ k * 120 := by
  induction k with
  | zero => simp [gsum]
  | succ k ih =>
    have := pay_rng hv (a.ownB k) s
    simp only [gsum]
    omega
theorem gangV_ok (he : a.errL true = 0) {g : Int} (hg : GangOk g) : a.gangV g = .tup [SP2 (a.spanP (a.ownB g)), .int .i64 0] := by
  simp [gangV, gangP, hg, he]
theorem gangV_no (hv : a.Valid) {g : Int} (hg : ¬ GangOk g) : a.gangV g = .tup [SP2 (0, 0), .int .i64 2] := by
  have : a.errL false = 2 := by simp [errL, hv]
  simp [gangV, gangP, hg, this]
end Agn
end Go.Cw
end

/- Plain facts for the law AgainMore: a sounding more, a later day, a work more. -/
section
set_option maxRecDepth 100000
set_option linter.unusedSimpArgs false
namespace Go.Cw
open Go Go.Proofs

namespace Agn
variable {a : Agn}
def withS (a : Agn) (s : Sd) : Agn := ⟨a.h.more s, a.f, a.c, a.w, a.t⟩
def withW (a : Agn) (w : Wrk) : Agn := ⟨a.h, a.f, a.c, a.w ++ [w], a.t⟩
noncomputable def yN (a : Agn) : Int := if a.errL true = 0 then a.yardN else 0
theorem yardV_eq (a : Agn) : a.yardV = .tup [.int .i64 a.yN, .int .i64 (a.errL true)] := rfl
theorem paysV_eq (a : Agn) : a.paysV = .tup [SP2 a.paysP, .int .i64 (a.errL true)] := rfl
theorem nothV_eq (a : Agn) : a.nothV = .tup [SP2 a.nothP, .int .i64 (a.errL true)] := rfl
theorem promV_eq (hv : a.Valid) : a.promV = .tup [.int .i64 (a.under a.t), .int .i64 0] := by
  have hO : a.errO true = 0 := Agn.errO_zero.2 ⟨hv, rfl⟩
  simp [promV, hO]
theorem errL_of (hv : a.Valid) : a.errL true = if a.S = [] then 10 else 0 := by
  unfold errL
  rw [if_pos hv]
  rfl
theorem errL_two (hv : a.Valid) : a.errL true = 0 ∨ a.errL true = 10 := by
  rw [errL_of hv]
  split <;> omega
theorem withS_sub (s : Sd) : ∀ x ∈ (a.withS s).S, x ∈ a.S := fun x hx => by
  obtain ⟨t, ht, e⟩ := mem_S.1 hx
  have h1 : (a.withS s).h.truths (a.withS s).h.every = _ := Hul.truths_more a.h s
  rw [h1, List.mem_filter] at ht
  exact mem_S.2 ⟨t, ht.1, e⟩
theorem mul_in {c x y x' y' : Int} (hc : 0 ≤ c) (h1 : x ≤ x') (h2 : y' ≤ y) : x * c ≤ x' * c ∧ y' * c ≤ y * c :=
  ⟨Int.mul_le_mul_of_nonneg_right h1 hc, Int.mul_le_mul_of_nonneg_right h2 hc⟩
theorem withS_in (hv : a.Valid) {s : Sd} (he : (a.withS s).errL true = 0) : a.errL true = 0 ∧ (a.yN = 1 ∨ (a.withS s).yN = a.yN) ∧ (a.paysP.1 ≤ (a.withS s).paysP.1 ∧ (a.withS s).paysP.2 ≤ a.paysP.2) ∧ a.nothP.1 ≤ (a.withS s).nothP.1 ∧ (a.withS s).nothP.2 ≤ a.nothP.2 := by
  obtain ⟨hv', _, hS'⟩ := errL_zero.1 he
  have hsub := withS_sub (a := a) s
  have hS : a.S ≠ [] := by
    obtain ⟨x, hx⟩ := List.exists_mem_of_ne_nil _ hS'
    exact List.ne_nil_of_mem (hsub x hx)
  have he0 : a.errL true = 0 := errL_zero.2 ⟨hv, rfl, hS⟩
  refine ⟨he0, ?_, ?_, ?_⟩
  · unfold yN
    rw [if_pos he, if_pos he0]
    by_cases h1 : a.yardN = 1
    · exact .inl h1
    · exact .inr (Ag.told_sub hS' hsub h1)
  · have := Ag.jn_sub (g := Ag.payS a.F a.n fun i => !Ag.pr a.w a.t i) hS' hsub
    simp only [paysP, if_pos he, if_pos he0]
    exact mul_in hv.co.1 this.1 this.2
  · have := Ag.jn_sub (g := Ag.payS a.F a.n (Ag.pr a.w a.t)) hS' hsub
    simp only [nothP, if_pos he, if_pos he0]
    exact this
theorem F0 (hv : a.Valid) : ∀ i, i < a.n → 0 ≤ a.F i := fun i hi => by have := hv.fat hi; omega
theorem on_in (hv : a.Valid) {d : Int} (h1 : a.t ≤ d) (h2 : d ≤ 5000) : (a.on d).errL true = a.errL true ∧ bitI .andNot .i64 ((a.on d).under d) (a.under a.t) = 0 ∧
    (a.paysP.1 ≤ (a.on d).paysP.1 ∧ a.paysP.2 ≤ (a.on d).paysP.2) ∧ (a.on d).nothP.1 ≤ a.nothP.1 ∧ (a.on d).nothP.2 ≤ a.nothP.2 := by
  have hn6 := hv.n6
  have hvd := hv.on h1 h2
  have he : (a.on d).errL true = a.errL true := by rw [errL_of hv, errL_of hvd]; rfl
  have hp : ∀ i, Ag.pr a.w d i = true → Ag.pr a.w a.t i = true := fun i => Ag.pr_later h1
  refine ⟨he, ?_, ?_, ?_⟩
  · show bitI .andNot .i64 (bits (Ag.pr a.w d) a.n) (bits (Ag.pr a.w a.t) a.n) = 0
    rw [Ag.bitsI_andNot _ _ (by omega), bits_zero]
    intro i _
    cases hq : Ag.pr a.w d i
    · rfl
    · rw [hp i hq]; rfl
  · by_cases h0 : a.errL true = 0
    · obtain ⟨_, _, hS⟩ := errL_zero.1 h0
      have := Ag.jn_le (g := Ag.payS a.F a.n fun i => !Ag.pr a.w a.t i) (g' := Ag.payS a.F a.n fun i => !Ag.pr a.w d i) hS fun s _ => Ag.pay_mono (F0 hv) (fun i _ h => by
        cases hq : Ag.pr a.w d i
        · rfl
        · rw [hp i hq] at h; cases h) s
      simp only [paysP, he, if_pos h0]
      exact ⟨Int.mul_le_mul_of_nonneg_right this.1 hv.co.1, Int.mul_le_mul_of_nonneg_right this.2 hv.co.1⟩
    · simp only [paysP, he, if_neg h0]
      omega
  · by_cases h0 : a.errL true = 0
    · obtain ⟨_, _, hS⟩ := errL_zero.1 h0
      have := Ag.jn_le (g := Ag.payS a.F a.n (Ag.pr a.w d)) (g' := Ag.payS a.F a.n (Ag.pr a.w a.t)) hS fun s _ => Ag.pay_mono (F0 hv) (fun i _ h => hp i h) s
      simp only [nothP, he, if_pos h0]
      exact this
    · simp only [nothP, he, if_neg h0]
      omega
theorem withW_in (hv : a.Valid) {w : Wrk} (hw : w.d = a.t) {m : Nat} (hm : w.s = m) (hmn : m < a.n) (hvw : (a.withW w).Valid) : (a.withW w).errL true = a.errL true ∧ bitI .or .i64 (a.under a.t) (2 ^ m) = (a.withW w).under a.t ∧
    (a.withW w).paysP.1 ≤ a.paysP.1 ∧ (a.withW w).paysP.2 ≤ a.paysP.2 := by
  have hn6 := hv.n6
  have he : (a.withW w).errL true = a.errL true := by rw [errL_of hv, errL_of hvw]; rfl
  have hp : ∀ i : Nat, Ag.pr (a.w ++ [w]) a.t i = (decide (w.s = i) || Ag.pr a.w a.t i) := fun i => Ag.pr_more hw (fun v hv' => (hv.wo v hv').2.2.2) i
  refine ⟨he, ?_, ?_⟩
  · show bitI .or .i64 (bits (Ag.pr a.w a.t) a.n) (2 ^ m) = bits (Ag.pr (a.w ++ [w]) a.t) a.n
    rw [← bits_one hmn, bitsI_or _ _ (by omega)]
    refine bits_congr fun i _ => ?_
    rw [hp i, hm, Bool.or_comm]
    congr 1
    exact decide_eq_decide.2 ⟨fun h => by omega, fun h => by omega⟩
  · by_cases h0 : a.errL true = 0
    · obtain ⟨_, _, hS⟩ := errL_zero.1 h0
      have := Ag.jn_le (g := Ag.payS a.F a.n fun i => !Ag.pr (a.w ++ [w]) a.t i) (g' := Ag.payS a.F a.n fun i => !Ag.pr a.w a.t i) hS fun s _ => Ag.pay_mono (F0 hv) (fun i _ h => by
        rw [hp i] at h
        cases hq : Ag.pr a.w a.t i
        · rfl
        · rw [hq] at h; simp at h) s
      simp only [paysP, he, if_pos h0]
      exact ⟨Int.mul_le_mul_of_nonneg_right this.1 hv.co.1, Int.mul_le_mul_of_nonneg_right this.2 hv.co.1⟩
    · simp only [paysP, he, if_neg h0]
      omega
theorem Valid.small {a : Agn} (hv : a.Valid) : a.Small := ⟨hv.h.small, by have := hv.n6; unfold n at this; omega, by have := hv.w12; omega⟩
theorem withS_small (hv : a.Valid) (s : Sd) : (a.withS s).Small := by
  have h1 := hv.small
  refine ⟨⟨h1.h.1, ?_⟩, h1.f, h1.w⟩
  show (a.h.snds ++ [s]).length ≤ 40
  have := hv.k7
  unfold Hul.k at this
  rw [List.length_append]; simp; omega
theorem withW_small (hv : a.Valid) (w : Wrk) : (a.withW w).Small := by
  have h1 := hv.small
  refine ⟨h1.h, h1.f, ?_⟩
  show (a.w ++ [w]).length ≤ 40
  have := hv.w12
  rw [List.length_append]; simp; omega
end Agn
theorem Sl.toV {n : Nat} {K : KT} {tm : TM} {df : DF} {h : Heap} (l : List (Nat × AVal)) (k : List (Nat × AObj)) (en : Sl n (fun tm' df' h' => df' = df ∧ Vw l tm' ∧ Hw k h') tm df h) (hK : K (tmV l) df (hpV k)) : Sl n K tm df h := by
  obtain ⟨tm₁, df₁, h₁, a, rfl, hv, hh⟩ := en
  exact ⟨_, _, _, a.trans (SLe.view hv hh), hK⟩
theorem law11_AgainMore_1_ok (p q : Int × Int) : APure Pg fn_law11_AgainMore_1 [SP2 p, SP2 q] (.bool (decide (q.1 ≤ p.1 ∧ p.2 ≤ q.2))) := by
  refine law11_AgainMore_1.pure (by simp) ?_
  simp [SP2]
  intro s2 s3
  by_cases h1 : q.1 ≤ p.1
  · simp [h1]
    exact RetV.refl (by simp)
  · simp [h1]
    exact RetV.refl (by simp)
end Go.Cw
end

/- The law AgainMore, walked. -/
section
set_option maxRecDepth 100000
set_option linter.unusedSimpArgs false
namespace Go.Cw
open Go Go.Proofs

@[simp] theorem Agn.cells_len (a : Agn) : a.cells.length = 6 := rfl
@[simp] theorem Agn.cells_take (a : Agn) : a.cells.take 6 = a.cells := rfl
theorem law11_AgainMore_t21 (a : Agn) (hs : a.Small) (hv : a.Valid) (d : Int) (hdr : a.t ≤ d ∧ d ≤ 5000) (w : Wrk) (hwd : w.d = a.t) (m : Nat) (hws : w.s = m) (hml : m < a.n) (s10 s11 s16 s18 : Nat) (tm : TM) (h : Heap)
    (hvw : Vw [(10, .ptr 10 0 s10), (11, .ptr 11 0 s11), (12, .int .i64 m), (15, .int .i64 (a.errL true)), (16, .ptr 16 0 s16), (18, .ptr 18 0 s18), (20, .int .i64 (a.under a.t))] tm)
    (hh : Hw [(10, .row (a.on d).cells s10), (11, .row (a.withW w).cells s11), (16, .row [.int .i64 a.paysP.1, .int .i64 a.paysP.2] s16), (18, .row [.int .i64 a.nothP.1, .int .i64 a.nothP.2] s18)] h) :
    AWops ⟨Pg, 0, 286, false, []⟩ (Then (AW ⟨Pg, 0, 286, false, []⟩ (.seq (.ops law11_AgainMore.r22) (.seq (.ops law11_AgainMore.r23) (.seq (.seq (.ops law11_AgainMore.r24) (.cond (.t 243) (.seq (.ops law11_AgainMore.r25) .ret) .skip)) (.seq (.seq (.ops law11_AgainMore.r26) (.cond (.t 245) (.seq (.ops law11_AgainMore.r27) (.seq (.ops law11_AgainMore.r28) (.seq (.ops law11_AgainMore.r29) (.cond (.t 284) (.seq (.ops law11_AgainMore.r30) .ret) .skip)))) .skip)) (.seq (.ops law11_AgainMore.r31) .ret))))) (RetK [.tmp 8] fun e _ => e = AEnd.ret (.bool true))) (RetK [.tmp 8] fun e _ => e = AEnd.ret (.bool true)))
      (law11_AgainMore.r21 ())
      (Then (AW ⟨Pg, 0, 286, false, []⟩ (.seq (.ops law11_AgainMore.r22) (.seq (.ops law11_AgainMore.r23) (.seq (.seq (.ops law11_AgainMore.r24) (.cond (.t 243) (.seq (.ops law11_AgainMore.r25) .ret) .skip)) (.seq (.seq (.ops law11_AgainMore.r26) (.cond (.t 245) (.seq (.ops law11_AgainMore.r27) (.seq (.ops law11_AgainMore.r28) (.seq (.ops law11_AgainMore.r29) (.cond (.t 284) (.seq (.ops law11_AgainMore.r30) .ret) .skip)))) .skip)) (.seq (.ops law11_AgainMore.r31) .ret))))) (RetK [.tmp 8] fun e _ => e = AEnd.ret (.bool true))) (RetK [.tmp 8] fun e _ => e = AEnd.ret (.bool true)) .normal) tm [] h := by
  have cA := PInv.func (first := []) (cap := []) (args := []) law11_alive_ok
  have hn6 := hv.n6
  have hvy := hv.on hdr.1 hdr.2
  have hsy := hvy.small
  have hsz := Agn.withW_small hv w
  obtain ⟨q1, q2, q3, q4⟩ := Agn.on_in hv hdr.1 hdr.2
  have y1 : PInv Pg (.func (.func fn_again_Promised) [] []) [.agg (a.on d).cells] _ := PInv.func (again_Promised_ok (a.on d) hsy)
  have y2 : PInv Pg (.func (.func fn_again_Pays) [] []) [.agg (a.on d).cells] _ := PInv.func (again_Pays_ok (a.on d) hsy)
  have y3 : PInv Pg (.func (.func fn_again_Nothing) [] []) [.agg (a.on d).cells] _ := PInv.func (again_Nothing_ok (a.on d) hsy)
  rw [Agn.promV_eq hvy] at y1
  rw [Agn.paysV_eq, q1] at y2
  rw [Agn.nothV_eq, q1] at y3
  have z0 : PInv Pg (.func (.func fn_ref11_Ship) [] []) [.agg (a.withW w).cells] _ := PInv.func (ref11_Ship_ok (a.withW w) hsz)
  have z1 : PInv Pg (.func (.func fn_again_Promised) [] []) [.agg (a.withW w).cells] _ := PInv.func (again_Promised_ok (a.withW w) hsz)
  have z2 : PInv Pg (.func (.func fn_again_Pays) [] []) [.agg (a.withW w).cells] _ := PInv.func (again_Pays_ok (a.withW w) hsz)
  have n1 : ¬ (a.on d).paysP.1 < a.paysP.1 := by omega
  have n2 : ¬ (a.on d).paysP.2 < a.paysP.2 := by omega
  have n3 : ¬ a.nothP.1 < (a.on d).nothP.1 := by omega
  have n4 : ¬ a.nothP.2 < (a.on d).nothP.2 := by omega
  have et : (a.on d).t = d := rfl
  rw [et] at y1
  simp [Vw, Hw] at hvw hh
  simp [hvw, hh]
  refine PCallK.intro y1 ?_
  simp [hvw, hh]
  refine PCallK.intro y2 ?_
  simp [hvw, hh, SP2]
  intro s30
  refine PCallK.intro y3 ?_
  simp [hvw, hh, SP2]
  intro s32
  simp [hvw, hh, q2, n1, n2, n3, n4]
  refine PCallK.intro z0 ?_
  by_cases hvz : ¬ (a.withW w).Valid
  · simp [hvz]
    refine PCallK.intro cA ?_
    simp
    exact RetV.refl rfl
  replace hvz := Classical.not_not.1 hvz
  obtain ⟨r1, r2, r3, r4⟩ := Agn.withW_in hv hwd hws hml hvz
  rw [Agn.promV_eq hvz] at z1
  rw [Agn.paysV_eq, r1] at z2
  have n5 : ¬ a.paysP.1 < (a.withW w).paysP.1 := by omega
  have n6 : ¬ a.paysP.2 < (a.withW w).paysP.2 := by omega
  have hm64 : (m : Int) < 64 := by omega
  have h2p := two_pow_le (show m ≤ 6 by omega)
  have h2q := two_pow_pos m
  have e6 : (2 : Int) ^ 6 = 64 := by decide
  have ez : (a.withW w).t = a.t := rfl
  rw [ez] at z1
  simp [hvz, hh, hvw]
  refine PCallK.intro z1 ?_
  simp [hvw, hh]
  refine PCallK.intro z2 ?_
  simp [hvw, hh, SP2]
  intro s36
  simp [hvw, hh, hm64, r2, n5, n6]
  refine ⟨Fits.of (by omega) (by omega), ?_⟩
  refine PCallK.intro cA ?_
  simp
  exact RetV.refl rfl
theorem law11_AgainMore_rest (a : Agn) (hs : a.Small) (hv : a.Valid) (s : Sd) (d : Int) (hdr : a.t ≤ d ∧ d ≤ 5000) (w : Wrk) (hwd : w.d = a.t) (m : Nat) (hws : w.s = m) (hml : m < a.n) (s4 s9 s10 s11 : Nat) :
    AW ⟨Pg, 0, 286, false, []⟩ (.ops law11_AgainMore.r9) (Then (AW ⟨Pg, 0, 286, false, []⟩ (.seq (.ops law11_AgainMore.r10) (.seq (.ops law11_AgainMore.r11) (.seq (.ops law11_AgainMore.r12) (.seq (.seq (.ops law11_AgainMore.r13) (.cond (.t 118) (.seq (.ops law11_AgainMore.r14) .ret) .skip)) (.seq (.seq (.ops law11_AgainMore.r15) (.cond (.t 120) (.seq (.ops law11_AgainMore.r16) (.seq (.ops law11_AgainMore.r17) (.seq (.ops law11_AgainMore.r18) (.seq (.ops law11_AgainMore.r19) (.cond (.t 182) (.seq (.ops law11_AgainMore.r20) .ret) .skip))))) .skip)) (.seq (.ops law11_AgainMore.r21) (.seq (.ops law11_AgainMore.r22) (.seq (.ops law11_AgainMore.r23) (.seq (.seq (.ops law11_AgainMore.r24) (.cond (.t 243) (.seq (.ops law11_AgainMore.r25) .ret) .skip)) (.seq (.seq (.ops law11_AgainMore.r26) (.cond (.t 245) (.seq (.ops law11_AgainMore.r27) (.seq (.ops law11_AgainMore.r28) (.seq (.ops law11_AgainMore.r29) (.cond (.t 284) (.seq (.ops law11_AgainMore.r30) .ret) .skip)))) .skip)) (.seq (.ops law11_AgainMore.r31) .ret))))))))))) (RetK [.tmp 8] fun e _ => e = AEnd.ret (.bool true))) (RetK [.tmp 8] fun e _ => e = AEnd.ret (.bool true)))
      (tmV [(4, .ptr 4 0 s4), (9, .ptr 9 0 s9), (10, .ptr 10 0 s10), (11, .ptr 11 0 s11), (12, .int .i64 m), (13, .func (.func fn_law11_AgainMore_1) [] [])]) []
      (hpV [(4, .row a.cells s4), (9, .row (a.withS s).cells s9), (10, .row (a.on d).cells s10), (11, .row (a.withW w).cells s11)]) := by
  have hT := law11_AgainMore_t21 a hs hv d hdr w hwd m hws hml
  have hsx := Agn.withS_small hv s
  have y0 : PInv Pg (.func (.func fn_again_Yard) [] []) [.agg a.cells] _ := PInv.func (again_Yard_ok a hs)
  have y1 : PInv Pg (.func (.func fn_again_Promised) [] []) [.agg a.cells] _ := PInv.func (again_Promised_ok a hs)
  have y2 : PInv Pg (.func (.func fn_again_Pays) [] []) [.agg a.cells] _ := PInv.func (again_Pays_ok a hs)
  have y3 : PInv Pg (.func (.func fn_again_Nothing) [] []) [.agg a.cells] _ := PInv.func (again_Nothing_ok a hs)
  rw [Agn.yardV_eq] at y0
  rw [Agn.promV_eq hv] at y1
  rw [Agn.paysV_eq] at y2
  rw [Agn.nothV_eq] at y3
  have x0 : PInv Pg (.func (.func fn_ref11_Ship) [] []) [.agg (a.withS s).cells] _ := PInv.func (ref11_Ship_ok (a.withS s) hsx)
  have x1 : PInv Pg (.func (.func fn_again_Yard) [] []) [.agg (a.withS s).cells] _ := PInv.func (again_Yard_ok (a.withS s) hsx)
  have x2 : PInv Pg (.func (.func fn_again_Pays) [] []) [.agg (a.withS s).cells] _ := PInv.func (again_Pays_ok (a.withS s) hsx)
  have x3 : PInv Pg (.func (.func fn_again_Nothing) [] []) [.agg (a.withS s).cells] _ := PInv.func (again_Nothing_ok (a.withS s) hsx)
  rw [Agn.yardV_eq] at x1
  rw [Agn.paysV_eq] at x2
  rw [Agn.nothV_eq] at x3
  have i1 := law11_AgainMore_1_ok (a.withS s).paysP a.paysP
  have i2 := law11_AgainMore_1_ok (a.withS s).nothP a.nothP
  simp
  refine PCallK.intro y0 ?_
  simp
  refine PCallK.intro y2 ?_
  simp [SP2]
  intro s16
  refine PCallK.intro y3 ?_
  simp [SP2]
  intro s18
  refine PCallK.intro y1 ?_
  simp
  refine PCallK.intro x0 ?_
  by_cases hvx : ¬ (a.withS s).Valid
  · simp [hvx, -law11_AgainMore.r21]
    exact hT s10 s11 (s16+1) (s18+1) _ _ (by simp [Vw]) (by simp [Hw])
  replace hvx := Classical.not_not.1 hvx
  simp [hvx]
  refine PCallK.intro x1 ?_
  simp
  refine PCallK.intro x2 ?_
  simp [SP2]
  intro s24
  refine PCallK.intro x3 ?_
  simp [SP2]
  intro s26
  rcases Agn.errL_two hvx with he | he
  · obtain ⟨he0, hn, hp1, hn1⟩ := Agn.withS_in hv he
    rw [he0] at hT
    by_cases h1 : a.yN = 1
    · simp [he, he0, h1]
      refine FCall.pure (PInv.func i1) ?_
      simp [hp1]
      refine FCall.pure (PInv.func i2) ?_
      simp [hn1, -law11_AgainMore.r21]
      exact hT s10 s11 (s16+1) (s18+1) _ _ (by simp [Vw]) (by simp [Hw])
    · have h2 := hn.resolve_left h1
      simp [he, he0, h1, h2]
      refine FCall.pure (PInv.func i1) ?_
      simp [hp1]
      refine FCall.pure (PInv.func i2) ?_
      simp [hn1, -law11_AgainMore.r21]
      exact hT s10 s11 (s16+1) (s18+1) _ _ (by simp [Vw]) (by simp [Hw])
  · simp [he, -law11_AgainMore.r21]
    exact hT s10 s11 (s16+1) (s18+1) _ _ (by simp [Vw]) (by simp [Hw])
theorem law11_AgainMore_ok (a : Agn) (s : Sd) (b : Int) (hb : 0 ≤ b ∧ b ≤ 65535) (c : Int) (hc : 0 ≤ c ∧ c ≤ 255) : APure Pg fn_law11_AgainMore [a.v, .agg s.c, .int .u16 b, .int .u8 c] (.bool true) := by
  have cL := PInv.func (first := []) (cap := []) (args := [a.v]) (law11_long_ok a)
  have cA := PInv.func (first := []) (cap := []) (args := []) law11_alive_ok
  refine law11_AgainMore.pure (by simp) ?_
  simp
  intro s4 s5
  refine PCallK.intro cL ?_
  cases hl : a.longB with
  | true =>
    simp
    refine PCallK.intro cA ?_
    simp
    exact RetV.refl rfl
  | false =>
  have hs := Agn.long_small hl
  have cS := ref11_Ship_ok a hs
  simp only [Agn.v_agg] at cS
  simp
  refine PCallK.intro (PInv.func cS) ?_
  by_cases hv : ¬ a.Valid
  · simp [hv]
    refine PCallK.intro cA ?_
    simp
    exact RetV.refl rfl
  replace hv := Classical.not_not.1 hv
  have hn6 := hv.n6
  have hn1 := hv.n1
  have hfn : a.f.length = a.n := rfl
  have hto := hv.to
  have hk7 := hv.k7
  have hkl : a.h.snds.length < 8 := hk7
  have hw12 := hv.w12
  have hwb := Agn.wrap64 (x := b) (by omega) (by omega)
  have hwc := Agn.wrap64 (x := c) (by omega) (by omega)
  obtain ⟨e, hbm⟩ : ∃ x, b.tmod 800 = x := ⟨_, rfl⟩
  have hbe : 0 ≤ e ∧ e < 800 := by rw [← hbm]; exact ⟨Int.tmod_nonneg 800 hb.1, Int.tmod_lt_of_pos b (by omega)⟩
  obtain ⟨g, hg⟩ : ∃ x, c.tmod 4 = x := ⟨_, rfl⟩
  have hg4 : 0 ≤ g ∧ g < 4 := by rw [← hg]; exact ⟨Int.tmod_nonneg 4 hc.1, Int.tmod_lt_of_pos c (by omega)⟩
  obtain ⟨m, hm⟩ : ∃ m : Nat, c.tmod a.f.length = m := ⟨(c.tmod a.f.length).toNat, by have := Int.tmod_nonneg a.f.length hc.1; omega⟩
  have hml : m < a.n := by have := Int.tmod_lt_of_pos c (show (0 : Int) < a.f.length by omega); omega
  have hfne : ¬ a.f = [] := fun h => by rw [h] at hfn; simp at hfn; omega
  simp [hv, Sd.c]
  intro s9 s10 s11 s49 s55 s53
  refine xAp_cp (by simp) (by simp) (by omega) ?_
  simp
  intro s56
  refine xApN_cp (n := a.h.snds.length) (cs := sds a.h.snds) (by simp) (by simp) (by simp) (by omega) (by omega) ?_
  rw [show sds a.h.snds ++ [AVal.int .i64 s.d, .int .i64 s.l, .int .i64 s.lo, .int .i64 s.hi] = sds (a.h.snds ++ [s]) by simp [sds, fl, Sd.c]]
  simp [hwb, hwc, hbm, hg, hm]
  refine ⟨Fits.of (by omega) (by omega), Fits.of (by omega) (by omega), Fits.of (by omega) (by omega), hfne, Fits.of (by omega) (by omega), fun s73 s76 => ?_⟩
  refine xAp_cp (by simp) (by simp) (by omega) ?_
  simp
  refine PCallK.intro (PInv.func (law11_work_ok _ _ _)) ?_
  simp
  intro s84 s85
  refine xApN_cp (n := a.w.length) (cs := wks a.w) (by simp) (by simp) (by simp) (by omega) (by omega) ?_
  rw [show wks a.w ++ [AVal.int .i64 m, .int .i64 a.t, .int .i64 g] = wks (a.w ++ [⟨m, a.t, g⟩]) by simp [wks, fl, wkC]]
  simp
  obtain ⟨d, hd⟩ : ∃ d : Int, d = min 5000 (a.t + e) := ⟨_, rfl⟩
  have hdr : a.t ≤ d ∧ d ≤ 5000 := by omega
  obtain ⟨w, hw⟩ : ∃ w : Wrk, w = ⟨m, a.t, g⟩ := ⟨_, rfl⟩
  refine Sl.frzHp 56 rfl (Sl.frzHp 85 (cells := wks (a.w ++ [w])) (s := s85 + 1) (by simp [hw]) (Sl.toV [(4, .ptr 4 0 (s4+1)), (9, .ptr 9 0 (s9+1)), (10, .ptr 10 0 (s10+1)), (11, .ptr 11 0 (s11+1)), (12, .int .i64 m), (13, .func (.func fn_law11_AgainMore_1) [] [])]
    [(4, .row a.cells (s4+1)), (9, .row (a.withS s).cells (s9+1)), (10, .row (a.on d).cells (s10+1)), (11, .row (a.withW w).cells (s11+1))] (Sl.refl ⟨rfl, by simp, ?_⟩) ?_))
  · simp [Agn.cells, Agn.withS, Agn.on, Agn.withW, Hul.more, LD, LW, hd, hw]
  have hvy := hv.on hdr.1 hdr.2
  have hwd : w.d = a.t := by rw [hw]
  have hws : w.s = m := by rw [hw]
  exact law11_AgainMore_rest a hs hv s d hdr w hwd m hws hml (s4+1) (s9+1) (s10+1) (s11+1)
end Go.Cw
end
