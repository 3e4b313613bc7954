/-
  What the document's reference of layer 11 computes; laws of layer 11; how a ship is read as an argument.
-/
import Derived.Test.YtkcppdggfnfpiaaGreatWb
import Derived.Test.YtkcppdggfnfpiaaGreatLa
import Derived.Test.YtkcppdggfnfpiaaGreatAe
import Derived.Test.YtkcppdggfnfpiaaGreatAf
import Derived.Test.YtkcppdggfnfpiaaGreatRows
set_option linter.unusedVariables false
set_option linter.unusedSimpArgs false
set_option linter.unusedSectionVars false

/- The reference of chapter 11: is a ship valid; the last works; promises. -/
section
set_option maxRecDepth 100000
set_option linter.unusedSimpArgs false
namespace Go.Cw
open Go Go.Proofs

theorem ref11_in_ok (n lo hi : Int) : APure Pg fn_ref11_in [.int .i64 n, .int .i64 lo, .int .i64 hi] (.bool (decide (lo ≤ n ∧ n ≤ hi))) := by
  refine ref11_in.pure (by simp) ?_
  by_cases h : lo ≤ n <;> simp [h] <;> refine RetV.refl ?_ <;> simp_all

theorem ref11_Ship_ok (a : Agn) (hs : a.Small) : APure Pg fn_ref11_Ship [a.v] (.bool (decide a.Valid)) := by
  have hf40 := hs.f
  have hw40 := hs.w
  have hfn : a.f.length = a.n := rfl
  refine ref11_Ship.pure (by simp) ?_
  simp
  intro s1
  refine PCallK.intro (PInv.func (first := []) (cap := []) (args := [a.h.v]) (ref01_Hull_ok a.h hs.h)) ?_
  by_cases c1 : ¬ a.h.Valid
  · have hn : ¬ a.Valid := fun hv => c1 hv.h
    simp [c1]
    exact RetV.refl (by simp [hn])
  replace c1 := Classical.not_not.1 c1
  have hsl : a.h.seams.length ≤ 6 := c1.n6
  have hdl : a.h.snds.length ≤ 8 := c1.k8
  by_cases c2 : ¬ a.h.snds.length < 8
  · have hn : ¬ a.Valid := fun hv => c2 hv.k7
    have c2' : (8 : Int) ≤ a.h.snds.length := by omega
    simp [c1, c2']
    exact RetV.refl (by simp [hn])
  replace c2 := Classical.not_not.1 c2
  have c2' : ¬ (8 : Int) ≤ a.h.snds.length := by omega
  by_cases c3 : ¬ a.f.length = a.h.seams.length
  · have hn : ¬ a.Valid := fun hv => c3 hv.len
    have c3' : ¬ (a.f.length : Int) = a.h.seams.length := by omega
    simp [c1, c2', c3, c3']
    exact RetV.refl (by simp [hn])
  replace c3 := Classical.not_not.1 c3
  have c3' : (a.f.length : Int) = a.h.seams.length := by omega
  simp [c1, c2', c3, c3']
  refine PCallK.intro (PInv.func (ref11_in_ok _ _ _)) ?_
  by_cases c4 : ¬ (0 ≤ a.c ∧ a.c ≤ 100)
  · have hn : ¬ a.Valid := fun hv => c4 hv.co
    simp [c4]
    exact RetV.refl (by simp [hn])
  replace c4 := Classical.not_not.1 c4
  simp [c4]
  refine PCallK.intro (PInv.func (ref11_in_ok _ _ _)) ?_
  by_cases c5 : ¬ (0 ≤ a.t ∧ a.t ≤ 5000)
  · have hn : ¬ a.Valid := fun hv => c5 hv.to
    simp [c5]
    exact RetV.refl (by simp [hn])
  replace c5 := Classical.not_not.1 c5
  simp [c5]
  by_cases c6 : ¬ a.w.length ≤ 12
  · have hn : ¬ a.Valid := fun hv => c6 hv.w12
    have c6' : (12 : Int) < a.w.length := by omega
    simp [c6']
    exact RetV.refl (by simp [hn])
  replace c6 := Classical.not_not.1 c6
  have c6' : ¬ (12 : Int) < a.w.length := by omega
  simp [c6']
  refine Lp.intro (σ := Nat) (inv := fun k => k ≤ a.f.length ∧ ∀ x ∈ a.f.take k, 1 ≤ x ∧ x ≤ 20) (vw := fun k => [(1, .ptr 1 0 (s1+1)), (3, .int .i64 k)]) (hp := fun _ => [(1, .row a.cells (s1+1))]) (ms := fun k => a.f.length - k) 0 (by simp) (by simp) (by simp [Agn.cells]) ?_
  rintro k ⟨hk, hall⟩ J hJ
  by_cases hkc : k < a.f.length
  · obtain ⟨x, hx⟩ : ∃ x, a.f[k] = x := ⟨_, rfl⟩
    have hg : a.f[k]? = some x := by rw [List.getElem?_eq_getElem hkc, hx]
    simp [hkc, hx, hg, Agn.cells]
    refine PCallK.intro (PInv.func (ref11_in_ok _ _ _)) ?_
    by_cases hb : 1 ≤ x ∧ x ≤ 20
    · simp [hb]
      (repeat first | refine And.intro (by omega) ?_ | refine And.intro (Fits.of (by omega) (by omega)) ?_)
      refine hJ.next (k + 1) ⟨by omega, fun y hy => ?_⟩ (by omega) (by simp) (by simp [Agn.cells])
      rw [← List.take_append_getElem hkc] at hy
      rcases List.mem_append.1 hy with hy | hy
      · exact hall y hy
      · simp [hx] at hy; rw [hy]; exact hb
    · have hn : ¬ a.Valid := fun hv => hb (hv.fa x (by rw [← hx]; exact List.getElem_mem hkc))
      simp [hb]
      refine hJ.ret ?_
      simp
      exact RetV.refl (by simp [hn])
  obtain rfl : k = a.f.length := by omega
  rw [List.take_length] at hall
  simp [Agn.cells]
  refine hJ.exit ?_
  simp
  refine Lp.intro (σ := Nat) (inv := fun k => k ≤ a.w.length ∧ ∀ x ∈ a.w.take k, a.OkW x) (vw := fun k => [(1, .ptr 1 0 (s1+1)), (4, .int .i64 k)]) (hp := fun _ => [(1, .row a.cells (s1+1))]) (ms := fun k => a.w.length - k) 0 (by simp) (by simp) (by simp [Agn.cells]) ?_
  rintro k ⟨hk, hallw⟩ J hJ
  by_cases hkc : k < a.w.length
  · obtain ⟨x, hx⟩ : ∃ x, a.w[k] = x := ⟨_, rfl⟩
    have hg : a.w[k]? = some x := by rw [List.getElem?_eq_getElem hkc, hx]
    have hno : ¬ a.OkW x → ¬ a.Valid := fun h hv => h (hv.wo x (by rw [← hx]; exact List.getElem_mem hkc))
    have hsm : a.h.Seam x.s ↔ 0 ≤ x.s ∧ x.s < a.n := by
      unfold Hul.Seam
      have : (a.h.n : Int) = a.n := by rw [← hfn]; exact c3'.symm
      rw [this]
    simp [hkc, hx, hg, Agn.cells]
    refine ⟨by omega, fun s5 => ?_⟩
    refine PCallK.intro (PInv.func (first := []) (cap := []) (args := [a.h.v, .int .i64 x.s]) (ref01_Seam_ok a.h hs.h x.s)) ?_
    by_cases d1 : ¬ a.h.Seam x.s
    · have hn := hno fun h => d1 (hsm.2 h.1)
      simp [d1]
      refine hJ.ret ?_
      simp
      exact RetV.refl (by simp [hn])
    replace d1 := Classical.not_not.1 d1
    simp [d1]
    refine PCallK.intro (PInv.func (ref11_in_ok _ _ _)) ?_
    by_cases d2 : ¬ (0 ≤ x.g ∧ x.g ≤ 3)
    · have hn := hno fun h => d2 h.2.1
      simp [d2]
      refine hJ.ret ?_
      simp
      exact RetV.refl (by simp [hn])
    replace d2 := Classical.not_not.1 d2
    simp [d2]
    refine PCallK.intro (PInv.func (ref11_in_ok _ _ _)) ?_
    by_cases d3 : ¬ (0 ≤ x.d ∧ x.d ≤ a.t)
    · have hn := hno fun h => d3 h.2.2
      simp [d3]
      refine hJ.ret ?_
      simp
      exact RetV.refl (by simp [hn])
    replace d3 := Classical.not_not.1 d3
    simp [d3]
    (repeat first | refine And.intro (by omega) ?_ | refine And.intro (Fits.of (by omega) (by omega)) ?_)
    refine hJ.next (k + 1) ⟨by omega, fun y hy => ?_⟩ (by omega) (by simp) (by simp [Agn.cells])
    rw [← List.take_append_getElem hkc] at hy
    rcases List.mem_append.1 hy with hy | hy
    · exact hallw y hy
    · simp [hx] at hy; rw [hy]; exact ⟨hsm.1 d1, d2, d3⟩
  obtain rfl : k = a.w.length := by omega
  rw [List.take_length] at hallw
  have hv : a.Valid := ⟨c1, c2, c3, hall, c4, c5, c6, hallw⟩
  simp [Agn.cells]
  refine hJ.exit ?_
  simp
  exact RetV.refl (by simp [hv])
namespace Ag
def lastI (W : List Wrk) (i : Int) : Nat → Int
  | 0 => -1
  | k + 1 => match W[k]? with
    | some w => if w.s = i then (match lastW (W.take k) i with
      | none => k
      | some v => if v.d ≤ w.d then k else lastI W i k) else lastI W i k
    | none => lastI W i k
theorem lastI_spec (W : List Wrk) (i : Int) : ∀ k, k ≤ W.length → (lastI W i k = -1 ∧ lastW (W.take k) i = none) ∨ ∃ j, j < k ∧ lastI W i k = j ∧ ∃ v, W[j]? = some v ∧ lastW (W.take k) i = some v
  | 0, _ => .inl ⟨rfl, rfl⟩
  | k + 1, hk => by
    have hkc : k < W.length := by omega
    have ih := lastI_spec W i k (by omega)
    have hg : W[k]? = some W[k] := List.getElem?_eq_getElem hkc
    have ht : W.take (k + 1) = W.take k ++ [W[k]] := (List.take_append_getElem hkc).symm
    simp only [lastI, hg]
    rw [ht, lastW_push]
    rcases ih with ⟨h1, h2⟩ | ⟨j, h1, h2, v, h3, h4⟩
    · rw [h2]
      simp only [betW]
      by_cases e : W[k].s = i
      · rw [if_pos e, if_pos e]
        exact .inr ⟨k, by omega, rfl, _, hg, rfl⟩
      · rw [if_neg e, if_neg e]
        exact .inl ⟨h1, rfl⟩
    · rw [h4]
      simp only [betW]
      by_cases e : W[k].s = i
      · rw [if_pos e]
        by_cases e2 : v.d ≤ W[k].d
        · rw [if_pos e2, if_pos ⟨e, e2⟩]
          exact .inr ⟨k, by omega, rfl, _, hg, rfl⟩
        · rw [if_neg e2, if_neg fun h => e2 h.2]
          exact .inr ⟨j, by omega, h2, v, h3, rfl⟩
      · rw [if_neg e, if_neg fun h => e h.1]
        exact .inr ⟨j, by omega, h2, v, h3, rfl⟩
end Ag

structure Agn.Days (a : Agn) : Prop where
  w : a.w.length ≤ 40
  d : ∀ x ∈ a.w, 0 ≤ x.d ∧ x.d ≤ 5000
  t : 0 ≤ a.t ∧ a.t ≤ 1000000
theorem Agn.Valid.days {a : Agn} (hv : a.Valid) : a.Days := ⟨by have := hv.w12; omega, fun x hx => by have := (hv.wo x hx).2.2; have := hv.to; omega, by have := hv.to; omega⟩

end Go.Cw
end

/- The reference of chapter 11: promises; what truths tell. -/
section
set_option maxRecDepth 100000
set_option linter.unusedSimpArgs false
namespace Go.Cw
open Go Go.Proofs

noncomputable def Agn.truthsL (a : Agn) (is : Bool) : List (List Int) := if a.errL is = 0 then a.h.truths a.h.every else []
noncomputable def Agn.tellV (a : Agn) (is : Bool) : AVal := .tup [LLv (a.truthsL is), .int .i64 (a.errL is)]

def Agn.isT (a : Agn) (t : List Int) : Bool := (List.range t.length).any (fun i => decide (0 < ofL t i)) && (List.range t.length).all (fun i => !decide (0 < ofL t i) || Ag.pr a.w a.t i)

def Agn.yardT (a : Agn) (T : List (List Int)) : Int := if T.all a.isT then 2 else if T.any a.isT then 1 else 0

end Go.Cw
end

/- The reference of chapter 11: fathoms; who pays; whose work leaks. -/
section
set_option maxRecDepth 100000
set_option linter.unusedSimpArgs false
namespace Go.Cw
open Go Go.Proofs

def Agn.cntB (a : Agn) (under : Bool) (g : Int) (i : Nat) : Bool := (Ag.pr a.w a.t i == under) && (decide (g < 0) || decide (Ag.ofW a.w i = g))
def Agn.lenT (a : Agn) (t : List Int) (under : Bool) (g : Int) : Int := Ag.lenB a.F t.length fun i => decide (0 < ofL t i) && a.cntB under g i

noncomputable def Agn.lensP (a : Agn) (under : Bool) (g : Int) (is : Bool) : Int × Int := if a.errL is = 0 then spanOf ((a.h.truths a.h.every).map fun t => a.lenT t under g) else (0, 0)

end Go.Cw
end

/- The reference of chapter 11: Pays, Nothing, Gang, Blame, Until. -/
section
set_option maxRecDepth 100000
set_option linter.unusedSimpArgs false
namespace Go.Cw
open Go Go.Proofs

end Go.Cw
end

/- The reference of chapter 11: Until. -/
section
set_option maxRecDepth 100000
set_option linter.unusedSimpArgs false
namespace Go.Cw
open Go Go.Proofs

theorem Agn.mem_days {a : Agn} {d : Int} : d ∈ a.daysL ↔ ∃ i, i < a.n ∧ (∃ s ∈ a.S, inS s i = true) ∧ ∃ w, Ag.lastW a.w i = some w ∧ w.d = d := by
  unfold Agn.daysL
  rw [List.mem_filterMap]
  constructor
  · rintro ⟨i, hi, h⟩
    split at h
    · rename_i hs
      obtain ⟨s, h1, h2⟩ := List.any_eq_true.1 hs
      cases hw : Ag.lastW a.w i with
      | none => rw [hw] at h; simp at h
      | some w =>
        rw [hw] at h
        exact ⟨i, List.mem_range.1 hi, ⟨s, h1, h2⟩, w, hw, by simpa using h⟩
    · cases h
  · rintro ⟨i, hi, ⟨s, h1, h2⟩, w, hw, rfl⟩
    refine ⟨i, List.mem_range.2 hi, ?_⟩
    rw [if_pos (List.any_eq_true.2 ⟨s, h1, h2⟩), hw]
    rfl
theorem Agn.first_is {a : Agn} (hv : a.Valid) (hS : a.S ≠ []) (hy : a.yardN = 2) : Ag.IsFirst a.n a.w a.S a.firstD := by
  have hdn : ∀ d ∈ a.daysL, 0 ≤ d := fun d hd => by
    obtain ⟨i, _, _, w, hw, rfl⟩ := Agn.mem_days.1 hd
    exact (Agn.work_rng hv hw).2.2.2.1
  obtain ⟨s, h1, i, h2, h3, w, h4⟩ := Ag.first_ex hS (Agn.S_in hv) hy
  have hm := Agn.mem_days.2 ⟨i, h2, ⟨s, h1, h3⟩, w, h4, rfl⟩
  rcases Ag.least_spec hdn with ⟨e, _⟩ | ⟨h5, h6⟩
  · rw [e] at hm; cases hm
  · obtain ⟨j, h7, ⟨t, h8, h9⟩, v, h10, h11⟩ := Agn.mem_days.1 h5
    exact ⟨⟨t, h8, j, h7, h9, v, h10, h11⟩, fun s hs i hi hsi w hw => h6 _ (Agn.mem_days.2 ⟨i, hi, ⟨s, hs, hsi⟩, w, hw, rfl⟩)⟩

end Go.Cw
end

/- The laws of chapter 11: the document's ship; what it fixes. -/
section
set_option maxRecDepth 100000
set_option linter.unusedSimpArgs false
namespace Go.Cw
open Go Go.Proofs

def asm (t : Int) : Agn := ⟨⟨[⟨2, 0, 3⟩, ⟨5, -1, 2⟩, ⟨5, 1, 4⟩], [⟨3, 0, 1, 2⟩, ⟨6, 0, 4, 4⟩]⟩, [4, 3, 5], 10, [⟨0, 100, 0⟩, ⟨1, 90, 1⟩, ⟨2, 10, 0⟩], t⟩
theorem asm_small (t : Int) : (asm t).Small := ⟨⟨by simp [asm], by simp [asm]⟩, by simp [asm], by simp [asm]⟩
def asmT : List (List Int) := [[1, 0, 3], [1, 1, 2], [1, 2, 1], [2, 0, 2], [2, 1, 1], [2, 2, 0]]
theorem asm_truths (t : Int) : (asm t).h.truths (asm t).h.every = asmT := by
  have : (asm 300).h.truths (asm 300).h.every = asmT := by decide +kernel
  exact this
theorem asm_S (t : Int) : (asm t).S = [3, 5, 7] := by
  unfold Agn.S Hul.setsL
  rw [asm_truths]
  exact sortI_eq (by decide +kernel) (by unfold SortedI; decide +kernel)
theorem asm_valid {t : Int} (h : t = 300 ∨ t = 400) : (asm t).Valid := by
  have hh : ∀ t, (asm t).h.Valid := fun t => by
    have : (asm 300).h.Valid := ⟨by simp [asm, Hul.n], by simp [asm, Hul.n], by simp [asm, Hul.k], by decide, by decide⟩
    exact this
  rcases h with rfl | rfl
  · exact ⟨hh _, by simp [asm, Hul.k], by simp [asm, Hul.n], by decide, by simp [asm], by simp [asm], by simp [asm], by decide⟩
  · exact ⟨hh _, by simp [asm, Hul.k], by simp [asm, Hul.n], by decide, by simp [asm], by simp [asm], by simp [asm], by decide⟩
theorem asm_errO {t : Int} (h : t = 300 ∨ t = 400) : (asm t).errO true = 0 := Agn.errO_zero.2 ⟨asm_valid h, rfl⟩
theorem asm_errL {t : Int} (h : t = 300 ∨ t = 400) : (asm t).errL true = 0 := Agn.errL_zero.2 ⟨asm_valid h, rfl, by rw [asm_S]; simp⟩
theorem asm_prom {t x : Int} (h : t = 300 ∨ t = 400) (hx : bits (Ag.pr (asm t).w t) 3 = x) : (asm t).promV = .tup [.int .i64 x, .int .i64 0] := by
  have e : (asm t).under (asm t).t = x := hx
  unfold Agn.promV
  rw [asm_errO h, e]
  simp
theorem asm_yardN {t x : Int} (hx : Ag.toldV 3 (Ag.pr (asm t).w t) [3, 5, 7] = x) : (asm t).yardN = x := by
  unfold Agn.yardN
  rw [asm_S]
  exact hx
theorem asm_yard {t x : Int} (h : t = 300 ∨ t = 400) (hx : Ag.toldV 3 (Ag.pr (asm t).w t) [3, 5, 7] = x) : (asm t).yardV = .tup [.int .i64 x, .int .i64 0] := by
  unfold Agn.yardV
  rw [asm_errL h, asm_yardN hx]
  simp
theorem asm_span {t : Int} {u : Nat → Bool} {x : Int × Int} (hx : Ag.jn (Ag.payS (ofL [4, 3, 5]) 3 u) [3, 5, 7] = x) : (asm t).spanP u = x := by
  unfold Agn.spanP
  rw [asm_S]
  exact hx
theorem asm_pays {t : Int} (h : t = 300 ∨ t = 400) {x : Int × Int} (hx : Ag.jn (Ag.payS (ofL [4, 3, 5]) 3 fun i => !Ag.pr (asm t).w t i) [3, 5, 7] = x) : (asm t).paysV = .tup [SP2 (x.1 * 10, x.2 * 10), .int .i64 0] := by
  have e : (asm t).spanP (fun i => !Ag.pr (asm t).w (asm t).t i) = x := asm_span hx
  unfold Agn.paysV Agn.paysP
  rw [asm_errL h, e]
  rfl
theorem asm_noth {t : Int} (h : t = 300 ∨ t = 400) {x : Int × Int} (hx : Ag.jn (Ag.payS (ofL [4, 3, 5]) 3 (Ag.pr (asm t).w t)) [3, 5, 7] = x) : (asm t).nothV = .tup [SP2 x, .int .i64 0] := by
  have e : (asm t).spanP (Ag.pr (asm t).w (asm t).t) = x := asm_span hx
  unfold Agn.nothV Agn.nothP
  rw [asm_errL h, e]
  rfl
theorem asm_gang {t : Int} (h : t = 300 ∨ t = 400) (g : Int) (hg : Agn.GangOk g) {x : Int × Int} (hx : Ag.jn (Ag.payS (ofL [4, 3, 5]) 3 fun i => Ag.pr (asm t).w t i && decide (Ag.ofW (asm t).w i = g)) [3, 5, 7] = x) : (asm t).gangV g = .tup [SP2 x, .int .i64 0] := by
  have e : (asm t).spanP ((asm t).ownB g) = x := asm_span hx
  unfold Agn.gangV Agn.gangP
  rw [decide_eq_true hg, asm_errL h, e]
  rfl
theorem asm_blame : (asm 400).blameV = .tup [.int .i64 1, .int .i64 3, .int .i64 0] := by
  have hs : ∀ i : Nat, (asm 400).spanP ((asm 400).ownB i) = Ag.jn (Ag.payS (ofL [4, 3, 5]) 3 fun j => Ag.pr (asm 400).w 400 j && decide (Ag.ofW (asm 400).w j = i)) [3, 5, 7] := fun i => asm_span rfl
  have e1 : bits (asm 400).surelyB 4 = 1 := by
    have : (asm 400).surelyB = fun i : Nat => decide (0 < (Ag.jn (Ag.payS (ofL [4, 3, 5]) 3 fun j => Ag.pr (asm 400).w 400 j && decide (Ag.ofW (asm 400).w j = i)) [3, 5, 7]).1) := funext fun i => by unfold Agn.surelyB; rw [hs]
    rw [this]
    decide +kernel
  have e2 : bits (asm 400).perhapsB 4 = 3 := by
    have : (asm 400).perhapsB = fun i : Nat => decide (0 < (Ag.jn (Ag.payS (ofL [4, 3, 5]) 3 fun j => Ag.pr (asm 400).w 400 j && decide (Ag.ofW (asm 400).w j = i)) [3, 5, 7]).2) := funext fun i => by unfold Agn.perhapsB; rw [hs]
    rw [this]
    decide +kernel
  unfold Agn.blameV
  rw [asm_errL (.inr rfl), e1, e2]
  simp
theorem asm_until : (asm 300).untilV = .tup [.int .i64 375, .int .i64 0] := by
  have e1 : (asm 300).yardN = 2 := asm_yardN (by decide +kernel)
  have e2 : (asm 300).firstD = 10 := by
    unfold Agn.firstD Agn.daysL
    rw [asm_S]
    decide +kernel
  have e3 : (asm 300).errU = 0 := by unfold Agn.errU; rw [asm_errL (.inl rfl), e1]; simp
  unfold Agn.untilV
  rw [e3, e2]
  simp
def asmC (w : Int) : Bool := (List.range 25).all fun (n : Nat) =>
  !(decide (seenK (asmT.filter fun t => decide ((n : Int) ≤ Hul.sumT t w ∧ Hul.sumT t w ≤ n)) ≠ []) && decide (Ag.toldV 3 (Ag.pr (asm 400).w 400) (seenK (asmT.filter fun t => decide ((n : Int) ≤ Hul.sumT t w ∧ Hul.sumT t w ≤ n))) = 1))
theorem asm_ask : (asm 400).askV = .tup [.int .i64 2, .int .i64 (-3), .int .i64 0] := by
  have hset : ∀ d l, (asm 400).setB d l = asmC ((asm 400).h.wet d l) := fun d l => by
    unfold Agn.setB asmC
    refine congrArg (List.all (List.range 25)) (funext fun n => ?_)
    unfold Agn.perB
    rw [Agn.soundS_eq, asm_truths]
    have h1 : ∀ X : List Int, decide (sortI X ≠ []) = decide (X ≠ []) := fun X => by
      refine decide_eq_decide.2 (not_congr ?_)
      constructor
      · intro h
        have := (sortI_perm X).length_eq
        rw [h] at this
        exact List.eq_nil_of_length_eq_zero this.symm
      · rintro rfl
        have := (sortI_perm []).length_eq
        exact List.eq_nil_of_length_eq_zero this
    have h2 : ∀ X : List Int, Ag.toldV (asm 400).n (Ag.pr (asm 400).w (asm 400).t) (sortI X) = Ag.toldV 3 (Ag.pr (asm 400).w 400) X := fun X => Ag.told_same fun s => (sortI_perm X).mem_iff
    rw [h1, h2]
  have e1 : (asm 400).askP = some (2, -3) := by
    unfold Agn.askP
    simp only [hset]
    decide +kernel
  have e2 : (asm 400).errA = 0 := by
    unfold Agn.errA
    rw [asm_errL (.inr rfl), asm_yardN (x := 1) (by decide +kernel), e1]
    simp
  unfold Agn.askV
  rw [e2, e1]
  simp
theorem law11_span_ok (a b : Int) : APure Pg fn_law11_span [.int .i64 a, .int .i64 b] (SP2 (a, b)) := by
  refine law11_span.pure (by simp) ?_
  simp
  intro s
  exact RetV.refl (by simp [SP2])
theorem law11_work_ok (a b c : Int) : APure Pg fn_law11_work [.int .i64 a, .int .i64 b, .int .i64 c] (.agg [.int .i64 a, .int .i64 b, .int .i64 c]) := by
  refine law11_work.pure (by simp) ?_
  simp
  intro s
  exact RetV.refl (by simp)
theorem law11_sample_ok (t : Int) : APure Pg fn_law11_sample [.int .i64 t] (asm t).v := by
  refine law11_sample.pure (by simp) ?_
  simp
  intro s1 s2
  refine PCallK.intro (PInv.func (law11_span_ok _ _)) ?_
  simp [SP2]
  refine PCallK.intro (PInv.func (law11_span_ok _ _)) ?_
  simp [SP2]
  intro s3 s4
  refine PCallK.intro (PInv.func (law11_work_ok _ _ _)) ?_
  simp
  refine PCallK.intro (PInv.func (law11_work_ok _ _ _)) ?_
  simp
  refine PCallK.intro (PInv.func (law11_work_ok _ _ _)) ?_
  simp
  intro s5
  refine RetV.frz 6 rfl (RetV.frz 11 rfl (RetV.frz 13 rfl (RetV.frz 17 rfl (RetV.refl ?_))))
  simp [asm, LS, LD, sms, sds, fl, Sm.c, Sd.c, L, ints, LW, wks, wkC]
theorem law11_alive_ok : APure Pg fn_law11_alive [] (.bool true) := by
  have w0 := fun t => PInv.func (first := []) (cap := []) (args := [.int .i64 t]) (law11_sample_ok t)
  have c1 := again_Promised_ok (asm 400) (asm_small _)
  rw [asm_prom (.inr rfl) (x := 3) (by decide +kernel)] at c1
  have c2 := again_Yard_ok (asm 300) (asm_small _)
  rw [asm_yard (.inl rfl) (x := 2) (by decide +kernel)] at c2
  have c3 := again_Pays_ok (asm 400) (asm_small _)
  rw [asm_pays (.inr rfl) (x := (0, 5)) (by decide +kernel)] at c3
  have c4 := again_Nothing_ok (asm 300) (asm_small _)
  rw [asm_noth (.inl rfl) (x := (7, 12)) (by decide +kernel)] at c4
  have c5 := again_Gang_ok (asm 400) (asm_small _) 1
  rw [asm_gang (.inr rfl) 1 (by decide) (x := (0, 3)) (by decide +kernel)] at c5
  have c6 := again_Blame_ok (asm 400) (asm_small _)
  rw [asm_blame] at c6
  have c7 := again_Until_ok (asm 300) (asm_small _)
  rw [asm_until] at c7
  have c8 := again_Ask_ok (asm 400) (asm_small _)
  rw [asm_ask] at c8
  refine law11_alive.pure (by simp) ?_
  simp only [Agn.v_agg] at c1 c2 c3 c4 c5 c6 c7 c8
  simp
  refine PCallK.intro (w0 400) ?_
  simp
  refine PCallK.intro (PInv.func c1) ?_
  simp
  refine PCallK.intro (w0 300) ?_
  simp
  refine PCallK.intro (PInv.func c2) ?_
  simp
  refine PCallK.intro (w0 400) ?_
  simp
  refine PCallK.intro (PInv.func c3) ?_
  simp [SP2]
  intro s5
  refine PCallK.intro (w0 300) ?_
  simp
  refine PCallK.intro (PInv.func c4) ?_
  simp [SP2]
  intro s7
  refine PCallK.intro (w0 400) ?_
  simp
  refine PCallK.intro (PInv.func c5) ?_
  simp [SP2]
  intro s9
  refine PCallK.intro (w0 400) ?_
  simp
  refine PCallK.intro (PInv.func c6) ?_
  simp
  refine PCallK.intro (w0 300) ?_
  simp
  refine PCallK.intro (PInv.func c7) ?_
  simp
  refine PCallK.intro (w0 400) ?_
  simp
  refine PCallK.intro (PInv.func c8) ?_
  simp
  refine PCallK.intro (PInv.func (law11_span_ok _ _)) ?_
  simp [SP2]
  refine PCallK.intro (PInv.func (law11_span_ok _ _)) ?_
  simp [SP2]
  refine PCallK.intro (PInv.func (law11_span_ok _ _)) ?_
  simp [SP2]
  exact RetV.refl rfl
def Agn.longB (a : Agn) : Bool := decide ((40 : Int) < max (a.h.seams.length : Int) (max (a.h.snds.length : Int) (max (a.f.length : Int) (a.w.length : Int))))
theorem Agn.long_small {a : Agn} (h : a.longB = false) : a.Small := by
  unfold Agn.longB at h
  have h := of_decide_eq_false h
  exact ⟨⟨by omega, by omega⟩, by omega, by omega⟩
theorem law11_long_ok (a : Agn) : APure Pg fn_law11_long [a.v] (.bool a.longB) := by
  refine law11_long.pure (by simp) ?_
  simp
  intro s1
  exact RetV.refl (by simp [Agn.longB])
def Agn.ways (a : Agn) (k : Nat) : Int := (a.h.seams.take k).foldl (fun n s => n * (s.m + 1)) 1
theorem Agn.ways_step {a : Agn} {k : Nat} (h : k < a.h.seams.length) : a.ways (k + 1) = a.ways k * ((a.h.seams[k]).m + 1) := by
  unfold Agn.ways
  rw [← List.take_append_getElem h, List.foldl_append]
  rfl
theorem Agn.ways_rng {a : Agn} (hv : a.h.Valid) : ∀ k, k ≤ a.h.seams.length → 1 ≤ a.ways k ∧ a.ways k ≤ 5 ^ k
  | 0, _ => by simp [Agn.ways]
  | k + 1, hk => by
    have hkc : k < a.h.seams.length := by omega
    obtain ⟨h1, h2⟩ := Agn.ways_rng hv k (by omega)
    rw [Agn.ways_step hkc]
    have h3 := (hv.sm a.h.seams[k] (List.getElem_mem hkc)).2.2
    obtain ⟨m, hm⟩ : ∃ m, m = (a.h.seams[k]).m + 1 := ⟨_, rfl⟩
    rw [← hm]
    have hm1 : 1 ≤ m ∧ m ≤ 5 := by omega
    refine ⟨?_, ?_⟩
    · have := Int.mul_le_mul h1 hm1.1 (by omega) (by omega)
      omega
    · have := Int.mul_le_mul h2 hm1.2 (by omega) (by omega)
      rw [Int.pow_succ]
      exact this
noncomputable def Agn.heavyB (a : Agn) (w : Int) : Bool := if a.longB then true else if a.Valid then decide (w < a.ways a.h.seams.length) else false
end Go.Cw
end

/- The laws of chapter 11: what is told is what the document tells. -/
section
set_option maxRecDepth 100000
set_option linter.unusedSimpArgs false
namespace Go.Cw
open Go Go.Proofs

end Go.Cw
end

/- How a ship that came back is read as an argument. -/
section
set_option maxRecDepth 100000
namespace Go.Cw
open Go Go.Proofs

theorem All2.five' {V W X Y Z : List AVal → Prop} {l : List (List AVal)} (h : All2 [V, W, X, Y, Z] l) : ∃ a b c d e, l = [a, b, c, d, e] ∧ V a ∧ W b ∧ X c ∧ Y d ∧ Z e := by
  match l, h with
  | [a, b, c, d, e], h => exact ⟨a, b, c, d, e, rfl, h.1, h.2.1, h.2.2.1, h.2.2.2.1, h.2.2.2.2.1⟩
section
variable {w : World} {μ : Mu}

theorem opens_int : Opens Pg w μ 3 fun av => ∃ n, (Lit.int .i64 n).wf = true ∧ av = [.int .i64 n] := Opens.int Tryz.underlying3 (by kernel_rfl)
theorem opens_ints : Opens Pg w μ 26 fun av => ∃ l : List Int, av = [L l] := Opens.ints Tryz.underlying26 (by kernel_rfl) Tryz.underlying3 (by kernel_rfl)
theorem opens_span : Opens Pg w μ 36 fun av => ∃ p : Int × Int, av = [.int .i64 p.1, .int .i64 p.2] := by
  refine (Opens.struct (Vs := [_, _]) Tryz.underlying36 (by kernel_rfl) ⟨rfl, opens_int, by kernel_rfl, opens_int, trivial⟩).mono ?_
  rintro av ⟨ass, h, rfl⟩
  obtain ⟨a, b, rfl, ⟨n, _, rfl⟩, ⟨m, _, rfl⟩⟩ := h.two
  exact ⟨(n, m), rfl⟩
theorem opens_seam : Opens Pg w μ 67 fun av => ∃ a : Sm, av = a.c := by
  refine (Opens.struct (Vs := [_, _, _]) Tryz.underlying67 (by kernel_rfl) ⟨rfl, opens_int, by kernel_rfl, opens_int, by kernel_rfl, opens_int, trivial⟩).mono ?_
  rintro av ⟨ass, h, rfl⟩
  obtain ⟨a, b, c, rfl, ⟨n, _, rfl⟩, ⟨m, _, rfl⟩, ⟨k, _, rfl⟩⟩ := h.three
  exact ⟨⟨n, m, k⟩, rfl⟩
theorem opens_sounding : Opens Pg w μ 57 fun av => ∃ a : Sd, av = a.c := by
  refine (Opens.struct (Vs := [_, _, _]) Tryz.underlying57 (by kernel_rfl) ⟨rfl, opens_int, by kernel_rfl, opens_int, by kernel_rfl, opens_span, trivial⟩).mono ?_
  rintro av ⟨ass, h, rfl⟩
  obtain ⟨a, b, c, rfl, ⟨n, _, rfl⟩, ⟨m, _, rfl⟩, ⟨p, rfl⟩⟩ := h.three
  exact ⟨⟨n, m, p.1, p.2⟩, rfl⟩
theorem c67 : 0 < Pg.cellsOf 67 := by rw [show Pg.cellsOf 67 = 3 by kernel_rfl]; omega
theorem c57 : 0 < Pg.cellsOf 57 := by rw [show Pg.cellsOf 57 = 4 by kernel_rfl]; omega
theorem opens_hull : Opens Pg w μ 25 fun av => ∃ h : Hul, av = h.cells := by
  refine (Opens.struct (Vs := [_, _]) Tryz.underlying25 (by kernel_rfl) ⟨rfl, Opens.fl Tryz.underlying22 (by kernel_rfl) c67 opens_seam, by kernel_rfl, Opens.fl Tryz.underlying23 (by kernel_rfl) c57 opens_sounding, trivial⟩).mono ?_
  rintro av ⟨ass, h, rfl⟩
  obtain ⟨a, b, rfl, ⟨n, rfl⟩, ⟨m, rfl⟩⟩ := h.two
  exact ⟨⟨n, m⟩, rfl⟩
theorem opens_work : Opens Pg w μ 62 fun av => ∃ a : Wrk, av = wkC a := by
  refine (Opens.struct (Vs := [_, _, _]) Tryz.underlying62 (by kernel_rfl) ⟨rfl, opens_int, by kernel_rfl, opens_int, by kernel_rfl, opens_int, trivial⟩).mono ?_
  rintro av ⟨ass, h, rfl⟩
  obtain ⟨a, b, c, rfl, ⟨n, _, rfl⟩, ⟨m, _, rfl⟩, ⟨k, _, rfl⟩⟩ := h.three
  exact ⟨⟨n, m, k⟩, rfl⟩
theorem c62 : 0 < Pg.cellsOf 62 := by rw [show Pg.cellsOf 62 = 3 by kernel_rfl]; omega
theorem opens_again : Opens Pg w μ 29 fun av => ∃ a : Agn, av = a.cells := by
  refine (Opens.struct (Vs := [_, _, _, _, _]) Tryz.underlying29 (by kernel_rfl) ⟨rfl, opens_hull, by kernel_rfl, opens_ints, by kernel_rfl, opens_int, by kernel_rfl, Opens.fl Tryz.underlying27 (by kernel_rfl) c62 opens_work, by kernel_rfl, opens_int, trivial⟩).mono ?_
  rintro av ⟨ass, h, rfl⟩
  obtain ⟨a, b, c, d, e, rfl, ⟨n, rfl⟩, ⟨m, rfl⟩, ⟨k, _, rfl⟩, ⟨o, rfl⟩, ⟨q, _, rfl⟩⟩ := h.five'
  exact ⟨⟨n, m, k, o, q⟩, rfl⟩
theorem opens_u8 : Opens Pg w μ 5 fun av => ∃ n : Int, (0 ≤ n ∧ n ≤ 255) ∧ av = [.int .u8 n] :=
  (Opens.int Tryz.underlying5 (by kernel_rfl)).mono fun av ⟨n, h1, h2⟩ => ⟨n, bounds_u8 h1, h2⟩
end

theorem kids : Kids Pg (· < Pg.types.size) := kids_rows (by kernel_rfl) (by kernel_rfl)
theorem slices_full : ∀ t e, t < Pg.types.size → Pg.underlying t = some (.slice e) → 0 < Pg.cellsOf e := slices_full_of Pg (by kernel_rfl)
theorem ownKnobNone : ownKnob Pg.godebug = none := by kernel_rfl

end Go.Cw
end

/- The law AgainUntil, walked. -/
section
set_option maxRecDepth 100000
set_option linter.unusedSimpArgs false
namespace Go.Cw
open Go Go.Proofs

def Agn.on (a : Agn) (d : Int) : Agn := ⟨a.h, a.f, a.c, a.w, d⟩
theorem Agn.Valid.on {a : Agn} (hv : a.Valid) {d : Int} (h1 : a.t ≤ d) (h2 : d ≤ 5000) : (a.on d).Valid :=
  ⟨hv.h, hv.k7, hv.len, hv.fa, hv.co, ⟨by have := hv.to; show 0 ≤ d; omega, h2⟩, hv.w12, fun x hx => ⟨(hv.wo x hx).1, (hv.wo x hx).2.1, (hv.wo x hx).2.2.1, by have := (hv.wo x hx).2.2.2; show x.d ≤ d; omega⟩⟩

theorem opens_u16 {w : World} {μ : Mu} : Opens Pg w μ 53 fun av => ∃ n : Int, (0 ≤ n ∧ n ≤ 65535) ∧ av = [.int .u16 n] :=
  (Opens.int Tryz.underlying53 (by kernel_rfl)).mono fun av ⟨n, h1, h2⟩ => ⟨n, bounds_u16 h1, h2⟩
end Go.Cw
end

/- The laws of chapter 11: spans, fathoms of a set. -/
section
set_option maxRecDepth 100000
set_option linter.unusedSimpArgs false
namespace Go.Cw
open Go Go.Proofs

end Go.Cw
end

/- Plain reckoning on the sets that can leak: what is under promise, and what is not; whose it is. -/
section
set_option maxRecDepth 100000
set_option linter.unusedSimpArgs false
namespace Go.Cw
open Go Go.Proofs

namespace Agn
variable {a : Agn}
def ownK (a : Agn) (g : Int) (k : Nat) : Int := bits (fun i => decide (i < k) && a.ownB g i) a.n
theorem under_bit (hv : a.Valid) {i : Nat} (hi : i < a.n) (d : Int) : bitI .and .i64 (a.under d / 2 ^ i) 1 = if Ag.pr a.w d i then 1 else 0 := by
  have hn6 := hv.n6
  exact bits_and1 _ (by omega) hi
noncomputable def gsum (a : Agn) (s : Int) : Nat → Int
  | 0 => 0
  | k + 1 => a.gsum s k + Ag.payS a.F a.n (a.ownB k) s
end Agn
end Go.Cw
end

/- Plain facts for the law AgainMore: a sounding more, a later day, a work more. -/
section
set_option maxRecDepth 100000
set_option linter.unusedSimpArgs false
namespace Go.Cw
open Go Go.Proofs

namespace Agn
variable {a : Agn}
def withS (a : Agn) (s : Sd) : Agn := ⟨a.h.more s, a.f, a.c, a.w, a.t⟩
def withW (a : Agn) (w : Wrk) : Agn := ⟨a.h, a.f, a.c, a.w ++ [w], a.t⟩
noncomputable def yN (a : Agn) : Int := if a.errL true = 0 then a.yardN else 0
theorem yardV_eq (a : Agn) : a.yardV = .tup [.int .i64 a.yN, .int .i64 (a.errL true)] := rfl
theorem paysV_eq (a : Agn) : a.paysV = .tup [SP2 a.paysP, .int .i64 (a.errL true)] := rfl
theorem nothV_eq (a : Agn) : a.nothV = .tup [SP2 a.nothP, .int .i64 (a.errL true)] := rfl
theorem promV_eq (hv : a.Valid) : a.promV = .tup [.int .i64 (a.under a.t), .int .i64 0] := by
  have hO : a.errO true = 0 := Agn.errO_zero.2 ⟨hv, rfl⟩
  simp [promV, hO]
theorem Valid.small {a : Agn} (hv : a.Valid) : a.Small := ⟨hv.h.small, by have := hv.n6; unfold n at this; omega, by have := hv.w12; omega⟩
end Agn
theorem Sl.toV {n : Nat} {K : KT} {tm : TM} {df : DF} {h : Heap} (l : List (Nat × AVal)) (k : List (Nat × AObj)) (en : Sl n (fun tm' df' h' => df' = df ∧ Vw l tm' ∧ Hw k h') tm df h) (hK : K (tmV l) df (hpV k)) : Sl n K tm df h := by
  obtain ⟨tm₁, df₁, h₁, a, rfl, hv, hh⟩ := en
  exact ⟨_, _, _, a.trans (SLe.view hv hh), hK⟩

end Go.Cw
end

/- A ship of which seams are numbered from the other end: all is the same. -/
section
set_option maxRecDepth 100000
set_option linter.unusedSimpArgs false
namespace Go.Cw
open Go Go.Proofs

namespace Ag
theorem sumN_front {n : Nat} {c : Nat → Int} : sumN (n + 1) c = c 0 + sumN n (fun i => c (i + 1)) := by
  induction n with
  | zero => simp [sumN]
  | succ n ih => rw [sumN, ih, sumN]; omega
theorem sumN_rev : ∀ {n : Nat} {c : Nat → Int}, sumN n (fun i => c (n - 1 - i)) = sumN n c
  | 0, _ => rfl
  | n + 1, c => by
    rw [sumN_front, sumN]
    have := sumN_rev (n := n) (c := c)
    have e : sumN n (fun i => c (n + 1 - 1 - (i + 1))) = sumN n (fun i => c (n - 1 - i)) := sumN_congr fun j hj => by congr 1; omega
    rw [e, this]
    simp
    omega
theorem mirS_bits (n : Nat) (p : Nat → Bool) : mirS n (bits p n) = bits (fun i => p (n - 1 - i)) n :=
  bits_congr fun i hi => inS_bits p (by omega)
theorem ofL_rev {t : List Int} {i : Nat} (hi : i < t.length) : ofL t.reverse i = ofL t (t.length - 1 - i) := by
  unfold ofL
  rw [List.getD_eq_getElem?_getD, List.getD_eq_getElem?_getD, List.getElem?_reverse hi]
theorem sumT_rev {t : List Int} {n : Nat} (ht : t.length = n) (q : Int) : Hul.sumT t.reverse (mirS n q) = Hul.sumT t q := by
  unfold Hul.sumT
  rw [List.length_reverse, ht, ← sumN_rev (n := n) (c := fun i => if inS q i then ofL t i else 0)]
  refine sumN_congr fun j hj => ?_
  rw [ofL_rev (by omega), ht]
  unfold mirS
  rw [inS_bits _ hj]
theorem leaksT_rev {t : List Int} {n : Nat} (ht : t.length = n) : leaksT t.reverse = mirS n (leaksT t) := by
  unfold leaksT
  rw [List.length_reverse, ht, mirS_bits]
  refine bits_congr fun j hj => ?_
  rw [ofL_rev (by omega), ht]
theorem lenB_same {f g : Nat → Int} : ∀ {n : Nat} {p : Nat → Bool}, (∀ i, i < n → f i = g i) → lenB f n p = lenB g n p
  | 0, _, _ => rfl
  | n + 1, p, h => by simp only [lenB]; rw [lenB_same fun i hi => h i (by omega), h n (by omega)]
theorem size_bits (p : Nat → Bool) {n : Nat} (hn : n ≤ 60) : sizeS (bits p n) = sumN n fun i => if p i then 1 else 0 := by
  unfold sizeS
  rw [sumN_ext (n := n) hn fun i hi => ?_]
  · exact sumN_congr fun j hj => by rw [inS_bits p hj]
  · have h1 := bits_lt p n
    have h2 := two_pow_le hi
    have : bits p n / 2 ^ i = 0 := Int.ediv_eq_zero_of_lt h1.1 (by omega)
    unfold inS
    rw [this]; simp
theorem size_mir (p q : Nat → Bool) {n : Nat} (hn : n ≤ 60) (h : ∀ i, i < n → q (n - 1 - i) = p i) : sizeS (bits q n) = sizeS (bits p n) := by
  rw [size_bits q hn, size_bits p hn, ← sumN_rev (n := n) (c := fun i => if q i then 1 else 0)]
  exact sumN_congr fun j hj => by rw [h j hj]
end Ag

namespace Hul
variable {h : Hul}
def flip (h : Hul) : Hul := ⟨h.seams.reverse, h.snds⟩
theorem flip_n : h.flip.n = h.n := by simp [flip, n]
theorem flip_valid (hv : h.Valid) : h.flip.Valid := by
  refine ⟨by rw [flip_n]; exact hv.n1, by rw [flip_n]; exact hv.n6, hv.k8, fun a ha => hv.sm a (by simpa [flip] using ha), hv.sd⟩
theorem flip_wet (d l : Int) : h.flip.wet d l = Ag.mirS h.n (h.wet d l) := by
  unfold wet
  rw [flip_n, Ag.mirS_bits]
  refine bits_congr fun i hi => ?_
  unfold wetP flip
  have hi' : i < h.seams.length := hi
  simp only [List.getElem?_reverse hi']
  rfl
theorem flip_allT {t : List Int} : t ∈ allT h.flip.mosts ↔ t.reverse ∈ allT h.mosts := by
  rw [mem_allT, mem_allT]
  have hm : h.flip.mosts = h.mosts.reverse := by unfold mosts flip; simp
  rw [hm, List.length_reverse, List.length_reverse]
  constructor
  · rintro ⟨h1, h2⟩
    refine ⟨h1, fun i hi => ?_⟩
    have := h2 (h.mosts.length - 1 - i) (by omega)
    rw [Ag.ofL_rev (by omega)] at this
    rw [Ag.ofL_rev (by omega), h1]
    rwa [show h.mosts.length - 1 - (h.mosts.length - 1 - i) = i by omega] at this
  · rintro ⟨h1, h2⟩
    refine ⟨h1, fun i hi => ?_⟩
    have := h2 (h.mosts.length - 1 - i) (by omega)
    rw [Ag.ofL_rev (by omega)] at this
    rw [Ag.ofL_rev (by omega)]
    rwa [h1, show h.mosts.length - 1 - (h.mosts.length - 1 - i) = i by omega] at this
theorem flip_mem {t : List Int} : t ∈ h.flip.truths h.flip.every ↔ t.reverse ∈ h.truths h.every := by
  rw [mem_truths, mem_truths, flip_allT]
  refine and_congr_right fun ht => ?_
  have hl : t.reverse.length = h.n := by have := (mem_allT.1 ht).1; rwa [mosts_length] at this
  refine ⟨fun H a ha => ?_, fun H a ha => ?_⟩
  · have := H a ha
    rw [flip_wet] at this
    have e := Ag.sumT_rev hl (h.wet a.d a.l)
    rw [List.reverse_reverse] at e
    rwa [e] at this
  · have := H a ha
    rw [flip_wet]
    have e := Ag.sumT_rev hl (h.wet a.d a.l)
    rw [List.reverse_reverse] at e
    rwa [e]
end Hul

namespace Agn
variable {a : Agn}
def mir (a : Agn) : Agn := ⟨a.h.flip, a.f.reverse, a.c, Ag.mirW a.n a.w, a.t⟩
theorem mir_n : a.mir.n = a.n := by simp [mir, n]
theorem mir_valid (hv : a.Valid) : a.mir.Valid := by
  refine ⟨Hul.flip_valid hv.h, hv.k7, ?_, fun x hx => hv.fa x (by simpa [mir] using hx), hv.co, hv.to, by have := hv.w12; simpa [mir, Ag.mirW] using this, fun x hx => ?_⟩
  · show a.f.reverse.length = a.h.flip.n
    rw [List.length_reverse, Hul.flip_n]
    exact hv.len
  · obtain ⟨y, hy, rfl⟩ := List.mem_map.1 hx
    obtain ⟨h1, h2, h3, h4⟩ := hv.wo y hy
    refine ⟨⟨?_, ?_⟩, h2, h3, h4⟩
    · show 0 ≤ (a.n : Int) - 1 - y.s
      omega
    · rw [mir_n]
      show (a.n : Int) - 1 - y.s < a.n
      omega
theorem mir_S (hv : a.Valid) (s : Int) : s ∈ a.mir.S ↔ s ∈ a.S.map (Ag.mirS a.n) := by
  rw [List.mem_map, mem_S]
  have hl : a.n = a.h.n := hv.len
  constructor
  · rintro ⟨t, ht, rfl⟩
    have h1 := Hul.flip_mem.1 ht
    refine ⟨leaksT t.reverse, mem_S.2 ⟨_, h1, rfl⟩, ?_⟩
    have h2 := (truths_in hv.h h1).1
    rw [← Ag.leaksT_rev (by rw [h2, hl]), List.reverse_reverse]
  · rintro ⟨x, hx, rfl⟩
    obtain ⟨t, ht, rfl⟩ := mem_S.1 hx
    have h2 := (truths_in hv.h ht).1
    refine ⟨t.reverse, Hul.flip_mem.2 (by rwa [List.reverse_reverse]), ?_⟩
    exact Ag.leaksT_rev (by rw [h2, hl])
theorem mir_nil (hv : a.Valid) : a.mir.S = [] ↔ a.S = [] := by
  constructor
  · intro h
    refine List.eq_nil_iff_forall_not_mem.2 fun s hs => ?_
    have := (mir_S hv _).2 (List.mem_map.2 ⟨s, hs, rfl⟩)
    rw [h] at this; cases this
  · intro h
    refine List.eq_nil_iff_forall_not_mem.2 fun s hs => ?_
    have := (mir_S hv s).1 hs
    rw [h] at this; cases this
theorem errL_eq (hv : a.Valid) : a.errL true = if a.S = [] then 10 else 0 := by
  unfold errL
  rw [if_pos hv]
  rfl
theorem mir_errL (hv : a.Valid) : a.mir.errL true = a.errL true := by
  rw [errL_eq hv, errL_eq (mir_valid hv)]
  by_cases h : a.S = []
  · rw [if_pos h, if_pos ((mir_nil hv).2 h)]
  · rw [if_neg h, if_neg (mt (mir_nil hv).1 h)]
theorem mir_pr {i : Nat} (hi : i < a.n) (d : Int) : Ag.pr a.mir.w d (a.n - 1 - i) = Ag.pr a.w d i := (Ag.pr_mir a.w d hi).1
theorem mir_of {i : Nat} (hi : i < a.n) : Ag.ofW a.mir.w (a.n - 1 - i) = Ag.ofW a.w i := (Ag.pr_mir a.w 0 hi).2
theorem mir_told (hv : a.Valid) (d : Int) : Ag.toldV a.n (Ag.pr a.mir.w d) a.mir.S = Ag.toldV a.n (Ag.pr a.w d) a.S := by
  rw [Ag.told_same (mir_S hv), Ag.told_mir (fun i hi => mir_pr hi d) (S_in hv)]
theorem mir_span (hv : a.Valid) (hS : a.S ≠ []) {u v : Nat → Bool} (h : ∀ i, i < a.n → v (a.n - 1 - i) = u i) : a.mir.spanP v = a.spanP u := by
  unfold spanP
  rw [mir_n]
  have hmS := mt (mir_nil hv).1 hS
  have e : ∀ s, Ag.payS a.mir.F a.n v s = Ag.payS (fun i => a.F (a.n - 1 - i)) a.n v s := fun s => Ag.lenB_same fun i hi => by
    show ofL a.f.reverse i = _
    exact Ag.ofL_rev hi
  rw [Ag.jn_same (g := Ag.payS a.mir.F a.n v) (g' := Ag.payS (fun i => a.F (a.n - 1 - i)) a.n v) (m := a.S.map (Ag.mirS a.n)) hmS (fun s hs => ⟨s, (mir_S hv s).1 hs, (e s).symm⟩) (fun t ht => ⟨t, (mir_S hv t).2 ht, e t⟩)]
  rw [Ag.jn_map]
  exact Ag.jn_congr fun s _ => Ag.pay_mir h s
theorem mir_own {i : Nat} (hi : i < a.n) (g : Int) : a.mir.ownB g (a.n - 1 - i) = a.ownB g i := by
  unfold ownB
  rw [mir_of hi]
  show (Ag.pr a.mir.w a.t _ && _) = _
  rw [mir_pr hi]
theorem mir_yard (hv : a.Valid) : a.mir.yardV = a.yardV := by
  have e : a.mir.yardN = a.yardN := by
    unfold yardN
    rw [mir_n]
    exact mir_told hv a.t
  unfold yardV
  rw [mir_errL hv, e]
theorem mir_pays (hv : a.Valid) : a.mir.paysV = a.paysV := by
  unfold paysV paysP
  rw [mir_errL hv]
  by_cases he : a.errL true = 0
  · obtain ⟨_, _, hS⟩ := errL_zero.1 he
    have e := mir_span hv hS (u := fun i => !Ag.pr a.w a.t i) (v := fun i => !Ag.pr a.mir.w a.mir.t i) fun i hi => by
      show (!Ag.pr a.mir.w a.t _) = _
      rw [mir_pr hi]
    rw [if_pos he, if_pos he, e]
    rfl
  · rw [if_neg he, if_neg he]
theorem mir_noth (hv : a.Valid) : a.mir.nothV = a.nothV := by
  unfold nothV nothP
  rw [mir_errL hv]
  by_cases he : a.errL true = 0
  · obtain ⟨_, _, hS⟩ := errL_zero.1 he
    have e := mir_span hv hS (u := Ag.pr a.w a.t) (v := Ag.pr a.mir.w a.mir.t) fun i hi => mir_pr hi _
    rw [if_pos he, if_pos he, e]
  · rw [if_neg he, if_neg he]
theorem mir_blame (hv : a.Valid) : a.mir.blameV = a.blameV := by
  unfold blameV
  rw [mir_errL hv]
  by_cases he : a.errL true = 0
  · obtain ⟨_, _, hS⟩ := errL_zero.1 he
    have e : ∀ g : Int, a.mir.spanP (a.mir.ownB g) = a.spanP (a.ownB g) := fun g => mir_span hv hS fun i hi => mir_own hi g
    have e1 : a.mir.surelyB = a.surelyB := funext fun g => by unfold surelyB; rw [e]
    have e2 : a.mir.perhapsB = a.perhapsB := funext fun g => by unfold perhapsB; rw [e]
    rw [e1, e2]
  · simp only [if_neg he]
theorem mir_first (hv : a.Valid) {first : Int} (h : Ag.IsFirst a.n a.w a.S first) : Ag.IsFirst a.n a.mir.w a.mir.S first := by
  obtain ⟨⟨s, hs, i, hi, hsi, w, hw, e⟩, h1⟩ := h
  have hl : ∀ i, i < a.n → Ag.lastW a.mir.w ((a.n - 1 - i : Nat) : Int) = (Ag.lastW a.w i).map fun w => ⟨a.n - 1 - w.s, w.d, w.g⟩ := fun i hi => Ag.lastW_mir a.w hi
  refine ⟨⟨Ag.mirS a.n s, (mir_S hv _).2 (List.mem_map.2 ⟨s, hs, rfl⟩), a.n - 1 - i, by omega, ?_, ⟨a.n - 1 - w.s, w.d, w.g⟩, ?_, e⟩, fun t ht j hj htj v hv' => ?_⟩
  · rw [Ag.inS_mir (by omega), show a.n - 1 - (a.n - 1 - i) = i by omega]
    exact hsi
  · rw [hl i hi, hw]; rfl
  · obtain ⟨s', hs', rfl⟩ := List.mem_map.1 ((mir_S hv t).1 ht)
    rw [Ag.inS_mir hj] at htj
    have h2 := hl (a.n - 1 - j) (by omega)
    rw [show a.n - 1 - (a.n - 1 - j) = j by omega, hv'] at h2
    cases hw' : Ag.lastW a.w ((a.n - 1 - j : Nat) : Int) with
    | none => rw [hw'] at h2; cases h2
    | some w' =>
      rw [hw'] at h2
      simp only [Option.map_some, Option.some.injEq] at h2
      have := h1 s' hs' (a.n - 1 - j) (by omega) htj w' hw'
      rw [h2]
      exact this
theorem mir_until (hv : a.Valid) : a.mir.untilV = a.untilV := by
  have e : a.mir.yardN = a.yardN := by
    unfold yardN
    rw [mir_n]
    exact mir_told hv a.t
  have eU : a.mir.errU = a.errU := by unfold errU; rw [mir_errL hv, e]
  unfold untilV
  rw [eU]
  by_cases h0 : a.errU = 0
  · have he : a.errL true = 0 := by
      unfold errU at h0
      by_cases h : a.errL true = 0
      · exact h
      · rw [if_neg h] at h0; exact absurd h0 h
    have hy : a.yardN = 2 := by
      unfold errU at h0
      rw [if_pos he] at h0
      by_cases h : a.yardN = 2
      · exact h
      · rw [if_neg h] at h0; omega
    obtain ⟨_, _, hS⟩ := errL_zero.1 he
    have f1 := mir_first hv (first_is hv hS hy)
    have f2 := first_is (mir_valid hv) (mt (mir_nil hv).1 hS) (by rw [e]; exact hy)
    rw [mir_n] at f2
    rw [Ag.first_uniq f2 f1]
  · rw [if_neg h0, if_neg h0]
theorem mir_size (hv : a.Valid) : sizeS (a.mir.under a.t) = sizeS (a.under a.t) := by
  have hn6 := hv.n6
  unfold under
  rw [mir_n]
  exact Ag.size_mir _ _ (by omega) fun i hi => mir_pr hi _
end Agn
end Go.Cw
end

/- Of the works the last ones alone: all is the same; how they are gathered, the later ones first. -/
section
set_option maxRecDepth 100000
set_option linter.unusedSimpArgs false
namespace Go.Cw
open Go Go.Proofs

namespace Ag
def isLast (W : List Wrk) (i : Nat) (w : Wrk) : Bool := (List.range W.length).all fun k => match W[k]? with
  | some o => decide (o.s ≠ w.s ∨ o.d < w.d ∨ o.d = w.d ∧ k ≤ i)
  | none => true
theorem isLast_iff {W : List Wrk} {i : Nat} {w : Wrk} : isLast W i w = true ↔ ∀ k (hk : k < W.length), W[k].s ≠ w.s ∨ W[k].d < w.d ∨ W[k].d = w.d ∧ k ≤ i := by
  unfold isLast
  rw [List.all_eq_true]
  constructor
  · intro h k hk
    have := h k (List.mem_range.2 hk)
    rw [List.getElem?_eq_getElem hk] at this
    exact of_decide_eq_true this
  · intro h k hk
    have hk := List.mem_range.1 hk
    rw [List.getElem?_eq_getElem hk]
    exact decide_eq_true (h k hk)
def lastK (W : List Wrk) (i : Nat) (w : Wrk) (k : Nat) : Bool := (List.range k).all fun k => match W[k]? with
  | some o => decide (o.s ≠ w.s ∨ o.d < w.d ∨ o.d = w.d ∧ k ≤ i)
  | none => true
theorem lastK_all (W : List Wrk) (i : Nat) (w : Wrk) : lastK W i w W.length = isLast W i w := rfl
theorem lastK_step {W : List Wrk} {i : Nat} {w : Wrk} {k : Nat} (hk : k < W.length) : lastK W i w (k + 1) = (lastK W i w k && decide (W[k].s ≠ w.s ∨ W[k].d < w.d ∨ W[k].d = w.d ∧ k ≤ i)) := by
  unfold lastK
  rw [List.range_succ, List.all_append]
  simp [List.getElem?_eq_getElem hk]
theorem last_of {W : List Wrk} {i : Nat} (hi : i < W.length) (h : isLast W i W[i] = true) : lastW W W[i].s = some W[i] := by
  have h1 := isLast_iff.1 h
  have key : ∀ n, (hn : n ≤ W.length) → i < n → lastW (W.take n) W[i].s = some W[i] := by
    intro n
    induction n with
    | zero => intro _ h; omega
    | succ n ih =>
      intro hn hin
      have hn' : n < W.length := by omega
      rw [← List.take_append_getElem hn', lastW_push]
      by_cases e : n = i
      · subst e
        cases hl : lastW (W.take n) W[n].s with
        | none => simp [betW]
        | some v =>
          obtain ⟨a1, a2, _⟩ := lastW_spec hl
          obtain ⟨k, hk, rfl⟩ := List.getElem_of_mem a1
          rw [List.getElem_take] at a2 ⊢
          have hk2 : k < W.length := by rw [List.length_take] at hk; omega
          have := h1 k hk2
          have h3 : W[k].d ≤ W[n].d := by
            rcases this with h | h | h
            · exact absurd a2 h
            · omega
            · omega
          simp [betW, h3]
      · rw [ih (by omega) (by omega)]
        have := h1 n hn'
        unfold betW
        by_cases hs : W[n].s = W[i].s
        · have h3 : ¬ W[i].d ≤ W[n].d := by
            rcases this with h | h | h
            · exact absurd hs h
            · omega
            · omega
          simp [h3]
        · simp [hs]
  have := key W.length (Nat.le_refl _) hi
  rwa [List.take_length] at this
theorem of_last {W : List Wrk} {s : Int} {w : Wrk} (h : lastW W s = some w) : ∃ i, ∃ hi : i < W.length, W[i] = w ∧ isLast W i w = true := by
  have key : ∀ n, n ≤ W.length → ∀ w, lastW (W.take n) s = some w → ∃ i, ∃ hi : i < W.length, i < n ∧ W[i] = w ∧ w.s = s ∧ ∀ k (hk : k < W.length), k < n → W[k].s ≠ w.s ∨ W[k].d < w.d ∨ W[k].d = w.d ∧ k ≤ i := by
    intro n
    induction n with
    | zero => intro _ w h; simp [lastW_nil] at h
    | succ n ih =>
      intro hn w h
      have hn' : n < W.length := by omega
      rw [← List.take_append_getElem hn', lastW_push] at h
      cases hl : lastW (W.take n) s with
      | none =>
        rw [hl] at h
        simp only [betW] at h
        split at h
        · rename_i hs
          simp only [Option.some.injEq] at h
          subst h
          refine ⟨n, hn', by omega, rfl, hs, fun k hk hkn => ?_⟩
          by_cases e : k = n
          · subst e; exact .inr (.inr ⟨rfl, Nat.le_refl _⟩)
          · refine .inl fun he => ?_
            have hmem : W[k] ∈ W.take n := by
              rw [List.mem_take_iff_getElem]
              exact ⟨k, by omega, rfl⟩
            exact lastW_none.1 hl _ hmem (he.trans hs)
        · cases h
      | some v =>
        rw [hl] at h
        obtain ⟨i, hi, hin, h1, h2, h3⟩ := ih (by omega) v hl
        simp only [betW] at h
        split at h
        · rename_i hs
          simp only [Option.some.injEq] at h
          subst h
          refine ⟨n, hn', by omega, rfl, hs.1, fun k hk hkn => ?_⟩
          by_cases e : k = n
          · subst e; exact .inr (.inr ⟨rfl, Nat.le_refl _⟩)
          · rcases h3 k hk (by omega) with h4 | h4 | h4
            · exact .inl fun he => h4 (by rw [he, hs.1, h2])
            · exact .inr (.inl (by omega))
            · by_cases e2 : W[k].d = W[n].d
              · exact .inr (.inr ⟨e2, by omega⟩)
              · exact .inr (.inl (by omega))
        · rename_i hs
          simp only [Option.some.injEq] at h
          subst h
          refine ⟨i, hi, by omega, h1, h2, fun k hk hkn => ?_⟩
          by_cases e : k = n
          · subst e
            by_cases e2 : W[k].s = s
            · have : ¬ v.d ≤ W[k].d := fun h5 => hs ⟨e2, h5⟩
              exact .inr (.inl (by omega))
            · exact .inl fun he => e2 (he.trans h2)
          · exact h3 k hk (by omega)
  obtain ⟨i, hi, _, h1, _, h3⟩ := key W.length (Nat.le_refl _) w (by rwa [List.take_length])
  exact ⟨i, hi, h1, isLast_iff.2 fun k hk => h3 k hk hk⟩

def dayL (W : List Wrk) (d : Int) : Nat → List Wrk
  | 0 => []
  | i + 1 => match W[i]? with
    | some w => if w.d = d ∧ isLast W i w = true then dayL W d i ++ [w] else dayL W d i
    | none => dayL W d i
def daysW (W : List Wrk) (t : Int) : Nat → List Wrk
  | 0 => []
  | k + 1 => daysW W t k ++ dayL W (t - k) W.length
theorem dayL_succ (W : List Wrk) (d : Int) (i : Nat) : dayL W d (i + 1) = match W[i]? with
    | some w => if w.d = d ∧ isLast W i w = true then dayL W d i ++ [w] else dayL W d i
    | none => dayL W d i := rfl
theorem daysW_succ (W : List Wrk) (t : Int) (k : Nat) : daysW W t (k + 1) = daysW W t k ++ dayL W (t - k) W.length := rfl
theorem dayL_mem {W : List Wrk} {d : Int} {n : Nat} {w : Wrk} : w ∈ dayL W d n ↔ ∃ i, i < n ∧ W[i]? = some w ∧ w.d = d ∧ isLast W i w = true := by
  induction n with
  | zero => simp [dayL]
  | succ n ih =>
    have key : w ∈ dayL W d (n + 1) ↔ (w ∈ dayL W d n ∨ (W[n]? = some w ∧ w.d = d ∧ isLast W n w = true)) := by
      rw [dayL_succ]
      cases h : W[n]? with
      | none => simp
      | some v =>
        simp only [Option.some.injEq]
        split
        · rename_i hc
          rw [List.mem_append, List.mem_singleton]
          constructor
          · rintro (h1 | rfl)
            · exact .inl h1
            · exact .inr ⟨rfl, hc⟩
          · rintro (h1 | ⟨rfl, _⟩)
            · exact .inl h1
            · exact .inr rfl
        · rename_i hc
          constructor
          · exact .inl
          · rintro (h1 | ⟨rfl, h2⟩)
            · exact h1
            · exact absurd h2 hc
    rw [key, ih]
    constructor
    · rintro (⟨i, h1, h2⟩ | h)
      · exact ⟨i, by omega, h2⟩
      · exact ⟨n, by omega, h⟩
    · rintro ⟨i, h1, h2⟩
      by_cases e : i = n
      · subst e; exact .inr h2
      · exact .inl ⟨i, by omega, h2⟩
theorem daysW_mem {W : List Wrk} {t : Int} {n : Nat} {w : Wrk} : w ∈ daysW W t n ↔ ∃ i, W[i]? = some w ∧ isLast W i w = true ∧ t - n < w.d ∧ w.d ≤ t := by
  induction n with
  | zero =>
    simp only [daysW, List.not_mem_nil, false_iff]
    rintro ⟨i, _, _, h1, h2⟩
    omega
  | succ n ih =>
    rw [daysW_succ, List.mem_append, ih, dayL_mem]
    constructor
    · rintro (⟨i, h1, h2, h3, h4⟩ | ⟨i, _, h1, h2, h3⟩)
      · exact ⟨i, h1, h2, by omega, h4⟩
      · exact ⟨i, h1, h3, by omega, by omega⟩
    · rintro ⟨i, h1, h2, h3, h4⟩
      by_cases e : w.d = t - n
      · exact .inr ⟨i, (List.getElem?_eq_some_iff.1 h1).1, h1, e, h2⟩
      · exact .inl ⟨i, h1, h2, by omega, h4⟩
def cntD (W : List Wrk) (d : Int) : Nat → Nat
  | 0 => 0
  | i + 1 => cntD W d i + match W[i]? with
    | some w => if w.d = d then 1 else 0
    | none => 0
def cntT (W : List Wrk) (t : Int) (n : Nat) : Nat → Nat
  | 0 => 0
  | i + 1 => cntT W t n i + match W[i]? with
    | some w => if t - n < w.d ∧ w.d ≤ t then 1 else 0
    | none => 0
theorem cntD_succ (W : List Wrk) (d : Int) (i : Nat) : cntD W d (i + 1) = cntD W d i + match W[i]? with
    | some w => if w.d = d then 1 else 0
    | none => 0 := rfl
theorem cntT_succ (W : List Wrk) (t : Int) (n i : Nat) : cntT W t n (i + 1) = cntT W t n i + match W[i]? with
    | some w => if t - n < w.d ∧ w.d ≤ t then 1 else 0
    | none => 0 := rfl
theorem dayL_len (W : List Wrk) (d : Int) (n : Nat) : (dayL W d n).length ≤ cntD W d n := by
  induction n with
  | zero => simp [dayL]
  | succ n ih =>
    rw [dayL_succ, cntD_succ]
    cases W[n]? with
    | none => simpa using ih
    | some w =>
      simp only
      by_cases h : w.d = d
      · rw [if_pos h]
        split
        · rw [List.length_append]; simp; omega
        · omega
      · rw [if_neg h, if_neg (fun x => h x.1)]
        exact ih
theorem cntT_step (W : List Wrk) (t : Int) (n i : Nat) : cntT W t (n + 1) i = cntT W t n i + cntD W (t - n) i := by
  induction i with
  | zero => rfl
  | succ i ih =>
    rw [cntT_succ, cntT_succ, cntD_succ, ih]
    cases W[i]? with
    | none => simp
    | some w =>
      simp only
      by_cases h1 : w.d = t - n
      · rw [if_pos h1, if_pos (by omega), if_neg (by omega)]
        omega
      · rw [if_neg h1]
        by_cases h2 : t - n < w.d ∧ w.d ≤ t
        · rw [if_pos h2, if_pos (by omega)]
          omega
        · rw [if_neg h2, if_neg (by omega)]
          omega
theorem cntT_le (W : List Wrk) (t : Int) (n i : Nat) : cntT W t n i ≤ i := by
  induction i with
  | zero => exact Nat.le_refl _
  | succ i ih =>
    rw [cntT_succ]
    cases W[i]? with
    | none => simp; omega
    | some w =>
      simp only
      split <;> omega
theorem daysW_cnt (W : List Wrk) (t : Int) (n : Nat) : (daysW W t n).length ≤ cntT W t n W.length := by
  induction n with
  | zero => simp [daysW]
  | succ n ih =>
    rw [daysW_succ, List.length_append, cntT_step]
    have := dayL_len W (t - n) W.length
    omega
theorem daysW_len (W : List Wrk) (t : Int) (n : Nat) : (daysW W t n).length ≤ W.length := Nat.le_trans (daysW_cnt W t n) (cntT_le _ _ _ _)
theorem midW_len (W : List Wrk) (t : Int) (n i : Nat) (hi : i ≤ W.length) : (daysW W t n ++ dayL W (t - n) i).length ≤ W.length := by
  have h1 := daysW_len W t (n + 1)
  rw [daysW_succ, List.length_append] at h1
  rw [List.length_append]
  have : ∀ m, i ≤ m → (dayL W (t - n) i).length ≤ (dayL W (t - n) m).length := by
    intro m hm
    induction hm with
    | refl => exact Nat.le_refl _
    | step _ ih =>
      refine Nat.le_trans ih ?_
      rw [dayL_succ]
      split
      · split
        · rw [List.length_append]; simp
        · exact Nat.le_refl _
      · exact Nat.le_refl _
  have := this _ hi
  omega
end Ag

namespace Agn
variable {a : Agn}
def onlyL (a : Agn) : List Wrk := Ag.daysW a.w a.t (a.t + 1).toNat
def only (a : Agn) : Agn := ⟨a.h, a.f, a.c, a.onlyL, a.t⟩
theorem onlyL_mem (hv : a.Valid) {w : Wrk} : w ∈ a.onlyL ↔ ∃ i, a.w[i]? = some w ∧ Ag.isLast a.w i w = true := by
  have hto := hv.to
  unfold onlyL
  rw [Ag.daysW_mem]
  constructor
  · rintro ⟨i, h1, h2, _⟩
    exact ⟨i, h1, h2⟩
  · rintro ⟨i, h1, h2⟩
    have := (hv.wo w (List.mem_of_getElem? h1)).2.2
    exact ⟨i, h1, h2, by omega, by omega⟩
theorem only_last (hv : a.Valid) (i : Int) : Ag.lastW a.onlyL i = Ag.lastW a.w i := by
  refine Ag.lastW_only (fun w hw => ?_) (fun i w h => ?_) i
  · obtain ⟨k, h1, h2⟩ := (onlyL_mem hv).1 hw
    obtain ⟨hk, e⟩ := List.getElem?_eq_some_iff.1 h1
    subst e
    exact Ag.last_of hk h2
  · obtain ⟨k, hk, e, h2⟩ := Ag.of_last h
    exact (onlyL_mem hv).2 ⟨k, by rw [List.getElem?_eq_getElem hk, e], h2⟩
theorem only_pr (hv : a.Valid) : Ag.pr a.onlyL = Ag.pr a.w := by
  funext d i
  unfold Ag.pr
  rw [only_last hv]
theorem only_of (hv : a.Valid) : Ag.ofW a.onlyL = Ag.ofW a.w := by
  funext i
  unfold Ag.ofW
  rw [only_last hv]
theorem only_valid (hv : a.Valid) : a.only.Valid := by
  refine ⟨hv.h, hv.k7, hv.len, hv.fa, hv.co, hv.to, Nat.le_trans (Ag.daysW_len _ _ _) hv.w12, fun x hx => ?_⟩
  obtain ⟨k, h1, _⟩ := (onlyL_mem hv).1 hx
  exact hv.wo x (List.mem_of_getElem? h1)
theorem only_errL (hv : a.Valid) : a.only.errL true = a.errL true := by
  rw [errL_eq hv, errL_eq (only_valid hv)]
  rfl
theorem only_under (hv : a.Valid) : a.only.under a.t = a.under a.t := by
  unfold under
  show bits (Ag.pr a.onlyL a.t) a.n = _
  rw [only_pr hv]
theorem only_yardN (hv : a.Valid) : a.only.yardN = a.yardN := by
  unfold yardN
  show Ag.toldV a.n (Ag.pr a.onlyL a.t) a.S = _
  rw [only_pr hv]
theorem only_yard (hv : a.Valid) : a.only.yardV = a.yardV := by
  unfold yardV
  rw [only_errL hv, only_yardN hv]
theorem only_pays (hv : a.Valid) : a.only.paysV = a.paysV := by
  unfold paysV paysP
  rw [only_errL hv]
  have e : (fun i => !Ag.pr a.only.w a.only.t i) = fun i => !Ag.pr a.w a.t i := by
    funext i
    show (!Ag.pr a.onlyL a.t i) = _
    rw [only_pr hv]
  rw [e]
  rfl
theorem only_noth (hv : a.Valid) : a.only.nothV = a.nothV := by
  unfold nothV nothP
  rw [only_errL hv]
  have e : Ag.pr a.only.w a.only.t = Ag.pr a.w a.t := by
    show Ag.pr a.onlyL a.t = _
    rw [only_pr hv]
  rw [e]
  rfl
theorem only_own (hv : a.Valid) (g : Int) : a.only.ownB g = a.ownB g := by
  funext i
  unfold ownB
  show (Ag.pr a.onlyL a.t i && decide (Ag.ofW a.onlyL i = g)) = _
  rw [only_pr hv, only_of hv]
theorem only_blame (hv : a.Valid) : a.only.blameV = a.blameV := by
  have e1 : a.only.surelyB = a.surelyB := funext fun g => by unfold surelyB; rw [only_own hv]; rfl
  have e2 : a.only.perhapsB = a.perhapsB := funext fun g => by unfold perhapsB; rw [only_own hv]; rfl
  unfold blameV
  rw [only_errL hv, e1, e2]
theorem only_until (hv : a.Valid) : a.only.untilV = a.untilV := by
  have e : a.only.daysL = a.daysL := by
    unfold daysL
    show (List.range a.n).filterMap (fun i => if a.S.any (fun s => inS s i) then (Ag.lastW a.onlyL i).map (·.d) else none) = _
    congr 1
    funext i
    rw [only_last hv]
  unfold untilV errU firstD
  rw [only_errL hv, only_yardN hv, e]
end Agn
end Go.Cw
end

/- The law AgainTurned: how the last works are gathered. -/
section
set_option maxRecDepth 100000
set_option linter.unusedSimpArgs false
namespace Go.Cw
open Go Go.Proofs

def Agn.gW (a : Agn) (nm m st : Nat) : List AVal := [LS a.h.seams, LD a.h.snds, L a.f, .int .i64 a.c, gS 3 nm m st, .int .i64 a.t]
theorem law11_AgainTurned_work (a : Agn) (hv : a.Valid) (D : List Wrk) (d : Int) (i : Nat) (hi : i < a.w.length) (hD : ∀ j, j ≤ a.w.length → (D ++ Ag.dayL a.w d j).length ≤ a.w.length) (s1 s4 s5 st : Nat) (J : Post)
    (next : ∀ tm h' st', Vw [(1, .ptr 1 0 s1), (3, .int .i64 a.n), (4, .ptr 4 0 s4), (5, .ptr 5 0 s5), (6, .int .i64 d), (78, LW a.w), (79, .int .i64 a.w.length), (80, .int .i64 ((i + 1 : Nat) : Int))] tm →
      Hw [(1, .row a.cells s1), (4, .row (a.gW 130 (D ++ Ag.dayL a.w d (i + 1)).length st') s4), (5, .row a.cells s5), (130, gO (D ++ Ag.dayL a.w d (i + 1)).length (wks (D ++ Ag.dayL a.w d (i + 1))) st')] h' → J .normal tm [] h') :
    AW ⟨Pg, 0, 412, false, []⟩ (.seq (.ops law11_AgainTurned.r10) (.seq (.cond (.t 81) .skip (.exit 2)) (.seq (.block 3 (.seq (.ops law11_AgainTurned.r11) (.seq (.seq (.ops law11_AgainTurned.r12) (.cond (.t 88) (.exit 3) .skip)) (.seq (.ops law11_AgainTurned.r13) (.seq (.seq (.ops law11_AgainTurned.r14) (.block 4 (.loop (.seq (.ops law11_AgainTurned.r15) (.seq (.cond (.t 93) .skip (.exit 4)) (.seq (.block 5 (.seq (.ops law11_AgainTurned.r16) (.ops law11_AgainTurned.r17))) (.ops law11_AgainTurned.r18))))))) (.seq (.ops law11_AgainTurned.r19) (.cond (.t 125) (.ops law11_AgainTurned.r20) .skip))))))) (.ops law11_AgainTurned.r21)))) J
      (tmV [(1, .ptr 1 0 s1), (3, .int .i64 a.n), (4, .ptr 4 0 s4), (5, .ptr 5 0 s5), (6, .int .i64 d), (78, LW a.w), (79, .int .i64 a.w.length), (80, .int .i64 (i : Int))]) []
      (hpV [(1, .row a.cells s1), (4, .row (a.gW 130 (D ++ Ag.dayL a.w d i).length st) s4), (5, .row a.cells s5), (130, gO (D ++ Ag.dayL a.w d i).length (wks (D ++ Ag.dayL a.w d i)) st)]) := by
  have hw12 := hv.w12
  obtain ⟨w, hw⟩ : ∃ w, a.w[i] = w := ⟨_, rfl⟩
  have hwg : a.w[i]? = some w := by rw [List.getElem?_eq_getElem hi, hw]
  have hst := Ag.dayL_succ a.w d i
  rw [hwg] at hst
  simp only at hst
  have hl := hD i (by omega)
  obtain ⟨M, hM⟩ : ∃ M, M = D ++ Ag.dayL a.w d i := ⟨_, rfl⟩
  simp only [← hM] at hl ⊢
  by_cases hd : ¬ w.d = d
  · rw [if_neg (fun h => hd h.1)] at hst
    rw [hst, ← hM] at next
    simp [hi, hw, hwg, hd, Agn.cells, Agn.gW]
    refine ⟨by omega, fun s8 => ?_⟩
    (repeat first | refine And.intro (by omega) ?_ | refine And.intro (Fits.of (by omega) (by omega)) ?_)
    exact next _ _ st (by simp [Vw]) (by simp [Hw, Agn.cells, Agn.gW])
  replace hd := Classical.not_not.1 hd
  simp [hi, hw, hwg, hd, Agn.cells, Agn.gW]
  refine ⟨by omega, fun s8 => ?_⟩
  refine Lp.intro (σ := Nat) (inv := fun k => k ≤ a.w.length) (vw := fun k => [(1, .ptr 1 0 s1), (3, .int .i64 a.n), (4, .ptr 4 0 s4), (5, .ptr 5 0 s5), (6, .int .i64 d), (78, LW a.w), (79, .int .i64 a.w.length), (80, .int .i64 i), (7, .int .i64 i), (8, .ptr 8 0 (s8+1)), (9, .bool (Ag.lastK a.w i w k)), (90, LW a.w), (91, .int .i64 a.w.length), (92, .int .i64 k)])
    (hp := fun k => [(1, .row a.cells s1), (4, .row (a.gW 130 M.length st) s4), (5, .row a.cells s5), (130, gO M.length (wks M) st), (8, .row [.int .i64 w.s, .int .i64 w.d, .int .i64 w.g] (s8+1))]) (ms := fun k => a.w.length - k) 0 (by omega) (by simp [Ag.lastK]) (by simp [Agn.cells, Agn.gW, hd]) ?_
  intro k hk J2 hJ2
  by_cases hkc : k < a.w.length
  · obtain ⟨o, ho⟩ : ∃ o, a.w[k] = o := ⟨_, rfl⟩
    have hog : a.w[k]? = some o := by rw [List.getElem?_eq_getElem hkc, ho]
    have hls := Ag.lastK_step (i := i) (w := w) hkc
    rw [ho] at hls
    simp [hkc, ho, hog]
    refine ⟨by omega, fun s11 => ?_⟩
    cases e : Ag.lastK a.w i w k with
    | false =>
      rw [e] at hls
      simp [e]
      (repeat first | refine And.intro (by omega) ?_ | refine And.intro (Fits.of (by omega) (by omega)) ?_)
      exact hJ2.next (k + 1) (by omega) (by omega) (by simp [hls]) (by simp)
    | true =>
      rw [e, Bool.true_and] at hls
      by_cases c1 : o.s = w.s
      · by_cases c2 : o.d < w.d
        · have : Ag.lastK a.w i w (k + 1) = true := by rw [hls]; exact decide_eq_true (.inr (.inl c2))
          simp [e, c1, c2]
          (repeat first | refine And.intro (by omega) ?_ | refine And.intro (Fits.of (by omega) (by omega)) ?_)
          exact hJ2.next (k + 1) (by omega) (by omega) (by simp [this]) (by simp)
        · by_cases c3 : o.d = w.d
          · have : Ag.lastK a.w i w (k + 1) = decide (k ≤ i) := by
              rw [hls]
              exact decide_eq_decide.2 ⟨fun h => by rcases h with h | h | h; exact absurd c1 h; exact absurd h c2; exact h.2, fun h => .inr (.inr ⟨c3, h⟩)⟩
            have hki : ((k : Int) ≤ i) = (k ≤ i) := propext ⟨fun h => by omega, fun h => by omega⟩
            simp [e, c1, c2, c3]
            (repeat first | refine And.intro (by omega) ?_ | refine And.intro (Fits.of (by omega) (by omega)) ?_)
            exact hJ2.next (k + 1) (by omega) (by omega) (by simp [this]) (by simp)
          · have : Ag.lastK a.w i w (k + 1) = false := by
              rw [hls]
              exact decide_eq_false fun h => by rcases h with h | h | h; exact absurd c1 h; exact absurd h c2; exact absurd h.1 c3
            simp [e, c1, c2, c3]
            (repeat first | refine And.intro (by omega) ?_ | refine And.intro (Fits.of (by omega) (by omega)) ?_)
            exact hJ2.next (k + 1) (by omega) (by omega) (by simp [this]) (by simp)
      · have : Ag.lastK a.w i w (k + 1) = true := by rw [hls]; exact decide_eq_true (.inl c1)
        simp [e, c1]
        (repeat first | refine And.intro (by omega) ?_ | refine And.intro (Fits.of (by omega) (by omega)) ?_)
        exact hJ2.next (k + 1) (by omega) (by omega) (by simp [this]) (by simp)
  obtain rfl : k = a.w.length := by omega
  have hla := Ag.lastK_all a.w i w
  simp
  refine hJ2.exit ?_
  cases e : Ag.isLast a.w i w with
  | false =>
    rw [if_neg (fun h => by rw [e] at h; cases h.2)] at hst
    rw [hst, ← hM] at next
    simp [hla, e]
    (repeat first | refine And.intro (by omega) ?_ | refine And.intro (Fits.of (by omega) (by omega)) ?_)
    exact next _ _ st (by simp [Vw]) (by simp [Hw])
  | true =>
    rw [if_pos ⟨hd, e⟩] at hst
    rw [hst, ← List.append_assoc, ← hM] at next
    have hlen : (M ++ [w]).length = M.length + 1 := by simp
    simp [hla, e, Agn.gW]
    intro s129 s130
    refine xApN_gS (cells := wks M) (by simp) (by simp) (by omega) (by omega) ?_
    rw [show wks M ++ [AVal.int .i64 w.s, .int .i64 w.d, .int .i64 w.g] = wks (M ++ [w]) from wks_push M w]
    simp
    (repeat first | refine And.intro (by omega) ?_ | refine And.intro (Fits.of (by omega) (by omega)) ?_)
    exact next _ _ (s130 + 1) (by simp [Vw]) (by simp [Hw, Agn.gW])
end Go.Cw
end

/- The law AgainTurned: from both other ships on. -/
section
set_option maxRecDepth 100000
set_option linter.unusedSimpArgs false
namespace Go.Cw
open Go Go.Proofs

theorem Sl.cpv {n : Nat} {K : KT} {tm : TM} {df : DF} {h : Heap} (t nm : Nat) {cells : List AVal} {m s s' r esz : Nat} (ht : tm t = cpV esz r s nm s' m) (hr : h nm = cpO m cells s') (hl : cells.length = m * esz)
    (k : Sl n K (upd tm t (.vl m cells)) df (upd h nm .dead)) : Sl n K tm df h := Sl.vle t _ (by rw [ht]; exact VLe.cp hr hl) k
@[simp] theorem Agn.cells_len (a : Agn) : a.cells.length = 6 := rfl
@[simp] theorem Agn.cells_take (a : Agn) : a.cells.take 6 = a.cells := rfl
@[simp] theorem Agn.cells_fat (a : Agn) : a.cells.drop 2 = L a.f :: [.int .i64 a.c, LW a.w, .int .i64 a.t] := rfl
@[simp] theorem Agn.cells_wks (a : Agn) : a.cells.drop 4 = [LW a.w, .int .i64 a.t] := rfl
@[simp] theorem Agn.cells_2 (a : Agn) : a.cells[2]? = some (L a.f) := rfl
@[simp] theorem Agn.cells_4 (a : Agn) : a.cells[4]? = some (LW a.w) := rfl
@[simp] theorem Agn.cells_set (a : Agn) : setRange [AVal.nils, AVal.nils, AVal.nils, AVal.int IntKind.i64 0, AVal.nils, AVal.int IntKind.i64 0] 0 a.cells = a.cells := rfl
theorem law11_AgainTurned_t33 (a : Agn) (hs : a.Small) (hv : a.Valid) (s1 s4 s5 : Nat) :
    AW ⟨Pg, 0, 412, false, []⟩ (.seq (.ops law11_AgainTurned.r33) (.seq (.ops law11_AgainTurned.r34) (.seq (.ops law11_AgainTurned.r35) (.seq (.seq (.ops law11_AgainTurned.r36) (.cond (.t 228) (.seq (.ops law11_AgainTurned.r37) .ret) .skip)) (.seq (.seq (.ops law11_AgainTurned.r38) (.block 10 (.loop (.seq (.ops law11_AgainTurned.r39) (.seq (.cond (.t 231) .skip (.exit 10)) (.seq (.block 11 (.seq (.ops law11_AgainTurned.r40) (.seq (.ops law11_AgainTurned.r41) (.cond (.t 244) (.seq (.ops law11_AgainTurned.r42) .ret) .skip)))) (.ops law11_AgainTurned.r43))))))) (.seq (.ops law11_AgainTurned.r44) (.seq (.ops law11_AgainTurned.r45) (.seq (.ops law11_AgainTurned.r46) (.seq (.ops law11_AgainTurned.r47) (.seq (.ops law11_AgainTurned.r48) (.seq (.seq (.ops law11_AgainTurned.r49) (.block 12 (.loop (.seq (.ops law11_AgainTurned.r50) (.seq (.cond (.t 277) .skip (.exit 12)) (.seq (.block 13 (.seq (.ops law11_AgainTurned.r51) (.seq (.ops law11_AgainTurned.r52) (.seq (.ops law11_AgainTurned.r53) (.seq (.ops law11_AgainTurned.r54) (.seq (.ops law11_AgainTurned.r55) (.seq (.ops law11_AgainTurned.r56) (.seq (.ops law11_AgainTurned.r57) (.seq (.ops law11_AgainTurned.r58) (.cond (.t 377) (.seq (.ops law11_AgainTurned.r59) .ret) .skip)))))))))) (.ops law11_AgainTurned.r60))))))) (.seq (.seq (.ops law11_AgainTurned.r61) (.block 14 (.loop (.seq (.ops law11_AgainTurned.r62) (.seq (.cond (.t 382) .skip (.exit 14)) (.seq (.block 15 (.seq (.ops law11_AgainTurned.r63) (.seq (.ops law11_AgainTurned.r64) (.cond (.t 393) (.seq (.ops law11_AgainTurned.r65) .ret) .skip)))) (.ops law11_AgainTurned.r66))))))) (.seq (.seq (.ops law11_AgainTurned.r67) (.block 16 (.loop (.seq (.ops law11_AgainTurned.r68) (.seq (.cond (.t 398) .skip (.exit 16)) (.seq (.block 17 (.seq (.ops law11_AgainTurned.r69) (.seq (.ops law11_AgainTurned.r70) (.cond (.t 409) (.seq (.ops law11_AgainTurned.r71) .ret) .skip)))) (.ops law11_AgainTurned.r72))))))) (.seq (.ops law11_AgainTurned.r73) .ret))))))))))))))
      (RetK [.tmp 2] fun e _ => e = AEnd.ret (.bool true))
      (tmV [(1, .ptr 1 0 s1), (3, .int .i64 a.n), (4, .ptr 4 0 s4), (5, .ptr 5 0 s5)]) [] (hpV [(1, .row a.cells s1), (4, .row a.only.cells s4), (5, .row a.mir.cells s5)]) := by
  have cA := PInv.func (first := []) (cap := []) (args := []) law11_alive_ok
  have hn6 := hv.n6
  have hw12 := hv.w12
  have hfn : a.f.length = a.n := rfl
  have hvm := Agn.mir_valid hv
  have p0 : PInv Pg (.func (.func fn_again_Promised) [] []) [.agg a.cells] _ := PInv.func (again_Promised_ok a hs)
  have p1 : PInv Pg (.func (.func fn_again_Promised) [] []) [.agg a.mir.cells] _ := PInv.func (again_Promised_ok a.mir hvm.small)
  rw [Agn.promV_eq hv] at p0
  rw [Agn.promV_eq hvm] at p1
  have et : a.mir.t = a.t := rfl
  rw [et] at p1
  have ub := bits_lt (Ag.pr a.w a.t) a.n
  have um := bits_lt (Ag.pr a.mir.w a.t) a.mir.n
  rw [show bits (Ag.pr a.w a.t) a.n = a.under a.t from rfl] at ub
  rw [show bits (Ag.pr a.mir.w a.t) a.mir.n = a.mir.under a.t from rfl, Agn.mir_n] at um
  have h2p := two_pow_le hn6
  have e6 : (2 : Int) ^ 6 = 64 := by decide
  have e60 : (2 : Int) ^ 60 = 1152921504606846976 := by decide
  have m1 : max 0 (a.under a.t) = a.under a.t := by omega
  have m2 : max 0 (a.mir.under a.t) = a.mir.under a.t := by omega
  have hsz := Agn.mir_size hv
  have z1 := ref01_Size_ok (a.under a.t) (by omega)
  have z2 := ref01_Size_ok (a.mir.under a.t) (by omega)
  simp
  intro s196 s200 s199
  refine xAp_cp (by simp) (by simp) (by omega) ?_
  simp
  intro s203
  refine xAp_cp (by simp) (by simp) (by omega) ?_
  simp
  refine PCallK.intro p0 ?_
  simp
  refine PCallK.intro p1 ?_
  simp [m1, m2]
  refine PCallK.intro (PInv.func z1) ?_
  simp [m2]
  refine PCallK.intro (PInv.func z2) ?_
  simp [hsz]
  refine Lp.intro' (σ := Nat) (inv := fun k => k ≤ a.n) (vw := fun k => [(1, .ptr 1 0 s1), (3, .int .i64 a.n), (4, .ptr 4 0 s4), (5, .ptr 5 0 s5), (15, LW a.w), (16, L a.f), (17, .int .i64 (a.under a.t)), (19, .int .i64 (a.mir.under a.t)), (229, .int .i64 a.n), (230, .int .i64 k)])
    (hp := fun _ => [(1, .row a.cells s1), (4, .row a.only.cells s4), (5, .row a.mir.cells s5)]) (ms := fun k => a.n - k) 0 (by omega)
    (Sl.cpv 15 199 (m := a.w.length) (cells := wks a.w) (s := s196 + 1) (s' := s199 + 1) (r := 196) (esz := 3) (by simp) (by simp) (by simp) (Sl.cpv 16 203 (m := a.f.length) (cells := ints a.f) (s := s200 + 1) (s' := s203 + 1) (r := 200) (esz := 1) (by simp) (by simp) (by simp) (Sl.refl ⟨rfl, by simp [LW, L], by simp⟩))) ?_
  intro k hk J hJ
  by_cases hkc : k < a.n
  · have hk64 : (k : Int) < 64 := by omega
    have hb := Agn.under_bit hv hkc a.t
    have hb2 := Agn.under_bit hvm (i := a.n - 1 - k) (by rw [Agn.mir_n]; omega) a.t
    rw [Agn.mir_pr hkc] at hb2
    have hn1 := hv.n1
    have e1 : (a.n : Int) - 1 - k = ((a.n - 1 - k : Nat) : Int) := by omega
    have e2 : ((a.n : Int) - 1 - k).toNat = a.n - 1 - k := by omega
    have h0 : 0 ≤ (a.n : Int) - 1 - k := by omega
    have h6 : (a.n : Int) - 1 - k < 64 := by omega
    simp [hkc, hk64, hb, e2, h0, h6, hb2]
    (repeat first | refine And.intro (by omega) ?_ | refine And.intro (Fits.of (by omega) (by omega)) ?_)
    exact hJ.next (k + 1) (by omega) (by omega) (by simp) (by simp)
  obtain rfl : k = a.n := by omega
  have y0 : PInv Pg (.func (.func fn_again_Yard) [] []) [.agg a.cells] _ := PInv.func (again_Yard_ok a hs)
  have y2 : PInv Pg (.func (.func fn_again_Pays) [] []) [.agg a.cells] _ := PInv.func (again_Pays_ok a hs)
  have y3 : PInv Pg (.func (.func fn_again_Nothing) [] []) [.agg a.cells] _ := PInv.func (again_Nothing_ok a hs)
  have y4 : PInv Pg (.func (.func fn_again_Blame) [] []) [.agg a.cells] _ := PInv.func (again_Blame_ok a hs)
  have y5 : PInv Pg (.func (.func fn_again_Until) [] []) [.agg a.cells] _ := PInv.func (again_Until_ok a hs)
  obtain ⟨b1, b2, b3, eb⟩ : ∃ x y e, a.blameV = .tup [.int .i64 x, .int .i64 y, .int .i64 e] := ⟨_, _, _, rfl⟩
  obtain ⟨u1, u2, eu⟩ : ∃ x e, a.untilV = .tup [.int .i64 x, .int .i64 e] := ⟨_, _, rfl⟩
  rw [Agn.yardV_eq] at y0
  rw [Agn.paysV_eq] at y2
  rw [Agn.nothV_eq] at y3
  rw [eb] at y4
  rw [eu] at y5
  simp
  refine hJ.exit ?_
  simp
  refine PCallK.intro y0 ?_
  simp
  refine PCallK.intro y2 ?_
  simp [SP2]
  intro s24
  refine PCallK.intro y3 ?_
  simp [SP2]
  intro s26
  refine PCallK.intro y4 ?_
  simp
  refine PCallK.intro y5 ?_
  simp
  intro s274
  have hbs : (if 12 ≤ (setRange [AVal.nils, AVal.nils, AVal.nils, AVal.int IntKind.i64 0, AVal.nils, AVal.int IntKind.i64 0, AVal.nils, AVal.nils, AVal.nils, AVal.int IntKind.i64 0, AVal.nils, AVal.int IntKind.i64 0] 0 a.only.cells).length then some (setRange (setRange [AVal.nils, AVal.nils, AVal.nils, AVal.int IntKind.i64 0, AVal.nils, AVal.int IntKind.i64 0, AVal.nils, AVal.nils, AVal.nils, AVal.int IntKind.i64 0, AVal.nils, AVal.int IntKind.i64 0] 0 a.only.cells) 6 a.mir.cells) else none) = some (a.only.cells ++ a.mir.cells) := rfl
  rw [hbs]
  simp
  refine Lp.intro (σ := Nat) (inv := fun k => k ≤ 2) (vw := fun k => [(1, .ptr 1 0 s1), (15, LW a.w), (16, L a.f), (17, .int .i64 (a.under a.t)), (22, .int .i64 a.yN), (23, .int .i64 (a.errL true)), (24, .ptr 24 0 (s24+1)), (25, .int .i64 (a.errL true)), (26, .ptr 26 0 (s26+1)), (27, .int .i64 (a.errL true)), (28, .int .i64 b1), (29, .int .i64 b2), (30, .int .i64 b3), (31, .int .i64 u1), (32, .int .i64 u2), (274, .sl 274 0 (s274+1) 2 (.ex 2)), (275, .int .i64 2), (276, .int .i64 k)])
    (hp := fun _ => [(1, .row a.cells s1), (24, .row [.int .i64 a.paysP.1, .int .i64 a.paysP.2] (s24+1)), (26, .row [.int .i64 a.nothP.1, .int .i64 a.nothP.2] (s26+1)), (274, .row (a.only.cells ++ a.mir.cells) (s274+1))]) (ms := fun k => 2 - k) 0 (by omega) (by simp) (by simp) ?_
  intro k hk J2 hJ2
  by_cases hkc : k < 2
  · obtain ⟨z, x, hz, hzc, hzs, z1, z2, z3, z4, z5, z6⟩ : ∃ (z : Agn) (x : Int), (k = 0 → x = a.under a.t) ∧ ((a.only.cells ++ a.mir.cells).drop (k * 6)).take 6 = z.cells ∧ z.Small ∧ z.promV = .tup [.int .i64 x, .int .i64 0] ∧ z.yardV = a.yardV ∧ z.paysV = a.paysV ∧ z.nothV = a.nothV ∧ z.blameV = a.blameV ∧ z.untilV = a.untilV := by
      by_cases h0 : k = 0
      · subst h0
        have hvo := Agn.only_valid hv
        refine ⟨a.only, a.under a.t, fun _ => rfl, rfl, hvo.small, ?_, Agn.only_yard hv, Agn.only_pays hv, Agn.only_noth hv, Agn.only_blame hv, Agn.only_until hv⟩
        rw [Agn.promV_eq hvo, show a.only.t = a.t from rfl, Agn.only_under hv]
      · obtain rfl : k = 1 := by omega
        refine ⟨a.mir, a.mir.under a.t, fun h => absurd h (by omega), rfl, hvm.small, ?_, Agn.mir_yard hv, Agn.mir_pays hv, Agn.mir_noth hv, Agn.mir_blame hv, Agn.mir_until hv⟩
        rw [Agn.promV_eq hvm, et]
    have c1 : PInv Pg (.func (.func fn_again_Promised) [] []) [.agg z.cells] _ := PInv.func (again_Promised_ok z hzs)
    have c2 : PInv Pg (.func (.func fn_again_Yard) [] []) [.agg z.cells] _ := PInv.func (again_Yard_ok z hzs)
    have c3 : PInv Pg (.func (.func fn_again_Pays) [] []) [.agg z.cells] _ := PInv.func (again_Pays_ok z hzs)
    have c4 : PInv Pg (.func (.func fn_again_Nothing) [] []) [.agg z.cells] _ := PInv.func (again_Nothing_ok z hzs)
    have c5 : PInv Pg (.func (.func fn_again_Blame) [] []) [.agg z.cells] _ := PInv.func (again_Blame_ok z hzs)
    have c6 : PInv Pg (.func (.func fn_again_Until) [] []) [.agg z.cells] _ := PInv.func (again_Until_ok z hzs)
    rw [z1] at c1
    rw [z2, Agn.yardV_eq] at c2
    rw [z3, Agn.paysV_eq] at c3
    rw [z4, Agn.nothV_eq] at c4
    rw [z5, eb] at c5
    rw [z6, eu] at c6
    have hkz : (k : Int) < 2 := by omega
    have hkl : 6 ≤ 12 - k * 6 := by omega
    simp [hkc, hkz, hzc, hkl]
    intro s34
    refine PCallK.intro c1 ?_
    simp
    refine PCallK.intro c2 ?_
    simp
    refine PCallK.intro c3 ?_
    simp [SP2]
    intro s39
    refine PCallK.intro c4 ?_
    simp [SP2]
    intro s41
    refine PCallK.intro c5 ?_
    simp
    refine PCallK.intro c6 ?_
    by_cases hk0 : k = 0
    · have hx := hz hk0
      subst hk0
      simp [hx]
      (repeat first | refine And.intro (by omega) ?_ | refine And.intro (Fits.of (by omega) (by omega)) ?_)
      exact hJ2.next 1 (by omega) (by omega) (by simp) (by simp)
    · simp [hk0]
      (repeat first | refine And.intro (by omega) ?_ | refine And.intro (Fits.of (by omega) (by omega)) ?_)
      exact hJ2.next (k + 1) (by omega) (by omega) (by simp) (by simp)
  obtain rfl : k = 2 := by omega
  simp
  refine hJ2.exit ?_
  simp
  refine Lp.intro (σ := Nat) (inv := fun k => k ≤ a.w.length) (vw := fun k => [(1, .ptr 1 0 s1), (15, LW a.w), (16, L a.f), (380, .int .i64 a.w.length), (381, .int .i64 k)]) (hp := fun _ => [(1, .row a.cells s1)]) (ms := fun k => a.w.length - k) 0 (by omega) (by simp) (by simp) ?_
  intro k hk J3 hJ3
  by_cases hkc : k < a.w.length
  · obtain ⟨w, hw⟩ : ∃ w, a.w[k] = w := ⟨_, rfl⟩
    have hwg : a.w[k]? = some w := by rw [List.getElem?_eq_getElem hkc, hw]
    have h3 : 3 ≤ (a.w.length - k) * 3 := by omega
    simp [hkc, hw, hwg, h3]
    (repeat first | refine And.intro (by omega) ?_ | refine And.intro (Fits.of (by omega) (by omega)) ?_)
    exact hJ3.next (k + 1) (by omega) (by omega) (by simp) (by simp)
  obtain rfl : k = a.w.length := by omega
  simp
  refine hJ3.exit ?_
  simp
  refine Lp.intro (σ := Nat) (inv := fun k => k ≤ a.n) (vw := fun k => [(1, .ptr 1 0 s1), (16, L a.f), (396, .int .i64 a.n), (397, .int .i64 k)]) (hp := fun _ => [(1, .row a.cells s1)]) (ms := fun k => a.n - k) 0 (by omega) (by simp [hfn]) (by simp) ?_
  intro k hk J4 hJ4
  by_cases hkc : k < a.n
  · have hkf : k < a.f.length := hkc
    obtain ⟨x, hx⟩ : ∃ x, a.f[k] = x := ⟨_, rfl⟩
    have hxg : a.f[k]? = some x := by rw [List.getElem?_eq_getElem hkf, hx]
    simp [hkc, hkf, hx, hxg, hfn]
    (repeat first | refine And.intro (by omega) ?_ | refine And.intro (Fits.of (by omega) (by omega)) ?_)
    exact hJ4.next (k + 1) (by omega) (by omega) (by simp) (by simp)
  obtain rfl : k = a.n := by omega
  simp
  refine hJ4.exit ?_
  simp
  refine PCallK.intro cA ?_
  simp
  exact RetV.refl rfl
end Go.Cw
end

/- The law AgainTurned, walked. -/
section
set_option maxRecDepth 100000
set_option linter.unusedSimpArgs false
namespace Go.Cw
open Go Go.Proofs

theorem Agn.turned_out {a : Agn} (hv : a.Valid) (st st3 s1 s4 s5 : Nat) (K : KT) {tm : TM} {h : Heap} (hvw : Vw [(1, .ptr 1 0 s1), (3, .int .i64 a.n), (4, .ptr 4 0 s4), (5, .ptr 5 0 s5)] tm)
    (hh : Hw [(1, .row a.cells s1), (4, .row (a.gW 130 a.onlyL.length st) s4), (130, gO a.onlyL.length (wks a.onlyL) st), (5, .row [LS a.h.seams.reverse, LD a.h.snds, L a.f.reverse, .int .i64 a.c, gS 3 193 a.w.length st3, .int .i64 a.t] s5), (193, gO a.w.length (wks a.mir.w) st3)] h)
    (hK : K (tmV [(1, .ptr 1 0 s1), (3, .int .i64 a.n), (4, .ptr 4 0 s4), (5, .ptr 5 0 s5)]) [] (hpV [(1, .row a.cells s1), (4, .row a.only.cells s4), (5, .row a.mir.cells s5)])) : Sl 412 K tm [] h := by
  have hml : (Ag.mirW a.n a.w).length = a.w.length := by simp [Ag.mirW]
  have hol : a.onlyL.length ≤ a.w.length := Ag.daysW_len a.w a.t (a.t + 1).toNat
  simp [Vw, Hw] at hvw hh
  by_cases h0 : a.w = []
  · have ho : a.onlyL = [] := List.eq_nil_of_length_eq_zero (by rw [h0] at hol; simpa using hol)
    rw [ho, h0] at hh
    have c1 : ALeL [LS a.h.seams, LD a.h.snds, L a.f, .int .i64 a.c, .es, .int .i64 a.t] a.only.cells := by
      show ALeL _ [LS a.h.seams, LD a.h.snds, L a.f, .int .i64 a.c, LW a.onlyL, .int .i64 a.t]
      rw [ho]
      exact ⟨ALe.refl _, ALe.refl _, ALe.refl _, ALe.refl _, ALe.es_vl, ALe.refl _, trivial⟩
    have c2 : ALeL [LS a.h.seams.reverse, LD a.h.snds, L a.f.reverse, .int .i64 a.c, .es, .int .i64 a.t] a.mir.cells := by
      show ALeL _ [LS a.h.seams.reverse, LD a.h.snds, L a.f.reverse, .int .i64 a.c, LW (Ag.mirW a.n a.w), .int .i64 a.t]
      rw [h0]
      exact ⟨ALe.refl _, ALe.refl _, ALe.refl _, ALe.refl _, ALe.es_vl, ALe.refl _, trivial⟩
    exact Sl.rowLe (s := s4) 4 a.only.cells (by simpa [Agn.gW] using hh.2.1) c1 (Sl.rowLe (s := s5) 5 a.mir.cells (by simpa using hh.2.2.2.1) c2
      (Sl.toV _ _ (Sl.refl ⟨rfl, by simp [Vw, hvw], by simp [Hw, hh]⟩) hK))
  · have hwp : 0 < a.w.length := List.length_pos_iff.2 h0
    have hop : 0 < a.onlyL.length := by
      refine List.length_pos_iff.2 fun ho => ?_
      obtain ⟨w, hw⟩ := List.exists_mem_of_ne_nil _ h0
      cases hlw : Ag.lastW a.w w.s with
      | none => exact Ag.lastW_none.1 hlw w hw rfl
      | some v =>
        obtain ⟨k, hk, e, h2⟩ := Ag.of_last hlw
        have := (Agn.onlyL_mem hv).2 ⟨k, by rw [List.getElem?_eq_getElem hk, e], h2⟩
        rw [ho] at this
        cases this
    refine Sl.gSH 130 (m := a.onlyL.length) (cells := wks a.onlyL) (s := st) hop (by simp [hh]) (Sl.gSH 193 (m := a.w.length) (cells := wks a.mir.w) (s := st3) hwp (by simp [hh]) (Sl.toV _ _ (Sl.refl ⟨rfl, by simp [Vw, hvw], ?_⟩) hK))
    simp [Hw, hh, Agn.cells, Agn.gW, gS_pos hwp, gS_pos hop, Agn.only, Agn.mir, Hul.flip, LW, hml]
theorem law11_AgainTurned_ok (a : Agn) : APure Pg fn_law11_AgainTurned [a.v] (.bool true) := by
  have cL := PInv.func (first := []) (cap := []) (args := [a.v]) (law11_long_ok a)
  have cA := PInv.func (first := []) (cap := []) (args := []) law11_alive_ok
  refine law11_AgainTurned.pure (by simp) ?_
  simp
  intro s1
  refine PCallK.intro cL ?_
  cases hl : a.longB with
  | true =>
    simp
    refine PCallK.intro cA ?_
    simp
    exact RetV.refl rfl
  | false =>
  have hs := Agn.long_small hl
  have cS := ref11_Ship_ok a hs
  simp only [Agn.v_agg] at cS
  simp
  refine PCallK.intro (PInv.func cS) ?_
  by_cases hv : ¬ a.Valid
  · simp [hv]
    refine PCallK.intro cA ?_
    simp
    exact RetV.refl rfl
  replace hv := Classical.not_not.1 hv
  have hn6 := hv.n6
  have hn1 := hv.n1
  have hto := hv.to
  have hw12 := hv.w12
  have hfn : a.f.length = a.n := rfl
  have hln : a.h.seams.length = a.n := hv.len.symm
  have hT := law11_AgainTurned_t33 a hs hv
  simp [hv, hfn]
  intro s4 s5
  refine Lp.intro' (σ := Nat × Nat) (inv := fun x => x.1 ≤ (a.t + 1).toNat) (vw := fun x => [(1, .ptr 1 0 (s1+1)), (3, .int .i64 a.n), (4, .ptr 4 0 (s4+1)), (5, .ptr 5 0 (s5+1)), (6, .int .i64 (a.t - x.1))])
    (hp := fun x => [(1, .row a.cells (s1+1)), (4, .row (a.gW 130 (Ag.daysW a.w a.t x.1).length x.2) (s4+1)), (5, .row a.cells (s5+1)), (130, gO (Ag.daysW a.w a.t x.1).length (wks (Ag.daysW a.w a.t x.1)) x.2)]) (ms := fun x => (a.t + 1).toNat - x.1) (0, 0) (by simp)
    (Sl.rowLe (cells := [LS a.h.seams, LD a.h.snds, L a.f, .int .i64 a.c, .nils, .int .i64 a.t]) (s := s4 + 1) 4 [LS a.h.seams, LD a.h.snds, L a.f, .int .i64 a.c, .es, .int .i64 a.t] (by simp) ⟨ALe.refl _, ALe.refl _, ALe.refl _, ALe.refl _, ALe.nils_es, ALe.refl _, trivial⟩ (Sl.refl ⟨rfl, by simp, by simp [Agn.cells, Agn.gW, Ag.daysW]⟩)) ?_
  rintro ⟨k, st⟩ hk J hJ
  simp only at hk
  have hmid := fun i hi => Ag.midW_len a.w a.t k i hi
  by_cases hkc : (k : Int) ≤ a.t
  · have h0 : 0 ≤ a.t - (k : Int) := by omega
    have h1 : a.t - 5000 ≤ a.t - (k : Int) := by omega
    simp [h0, h1, hkc, Agn.cells]
    (repeat first | refine And.intro (by omega) ?_ | refine And.intro (Fits.of (by omega) (by omega)) ?_)
    refine Lp.intro' (σ := Nat × Nat) (inv := fun x => x.1 ≤ a.w.length) (vw := fun x => [(1, .ptr 1 0 (s1+1)), (3, .int .i64 a.n), (4, .ptr 4 0 (s4+1)), (5, .ptr 5 0 (s5+1)), (6, .int .i64 (a.t - k)), (78, LW a.w), (79, .int .i64 a.w.length), (80, .int .i64 x.1)])
      (hp := fun x => [(1, .row a.cells (s1+1)), (4, .row (a.gW 130 (Ag.daysW a.w a.t k ++ Ag.dayL a.w (a.t - k) x.1).length x.2) (s4+1)), (5, .row a.cells (s5+1)), (130, gO (Ag.daysW a.w a.t k ++ Ag.dayL a.w (a.t - k) x.1).length (wks (Ag.daysW a.w a.t k ++ Ag.dayL a.w (a.t - k) x.1)) x.2)]) (ms := fun x => a.w.length - x.1) (0, st) (by simp)
      (Sl.refl ⟨rfl, by simp, by simp [Agn.cells, Agn.gW, Ag.dayL]⟩) ?_
    rintro ⟨i, st2⟩ hi J2 hJ2
    simp only at hi
    by_cases hic : i < a.w.length
    · refine law11_AgainTurned_work a hv (Ag.daysW a.w a.t k) (a.t - k) i hic hmid (s1+1) (s4+1) (s5+1) st2 J2 fun tm h' st3 h2 h3 => ?_
      simp [Vw, Hw] at h2 h3
      exact hJ2.next (i + 1, st3) (by simp; omega) (by simp; omega) (by simp [h2]) (by simp [h3])
    obtain rfl : i = a.w.length := by omega
    have hst : Ag.daysW a.w a.t k ++ Ag.dayL a.w (a.t - k) a.w.length = Ag.daysW a.w a.t (k + 1) := rfl
    simp only [hst] at hJ2 ⊢
    simp
    refine hJ2.exit ?_
    simp
    (repeat first | refine And.intro (by omega) ?_ | refine And.intro (Fits.of (by omega) (by omega)) ?_)
    exact hJ.next (k + 1, st2) (by simp; omega) (by simp; omega) (by simp; omega) (by simp)
  have hkE : k = (a.t + 1).toNat := by omega
  have h0 : ¬ 0 ≤ a.t - (k : Int) := by omega
  have hW : Ag.daysW a.w a.t k = a.onlyL := by rw [hkE]; rfl
  simp [h0, hkc]
  refine hJ.exit ?_
  simp [hW, Agn.cells]
  refine Lp.intro' (σ := Nat × Nat × Nat) (inv := fun x => x.1 ≤ a.n) (vw := fun x => [(1, .ptr 1 0 (s1+1)), (3, .int .i64 a.n), (4, .ptr 4 0 (s4+1)), (5, .ptr 5 0 (s5+1)), (139, .int .i64 a.n), (140, .int .i64 x.1)])
    (hp := fun x => [(1, .row a.cells (s1+1)), (4, .row (a.gW 130 a.onlyL.length st) (s4+1)), (130, gO a.onlyL.length (wks a.onlyL) st), (5, .row [gS 3 156 x.1 x.2.1, LD a.h.snds, gS 1 168 x.1 x.2.2, .int .i64 a.c, .nils, .int .i64 a.t] (s5+1)), (156, gO x.1 (sms (a.h.seams.reverse.take x.1)) x.2.1), (168, gO x.1 (ints (a.f.reverse.take x.1)) x.2.2)]) (ms := fun x => a.n - x.1) (0, 0, 0) (by simp)
    (Sl.rowLe (cells := [.nils, LD a.h.snds, .nils, .int .i64 a.c, .nils, .int .i64 a.t]) (s := s5 + 1) 5 [.es, LD a.h.snds, .es, .int .i64 a.c, .nils, .int .i64 a.t] (by simp) ⟨ALe.nils_es, ALe.refl _, ALe.nils_es, ALe.refl _, ALe.refl _, ALe.refl _, trivial⟩ (Sl.refl ⟨rfl, by simp [hfn], by simp [Agn.cells, Agn.gW]⟩)) ?_
  rintro ⟨i, st1, st2⟩ hi J2 hJ2
  simp only at hi
  by_cases hic : i < a.n
  · have hj : a.n - 1 - i < a.h.seams.length := by omega
    have hj2 : a.n - 1 - i < a.f.length := by omega
    obtain ⟨b, hb⟩ : ∃ b, a.h.seams[a.n - 1 - i] = b := ⟨_, rfl⟩
    obtain ⟨f, hf⟩ : ∃ f, a.f[a.n - 1 - i] = f := ⟨_, rfl⟩
    have hbg : a.h.seams[a.n - 1 - i]? = some b := by rw [List.getElem?_eq_getElem hj, hb]
    have hfg : a.f[a.n - 1 - i]? = some f := by rw [List.getElem?_eq_getElem hj2, hf]
    have e1 : ((a.n : Int) - 1 - i).toNat = a.n - 1 - i := by omega
    have g1 : 0 ≤ (a.n : Int) - 1 - i := by omega
    have g2 : (a.n : Int) - 1 - i < a.n := by omega
    have l1 : (a.h.seams.reverse.take i).length = i := by simp; omega
    have l2 : (a.f.reverse.take i).length = i := by simp; omega
    have t1 : sms (a.h.seams.reverse.take i) ++ [AVal.int .i64 b.h, .int .i64 b.s, .int .i64 b.m] = sms (a.h.seams.reverse.take (i + 1)) := by
      have hir : i < a.h.seams.reverse.length := by simp; omega
      have e : a.h.seams.reverse.take (i + 1) = a.h.seams.reverse.take i ++ [b] := by
        rw [← List.take_append_getElem hir, List.getElem_reverse]
        have : a.h.seams[a.h.seams.length - 1 - i] = b := by rw [← hb]; congr 1; omega
        rw [this]
      rw [e]
      exact fl_one _ b
    have t2 : ints (a.f.reverse.take i) ++ [AVal.int .i64 f] = ints (a.f.reverse.take (i + 1)) := by
      have hir : i < a.f.reverse.length := by simp; omega
      have e : a.f.reverse.take (i + 1) = a.f.reverse.take i ++ [f] := by
        rw [← List.take_append_getElem hir, List.getElem_reverse]
        have : a.f[a.f.length - 1 - i]'(by omega) = f := by rw [← hf]; congr 1
        exact congrArg (fun y => List.take i a.f.reverse ++ [y]) this
      rw [e]
      simp [ints]
    simp [hic, e1, g1, g2, hb, hf, hbg, hfg, hj, hj2, hln, hfn, Agn.cells]
    refine ⟨Fits.of (by omega) (by omega), Fits.of (by omega) (by omega), Fits.of (by omega) (by omega), Fits.of (by omega) (by omega), by omega, by omega, by omega, fun s155 s167 s156 => ?_⟩
    refine xApN_gS (cells := sms (a.h.seams.reverse.take i)) (by simp) (by simp [l1]) (by omega) (by omega) ?_
    rw [t1]
    simp [hfg]
    intro s168
    refine xApN_gS (cells := ints (a.f.reverse.take i)) (by simp) (by simp [l2]) (by omega) (by omega) ?_
    rw [t2]
    simp
    (repeat first | refine And.intro (by omega) ?_ | refine And.intro (Fits.of (by omega) (by omega)) ?_)
    exact hJ2.next (i + 1, s156 + 1, s168 + 1) (by simp; omega) (by simp; omega) (by simp) (by simp [Agn.cells])
  obtain rfl : i = a.n := by omega
  have tk1 : a.h.seams.reverse.take a.n = a.h.seams.reverse := List.take_of_length_le (by simp; omega)
  have tk2 : a.f.reverse.take a.n = a.f.reverse := List.take_of_length_le (by simp; omega)
  simp
  refine hJ2.exitS (Sl.gSH 156 (m := a.n) (cells := sms a.h.seams.reverse) (s := st1) (by omega) (by simp [tk1]) (Sl.gSH 168 (m := a.n) (cells := ints a.f.reverse) (s := st2) (by omega) (by simp [tk2])
    (Sl.toV [(1, .ptr 1 0 (s1+1)), (3, .int .i64 a.n), (4, .ptr 4 0 (s4+1)), (5, .ptr 5 0 (s5+1))]
      [(1, .row a.cells (s1+1)), (4, .row (a.gW 130 a.onlyL.length st) (s4+1)), (130, gO a.onlyL.length (wks a.onlyL) st), (5, .row [LS a.h.seams.reverse, LD a.h.snds, L a.f.reverse, .int .i64 a.c, .nils, .int .i64 a.t] (s5+1))]
      (Sl.refl ⟨rfl, by simp, ?_⟩) ?_)))
  · simp [Agn.cells, Agn.gW, gS_pos (show 0 < a.n by omega), LS, L, hln, hfn]
    rw [frz_gS (by decide), frz_gS (by decide)]
  simp [Agn.cells]
  refine Lp.intro' (σ := Nat × Nat) (inv := fun x => x.1 ≤ a.w.length) (vw := fun x => [(1, .ptr 1 0 (s1+1)), (3, .int .i64 a.n), (4, .ptr 4 0 (s4+1)), (5, .ptr 5 0 (s5+1)), (174, LW a.w), (175, .int .i64 a.w.length), (176, .int .i64 x.1)])
    (hp := fun x => [(1, .row a.cells (s1+1)), (4, .row (a.gW 130 a.onlyL.length st) (s4+1)), (130, gO a.onlyL.length (wks a.onlyL) st), (5, .row [LS a.h.seams.reverse, LD a.h.snds, L a.f.reverse, .int .i64 a.c, gS 3 193 x.1 x.2, .int .i64 a.t] (s5+1)), (193, gO x.1 (wks (a.mir.w.take x.1)) x.2)]) (ms := fun x => a.w.length - x.1) (0, 0) (by simp)
    (Sl.rowLe (cells := [LS a.h.seams.reverse, LD a.h.snds, L a.f.reverse, .int .i64 a.c, .nils, .int .i64 a.t]) (s := s5 + 1) 5 [LS a.h.seams.reverse, LD a.h.snds, L a.f.reverse, .int .i64 a.c, .es, .int .i64 a.t] (by simp) ⟨ALe.refl _, ALe.refl _, ALe.refl _, ALe.refl _, ALe.nils_es, ALe.refl _, trivial⟩ (Sl.refl ⟨rfl, by simp, by simp [Agn.cells]⟩)) ?_
  have hml : a.mir.w.length = a.w.length := by simp [Agn.mir, Ag.mirW]
  rintro ⟨i, st3⟩ hi J3 hJ3
  simp only at hi
  by_cases hic : i < a.w.length
  · obtain ⟨w, hw⟩ : ∃ w, a.w[i] = w := ⟨_, rfl⟩
    have hwg : a.w[i]? = some w := by rw [List.getElem?_eq_getElem hic, hw]
    obtain ⟨w1, w2, w3⟩ := hv.wo w (by rw [← hw]; exact List.getElem_mem hic)
    have h3 : 3 ≤ (a.w.length - i) * 3 := by omega
    have l1 : (a.mir.w.take i).length = i := by rw [List.length_take, hml]; omega
    have t1 : wks (a.mir.w.take i) ++ [AVal.int .i64 ((a.n : Int) - 1 - w.s), .int .i64 w.d, .int .i64 w.g] = wks (a.mir.w.take (i + 1)) := by
      have hir : i < a.mir.w.length := by omega
      have e : a.mir.w.take (i + 1) = a.mir.w.take i ++ [⟨(a.n : Int) - 1 - w.s, w.d, w.g⟩] := by
        rw [← List.take_append_getElem hir]
        have : a.mir.w[i] = ⟨(a.n : Int) - 1 - w.s, w.d, w.g⟩ := by simp [Agn.mir, Ag.mirW, hw]
        rw [this]
      rw [e]
      exact wks_push _ ⟨(a.n : Int) - 1 - w.s, w.d, w.g⟩
    simp [hic, hw, hwg, h3, Agn.cells]
    intro s14
    refine ⟨Fits.of (by omega) (by omega), Fits.of (by omega) (by omega), ?_⟩
    refine PCallK.intro (PInv.func (law11_work_ok _ _ _)) ?_
    simp
    intro s192 s193
    refine xApN_gS (cells := wks (a.mir.w.take i)) (by simp) (by simp [l1]) (by omega) (by omega) ?_
    rw [t1]
    simp
    (repeat first | refine And.intro (by omega) ?_ | refine And.intro (Fits.of (by omega) (by omega)) ?_)
    exact hJ3.next (i + 1, s193 + 1) (by simp; omega) (by simp; omega) (by simp) (by simp [Agn.cells])
  obtain rfl : i = a.w.length := by omega
  have tk : a.mir.w.take a.w.length = a.mir.w := List.take_of_length_le (by omega)
  simp
  refine hJ3.exitS (Agn.turned_out hv st st3 (s1+1) (s4+1) (s5+1) _ (by simp [Vw]) (by simp [Hw, tk]) ?_)
  rw [InB_exit, if_pos rfl, Then_normal]
  exact hT (s1+1) (s4+1) (s5+1)
end Go.Cw
end
