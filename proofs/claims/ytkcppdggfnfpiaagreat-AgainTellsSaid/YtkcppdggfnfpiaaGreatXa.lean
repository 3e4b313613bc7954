/-
  What the document's reference of layer 11 computes; laws of layer 11; how a ship is read as an argument.
-/
import Derived.Test.YtkcppdggfnfpiaaGreatWb
import Derived.Test.YtkcppdggfnfpiaaGreatLa
import Derived.Test.YtkcppdggfnfpiaaGreatAe
import Derived.Test.YtkcppdggfnfpiaaGreatAf
import Derived.Test.YtkcppdggfnfpiaaGreatRows
set_option linter.unusedVariables false
set_option linter.unusedSimpArgs false
set_option linter.unusedSectionVars false

/- The reference of chapter 11: is a ship valid; the last works; promises. -/
section
set_option maxRecDepth 100000
set_option linter.unusedSimpArgs false
namespace Go.Cw
open Go Go.Proofs

theorem ref11_in_ok (n lo hi : Int) : APure Pg fn_ref11_in [.int .i64 n, .int .i64 lo, .int .i64 hi] (.bool (decide (lo ≤ n ∧ n ≤ hi))) := by
  refine ref11_in.pure (by simp) ?_
  by_cases h : lo ≤ n <;> simp [h] <;> refine RetV.refl ?_ <;> simp_all
theorem ref11_power_ok (n : Nat) (hn : n ≤ 60) : APure Pg fn_ref11_power [.int .i64 n] (.int .i64 (2 ^ n)) := by
  refine ref11_power.pure (by simp) ?_
  simp
  refine Lp.intro (σ := Nat) (inv := fun k => k ≤ n) (vw := fun k => [(0, .int .i64 n), (3, .int .i64 (2 ^ k)), (4, .int .i64 k)]) (hp := fun _ => []) (ms := fun k => n - k) 0 (by simp) (by simp) (by simp) ?_
  intro k hk J hJ
  by_cases hkc : k < n
  · simp [hkc]
    have : (2 : Int) ^ (k + 1) ≤ 2 ^ 60 := two_pow_le (by omega)
    have h0 := two_pow_pos (k + 1)
    have h2 : (2 : Int) ^ (k + 1) = 2 * 2 ^ k := by rw [Int.pow_succ, Int.mul_comm]
    rw [h2] at this h0
    refine ⟨by unfold Fits; omega, Fits.of (by omega) (by omega), hJ.next (k + 1) (by omega) (by omega) (by simp [h2]) (by simp)⟩
  · obtain rfl : k = n := by omega
    simp
    refine hJ.exit ?_
    simp
    exact RetV.refl rfl
theorem ref11_Ship_ok (a : Agn) (hs : a.Small) : APure Pg fn_ref11_Ship [a.v] (.bool (decide a.Valid)) := by
  have hf40 := hs.f
  have hw40 := hs.w
  have hfn : a.f.length = a.n := rfl
  refine ref11_Ship.pure (by simp) ?_
  simp
  intro s1
  refine PCallK.intro (PInv.func (first := []) (cap := []) (args := [a.h.v]) (ref01_Hull_ok a.h hs.h)) ?_
  by_cases c1 : ¬ a.h.Valid
  · have hn : ¬ a.Valid := fun hv => c1 hv.h
    simp [c1]
    exact RetV.refl (by simp [hn])
  replace c1 := Classical.not_not.1 c1
  have hsl : a.h.seams.length ≤ 6 := c1.n6
  have hdl : a.h.snds.length ≤ 8 := c1.k8
  by_cases c2 : ¬ a.h.snds.length < 8
  · have hn : ¬ a.Valid := fun hv => c2 hv.k7
    have c2' : (8 : Int) ≤ a.h.snds.length := by omega
    simp [c1, c2']
    exact RetV.refl (by simp [hn])
  replace c2 := Classical.not_not.1 c2
  have c2' : ¬ (8 : Int) ≤ a.h.snds.length := by omega
  by_cases c3 : ¬ a.f.length = a.h.seams.length
  · have hn : ¬ a.Valid := fun hv => c3 hv.len
    have c3' : ¬ (a.f.length : Int) = a.h.seams.length := by omega
    simp [c1, c2', c3, c3']
    exact RetV.refl (by simp [hn])
  replace c3 := Classical.not_not.1 c3
  have c3' : (a.f.length : Int) = a.h.seams.length := by omega
  simp [c1, c2', c3, c3']
  refine PCallK.intro (PInv.func (ref11_in_ok _ _ _)) ?_
  by_cases c4 : ¬ (0 ≤ a.c ∧ a.c ≤ 100)
  · have hn : ¬ a.Valid := fun hv => c4 hv.co
    simp [c4]
    exact RetV.refl (by simp [hn])
  replace c4 := Classical.not_not.1 c4
  simp [c4]
  refine PCallK.intro (PInv.func (ref11_in_ok _ _ _)) ?_
  by_cases c5 : ¬ (0 ≤ a.t ∧ a.t ≤ 5000)
  · have hn : ¬ a.Valid := fun hv => c5 hv.to
    simp [c5]
    exact RetV.refl (by simp [hn])
  replace c5 := Classical.not_not.1 c5
  simp [c5]
  by_cases c6 : ¬ a.w.length ≤ 12
  · have hn : ¬ a.Valid := fun hv => c6 hv.w12
    have c6' : (12 : Int) < a.w.length := by omega
    simp [c6']
    exact RetV.refl (by simp [hn])
  replace c6 := Classical.not_not.1 c6
  have c6' : ¬ (12 : Int) < a.w.length := by omega
  simp [c6']
  refine Lp.intro (σ := Nat) (inv := fun k => k ≤ a.f.length ∧ ∀ x ∈ a.f.take k, 1 ≤ x ∧ x ≤ 20) (vw := fun k => [(1, .ptr 1 0 (s1+1)), (3, .int .i64 k)]) (hp := fun _ => [(1, .row a.cells (s1+1))]) (ms := fun k => a.f.length - k) 0 (by simp) (by simp) (by simp [Agn.cells]) ?_
  rintro k ⟨hk, hall⟩ J hJ
  by_cases hkc : k < a.f.length
  · obtain ⟨x, hx⟩ : ∃ x, a.f[k] = x := ⟨_, rfl⟩
    have hg : a.f[k]? = some x := by rw [List.getElem?_eq_getElem hkc, hx]
    simp [hkc, hx, hg, Agn.cells]
    refine PCallK.intro (PInv.func (ref11_in_ok _ _ _)) ?_
    by_cases hb : 1 ≤ x ∧ x ≤ 20
    · simp [hb]
      (repeat first | refine And.intro (by omega) ?_ | refine And.intro (Fits.of (by omega) (by omega)) ?_)
      refine hJ.next (k + 1) ⟨by omega, fun y hy => ?_⟩ (by omega) (by simp) (by simp [Agn.cells])
      rw [← List.take_append_getElem hkc] at hy
      rcases List.mem_append.1 hy with hy | hy
      · exact hall y hy
      · simp [hx] at hy; rw [hy]; exact hb
    · have hn : ¬ a.Valid := fun hv => hb (hv.fa x (by rw [← hx]; exact List.getElem_mem hkc))
      simp [hb]
      refine hJ.ret ?_
      simp
      exact RetV.refl (by simp [hn])
  obtain rfl : k = a.f.length := by omega
  rw [List.take_length] at hall
  simp [Agn.cells]
  refine hJ.exit ?_
  simp
  refine Lp.intro (σ := Nat) (inv := fun k => k ≤ a.w.length ∧ ∀ x ∈ a.w.take k, a.OkW x) (vw := fun k => [(1, .ptr 1 0 (s1+1)), (4, .int .i64 k)]) (hp := fun _ => [(1, .row a.cells (s1+1))]) (ms := fun k => a.w.length - k) 0 (by simp) (by simp) (by simp [Agn.cells]) ?_
  rintro k ⟨hk, hallw⟩ J hJ
  by_cases hkc : k < a.w.length
  · obtain ⟨x, hx⟩ : ∃ x, a.w[k] = x := ⟨_, rfl⟩
    have hg : a.w[k]? = some x := by rw [List.getElem?_eq_getElem hkc, hx]
    have hno : ¬ a.OkW x → ¬ a.Valid := fun h hv => h (hv.wo x (by rw [← hx]; exact List.getElem_mem hkc))
    have hsm : a.h.Seam x.s ↔ 0 ≤ x.s ∧ x.s < a.n := by
      unfold Hul.Seam
      have : (a.h.n : Int) = a.n := by rw [← hfn]; exact c3'.symm
      rw [this]
    simp [hkc, hx, hg, Agn.cells]
    refine ⟨by omega, fun s5 => ?_⟩
    refine PCallK.intro (PInv.func (first := []) (cap := []) (args := [a.h.v, .int .i64 x.s]) (ref01_Seam_ok a.h hs.h x.s)) ?_
    by_cases d1 : ¬ a.h.Seam x.s
    · have hn := hno fun h => d1 (hsm.2 h.1)
      simp [d1]
      refine hJ.ret ?_
      simp
      exact RetV.refl (by simp [hn])
    replace d1 := Classical.not_not.1 d1
    simp [d1]
    refine PCallK.intro (PInv.func (ref11_in_ok _ _ _)) ?_
    by_cases d2 : ¬ (0 ≤ x.g ∧ x.g ≤ 3)
    · have hn := hno fun h => d2 h.2.1
      simp [d2]
      refine hJ.ret ?_
      simp
      exact RetV.refl (by simp [hn])
    replace d2 := Classical.not_not.1 d2
    simp [d2]
    refine PCallK.intro (PInv.func (ref11_in_ok _ _ _)) ?_
    by_cases d3 : ¬ (0 ≤ x.d ∧ x.d ≤ a.t)
    · have hn := hno fun h => d3 h.2.2
      simp [d3]
      refine hJ.ret ?_
      simp
      exact RetV.refl (by simp [hn])
    replace d3 := Classical.not_not.1 d3
    simp [d3]
    (repeat first | refine And.intro (by omega) ?_ | refine And.intro (Fits.of (by omega) (by omega)) ?_)
    refine hJ.next (k + 1) ⟨by omega, fun y hy => ?_⟩ (by omega) (by simp) (by simp [Agn.cells])
    rw [← List.take_append_getElem hkc] at hy
    rcases List.mem_append.1 hy with hy | hy
    · exact hallw y hy
    · simp [hx] at hy; rw [hy]; exact ⟨hsm.1 d1, d2, d3⟩
  obtain rfl : k = a.w.length := by omega
  rw [List.take_length] at hallw
  have hv : a.Valid := ⟨c1, c2, c3, hall, c4, c5, c6, hallw⟩
  simp [Agn.cells]
  refine hJ.exit ?_
  simp
  exact RetV.refl (by simp [hv])
namespace Ag
def lastI (W : List Wrk) (i : Int) : Nat → Int
  | 0 => -1
  | k + 1 => match W[k]? with
    | some w => if w.s = i then (match lastW (W.take k) i with
      | none => k
      | some v => if v.d ≤ w.d then k else lastI W i k) else lastI W i k
    | none => lastI W i k
theorem lastI_spec (W : List Wrk) (i : Int) : ∀ k, k ≤ W.length → (lastI W i k = -1 ∧ lastW (W.take k) i = none) ∨ ∃ j, j < k ∧ lastI W i k = j ∧ ∃ v, W[j]? = some v ∧ lastW (W.take k) i = some v
  | 0, _ => .inl ⟨rfl, rfl⟩
  | k + 1, hk => by
    have hkc : k < W.length := by omega
    have ih := lastI_spec W i k (by omega)
    have hg : W[k]? = some W[k] := List.getElem?_eq_getElem hkc
    have ht : W.take (k + 1) = W.take k ++ [W[k]] := (List.take_append_getElem hkc).symm
    simp only [lastI, hg]
    rw [ht, lastW_push]
    rcases ih with ⟨h1, h2⟩ | ⟨j, h1, h2, v, h3, h4⟩
    · rw [h2]
      simp only [betW]
      by_cases e : W[k].s = i
      · rw [if_pos e, if_pos e]
        exact .inr ⟨k, by omega, rfl, _, hg, rfl⟩
      · rw [if_neg e, if_neg e]
        exact .inl ⟨h1, rfl⟩
    · rw [h4]
      simp only [betW]
      by_cases e : W[k].s = i
      · rw [if_pos e]
        by_cases e2 : v.d ≤ W[k].d
        · rw [if_pos e2, if_pos ⟨e, e2⟩]
          exact .inr ⟨k, by omega, rfl, _, hg, rfl⟩
        · rw [if_neg e2, if_neg fun h => e2 h.2]
          exact .inr ⟨j, by omega, h2, v, h3, rfl⟩
      · rw [if_neg e, if_neg fun h => e h.1]
        exact .inr ⟨j, by omega, h2, v, h3, rfl⟩
end Ag
theorem ref11_last_ok (a : Agn) (hw : a.w.length ≤ 40) (i : Int) : APure Pg fn_ref11_last [a.v, .int .i64 i] (.int .i64 (Ag.lastI a.w i a.w.length)) := by
  refine ref11_last.pure (by simp) ?_
  simp
  intro s2
  refine Lp.intro (σ := Nat) (inv := fun k => k ≤ a.w.length) (vw := fun k => [(1, .int .i64 i), (2, .ptr 2 0 (s2+1)), (5, .int .i64 (Ag.lastI a.w i k)), (6, .int .i64 k)]) (hp := fun _ => [(2, .row a.cells (s2+1))]) (ms := fun k => a.w.length - k) 0 (by simp) (by simp [Ag.lastI]) (by simp [Agn.cells]) ?_
  intro k hk J hJ
  by_cases hkc : k < a.w.length
  · obtain ⟨x, hx⟩ : ∃ x, a.w[k] = x := ⟨_, rfl⟩
    have hg : a.w[k]? = some x := by rw [List.getElem?_eq_getElem hkc, hx]
    have hsp := Ag.lastI_spec a.w i k hk
    have hst : Ag.lastI a.w i (k + 1) = if x.s = i then (match Ag.lastW (a.w.take k) i with
      | none => (k : Int)
      | some v => if v.d ≤ x.d then (k : Int) else Ag.lastI a.w i k) else Ag.lastI a.w i k := by
      simp only [Ag.lastI, hg]
    obtain ⟨y, hy⟩ : ∃ y, y = Ag.lastI a.w i k := ⟨_, rfl⟩
    rw [← hy] at hsp hst ⊢
    by_cases e : x.s = i
    · rw [if_pos e] at hst
      rcases hsp with ⟨h1, h2⟩ | ⟨j, h1, h2, v, h3, h4⟩
      · rw [h2] at hst
        simp only at hst
        have hy0 : y < 0 := by omega
        simp [hkc, hx, hg, Agn.cells, e, hy0]
        (repeat first | refine And.intro (by omega) ?_ | refine And.intro (Fits.of (by omega) (by omega)) ?_)
        exact hJ.next (k + 1) (by omega) (by omega) (by simp [hst]) (by simp [Agn.cells])
      · rw [h4] at hst
        simp only at hst
        have hy0 : ¬ (j : Int) < 0 := by omega
        have hjc : j < a.w.length := by omega
        have hje : a.w[j] = v := (List.getElem?_eq_some_iff.1 h3).2
        by_cases e2 : v.d ≤ x.d
        · rw [if_pos e2] at hst
          simp [hkc, hx, hg, Agn.cells, e, h2, hy0, hjc, hje, h3, e2]
          (repeat first | refine And.intro (by omega) ?_ | refine And.intro (Fits.of (by omega) (by omega)) ?_)
          exact hJ.next (k + 1) (by omega) (by omega) (by simp [hst]) (by simp [Agn.cells])
        · rw [if_neg e2] at hst
          simp [hkc, hx, hg, Agn.cells, e, h2, hy0, hjc, hje, h3, e2]
          (repeat first | refine And.intro (by omega) ?_ | refine And.intro (Fits.of (by omega) (by omega)) ?_)
          exact hJ.next (k + 1) (by omega) (by omega) (by simp [hst, h2]) (by simp [Agn.cells])
    · rw [if_neg e] at hst
      simp [hkc, hx, hg, Agn.cells, e]
      (repeat first | refine And.intro (by omega) ?_ | refine And.intro (Fits.of (by omega) (by omega)) ?_)
      exact hJ.next (k + 1) (by omega) (by omega) (by simp [hst]) (by simp [Agn.cells])
  obtain rfl : k = a.w.length := by omega
  simp [Agn.cells]
  refine hJ.exit ?_
  simp
  exact RetV.refl rfl
structure Agn.Days (a : Agn) : Prop where
  w : a.w.length ≤ 40
  d : ∀ x ∈ a.w, 0 ≤ x.d ∧ x.d ≤ 5000
  t : 0 ≤ a.t ∧ a.t ≤ 1000000
theorem Agn.Valid.days {a : Agn} (hv : a.Valid) : a.Days := ⟨by have := hv.w12; omega, fun x hx => by have := (hv.wo x hx).2.2; have := hv.to; omega, by have := hv.to; omega⟩
theorem ref11_Under_ok (a : Agn) (hd : a.Days) (i : Nat) : APure Pg fn_ref11_Under [a.v, .int .i64 i] (.bool (Ag.pr a.w a.t i)) := by
  have hw40 := hd.w
  have hto := hd.t
  refine ref11_Under.pure (by simp) ?_
  simp
  intro s2
  refine PCallK.intro (PInv.func (first := []) (cap := []) (args := [a.v, .int .i64 i]) (ref11_last_ok a hd.w i)) ?_
  have hsp := Ag.lastI_spec a.w i a.w.length (Nat.le_refl _)
  rw [List.take_length] at hsp
  rcases hsp with ⟨h1, h2⟩ | ⟨j, h1, h2, v, h3, h4⟩
  · rw [h1]
    simp
    exact RetV.refl (by simp [Ag.pr, h2])
  · rw [h2]
    have hje : a.w[j] = v := (List.getElem?_eq_some_iff.1 h3).2
    have hvd := hd.d v (List.mem_of_getElem? h3)
    simp [h1, hje, h3]
    (repeat first | refine And.intro (by omega) ?_ | refine And.intro (Fits.of (by omega) (by omega)) ?_)
    exact RetV.refl (by simp [Ag.pr, h4])
theorem ref11_Of_ok (a : Agn) (hd : a.Days) (i : Nat) : APure Pg fn_ref11_Of [a.v, .int .i64 i] (.int .i64 (Ag.ofW a.w i)) := by
  have hw40 := hd.w
  refine ref11_Of.pure (by simp) ?_
  simp
  intro s2
  refine PCallK.intro (PInv.func (first := []) (cap := []) (args := [a.v, .int .i64 i]) (ref11_last_ok a hd.w i)) ?_
  have hsp := Ag.lastI_spec a.w i a.w.length (Nat.le_refl _)
  rw [List.take_length] at hsp
  rcases hsp with ⟨h1, h2⟩ | ⟨j, h1, h2, v, h3, h4⟩
  · rw [h1]
    simp
    exact RetV.refl (by simp [Ag.ofW, h2])
  · rw [h2]
    have hje : a.w[j] = v := (List.getElem?_eq_some_iff.1 h3).2
    have hj0 : ¬ (j : Int) < 0 := by omega
    simp [h1, hje, h3, hj0]
    (repeat first | refine And.intro (by omega) ?_ | refine And.intro (Fits.of (by omega) (by omega)) ?_)
    exact RetV.refl (by simp [Ag.ofW, h4])
theorem ref11_check_ok (a : Agn) (hs : a.Small) (is : Bool) : APure Pg fn_ref11_check [a.v, .bool is] (.int .i64 (a.errO is)) := by
  refine ref11_check.pure (by simp) ?_
  simp
  intro s2
  refine PCallK.intro (PInv.func (first := []) (cap := []) (args := [a.v]) (ref11_Ship_ok a hs)) ?_
  by_cases hv : a.Valid
  · cases is
    · simp [hv]
      exact RetV.refl (by simp [Agn.errO, hv])
    · simp [hv]
      exact RetV.refl (by simp [Agn.errO, hv])
  · simp [hv]
    exact RetV.refl (by simp [Agn.errO, hv])
end Go.Cw
end

/- The reference of chapter 11: promises; what truths tell. -/
section
set_option maxRecDepth 100000
set_option linter.unusedSimpArgs false
namespace Go.Cw
open Go Go.Proofs

theorem ref11_Promised_ok (a : Agn) (hs : a.Small) : APure Pg fn_ref11_Promised [a.v] a.promV := by
  refine ref11_Promised.pure (by simp) ?_
  simp
  intro s1
  refine PCallK.intro (PInv.func (first := []) (cap := []) (args := [a.v, .bool true]) (ref11_check_ok a hs true)) ?_
  by_cases he : ¬ a.errO true = 0
  · simp [he]
    exact RetV.refl (by simp [Agn.promV, he])
  replace he := Classical.not_not.1 he
  obtain ⟨hv, _⟩ := Agn.errO_zero.1 he
  have hn6 := hv.n6
  have hfn : a.f.length = a.n := rfl
  simp [he]
  refine Lp.intro (σ := Nat) (inv := fun k => k ≤ a.n) (vw := fun k => [(1, .ptr 1 0 (s1+1)), (5, .int .i64 (bits (Ag.pr a.w a.t) k)), (6, .int .i64 k)]) (hp := fun _ => [(1, .row a.cells (s1+1))]) (ms := fun k => a.n - k) 0 (by omega) (by simp [bits]) (by simp [Agn.cells]) ?_
  intro k hk J hJ
  by_cases hkc : k < a.n
  · have hkc' : k < a.f.length := hkc
    have cU := ref11_Under_ok a hv.days k
    have hb := bits_lt (Ag.pr a.w a.t) (k + 1)
    have hp6 : (2 : Int) ^ (k + 1) ≤ 2 ^ 6 := two_pow_le (by omega)
    have e6 : (2 : Int) ^ 6 = 64 := by decide
    have h0 := bits_lt (Ag.pr a.w a.t) k
    have h2 := two_pow_pos k
    simp [hkc', hfn, hkc, Agn.cells]
    refine PCallK.intro (PInv.func (first := []) (cap := []) (args := [a.v, .int .i64 k]) cU) ?_
    cases hp : Ag.pr a.w a.t k with
    | true =>
      have hst : bits (Ag.pr a.w a.t) (k + 1) = bits (Ag.pr a.w a.t) k + 2 ^ k := by simp [bits, hp]
      simp
      refine PCallK.intro (PInv.func (ref11_power_ok k (by omega))) ?_
      simp
      refine ⟨Fits.of (by omega) (by omega), ?_⟩
      (repeat first | refine And.intro (by omega) ?_ | refine And.intro (Fits.of (by omega) (by omega)) ?_)
      exact hJ.next (k + 1) (by omega) (by omega) (by simp [hst]) (by simp [Agn.cells])
    | false =>
      have hst : bits (Ag.pr a.w a.t) (k + 1) = bits (Ag.pr a.w a.t) k := by simp [bits, hp]
      simp
      (repeat first | refine And.intro (by omega) ?_ | refine And.intro (Fits.of (by omega) (by omega)) ?_)
      exact hJ.next (k + 1) (by omega) (by omega) (by simp [hst]) (by simp [Agn.cells])
  obtain rfl : k = a.n := by omega
  simp [hfn, Agn.cells]
  refine hJ.exit ?_
  simp
  exact RetV.refl (by simp [Agn.promV, he, Agn.under])
noncomputable def Agn.truthsL (a : Agn) (is : Bool) : List (List Int) := if a.errL is = 0 then a.h.truths a.h.every else []
noncomputable def Agn.tellV (a : Agn) (is : Bool) : AVal := .tup [LLv (a.truthsL is), .int .i64 (a.errL is)]
theorem ref11_told_ok (a : Agn) (hs : a.Small) (is : Bool) : APure Pg fn_ref11_told [a.v, .bool is] (a.tellV is) := by
  refine ref11_told.pure (by simp) ?_
  simp
  intro s2
  refine PCallK.intro (PInv.func (first := []) (cap := []) (args := [a.v, .bool is]) (ref11_check_ok a hs is)) ?_
  by_cases he : ¬ a.errO is = 0
  · have h1 := Agn.errL_O he
    simp [he]
    exact RetV.ale (v' := .tup [LLv [], .int .i64 (a.errO is)]) (ALe.tup ⟨ALe.nils_vl, ALe.refl _, trivial⟩) (RetV.refl (by simp [Agn.tellV, Agn.truthsL, h1, he]))
  replace he := Classical.not_not.1 he
  obtain ⟨hv, his⟩ := Agn.errO_zero.1 he
  simp [he]
  refine PCallK.intro (PInv.func (first := []) (cap := []) (args := [a.h.v]) (ref01_Truths_ok a.h hv.h)) ?_
  by_cases ht : a.h.truths a.h.every = []
  · have h10 : a.errL is = 10 := by simp [Agn.errL, hv, his, Agn.S_nil.2 ht]
    rw [ht]
    simp
    exact RetV.ale (v' := .tup [LLv [], .int .i64 10]) (ALe.tup ⟨ALe.nils_vl, ALe.refl _, trivial⟩) (RetV.refl (by simp [Agn.tellV, Agn.truthsL, h10]))
  · have h0 : a.errL is = 0 := Agn.errL_zero.2 ⟨hv, his, mt Agn.S_nil.1 ht⟩
    simp [ht]
    exact RetV.refl (by simp [Agn.tellV, Agn.truthsL, h0])
def Agn.isT (a : Agn) (t : List Int) : Bool := (List.range t.length).any (fun i => decide (0 < ofL t i)) && (List.range t.length).all (fun i => !decide (0 < ofL t i) || Ag.pr a.w a.t i)
theorem ref11_Is_ok (a : Agn) (hd : a.Days) (t : List Int) (ht : t.length ≤ 40) : APure Pg fn_ref11_Is [a.v, L t] (.bool (a.isT t)) := by
  refine ref11_Is.pure (by simp) ?_
  simp
  intro s2
  refine Lp.intro (σ := Nat) (inv := fun k => k ≤ t.length ∧ (List.range k).all (fun i => !decide (0 < ofL t i) || Ag.pr a.w a.t i) = true) (vw := fun k => [(1, L t), (2, .ptr 2 0 (s2+1)), (5, .bool ((List.range k).any fun i => decide (0 < ofL t i))), (6, .int .i64 k)]) (hp := fun _ => [(2, .row a.cells (s2+1))]) (ms := fun k => t.length - k) 0 (by simp) (by simp) (by simp [Agn.cells]) ?_
  rintro k ⟨hk, hall⟩ J hJ
  by_cases hkc : k < t.length
  · obtain ⟨x, hx⟩ : ∃ x, t[k] = x := ⟨_, rfl⟩
    have hg : t[k]? = some x := by rw [List.getElem?_eq_getElem hkc, hx]
    have hof : ofL t k = x := by rw [← ofL_at t hkc]; exact hx
    have hany : ((List.range (k + 1)).any fun i => decide (0 < ofL t i)) = (((List.range k).any fun i => decide (0 < ofL t i)) || decide (0 < x)) := by rw [List.range_succ, List.any_append]; simp [hof]
    have halls : ((List.range (k + 1)).all fun i => !decide (0 < ofL t i) || Ag.pr a.w a.t i) = (((List.range k).all fun i => !decide (0 < ofL t i) || Ag.pr a.w a.t i) && (!decide (0 < x) || Ag.pr a.w a.t k)) := by rw [List.range_succ, List.all_append]; simp [hof]
    rw [hall] at halls
    by_cases h0 : 0 < x
    · simp only [hkc, hx, hg, Agn.cells, h0]
      simp [hkc, hx, hg, Agn.cells, h0]
      refine PCallK.intro (PInv.func (first := []) (cap := []) (args := [a.v, .int .i64 k]) (ref11_Under_ok a hd k)) ?_
      cases hp : Ag.pr a.w a.t k with
      | true =>
        simp
        (repeat first | refine And.intro (by omega) ?_ | refine And.intro (Fits.of (by omega) (by omega)) ?_)
        exact hJ.next (k + 1) ⟨by omega, by rw [halls, hp]; simp⟩ (by omega) (by rw [hany]; simp [h0]) (by simp [Agn.cells])
      | false =>
        have hno : a.isT t = false := by
          unfold Agn.isT
          rw [Bool.and_eq_false_iff]
          right
          rw [List.all_eq_false]
          exact ⟨k, List.mem_range.2 hkc, by simp [hof, h0, hp]⟩
        simp
        refine hJ.ret ?_
        simp
        exact RetV.refl (by simp [hno])
    · simp [hkc, hx, hg, Agn.cells, h0]
      (repeat first | refine And.intro (by omega) ?_ | refine And.intro (Fits.of (by omega) (by omega)) ?_)
      exact hJ.next (k + 1) ⟨by omega, by rw [halls]; simp [h0]⟩ (by omega) (by rw [hany]; simp [h0]) (by simp [Agn.cells])
  obtain rfl : k = t.length := by omega
  simp [Agn.cells]
  refine hJ.exit ?_
  simp
  exact RetV.refl (by unfold Agn.isT; rw [hall]; simp)
def Agn.yardT (a : Agn) (T : List (List Int)) : Int := if T.all a.isT then 2 else if T.any a.isT then 1 else 0
theorem ref11_yard_ok (a : Agn) (hd : a.Days) (T : List (List Int)) (hT : ∀ t ∈ T, t.length ≤ 40) (hl : T.length ≤ 100000) : APure Pg fn_ref11_yard [a.v, LLv T] (.int .i64 (a.yardT T)) := by
  refine ref11_yard.pure (by simp) ?_
  simp
  intro s2
  obtain ⟨c, hc⟩ : ∃ c : Nat → Nat, c = fun k => (T.take k).countP a.isT := ⟨_, rfl⟩
  have hc0 : c 0 = 0 := by rw [hc]; simp
  have hcs : ∀ k (h : k < T.length), c (k + 1) = c k + if a.isT T[k] then 1 else 0 := fun k h => by
    rw [hc]
    simp only
    rw [← List.take_append_getElem h, List.countP_append, List.countP_singleton]
  have hcl : ∀ k, c k ≤ k := fun k => by
    rw [hc]
    exact Nat.le_trans List.countP_le_length (by rw [List.length_take]; omega)
  refine Lp.intro (σ := Nat) (inv := fun k => k ≤ T.length) (vw := fun k => [(1, LLv T), (2, .ptr 2 0 (s2+1)), (5, .int .i64 (c k)), (6, .int .i64 k)]) (hp := fun _ => [(2, .row a.cells (s2+1))]) (ms := fun k => T.length - k) 0 (by simp) (by simp [hc0]) (by simp [Agn.cells]) ?_
  intro k hk J hJ
  by_cases hkc : k < T.length
  · obtain ⟨t, ht⟩ : ∃ t, T[k] = t := ⟨_, rfl⟩
    have hg : T[k]? = some t := by rw [List.getElem?_eq_getElem hkc, ht]
    have cI := ref11_Is_ok a hd t (hT t (by rw [← ht]; exact List.getElem_mem hkc))
    have hst := hcs k hkc
    have hcb := hcl k
    rw [ht] at hst
    simp [hkc, ht, hg, Agn.cells]
    refine PCallK.intro (PInv.func (first := []) (cap := []) (args := [a.v, L t]) cI) ?_
    cases hi : a.isT t with
    | true =>
      rw [hi] at hst
      simp
      (repeat first | refine And.intro (by omega) ?_ | refine And.intro (Fits.of (by omega) (by omega)) ?_)
      exact hJ.next (k + 1) (by omega) (by omega) (by simp [hst]) (by simp [Agn.cells])
    | false =>
      rw [hi] at hst
      simp
      (repeat first | refine And.intro (by omega) ?_ | refine And.intro (Fits.of (by omega) (by omega)) ?_)
      exact hJ.next (k + 1) (by omega) (by omega) (by simp [hst]) (by simp [Agn.cells])
  obtain rfl : k = T.length := by omega
  have hE : c T.length = T.countP a.isT := by rw [hc]; simp only [List.take_length]
  rw [hE]
  simp [Agn.cells]
  refine hJ.exit ?_
  by_cases h1 : T.countP a.isT = T.length
  · have h1' : ((T.countP a.isT : Nat) : Int) = T.length := by omega
    have ha : T.all a.isT = true := by rw [List.all_eq_true]; exact List.countP_eq_length.1 h1
    simp [h1, h1']
    exact RetV.refl (by simp only [Agn.yardT, ha, if_true])
  · have h1' : ¬ ((T.countP a.isT : Nat) : Int) = T.length := by omega
    have ha : ¬ T.all a.isT = true := fun h => h1 (List.countP_eq_length.2 (List.all_eq_true.1 h))
    by_cases h2 : T.countP a.isT = 0
    · have hn : ¬ T.any a.isT = true := fun h => by
        obtain ⟨t, h3, h4⟩ := List.any_eq_true.1 h
        exact List.countP_eq_zero.1 h2 t h3 h4
      have h2' : ¬ T.length = 0 := by omega
      have h3' : ¬ (0 : Int) = T.length := by omega
      rw [h2]
      simp [h2', h3', fun h : T = [] => h2' (by rw [h]; rfl)]
      exact RetV.refl (by simp only [Agn.yardT, if_neg ha, if_neg hn])
    · have h2' : ¬ ((T.countP a.isT : Nat) : Int) = 0 := by omega
      have hn : T.any a.isT = true := by
        rw [List.any_eq_true]
        obtain ⟨t, h3, h4⟩ := List.countP_pos_iff.1 (Nat.pos_of_ne_zero h2)
        exact ⟨t, h3, h4⟩
      simp [h1, h1', h2, h2']
      exact RetV.refl (by simp only [Agn.yardT, if_neg ha, hn, if_true])
theorem Agn.isT_yes {a : Agn} {t : List Int} (h : t.length = a.n) : a.isT t = Ag.yesS a.n (Ag.pr a.w a.t) (leaksT t) := by
  have hin : ∀ i, i < a.n → inS (leaksT t) i = decide (0 < ofL t i) := fun i hi => by
    unfold leaksT
    exact inS_bits _ (by rw [h]; exact hi)
  rw [Bool.eq_iff_iff, Ag.yes_iff]
  unfold Agn.isT
  rw [Bool.and_eq_true, List.any_eq_true, List.all_eq_true, h]
  have hz : leaksT t ≠ 0 ↔ ∃ i ∈ List.range a.n, decide (0 < ofL t i) = true := by
    unfold leaksT
    rw [ne_eq, bits_zero, h]
    constructor
    · intro hn
      refine Classical.byContradiction fun hx => hn fun i hi => ?_
      cases hb : decide (0 < ofL t i)
      · rfl
      · exact absurd ⟨i, List.mem_range.2 hi, hb⟩ hx
    · rintro ⟨i, hi, hb⟩ hn
      rw [hn i (List.mem_range.1 hi)] at hb
      cases hb
  rw [hz]
  refine and_congr_right fun _ => ⟨fun H i hi hs => ?_, fun H i hi => ?_⟩
  · have := H i (List.mem_range.2 hi)
    rw [← hin i hi, hs] at this
    simpa using this
  · have hi' := List.mem_range.1 hi
    rw [← hin i hi']
    cases hs : inS (leaksT t) i
    · rfl
    · simpa using H i hi' hs
theorem Agn.yardT_eq {a : Agn} {h : Hul} (hv : h.Valid) (hn : h.n = a.n) (ht : h.truths h.every ≠ []) : a.yardT (h.truths h.every) = Ag.toldV a.n (Ag.pr a.w a.t) h.setsL := by
  have hm : ∀ s, s ∈ h.setsL ↔ ∃ t ∈ h.truths h.every, leaksT t = s := fun s => Agn.mem_S (a := ⟨h, [], 0, [], 0⟩)
  have hi : ∀ t ∈ h.truths h.every, a.isT t = Ag.yesS a.n (Ag.pr a.w a.t) (leaksT t) := fun t h1 => Agn.isT_yes (by rw [(truths_in hv h1).1]; exact hn)
  have hS : h.setsL ≠ [] := mt Agn.setsL_nil.1 ht
  unfold Agn.yardT
  by_cases h1 : (h.truths h.every).all a.isT = true
  · rw [if_pos h1]
    symm
    rw [Ag.told_two hS]
    intro s hs
    obtain ⟨t, h2, rfl⟩ := (hm s).1 hs
    rw [← hi t h2]
    exact List.all_eq_true.1 h1 t h2
  · rw [if_neg h1]
    by_cases h2 : (h.truths h.every).any a.isT = true
    · rw [if_pos h2]
      symm
      rw [Ag.told_one hS]
      obtain ⟨t, h3, h4⟩ := List.any_eq_true.1 h2
      have h1 : (h.truths h.every).all a.isT = false := by simpa using h1
      obtain ⟨u, h5, h6⟩ := List.all_eq_false.1 h1
      refine ⟨⟨_, (hm _).2 ⟨t, h3, rfl⟩, by rw [← hi t h3]; exact h4⟩, _, (hm _).2 ⟨u, h5, rfl⟩, by rw [← hi u h5]; simpa using h6⟩
    · rw [if_neg h2]
      symm
      rw [Ag.told_zero hS]
      intro s hs
      obtain ⟨t, h3, rfl⟩ := (hm s).1 hs
      rw [← hi t h3]
      cases hb : a.isT t
      · rfl
      · exact absurd (List.any_eq_true.2 ⟨t, h3, hb⟩) h2
theorem Agn.truths_len {h : Hul} (hv : h.Valid) : (h.truths h.every).length ≤ 15625 := by
  have hlen := hv.ext_len h.every []
  rwa [← Hul.truths_ext] at hlen
theorem ref11_Yard_ok (a : Agn) (hs : a.Small) : APure Pg fn_ref11_Yard [a.v] a.yardV := by
  refine ref11_Yard.pure (by simp) ?_
  simp
  intro s1
  refine PCallK.intro (PInv.func (first := []) (cap := []) (args := [a.v, .bool true]) (ref11_told_ok a hs true)) ?_
  by_cases he : ¬ a.errL true = 0
  · simp [Agn.tellV, he]
    exact RetV.refl (by simp [Agn.yardV, he])
  replace he := Classical.not_not.1 he
  obtain ⟨hv, _, hS⟩ := Agn.errL_zero.1 he
  have ht := mt Agn.S_nil.2 hS
  have hT : a.truthsL true = a.h.truths a.h.every := by simp [Agn.truthsL, he]
  have hlen := Agn.truths_len hv.h
  have hn6 := hv.h.n6
  have hye := Agn.yardT_eq (a := a) hv.h hv.len.symm ht
  simp [Agn.tellV, he, hT]
  refine PCallK.intro (PInv.func (first := []) (cap := []) (args := [a.v, LLv (a.h.truths a.h.every)]) (ref11_yard_ok a hv.days _ (fun t h => by have := (truths_in hv.h h).1; omega) (by omega))) ?_
  simp
  exact RetV.refl (by simp [Agn.yardV, he, hye]; rfl)
end Go.Cw
end

/- The reference of chapter 11: fathoms; who pays; whose work leaks. -/
section
set_option maxRecDepth 100000
set_option linter.unusedSimpArgs false
namespace Go.Cw
open Go Go.Proofs

def Agn.cntB (a : Agn) (under : Bool) (g : Int) (i : Nat) : Bool := (Ag.pr a.w a.t i == under) && (decide (g < 0) || decide (Ag.ofW a.w i = g))
def Agn.lenT (a : Agn) (t : List Int) (under : Bool) (g : Int) : Int := Ag.lenB a.F t.length fun i => decide (0 < ofL t i) && a.cntB under g i
theorem ref11_Length_ok (a : Agn) (hv : a.Valid) (t : List Int) (ht : t.length = a.n) (under : Bool) (g : Int) : APure Pg fn_ref11_Length [a.v, L t, .bool under, .int .i64 g] (.int .i64 (a.lenT t under g)) := by
  have hn6 := hv.n6
  have hd := hv.days
  refine ref11_Length.pure (by simp) ?_
  simp
  intro s4
  obtain ⟨p, hp⟩ : ∃ p : Nat → Bool, p = fun i => decide (0 < ofL t i) && a.cntB under g i := ⟨_, rfl⟩
  refine Lp.intro (σ := Nat) (inv := fun k => k ≤ t.length) (vw := fun k => [(1, L t), (2, .bool under), (3, .int .i64 g), (4, .ptr 4 0 (s4+1)), (9, .int .i64 (Ag.lenB a.F k p)), (10, .int .i64 k)]) (hp := fun _ => [(4, .row a.cells (s4+1))]) (ms := fun k => t.length - k) 0 (by simp) (by simp [Ag.lenB]) (by simp [Agn.cells]) ?_
  intro k hk J hJ
  by_cases hkc : k < t.length
  · obtain ⟨x, hx⟩ : ∃ x, t[k] = x := ⟨_, rfl⟩
    have hg : t[k]? = some x := by rw [List.getElem?_eq_getElem hkc, hx]
    have hof : ofL t k = x := by rw [← ofL_at t hkc]; exact hx
    have hkf : k < a.f.length := by rw [ht] at hkc; exact hkc
    obtain ⟨y, hy⟩ : ∃ y, a.f[k] = y := ⟨_, rfl⟩
    have hgf : a.f[k]? = some y := by rw [List.getElem?_eq_getElem hkf, hy]
    have hF : a.F k = y := by unfold Agn.F; rw [← ofL_at a.f hkf]; exact hy
    have hyb := hv.fa y (by rw [← hy]; exact List.getElem_mem hkf)
    have hb := Ag.lenB_bound (n := k) (p := p) (f := a.F) (M := 100) (fun i hi => Agn.F_in hv i (by omega)) (by omega)
    have hnn := Ag.lenB_nonneg (n := k) (p := p) (f := a.F) (fun i hi => (Agn.F_in hv i (by omega)).1)
    have hst : Ag.lenB a.F (k + 1) p = Ag.lenB a.F k p + if p k then y else 0 := by simp only [Ag.lenB]; rw [hF]
    have cU := PInv.func (first := []) (cap := []) (args := [a.v, .int .i64 k]) (ref11_Under_ok a hd k)
    have cO := PInv.func (first := []) (cap := []) (args := [a.v, .int .i64 k]) (ref11_Of_ok a hd k)
    have hpk : p k = (decide (0 < x) && ((Ag.pr a.w a.t k == under) && (decide (g < 0) || decide (Ag.ofW a.w k = g)))) := by rw [hp]; simp only [hof]; rfl
    by_cases h0 : 0 < x
    · simp [hkc, hx, hg, Agn.cells, h0]
      refine PCallK.intro cU ?_
      by_cases h1 : (Ag.pr a.w a.t k == under) = true
      · by_cases h2 : g < 0
        · have hpt : p k = true := by rw [hpk, h1]; simp [h0, h2]
          rw [hpt] at hst
          simp [h1, h2, hkf, hy, hgf]
          (repeat first | refine And.intro (by omega) ?_ | refine And.intro (Fits.of (by omega) (by omega)) ?_)
          exact hJ.next (k + 1) (by omega) (by omega) (by simp [hst]) (by simp [Agn.cells])
        · simp [h1, h2]
          refine PCallK.intro cO ?_
          by_cases h3 : Ag.ofW a.w k = g
          · have hpt : p k = true := by rw [hpk, h1]; simp [h0, h3]
            rw [hpt] at hst
            simp [h3, hkf, hy, hgf]
            (repeat first | refine And.intro (by omega) ?_ | refine And.intro (Fits.of (by omega) (by omega)) ?_)
            exact hJ.next (k + 1) (by omega) (by omega) (by simp [hst]) (by simp [Agn.cells])
          · have hpf : p k = false := by rw [hpk]; simp [h2, h3]
            rw [hpf] at hst
            simp [h3]
            (repeat first | refine And.intro (by omega) ?_ | refine And.intro (Fits.of (by omega) (by omega)) ?_)
            exact hJ.next (k + 1) (by omega) (by omega) (by simp [hst]) (by simp [Agn.cells])
      · have h1 : (Ag.pr a.w a.t k == under) = false := by simpa using h1
        have hpf : p k = false := by rw [hpk, h1]; simp
        rw [hpf] at hst
        simp [h1]
        (repeat first | refine And.intro (by omega) ?_ | refine And.intro (Fits.of (by omega) (by omega)) ?_)
        exact hJ.next (k + 1) (by omega) (by omega) (by simp [hst]) (by simp [Agn.cells])
    · have hpf : p k = false := by rw [hpk]; simp [h0]
      rw [hpf] at hst
      simp [hkc, hx, hg, Agn.cells, h0]
      (repeat first | refine And.intro (by omega) ?_ | refine And.intro (Fits.of (by omega) (by omega)) ?_)
      exact hJ.next (k + 1) (by omega) (by omega) (by simp [hst]) (by simp [Agn.cells])
  obtain rfl : k = t.length := by omega
  simp [Agn.cells]
  refine hJ.exit ?_
  simp
  exact RetV.refl (by rw [hp]; rfl)
theorem ref11_hull_ok (l : List Int) (hne : l ≠ []) (hl : l.length ≤ 100000) : APure Pg fn_ref11_hull [L l] (SP2 (spanOf l)) := by
  refine ref11_hull.pure (by simp) ?_
  obtain ⟨x0, r, rfl⟩ := List.exists_cons_of_ne_nil hne
  obtain ⟨w, hw⟩ : ∃ w : Nat → Int × Int, w = fun k => spanOf (x0 :: (x0 :: r).take k) := ⟨_, rfl⟩
  have w0 : w 0 = (x0, x0) := by rw [hw]; simp [spanOf]
  have w1 : ∀ k, (hk : k < (x0 :: r).length) → w (k + 1) = (min (w k).1 (x0 :: r)[k], max (w k).2 (x0 :: r)[k]) := by
    intro k hk
    rw [hw]
    simp only [← List.take_append_getElem hk]
    exact spanOf_push _
  have wE : w (r.length + 1) = spanOf (x0 :: r) := by
    rw [hw]
    have : (x0 :: r).take (r.length + 1) = x0 :: r := List.take_of_length_le (by simp)
    simp only [this]
    exact spanOf_twice
  have hrl : r.length + 1 ≤ 100000 := by simpa using hl
  simp
  intro s2 s3
  refine Lp.intro (σ := Nat) (inv := fun k => k ≤ r.length + 1) (vw := fun k => [(0, L (x0 :: r)), (2, .ptr 2 0 (s2+1)), (3, .ptr 3 0 (s3+1)), (4, .int .i64 k)])
    (hp := fun k => [(2, .row [.int .i64 0, .int .i64 0] (s2+1)), (3, .row [.int .i64 (w k).1, .int .i64 (w k).2] (s3+1))]) (ms := fun k => r.length + 1 - k) 0 (by simp) (by simp) (by simp [w0]) ?_
  intro k hk J hJ
  by_cases hkc : k < r.length + 1
  · have hkn : k < (x0 :: r).length := hkc
    obtain ⟨t, ht⟩ : ∃ t, (x0 :: r)[k] = t := ⟨_, rfl⟩
    have hwk := w1 k hkn
    rw [ht] at hwk
    have hc : (k : Int) < (r.length : Int) + 1 := by omega
    have hget : (x0 :: r)[k]? = some t := by rw [List.getElem?_eq_getElem hkn, ht]
    simp [hc, hkn, ht, hget]
    (repeat first | refine And.intro (by omega) ?_ | refine And.intro (Fits.of (by omega) (by omega)) ?_)
    exact hJ.next (k + 1) (by omega) (by omega) (by simp) (by simp [hwk])
  obtain rfl : k = r.length + 1 := by omega
  simp
  refine hJ.exit ?_
  simp
  refine RetV.refl ?_
  rw [wE]
  rfl
noncomputable def Agn.lensP (a : Agn) (under : Bool) (g : Int) (is : Bool) : Int × Int := if a.errL is = 0 then spanOf ((a.h.truths a.h.every).map fun t => a.lenT t under g) else (0, 0)
theorem ref11_lengths_ok (a : Agn) (hs : a.Small) (under : Bool) (g : Int) (is : Bool) : APure Pg fn_ref11_lengths [a.v, .bool under, .int .i64 g, .bool is] (.tup [SP2 (a.lensP under g is), .int .i64 (a.errL is)]) := by
  refine ref11_lengths.pure (by simp) ?_
  simp
  intro s4 s8
  refine PCallK.intro (PInv.func (first := []) (cap := []) (args := [a.v, .bool is]) (ref11_told_ok a hs is)) ?_
  by_cases he : ¬ a.errL is = 0
  · simp [Agn.tellV, he]
    exact RetV.refl (by simp [Agn.lensP, he, SP2])
  replace he := Classical.not_not.1 he
  obtain ⟨hv, _, hS⟩ := Agn.errL_zero.1 he
  have ht := mt Agn.S_nil.2 hS
  have hT : a.truthsL is = a.h.truths a.h.every := by simp [Agn.truthsL, he]
  have hlen := Agn.truths_len hv.h
  have htl : ∀ t ∈ a.h.truths a.h.every, t.length = a.n := fun t h1 => by rw [(truths_in hv.h h1).1]; exact hv.len.symm
  obtain ⟨T, hTT⟩ : ∃ T, T = a.h.truths a.h.every := ⟨_, rfl⟩
  have hTl : 0 < T.length := by rw [hTT]; exact List.length_pos_iff.2 ht
  rw [← hTT] at ht hT hlen htl
  obtain ⟨m, hm⟩ : ∃ m : Nat → List Int, m = fun k => (T.take k).map fun t => a.lenT t under g := ⟨_, rfl⟩
  have hm0 : m 0 = [] := by rw [hm]; simp
  have hml : ∀ k, k ≤ T.length → (m k).length = k := fun k hk => by rw [hm]; simp; omega
  have hms : ∀ k (h : k < T.length), m (k + 1) = m k ++ [a.lenT T[k] under g] := fun k h => by
    rw [hm]
    simp only [← List.take_append_getElem h, List.map_append, List.map_cons, List.map_nil]
  have hmE : m T.length = T.map fun t => a.lenT t under g := by rw [hm]; simp only [List.take_length]
  simp [Agn.tellV, he, hT]
  refine Lp.intro' (σ := Nat × Nat) (inv := fun x => x.1 ≤ T.length) (vw := fun x => [(1, .bool under), (2, .int .i64 g), (4, .ptr 4 0 (s4+1)), (8, .ptr 8 0 (s8+1)), (10, LLv T), (12, gS 1 40 x.1 x.2), (13, .int .i64 x.1)])
    (hp := fun x => [(4, .row a.cells (s4+1)), (8, .row [.int .i64 0, .int .i64 0] (s8+1)), (40, gO x.1 (ints (m x.1)) x.2)]) (ms := fun x => T.length - x.1) (0, 0) (by simp) (Sl.wk 12 .es (by simpa using ALe.nils_es) (Sl.refl ⟨rfl, by simp, by simp [hm0, Agn.cells]⟩)) ?_
  rintro ⟨k, st⟩ hk J hJ
  simp at hk
  by_cases hkc : k < T.length
  · obtain ⟨t, hx⟩ : ∃ t, T[k] = t := ⟨_, rfl⟩
    have hg : T[k]? = some t := by rw [List.getElem?_eq_getElem hkc, hx]
    have hst := hms k hkc
    rw [hx] at hst
    have hmk := hml k hk
    have cL := ref11_Length_ok a hv t (htl t (by rw [← hx]; exact List.getElem_mem hkc)) under g
    simp [hkc, hx, hg, Agn.cells]
    refine PCallK.intro (PInv.func (first := []) (cap := []) (args := [a.v, L t, .bool under, .int .i64 g]) cL) ?_
    simp
    intro s39 s40
    refine xApN_gS (cells := ints (m k)) (by simp) (by simp [hmk]) (by omega) (by omega) ?_
    simp
    (repeat first | refine And.intro (by omega) ?_ | refine And.intro (Fits.of (by omega) (by omega)) ?_)
    exact hJ.next (k + 1, s40 + 1) (by simp; omega) (by simp; omega) (by simp) (by simp [hst, Agn.cells])
  obtain rfl : k = T.length := by omega
  simp [Agn.cells]
  refine hJ.exitS (Sl.gSH 40 (m := T.length) (cells := ints (m T.length)) (s := st) hTl (by simp) (Sl.refl ?_))
  have hne : m T.length ≠ [] := fun e => by have := hml T.length (Nat.le_refl _); rw [e] at this; simp at this; omega
  have cH := ref11_hull_ok (m T.length) hne (by rw [hml T.length (Nat.le_refl _)]; omega)
  simp [gS_pos hTl]
  have hLm : L (m T.length) = .vl T.length (ints (m T.length)) := by unfold L; rw [hml T.length (Nat.le_refl _)]
  rw [hLm] at cH
  refine PCallK.intro (PInv.func cH) ?_
  simp [SP2, Agn.cells]
  exact RetV.refl (by simp [Agn.lensP, he, SP2, ← hTT, hmE])
end Go.Cw
end

/- The reference of chapter 11: Pays, Nothing, Gang, Blame, Until. -/
section
set_option maxRecDepth 100000
set_option linter.unusedSimpArgs false
namespace Go.Cw
open Go Go.Proofs

theorem Agn.lenT_pay {a : Agn} {t : List Int} (h : t.length = a.n) {under : Bool} {g : Int} {u : Nat → Bool} (hu : ∀ i, i < a.n → a.cntB under g i = u i) : a.lenT t under g = Ag.payS a.F a.n u (leaksT t) := by
  unfold Agn.lenT Ag.payS
  rw [h]
  refine Ag.lenB_congr fun i hi => ?_
  rw [hu i hi]
  congr 1
  unfold leaksT
  exact (inS_bits (fun i => decide (0 < ofL t i)) (n := t.length) (by rw [h]; exact hi)).symm
theorem Agn.lensP_eq {a : Agn} {is : Bool} (he : a.errL is = 0) {under : Bool} {g : Int} {u : Nat → Bool} (hu : ∀ i, i < a.n → a.cntB under g i = u i) : a.lensP under g is = a.spanP u := by
  obtain ⟨hv, _, hS⟩ := Agn.errL_zero.1 he
  have ht := mt Agn.S_nil.2 hS
  unfold Agn.lensP
  rw [if_pos he]
  have hmap : ((a.h.truths a.h.every).map fun t => a.lenT t under g) = (a.h.truths a.h.every).map fun t => Ag.payS a.F a.n u (leaksT t) :=
    List.map_congr_left fun t h1 => Agn.lenT_pay (by rw [(truths_in hv.h h1).1]; exact hv.len.symm) hu
  rw [hmap]
  obtain ⟨l, hl⟩ : ∃ l, l = (a.h.truths a.h.every).map fun t => Ag.payS a.F a.n u (leaksT t) := ⟨_, rfl⟩
  have hne : l ≠ [] := by rw [hl]; simpa using ht
  obtain ⟨h1, h2⟩ := Agn.span_in hne
  rw [← hl]
  unfold Agn.spanP
  symm
  have hmem : ∀ y, y ∈ l → ∃ s ∈ a.S, Ag.payS a.F a.n u s = y := fun y hy => by
    rw [hl] at hy
    obtain ⟨t, h3, h4⟩ := List.mem_map.1 hy
    exact ⟨leaksT t, Agn.mem_S.2 ⟨t, h3, rfl⟩, h4⟩
  refine Ag.jn_eq hS (fun s hs => ?_) (hmem _ h1) (hmem _ h2)
  obtain ⟨t, h3, rfl⟩ := Agn.mem_S.1 hs
  exact Agn.span_mem (by rw [hl]; exact List.mem_map.2 ⟨t, h3, rfl⟩)
theorem Agn.cnt_any (a : Agn) (under : Bool) (i : Nat) : a.cntB under (-1) i = (Ag.pr a.w a.t i == under) := by simp [Agn.cntB]
theorem ref11_Nothing_ok (a : Agn) (hs : a.Small) : APure Pg fn_ref11_Nothing [a.v] a.nothV := by
  refine ref11_Nothing.pure (by simp) ?_
  simp
  intro s1 s2
  refine PCallK.intro (PInv.func (first := []) (cap := []) (args := [a.v, .bool true, .int .i64 (-1), .bool true]) (ref11_lengths_ok a hs true (-1) true)) ?_
  have e : a.lensP true (-1) true = a.nothP := by
    by_cases he : a.errL true = 0
    · rw [Agn.lensP_eq he (u := Ag.pr a.w a.t) fun i _ => by rw [Agn.cnt_any]; simp]
      unfold Agn.nothP; rw [if_pos he]
    · unfold Agn.lensP Agn.nothP; rw [if_neg he, if_neg he]
  rw [e]
  simp [SP2]
  exact RetV.refl (by simp [Agn.nothV, SP2])
theorem ref11_Gang_ok (a : Agn) (hs : a.Small) (g : Int) : APure Pg fn_ref11_Gang [a.v, .int .i64 g] (a.gangV g) := by
  refine ref11_Gang.pure (by simp) ?_
  simp
  intro s2 s4
  refine PCallK.intro (PInv.func (ref11_in_ok _ _ _)) ?_
  have hgk : decide (0 ≤ g ∧ g ≤ 3) = decide (Agn.GangOk g) := rfl
  rw [hgk]
  simp
  refine PCallK.intro (PInv.func (first := []) (cap := []) (args := [a.v, .bool true, .int .i64 g, .bool (decide (Agn.GangOk g))]) (ref11_lengths_ok a hs true g _)) ?_
  have e : a.lensP true g (decide (Agn.GangOk g)) = a.gangP g := by
    by_cases he : a.errL (decide (Agn.GangOk g)) = 0
    · have hg : Agn.GangOk g := by simpa using (Agn.errL_zero.1 he).2.1
      have hg0 : ¬ g < 0 := by have := hg.1; omega
      rw [Agn.lensP_eq he (u := a.ownB g) fun i _ => by simp [Agn.cntB, Agn.ownB, hg0]]
      unfold Agn.gangP; rw [if_pos he]
    · unfold Agn.lensP Agn.gangP; rw [if_neg he, if_neg he]
  rw [e]
  simp [SP2]
  exact RetV.refl (by simp [Agn.gangV, SP2])
theorem ref11_Pays_ok (a : Agn) (hs : a.Small) : APure Pg fn_ref11_Pays [a.v] a.paysV := by
  refine ref11_Pays.pure (by simp) ?_
  simp
  intro s1 s2
  refine PCallK.intro (PInv.func (first := []) (cap := []) (args := [a.v, .bool false, .int .i64 (-1), .bool true]) (ref11_lengths_ok a hs false (-1) true)) ?_
  by_cases he : ¬ a.errL true = 0
  · have e : a.lensP false (-1) true = (0, 0) := by unfold Agn.lensP; rw [if_neg he]
    rw [e]
    simp [SP2]
    intro s4
    (repeat first | refine And.intro (by omega) ?_ | refine And.intro (Fits.of (by omega) (by omega)) ?_)
    exact RetV.refl (by simp [Agn.paysV, Agn.paysP, SP2, he])
  replace he := Classical.not_not.1 he
  obtain ⟨hv, _, hS⟩ := Agn.errL_zero.1 he
  have hco := hv.co
  obtain ⟨x, hx⟩ : ∃ x, x = a.spanP (fun i => !Ag.pr a.w a.t i) := ⟨_, rfl⟩
  obtain ⟨⟨b1, b2⟩, b3, b4⟩ := Agn.span_bound hv hS (fun i => !Ag.pr a.w a.t i)
  rw [← hx] at b1 b2 b3 b4
  have m1 : 0 ≤ x.1 * a.c ∧ x.1 * a.c ≤ 60000 := ⟨Int.mul_nonneg b1 hco.1, Int.le_trans (Int.mul_le_mul b2 hco.2 hco.1 (by omega)) (by omega)⟩
  have m2 : 0 ≤ x.2 * a.c ∧ x.2 * a.c ≤ 60000 := ⟨Int.mul_nonneg b3 hco.1, Int.le_trans (Int.mul_le_mul b4 hco.2 hco.1 (by omega)) (by omega)⟩
  have e : a.lensP false (-1) true = x := by
    rw [Agn.lensP_eq he (u := fun i => !Ag.pr a.w a.t i) fun i _ => by rw [Agn.cnt_any]; simp]
    exact hx.symm
  rw [e]
  simp [SP2]
  intro s4
  refine ⟨Fits.of (by omega) (by omega), Fits.of (by omega) (by omega), ?_⟩
  exact RetV.refl (by simp [Agn.paysV, Agn.paysP, SP2, he, ← hx])
theorem ref11_Blame_ok (a : Agn) (hs : a.Small) : APure Pg fn_ref11_Blame [a.v] a.blameV := by
  refine ref11_Blame.pure (by simp) ?_
  simp
  intro s1
  refine PCallK.intro (PInv.func (first := []) (cap := []) (args := [a.v, .bool true]) (ref11_told_ok a hs true)) ?_
  by_cases he : ¬ a.errL true = 0
  · simp [Agn.tellV, he]
    exact RetV.refl (by simp [Agn.blameV, he])
  replace he := Classical.not_not.1 he
  simp [Agn.tellV, he]
  refine Lp.intro (σ := Nat) (inv := fun k => k ≤ 4) (vw := fun k => [(1, .ptr 1 0 (s1+1)), (7, .int .i64 (bits a.surelyB k)), (8, .int .i64 (bits a.perhapsB k)), (9, .int .i64 k)]) (hp := fun _ => [(1, .row a.cells (s1+1))]) (ms := fun k => 4 - k) 0 (by simp) (by simp [bits]) (by simp [Agn.cells]) ?_
  intro k hk J hJ
  by_cases hkc : k < 4
  · have hkc' : (k : Int) < 4 := by omega
    have hgo : decide (Agn.GangOk (k : Int)) = true := by simp [Agn.GangOk]; omega
    have cG := ref11_Gang_ok a hs k
    have hgv : a.gangV (k : Int) = .tup [SP2 (a.spanP (a.ownB k)), .int .i64 0] := by
      unfold Agn.gangV Agn.gangP
      rw [hgo, he]
      simp
    rw [hgv] at cG
    have b1 := bits_lt a.surelyB k
    have b2 := bits_lt a.perhapsB k
    have hp6 : (2 : Int) ^ k ≤ 2 ^ 6 := two_pow_le (by omega)
    have e6 : (2 : Int) ^ 6 = 64 := by decide
    have h2k := two_pow_pos k
    have st1 : bits a.surelyB (k + 1) = bits a.surelyB k + if 0 < (a.spanP (a.ownB k)).1 then 2 ^ k else 0 := by
      simp only [bits]
      have : a.surelyB k = decide (0 < (a.spanP (a.ownB k)).1) := rfl
      rw [this]
      by_cases h : 0 < (a.spanP (a.ownB k)).1 <;> simp [h]
    have st2 : bits a.perhapsB (k + 1) = bits a.perhapsB k + if 0 < (a.spanP (a.ownB k)).2 then 2 ^ k else 0 := by
      simp only [bits]
      have : a.perhapsB k = decide (0 < (a.spanP (a.ownB k)).2) := rfl
      rw [this]
      by_cases h : 0 < (a.spanP (a.ownB k)).2 <;> simp [h]
    simp [hkc, hkc', Agn.cells]
    refine PCallK.intro (PInv.func (first := []) (cap := []) (args := [a.v, .int .i64 k]) cG) ?_
    simp [SP2]
    intro s10
    by_cases h1 : 0 < (a.spanP (a.ownB k)).1
    · rw [if_pos h1] at st1
      simp [h1]
      refine PCallK.intro (PInv.func (ref11_power_ok k (by omega))) ?_
      simp
      refine ⟨Fits.of (by omega) (by omega), ?_⟩
      by_cases h2 : 0 < (a.spanP (a.ownB k)).2
      · rw [if_pos h2] at st2
        simp [h2]
        refine PCallK.intro (PInv.func (ref11_power_ok k (by omega))) ?_
        simp
        refine ⟨Fits.of (by omega) (by omega), ?_⟩
        (repeat first | refine And.intro (by omega) ?_ | refine And.intro (Fits.of (by omega) (by omega)) ?_)
        exact hJ.next (k + 1) (by omega) (by omega) (by simp [st1, st2]) (by simp [Agn.cells])
      · rw [if_neg h2] at st2
        simp [h2]
        (repeat first | refine And.intro (by omega) ?_ | refine And.intro (Fits.of (by omega) (by omega)) ?_)
        exact hJ.next (k + 1) (by omega) (by omega) (by simp [st1, st2]) (by simp [Agn.cells])
    · rw [if_neg h1] at st1
      simp [h1]
      by_cases h2 : 0 < (a.spanP (a.ownB k)).2
      · rw [if_pos h2] at st2
        simp [h2]
        refine PCallK.intro (PInv.func (ref11_power_ok k (by omega))) ?_
        simp
        refine ⟨Fits.of (by omega) (by omega), ?_⟩
        (repeat first | refine And.intro (by omega) ?_ | refine And.intro (Fits.of (by omega) (by omega)) ?_)
        exact hJ.next (k + 1) (by omega) (by omega) (by simp [st1, st2]) (by simp [Agn.cells])
      · rw [if_neg h2] at st2
        simp [h2]
        (repeat first | refine And.intro (by omega) ?_ | refine And.intro (Fits.of (by omega) (by omega)) ?_)
        exact hJ.next (k + 1) (by omega) (by omega) (by simp [st1, st2]) (by simp [Agn.cells])
  obtain rfl : k = 4 := by omega
  simp
  refine hJ.exit ?_
  simp
  exact RetV.refl (by simp [Agn.blameV, he])
end Go.Cw
end

/- The reference of chapter 11: Until. -/
section
set_option maxRecDepth 100000
set_option linter.unusedSimpArgs false
namespace Go.Cw
open Go Go.Proofs

theorem Agn.mem_days {a : Agn} {d : Int} : d ∈ a.daysL ↔ ∃ i, i < a.n ∧ (∃ s ∈ a.S, inS s i = true) ∧ ∃ w, Ag.lastW a.w i = some w ∧ w.d = d := by
  unfold Agn.daysL
  rw [List.mem_filterMap]
  constructor
  · rintro ⟨i, hi, h⟩
    split at h
    · rename_i hs
      obtain ⟨s, h1, h2⟩ := List.any_eq_true.1 hs
      cases hw : Ag.lastW a.w i with
      | none => rw [hw] at h; simp at h
      | some w =>
        rw [hw] at h
        exact ⟨i, List.mem_range.1 hi, ⟨s, h1, h2⟩, w, hw, by simpa using h⟩
    · cases h
  · rintro ⟨i, hi, ⟨s, h1, h2⟩, w, hw, rfl⟩
    refine ⟨i, List.mem_range.2 hi, ?_⟩
    rw [if_pos (List.any_eq_true.2 ⟨s, h1, h2⟩), hw]
    rfl
theorem Agn.first_is {a : Agn} (hv : a.Valid) (hS : a.S ≠ []) (hy : a.yardN = 2) : Ag.IsFirst a.n a.w a.S a.firstD := by
  have hdn : ∀ d ∈ a.daysL, 0 ≤ d := fun d hd => by
    obtain ⟨i, _, _, w, hw, rfl⟩ := Agn.mem_days.1 hd
    exact (Agn.work_rng hv hw).2.2.2.1
  obtain ⟨s, h1, i, h2, h3, w, h4⟩ := Ag.first_ex hS (Agn.S_in hv) hy
  have hm := Agn.mem_days.2 ⟨i, h2, ⟨s, h1, h3⟩, w, h4, rfl⟩
  rcases Ag.least_spec hdn with ⟨e, _⟩ | ⟨h5, h6⟩
  · rw [e] at hm; cases hm
  · obtain ⟨j, h7, ⟨t, h8, h9⟩, v, h10, h11⟩ := Agn.mem_days.1 h5
    exact ⟨⟨t, h8, j, h7, h9, v, h10, h11⟩, fun s hs i hi hsi w hw => h6 _ (Agn.mem_days.2 ⟨i, hi, ⟨s, hs, hsi⟩, w, hw, rfl⟩)⟩
theorem ref11_Until_ok (a : Agn) (hs : a.Small) : APure Pg fn_ref11_Until [a.v] a.untilV := by
  refine ref11_Until.pure (by simp) ?_
  simp
  intro s1
  refine PCallK.intro (PInv.func (first := []) (cap := []) (args := [a.v, .bool true]) (ref11_told_ok a hs true)) ?_
  by_cases he : ¬ a.errL true = 0
  · simp [Agn.tellV, he]
    exact RetV.refl (by simp [Agn.untilV, Agn.errU, he])
  replace he := Classical.not_not.1 he
  obtain ⟨hv, _, hS⟩ := Agn.errL_zero.1 he
  have ht := mt Agn.S_nil.2 hS
  have hT : a.truthsL true = a.h.truths a.h.every := by simp [Agn.truthsL, he]
  have hlen := Agn.truths_len hv.h
  have hn6 := hv.h.n6
  have hto := hv.to
  have hwo := hv.wo
  have hye := Agn.yardT_eq (a := a) hv.h hv.len.symm ht
  have hyn : Ag.toldV a.n (Ag.pr a.w a.t) a.h.setsL = a.yardN := rfl
  rw [hyn] at hye
  have hTl : ∀ t ∈ a.h.truths a.h.every, t.length ≤ 40 := fun t h => by have := (truths_in hv.h h).1; omega
  simp [Agn.tellV, he, hT]
  have cY := ref11_yard_ok a hv.days _ hTl (by omega)
  rw [hye] at cY
  refine PCallK.intro (PInv.func (first := []) (cap := []) (args := [a.v, LLv (a.h.truths a.h.every)]) cY) ?_
  by_cases hy : ¬ a.yardN = 2
  · simp [hy]
    exact RetV.refl (by simp [Agn.untilV, Agn.errU, he, hy])
  replace hy := Classical.not_not.1 hy
  have hf := Agn.first_is hv hS hy
  have hrng := Ag.until_rng hS hy hf fun w hw => (hwo w hw).2.2.2
  have hui := Ag.until_iff hS hy hf
  have hfd : a.firstD ≤ 5000 ∧ 0 ≤ a.firstD := by
    obtain ⟨⟨s, _, i, _, _, w, hw, e⟩, _⟩ := hf
    have := (Agn.work_rng hv hw).2.2.2
    omega
  obtain ⟨X, hX⟩ : ∃ X : Nat → Agn, X = fun k => ⟨a.h, a.f, a.c, a.w, a.t + k⟩ := ⟨_, rfl⟩
  have hXc : ∀ k, (X k).cells = [LS a.h.seams, LD a.h.snds, L a.f, .int .i64 a.c, LW a.w, .int .i64 (a.t + k)] := fun k => by rw [hX]; rfl
  have hXv : ∀ k, (X k).v = .agg [LS a.h.seams, LD a.h.snds, L a.f, .int .i64 a.c, LW a.w, .int .i64 (a.t + k)] := fun k => by rw [hX]; rfl
  have hXy : ∀ k : Nat, a.t + k ≤ 1000000 → APure Pg fn_ref11_yard [.agg [LS a.h.seams, LD a.h.snds, L a.f, .int .i64 a.c, LW a.w, .int .i64 (a.t + k)], LLv (a.h.truths a.h.every)] (.int .i64 (Ag.toldV a.n (Ag.pr a.w (a.t + k)) a.S)) := fun k hk => by
    have hdd : (X k).Days := ⟨by rw [hX]; exact hv.days.w, by rw [hX]; exact hv.days.d, by rw [hX]; show 0 ≤ a.t + (k : Int) ∧ a.t + (k : Int) ≤ 1000000; omega⟩
    have h1 := ref11_yard_ok (X k) hdd _ hTl (by omega)
    have h2 := Agn.yardT_eq (a := X k) (h := a.h) hv.h (by rw [hX]; exact hv.len.symm) ht
    rw [h2, hXv] at h1
    have h3 : Ag.toldV (X k).n (Ag.pr (X k).w (X k).t) a.h.setsL = Ag.toldV a.n (Ag.pr a.w (a.t + k)) a.S := by rw [hX]; rfl
    rwa [h3] at h1
  simp [hy]
  intro s6
  refine Lp.intro (σ := Nat) (inv := fun k => a.t + k ≤ a.firstD + 366) (vw := fun k => [(4, LLv (a.h.truths a.h.every)), (6, .ptr 6 0 (s6+1))])
    (hp := fun k => [(6, .row [LS a.h.seams, LD a.h.snds, L a.f, .int .i64 a.c, LW a.w, .int .i64 (a.t + k)] (s6+1))]) (ms := fun k => (a.firstD + 366 - a.t).toNat - k) 0 (by simp; omega) (by simp) (by simp) ?_
  intro k hk J hJ
  have cX := hXy k (by omega)
  have hik := hui (a.t + k)
  simp
  refine PCallK.intro (PInv.func cX) ?_
  by_cases hc : a.t + k ≤ a.firstD + 365
  · rw [hik.2 hc]
    simp
    (repeat first | refine And.intro (by omega) ?_ | refine And.intro (Fits.of (by omega) (by omega)) ?_)
    exact hJ.next (k + 1) (by omega) (by omega) (by simp) (by simp; omega)
  · have hn2 : ¬ Ag.toldV a.n (Ag.pr a.w (a.t + k)) a.S = 2 := fun h => hc (hik.1 h)
    have hkE : a.t + (k : Int) = a.firstD + 366 := by omega
    simp [hn2]
    refine hJ.exit ?_
    rw [hkE]
    simp
    refine ⟨Fits.of (by omega) (by omega), ?_⟩
    refine RetV.refl ?_
    have e : a.firstD + 366 - 1 = a.firstD + 365 := by omega
    rw [e]
    simp [Agn.untilV, Agn.errU, he, hy]
end Go.Cw
end

/- The laws of chapter 11: the document's ship; what it fixes. -/
section
set_option maxRecDepth 100000
set_option linter.unusedSimpArgs false
namespace Go.Cw
open Go Go.Proofs

def asm (t : Int) : Agn := ⟨⟨[⟨2, 0, 3⟩, ⟨5, -1, 2⟩, ⟨5, 1, 4⟩], [⟨3, 0, 1, 2⟩, ⟨6, 0, 4, 4⟩]⟩, [4, 3, 5], 10, [⟨0, 100, 0⟩, ⟨1, 90, 1⟩, ⟨2, 10, 0⟩], t⟩
theorem asm_small (t : Int) : (asm t).Small := ⟨⟨by simp [asm], by simp [asm]⟩, by simp [asm], by simp [asm]⟩
def asmT : List (List Int) := [[1, 0, 3], [1, 1, 2], [1, 2, 1], [2, 0, 2], [2, 1, 1], [2, 2, 0]]
theorem asm_truths (t : Int) : (asm t).h.truths (asm t).h.every = asmT := by
  have : (asm 300).h.truths (asm 300).h.every = asmT := by decide +kernel
  exact this
theorem asm_S (t : Int) : (asm t).S = [3, 5, 7] := by
  unfold Agn.S Hul.setsL
  rw [asm_truths]
  exact sortI_eq (by decide +kernel) (by unfold SortedI; decide +kernel)
theorem asm_valid {t : Int} (h : t = 300 ∨ t = 400) : (asm t).Valid := by
  have hh : ∀ t, (asm t).h.Valid := fun t => by
    have : (asm 300).h.Valid := ⟨by simp [asm, Hul.n], by simp [asm, Hul.n], by simp [asm, Hul.k], by decide, by decide⟩
    exact this
  rcases h with rfl | rfl
  · exact ⟨hh _, by simp [asm, Hul.k], by simp [asm, Hul.n], by decide, by simp [asm], by simp [asm], by simp [asm], by decide⟩
  · exact ⟨hh _, by simp [asm, Hul.k], by simp [asm, Hul.n], by decide, by simp [asm], by simp [asm], by simp [asm], by decide⟩
theorem asm_errO {t : Int} (h : t = 300 ∨ t = 400) : (asm t).errO true = 0 := Agn.errO_zero.2 ⟨asm_valid h, rfl⟩
theorem asm_errL {t : Int} (h : t = 300 ∨ t = 400) : (asm t).errL true = 0 := Agn.errL_zero.2 ⟨asm_valid h, rfl, by rw [asm_S]; simp⟩
theorem asm_prom {t x : Int} (h : t = 300 ∨ t = 400) (hx : bits (Ag.pr (asm t).w t) 3 = x) : (asm t).promV = .tup [.int .i64 x, .int .i64 0] := by
  have e : (asm t).under (asm t).t = x := hx
  unfold Agn.promV
  rw [asm_errO h, e]
  simp
theorem asm_yardN {t x : Int} (hx : Ag.toldV 3 (Ag.pr (asm t).w t) [3, 5, 7] = x) : (asm t).yardN = x := by
  unfold Agn.yardN
  rw [asm_S]
  exact hx
theorem asm_yard {t x : Int} (h : t = 300 ∨ t = 400) (hx : Ag.toldV 3 (Ag.pr (asm t).w t) [3, 5, 7] = x) : (asm t).yardV = .tup [.int .i64 x, .int .i64 0] := by
  unfold Agn.yardV
  rw [asm_errL h, asm_yardN hx]
  simp
theorem asm_span {t : Int} {u : Nat → Bool} {x : Int × Int} (hx : Ag.jn (Ag.payS (ofL [4, 3, 5]) 3 u) [3, 5, 7] = x) : (asm t).spanP u = x := by
  unfold Agn.spanP
  rw [asm_S]
  exact hx
theorem asm_pays {t : Int} (h : t = 300 ∨ t = 400) {x : Int × Int} (hx : Ag.jn (Ag.payS (ofL [4, 3, 5]) 3 fun i => !Ag.pr (asm t).w t i) [3, 5, 7] = x) : (asm t).paysV = .tup [SP2 (x.1 * 10, x.2 * 10), .int .i64 0] := by
  have e : (asm t).spanP (fun i => !Ag.pr (asm t).w (asm t).t i) = x := asm_span hx
  unfold Agn.paysV Agn.paysP
  rw [asm_errL h, e]
  rfl
theorem asm_noth {t : Int} (h : t = 300 ∨ t = 400) {x : Int × Int} (hx : Ag.jn (Ag.payS (ofL [4, 3, 5]) 3 (Ag.pr (asm t).w t)) [3, 5, 7] = x) : (asm t).nothV = .tup [SP2 x, .int .i64 0] := by
  have e : (asm t).spanP (Ag.pr (asm t).w (asm t).t) = x := asm_span hx
  unfold Agn.nothV Agn.nothP
  rw [asm_errL h, e]
  rfl
theorem asm_own {t : Int} (g : Int) : (asm t).ownB g = fun i => Ag.pr (asm t).w t i && decide (Ag.ofW (asm t).w i = g) := rfl
theorem asm_gang {t : Int} (h : t = 300 ∨ t = 400) (g : Int) (hg : Agn.GangOk g) {x : Int × Int} (hx : Ag.jn (Ag.payS (ofL [4, 3, 5]) 3 fun i => Ag.pr (asm t).w t i && decide (Ag.ofW (asm t).w i = g)) [3, 5, 7] = x) : (asm t).gangV g = .tup [SP2 x, .int .i64 0] := by
  have e : (asm t).spanP ((asm t).ownB g) = x := asm_span hx
  unfold Agn.gangV Agn.gangP
  rw [decide_eq_true hg, asm_errL h, e]
  rfl
theorem asm_blame : (asm 400).blameV = .tup [.int .i64 1, .int .i64 3, .int .i64 0] := by
  have hs : ∀ i : Nat, (asm 400).spanP ((asm 400).ownB i) = Ag.jn (Ag.payS (ofL [4, 3, 5]) 3 fun j => Ag.pr (asm 400).w 400 j && decide (Ag.ofW (asm 400).w j = i)) [3, 5, 7] := fun i => asm_span rfl
  have e1 : bits (asm 400).surelyB 4 = 1 := by
    have : (asm 400).surelyB = fun i : Nat => decide (0 < (Ag.jn (Ag.payS (ofL [4, 3, 5]) 3 fun j => Ag.pr (asm 400).w 400 j && decide (Ag.ofW (asm 400).w j = i)) [3, 5, 7]).1) := funext fun i => by unfold Agn.surelyB; rw [hs]
    rw [this]
    decide +kernel
  have e2 : bits (asm 400).perhapsB 4 = 3 := by
    have : (asm 400).perhapsB = fun i : Nat => decide (0 < (Ag.jn (Ag.payS (ofL [4, 3, 5]) 3 fun j => Ag.pr (asm 400).w 400 j && decide (Ag.ofW (asm 400).w j = i)) [3, 5, 7]).2) := funext fun i => by unfold Agn.perhapsB; rw [hs]
    rw [this]
    decide +kernel
  unfold Agn.blameV
  rw [asm_errL (.inr rfl), e1, e2]
  simp
theorem asm_until : (asm 300).untilV = .tup [.int .i64 375, .int .i64 0] := by
  have e1 : (asm 300).yardN = 2 := asm_yardN (by decide +kernel)
  have e2 : (asm 300).firstD = 10 := by
    unfold Agn.firstD Agn.daysL
    rw [asm_S]
    decide +kernel
  have e3 : (asm 300).errU = 0 := by unfold Agn.errU; rw [asm_errL (.inl rfl), e1]; simp
  unfold Agn.untilV
  rw [e3, e2]
  simp
def asmC (w : Int) : Bool := (List.range 25).all fun (n : Nat) =>
  !(decide (seenK (asmT.filter fun t => decide ((n : Int) ≤ Hul.sumT t w ∧ Hul.sumT t w ≤ n)) ≠ []) && decide (Ag.toldV 3 (Ag.pr (asm 400).w 400) (seenK (asmT.filter fun t => decide ((n : Int) ≤ Hul.sumT t w ∧ Hul.sumT t w ≤ n))) = 1))
theorem asm_ask : (asm 400).askV = .tup [.int .i64 2, .int .i64 (-3), .int .i64 0] := by
  have hset : ∀ d l, (asm 400).setB d l = asmC ((asm 400).h.wet d l) := fun d l => by
    unfold Agn.setB asmC
    refine congrArg (List.all (List.range 25)) (funext fun n => ?_)
    unfold Agn.perB
    rw [Agn.soundS_eq, asm_truths]
    have h1 : ∀ X : List Int, decide (sortI X ≠ []) = decide (X ≠ []) := fun X => by
      refine decide_eq_decide.2 (not_congr ?_)
      constructor
      · intro h
        have := (sortI_perm X).length_eq
        rw [h] at this
        exact List.eq_nil_of_length_eq_zero this.symm
      · rintro rfl
        have := (sortI_perm []).length_eq
        exact List.eq_nil_of_length_eq_zero this
    have h2 : ∀ X : List Int, Ag.toldV (asm 400).n (Ag.pr (asm 400).w (asm 400).t) (sortI X) = Ag.toldV 3 (Ag.pr (asm 400).w 400) X := fun X => Ag.told_same fun s => (sortI_perm X).mem_iff
    rw [h1, h2]
  have e1 : (asm 400).askP = some (2, -3) := by
    unfold Agn.askP
    simp only [hset]
    decide +kernel
  have e2 : (asm 400).errA = 0 := by
    unfold Agn.errA
    rw [asm_errL (.inr rfl), asm_yardN (x := 1) (by decide +kernel), e1]
    simp
  unfold Agn.askV
  rw [e2, e1]
  simp
theorem law11_span_ok (a b : Int) : APure Pg fn_law11_span [.int .i64 a, .int .i64 b] (SP2 (a, b)) := by
  refine law11_span.pure (by simp) ?_
  simp
  intro s
  exact RetV.refl (by simp [SP2])
theorem law11_work_ok (a b c : Int) : APure Pg fn_law11_work [.int .i64 a, .int .i64 b, .int .i64 c] (.agg [.int .i64 a, .int .i64 b, .int .i64 c]) := by
  refine law11_work.pure (by simp) ?_
  simp
  intro s
  exact RetV.refl (by simp)
theorem law11_sample_ok (t : Int) : APure Pg fn_law11_sample [.int .i64 t] (asm t).v := by
  refine law11_sample.pure (by simp) ?_
  simp
  intro s1 s2
  refine PCallK.intro (PInv.func (law11_span_ok _ _)) ?_
  simp [SP2]
  refine PCallK.intro (PInv.func (law11_span_ok _ _)) ?_
  simp [SP2]
  intro s3 s4
  refine PCallK.intro (PInv.func (law11_work_ok _ _ _)) ?_
  simp
  refine PCallK.intro (PInv.func (law11_work_ok _ _ _)) ?_
  simp
  refine PCallK.intro (PInv.func (law11_work_ok _ _ _)) ?_
  simp
  intro s5
  refine RetV.frz 6 rfl (RetV.frz 11 rfl (RetV.frz 13 rfl (RetV.frz 17 rfl (RetV.refl ?_))))
  simp [asm, LS, LD, sms, sds, fl, Sm.c, Sd.c, L, ints, LW, wks, wkC]
theorem law11_alive_ok : APure Pg fn_law11_alive [] (.bool true) := by
  have w0 := fun t => PInv.func (first := []) (cap := []) (args := [.int .i64 t]) (law11_sample_ok t)
  have c1 := again_Promised_ok (asm 400) (asm_small _)
  rw [asm_prom (.inr rfl) (x := 3) (by decide +kernel)] at c1
  have c2 := again_Yard_ok (asm 300) (asm_small _)
  rw [asm_yard (.inl rfl) (x := 2) (by decide +kernel)] at c2
  have c3 := again_Pays_ok (asm 400) (asm_small _)
  rw [asm_pays (.inr rfl) (x := (0, 5)) (by decide +kernel)] at c3
  have c4 := again_Nothing_ok (asm 300) (asm_small _)
  rw [asm_noth (.inl rfl) (x := (7, 12)) (by decide +kernel)] at c4
  have c5 := again_Gang_ok (asm 400) (asm_small _) 1
  rw [asm_gang (.inr rfl) 1 (by decide) (x := (0, 3)) (by decide +kernel)] at c5
  have c6 := again_Blame_ok (asm 400) (asm_small _)
  rw [asm_blame] at c6
  have c7 := again_Until_ok (asm 300) (asm_small _)
  rw [asm_until] at c7
  have c8 := again_Ask_ok (asm 400) (asm_small _)
  rw [asm_ask] at c8
  refine law11_alive.pure (by simp) ?_
  simp only [Agn.v_agg] at c1 c2 c3 c4 c5 c6 c7 c8
  simp
  refine PCallK.intro (w0 400) ?_
  simp
  refine PCallK.intro (PInv.func c1) ?_
  simp
  refine PCallK.intro (w0 300) ?_
  simp
  refine PCallK.intro (PInv.func c2) ?_
  simp
  refine PCallK.intro (w0 400) ?_
  simp
  refine PCallK.intro (PInv.func c3) ?_
  simp [SP2]
  intro s5
  refine PCallK.intro (w0 300) ?_
  simp
  refine PCallK.intro (PInv.func c4) ?_
  simp [SP2]
  intro s7
  refine PCallK.intro (w0 400) ?_
  simp
  refine PCallK.intro (PInv.func c5) ?_
  simp [SP2]
  intro s9
  refine PCallK.intro (w0 400) ?_
  simp
  refine PCallK.intro (PInv.func c6) ?_
  simp
  refine PCallK.intro (w0 300) ?_
  simp
  refine PCallK.intro (PInv.func c7) ?_
  simp
  refine PCallK.intro (w0 400) ?_
  simp
  refine PCallK.intro (PInv.func c8) ?_
  simp
  refine PCallK.intro (PInv.func (law11_span_ok _ _)) ?_
  simp [SP2]
  refine PCallK.intro (PInv.func (law11_span_ok _ _)) ?_
  simp [SP2]
  refine PCallK.intro (PInv.func (law11_span_ok _ _)) ?_
  simp [SP2]
  exact RetV.refl rfl
def Agn.longB (a : Agn) : Bool := decide ((40 : Int) < max (a.h.seams.length : Int) (max (a.h.snds.length : Int) (max (a.f.length : Int) (a.w.length : Int))))
theorem Agn.long_small {a : Agn} (h : a.longB = false) : a.Small := by
  unfold Agn.longB at h
  have h := of_decide_eq_false h
  exact ⟨⟨by omega, by omega⟩, by omega, by omega⟩
theorem law11_long_ok (a : Agn) : APure Pg fn_law11_long [a.v] (.bool a.longB) := by
  refine law11_long.pure (by simp) ?_
  simp
  intro s1
  exact RetV.refl (by simp [Agn.longB])
def Agn.ways (a : Agn) (k : Nat) : Int := (a.h.seams.take k).foldl (fun n s => n * (s.m + 1)) 1
theorem Agn.ways_step {a : Agn} {k : Nat} (h : k < a.h.seams.length) : a.ways (k + 1) = a.ways k * ((a.h.seams[k]).m + 1) := by
  unfold Agn.ways
  rw [← List.take_append_getElem h, List.foldl_append]
  rfl
theorem Agn.ways_rng {a : Agn} (hv : a.h.Valid) : ∀ k, k ≤ a.h.seams.length → 1 ≤ a.ways k ∧ a.ways k ≤ 5 ^ k
  | 0, _ => by simp [Agn.ways]
  | k + 1, hk => by
    have hkc : k < a.h.seams.length := by omega
    obtain ⟨h1, h2⟩ := Agn.ways_rng hv k (by omega)
    rw [Agn.ways_step hkc]
    have h3 := (hv.sm a.h.seams[k] (List.getElem_mem hkc)).2.2
    obtain ⟨m, hm⟩ : ∃ m, m = (a.h.seams[k]).m + 1 := ⟨_, rfl⟩
    rw [← hm]
    have hm1 : 1 ≤ m ∧ m ≤ 5 := by omega
    refine ⟨?_, ?_⟩
    · have := Int.mul_le_mul h1 hm1.1 (by omega) (by omega)
      omega
    · have := Int.mul_le_mul h2 hm1.2 (by omega) (by omega)
      rw [Int.pow_succ]
      exact this
noncomputable def Agn.heavyB (a : Agn) (w : Int) : Bool := if a.longB then true else if a.Valid then decide (w < a.ways a.h.seams.length) else false
theorem Agn.heavy_small {a : Agn} {w : Int} (h : a.heavyB w = false) : a.Small := by
  unfold Agn.heavyB at h
  cases hl : a.longB
  · exact Agn.long_small hl
  · rw [hl] at h; simp at h
theorem law11_heavy_ok (a : Agn) (w : Int) : APure Pg fn_law11_heavy [a.v, .int .i64 w] (.bool (a.heavyB w)) := by
  have cL := PInv.func (first := []) (cap := []) (args := [a.v]) (law11_long_ok a)
  refine law11_heavy.pure (by simp) ?_
  simp
  intro s2
  refine PCallK.intro cL ?_
  cases hl : a.longB with
  | true =>
    rw [hl] at cL
    simp
    refine PCallK.intro cL ?_
    simp
    exact RetV.refl (by simp [Agn.heavyB, hl])
  | false =>
    rw [hl] at cL
    have hs := Agn.long_small hl
    simp
    refine PCallK.intro (PInv.func (first := []) (cap := []) (args := [a.v]) (ref11_Ship_ok a hs)) ?_
    by_cases hv : ¬ a.Valid
    · simp [hv]
      refine PCallK.intro cL ?_
      simp
      exact RetV.refl (by simp [Agn.heavyB, hl, hv])
    replace hv := Classical.not_not.1 hv
    have hn6 : a.h.seams.length ≤ 6 := hv.h.n6
    simp [hv]
    refine Lp.intro (σ := Nat) (inv := fun k => k ≤ a.h.seams.length) (vw := fun k => [(1, .int .i64 w), (5, .int .i64 (a.ways k)), (19, LS a.h.seams), (20, .int .i64 a.h.seams.length), (21, .int .i64 k)]) (hp := fun _ => []) (ms := fun k => a.h.seams.length - k) 0 (by simp) (by simp [Agn.ways]) (by simp) ?_
    intro k hk J hJ
    by_cases hkc : k < a.h.seams.length
    · obtain ⟨x, hx⟩ : ∃ x, a.h.seams[k] = x := ⟨_, rfl⟩
      have hg : a.h.seams[k]? = some x := by rw [List.getElem?_eq_getElem hkc, hx]
      have hst := Agn.ways_step hkc
      rw [hx] at hst
      have hxm := (hv.h.sm x (by rw [← hx]; exact List.getElem_mem hkc)).2.2
      obtain ⟨r1, r2⟩ := Agn.ways_rng hv.h (k + 1) (by omega)
      have h5 : (5 : Int) ^ (k + 1) ≤ 15625 := by
        have : (5 : Nat) ^ (k + 1) ≤ 5 ^ 6 := Nat.pow_le_pow_right (by omega) (by omega)
        have e : (5 : Nat) ^ 6 = 15625 := by decide
        rw [e] at this
        exact_mod_cast this
      rw [hst] at r1 r2
      simp [hkc, hx, hg]
      refine ⟨by omega, fun s7 => ⟨Fits.of (by omega) (by omega), Fits.of (by omega) (by omega), ?_⟩⟩
      (repeat first | refine And.intro (by omega) ?_ | refine And.intro (Fits.of (by omega) (by omega)) ?_)
      exact hJ.next (k + 1) (by omega) (by omega) (by simp [hst]) (by simp)
    obtain rfl : k = a.h.seams.length := by omega
    simp
    refine hJ.exit ?_
    simp
    exact RetV.refl (by simp [Agn.heavyB, hl, hv])
end Go.Cw
end

/- The laws of chapter 11: what is told is what the document tells. -/
section
set_option maxRecDepth 100000
set_option linter.unusedSimpArgs false
namespace Go.Cw
open Go Go.Proofs

theorem law11_AgainTells_ok (a : Agn) (g : Int) : APure Pg fn_law11_AgainTells [a.v, .int .i64 g] (.bool true) := by
  refine law11_AgainTells.pure (by simp) ?_
  simp
  intro s2
  refine PCallK.intro (PInv.func (first := []) (cap := []) (args := [a.v, .int .i64 700]) (law11_heavy_ok a 700)) ?_
  cases hh : a.heavyB 700 with
  | true =>
    simp
    refine PCallK.intro (PInv.func law11_alive_ok) ?_
    simp
    exact RetV.refl rfl
  | false =>
    have hs := Agn.heavy_small hh
    obtain ⟨x1, y1, h1⟩ : ∃ x e, a.promV = .tup [.int .i64 x, .int .i64 e] := ⟨_, _, rfl⟩
    obtain ⟨x2, y2, h2⟩ : ∃ x e, a.yardV = .tup [.int .i64 x, .int .i64 e] := ⟨_, _, rfl⟩
    obtain ⟨x3, y3, h3⟩ : ∃ x e, a.paysV = .tup [SP2 x, .int .i64 e] := ⟨_, _, rfl⟩
    obtain ⟨x4, y4, h4⟩ : ∃ x e, a.nothV = .tup [SP2 x, .int .i64 e] := ⟨_, _, rfl⟩
    obtain ⟨x5, y5, h5⟩ : ∃ x e, a.gangV g = .tup [SP2 x, .int .i64 e] := ⟨_, _, rfl⟩
    obtain ⟨x6, y6, z6, h6⟩ : ∃ x y e, a.blameV = .tup [.int .i64 x, .int .i64 y, .int .i64 e] := ⟨_, _, _, rfl⟩
    obtain ⟨x7, y7, h7⟩ : ∃ x e, a.untilV = .tup [.int .i64 x, .int .i64 e] := ⟨_, _, rfl⟩
    have c1 := again_Promised_ok a hs
    have r1 := ref11_Promised_ok a hs
    have c2 := again_Yard_ok a hs
    have r2 := ref11_Yard_ok a hs
    have c3 := again_Pays_ok a hs
    have r3 := ref11_Pays_ok a hs
    have c4 := again_Nothing_ok a hs
    have r4 := ref11_Nothing_ok a hs
    have c5 := again_Gang_ok a hs g
    have r5 := ref11_Gang_ok a hs g
    have c6 := again_Blame_ok a hs
    have r6 := ref11_Blame_ok a hs
    have c7 := again_Until_ok a hs
    have r7 := ref11_Until_ok a hs
    rw [h1] at c1 r1
    rw [h2] at c2 r2
    rw [h3] at c3 r3
    rw [h4] at c4 r4
    rw [h5] at c5 r5
    rw [h6] at c6 r6
    rw [h7] at c7 r7
    simp only [Agn.v_agg] at c1 c2 c3 c4 c5 c6 c7 r1 r2 r3 r4 r5 r6 r7
    simp
    refine PCallK.intro (PInv.func c1) ?_
    simp
    refine PCallK.intro (PInv.func r1) ?_
    simp
    refine PCallK.intro (PInv.func c2) ?_
    simp
    refine PCallK.intro (PInv.func r2) ?_
    simp
    refine PCallK.intro (PInv.func c3) ?_
    simp [SP2]
    intro s13
    refine PCallK.intro (PInv.func r3) ?_
    simp [SP2]
    intro s15
    refine PCallK.intro (PInv.func c4) ?_
    simp [SP2]
    intro s17
    refine PCallK.intro (PInv.func r4) ?_
    simp [SP2]
    intro s19
    refine PCallK.intro (PInv.func c5) ?_
    simp [SP2]
    intro s21
    refine PCallK.intro (PInv.func r5) ?_
    simp [SP2]
    intro s23
    refine PCallK.intro (PInv.func c6) ?_
    simp
    refine PCallK.intro (PInv.func r6) ?_
    simp
    refine PCallK.intro (PInv.func c7) ?_
    simp
    refine PCallK.intro (PInv.func r7) ?_
    simp
    refine PCallK.intro (PInv.func law11_alive_ok) ?_
    simp
    exact RetV.refl rfl
end Go.Cw
end

/- How a ship that came back is read as an argument. -/
section
set_option maxRecDepth 100000
namespace Go.Cw
open Go Go.Proofs

theorem All2.five' {V W X Y Z : List AVal → Prop} {l : List (List AVal)} (h : All2 [V, W, X, Y, Z] l) : ∃ a b c d e, l = [a, b, c, d, e] ∧ V a ∧ W b ∧ X c ∧ Y d ∧ Z e := by
  match l, h with
  | [a, b, c, d, e], h => exact ⟨a, b, c, d, e, rfl, h.1, h.2.1, h.2.2.1, h.2.2.2.1, h.2.2.2.2.1⟩
section
variable {w : World} {μ : Mu}

theorem opens_int : Opens Pg w μ 3 fun av => ∃ n, (Lit.int .i64 n).wf = true ∧ av = [.int .i64 n] := Opens.int Tryz.underlying3 (by kernel_rfl)
theorem opens_bool : Opens Pg w μ 4 fun av => ∃ b, av = [.bool b] := Opens.bool Tryz.underlying4 (by kernel_rfl)
theorem opens_ints : Opens Pg w μ 26 fun av => ∃ l : List Int, av = [L l] := Opens.ints Tryz.underlying26 (by kernel_rfl) Tryz.underlying3 (by kernel_rfl)
theorem opens_span : Opens Pg w μ 36 fun av => ∃ p : Int × Int, av = [.int .i64 p.1, .int .i64 p.2] := by
  refine (Opens.struct (Vs := [_, _]) Tryz.underlying36 (by kernel_rfl) ⟨rfl, opens_int, by kernel_rfl, opens_int, trivial⟩).mono ?_
  rintro av ⟨ass, h, rfl⟩
  obtain ⟨a, b, rfl, ⟨n, _, rfl⟩, ⟨m, _, rfl⟩⟩ := h.two
  exact ⟨(n, m), rfl⟩
theorem opens_seam : Opens Pg w μ 67 fun av => ∃ a : Sm, av = a.c := by
  refine (Opens.struct (Vs := [_, _, _]) Tryz.underlying67 (by kernel_rfl) ⟨rfl, opens_int, by kernel_rfl, opens_int, by kernel_rfl, opens_int, trivial⟩).mono ?_
  rintro av ⟨ass, h, rfl⟩
  obtain ⟨a, b, c, rfl, ⟨n, _, rfl⟩, ⟨m, _, rfl⟩, ⟨k, _, rfl⟩⟩ := h.three
  exact ⟨⟨n, m, k⟩, rfl⟩
theorem opens_sounding : Opens Pg w μ 57 fun av => ∃ a : Sd, av = a.c := by
  refine (Opens.struct (Vs := [_, _, _]) Tryz.underlying57 (by kernel_rfl) ⟨rfl, opens_int, by kernel_rfl, opens_int, by kernel_rfl, opens_span, trivial⟩).mono ?_
  rintro av ⟨ass, h, rfl⟩
  obtain ⟨a, b, c, rfl, ⟨n, _, rfl⟩, ⟨m, _, rfl⟩, ⟨p, rfl⟩⟩ := h.three
  exact ⟨⟨n, m, p.1, p.2⟩, rfl⟩
theorem c67 : 0 < Pg.cellsOf 67 := by rw [show Pg.cellsOf 67 = 3 by kernel_rfl]; omega
theorem c57 : 0 < Pg.cellsOf 57 := by rw [show Pg.cellsOf 57 = 4 by kernel_rfl]; omega
theorem opens_hull : Opens Pg w μ 25 fun av => ∃ h : Hul, av = h.cells := by
  refine (Opens.struct (Vs := [_, _]) Tryz.underlying25 (by kernel_rfl) ⟨rfl, Opens.fl Tryz.underlying22 (by kernel_rfl) c67 opens_seam, by kernel_rfl, Opens.fl Tryz.underlying23 (by kernel_rfl) c57 opens_sounding, trivial⟩).mono ?_
  rintro av ⟨ass, h, rfl⟩
  obtain ⟨a, b, rfl, ⟨n, rfl⟩, ⟨m, rfl⟩⟩ := h.two
  exact ⟨⟨n, m⟩, rfl⟩
theorem opens_work : Opens Pg w μ 62 fun av => ∃ a : Wrk, av = wkC a := by
  refine (Opens.struct (Vs := [_, _, _]) Tryz.underlying62 (by kernel_rfl) ⟨rfl, opens_int, by kernel_rfl, opens_int, by kernel_rfl, opens_int, trivial⟩).mono ?_
  rintro av ⟨ass, h, rfl⟩
  obtain ⟨a, b, c, rfl, ⟨n, _, rfl⟩, ⟨m, _, rfl⟩, ⟨k, _, rfl⟩⟩ := h.three
  exact ⟨⟨n, m, k⟩, rfl⟩
theorem c62 : 0 < Pg.cellsOf 62 := by rw [show Pg.cellsOf 62 = 3 by kernel_rfl]; omega
theorem opens_again : Opens Pg w μ 29 fun av => ∃ a : Agn, av = a.cells := by
  refine (Opens.struct (Vs := [_, _, _, _, _]) Tryz.underlying29 (by kernel_rfl) ⟨rfl, opens_hull, by kernel_rfl, opens_ints, by kernel_rfl, opens_int, by kernel_rfl, Opens.fl Tryz.underlying27 (by kernel_rfl) c62 opens_work, by kernel_rfl, opens_int, trivial⟩).mono ?_
  rintro av ⟨ass, h, rfl⟩
  obtain ⟨a, b, c, d, e, rfl, ⟨n, rfl⟩, ⟨m, rfl⟩, ⟨k, _, rfl⟩, ⟨o, rfl⟩, ⟨q, _, rfl⟩⟩ := h.five'
  exact ⟨⟨n, m, k, o, q⟩, rfl⟩
theorem opens_u8 : Opens Pg w μ 5 fun av => ∃ n : Int, (0 ≤ n ∧ n ≤ 255) ∧ av = [.int .u8 n] :=
  (Opens.int Tryz.underlying5 (by kernel_rfl)).mono fun av ⟨n, h1, h2⟩ => ⟨n, bounds_u8 h1, h2⟩
end

theorem kids : Kids Pg (· < Pg.types.size) := kids_rows (by kernel_rfl) (by kernel_rfl)
theorem slices_full : ∀ t e, t < Pg.types.size → Pg.underlying t = some (.slice e) → 0 < Pg.cellsOf e := slices_full_of Pg (by kernel_rfl)
theorem ownKnobNone : ownKnob Pg.godebug = none := by kernel_rfl

end Go.Cw
end
