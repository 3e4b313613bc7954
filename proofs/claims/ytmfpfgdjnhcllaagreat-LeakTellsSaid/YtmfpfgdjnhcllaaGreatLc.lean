/-
  The document's reference of layer 1; the law Tells; how a hull is read as an argument.
-/
import Derived.Test.YtmfpfgdjnhcllaaGreatLb
import Derived.Test.YtmfpfgdjnhcllaaGreatAe
import Derived.Test.YtmfpfgdjnhcllaaGreatAf
import Derived.Test.YtmfpfgdjnhcllaaGreatRows
set_option linter.unusedVariables false
set_option linter.unusedSimpArgs false
set_option linter.unusedSectionVars false

/- The reference: what is told of a hull; sums; Wet, Rate, Total, Flow. -/
section
set_option maxRecDepth 100000
set_option linter.unusedSimpArgs false
namespace Go.Cw
open Go Go.Proofs

theorem truths_in4 {h : Hul} (hv : h.Valid) {t : List Int} (ht : t ∈ h.truths h.every) : In4 t := by
  obtain ⟨h1, h2⟩ := truths_in hv ht
  have hn6 := hv.n6
  refine ⟨by omega, fun x hx => ?_⟩
  obtain ⟨i, hi, rfl⟩ := List.getElem_of_mem hx
  have := h2 i
  rw [← ofL_at _ hi] at this
  omega

theorem truths_len {h : Hul} (hv : h.Valid) (q : Int) : (h.truths q).length ≤ 15625 := by rw [Hul.truths_ext]; exact hv.ext_len q []

theorem ref01_Seam_ok (h : Hul) (hs : h.Small) (q : Int) : APure Pg fn_ref01_Seam [h.v, .int .i64 q] (.bool (decide (h.Seam q))) := by
  have hs1 := hs.1
  refine ref01_Seam.pure (by simp) ?_
  simp
  intro s
  (repeat first | refine And.intro (by omega) ?_ | refine And.intro (Fits.of (by omega) (by omega)) ?_)
  refine PCallK.intro (PInv.func (ref01_in_ok q 0 ((h.seams.length : Int) - 1))) ?_
  simp
  refine RetV.refl (congrArg (fun b => AEnd.ret (AVal.bool b)) ?_)
  rw [← Bool.decide_and, Bool.eq_iff_iff, decide_eq_true_eq, decide_eq_true_eq]
  unfold Hul.Seam Hul.n
  omega
theorem ref01_Set_ok (h : Hul) (hs : h.Small) (q : Int) : APure Pg fn_ref01_Set [h.v, .int .i64 q] (.bool (decide (h.Set q))) := by
  have hs1 := hs.1
  have hp := two_pow_pos h.seams.length
  have hp2 := two_pow_le (k := h.seams.length) (n := 60) (by omega)
  have e60 : (2 : Int) ^ 60 = 1152921504606846976 := by decide
  refine ref01_Set.pure (by simp) ?_
  simp
  intro s
  refine PCallK.intro (PInv.func (ref01_power_ok h.seams.length (by omega))) ?_
  simp
  refine ⟨by unfold Fits; omega, ?_⟩
  refine PCallK.intro (PInv.func (ref01_in_ok q 0 (2 ^ h.seams.length - 1))) ?_
  simp
  refine RetV.refl (congrArg (fun b => AEnd.ret (AVal.bool b)) ?_)
  rw [← Bool.decide_and, Bool.eq_iff_iff, decide_eq_true_eq, decide_eq_true_eq]
  unfold Hul.Set Hul.n
  omega

noncomputable def Hul.toldV (h : Hul) (b : Bool) : AVal := if h.Valid then (if b then (if h.truths h.every = [] then .tup [LLv [], .int .i64 10] else .tup [LLv (h.truths h.every), .int .i64 0]) else .tup [LLv [], .int .i64 2]) else .tup [LLv [], .int .i64 1]

theorem ref01_told_ok (h : Hul) (hs : h.Small) (b : Bool) : APure Pg fn_ref01_told [h.v, .bool b] (h.toldV b) := by
  have nl : ∀ e : Int, ALe (.tup [.nils, .int .i64 e]) (.tup [LLv [], .int .i64 e]) := fun e => ALe.tup ⟨ALe.nils_vl, ALe.refl _, trivial⟩
  refine ref01_told.pure (by simp) ?_
  simp
  intro s
  refine PCallK.intro (PInv.func (ref01_Hull_ok h hs)) ?_
  by_cases hv : ¬ h.Valid
  · simp [hv]
    exact RetV.ale (nl 1) (RetV.refl (by simp [Hul.toldV, hv]))
  replace hv := Classical.not_not.1 hv
  cases b with
  | false =>
    simp [hv]
    exact RetV.ale (nl 2) (RetV.refl (by simp [Hul.toldV, hv]))
  | true =>
    simp [hv]
    refine PCallK.intro (PInv.func (ref01_Truths_ok h hv)) ?_
    by_cases hne : h.truths h.every = []
    · simp [hne]
      exact RetV.ale (nl 10) (RetV.refl (by simp [Hul.toldV, hv, hne]))
    · simp [hne]
      exact RetV.refl (by simp [Hul.toldV, hv, hne])

theorem spanOf_push {x : Int} {l : List Int} (y : Int) : spanOf (x :: (l ++ [y])) = (min (spanOf (x :: l)).1 y, max (spanOf (x :: l)).2 y) := by
  simp [spanOf, List.foldl_append]
theorem spanOf_twice {x : Int} {l : List Int} : spanOf (x :: x :: l) = spanOf (x :: l) := by
  simp [spanOf]

theorem ref01_sums_ok (T : List (List Int)) (hT : ∀ t ∈ T, In4 t) (hne : T ≠ []) (hl : T.length ≤ 100000) (q : Int) (hq : 0 ≤ q ∧ q < 2 ^ 62) : APure Pg fn_ref01_sums [LLv T, .int .i64 q] (SP2 (spanOf (T.map (Hul.sumT · q)))) := by
  refine ref01_sums.pure (by simp) ?_
  obtain ⟨t0, T', rfl⟩ := List.exists_cons_of_ne_nil hne
  simp
  intro s4
  have h0 := hT t0 (by simp)
  obtain ⟨g, hg⟩ : ∃ g : List Int → Int, g = (Hul.sumT · q) := ⟨_, rfl⟩
  have hgt : ∀ t, Hul.sumT t q = g t := fun t => by rw [hg]
  have cs : ∀ t ∈ t0 :: T', APure Pg fn_ref01_Sum [L t, .int .i64 q] (.int .i64 (g t)) := by
    intro t ht
    rw [← hgt]; exact ref01_Sum_ok t (hT t ht) q hq
  obtain ⟨w, hw⟩ : ∃ w : Nat → Int × Int, w = fun k => spanOf (g t0 :: ((t0 :: T').take k).map g) := ⟨_, rfl⟩
  have w0 : w 0 = (g t0, g t0) := by rw [hw]; simp [spanOf]
  have w1 : ∀ k, (hk : k < (t0 :: T').length) → w (k + 1) = (min (w k).1 (g (t0 :: T')[k]), max (w k).2 (g (t0 :: T')[k])) := by
    intro k hk
    rw [hw]
    simp only [← List.take_append_getElem hk, List.map_append, List.map_cons, List.map_nil]
    exact spanOf_push _
  have wE : w (t0 :: T').length = spanOf (g t0 :: T'.map g) := by
    rw [hw]; simp only [List.take_length, List.map_cons]; exact spanOf_twice
  have hTl : (t0 :: T').length = T'.length + 1 := rfl
  refine PCallK.intro (PInv.func (first := []) (cap := []) (args := [L t0, .int .i64 q]) (cs t0 (by simp))) ?_
  simp
  refine PCallK.intro (PInv.func (first := []) (cap := []) (args := [L t0, .int .i64 q]) (cs t0 (by simp))) ?_
  simp
  intro s5
  refine Lp.intro (σ := Nat) (inv := fun k => k ≤ T'.length + 1) (vw := fun k => [(0, LLv (t0 :: T')), (1, .int .i64 q), (4, .ptr 4 0 (s4+1)), (5, .ptr 5 0 (s5+1)), (6, .int .i64 k)])
    (hp := fun k => [(4, .row [.int .i64 0, .int .i64 0] (s4+1)), (5, .row [.int .i64 (w k).1, .int .i64 (w k).2] (s5+1))]) (ms := fun k => T'.length + 1 - k) 0 (by simp) (by simp) (by simp [w0]) ?_
  intro k hk J hJ
  by_cases hkc : k < T'.length + 1
  · have hkn : k < (t0 :: T').length := hkc
    obtain ⟨t, ht⟩ : ∃ t, (t0 :: T')[k] = t := ⟨_, rfl⟩
    have hwk := w1 k hkn
    rw [ht] at hwk
    have htm : t ∈ t0 :: T' := by rw [← ht]; exact List.getElem_mem hkn
    have hc : (k : Int) < (T'.length : Int) + 1 := by omega
    have hget : (t0 :: T')[k]? = some t := by rw [List.getElem?_eq_getElem hkn, ht]
    simp [hc, hkn, ht, hget]
    refine PCallK.intro (PInv.func (first := []) (cap := []) (args := [L t, .int .i64 q]) (cs t htm)) ?_
    simp
    (repeat first | refine And.intro (by omega) ?_ | refine And.intro (Fits.of (by omega) (by omega)) ?_)
    exact hJ.next (k + 1) (by omega) (by omega) (by simp) (by simp [hwk])
  obtain rfl : k = T'.length + 1 := by omega
  simp
  refine hJ.exit ?_
  simp
  refine RetV.refl ?_
  rw [hTl] at wE
  rw [wE, hg]
  rfl

theorem ref01_Wet_ok (h : Hul) (hs : h.Small) (d l : Int) : APure Pg fn_ref01_Wet [h.v, .int .i64 d, .int .i64 l] (h.wetV d l) := by
  refine ref01_Wet.pure (by simp) ?_
  simp
  intro s
  refine PCallK.intro (PInv.func (ref01_Hull_ok h hs)) ?_
  by_cases hv : ¬ h.Valid
  · simp [hv]
    exact RetV.refl (by simp [Hul.wetV, hv])
  replace hv := Classical.not_not.1 hv
  simp [hv]
  refine PCallK.intro (PInv.func (ref01_At_ok d l)) ?_
  by_cases ha : ¬ Hul.At d l
  · simp [ha]
    exact RetV.refl (by simp [Hul.wetV, hv, ha])
  replace ha := Classical.not_not.1 ha
  simp [ha]
  refine PCallK.intro (PInv.func (ref01_wet_ok h hv d l ha)) ?_
  simp
  exact RetV.refl (by simp [Hul.wetV, hv, ha])

theorem ref01_Rate_ok (h : Hul) (hs : h.Small) (q : Int) : APure Pg fn_ref01_Rate [h.v, .int .i64 q] (h.sumV (h.Seam q) (2 ^ q.toNat)) := by
  refine ref01_Rate.pure (by simp) ?_
  simp
  intro s2 s4
  refine PCallK.intro (PInv.func (first := []) (cap := []) (args := [h.v, .int .i64 q]) (ref01_Seam_ok h hs q)) ?_
  simp
  refine PCallK.intro (PInv.func (first := []) (cap := []) (args := [h.v, .bool (decide (h.Seam q))]) (ref01_told_ok h hs (decide (h.Seam q)))) ?_
  by_cases hv : ¬ h.Valid
  · simp [Hul.toldV, hv]
    exact RetV.refl (by simp [Hul.sumV, hv, SP2])
  replace hv := Classical.not_not.1 hv
  by_cases hq : ¬ h.Seam q
  · simp [Hul.toldV, hv, hq]
    exact RetV.refl (by simp [Hul.sumV, hv, hq, SP2])
  replace hq := Classical.not_not.1 hq
  by_cases hne : h.truths h.every = []
  · simp [Hul.toldV, hv, hq, hne]
    exact RetV.refl (by simp [Hul.sumV, hv, hq, hne, SP2])
  simp [Hul.toldV, hv, hq, hne]
  have hn6 := hv.n6
  unfold Hul.Seam at hq
  obtain ⟨i, rfl⟩ : ∃ i : Nat, q = i := ⟨q.toNat, by omega⟩
  have hp := two_pow_le (show i ≤ 6 by omega)
  have hpp := two_pow_pos i
  have e6 : (2 : Int) ^ 6 = 64 := by decide
  refine PCallK.intro (PInv.func (ref01_power_ok i (by omega))) ?_
  simp
  refine PCallK.intro (PInv.func (ref01_sums_ok (h.truths h.every) (fun t ht => truths_in4 hv ht) hne (by have := truths_len hv h.every; omega) (2 ^ i) ⟨by omega, by omega⟩)) ?_
  simp [SP2]
  exact RetV.refl (by simp [Hul.sumV, hv, show h.Seam i from hq, hne, SP2])

theorem ref01_Total_ok (h : Hul) (hs : h.Small) (q : Int) : APure Pg fn_ref01_Total [h.v, .int .i64 q] (h.sumV (h.Set q) q) := by
  refine ref01_Total.pure (by simp) ?_
  simp
  intro s2 s4
  refine PCallK.intro (PInv.func (first := []) (cap := []) (args := [h.v, .int .i64 q]) (ref01_Set_ok h hs q)) ?_
  simp
  refine PCallK.intro (PInv.func (first := []) (cap := []) (args := [h.v, .bool (decide (h.Set q))]) (ref01_told_ok h hs (decide (h.Set q)))) ?_
  by_cases hv : ¬ h.Valid
  · simp [Hul.toldV, hv]
    exact RetV.refl (by simp [Hul.sumV, hv, SP2])
  replace hv := Classical.not_not.1 hv
  by_cases hq : ¬ h.Set q
  · simp [Hul.toldV, hv, hq]
    exact RetV.refl (by simp [Hul.sumV, hv, hq, SP2])
  replace hq := Classical.not_not.1 hq
  by_cases hne : h.truths h.every = []
  · simp [Hul.toldV, hv, hq, hne]
    exact RetV.refl (by simp [Hul.sumV, hv, hq, hne, SP2])
  simp [Hul.toldV, hv, hq, hne]
  have hn6 := hv.n6
  have hq2 : 0 ≤ q ∧ q < 2 ^ h.n := hq
  have hp := two_pow_le hn6
  have e6 : (2 : Int) ^ 6 = 64 := by decide
  refine PCallK.intro (PInv.func (ref01_sums_ok (h.truths h.every) (fun t ht => truths_in4 hv ht) hne (by have := truths_len hv h.every; omega) q ⟨by omega, by omega⟩)) ?_
  simp [SP2]
  exact RetV.refl (by simp [Hul.sumV, hv, hq, hne, SP2])

theorem ref01_Flow_ok (h : Hul) (hs : h.Small) (d l : Int) : APure Pg fn_ref01_Flow [h.v, .int .i64 d, .int .i64 l] (h.sumV (Hul.At d l) (h.wet d l)) := by
  refine ref01_Flow.pure (by simp) ?_
  simp
  intro s2 s4
  refine PCallK.intro (PInv.func (first := []) (cap := []) (args := [.int .i64 d, .int .i64 l]) (ref01_At_ok d l)) ?_
  simp
  refine PCallK.intro (PInv.func (first := []) (cap := []) (args := [h.v, .bool (decide (Hul.At d l))]) (ref01_told_ok h hs (decide (Hul.At d l)))) ?_
  by_cases hv : ¬ h.Valid
  · simp [Hul.toldV, hv]
    exact RetV.refl (by simp [Hul.sumV, hv, SP2])
  replace hv := Classical.not_not.1 hv
  by_cases hq : ¬ Hul.At d l
  · simp [Hul.toldV, hv, hq]
    exact RetV.refl (by simp [Hul.sumV, hv, hq, SP2])
  replace hq := Classical.not_not.1 hq
  by_cases hne : h.truths h.every = []
  · simp [Hul.toldV, hv, hq, hne]
    exact RetV.refl (by simp [Hul.sumV, hv, hq, hne, SP2])
  simp [Hul.toldV, hv, hq, hne]
  refine PCallK.intro (PInv.func (first := []) (cap := []) (args := [h.v, .int .i64 d, .int .i64 l]) (ref01_wet_ok h hv d l hq)) ?_
  simp
  refine PCallK.intro (PInv.func (ref01_sums_ok (h.truths h.every) (fun t ht => truths_in4 hv ht) hne (by have := truths_len hv h.every; omega) (h.wet d l) (Hul.wet62 hv d l))) ?_
  simp [SP2]
  exact RetV.refl (by simp [Hul.sumV, hv, hq, hne, SP2])
end Go.Cw
end

/- The reference: Leaks, Sets, Fewest. -/
section
set_option maxRecDepth 100000
set_option linter.unusedSimpArgs false
namespace Go.Cw
open Go Go.Proofs

theorem count_any {α : Type} (p : α → Bool) (l : List α) : decide (0 < (l.countP p : Int)) = l.any p := by
  rw [Bool.eq_iff_iff, decide_eq_true_eq, List.any_eq_true]
  rw [← List.countP_pos_iff]
  omega
theorem count_all {α : Type} (p : α → Bool) (l : List α) : decide ((l.countP p : Int) = l.length) = l.all p := by
  rw [Bool.eq_iff_iff, decide_eq_true_eq, List.all_eq_true]
  rw [← List.countP_eq_length]
  omega

namespace Hul
variable {h : Hul}
theorem canL_out (hv : h.Valid) {i : Nat} (hi : h.n ≤ i) : canL (h.truths h.every) i = false := by
  unfold canL
  rw [List.any_eq_false]
  intro t ht
  rw [ofL_none t (by rw [(truths_in hv ht).1]; exact hi)]
  simp
theorem sureL_out (hv : h.Valid) (hne : h.truths h.every ≠ []) {i : Nat} (hi : h.n ≤ i) : sureL (h.truths h.every) i = false := by
  unfold sureL
  rw [List.all_eq_false]
  obtain ⟨t, l, hl⟩ := List.exists_cons_of_ne_nil hne
  have ht : t ∈ h.truths h.every := by rw [hl]; simp
  refine ⟨t, ht, ?_⟩
  rw [ofL_none t (by rw [(truths_in hv ht).1]; exact hi)]
  simp
theorem can_n (hv : h.Valid) : bits (canL (h.truths h.every)) 6 = bits (canL (h.truths h.every)) h.n := bits_more hv.n6 fun i hi _ => canL_out hv hi
theorem sure_n (hv : h.Valid) (hne : h.truths h.every ≠ []) : bits (sureL (h.truths h.every)) 6 = bits (sureL (h.truths h.every)) h.n := bits_more hv.n6 fun i hi _ => sureL_out hv hne hi
end Hul

theorem ref01_Leaks_ok (h : Hul) (hs : h.Small) : APure Pg fn_ref01_Leaks [h.v] h.leaksV := by
  refine ref01_Leaks.pure (by simp) ?_
  simp
  intro s1
  refine PCallK.intro (PInv.func (first := []) (cap := []) (args := [h.v, .bool true]) (ref01_told_ok h hs true)) ?_
  by_cases hv : ¬ h.Valid
  · simp [Hul.toldV, hv]
    exact RetV.refl (by simp [Hul.leaksV, hv])
  replace hv := Classical.not_not.1 hv
  by_cases hne : h.truths h.every = []
  · simp [Hul.toldV, hv, hne]
    exact RetV.refl (by simp [Hul.leaksV, hv, hne])
  simp [Hul.toldV, hv, hne]
  obtain ⟨T, hT⟩ : ∃ T, T = h.truths h.every := ⟨_, rfl⟩
  have hTl := truths_len hv h.every
  have hTi : ∀ t ∈ T, t.length = h.n := by rw [hT]; exact fun t ht => (truths_in hv ht).1
  rw [← hT] at hTl ⊢
  have hn6 := hv.n6
  have hnl : h.seams.length = h.n := rfl
  refine Lp.intro (σ := Nat) (inv := fun k => k ≤ h.n) (vw := fun k => [(1, .ptr 1 0 (s1+1)), (5, LLv T), (7, .int .i64 (bits (canL T) k)), (8, .int .i64 (bits (sureL T) k)), (9, .int .i64 k)])
    (hp := fun _ => [(1, .row h.cells (s1+1))]) (ms := fun k => h.n - k) 0 (by simp) (by simp [bits]) (by simp [Hul.cells]) ?_
  intro k hk J hJ
  by_cases hkc : k < h.n
  · have hkn : k < h.seams.length := hkc
    simp [hkn, Hul.cells]
    refine Lp.intro (σ := Nat) (inv := fun i => i ≤ T.length) (vw := fun i => [(1, .ptr 1 0 (s1+1)), (5, LLv T), (7, .int .i64 (bits (canL T) k)), (8, .int .i64 (bits (sureL T) k)), (9, .int .i64 k), (10, .int .i64 ((T.take i).countP fun t => decide (0 < ofL t k))), (11, .int .i64 i)])
      (hp := fun _ => [(1, .row h.cells (s1+1))]) (ms := fun i => T.length - i) 0 (by simp) (by simp) (by simp [Hul.cells]) ?_
    intro i hi J2 hJ2
    by_cases hic : i < T.length
    · obtain ⟨t, ht⟩ : ∃ t, T[i] = t := ⟨_, rfl⟩
      have hget : T[i]? = some t := by rw [List.getElem?_eq_getElem hic, ht]
      have htl : t.length = h.n := hTi t (by rw [← ht]; exact List.getElem_mem hic)
      have hkt : k < t.length := by omega
      have hst : (T.take (i + 1)).countP (fun t => decide (0 < ofL t k)) = (T.take i).countP (fun t => decide (0 < ofL t k)) + if 0 < ofL t k then 1 else 0 := by
        rw [← List.take_append_getElem hic, ht, List.countP_append]
        simp [List.countP_cons]
      have hcb : (T.take i).countP (fun t => decide (0 < ofL t k)) ≤ 15625 := by have := List.countP_le_length (p := fun t => decide (0 < ofL t k)) (l := T.take i); rw [List.length_take] at this; omega
      have hok : t[k] = ofL t k := ofL_at t hkt
      by_cases hp : 0 < ofL t k
      · rw [if_pos hp] at hst
        simp [hic, hget, hkt, hok, hp, ht]
        (repeat first | refine And.intro (by omega) ?_ | refine And.intro (Fits.of (by omega) (by omega)) ?_)
        exact hJ2.next (i + 1) (by omega) (by omega) (by simp [hst]) (by simp [Hul.cells])
      · rw [if_neg hp] at hst
        simp [hic, hget, hkt, hok, hp, ht]
        (repeat first | refine And.intro (by omega) ?_ | refine And.intro (Fits.of (by omega) (by omega)) ?_)
        exact hJ2.next (i + 1) (by omega) (by omega) (by simp [hst]) (by simp [Hul.cells])
    obtain rfl : i = T.length := by omega
    simp
    refine hJ2.exit ?_
    have hcl := List.countP_le_length (p := fun t => decide (0 < ofL t k)) (l := T)
    have h1 := count_any (fun t => decide (0 < ofL t k)) T
    have h2 := count_all (fun t => decide (0 < ofL t k)) T
    have hb1 := bits_lt (canL T) k
    have hb2 := bits_lt (sureL T) k
    have hp := two_pow_le (show k ≤ 6 by omega)
    have hpp := two_pow_pos k
    have e6 : (2 : Int) ^ 6 = 64 := by decide
    obtain ⟨c, hc⟩ : ∃ c, c = T.countP fun t => decide (0 < ofL t k) := ⟨_, rfl⟩
    rw [← hc] at h1 h2 hcl
    have f1 : bits (canL T) (k + 1) = bits (canL T) k + if 0 < (c : Int) then 2 ^ k else 0 := by
      simp only [bits]
      rw [show canL T k = decide (0 < (c : Int)) from h1.symm]
      by_cases h0 : 0 < (c : Int) <;> simp [h0]
    have f2 : bits (sureL T) (k + 1) = bits (sureL T) k + if (c : Int) = T.length then 2 ^ k else 0 := by
      simp only [bits]
      rw [show sureL T k = decide ((c : Int) = T.length) from h2.symm]
      by_cases h0 : (c : Int) = T.length <;> simp [h0]
    simp [← hc]
    have hT0 : 0 < T.length := List.length_pos_iff.2 (by rw [hT]; exact hne)
    by_cases h3 : 0 < c
    · rw [if_pos (by omega)] at f1
      by_cases h4 : c = T.length
      · rw [if_pos (by omega)] at f2
        simp [h4, hT0]
        refine PCallK.intro (PInv.func (ref01_power_ok k (by omega))) ?_
        simp
        refine ⟨by unfold Fits; omega, ?_⟩
        refine PCallK.intro (PInv.func (ref01_power_ok k (by omega))) ?_
        simp
        refine ⟨by unfold Fits; omega, by unfold Fits; omega, ?_⟩
        exact hJ.next (k + 1) (by omega) (by omega) (by simp [f1, f2]) (by simp [Hul.cells])
      · rw [if_neg (by omega)] at f2
        simp [h3, h4]
        refine PCallK.intro (PInv.func (ref01_power_ok k (by omega))) ?_
        simp [h4]
        refine ⟨by unfold Fits; omega, by unfold Fits; omega, ?_⟩
        exact hJ.next (k + 1) (by omega) (by omega) (by simp [f1, f2]) (by simp [Hul.cells])
    · have h4 : ¬ c = T.length := by omega
      rw [if_neg (by omega)] at f1 f2
      simp [h3, h4]
      refine ⟨by unfold Fits; omega, ?_⟩
      exact hJ.next (k + 1) (by omega) (by omega) (by simp [f1, f2]) (by simp [Hul.cells])
  obtain rfl : k = h.n := by omega
  simp [Hul.cells, hnl]
  refine hJ.exit ?_
  simp
  refine RetV.refl ?_
  have c1 := Hul.can_n hv
  have c2 := Hul.sure_n hv hne
  simp [Hul.leaksV, hv, hne, c1, c2, hT]

/-- The sets among the first so many numbers. -/
def setsTo (T : List (List Int)) : Nat → List Int
  | 0 => []
  | k + 1 => if T.any fun t => decide (leaksT t = k) then setsTo T k ++ [(k : Int)] else setsTo T k
theorem setsTo_len (T : List (List Int)) (k : Nat) : (setsTo T k).length ≤ k := by
  induction k with
  | zero => simp [setsTo]
  | succ k ih =>
    unfold setsTo
    split
    · rw [List.length_append]; simp; omega
    · omega
theorem setsTo_mem {T : List (List Int)} {k : Nat} {s : Int} : s ∈ setsTo T k ↔ (0 ≤ s ∧ s < k) ∧ ∃ t ∈ T, leaksT t = s := by
  induction k with
  | zero => simp [setsTo]; omega
  | succ k ih =>
    unfold setsTo
    split
    · rename_i hc
      obtain ⟨t, ht, h1⟩ := List.any_eq_true.1 hc
      rw [List.mem_append, ih, List.mem_singleton]
      constructor
      · rintro (⟨h2, h3⟩ | rfl)
        · exact ⟨by omega, h3⟩
        · exact ⟨by omega, t, ht, by simpa using h1⟩
      · rintro ⟨h2, h3⟩
        by_cases hk : s = k
        · exact .inr hk
        · exact .inl ⟨by omega, h3⟩
    · rename_i hc
      rw [ih]
      constructor
      · rintro ⟨h2, h3⟩; exact ⟨by omega, h3⟩
      · rintro ⟨h2, t, ht, h3⟩
        refine ⟨⟨h2.1, ?_⟩, t, ht, h3⟩
        by_cases hk : s = k
        · exact absurd (List.any_eq_true.2 ⟨t, ht, by simpa [hk] using h3⟩) hc
        · omega
theorem setsTo_lt (T : List (List Int)) (k : Nat) : (setsTo T k).Pairwise (· < ·) := by
  induction k with
  | zero => simp [setsTo]
  | succ k ih =>
    unfold setsTo
    split
    · rw [List.pairwise_append]
      refine ⟨ih, by simp, fun a ha b hb => ?_⟩
      obtain rfl : b = k := by simpa using hb
      have := (setsTo_mem.1 ha).1
      omega
    · exact ih
theorem sorted_ext : ∀ {l m : List Int}, l.Pairwise (· < ·) → m.Pairwise (· < ·) → (∀ x, x ∈ l ↔ x ∈ m) → l = m
  | [], [], _, _, _ => rfl
  | [], b :: m, _, _, h => absurd ((h b).2 (by simp)) (by simp)
  | a :: l, [], _, _, h => absurd ((h a).1 (by simp)) (by simp)
  | a :: l, b :: m, hl, hm, h => by
    have hl' := List.pairwise_cons.1 hl
    have hm' := List.pairwise_cons.1 hm
    have hab : a = b := by
      have h1 := (h a).1 (by simp)
      have h2 := (h b).2 (by simp)
      rcases List.mem_cons.1 h1 with h1 | h1
      · exact h1
      · rcases List.mem_cons.1 h2 with h2 | h2
        · exact h2.symm
        · have := hm'.1 a h1; have := hl'.1 b h2; omega
    subst hab
    congr 1
    refine sorted_ext hl'.2 hm'.2 fun x => ?_
    have hx := h x
    constructor
    · intro hxl
      rcases List.mem_cons.1 (hx.1 (List.mem_cons_of_mem _ hxl)) with h1 | h1
      · have := hl'.1 x hxl; omega
      · exact h1
    · intro hxm
      rcases List.mem_cons.1 (hx.2 (List.mem_cons_of_mem _ hxm)) with h1 | h1
      · have := hm'.1 x hxm; omega
      · exact h1
end Go.Cw
end

/- The reference: Sets, Fewest. -/
section
set_option maxRecDepth 100000
set_option linter.unusedSimpArgs false
namespace Go.Cw
open Go Go.Proofs

theorem setsTo_all {h : Hul} (hv : h.Valid) : setsTo (h.truths h.every) (2 ^ h.n) = h.setsL := by
  refine sorted_ext (setsTo_lt _ _) ?_ fun x => ?_
  · rw [List.pairwise_iff_getElem]
    exact fun i j hi hj hij => Hul.setsL_lt hj hij
  · rw [setsTo_mem, Hul.setsL_mem]
    constructor
    · rintro ⟨_, h2⟩; exact h2
    · rintro ⟨t, ht, rfl⟩
      have hl := (truths_in hv ht).1
      have := bits_lt (fun i => decide (0 < ofL t i)) t.length
      rw [hl] at this
      refine ⟨⟨?_, ?_⟩, t, ht, rfl⟩
      · unfold leaksT; rw [hl]; exact this.1
      · unfold leaksT; rw [hl]; simpa using this.2

theorem ref01_Sets_ok (h : Hul) (hs : h.Small) : APure Pg fn_ref01_Sets [h.v] h.setsV := by
  have nl : ∀ e : Int, ALe (.tup [.nils, .int .i64 e]) (.tup [L [], .int .i64 e]) := fun e => ALe.tup ⟨ALe.nils_vl, ALe.refl _, trivial⟩
  refine ref01_Sets.pure (by simp) ?_
  simp
  intro s1
  refine PCallK.intro (PInv.func (first := []) (cap := []) (args := [h.v, .bool true]) (ref01_told_ok h hs true)) ?_
  by_cases hv : ¬ h.Valid
  · simp [Hul.toldV, hv]
    exact RetV.ale (nl 1) (RetV.refl (by simp [Hul.setsV, hv]))
  replace hv := Classical.not_not.1 hv
  by_cases hne : h.truths h.every = []
  · simp [Hul.toldV, hv, hne]
    exact RetV.ale (nl 10) (RetV.refl (by simp [Hul.setsV, hv, hne]))
  simp [Hul.toldV, hv, hne]
  obtain ⟨T, hT⟩ : ∃ T, T = h.truths h.every := ⟨_, rfl⟩
  have hTl := truths_len hv h.every
  have hTi : ∀ t ∈ T, t.length = h.n := by rw [hT]; exact fun t ht => (truths_in hv ht).1
  have hall := setsTo_all hv
  rw [← hT] at hTl hall ⊢
  have hn6 := hv.n6
  have hnl : h.seams.length = h.n := rfl
  have hp := two_pow_le hn6
  have e6 : (2 : Int) ^ 6 = 64 := by decide
  have hpn : ((2 ^ h.n : Nat) : Int) = (2 : Int) ^ h.n := by simp
  refine Lp.intro' (σ := Nat × Nat) (inv := fun x => x.1 ≤ 2 ^ h.n) (vw := fun x => [(1, .ptr 1 0 (s1+1)), (4, LLv T), (6, gS 1 46 (setsTo T x.1).length x.2), (7, .int .i64 x.1)])
    (hp := fun x => [(1, .row h.cells (s1+1)), (46, gO (setsTo T x.1).length (ints (setsTo T x.1)) x.2)]) (ms := fun x => 2 ^ h.n - x.1) (0, 0) (by simp)
    (Sl.wk 6 .es (by simpa using ALe.nils_es) (Sl.refl ⟨rfl, by simp [setsTo], by simp [Hul.cells, setsTo]⟩)) ?_
  rintro ⟨k, st⟩ hk J hJ
  simp only at hk
  by_cases hkc : k < 2 ^ h.n
  · have hkc' : (k : Int) < 2 ^ h.n := by omega
    simp [Hul.cells, hnl]
    refine PCallK.intro (PInv.func (ref01_power_ok h.n (by omega))) ?_
    simp [hkc']
    refine Lp.intro (σ := Nat) (inv := fun i => i ≤ T.length) (vw := fun i => [(1, .ptr 1 0 (s1+1)), (4, LLv T), (6, gS 1 46 (setsTo T k).length st), (7, .int .i64 k), (8, .bool ((T.take i).any fun t => decide (leaksT t = k))), (9, .int .i64 i)])
      (hp := fun _ => [(1, .row h.cells (s1+1)), (46, gO (setsTo T k).length (ints (setsTo T k)) st)]) (ms := fun i => T.length - i) 0 (by simp) (by simp) (by simp [Hul.cells]) ?_
    intro i hi J2 hJ2
    by_cases hic : i < T.length
    · obtain ⟨t, ht⟩ : ∃ t, T[i] = t := ⟨_, rfl⟩
      have hget : T[i]? = some t := by rw [List.getElem?_eq_getElem hic, ht]
      have htl : t.length = h.n := hTi t (by rw [← ht]; exact List.getElem_mem hic)
      obtain ⟨b, hb⟩ : ∃ b, b = (T.take i).any fun t => decide (leaksT t = k) := ⟨_, rfl⟩
      have hst : ((T.take (i + 1)).any fun t => decide (leaksT t = k)) = (b || decide (leaksT t = k)) := by
        rw [hb, ← List.take_append_getElem hic, ht, List.any_append]; simp
      cases b with
      | true =>
        simp [hic, hget, ht, ← hb]
        (repeat first | refine And.intro (by omega) ?_ | refine And.intro (Fits.of (by omega) (by omega)) ?_)
        exact hJ2.next (i + 1) (by omega) (by omega) (by simp [hst]) (by simp)
      | false =>
        simp [hic, hget, ht, ← hb]
        refine PCallK.intro (PInv.func (first := []) (cap := []) (args := [L t]) (ref01_LeaksOf_ok t (by omega))) ?_
        simp
        (repeat first | refine And.intro (by omega) ?_ | refine And.intro (Fits.of (by omega) (by omega)) ?_)
        exact hJ2.next (i + 1) (by omega) (by omega) (by simp [hst]) (by simp)
    obtain rfl : i = T.length := by omega
    simp
    refine hJ2.exit ?_
    have hsl := setsTo_len T k
    obtain ⟨b, hb⟩ : ∃ b, b = T.any fun t => decide (leaksT t = k) := ⟨_, rfl⟩
    cases b with
    | true =>
      have hn1 : setsTo T (k + 1) = setsTo T k ++ [(k : Int)] := by rw [setsTo, if_pos hb.symm]
      simp [← hb]
      intro s45 s46
      refine xApN_gS (cells := ints (setsTo T k)) (by simp) (by simp) (by omega) (by omega) ?_
      have hn2 : ints (setsTo T k) ++ [AVal.int .i64 k] = ints (setsTo T (k + 1)) := by rw [hn1]; simp
      have hn3 : (setsTo T (k + 1)).length = (setsTo T k).length + 1 := by rw [hn1]; simp
      rw [hn2]
      simp
      (repeat first | refine And.intro (by omega) ?_ | refine And.intro (Fits.of (by omega) (by omega)) ?_)
      exact hJ.next (k + 1, s46 + 1) (by simp; omega) (by simp; omega) (by simp [hn3]) (by simp [hn3, Hul.cells])
    | false =>
      have hn1 : setsTo T (k + 1) = setsTo T k := by rw [setsTo, if_neg (by rw [← hb]; simp)]
      simp [← hb]
      (repeat first | refine And.intro (by omega) ?_ | refine And.intro (Fits.of (by omega) (by omega)) ?_)
      exact hJ.next (k + 1, st) (by simp; omega) (by simp; omega) (by simp [hn1]) (by simp [hn1, Hul.cells])
  obtain rfl : k = 2 ^ h.n := by omega
  have hcE : ¬ ((2 ^ h.n : Nat) : Int) < 2 ^ h.n := by omega
  simp [Hul.cells, hnl]
  refine PCallK.intro (PInv.func (ref01_power_ok h.n (by omega))) ?_
  simp
  refine hJ.exit ?_
  simp
  rw [hall]
  refine RetV.le (VLe.tup_gS (cells := ints h.setsL) (by simp) (by simp)) (RetV.refl ?_)
  simp [Hul.setsV, hv, ← hT, show T ≠ [] by rw [hT]; exact hne]
  rfl

theorem ref01_Fewest_ok (h : Hul) (hs : h.Small) : APure Pg fn_ref01_Fewest [h.v] h.fewV := by
  refine ref01_Fewest.pure (by simp) ?_
  simp
  intro s1
  refine PCallK.intro (PInv.func (first := []) (cap := []) (args := [h.v]) (ref01_Sets_ok h hs)) ?_
  by_cases hv : ¬ h.Valid
  · simp [Hul.setsV, hv]
    exact RetV.refl (by simp [Hul.fewV, hv])
  replace hv := Classical.not_not.1 hv
  by_cases hne : h.truths h.every = []
  · simp [Hul.setsV, hv, hne]
    exact RetV.refl (by simp [Hul.fewV, hv, hne])
  obtain ⟨S, hS⟩ : ∃ S, S = h.setsL := ⟨_, rfl⟩
  have hS0 : S ≠ [] := by rw [hS]; exact Hul.setsL_ne hne
  have hSp : 0 < S.length := List.length_pos_iff.2 hS0
  have hSl := Hul.setsL_len hv
  have hSb : ∀ x ∈ S, 0 ≤ x ∧ x < 64 := by rw [hS]; exact fun x hx => Hul.setsL_in hv hx
  rw [show h.setsV = .tup [L h.setsL, .int .i64 0] by simp [Hul.setsV, hv, hne]]
  rw [← hS] at hSl ⊢
  have e60 : (64 : Int) < 2 ^ 60 := by decide
  obtain ⟨x0, hx0⟩ : ∃ x0, S[0] = x0 := ⟨_, rfl⟩
  have hg0 : S[0]? = some x0 := by rw [List.getElem?_eq_getElem hSp, hx0]
  have hh0 : S.head? = some x0 := by rw [List.head?_eq_getElem?, hg0]
  obtain ⟨be, hbe⟩ : ∃ be : Nat → Int, be = fun k => if k = 0 then x0 else (bestI sizeS (S.take k)).1 := ⟨_, rfl⟩
  have be0 : be 0 = x0 := by rw [hbe]; rfl
  have bem : ∀ k, be k ∈ S := by
    intro k
    rw [hbe]
    by_cases hk : k = 0
    · simp only [if_pos hk]; rw [← hx0]; exact List.getElem_mem hSp
    · simp only [if_neg hk]
      have : S.take k ≠ [] := by rw [Ne, List.take_eq_nil_iff]; intro e; rcases e with e | e; exact hk e; exact hS0 e
      exact List.mem_of_mem_take (bestI_spec sizeS this).1
  have be1 : ∀ k, (hk : k < S.length) → be (k + 1) = if sizeS S[k] < sizeS (be k) then S[k] else be k := by
    intro k hk
    rw [hbe]
    simp only [Nat.succ_ne_zero, if_false]
    by_cases hk0 : k = 0
    · subst hk0
      have : S.take 1 = [x0] := by rw [← List.take_append_getElem hSp, hx0]; rfl
      simp only [if_true, hx0]
      rw [this]
      simp [bestI]
    · simp only [if_neg hk0]
      have hne0 : S.take k ≠ [] := by rw [Ne, List.take_eq_nil_iff]; intro e; rcases e with e | e; exact hk0 e; exact hS0 e
      rw [← List.take_append_getElem hk, bestI_push sizeS _ _ hne0, (bestI_spec sizeS hne0).2.1]
      split <;> rfl
  simp [hh0, hSp]
  refine Lp.intro (σ := Nat) (inv := fun k => k ≤ S.length) (vw := fun k => [(5, L S), (7, .int .i64 (be k)), (8, .int .i64 k)])
    (hp := fun _ => []) (ms := fun k => S.length - k) 0 (by simp) (by simp [be0]) (by simp) ?_
  intro k hk J hJ
  have hbb := hSb _ (bem k)
  by_cases hkc : k < S.length
  · obtain ⟨x, hx⟩ : ∃ x, S[k] = x := ⟨_, rfl⟩
    have hxb := hSb x (by rw [← hx]; exact List.getElem_mem hkc)
    have hb1 := be1 k hkc
    rw [hx] at hb1
    simp [hkc, hx]
    refine PCallK.intro (PInv.func (ref01_Size_ok x (by omega))) ?_
    simp
    refine PCallK.intro (PInv.func (ref01_Size_ok (be k) (by omega))) ?_
    by_cases hlt : sizeS x < sizeS (be k)
    · rw [if_pos hlt] at hb1
      simp [hlt, hkc, hx]
      (repeat first | refine And.intro (by omega) ?_ | refine And.intro (Fits.of (by omega) (by omega)) ?_)
      exact hJ.next (k + 1) (by omega) (by omega) (by simp [hb1]) (by simp)
    · rw [if_neg hlt] at hb1
      simp [hlt]
      (repeat first | refine And.intro (by omega) ?_ | refine And.intro (Fits.of (by omega) (by omega)) ?_)
      exact hJ.next (k + 1) (by omega) (by omega) (by simp [hb1]) (by simp)
  obtain rfl : k = S.length := by omega
  simp
  refine hJ.exit ?_
  simp
  refine PCallK.intro (PInv.func (ref01_Size_ok (be S.length) (by omega))) ?_
  simp
  refine RetV.refl ?_
  have hbE : be S.length = (bestI sizeS S).1 := by rw [hbe]; simp only [List.take_length]; rw [if_neg (by omega)]
  have hsp := (bestI_spec sizeS hS0).2.1
  rw [hbE, ← hsp]
  simp [Hul.fewV, hv, hne, hS]
end Go.Cw
end

/- The reference: left, Next. -/
section
set_option maxRecDepth 100000
set_option linter.unusedSimpArgs false
namespace Go.Cw
open Go Go.Proofs

/-- The greatest of the counts of the first so many numbers. -/
def cntTo (l : List Int) : Nat → Int
  | 0 => 0
  | k + 1 => max (cntTo l k) (l.count (k : Int))
theorem cntTo_nonneg (l : List Int) (k : Nat) : 0 ≤ cntTo l k := by
  induction k with
  | zero => exact Int.le_refl _
  | succ k ih => unfold cntTo; omega
theorem cntTo_le (l : List Int) (k : Nat) : cntTo l k ≤ l.length := by
  induction k with
  | zero => unfold cntTo; omega
  | succ k ih =>
    unfold cntTo
    have := List.count_le_length (a := (k : Int)) (l := l)
    omega
theorem cntTo_ge {l : List Int} {k : Nat} {n : Int} (hn : 0 ≤ n ∧ n < k) : (l.count n : Int) ≤ cntTo l k := by
  induction k with
  | zero => omega
  | succ k ih =>
    unfold cntTo
    by_cases h : n = k
    · subst h; omega
    · have := ih (by omega); omega
theorem cntTo_mem (l : List Int) (k : Nat) : cntTo l k = 0 ∨ ∃ n ∈ l, cntTo l k = l.count n := by
  induction k with
  | zero => exact .inl rfl
  | succ k ih =>
    unfold cntTo
    by_cases h : cntTo l k < (l.count (k : Int) : Int)
    · right
      refine ⟨k, List.count_pos_iff.1 (by have := cntTo_nonneg l k; omega), by omega⟩
    · rw [show max (cntTo l k) (l.count (k : Int) : Int) = cntTo l k by omega]; exact ih
theorem cntTo_most {l : List Int} {k : Nat} (hl : ∀ x ∈ l, 0 ≤ x ∧ x < k) : cntTo l k = mostL l := by
  unfold mostL
  have h1 : cntTo l k ≤ maxL (l.map fun n => (l.count n : Int)) := by
    rcases cntTo_mem l k with h | ⟨n, hn, h⟩
    · rw [h]; exact maxL_nonneg _
    · rw [h]; exact maxL_le _ (List.mem_map.2 ⟨n, hn, rfl⟩)
  have h2 : maxL (l.map fun n => (l.count n : Int)) ≤ cntTo l k := by
    rcases maxL_mem (l.map fun n => (l.count n : Int)) with h | h
    · rw [h]; exact cntTo_nonneg _ _
    · obtain ⟨n, hn, e⟩ := List.mem_map.1 h
      rw [← e]; exact cntTo_ge (hl n hn)
  omega

theorem ref01_left_ok (T : List (List Int)) (hT : ∀ t ∈ T, In4 t) (hl : T.length ≤ 100000) (q : Int) (hq : 0 ≤ q ∧ q < 2 ^ 62) (hb : ∀ t ∈ T, 0 ≤ Hul.sumT t q ∧ Hul.sumT t q ≤ 24) : APure Pg fn_ref01_left [LLv T, .int .i64 q] (.int .i64 (worstT T q)) := by
  refine ref01_left.pure (by simp) ?_
  obtain ⟨l, hll⟩ : ∃ l, l = T.map (Hul.sumT · q) := ⟨_, rfl⟩
  have hlen : l.length = T.length := by rw [hll]; simp
  simp
  refine Lp.intro (σ := Nat) (inv := fun k => k ≤ 25) (vw := fun k => [(0, LLv T), (1, .int .i64 q), (5, .int .i64 (cntTo l k)), (6, .int .i64 k)])
    (hp := fun _ => []) (ms := fun k => 25 - k) 0 (by simp) (by simp [cntTo]) (by simp) ?_
  intro k hk J hJ
  by_cases hkc : k ≤ 24
  · have hc : (k : Int) ≤ 24 := by omega
    simp [hc]
    refine Lp.intro (σ := Nat) (inv := fun i => i ≤ T.length) (vw := fun i => [(0, LLv T), (1, .int .i64 q), (5, .int .i64 (cntTo l k)), (6, .int .i64 k), (7, .int .i64 ((l.take i).count (k : Int))), (8, .int .i64 i)])
      (hp := fun _ => []) (ms := fun i => T.length - i) 0 (by simp) (by simp) (by simp) ?_
    intro i hi J2 hJ2
    by_cases hic : i < T.length
    · obtain ⟨t, ht⟩ : ∃ t, T[i] = t := ⟨_, rfl⟩
      have hget : T[i]? = some t := by rw [List.getElem?_eq_getElem hic, ht]
      have htm : t ∈ T := by rw [← ht]; exact List.getElem_mem hic
      have hil : i < l.length := by omega
      have hli : l[i] = Hul.sumT t q := by subst hll; simp [ht]
      have hst : (l.take (i + 1)).count (k : Int) = (l.take i).count (k : Int) + if Hul.sumT t q = k then 1 else 0 := by
        rw [← List.take_append_getElem hil, hli, List.count_append]
        simp [List.count_cons]
      have hcb : (l.take i).count (k : Int) ≤ 100000 := by have := List.count_le_length (a := (k : Int)) (l := l.take i); rw [List.length_take] at this; omega
      simp [hic, hget, ht]
      refine PCallK.intro (PInv.func (first := []) (cap := []) (args := [L t, .int .i64 q]) (ref01_Sum_ok t (hT t htm) q hq)) ?_
      by_cases he : Hul.sumT t q = k
      · rw [if_pos he] at hst
        simp [he]
        (repeat first | refine And.intro (by omega) ?_ | refine And.intro (Fits.of (by omega) (by omega)) ?_)
        exact hJ2.next (i + 1) (by omega) (by omega) (by simp [hst]) (by simp)
      · rw [if_neg he] at hst
        simp [he]
        (repeat first | refine And.intro (by omega) ?_ | refine And.intro (Fits.of (by omega) (by omega)) ?_)
        exact hJ2.next (i + 1) (by omega) (by omega) (by simp [hst]) (by simp)
    obtain rfl : i = T.length := by omega
    simp
    refine hJ2.exit ?_
    have hE : l.take T.length = l := List.take_of_length_le (by omega)
    simp [hE]
    (repeat first | refine And.intro (by omega) ?_ | refine And.intro (Fits.of (by omega) (by omega)) ?_)
    exact hJ.next (k + 1) (by omega) (by omega) (by simp [cntTo]) (by simp)
  obtain rfl : k = 25 := by omega
  simp
  refine hJ.exit ?_
  simp
  refine RetV.refl ?_
  rw [cntTo_most (l := l) (k := 25) (by rw [hll]; intro x hx; obtain ⟨t, ht, rfl⟩ := List.mem_map.1 hx; have := hb t ht; omega), hll]
  rfl
end Go.Cw
end

/- The reference: Next. -/
section
set_option maxRecDepth 100000
set_option linter.unusedSimpArgs false
namespace Go.Cw
open Go Go.Proofs

theorem worst_pos {T : List (List Int)} (hT : T ≠ []) (w : Int) : 1 ≤ worstT T w := by
  obtain ⟨t, l, rfl⟩ := List.exists_cons_of_ne_nil hT
  unfold worstT mostL
  have h1 : (((t :: l).map (Hul.sumT · w)).count (Hul.sumT t w) : Int) ≤ maxL (((t :: l).map (Hul.sumT · w)).map fun n => (((t :: l).map (Hul.sumT · w)).count n : Int)) :=
    maxL_le _ (List.mem_map.2 ⟨_, by simp, rfl⟩)
  have h2 : 0 < ((t :: l).map (Hul.sumT · w)).count (Hul.sumT t w) := List.count_pos_iff.2 (by simp)
  omega
theorem worst_le (T : List (List Int)) (w : Int) : worstT T w ≤ T.length := by
  unfold worstT mostL
  rcases maxL_mem ((T.map (Hul.sumT · w)).map fun n => ((T.map (Hul.sumT · w)).count n : Int)) with h | h
  · rw [h]; omega
  · obtain ⟨n, _, e⟩ := List.mem_map.1 h
    rw [← e]
    have := List.count_le_length (a := n) (l := T.map (Hul.sumT · w))
    rw [List.length_map] at this
    omega
theorem sumT_24 {h : Hul} (hv : h.Valid) {t : List Int} (ht : t ∈ h.truths h.every) (q : Int) : 0 ≤ Hul.sumT t q ∧ Hul.sumT t q ≤ 24 := by
  obtain ⟨h1, h2⟩ := truths_in hv ht
  have hn6 := hv.n6
  unfold Hul.sumT
  have h3 : ∀ j, j < t.length → 0 ≤ (if inS q j then ofL t j else 0) ∧ (if inS q j then ofL t j else 0) ≤ 4 := fun j _ => by have := h2 j; split <;> omega
  have h4 := sumN_nonneg fun j hj => (h3 j hj).1
  have h5 := sumN_le fun j hj => (h3 j hj).2
  constructor
  · exact h4
  · omega

/-- The best of the first so many places. -/
noncomputable def Hul.bst (h : Hul) (T : List (List Int)) (i : Nat) : (Int × Int) × Int := if i = 0 then ((0, 0), (T.length : Int) + 1) else bestP (fun p => worstT T (h.wet p.1 p.2)) (placesL i)
theorem Hul.bst_step (h : Hul) (T : List (List Int)) (i : Nat) : h.bst T (i + 1) = if worstT T (h.wet (placeAt i).1 (placeAt i).2) < (h.bst T i).2 then (placeAt i, worstT T (h.wet (placeAt i).1 (placeAt i).2)) else h.bst T i := by
  unfold Hul.bst
  rw [if_neg (by omega)]
  by_cases hi : i = 0
  · subst hi
    have := worst_le T (h.wet (placeAt 0).1 (placeAt 0).2)
    rw [if_pos rfl, if_pos (by simp only []; omega)]
    rfl
  · rw [if_neg hi, ← placesL_succ, bestP_push _ _ _ (by intro e; have := congrArg List.length e; simp at this; exact hi this)]

theorem ref01_Next_ok (h : Hul) (hs : h.Small) : APure Pg fn_ref01_Next [h.v] h.nextV := by
  refine ref01_Next.pure (by simp) ?_
  simp
  intro s1
  refine PCallK.intro (PInv.func (first := []) (cap := []) (args := [h.v, .bool true]) (ref01_told_ok h hs true)) ?_
  by_cases hv : ¬ h.Valid
  · simp [Hul.toldV, hv]
    exact RetV.refl (by simp [Hul.nextV, hv])
  replace hv := Classical.not_not.1 hv
  by_cases hne : h.truths h.every = []
  · simp [Hul.toldV, hv, hne]
    exact RetV.refl (by simp [Hul.nextV, hv, hne])
  simp [Hul.toldV, hv, hne]
  obtain ⟨T, hT⟩ : ∃ T, T = h.truths h.every := ⟨_, rfl⟩
  have hTl := truths_len hv h.every
  have hTne : T ≠ [] := by rw [hT]; exact hne
  have hT4 : ∀ t ∈ T, In4 t := by rw [hT]; exact fun t ht => truths_in4 hv ht
  have hT24 : ∀ (q : Int), ∀ t ∈ T, 0 ≤ Hul.sumT t q ∧ Hul.sumT t q ≤ 24 := by rw [hT]; exact fun q t ht => sumT_24 hv ht q
  rw [← hT] at hTl ⊢
  have hn6 := hv.n6
  have hnl : h.seams.length = h.n := rfl
  have hp := two_pow_le hn6
  have e6 : (2 : Int) ^ 6 = 64 := by decide
  have hpn : ((2 ^ h.n : Nat) : Int) = (2 : Int) ^ h.n := by simp
  have hpp := two_pow_pos h.n
  refine ⟨by unfold Fits; omega, ?_⟩
  refine PCallK.intro (PInv.func (ref01_power_ok h.n (by omega))) ?_
  obtain ⟨N, hN⟩ : ∃ N : Nat, (2 : Int) ^ h.n = N := ⟨2 ^ h.n, by simp⟩
  rw [hN] at hp hpp ⊢
  simp
  intro s30
  refine ⟨by omega, ?_⟩
  have hrep : List.replicate N (AVal.int .i64 0) = ints (List.replicate N 0) := by simp [ints]
  rw [hrep]
  have hge : ∀ (K : List Int), (∀ (u : Nat) (hu : u < K.length), K[u] = 0 ∨ K[u] = worstT T u) → ∀ (u : Nat) (hu : u < K.length), ∀ (u' : Nat) (hu' : u' < (K.set u (worstT T u)).length), (K.set u (worstT T u))[u'] = 0 ∨ (K.set u (worstT T u))[u'] = worstT T u' := by
    intro K hK u hu u' hu'
    by_cases e : u = u'
    · subst e; right; simp
    · rw [List.getElem_set_ne e]; exact hK u' (by simpa using hu')
  refine Lp.intro (σ := List Int × Nat) (inv := fun x => x.1.length = N ∧ (∀ (u : Nat) (hu : u < x.1.length), x.1[u] = 0 ∨ x.1[u] = worstT T u) ∧ x.2 ≤ 13)
    (vw := fun x => [(1, .ptr 1 0 (s1+1)), (6, LLv T), (8, .int .i64 (h.bst T (7 * x.2)).1.1), (9, .int .i64 (h.bst T (7 * x.2)).1.2), (10, .int .i64 (h.bst T (7 * x.2)).2), (11, .sl 30 0 (s30+1) N (.ex N)), (12, .int .i64 x.2)])
    (hp := fun x => [(1, .row h.cells (s1+1)), (30, .row (ints x.1) (s30+1))]) (ms := fun x => 13 - x.2) (List.replicate N 0, 0) ⟨by simp, fun u hu => .inl (by simp), by simp⟩ (by simp [Hul.bst]) (by simp [Hul.cells]) ?_
  rintro ⟨K, d⟩ ⟨hKl, hK, hd⟩ J hJ
  simp only at hKl hK hd
  by_cases hdc : d ≤ 12
  · have hdc' : (d : Int) ≤ 12 := by omega
    simp [hdc']
    refine Lp.intro (σ := List Int × Nat) (inv := fun x => x.1.length = N ∧ (∀ (u : Nat) (hu : u < x.1.length), x.1[u] = 0 ∨ x.1[u] = worstT T u) ∧ x.2 ≤ 7)
      (vw := fun x => [(1, .ptr 1 0 (s1+1)), (6, LLv T), (8, .int .i64 (h.bst T (7 * d + x.2)).1.1), (9, .int .i64 (h.bst T (7 * d + x.2)).1.2), (10, .int .i64 (h.bst T (7 * d + x.2)).2), (11, .sl 30 0 (s30+1) N (.ex N)), (12, .int .i64 d), (13, .int .i64 ((x.2 : Int) - 3))])
      (hp := fun x => [(1, .row h.cells (s1+1)), (30, .row (ints x.1) (s30+1))]) (ms := fun x => 7 - x.2) (K, 0) ⟨hKl, hK, by simp⟩ (by simp) (by simp [Hul.cells]) ?_
    rintro ⟨K2, j⟩ ⟨hKl2, hK2, hj⟩ J2 hJ2
    simp only at hKl2 hK2 hj
    by_cases hjc : j < 7
    · have hjc' : (j : Int) - 3 ≤ 3 := by omega
      have hat : Hul.At d ((j : Int) - 3) := by unfold Hul.At; omega
      obtain ⟨b, hb⟩ : ∃ b : Int, b = (j : Int) - 3 := ⟨_, rfl⟩
      rw [← hb] at hat hjc'
      have hstep := h.bst_step T (7 * d + j)
      rw [placeAt_at hjc, ← hb] at hstep
      simp only at hstep
      have hwl := Hul.wet_lt h d b
      obtain ⟨u, hu⟩ : ∃ u : Nat, h.wet d b = u := ⟨(h.wet d b).toNat, by omega⟩
      have hcw := ref01_wet_ok h hv d b hat
      rw [hu] at hwl hcw hstep
      have huK : u < K2.length := by omega
      obtain ⟨W, hW⟩ : ∃ W, W = worstT T u := ⟨_, rfl⟩
      have hWp := worst_pos hTne (u : Int)
      rw [← hW] at hWp hstep
      obtain ⟨B, hB⟩ : ∃ B, B = h.bst T (7 * d + j) := ⟨_, rfl⟩
      rw [← hB] at hstep
      have hstep' : h.bst T (7 * d + (j + 1)) = h.bst T (7 * d + j + 1) := rfl
      have hleft := ref01_left_ok T hT4 (by omega) u ⟨by omega, by omega⟩ (hT24 u)
      rw [← hW] at hleft
      simp [hjc', ← hb, ← hB, Hul.cells]
      refine PCallK.intro (PInv.func (first := []) (cap := []) (args := [h.v, .int .i64 d, .int .i64 b]) hcw) ?_
      have hu2 : (u : Int) < N := by omega
      have hfit : Fits (b + 1) := by unfold Fits; omega
      have hnb : b + 1 = (j : Int) + 1 - 3 := by omega
      rcases hK2 u huK with h0 | h0
      · have hge2 := hge K2 hK2 u huK
        rw [show worstT T (u : Int) = W from hW.symm] at hge2
        have hsl : (K2.set u W).length = K2.length := by simp
        simp [huK, h0, hu2]
        refine PCallK.intro (PInv.func (first := []) (cap := []) (args := [LLv T, .int .i64 u]) hleft) ?_
        by_cases hlt : W < B.2
        · rw [if_pos hlt] at hstep
          simp [huK, hu2, hlt]
          (repeat first | refine And.intro (by omega) ?_ | refine And.intro (Fits.of (by omega) (by omega)) ?_)
          exact hJ2.next (K2.set u W, j + 1) ⟨by simp; omega, hge2, by simp; omega⟩ (by simp; omega) (by simp [hstep', hstep, hnb]) (by simp [Hul.cells])
        · rw [if_neg hlt] at hstep
          simp [huK, hu2, hlt]
          (repeat first | refine And.intro (by omega) ?_ | refine And.intro (Fits.of (by omega) (by omega)) ?_)
          exact hJ2.next (K2.set u W, j + 1) ⟨by simp; omega, hge2, by simp; omega⟩ (by simp; omega) (by simp [hstep', hstep, hnb]) (by simp [Hul.cells])
      · have h1 : ¬ W = 0 := by omega
        rw [← hW] at h0
        by_cases hlt : W < B.2
        · rw [if_pos hlt] at hstep
          simp [huK, h0, hu2, h1, hlt]
          (repeat first | refine And.intro (by omega) ?_ | refine And.intro (Fits.of (by omega) (by omega)) ?_)
          exact hJ2.next (K2, j + 1) ⟨hKl2, hK2, by simp; omega⟩ (by simp; omega) (by simp [hstep', hstep, hnb]) (by simp [Hul.cells])
        · rw [if_neg hlt] at hstep
          simp [huK, h0, hu2, h1, hlt]
          (repeat first | refine And.intro (by omega) ?_ | refine And.intro (Fits.of (by omega) (by omega)) ?_)
          exact hJ2.next (K2, j + 1) ⟨hKl2, hK2, by simp; omega⟩ (by simp; omega) (by simp [hstep', hstep, hnb]) (by simp [Hul.cells])
    obtain rfl : j = 7 := by omega
    simp
    refine hJ2.exit ?_
    simp
    (repeat first | refine And.intro (by omega) ?_ | refine And.intro (Fits.of (by omega) (by omega)) ?_)
    exact hJ.next (K2, d + 1) ⟨hKl2, hK2, by simp; omega⟩ (by simp; omega) (by simp [Nat.mul_add]) (by simp [Hul.cells])
  obtain rfl : d = 13 := by omega
  simp
  refine hJ.exit ?_
  simp
  refine RetV.refl ?_
  simp [Hul.nextV, hv, hne, Hul.bst, Hul.nextP, hT]
end Go.Cw
end

/- The law Tells. -/
section
set_option maxRecDepth 100000
set_option linter.unusedSimpArgs false
namespace Go.Cw
open Go Go.Proofs

theorem wetV_tup (h : Hul) (d l : Int) : ∃ a e, h.wetV d l = .tup [.int .i64 a, .int .i64 e] := by
  unfold Hul.wetV; split
  · split <;> exact ⟨_, _, rfl⟩
  · exact ⟨_, _, rfl⟩
theorem sumV_tup (h : Hul) (p : Prop) [Decidable p] (q : Int) : ∃ s e, h.sumV p q = .tup [SP2 s, .int .i64 e] := by
  unfold Hul.sumV; split
  · split
    · split <;> exact ⟨_, _, rfl⟩
    · exact ⟨_, _, rfl⟩
  · exact ⟨_, _, rfl⟩
theorem leaksV_tup (h : Hul) : ∃ a b e, h.leaksV = .tup [.int .i64 a, .int .i64 b, .int .i64 e] := by
  unfold Hul.leaksV; split
  · split <;> exact ⟨_, _, _, rfl⟩
  · exact ⟨_, _, _, rfl⟩
theorem fewV_tup (h : Hul) : ∃ a b e, h.fewV = .tup [.int .i64 a, .int .i64 b, .int .i64 e] := by
  unfold Hul.fewV; split
  · split <;> exact ⟨_, _, _, rfl⟩
  · exact ⟨_, _, _, rfl⟩
theorem setsV_tup (h : Hul) : ∃ l e, h.setsV = .tup [L l, .int .i64 e] ∧ l.length ≤ 15625 := by
  unfold Hul.setsV; split
  · rename_i hv
    split
    · exact ⟨_, _, rfl, by simp⟩
    · exact ⟨_, _, rfl, Hul.setsL_len hv⟩
  · exact ⟨_, _, rfl, by simp⟩
theorem nextV_tup (h : Hul) : ∃ a b c e, h.nextV = .tup [.int .i64 a, .int .i64 b, .int .i64 c, .int .i64 e] := by
  unfold Hul.nextV; split
  · split <;> exact ⟨_, _, _, _, rfl⟩
  · exact ⟨_, _, _, _, rfl⟩

theorem law01_LeakTells_ok (h : Hul) (q1 q2 d l : Int) : APure Pg fn_law01_LeakTells [h.v, .int .i64 q1, .int .i64 q2, .int .i64 d, .int .i64 l] (.bool true) := by
  refine law01_LeakTells.pure (by simp) ?_
  simp
  intro s5
  refine PCallK.intro (PInv.func (law01_heavy_ok h 3000 8)) ?_
  cases hb : h.heavyB 3000 8 with
  | true =>
    simp
    refine PCallK.intro (PInv.func law01_alive_ok) ?_
    simp
    exact RetV.refl rfl
  | false =>
  have hs : h.Small := by
    rw [← Hul.longB_iff]
    unfold Hul.heavyB at hb
    split at hb
    · cases hb
    · rename_i hl; simpa using hl
  obtain ⟨a1, a2, e1⟩ := wetV_tup h d l
  obtain ⟨b1, b2, e2⟩ := sumV_tup h (h.Seam q1) (2 ^ q1.toNat)
  obtain ⟨c1, c2, e3⟩ := sumV_tup h (h.Set q2) q2
  obtain ⟨d1, d2, d3, e4⟩ := leaksV_tup h
  obtain ⟨S, f2, e5, hSl⟩ := setsV_tup h
  obtain ⟨g1, g2, g3, e6⟩ := fewV_tup h
  obtain ⟨i1, i2, e7⟩ := sumV_tup h (Hul.At d l) (h.wet d l)
  obtain ⟨j1, j2, j3, j4, e8⟩ := nextV_tup h
  have k1 := leak_Wet_ok h hs d l
  have m1 := ref01_Wet_ok h hs d l
  rw [e1] at k1 m1
  have k2 := leak_Rate_ok h hs q1
  have m2 := ref01_Rate_ok h hs q1
  rw [e2] at k2 m2
  have k3 := leak_Total_ok h hs q2
  have m3 := ref01_Total_ok h hs q2
  rw [e3] at k3 m3
  have k4 := leak_Leaks_ok h hs
  have m4 := ref01_Leaks_ok h hs
  rw [e4] at k4 m4
  have k5 := leak_Sets_ok h hs
  have m5 := ref01_Sets_ok h hs
  rw [e5] at k5 m5
  have k6 := leak_Fewest_ok h hs
  have m6 := ref01_Fewest_ok h hs
  rw [e6] at k6 m6
  have k7 := leak_Flow_ok h hs d l
  have m7 := ref01_Flow_ok h hs d l
  rw [e7] at k7 m7
  have k8 := leak_Next_ok h hs
  have m8 := ref01_Next_ok h hs
  rw [e8] at k8 m8
  have k9 := ref01_Ints_ok S S (by omega) (by omega)
  simp
  refine PCallK.intro (PInv.func (first := []) (cap := []) (args := [h.v, .int .i64 d, .int .i64 l]) k1) ?_
  simp
  refine PCallK.intro (PInv.func (first := []) (cap := []) (args := [h.v, .int .i64 d, .int .i64 l]) m1) ?_
  simp
  refine PCallK.intro (PInv.func (first := []) (cap := []) (args := [h.v, .int .i64 q1]) k2) ?_
  simp [SP2]
  intro s15
  refine PCallK.intro (PInv.func (first := []) (cap := []) (args := [h.v, .int .i64 q1]) m2) ?_
  simp [SP2]
  intro s17
  refine PCallK.intro (PInv.func (first := []) (cap := []) (args := [h.v, .int .i64 q2]) k3) ?_
  simp [SP2]
  intro s19
  refine PCallK.intro (PInv.func (first := []) (cap := []) (args := [h.v, .int .i64 q2]) m3) ?_
  simp [SP2]
  intro s21
  refine PCallK.intro (PInv.func (first := []) (cap := []) (args := [h.v]) k4) ?_
  simp
  refine PCallK.intro (PInv.func (first := []) (cap := []) (args := [h.v]) m4) ?_
  simp
  refine PCallK.intro (PInv.func (first := []) (cap := []) (args := [h.v]) k5) ?_
  simp
  refine PCallK.intro (PInv.func (first := []) (cap := []) (args := [h.v]) m5) ?_
  simp
  refine FCall.pure' (v := .bool true) (PInv.func (first := []) (cap := []) (args := [L S, L S]) (by simpa using k9)) (by simp) (by simp) ?_
  simp
  refine PCallK.intro (PInv.func (first := []) (cap := []) (args := [h.v]) k6) ?_
  simp
  refine PCallK.intro (PInv.func (first := []) (cap := []) (args := [h.v]) m6) ?_
  simp
  refine PCallK.intro (PInv.func (first := []) (cap := []) (args := [h.v, .int .i64 d, .int .i64 l]) k7) ?_
  simp [SP2]
  intro s39
  refine PCallK.intro (PInv.func (first := []) (cap := []) (args := [h.v, .int .i64 d, .int .i64 l]) m7) ?_
  simp [SP2]
  intro s41
  refine PCallK.intro (PInv.func (first := []) (cap := []) (args := [h.v]) k8) ?_
  simp
  refine PCallK.intro (PInv.func (first := []) (cap := []) (args := [h.v]) m8) ?_
  simp
  refine PCallK.intro (PInv.func law01_alive_ok) ?_
  simp
  exact RetV.refl rfl
end Go.Cw
end

/- How a hull is read as an argument. -/
section
set_option maxRecDepth 100000
namespace Go.Cw
open Go Go.Proofs

section
variable {w : World} {μ : Mu}

theorem opens_int : Opens Pg w μ 3 fun av => ∃ n, (Lit.int .i64 n).wf = true ∧ av = [.int .i64 n] := Opens.int Tryz.underlying3 (by kernel_rfl)
theorem opens_span : Opens Pg w μ 32 fun av => ∃ p : Int × Int, av = [.int .i64 p.1, .int .i64 p.2] := by
  refine (Opens.struct (Vs := [_, _]) Tryz.underlying32 (by kernel_rfl) ⟨rfl, opens_int, by kernel_rfl, opens_int, trivial⟩).mono ?_
  rintro av ⟨ass, h, rfl⟩
  obtain ⟨a, b, rfl, ⟨n, _, rfl⟩, ⟨m, _, rfl⟩⟩ := h.two
  exact ⟨(n, m), rfl⟩
theorem opens_seam : Opens Pg w μ 47 fun av => ∃ a : Sm, av = a.c := by
  refine (Opens.struct (Vs := [_, _, _]) Tryz.underlying47 (by kernel_rfl) ⟨rfl, opens_int, by kernel_rfl, opens_int, by kernel_rfl, opens_int, trivial⟩).mono ?_
  rintro av ⟨ass, h, rfl⟩
  obtain ⟨a, b, c, rfl, ⟨n, _, rfl⟩, ⟨m, _, rfl⟩, ⟨k, _, rfl⟩⟩ := h.three
  exact ⟨⟨n, m, k⟩, rfl⟩
theorem opens_sounding : Opens Pg w μ 94 fun av => ∃ a : Sd, av = a.c := by
  refine (Opens.struct (Vs := [_, _, _]) Tryz.underlying94 (by kernel_rfl) ⟨rfl, opens_int, by kernel_rfl, opens_int, by kernel_rfl, opens_span, trivial⟩).mono ?_
  rintro av ⟨ass, h, rfl⟩
  obtain ⟨a, b, c, rfl, ⟨n, _, rfl⟩, ⟨m, _, rfl⟩, ⟨p, rfl⟩⟩ := h.three
  exact ⟨⟨n, m, p.1, p.2⟩, rfl⟩
theorem c47 : 0 < Pg.cellsOf 47 := by rw [show Pg.cellsOf 47 = 3 by kernel_rfl]; omega
theorem c94 : 0 < Pg.cellsOf 94 := by rw [show Pg.cellsOf 94 = 4 by kernel_rfl]; omega
theorem opens_hull : Opens Pg w μ 25 fun av => ∃ h : Hul, av = h.cells := by
  refine (Opens.struct (Vs := [_, _]) Tryz.underlying25 (by kernel_rfl) ⟨rfl, Opens.fl Tryz.underlying22 (by kernel_rfl) c47 opens_seam, by kernel_rfl, Opens.fl Tryz.underlying23 (by kernel_rfl) c94 opens_sounding, trivial⟩).mono ?_
  rintro av ⟨ass, h, rfl⟩
  obtain ⟨a, b, rfl, ⟨n, rfl⟩, ⟨m, rfl⟩⟩ := h.two
  exact ⟨⟨n, m⟩, rfl⟩
end

theorem kids : Kids Pg (· < Pg.types.size) := kids_rows (by kernel_rfl) (by kernel_rfl)
theorem slices_full : ∀ t e, t < Pg.types.size → Pg.underlying t = some (.slice e) → 0 < Pg.cellsOf e := slices_full_of Pg (by kernel_rfl)
theorem ownKnobNone : ownKnob Pg.godebug = none := by kernel_rfl

end Go.Cw
end
