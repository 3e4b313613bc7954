/-
  What the document's reference of layer 3 computes; laws of layer 3; how a rake is read as an argument.
-/
import Derived.Test.YtdfllmjgmdhlpaaGreatLa
import Derived.Test.YtdfllmjgmdhlpaaGreatTa
import Derived.Test.YtdfllmjgmdhlpaaGreatAe
import Derived.Test.YtdfllmjgmdhlpaaGreatAf
import Derived.Test.YtdfllmjgmdhlpaaGreatRows
set_option linter.unusedVariables false
set_option linter.unusedSimpArgs false
set_option linter.unusedSectionVars false

/- The reference: Sets. -/
section
set_option maxRecDepth 100000
set_option linter.unusedSimpArgs false
namespace Go.Cw
open Go Go.Proofs

/-- The sets among the first so many numbers. -/
def setsTo (T : List (List Int)) : Nat → List Int
  | 0 => []
  | k + 1 => if T.any fun t => decide (leaksT t = k) then setsTo T k ++ [(k : Int)] else setsTo T k
theorem setsTo_len (T : List (List Int)) (k : Nat) : (setsTo T k).length ≤ k := by
  induction k with
  | zero => simp [setsTo]
  | succ k ih =>
    unfold setsTo
    split
    · rw [List.length_append]; simp; omega
    · omega
theorem setsTo_mem {T : List (List Int)} {k : Nat} {s : Int} : s ∈ setsTo T k ↔ (0 ≤ s ∧ s < k) ∧ ∃ t ∈ T, leaksT t = s := by
  induction k with
  | zero => simp [setsTo]; omega
  | succ k ih =>
    unfold setsTo
    split
    · rename_i hc
      obtain ⟨t, ht, h1⟩ := List.any_eq_true.1 hc
      rw [List.mem_append, ih, List.mem_singleton]
      constructor
      · rintro (⟨h2, h3⟩ | rfl)
        · exact ⟨by omega, h3⟩
        · exact ⟨by omega, t, ht, by simpa using h1⟩
      · rintro ⟨h2, h3⟩
        by_cases hk : s = k
        · exact .inr hk
        · exact .inl ⟨by omega, h3⟩
    · rename_i hc
      rw [ih]
      constructor
      · rintro ⟨h2, h3⟩; exact ⟨by omega, h3⟩
      · rintro ⟨h2, t, ht, h3⟩
        refine ⟨⟨h2.1, ?_⟩, t, ht, h3⟩
        by_cases hk : s = k
        · exact absurd (List.any_eq_true.2 ⟨t, ht, by simpa [hk] using h3⟩) hc
        · omega
theorem setsTo_lt (T : List (List Int)) (k : Nat) : (setsTo T k).Pairwise (· < ·) := by
  induction k with
  | zero => simp [setsTo]
  | succ k ih =>
    unfold setsTo
    split
    · rw [List.pairwise_append]
      refine ⟨ih, by simp, fun a ha b hb => ?_⟩
      obtain rfl : b = k := by simpa using hb
      have := (setsTo_mem.1 ha).1
      omega
    · exact ih
theorem sorted_ext : ∀ {l m : List Int}, l.Pairwise (· < ·) → m.Pairwise (· < ·) → (∀ x, x ∈ l ↔ x ∈ m) → l = m
  | [], [], _, _, _ => rfl
  | [], b :: m, _, _, h => absurd ((h b).2 (by simp)) (by simp)
  | a :: l, [], _, _, h => absurd ((h a).1 (by simp)) (by simp)
  | a :: l, b :: m, hl, hm, h => by
    have hl' := List.pairwise_cons.1 hl
    have hm' := List.pairwise_cons.1 hm
    have hab : a = b := by
      have h1 := (h a).1 (by simp)
      have h2 := (h b).2 (by simp)
      rcases List.mem_cons.1 h1 with h1 | h1
      · exact h1
      · rcases List.mem_cons.1 h2 with h2 | h2
        · exact h2.symm
        · have := hm'.1 a h1; have := hl'.1 b h2; omega
    subst hab
    congr 1
    refine sorted_ext hl'.2 hm'.2 fun x => ?_
    have hx := h x
    constructor
    · intro hxl
      rcases List.mem_cons.1 (hx.1 (List.mem_cons_of_mem _ hxl)) with h1 | h1
      · have := hl'.1 x hxl; omega
      · exact h1
    · intro hxm
      rcases List.mem_cons.1 (hx.2 (List.mem_cons_of_mem _ hxm)) with h1 | h1
      · have := hm'.1 x hxm; omega
      · exact h1
theorem setsTo_all {h : Hul} (hv : h.Valid) : setsTo (h.truths h.every) (2 ^ h.n) = h.setsL := by
  refine sorted_ext (setsTo_lt _ _) ?_ fun x => ?_
  · exact Rak.S_lt (r := ⟨h, []⟩)
  · rw [setsTo_mem, show x ∈ h.setsL ↔ _ from Rak.mem_S (r := ⟨h, []⟩)]
    constructor
    · rintro ⟨_, h2⟩; exact h2
    · rintro ⟨t, ht, rfl⟩
      have hl := (truths_in hv ht).1
      have := bits_lt (fun i => decide (0 < ofL t i)) t.length
      rw [hl] at this
      refine ⟨⟨?_, ?_⟩, t, ht, rfl⟩
      · unfold leaksT; rw [hl]; exact this.1
      · unfold leaksT; rw [hl]; simpa using this.2

theorem ref01_Sets_ok (h : Hul) (hs : h.Small) : APure Pg fn_ref01_Sets [h.v] h.setsV := by
  have nl : ∀ e : Int, ALe (.tup [.nils, .int .i64 e]) (.tup [L [], .int .i64 e]) := fun e => ALe.tup ⟨ALe.nils_vl, ALe.refl _, trivial⟩
  refine ref01_Sets.pure (by simp) ?_
  simp
  intro s1
  refine PCallK.intro (PInv.func (first := []) (cap := []) (args := [h.v, .bool true]) (ref01_told_ok h hs true)) ?_
  by_cases hv : ¬ h.Valid
  · simp [Hul.toldV, hv]
    exact RetV.ale (nl 1) (RetV.refl (by simp [Hul.setsV, hv]))
  replace hv := Classical.not_not.1 hv
  by_cases hne : h.truths h.every = []
  · simp [Hul.toldV, hv, hne]
    exact RetV.ale (nl 10) (RetV.refl (by simp [Hul.setsV, hv, hne]))
  simp [Hul.toldV, hv, hne]
  obtain ⟨T, hT⟩ : ∃ T, T = h.truths h.every := ⟨_, rfl⟩
  have hTl := truths_len hv h.every
  have hTi : ∀ t ∈ T, t.length = h.n := by rw [hT]; exact fun t ht => (truths_in hv ht).1
  have hall := setsTo_all hv
  rw [← hT] at hTl hall ⊢
  have hn6 := hv.n6
  have hnl : h.seams.length = h.n := rfl
  have hp := two_pow_le hn6
  have e6 : (2 : Int) ^ 6 = 64 := by decide
  have hpn : ((2 ^ h.n : Nat) : Int) = (2 : Int) ^ h.n := by simp
  refine Lp.intro' (σ := Nat × Nat) (inv := fun x => x.1 ≤ 2 ^ h.n) (vw := fun x => [(1, .ptr 1 0 (s1+1)), (4, LLv T), (6, gS 1 46 (setsTo T x.1).length x.2), (7, .int .i64 x.1)])
    (hp := fun x => [(1, .row h.cells (s1+1)), (46, gO (setsTo T x.1).length (ints (setsTo T x.1)) x.2)]) (ms := fun x => 2 ^ h.n - x.1) (0, 0) (by simp)
    (Sl.wk 6 .es (by simpa using ALe.nils_es) (Sl.refl ⟨rfl, by simp [setsTo], by simp [Hul.cells, setsTo]⟩)) ?_
  rintro ⟨k, st⟩ hk J hJ
  simp only at hk
  by_cases hkc : k < 2 ^ h.n
  · have hkc' : (k : Int) < 2 ^ h.n := by omega
    simp [Hul.cells, hnl]
    refine PCallK.intro (PInv.func (ref01_power_ok h.n (by omega))) ?_
    simp [hkc']
    refine Lp.intro (σ := Nat) (inv := fun i => i ≤ T.length) (vw := fun i => [(1, .ptr 1 0 (s1+1)), (4, LLv T), (6, gS 1 46 (setsTo T k).length st), (7, .int .i64 k), (8, .bool ((T.take i).any fun t => decide (leaksT t = k))), (9, .int .i64 i)])
      (hp := fun _ => [(1, .row h.cells (s1+1)), (46, gO (setsTo T k).length (ints (setsTo T k)) st)]) (ms := fun i => T.length - i) 0 (by simp) (by simp) (by simp [Hul.cells]) ?_
    intro i hi J2 hJ2
    by_cases hic : i < T.length
    · obtain ⟨t, ht⟩ : ∃ t, T[i] = t := ⟨_, rfl⟩
      have hget : T[i]? = some t := by rw [List.getElem?_eq_getElem hic, ht]
      have htl : t.length = h.n := hTi t (by rw [← ht]; exact List.getElem_mem hic)
      obtain ⟨b, hb⟩ : ∃ b, b = (T.take i).any fun t => decide (leaksT t = k) := ⟨_, rfl⟩
      have hst : ((T.take (i + 1)).any fun t => decide (leaksT t = k)) = (b || decide (leaksT t = k)) := by
        rw [hb, ← List.take_append_getElem hic, ht, List.any_append]; simp
      cases b with
      | true =>
        simp [hic, hget, ht, ← hb]
        (repeat first | refine And.intro (by omega) ?_ | refine And.intro (Fits.of (by omega) (by omega)) ?_)
        exact hJ2.next (i + 1) (by omega) (by omega) (by simp [hst]) (by simp)
      | false =>
        simp [hic, hget, ht, ← hb]
        refine PCallK.intro (PInv.func (first := []) (cap := []) (args := [L t]) (ref01_LeaksOf_ok t (by omega))) ?_
        simp
        (repeat first | refine And.intro (by omega) ?_ | refine And.intro (Fits.of (by omega) (by omega)) ?_)
        exact hJ2.next (i + 1) (by omega) (by omega) (by simp [hst]) (by simp)
    obtain rfl : i = T.length := by omega
    simp
    refine hJ2.exit ?_
    have hsl := setsTo_len T k
    obtain ⟨b, hb⟩ : ∃ b, b = T.any fun t => decide (leaksT t = k) := ⟨_, rfl⟩
    cases b with
    | true =>
      have hn1 : setsTo T (k + 1) = setsTo T k ++ [(k : Int)] := by rw [setsTo, if_pos hb.symm]
      simp [← hb]
      intro s45 s46
      refine xApN_gS (cells := ints (setsTo T k)) (by simp) (by simp) (by omega) (by omega) ?_
      have hn2 : ints (setsTo T k) ++ [AVal.int .i64 k] = ints (setsTo T (k + 1)) := by rw [hn1]; simp
      have hn3 : (setsTo T (k + 1)).length = (setsTo T k).length + 1 := by rw [hn1]; simp
      rw [hn2]
      simp
      (repeat first | refine And.intro (by omega) ?_ | refine And.intro (Fits.of (by omega) (by omega)) ?_)
      exact hJ.next (k + 1, s46 + 1) (by simp; omega) (by simp; omega) (by simp [hn3]) (by simp [hn3, Hul.cells])
    | false =>
      have hn1 : setsTo T (k + 1) = setsTo T k := by rw [setsTo, if_neg (by rw [← hb]; simp)]
      simp [← hb]
      (repeat first | refine And.intro (by omega) ?_ | refine And.intro (Fits.of (by omega) (by omega)) ?_)
      exact hJ.next (k + 1, st) (by simp; omega) (by simp; omega) (by simp [hn1]) (by simp [hn1, Hul.cells])
  obtain rfl : k = 2 ^ h.n := by omega
  have hcE : ¬ ((2 ^ h.n : Nat) : Int) < 2 ^ h.n := by omega
  simp [Hul.cells, hnl]
  refine PCallK.intro (PInv.func (ref01_power_ok h.n (by omega))) ?_
  simp
  refine hJ.exit ?_
  simp
  rw [hall]
  refine RetV.le (VLe.tup_gS (cells := ints h.setsL) (by simp) (by simp)) (RetV.refl ?_)
  simp [Hul.setsV, hv, ← hT, show T ≠ [] by rw [hT]; exact hne]
  rfl

end Go.Cw
end

/- Rake, the reference: is a rake valid; what agrees; the errors; Known. -/
section
set_option maxRecDepth 100000
set_option linter.unusedSimpArgs false
namespace Go.Cw
open Go Go.Proofs

theorem ref03_in_ok (n lo hi : Int) : APure Pg fn_ref03_in [.int .i64 n, .int .i64 lo, .int .i64 hi] (.bool (decide (lo ≤ n ∧ n ≤ hi))) := by
  refine ref03_in.pure (by simp) ?_
  by_cases h : lo ≤ n <;> simp [h] <;> refine RetV.refl ?_ <;> simp_all
theorem ref03_Rake_ok (r : Rak) (hs : r.Small) : APure Pg fn_ref03_Rake [r.v] (.bool (decide r.Valid)) := by
  have hf40 := hs.f
  have hs40 := hs.h.s
  have cH := ref01_Hull_ok r.h hs.h
  have nv : ¬ r.Valid → decide r.Valid = false := fun h => by simp [h]
  refine ref03_Rake.pure (by simp) ?_
  simp
  intro s1
  refine PCallK.intro (PInv.func (first := []) (cap := []) (args := [r.h.v]) cH) ?_
  by_cases hh : ¬ r.h.Valid
  · simp [hh]
    exact RetV.refl (by simp [show ¬ r.Valid from fun v => hh v.h])
  replace hh := Classical.not_not.1 hh
  by_cases hn : ¬ r.f.length = r.h.seams.length
  · have hn' : ¬ (r.f.length : Int) = r.h.seams.length := by omega
    simp [hh, hn, hn']
    exact RetV.refl (by simp [show ¬ r.Valid from fun v => hn v.len])
  replace hn := Classical.not_not.1 hn
  simp [hh, hn]
  refine Lp.intro (σ := Nat) (inv := fun k => k ≤ r.f.length ∧ ∀ j x, j < k → r.f[j]? = some x → 1 ≤ x ∧ x ≤ 20) (vw := fun k => [(1, .ptr 1 0 (s1+1)), (3, .int .i64 k)]) (hp := fun _ => [(1, .row r.cells (s1+1))]) (ms := fun k => r.f.length - k) 0 (by simp) (by simp) (by simp [Rak.cells]) ?_
  rintro k ⟨hk, inv⟩ J hJ
  by_cases hkc : k < r.f.length
  · obtain ⟨x, hx⟩ : ∃ x, r.f[k] = x := ⟨_, rfl⟩
    simp [hkc, hx, Rak.cells]
    refine PCallK.intro (PInv.func (ref03_in_ok x 1 20)) ?_
    by_cases hxb : 1 ≤ x ∧ x ≤ 20
    · simp [hxb]
      (repeat first | refine And.intro (by omega) ?_ | refine And.intro (Fits.of (by omega) (by omega)) ?_)
      refine hJ.next (k + 1) ⟨by omega, fun j y hj hy => ?_⟩ (by omega) (by simp) (by simp [Rak.cells])
      by_cases e : j = k
      · subst e
        obtain rfl : x = y := by simpa [hkc, hx] using hy
        exact hxb
      · exact inv j y (by omega) hy
    · simp [hxb]
      refine hJ.ret ?_
      simp
      refine RetV.refl ?_
      have : ¬ r.Valid := fun v => hxb (v.fa x (by rw [← hx]; simp))
      simp [this]
  obtain rfl : k = r.f.length := by omega
  simp [Rak.cells]
  refine hJ.exit ?_
  simp
  have : r.Valid := ⟨hh, hn, fun x hx => by
    obtain ⟨j, hj, e⟩ := List.getElem_of_mem hx
    exact inv j x hj (by rw [← e]; simp)⟩
  exact RetV.refl (by simp [this])
theorem ref03_Agrees_ok (s : Int) (hs : 0 ≤ s ∧ s < 2 ^ 62) (i : Nat) (hi : i ≤ 60) (b : Bool) : APure Pg fn_ref03_Agrees [.int .i64 s, .agg [.int .i64 i, .bool b]] (.bool (inS s i == b)) := by
  refine ref03_Agrees.pure (by simp) ?_
  simp
  intro s1
  refine PCallK.intro (PInv.func (ref01_Has_ok s hs i hi)) ?_
  simp
  exact RetV.refl rfl
theorem ref03_check_ok (r : Rak) (hs : r.Small) (l : List (Int × Bool)) (hl : l.length ≤ 40) (is : Bool) : APure Pg fn_ref03_check [r.v, LK l, .bool is] (.int .i64 (r.errC l is)) := by
  refine ref03_check.pure (by simp) ?_
  simp
  intro s3
  refine PCallK.intro (PInv.func (first := []) (cap := []) (args := [r.v]) (ref03_Rake_ok r hs)) ?_
  by_cases hv : ¬ r.Valid
  · simp [hv]
    exact RetV.refl (by simp [Rak.errC, hv])
  replace hv := Classical.not_not.1 hv
  have hn6 := hv.n6
  have hln : r.h.n = r.n := hv.len.symm
  simp [hv]
  refine Lp.intro (σ := Nat) (inv := fun k => k ≤ l.length) (vw := fun k => [(1, LK l), (2, .bool (is && decide (r.Fd (l.take k)))), (3, .ptr 3 0 (s3+1)), (7, .int .i64 k)]) (hp := fun _ => [(3, .row r.cells (s3+1))]) (ms := fun k => l.length - k) 0 (by simp) (by simp [Rak.Fd]) (by simp [Rak.cells]) ?_
  rintro k hk J hJ
  by_cases hkc : k < l.length
  · obtain ⟨x, hx⟩ : ∃ x, l[k] = x := ⟨_, rfl⟩
    have hstep : decide (r.Fd (l.take (k + 1))) = (decide (r.Fd (l.take k)) && decide (r.h.Seam x.1)) := by
      rw [Bool.eq_iff_iff, Bool.and_eq_true, decide_eq_true_eq, decide_eq_true_eq, decide_eq_true_eq, ← List.take_append_getElem hkc, hx]
      unfold Rak.Fd Hul.Seam
      rw [hln]
      constructor
      · intro h
        exact ⟨fun y hy => h y (by simp [hy]), by have := h x (by simp); omega⟩
      · rintro ⟨h1, h2⟩ y hy
        rcases List.mem_append.1 hy with hy | hy
        · exact h1 y hy
        · simp at hy; subst hy; omega
    obtain ⟨b, hb⟩ : ∃ b, b = (is && decide (r.Fd (l.take k))) := ⟨_, rfl⟩
    have hstep2 : (is && decide (r.Fd (l.take (k + 1)))) = (b && decide (r.h.Seam x.1)) := by rw [hstep, hb, Bool.and_assoc]
    rw [← hb]
    cases b
    · simp [hkc, hx, Rak.cells]
      (repeat first | refine And.intro (by omega) ?_ | refine And.intro (Fits.of (by omega) (by omega)) ?_)
      exact hJ.next (k + 1) (by omega) (by omega) (by simp [hstep2]) (by simp [Rak.cells])
    · simp [hkc, hx, Rak.cells]
      refine PCallK.intro (PInv.func (first := []) (cap := []) (args := [r.h.v, .int .i64 x.1]) (ref01_Seam_ok r.h hs.h x.1)) ?_
      simp
      (repeat first | refine And.intro (by omega) ?_ | refine And.intro (Fits.of (by omega) (by omega)) ?_)
      exact hJ.next (k + 1) (by omega) (by omega) (by simp [hstep2]) (by simp [Rak.cells])
  obtain rfl : k = l.length := by omega
  simp
  refine hJ.exit ?_
  by_cases hok : ¬ (is = true ∧ r.Fd l)
  · have e : (is && decide (r.Fd l)) = false := by
      rw [Bool.eq_false_iff, Ne, Bool.and_eq_true, decide_eq_true_eq]; exact hok
    rw [e]
    simp
    refine RetV.refl ?_
    have : ¬ (r.Fd l ∧ is = true) := fun h => hok ⟨h.2, h.1⟩
    simp [Rak.errC, hv, this]
  replace hok := Classical.not_not.1 hok
  have e : (is && decide (r.Fd l)) = true := by rw [Bool.and_eq_true, decide_eq_true_eq]; exact hok
  rw [e]
  simp
  refine Lp.intro (σ := Nat) (inv := fun k => k ≤ l.length ∧ ((l.take k).map Prod.fst).Nodup) (vw := fun k => [(1, LK l), (8, .int .i64 k)]) (hp := fun _ => []) (ms := fun k => l.length - k) 0 (by simp) (by simp) (by simp) ?_
  rintro k ⟨hk, inv⟩ J2 hJ2
  by_cases hkc : k < l.length
  · obtain ⟨x, hx⟩ : ∃ x, l[k] = x := ⟨_, rfl⟩
    simp [hkc]
    refine Lp.intro (σ := Nat) (inv := fun j => j ≤ k ∧ ∀ i (h : i < l.length), i < j → ¬ x.1 = l[i].1) (vw := fun j => [(1, LK l), (8, .int .i64 k), (9, .int .i64 j)]) (hp := fun _ => []) (ms := fun j => k - j) 0 (by simp) (by simp) (by simp) ?_
    rintro j ⟨hj, inv2⟩ J3 hJ3
    by_cases hjc : j < k
    · have hjl : j < l.length := by omega
      by_cases heq : x.1 = l[j].1
      · simp [hjc, hkc, hx, hjl, ← heq]
        refine hJ3.ret (hJ2.ret ?_)
        simp
        refine RetV.refl ?_
        have hno : ¬ Rak.Once l := fun h => by
          have := List.pairwise_iff_getElem.1 h j k (by simp; omega) (by simp; omega) hjc
          simp [hx] at this
          exact this heq.symm
        simp [Rak.errC, hv, hok, hno]
      · simp [hjc, hkc, hx, hjl, heq]
        (repeat first | refine And.intro (by omega) ?_ | refine And.intro (Fits.of (by omega) (by omega)) ?_)
        refine hJ3.next (j + 1) ⟨by omega, fun i h hi => ?_⟩ (by omega) (by simp) (by simp)
        by_cases e : i = j
        · subst e; exact heq
        · exact inv2 i h (by omega)
    obtain rfl : j = k := by omega
    simp
    refine hJ3.exit ?_
    simp
    (repeat first | refine And.intro (by omega) ?_ | refine And.intro (Fits.of (by omega) (by omega)) ?_)
    refine hJ2.next (j + 1) ⟨by omega, ?_⟩ (by omega) (by simp) (by simp)
    rw [← List.take_append_getElem hkc, List.map_append, List.nodup_append, hx]
    refine ⟨inv, by simp, fun a ha b hb => ?_⟩
    simp at hb; subst hb
    obtain ⟨y, hy, rfl⟩ := List.mem_map.1 ha
    obtain ⟨i, hi, rfl⟩ := List.getElem_of_mem hy
    simp at hi
    rw [List.getElem_take]
    exact fun h => inv2 i (by omega) (by omega) h.symm
  obtain rfl : k = l.length := by omega
  simp
  refine hJ2.exit ?_
  simp
  rw [List.take_length] at inv
  exact RetV.refl (by simp [Rak.errC, hv, hok, show Rak.Once l from inv])
theorem ref03_told_ok (r : Rak) (hs : r.Small) (l : List (Int × Bool)) (hl : l.length ≤ 40) (is : Bool) :
    APure Pg fn_ref03_told [r.v, LK l, .bool is] (.tup [L (if r.errE l is = 0 then Rk.agF r.S l else []), .int .i64 (r.errE l is)]) := by
  have nl : ∀ e : Int, ALe (.tup [.nils, .int .i64 e]) (.tup [L [], .int .i64 e]) := fun e => ALe.tup ⟨ALe.nils_vl, ALe.refl _, trivial⟩
  refine ref03_told.pure (by simp) ?_
  simp
  intro s3
  refine PCallK.intro (PInv.func (first := []) (cap := []) (args := [r.v, LK l, .bool is]) (ref03_check_ok r hs l hl is)) ?_
  by_cases hc : ¬ r.errC l is = 0
  · simp [hc]
    have e : r.errE l is = r.errC l is := Rak.errE_C hc
    exact RetV.ale (nl _) (RetV.refl (by simp [e, hc]))
  replace hc := Classical.not_not.1 hc
  obtain ⟨hv, hf, his⟩ := Rak.errC_zero.1 hc
  simp [hc]
  refine PCallK.intro (PInv.func (first := []) (cap := []) (args := [r.h.v]) (ref01_Sets_ok r.h hs.h)) ?_
  have hE : r.errE l is = if Rk.agF r.S l = [] then 10 else 0 := Rak.errE_of hv hf his
  by_cases ht : r.h.truths r.h.every = []
  · have hS := Rak.S_nil.2 ht
    simp [Hul.setsV, hv.h, ht]
    exact RetV.ale (nl _) (RetV.refl (by simp [hE, hS, Rk.agF]))
  have hSV : r.h.setsV = .tup [L r.S, .int .i64 0] := by simp [Hul.setsV, hv.h, ht]; rfl
  rw [hSV]
  have hSl := Rak.S_len hv
  have hSi := Rak.S_in hv
  have hn6 := hv.n6
  have h2p := two_pow_le hn6
  have e6 : (2 : Int) ^ 6 = 64 := by decide
  have e62 : (2 : Int) ^ 62 = 4611686018427387904 := by decide
  obtain ⟨m, hm⟩ : ∃ m : Nat → List Int, m = fun k => (r.S.take k).filter (Rk.agB l) := ⟨_, rfl⟩
  have hml : ∀ k, (m k).length ≤ k := fun k => by
    rw [hm]; have := List.length_filter_le (Rk.agB l) (r.S.take k); simp at this ⊢; omega
  have hm0 : m 0 = [] := by rw [hm]; rfl
  simp
  refine Lp.intro' (σ := Nat × Nat) (inv := fun x => x.1 ≤ r.S.length)
    (vw := fun x => [(1, LK l), (9, L r.S), (11, gS 1 62 (m x.1).length x.2), (12, .int .i64 x.1)])
    (hp := fun x => [(62, gO (m x.1).length (ints (m x.1)) x.2)]) (ms := fun x => r.S.length - x.1) (0, 0) (by simp) (Sl.wk 11 .es (by simpa using ALe.nils_es) (Sl.refl ⟨by simp, by simp [hm0], by simp [hm0]⟩)) ?_
  rintro ⟨k, st⟩ hk J hJ
  simp at hk
  by_cases hkc : k < r.S.length
  · obtain ⟨x, hx⟩ : ∃ x, r.S[k] = x := ⟨_, rfl⟩
    have hxb := hSi x (by rw [← hx]; simp)
    have hmk := hml k
    have hms : m (k + 1) = m k ++ (if Rk.agB l x then [x] else []) := by
      rw [hm]
      simp only [← List.take_append_getElem hkc, List.filter_append, hx]
      congr 1
      cases h : Rk.agB l x
      · simp [h]
      · simp [h]
    simp [hkc]
    refine Lp.intro (σ := Nat) (inv := fun j => j ≤ l.length)
      (vw := fun j => [(1, LK l), (9, L r.S), (11, gS 1 62 (m k).length st), (12, .int .i64 k), (13, .bool (Rk.agB (l.take j) x)), (14, .int .i64 j)])
      (hp := fun _ => [(62, gO (m k).length (ints (m k)) st)]) (ms := fun j => l.length - j) 0 (by simp) (by simp [Rk.agB]) (by simp) ?_
    rintro j hj J2 hJ2
    by_cases hjc : j < l.length
    · obtain ⟨y, hy⟩ : ∃ y, l[j] = y := ⟨_, rfl⟩
      have hyr := hf.rng y (by rw [← hy]; simp)
      obtain ⟨i, hi⟩ : ∃ i : Nat, y.1 = i := ⟨y.1.toNat, by omega⟩
      have hbs : Rk.agB (l.take (j + 1)) x = (Rk.agB (l.take j) x && (inS x i == y.2)) := by
        unfold Rk.agB
        rw [← List.take_append_getElem hjc, List.all_append, hy]
        simp [hi]
      cases hbj : Rk.agB (l.take j) x
      · rw [hbj] at hbs
        simp [hjc]
        (repeat first | refine And.intro (by omega) ?_ | refine And.intro (Fits.of (by omega) (by omega)) ?_)
        exact hJ2.next (j + 1) (by omega) (by omega) (by simp [hbs]) (by simp)
      · rw [hbj] at hbs
        simp [hjc, hkc, hx, hy, hi]
        refine ⟨by omega, ?_⟩
        refine PCallK.intro (PInv.func (ref03_Agrees_ok x (by omega) i (by omega) y.2)) ?_
        simp
        (repeat first | refine And.intro (by omega) ?_ | refine And.intro (Fits.of (by omega) (by omega)) ?_)
        exact hJ2.next (j + 1) (by omega) (by omega) (by simp [hbs]) (by simp)
    obtain rfl : j = l.length := by omega
    simp
    refine hJ2.exit ?_
    cases hbx : Rk.agB l x
    · rw [hbx] at hms
      simp [hbx]
      (repeat first | refine And.intro (by omega) ?_ | refine And.intro (Fits.of (by omega) (by omega)) ?_)
      exact hJ.next (k + 1, st) (by simp; omega) (by simp; omega) (by simp [hms]) (by simp [hms])
    · rw [hbx] at hms
      simp [hbx, hkc, hx]
      intro s4 s5
      refine xApN_gS (cells := ints (m k)) (by simp) (by simp) (by omega) (by omega) ?_
      simp
      (repeat first | refine And.intro (by omega) ?_ | refine And.intro (Fits.of (by omega) (by omega)) ?_)
      exact hJ.next (k + 1, s5 + 1) (by simp; omega) (by simp; omega) (by simp [hms]) (by simp [hms])
  obtain rfl : k = r.S.length := by omega
  have hmE : m r.S.length = Rk.agF r.S l := by rw [hm]; simp only [List.take_length]; rfl
  simp
  refine hJ.exit ?_
  by_cases h0 : Rk.agF r.S l = []
  · simp [hmE, h0]
    exact RetV.ale (nl _) (RetV.refl (by simp [hE, h0]))
  · simp [hmE, h0]
    refine RetV.le (VLe.tup_gS (cells := ints (Rk.agF r.S l)) (by simp) (by simp)) (RetV.refl ?_)
    simp [hE, h0]
    rfl
theorem ref03_Known_ok (r : Rak) (hs : r.Small) (l : List (Int × Bool)) (hl : l.length ≤ 40) : APure Pg fn_ref03_Known [r.v, LK l] (r.knownV l) := by
  refine ref03_Known.pure (by simp) ?_
  simp
  intro s1
  refine PCallK.intro (PInv.func (first := []) (cap := []) (args := [r.v, LK l, .bool true]) (ref03_told_ok r hs l hl true)) ?_
  simp
  exact RetV.refl rfl
end Go.Cw
end

/- Rake, the reference: the best seam; Next, Worst, Any. -/
section
set_option maxRecDepth 100000
set_option linter.unusedSimpArgs false
namespace Go.Cw
open Go Go.Proofs

namespace Rk
/-- The best of the seams below a number. -/
def bestTo (n : Nat) (q : Int) (g : Nat → Int) (k : Nat) : Option (Nat × Int) := bestR g ((un n q).filter fun i => decide (i < k))
theorem bestTo_zero (n : Nat) (q : Int) (g : Nat → Int) : bestTo n q g 0 = none := by
  unfold bestTo; rw [List.filter_eq_nil_iff.2 (by simp)]; rfl
theorem bestTo_all (n : Nat) (q : Int) (g : Nat → Int) : bestTo n q g n = bestR g (un n q) := by
  unfold bestTo; rw [List.filter_eq_self.2 fun i hi => by simpa using (mem_un.1 hi).1]
theorem bestTo_succ {n : Nat} {q : Int} {g : Nat → Int} {k : Nat} (hk : k < n) : bestTo n q g (k + 1) = if inS q k then bestTo n q g k else betR g (bestTo n q g k) k := by
  have hpush : (un n q).filter (fun i => decide (i < k + 1)) = (un n q).filter (fun i => decide (i < k)) ++ if inS q k then [] else [k] := by
    unfold un
    rw [List.filter_filter, List.filter_filter]
    have e : ∀ m : Nat, m ≤ n → (List.range n).filter (fun i => decide (i < m) && !inS q i) = (List.range m).filter (fun i => !inS q i) := by
      intro m hm
      obtain ⟨d, rfl⟩ := Nat.exists_eq_add_of_le hm
      have e1 : (List.range m).filter (fun i => decide (i < m) && !inS q i) = (List.range m).filter (fun i => !inS q i) := List.filter_congr fun i hi => by simp [List.mem_range.1 hi]
      have e2 : ((List.range d).map (m + ·)).filter (fun i => decide (i < m) && !inS q i) = [] := List.filter_eq_nil_iff.2 fun i hi => by
        obtain ⟨x, _, rfl⟩ := List.mem_map.1 hi
        simp
        intro h; omega
      rw [List.range_add, List.filter_append, e1, e2, List.append_nil]
    rw [e (k + 1) (by omega), e k (by omega), List.range_succ, List.filter_append]
    cases h : inS q k <;> simp [h]
  unfold bestTo
  rw [hpush]
  cases h : inS q k
  · simp only [Bool.false_eq_true, if_false]
    rw [bestR_push]
  · simp
/-- The best so far, as the reference keeps it. -/
def leastV : Option (Nat × Int) → Int
  | none => -1
  | some b => b.2
end Rk
theorem ref03_power_ok (n : Nat) (hn : n ≤ 60) : APure Pg fn_ref03_power [.int .i64 n] (.int .i64 (2 ^ n)) := by
  refine ref03_power.pure (by simp) ?_
  simp
  refine Lp.intro (σ := Nat) (inv := fun k => k ≤ n) (vw := fun k => [(0, .int .i64 n), (3, .int .i64 (2 ^ k)), (4, .int .i64 k)]) (hp := fun _ => []) (ms := fun k => n - k) 0 (by simp) (by simp) (by simp) ?_
  intro k hk J hJ
  have h1 := two_pow_le (show k ≤ 60 by omega)
  have h2 := two_pow_pos k
  have e60 : (2 : Int) ^ 60 = 1152921504606846976 := by decide
  by_cases hkc : k < n
  · simp [hkc]
    have e : (2 : Int) ^ (k + 1) = 2 * 2 ^ k := by rw [Int.pow_succ]; omega
    refine ⟨by unfold Fits; omega, ?_⟩
    (repeat first | refine And.intro (by omega) ?_ | refine And.intro (Fits.of (by omega) (by omega)) ?_)
    exact hJ.next (k + 1) (by omega) (by omega) (by simp [e]) (by simp)
  obtain rfl : k = n := by omega
  simp
  refine hJ.exit ?_
  simp
  exact RetV.refl rfl
theorem ref03_with_ok (l : List Int) (hl : l.length ≤ 100000) (hb : ∀ s ∈ l, 0 ≤ s ∧ s < 2 ^ 62) (i : Nat) (hi : i ≤ 60) (b : Bool) : APure Pg fn_ref03_with [L l, .int .i64 i, .bool b] (L (Rk.wl l i b)) := by
  obtain ⟨m, hm⟩ : ∃ m : Nat → List Int, m = fun k => Rk.wl (l.take k) i b := ⟨_, rfl⟩
  have hml : ∀ k, (m k).length ≤ k := fun k => by
    rw [hm]; have := List.length_filter_le (fun s => inS s i == b) (l.take k); simp [Rk.wl] at this ⊢; omega
  have hm0 : m 0 = [] := by rw [hm]; rfl
  refine ref03_with.pure (by simp) ?_
  simp
  refine Lp.intro' (σ := Nat × Nat) (inv := fun x => x.1 ≤ l.length)
    (vw := fun x => [(0, L l), (1, .int .i64 i), (2, .bool b), (7, gS 1 29 (m x.1).length x.2), (8, .int .i64 x.1)])
    (hp := fun x => [(29, gO (m x.1).length (ints (m x.1)) x.2)]) (ms := fun x => l.length - x.1) (0, 0) (by simp) (Sl.wk 7 .es (by simpa using ALe.nils_es) (Sl.refl ⟨by simp, by simp [hm0], by simp [hm0]⟩)) ?_
  rintro ⟨k, st⟩ hk J hJ
  simp at hk
  by_cases hkc : k < l.length
  · obtain ⟨x, hx⟩ : ∃ x, l[k] = x := ⟨_, rfl⟩
    have hxb := hb x (by rw [← hx]; simp)
    have hmk := hml k
    have hms : m (k + 1) = m k ++ (if inS x i == b then [x] else []) := by
      rw [hm]
      simp only [Rk.wl, ← List.take_append_getElem hkc, List.filter_append, hx]
      congr 1
      cases h : inS x i == b
      · simp [h]
      · simp [h]
    simp [hkc, hx]
    refine PCallK.intro (PInv.func (ref01_Has_ok x hxb i hi)) ?_
    cases hfx : inS x i == b
    · rw [hfx] at hms
      simp [hfx]
      (repeat first | refine And.intro (by omega) ?_ | refine And.intro (Fits.of (by omega) (by omega)) ?_)
      exact hJ.next (k + 1, st) (by simp; omega) (by simp; omega) (by simp [hms]) (by simp [hms])
    · rw [hfx] at hms
      simp [hfx, hkc, hx]
      intro s4 s5
      refine xApN_gS (cells := ints (m k)) (by simp) (by simp) (by omega) (by omega) ?_
      simp
      (repeat first | refine And.intro (by omega) ?_ | refine And.intro (Fits.of (by omega) (by omega)) ?_)
      exact hJ.next (k + 1, s5 + 1) (by simp; omega) (by simp; omega) (by simp [hms]) (by simp [hms])
  obtain rfl : k = l.length := by omega
  simp
  refine hJ.exit ?_
  simp
  refine RetV.le (VLe.gS (cells := ints (m l.length)) (s := st) (by simp) (by simp)) (RetV.refl ?_)
  have : m l.length = Rk.wl l i b := by rw [hm]; simp only [List.take_length]
  rw [this]; rfl
theorem ref03_best_ok {r : Rak} (hv : r.Valid) (any : Bool) : ∀ (j : Nat) (l : List Int) (q : Int), l.length ≤ 100000 → (∀ s ∈ l, 0 ≤ s ∧ s < 2 ^ 62) → (0 ≤ q ∧ q < 2 ^ r.n) → (Rk.un r.n q).length = j →
    APure Pg fn_ref03_best [r.v, L l, .int .i64 q, .bool any] (.tup [.int .i64 (Rk.planQ r.n r.F any l q).1, .int .i64 (Rk.planQ r.n r.F any l q).2]) := by
  intro j
  have hn6 := hv.n6
  have hfn : r.f.length = r.n := rfl
  have e6 : (2 : Int) ^ 6 = 64 := by decide
  have e62 : (2 : Int) ^ 62 = 4611686018427387904 := by decide
  have h2p := two_pow_le hn6
  induction j using Nat.strongRecOn with
  | _ j ih =>
  intro l q hl hb hq hj
  have hP := Rk.planQ_eq (n := r.n) (f := r.F) (any := any) (l := l) hq
  by_cases hd : Rk.doneL any l
  · rw [if_pos hd] at hP
    refine ref03_best.pure (by simp) ?_
    simp
    intro s4
    by_cases h0 : l = []
    · simp [h0]
      rw [h0] at hP
      exact RetV.refl (by simp [hP])
    · obtain ⟨h1, ha⟩ : l.length = 1 ∧ any = false := by
        rcases hd with h | h
        · exact absurd h h0
        · exact h
      simp [h0, h1, ha]
      rw [ha] at hP
      exact RetV.refl (by simp [hP])
  rw [if_neg hd] at hP
  obtain ⟨g, hg⟩ : ∃ g, g = Rk.behind any r.F (fun l q => (Rk.planQ r.n r.F any l q).2) l q := ⟨_, rfl⟩
  rw [← hg, ← Rk.bestTo_all] at hP
  have hl0 : ¬ l = [] := fun h => hd (.inl h)
  have hg0 : ∀ l' q', 0 ≤ (Rk.planQ r.n r.F any l' q').2 := fun l' q' => Rk.planQ_nonneg (fun i hi => (Rak.F_in hv i hi).1) _ _ _
  have hg1 : ∀ l' q', (Rk.planQ r.n r.F any l' q').2 ≤ 600 := fun l' q' => by
    have := Rk.planQ_bound (Rak.F_in hv) (by omega) (any := any) l' q'
    omega
  have hgv : ∀ k, g k = r.F k + if any then (Rk.planQ r.n r.F any (Rk.wl l k false) (q + 2 ^ k)).2 else max (Rk.planQ r.n r.F any (Rk.wl l k false) (q + 2 ^ k)).2 (Rk.planQ r.n r.F any (Rk.wl l k true) (q + 2 ^ k)).2 := fun k => by rw [hg]; rfl
  have hgb : ∀ k, k < r.n → 0 ≤ g k ∧ g k ≤ 1000 := fun k hk => by
    have h1 := Rak.F_in hv k hk
    have a0 := hg0 (Rk.wl l k false) (q + 2 ^ k)
    have a1 := hg1 (Rk.wl l k false) (q + 2 ^ k)
    have b0 := hg0 (Rk.wl l k true) (q + 2 ^ k)
    have b1 := hg1 (Rk.wl l k true) (q + 2 ^ k)
    rw [hgv]
    cases any
    · simp only [Bool.false_eq_true, if_false]; omega
    · simp only [if_true]; omega
  have hbt : ∀ k, (Rk.bestTo r.n q g k = none ∧ Rk.leastV (Rk.bestTo r.n q g k) = -1) ∨ ∃ b, Rk.bestTo r.n q g k = some b ∧ Rk.leastV (Rk.bestTo r.n q g k) = b.2 ∧ 0 ≤ b.2 ∧ b.2 ≤ 1000 := fun k => by
    cases hb' : Rk.bestTo r.n q g k with
    | none => exact .inl ⟨rfl, rfl⟩
    | some b =>
      have hs := Rk.bestR_spec (List.Pairwise.filter _ (Rk.un_lt r.n q)) hb'
      have hbn := (Rk.mem_un.1 (List.mem_filter.1 hs.1).1).1
      have := hgb _ hbn
      rw [← hs.2.1] at this
      exact .inr ⟨b, rfl, rfl, this⟩
  clear hg
  refine ref03_best.pure (by simp) ?_
  simp
  intro s4
  by_cases h1 : l.length = 1
  · obtain rfl : any = true := by
      cases any
      · exact absurd (.inr ⟨h1, rfl⟩) hd
      · rfl
    simp [hl0, show (l.length : Int) = 1 by omega]
    refine Lp.intro (σ := Nat) (inv := fun k => k ≤ r.n) (vw := fun k => [(1, L l), (2, .int .i64 q), (3, .bool true), (4, .ptr 4 0 (s4+1)), (10, .int .i64 ((Rk.bestTo r.n q g k).getD (0, 0)).1), (11, .int .i64 (Rk.leastV (Rk.bestTo r.n q g k))), (12, .int .i64 k)])
      (hp := fun _ => [(4, .row r.cells (s4+1))]) (ms := fun k => r.n - k) 0 (by simp) (by simp [Rk.bestTo_zero, Rk.leastV]) (by simp [Rak.cells]) ?_
    intro k hk J hJ
    by_cases hkc : k < r.n
    · have hkl : k < r.f.length := hkc
      have hbs := Rk.bestTo_succ (g := g) (q := q) hkc
      simp [hkl, Rak.cells]
      refine PCallK.intro (PInv.func (ref01_Has_ok q (by omega) k (by omega))) ?_
      cases hkq : inS q k with
      | true =>
        rw [hkq] at hbs
        simp
        (repeat first | refine And.intro (by omega) ?_ | refine And.intro (Fits.of (by omega) (by omega)) ?_)
        exact hJ.next (k + 1) (by omega) (by omega) (by simp [hbs]) (by simp [Rak.cells])
      | false =>
        rw [hkq] at hbs
        have hui : k ∈ Rk.un r.n q := Rk.mem_un.2 ⟨hkc, hkq⟩
        have hq2 := Rk.add_lt hq hkc hkq
        have hul := Rk.un_len hq hui
        have wlen : ∀ b, (Rk.wl l k b).length ≤ 100000 := fun b => Nat.le_trans (List.length_filter_le _ _) hl
        have wb : ∀ b, ∀ s ∈ Rk.wl l k b, 0 ≤ s ∧ s < 2 ^ 62 := fun b s hs => hb s (Rk.mem_wl.1 hs).1
        have cW := fun b => ref03_with_ok l hl hb k (by omega) b
        have cB := fun b => ih _ (by omega) (Rk.wl l k b) (q + 2 ^ k) (wlen b) (wb b) hq2 rfl
        have hFk := Rak.F_in hv k hkc
        have hFe : r.f[k] = r.F k := by unfold Rak.F; rw [ofL_at _ hkl]
        have hgk := hgb k hkc
        have hgvk := hgv k
        have a0 := hg0 (Rk.wl l k false) (q + 2 ^ k)
        have a1 := hg1 (Rk.wl l k false) (q + 2 ^ k)
        have b0 := hg0 (Rk.wl l k true) (q + 2 ^ k)
        have b1 := hg1 (Rk.wl l k true) (q + 2 ^ k)
        simp
        refine PCallK.intro (PInv.func (cW false)) ?_
        simp
        refine PCallK.intro (PInv.func (ref03_power_ok k (by omega))) ?_
        simp
        refine ⟨by unfold Fits; omega, ?_⟩
        refine PCallK.intro (PInv.func (first := []) (cap := []) (args := [r.v, L (Rk.wl l k false), .int .i64 (q + 2 ^ k), .bool true]) (cB false)) ?_
        have hN : Rk.bestTo r.n q g k = none → Rk.bestTo r.n q g (k + 1) = some (k, g k) := fun e => by rw [hbs, e]; rfl
        have hS : ∀ b, Rk.bestTo r.n q g k = some b → Rk.bestTo r.n q g (k + 1) = if g k < b.2 then some (k, g k) else some b := fun b e => by rw [hbs, e]; rfl
        have hgk2 : (Rk.planQ r.n r.F true (Rk.wl l k false) (q + 2 ^ k)).2 + r.F k = g k := by rw [hgvk]; simp; omega
        simp [hkl, hFe, hgk2]
        rcases hbt k with ⟨e1, e2⟩ | ⟨b, e1, e2, e3, e4⟩
        · simp [hkl, hFe, hgk2, e2]
          (repeat first | refine And.intro (by omega) ?_ | refine And.intro (Fits.of (by omega) (by omega)) ?_)
          exact hJ.next (k + 1) (by omega) (by omega) (by simp [hN e1, Rk.leastV]) (by simp [Rak.cells])
        · by_cases hlt : g k < b.2
          · simp [hkl, hFe, hgk2, e2, hlt, show ¬ b.2 < 0 by omega]
            (repeat first | refine And.intro (by omega) ?_ | refine And.intro (Fits.of (by omega) (by omega)) ?_)
            exact hJ.next (k + 1) (by omega) (by omega) (by simp [hS b e1, hlt, Rk.leastV]) (by simp [Rak.cells])
          · simp [hkl, hFe, hgk2, e2, hlt, show ¬ b.2 < 0 by omega]
            (repeat first | refine And.intro (by omega) ?_ | refine And.intro (Fits.of (by omega) (by omega)) ?_)
            exact hJ.next (k + 1) (by omega) (by omega) (by simp [hS b e1, hlt, Rk.leastV, e1]) (by simp [Rak.cells])
    obtain rfl : k = r.n := by omega
    simp [Rak.cells, hfn]
    refine hJ.exit ?_
    simp
    refine RetV.refl ?_
    rw [hP]
    rcases hbt r.n with ⟨e1, e2⟩ | ⟨b, e1, e2, e3, e4⟩
    · simp [e1, Rk.leastV]; omega
    · simp [e1, Rk.leastV]; omega
  · simp [hl0, show ¬ (l.length : Int) = 1 by omega]
    refine Lp.intro (σ := Nat) (inv := fun k => k ≤ r.n) (vw := fun k => [(1, L l), (2, .int .i64 q), (3, .bool any), (4, .ptr 4 0 (s4+1)), (10, .int .i64 ((Rk.bestTo r.n q g k).getD (0, 0)).1), (11, .int .i64 (Rk.leastV (Rk.bestTo r.n q g k))), (12, .int .i64 k)])
      (hp := fun _ => [(4, .row r.cells (s4+1))]) (ms := fun k => r.n - k) 0 (by simp) (by simp [Rk.bestTo_zero, Rk.leastV]) (by simp [Rak.cells]) ?_
    intro k hk J hJ
    by_cases hkc : k < r.n
    · have hkl : k < r.f.length := hkc
      have hbs := Rk.bestTo_succ (g := g) (q := q) hkc
      simp [hkl, Rak.cells]
      refine PCallK.intro (PInv.func (ref01_Has_ok q (by omega) k (by omega))) ?_
      cases hkq : inS q k with
      | true =>
        rw [hkq] at hbs
        simp
        (repeat first | refine And.intro (by omega) ?_ | refine And.intro (Fits.of (by omega) (by omega)) ?_)
        exact hJ.next (k + 1) (by omega) (by omega) (by simp [hbs]) (by simp [Rak.cells])
      | false =>
        rw [hkq] at hbs
        have hui : k ∈ Rk.un r.n q := Rk.mem_un.2 ⟨hkc, hkq⟩
        have hq2 := Rk.add_lt hq hkc hkq
        have hul := Rk.un_len hq hui
        have wlen : ∀ b, (Rk.wl l k b).length ≤ 100000 := fun b => Nat.le_trans (List.length_filter_le _ _) hl
        have wb : ∀ b, ∀ s ∈ Rk.wl l k b, 0 ≤ s ∧ s < 2 ^ 62 := fun b s hs => hb s (Rk.mem_wl.1 hs).1
        have cW := fun b => ref03_with_ok l hl hb k (by omega) b
        have cB := fun b => ih _ (by omega) (Rk.wl l k b) (q + 2 ^ k) (wlen b) (wb b) hq2 rfl
        have hFk := Rak.F_in hv k hkc
        have hFe : r.f[k] = r.F k := by unfold Rak.F; rw [ofL_at _ hkl]
        have hgk := hgb k hkc
        have hgvk := hgv k
        have a0 := hg0 (Rk.wl l k false) (q + 2 ^ k)
        have a1 := hg1 (Rk.wl l k false) (q + 2 ^ k)
        have b0 := hg0 (Rk.wl l k true) (q + 2 ^ k)
        have b1 := hg1 (Rk.wl l k true) (q + 2 ^ k)
        simp
        refine PCallK.intro (PInv.func (cW false)) ?_
        simp
        refine PCallK.intro (PInv.func (ref03_power_ok k (by omega))) ?_
        simp
        refine ⟨by unfold Fits; omega, ?_⟩
        refine PCallK.intro (PInv.func (first := []) (cap := []) (args := [r.v, L (Rk.wl l k false), .int .i64 (q + 2 ^ k), .bool any]) (cB false)) ?_
        have hN : Rk.bestTo r.n q g k = none → Rk.bestTo r.n q g (k + 1) = some (k, g k) := fun e => by rw [hbs, e]; rfl
        have hS : ∀ b, Rk.bestTo r.n q g k = some b → Rk.bestTo r.n q g (k + 1) = if g k < b.2 then some (k, g k) else some b := fun b e => by rw [hbs, e]; rfl
        cases any with
        | true =>
          have hgk2 : (Rk.planQ r.n r.F true (Rk.wl l k false) (q + 2 ^ k)).2 + r.F k = g k := by rw [hgvk]; simp; omega
          simp [hkl, hFe, hgk2]
          rcases hbt k with ⟨e1, e2⟩ | ⟨b, e1, e2, e3, e4⟩
          · simp [hkl, hFe, hgk2, e2]
            (repeat first | refine And.intro (by omega) ?_ | refine And.intro (Fits.of (by omega) (by omega)) ?_)
            exact hJ.next (k + 1) (by omega) (by omega) (by simp [hN e1, Rk.leastV]) (by simp [Rak.cells])
          · by_cases hlt : g k < b.2
            · simp [hkl, hFe, hgk2, e2, hlt, show ¬ b.2 < 0 by omega]
              (repeat first | refine And.intro (by omega) ?_ | refine And.intro (Fits.of (by omega) (by omega)) ?_)
              exact hJ.next (k + 1) (by omega) (by omega) (by simp [hS b e1, hlt, Rk.leastV]) (by simp [Rak.cells])
            · simp [hkl, hFe, hgk2, e2, hlt, show ¬ b.2 < 0 by omega]
              (repeat first | refine And.intro (by omega) ?_ | refine And.intro (Fits.of (by omega) (by omega)) ?_)
              exact hJ.next (k + 1) (by omega) (by omega) (by simp [hS b e1, hlt, Rk.leastV, e1]) (by simp [Rak.cells])
        | false =>
          have hgk2 : max (Rk.planQ r.n r.F false (Rk.wl l k false) (q + 2 ^ k)).2 (Rk.planQ r.n r.F false (Rk.wl l k true) (q + 2 ^ k)).2 + r.F k = g k := by rw [hgvk]; simp; omega
          simp [hkl]
          refine PCallK.intro (PInv.func (cW true)) ?_
          simp
          refine PCallK.intro (PInv.func (ref03_power_ok k (by omega))) ?_
          simp
          refine ⟨by unfold Fits; omega, ?_⟩
          refine PCallK.intro (PInv.func (first := []) (cap := []) (args := [r.v, L (Rk.wl l k true), .int .i64 (q + 2 ^ k), .bool false]) (cB true)) ?_
          simp [hkl, hFe, hgk2]
          rcases hbt k with ⟨e1, e2⟩ | ⟨b, e1, e2, e3, e4⟩
          · simp [hkl, hFe, hgk2, e2]
            (repeat first | refine And.intro (by omega) ?_ | refine And.intro (Fits.of (by omega) (by omega)) ?_)
            exact hJ.next (k + 1) (by omega) (by omega) (by simp [hN e1, Rk.leastV]) (by simp [Rak.cells])
          · by_cases hlt : g k < b.2
            · simp [hkl, hFe, hgk2, e2, hlt, show ¬ b.2 < 0 by omega]
              (repeat first | refine And.intro (by omega) ?_ | refine And.intro (Fits.of (by omega) (by omega)) ?_)
              exact hJ.next (k + 1) (by omega) (by omega) (by simp [hS b e1, hlt, Rk.leastV]) (by simp [Rak.cells])
            · simp [hkl, hFe, hgk2, e2, hlt, show ¬ b.2 < 0 by omega]
              (repeat first | refine And.intro (by omega) ?_ | refine And.intro (Fits.of (by omega) (by omega)) ?_)
              exact hJ.next (k + 1) (by omega) (by omega) (by simp [hS b e1, hlt, Rk.leastV, e1]) (by simp [Rak.cells])
    obtain rfl : k = r.n := by omega
    simp [Rak.cells, hfn]
    refine hJ.exit ?_
    simp
    refine RetV.refl ?_
    rw [hP]
    rcases hbt r.n with ⟨e1, e2⟩ | ⟨b, e1, e2, e3, e4⟩
    · simp [e1, Rk.leastV]; omega
    · simp [e1, Rk.leastV]; omega
theorem ref03_raked_ok (n : Nat) (hn : n ≤ 6) (l : List (Int × Bool)) (hl : l.length ≤ 40) (hf : Rk.Fnd n l) : APure Pg fn_ref03_raked [LK l] (.int .i64 (Rk.fq l)) := by
  refine ref03_raked.pure (by simp) ?_
  simp
  refine Lp.intro (σ := Nat) (inv := fun k => k ≤ l.length) (vw := fun k => [(0, LK l), (3, .int .i64 (Rk.fq (l.take k))), (4, .int .i64 k)]) (hp := fun _ => []) (ms := fun k => l.length - k) 0 (by simp) (by simp [Rk.fq]) (by simp) ?_
  intro k hk J hJ
  by_cases hkc : k < l.length
  · obtain ⟨x, hx⟩ : ∃ x, l[k] = x := ⟨_, rfl⟩
    have hxr := hf.rng x (by rw [← hx]; simp)
    obtain ⟨i, hi⟩ : ∃ i : Nat, x.1 = i := ⟨x.1.toNat, by omega⟩
    have htk : l.take (k + 1) = l.take k ++ [x] := by rw [← List.take_append_getElem hkc, hx]
    have hf1 : Rk.Fnd n (l.take (k + 1)) := ⟨fun y hy => hf.rng y (List.mem_of_mem_take hy), hf.once.sublist ((List.take_sublist (k+1) l).map Prod.fst)⟩
    have hft : Rk.Fnd n (l.take k) := ⟨fun y hy => hf.rng y (List.mem_of_mem_take hy), hf.once.sublist ((List.take_sublist k l).map Prod.fst)⟩
    have q1 := (Rk.fnd_kn hft).1.qr
    have q2 := (Rk.fnd_kn hf1).1.qr
    have hfq : Rk.fq (l.take (k + 1)) = Rk.fq (l.take k) + 2 ^ i := by rw [htk, Rk.fq_push, hi]; rfl
    rw [hfq] at q2
    have h2p := two_pow_le hn
    have e6 : (2 : Int) ^ 6 = 64 := by decide
    simp [hkc, hx, hi]
    refine PCallK.intro (PInv.func (ref03_power_ok i (by omega))) ?_
    simp
    refine ⟨by unfold Fits; omega, ?_⟩
    (repeat first | refine And.intro (by omega) ?_ | refine And.intro (Fits.of (by omega) (by omega)) ?_)
    exact hJ.next (k + 1) (by omega) (by omega) (by simp [hfq]) (by simp)
  obtain rfl : k = l.length := by omega
  simp
  refine hJ.exit ?_
  simp
  exact RetV.refl rfl
theorem ref03_Next_ok (r : Rak) (hs : r.Small) (l : List (Int × Bool)) (hl : l.length ≤ 40) : APure Pg fn_ref03_Next [r.v, LK l] (r.nextV l) := by
  refine ref03_Next.pure (by simp) ?_
  simp
  intro s1
  refine PCallK.intro (PInv.func (first := []) (cap := []) (args := [r.v, LK l, .bool true]) (ref03_told_ok r hs l hl true)) ?_
  by_cases he : ¬ r.errE l true = 0
  · simp [he]
    exact RetV.refl (by simp [Rak.nextV, Rak.nextP, he])
  replace he := Classical.not_not.1 he
  obtain ⟨hv, hf, _, hne⟩ := Rak.errE_zero.1 he
  have hkn := (Rk.fnd_kn hf).1
  have hSl := Rak.S_len hv
  have hSi := Rak.S_in hv
  have h2p := two_pow_le hv.n6
  have e6 : (2 : Int) ^ 6 = 64 := by decide
  have e62 : (2 : Int) ^ 62 = 4611686018427387904 := by decide
  have hal : (Rk.agF r.S l).length ≤ r.S.length := (Rk.agF_sub r.S l).length_le
  have hap := List.length_pos_iff.2 hne
  simp [he]
  by_cases h1 : (Rk.agF r.S l).length = 1
  · simp [show ((Rk.agF r.S l).length : Int) = 1 by omega]
    exact RetV.refl (by simp [Rak.nextV, Rak.nextP, he, h1])
  · simp [show ¬ ((Rk.agF r.S l).length : Int) = 1 by omega]
    refine PCallK.intro (PInv.func (ref03_raked_ok r.n hv.n6 l hl hf)) ?_
    simp
    refine PCallK.intro (PInv.func (first := []) (cap := []) (args := [r.v, L (Rk.agF r.S l), .int .i64 (Rk.fq l), .bool false]) (ref03_best_ok hv false _ _ _ (by omega) (fun s hs => by have := hSi s (Rk.mem_agF.1 hs).1; omega) hkn.qr rfl)) ?_
    simp
    exact RetV.refl (by simp [Rak.nextV, Rak.nextP, he, show ¬ (Rk.agF r.S l).length ≤ 1 by omega])
theorem ref03_told0 (r : Rak) (hs : r.Small) (is : Bool) : PInv Pg (.func (.func fn_ref03_told) [] []) [r.v, .nils, .bool is] (.tup [L (if r.errE [] is = 0 then r.S else []), .int .i64 (r.errE [] is)]) := fun hh => by
  have := ref03_told_ok r hs [] (by simp) is
  rw [Rak.agF_nil] at this
  exact AInvoke.ale (ALe.refl _) (args' := [r.v, LK [], .bool is]) ⟨ALe.refl _, ALe.nils_vl, ALe.refl _, trivial⟩ (PInv.func (first := []) (cap := []) (args := [r.v, LK [], .bool is]) this hh)
theorem ref03_Worst_ok (r : Rak) (hs : r.Small) : APure Pg fn_ref03_Worst [r.v] r.worstV := by
  refine ref03_Worst.pure (by simp) ?_
  simp
  intro s1
  refine PCallK.intro (ref03_told0 r hs true) ?_
  by_cases he : ¬ r.errE [] true = 0
  · simp [he]
    exact RetV.refl (by simp [Rak.worstV, he])
  replace he := Classical.not_not.1 he
  obtain ⟨hv, _, _, hne⟩ := Rak.errE_zero.1 he
  have hSl := Rak.S_len hv
  have hSi := Rak.S_in hv
  have h2p := two_pow_le hv.n6
  have e6 : (2 : Int) ^ 6 = 64 := by decide
  have e62 : (2 : Int) ^ 62 = 4611686018427387904 := by decide
  simp [he]
  refine PCallK.intro (PInv.func (first := []) (cap := []) (args := [r.v, L r.S, .int .i64 0, .bool false]) (ref03_best_ok hv false _ _ _ (by omega) (fun s hs => by have := hSi s hs; omega) Rk.Kn.zero.qr rfl)) ?_
  simp
  exact RetV.refl (by simp [Rak.worstV, he])
theorem Rak.zero_head {r : Rak} (hv : r.Valid) {x : Int} (hx : r.S.head? = some x) : (0 : Int) ∈ r.S ↔ x = 0 := by
  cases hS : r.S with
  | nil => rw [hS] at hx; cases hx
  | cons a l =>
    rw [hS] at hx
    obtain rfl : a = x := by simpa using hx
    have h1 := Rak.S_lt (r := r)
    rw [hS, List.pairwise_cons] at h1
    have h2 := Rak.S_in hv a (by rw [hS]; simp)
    constructor
    · intro h
      rcases List.mem_cons.1 h with h | h
      · exact h.symm
      · have := h1.1 0 h; omega
    · rintro rfl; simp
theorem ref03_Any_ok (r : Rak) (hs : r.Small) : APure Pg fn_ref03_Any [r.v] r.anyV := by
  refine ref03_Any.pure (by simp) ?_
  simp
  intro s1
  refine PCallK.intro (ref03_told0 r hs true) ?_
  by_cases he : ¬ r.errE [] true = 0
  · simp [he]
    exact RetV.refl (by simp [Rak.anyV, Rak.anyP, he])
  replace he := Classical.not_not.1 he
  obtain ⟨hv, _, _, hne⟩ := Rak.errE_zero.1 he
  rw [Rak.agF_nil] at hne
  have hSl := Rak.S_len hv
  have hSi := Rak.S_in hv
  have h2p := two_pow_le hv.n6
  have e6 : (2 : Int) ^ 6 = 64 := by decide
  have e62 : (2 : Int) ^ 62 = 4611686018427387904 := by decide
  have hSp := List.length_pos_iff.2 hne
  obtain ⟨x, hx⟩ : ∃ x, r.S.head? = some x := by
    cases hS : r.S with
    | nil => exact absurd hS hne
    | cons a l => exact ⟨a, rfl⟩
  have hz := Rak.zero_head hv hx
  simp [he, hSp, hx]
  by_cases h0 : x = 0
  · simp [h0]
    exact RetV.refl (by simp [Rak.anyV, Rak.anyP, he, hz.2 h0])
  · simp [h0]
    refine PCallK.intro (PInv.func (first := []) (cap := []) (args := [r.v, L r.S, .int .i64 0, .bool true]) (ref03_best_ok hv true _ _ _ (by omega) (fun s hs => by have := hSi s hs; omega) Rk.Kn.zero.qr rfl)) ?_
    simp
    exact RetV.refl (by simp [Rak.anyV, Rak.anyP, he, mt hz.1 h0])
end Go.Cw
end

/- Rake, the reference: orders, what they cost. -/
section
set_option maxRecDepth 100000
set_option linter.unusedSimpArgs false
namespace Go.Cw
open Go Go.Proofs



theorem Rak.ask_set {r : Rak} (hv : r.Valid) {o : List Int} {s : Int} : r.Ask o s ↔ Rk.IsOrd r.n o ∧ r.h.Set s := by
  unfold Rak.Ask Hul.Set
  rw [show r.n = r.h.n from hv.len]

end Go.Cw
end

/- Rake, the reference: all orders. -/
section
set_option maxRecDepth 100000
set_option linter.unusedSimpArgs false
namespace Go.Cw
open Go Go.Proofs

namespace Rk
theorem flat_len {α β : Type} {g : α → List β} {m : Nat} : ∀ {l : List α}, (∀ i ∈ l, (g i).length ≤ m) → (l.flatMap g).length ≤ l.length * m
  | [], _ => by simp
  | a :: l, h => by
    have h1 := h a (by simp)
    have h2 := flat_len (l := l) fun i hi => h i (by simp [hi])
    rw [List.flatMap_cons, List.length_append, List.length_cons, Nat.succ_mul]
    omega
theorem ords_len (n : Nat) : ∀ (k : Nat) (b : List Nat), (ords n k b).length ≤ n ^ k
  | 0, b => by simp [ords]
  | k + 1, b => by
    simp only [ords]
    have h1 := flat_len (l := fr n b) (g := fun i => ords n k (b ++ [i])) (m := n ^ k) fun i _ => ords_len n k (b ++ [i])
    have h2 : (fr n b).length ≤ n := Nat.le_trans (List.length_filter_le _ _) (by simp)
    have h3 := Nat.mul_le_mul_right (n ^ k) h2
    rw [Nat.pow_succ, Nat.mul_comm (n ^ k) n]
    omega
/-- Orders, as lists of numbers. -/
def oL (l : List (List Nat)) : List (List Int) := l.map toI
theorem oL_append (a b : List (List Nat)) : oL (a ++ b) = oL a ++ oL b := by simp [oL]
end Rk

end Go.Cw
end

/- Rake, the reference: Order. -/
section
set_option maxRecDepth 100000
set_option linter.unusedSimpArgs false
namespace Go.Cw
open Go Go.Proofs

namespace Rk
def outO : Option (List Nat × Int) → AVal
  | none => .nils
  | some b => L (toI b.1)
def leastO : Option (List Nat × Int) → Int
  | none => -1
  | some b => b.2
end Rk

end Go.Cw
end

/- Rake, the reference: Enough. -/
section
set_option maxRecDepth 100000
set_option linter.unusedSimpArgs false
namespace Go.Cw
open Go Go.Proofs

namespace Rk
/-- Do two sets differ, at the first so many seams of a set? -/
def difB (q a b : Int) (k : Nat) : Bool := (List.range k).any fun i => inS q i && (inS a i != inS b i)
theorem difB_succ (q a b : Int) (k : Nat) : difB q a b (k + 1) = (difB q a b k || (inS q k && (inS a k != inS b k))) := by
  unfold difB; rw [List.range_succ, List.any_append]; simp
theorem difB_same {n : Nat} (hn : n ≤ 6) {q a b : Int} (hq : 0 ≤ q ∧ q < 2 ^ n) : difB q a b 6 = !same n q b a := by
  rw [Bool.eq_iff_iff, Bool.not_eq_true', ← Bool.not_eq_true, same_iff]
  unfold difB
  rw [List.any_eq_true]
  constructor
  · rintro ⟨i, hi, h⟩ hs
    rw [Bool.and_eq_true] at h
    by_cases hin : i < n
    · have := hs i hin h.1
      rw [this] at h
      simp at h
    · rw [inS_big hq (by omega)] at h
      simp at h
  · intro h
    refine Classical.byContradiction fun hc => h fun i hi hqi => ?_
    refine Classical.byContradiction fun hab => hc ⟨i, by simp; omega, ?_⟩
    rw [hqi]
    simp
    exact fun e => hab e.symm
end Rk



end Go.Cw
end

/- Rake: what the document fixes of its example is met; which rakes a law goes through. -/
section
set_option maxRecDepth 100000
set_option linter.unusedSimpArgs false
namespace Go.Cw
open Go Go.Proofs

/-- The document's example. -/
def rsm : Rak := ⟨⟨[⟨2, 0, 3⟩, ⟨5, -1, 2⟩, ⟨5, 1, 4⟩], [⟨3, 0, 1, 2⟩, ⟨6, 0, 4, 4⟩]⟩, [4, 3, 5]⟩
theorem rsm_small : rsm.Small := ⟨⟨by simp [rsm], by simp [rsm]⟩, by simp [rsm]⟩
theorem rsm_valid : rsm.Valid := ⟨⟨by simp [rsm, Hul.n], by simp [rsm, Hul.n], by simp [rsm, Hul.k], by decide, by decide⟩, by simp [rsm, Hul.n], by decide⟩
theorem rsm_S : rsm.S = [3, 5, 7] := by
  have h : rsm.h.truths rsm.h.every = [[1, 0, 3], [1, 1, 2], [1, 2, 1], [2, 0, 2], [2, 1, 1], [2, 2, 0]] := by decide +kernel
  unfold Rak.S Hul.setsL
  rw [h]
  exact sortI_eq (by decide +kernel) (by unfold SortedI; decide +kernel)
theorem rsm_n : rsm.n = 3 := rfl
theorem rsm_F : rsm.F = ofL [4, 3, 5] := rfl
def rsmE (l : List (Int × Bool)) (is : Bool) : Int := if (∀ x ∈ l, 0 ≤ x.1 ∧ x.1 < ((3 : Nat) : Int)) ∧ is = true then (if (l.map Prod.fst).Nodup then (if Rk.agF [3, 5, 7] l = [] then 10 else 0) else 5) else 2
theorem rsm_err (l : List (Int × Bool)) (is : Bool) : rsm.errE l is = rsmE l is := by
  unfold Rak.errE rsmE
  rw [if_pos rsm_valid, rsm_S]
  rfl
theorem rsm_known (l : List (Int × Bool)) {X : List Int} {e : Int} (h : ((if rsmE l true = 0 then Rk.agF [3, 5, 7] l else []), rsmE l true) = (X, e)) : rsm.knownV l = .tup [L X, .int .i64 e] := by
  rw [Prod.mk.injEq] at h
  unfold Rak.knownV
  rw [rsm_err, rsm_S, h.1, h.2]
theorem rsm_next (l : List (Int × Bool)) {a : Nat} {b e : Int} (h : (if rsmE l true = 0 then (if (Rk.agF [3, 5, 7] l).length ≤ 1 then (0, 0, 4) else ((Rk.planQ 3 (ofL [4, 3, 5]) false (Rk.agF [3, 5, 7] l) (Rk.fq l)).1, (Rk.planQ 3 (ofL [4, 3, 5]) false (Rk.agF [3, 5, 7] l) (Rk.fq l)).2, 0)) else (0, 0, rsmE l true)) = ((a, b, e) : Nat × Int × Int)) : rsm.nextV l = .tup [.int .i64 a, .int .i64 b, .int .i64 e] := by
  have : rsm.nextP l = (a, b, e) := by
    rw [← h]
    unfold Rak.nextP
    rw [rsm_err, rsm_S, rsm_n, rsm_F]
  unfold Rak.nextV
  rw [this]
theorem rsm_worst : rsm.worstV = .tup [.int .i64 8, .int .i64 0] := by
  unfold Rak.worstV
  rw [rsm_err, rsm_S, rsm_n, rsm_F, show rsmE [] true = 0 by decide +kernel, show Rk.planQ 3 (ofL [4, 3, 5]) false [3, 5, 7] 0 = (1, 8) by decide +kernel]
  rfl
theorem rsm_any : rsm.anyV = .tup [.int .i64 0, .int .i64 4, .int .i64 0] := by
  unfold Rak.anyV Rak.anyP
  rw [rsm_err, rsm_S, rsm_n, rsm_F, show rsmE [] true = 0 by decide +kernel, show Rk.planQ 3 (ofL [4, 3, 5]) true [3, 5, 7] 0 = (0, 4) by decide +kernel]
  rfl
theorem rsm_ord : rsm.ordV = .tup [L [1, 2, 0], .int .i64 8, .int .i64 0] := by
  unfold Rak.ordV Rak.ordL Rak.ordN
  rw [rsm_err, rsm_S, rsm_n, rsm_F, show rsmE [] true = 0 by decide +kernel, show Rk.ordP 3 (ofL [4, 3, 5]) [3, 5, 7] = ([1, 2, 0], 8) by decide +kernel]
  rfl
theorem rsm_en : rsm.enV = .tup [.int .i64 6, .int .i64 8, .int .i64 0] := by
  unfold Rak.enV
  rw [rsm_err, rsm_S, rsm_n, rsm_F, show rsmE [] true = 0 by decide +kernel, show Rk.enP 3 (ofL [4, 3, 5]) [3, 5, 7] = (6, 8) by decide +kernel]
  rfl
theorem rsm_cost (o : List Int) (s : Int) (ho : Rk.IsOrd 3 o ∧ 0 ≤ s ∧ s < 2 ^ 3) {a e : Int} (h : (if s ∈ [3, 5, 7] then (Rk.costL (ofL [4, 3, 5]) (Rk.toN o) [3, 5, 7] s, 0) else (0, 4)) = ((a, e) : Int × Int)) : rsm.costV o s = .tup [.int .i64 a, .int .i64 e] := by
  have hA : rsm.Ask o s := ho
  have : rsm.costP o s = (a, e) := by
    rw [← h]
    unfold Rak.costP
    rw [decide_eq_true hA, rsm_err, rsm_S, rsm_F, show rsmE [] true = 0 by decide +kernel]
    rfl
  unfold Rak.costV
  rw [this]

theorem law03_span_ok (a b : Int) : APure Pg fn_law03_span [.int .i64 a, .int .i64 b] (SP2 (a, b)) := by
  refine law03_span.pure (by simp) ?_
  simp
  intro s
  exact RetV.refl (by simp [SP2])
theorem law03_find_ok (a : Int) (b : Bool) : APure Pg fn_law03_find [.int .i64 a, .bool b] (.agg [.int .i64 a, .bool b]) := by
  refine law03_find.pure (by simp) ?_
  simp
  intro s
  exact RetV.refl (by simp)
theorem law03_ints_ok (a b : List Int) (ha : a.length ≤ 100000) (hb : b.length ≤ 100000) : APure Pg fn_law03_ints [L a, L b] (.bool (decide (a = b))) := by
  refine law03_ints.pure (by simp) ?_
  simp
  refine PCallK.intro (PInv.func (ref01_Ints_ok a b ha hb)) ?_
  simp
  exact RetV.refl rfl
theorem law03_sample_ok : APure Pg fn_law03_sample [] rsm.v := by
  refine law03_sample.pure (by simp) ?_
  simp
  intro s1 s2
  refine PCallK.intro (PInv.func (law03_span_ok _ _)) ?_
  simp [SP2]
  refine PCallK.intro (PInv.func (law03_span_ok _ _)) ?_
  simp [SP2]
  intro s3 s4
  refine RetV.frz 4 rfl (RetV.frz 9 rfl (RetV.frz 11 rfl (RetV.refl ?_)))
  simp [rsm, LS, LD, sms, sds, fl, Sm.c, Sd.c, L, ints]
theorem law03_alive_ok : APure Pg fn_law03_alive [] (.bool true) := by
  refine law03_alive.pure (by simp) ?_
  simp
  refine PCallK.intro (PInv.func law03_sample_ok) ?_
  simp
  refine PCallK.intro (PInv.func (law03_find_ok 1 true)) ?_
  simp
  intro s1
  refine FCall.frz1 22 rfl (v := .tup [L [3, 7], .int .i64 0]) ?_ trivial ?_
  · have := rake_Known_ok rsm rsm_small [(1, true)] (by simp)
    rw [rsm_known [(1, true)] (X := [3, 7]) (e := 0) (by decide +kernel)] at this
    simpa [LK, fds, fl, fdC] using PInv.func (first := []) (cap := []) (args := [rsm.v, LK [(1, true)]]) this
  simp
  refine PCallK.intro (PInv.func law03_sample_ok) ?_
  simp
  refine PCallK.intro (v := .tup [.int .i64 1, .int .i64 8, .int .i64 0]) (fun hh => AInvoke.ale (ALe.refl _) (args' := [rsm.v, LK []]) ⟨ALe.refl _, ALe.nils_vl, trivial⟩ (PInv.func (first := []) (cap := []) (args := [rsm.v, LK []]) (by
    have := rake_Next_ok rsm rsm_small [] (by simp)
    rw [rsm_next [] (a := 1) (b := 8) (e := 0) (by decide +kernel)] at this
    exact this) hh)) ?_
  simp
  refine PCallK.intro (PInv.func law03_sample_ok) ?_
  simp
  refine PCallK.intro (PInv.func (first := []) (cap := []) (args := [rsm.v]) (rake_Worst_ok rsm rsm_small)) ?_
  rw [rsm_worst]
  simp
  refine PCallK.intro (PInv.func law03_sample_ok) ?_
  simp
  intro s2
  refine FCall.frz1 39 rfl (v := .tup [.int .i64 3, .int .i64 0]) ?_ trivial ?_
  · have := rake_Cost_ok rsm rsm_small [1, 2, 0] (by simp) 5
    rw [rsm_cost [1, 2, 0] 5 (by decide +kernel) (a := 3) (e := 0) (by decide +kernel)] at this
    simpa [L] using PInv.func (first := []) (cap := []) (args := [rsm.v, L [1, 2, 0], .int .i64 5]) this
  simp
  refine PCallK.intro (PInv.func law03_sample_ok) ?_
  simp
  refine PCallK.intro (PInv.func (first := []) (cap := []) (args := [rsm.v]) (rake_Order_ok rsm rsm_small)) ?_
  rw [rsm_ord]
  simp
  refine PCallK.intro (PInv.func law03_sample_ok) ?_
  simp
  refine PCallK.intro (PInv.func (first := []) (cap := []) (args := [rsm.v]) (rake_Enough_ok rsm rsm_small)) ?_
  rw [rsm_en]
  simp
  refine PCallK.intro (PInv.func law03_sample_ok) ?_
  simp
  refine PCallK.intro (PInv.func (first := []) (cap := []) (args := [rsm.v]) (rake_Any_ok rsm rsm_small)) ?_
  rw [rsm_any]
  simp
  intro s3
  refine FCall.frz1 62 rfl (v := .bool true) ?_ trivial ?_
  · simpa [L] using PInv.func (first := []) (cap := []) (args := [L [3, 7], L [3, 7]]) (law03_ints_ok [3, 7] [3, 7] (by simp) (by simp))
  simp
  intro s4
  refine FCall.frz1 98 rfl (v := .bool true) ?_ trivial ?_
  · simpa [L] using PInv.func (first := []) (cap := []) (args := [L [1, 2, 0], L [1, 2, 0]]) (law03_ints_ok [1, 2, 0] [1, 2, 0] (by simp) (by simp))
  simp
  exact RetV.refl rfl
/-- How long the longest list is. -/
def Rak.many (r : Rak) (l : List (Int × Bool)) (ls : List (List Int)) : Int := ls.foldl (fun m x => max m (x.length : Int)) (max (max (max (r.h.seams.length : Int) (r.h.snds.length : Int)) (r.f.length : Int)) (l.length : Int))
def Rak.longB (r : Rak) (l : List (Int × Bool)) (ls : List (List Int)) : Bool := decide (40 < r.many l ls)
theorem Rak.many_push (r : Rak) (l : List (Int × Bool)) (ls : List (List Int)) (x : List Int) : r.many l (ls ++ [x]) = max (r.many l ls) (x.length : Int) := by simp [Rak.many]
theorem Rak.many_le {r : Rak} {l : List (Int × Bool)} (ls : List (List Int)) : r.h.seams.length ≤ r.many l ls ∧ r.h.snds.length ≤ r.many l ls ∧ r.f.length ≤ r.many l ls ∧ l.length ≤ r.many l ls ∧ ∀ x ∈ ls, (x.length : Int) ≤ r.many l ls := by
  induction ls using Rk.push_ind with
  | h0 => simp [Rak.many]; omega
  | h1 ls x ih =>
    rw [Rak.many_push]
    obtain ⟨a, b, c, d, e⟩ := ih
    refine ⟨by omega, by omega, by omega, by omega, fun y hy => ?_⟩
    rcases List.mem_append.1 hy with h | h
    · have := e y h; omega
    · simp at h; subst h; omega
theorem Rak.short {r : Rak} {l : List (Int × Bool)} {ls : List (List Int)} (h : r.longB l ls = false) : r.Small ∧ l.length ≤ 40 ∧ ∀ x ∈ ls, x.length ≤ 40 := by
  unfold Rak.longB at h
  rw [decide_eq_false_iff_not] at h
  obtain ⟨a, b, c, d, e⟩ := Rak.many_le (r := r) (l := l) ls
  exact ⟨⟨⟨by omega, by omega⟩, by omega⟩, by omega, fun x hx => by have := e x hx; omega⟩
theorem law03_long_ok (r : Rak) (l : List (Int × Bool)) (ls : List (List Int)) (hls : ls.length ≤ 10) : APure Pg fn_law03_long [r.v, LK l, LLv ls] (.bool (r.longB l ls)) := by
  refine law03_long.pure (by simp) ?_
  simp
  intro s3
  refine Lp.intro (σ := Nat) (inv := fun k => k ≤ ls.length) (vw := fun k => [(7, .int .i64 (r.many l (ls.take k))), (24, LLv ls), (25, .int .i64 ls.length), (26, .int .i64 k)]) (hp := fun _ => []) (ms := fun k => ls.length - k) 0 (by simp) (by simp [Rak.many]) (by simp) ?_
  intro k hk J hJ
  by_cases hkc : k < ls.length
  · obtain ⟨x, hx⟩ : ∃ x, ls[k] = x := ⟨_, rfl⟩
    have hst : r.many l (ls.take (k + 1)) = max (r.many l (ls.take k)) (x.length : Int) := by rw [← List.take_append_getElem hkc, hx, Rak.many_push]
    have hget : ls[k]? = some x := by rw [List.getElem?_eq_getElem hkc, hx]
    simp [hkc, hget, hx, ← hst]
    (repeat first | refine And.intro (by omega) ?_ | refine And.intro (Fits.of (by omega) (by omega)) ?_)
    exact hJ.next (k + 1) (by omega) (by omega) (by simp) (by simp)
  obtain rfl : k = ls.length := by omega
  simp
  refine hJ.exit ?_
  simp
  exact RetV.refl (by simp [Rak.longB])
theorem law03_long0 (r : Rak) (l : List (Int × Bool)) : PInv Pg (.func (.func fn_law03_long) [] []) [r.v, LK l, .nils] (.bool (r.longB l [])) := fun hh =>
  AInvoke.ale (ALe.refl _) (args' := [r.v, LK l, LLv []]) ⟨ALe.refl _, ALe.refl _, ALe.nils_vl, trivial⟩ (PInv.func (first := []) (cap := []) (args := [r.v, LK l, LLv []]) (law03_long_ok r l [] (by simp)) hh)
theorem law03_long00 (r : Rak) : PInv Pg (.func (.func fn_law03_long) [] []) [r.v, .nils, .nils] (.bool (r.longB [] [])) := fun hh =>
  AInvoke.ale (ALe.refl _) (args' := [r.v, LK [], .nils]) ⟨ALe.refl _, ALe.nils_vl, ALe.refl _, trivial⟩ (law03_long0 r [] hh)
noncomputable def Rak.heavyB (r : Rak) (n : Int) (l : List (Int × Bool)) (ls : List (List Int)) : Bool := if r.longB l ls then true else if r.Valid then decide (n < (r.n : Int)) else false
theorem law03_heavy_ok (r : Rak) (n : Int) (l : List (Int × Bool)) (ls : List (List Int)) (hls : ls.length ≤ 10) : APure Pg fn_law03_heavy [r.v, .int .i64 n, LK l, LLv ls] (.bool (r.heavyB n l ls)) := by
  refine law03_heavy.pure (by simp) ?_
  simp
  intro s4
  refine PCallK.intro (PInv.func (first := []) (cap := []) (args := [r.v, LK l, LLv ls]) (law03_long_ok r l ls hls)) ?_
  cases hl : r.longB l ls with
  | true =>
    simp
    exact RetV.refl (by simp [Rak.heavyB, hl])
  | false =>
    have hs := (Rak.short hl).1
    simp
    refine PCallK.intro (PInv.func (first := []) (cap := []) (args := [r.v]) (ref03_Rake_ok r hs)) ?_
    by_cases hv : r.Valid
    · simp [hv]
      exact RetV.refl (by simp [Rak.heavyB, hl, hv]; rfl)
    · simp [hv]
      exact RetV.refl (by simp [Rak.heavyB, hl, hv])
theorem Rak.light {r : Rak} {n : Int} {l : List (Int × Bool)} {ls : List (List Int)} (h : r.heavyB n l ls = false) : r.longB l ls = false := by
  unfold Rak.heavyB at h
  split at h
  · cases h
  · rename_i hl; simpa using hl
end Go.Cw
end

/- The laws RakeTells, RakeOrders, RakeNames. -/
section
set_option maxRecDepth 100000
set_option linter.unusedSimpArgs false
namespace Go.Cw
open Go Go.Proofs

theorem Rak.known_len {r : Rak} (l : List (Int × Bool)) : (if r.errE l true = 0 then Rk.agF r.S l else []).length ≤ 100000 := by
  split
  · rename_i h
    have h1 := Rak.S_len (Rak.errE_zero.1 h).1
    have h2 := (Rk.agF_sub r.S l).length_le
    omega
  · simp
theorem law03_RakeTells_ok (r : Rak) (l : List (Int × Bool)) : APure Pg fn_law03_RakeTells [r.v, LK l] (.bool true) := by
  have cH : PInv Pg (.func (.func fn_law03_heavy) [] []) [r.v, .int .i64 5, LK l, .nils] (.bool (r.heavyB 5 l [])) := fun hh =>
    AInvoke.ale (ALe.refl _) (args' := [r.v, .int .i64 5, LK l, LLv []]) ⟨ALe.refl _, ALe.refl _, ALe.refl _, ALe.nils_vl, trivial⟩ (PInv.func (first := []) (cap := []) (args := [r.v, .int .i64 5, LK l, LLv []]) (law03_heavy_ok r 5 l [] (by simp)) hh)
  refine law03_RakeTells.pure (by simp) ?_
  simp
  intro s2
  refine PCallK.intro cH ?_
  cases hb : r.heavyB 5 l [] with
  | true =>
    simp
    refine PCallK.intro (PInv.func law03_alive_ok) ?_
    simp
    exact RetV.refl rfl
  | false =>
    obtain ⟨hs, hl, _⟩ := Rak.short (Rak.light hb)
    obtain ⟨X, hX⟩ : ∃ X, X = (if r.errE l true = 0 then Rk.agF r.S l else []) := ⟨_, rfl⟩
    have hXl := Rak.known_len (r := r) l
    have k1 := rake_Known_ok r hs l hl
    have k2 := ref03_Known_ok r hs l hl
    have n1 := rake_Next_ok r hs l hl
    have n2 := ref03_Next_ok r hs l hl
    have w1 := rake_Worst_ok r hs
    have w2 := ref03_Worst_ok r hs
    have a1 := rake_Any_ok r hs
    have a2 := ref03_Any_ok r hs
    unfold Rak.knownV at k1 k2
    unfold Rak.nextV at n1 n2
    unfold Rak.worstV at w1 w2
    unfold Rak.anyV at a1 a2
    rw [← hX] at k1 k2 hXl
    simp
    refine PCallK.intro (PInv.func (first := []) (cap := []) (args := [r.v, LK l]) k1) ?_
    simp
    refine PCallK.intro (PInv.func (first := []) (cap := []) (args := [r.v, LK l]) k2) ?_
    simp
    refine PCallK.intro (PInv.func (first := []) (cap := []) (args := [r.v, LK l]) n1) ?_
    simp
    refine PCallK.intro (PInv.func (first := []) (cap := []) (args := [r.v, LK l]) n2) ?_
    simp
    refine PCallK.intro (PInv.func (first := []) (cap := []) (args := [r.v]) w1) ?_
    simp
    refine PCallK.intro (PInv.func (first := []) (cap := []) (args := [r.v]) w2) ?_
    simp
    refine PCallK.intro (PInv.func (first := []) (cap := []) (args := [r.v]) a1) ?_
    simp
    refine PCallK.intro (PInv.func (first := []) (cap := []) (args := [r.v]) a2) ?_
    simp
    refine PCallK.intro (PInv.func (ref01_Ints_ok X X hXl hXl)) ?_
    simp
    refine PCallK.intro (PInv.func law03_alive_ok) ?_
    simp
    exact RetV.refl rfl


end Go.Cw
end

/- How a rake is read as an argument. -/
section
set_option maxRecDepth 100000
namespace Go.Cw
open Go Go.Proofs

section
variable {w : World} {μ : Mu}

theorem opens_int : Opens Pg w μ 3 fun av => ∃ n, (Lit.int .i64 n).wf = true ∧ av = [.int .i64 n] := Opens.int Tryz.underlying3 (by kernel_rfl)
theorem opens_bool : Opens Pg w μ 4 fun av => ∃ b, av = [.bool b] := Opens.bool Tryz.underlying4 (by kernel_rfl)
theorem opens_ints : Opens Pg w μ 26 fun av => ∃ l : List Int, av = [L l] := Opens.ints Tryz.underlying26 (by kernel_rfl) Tryz.underlying3 (by kernel_rfl)
theorem opens_span : Opens Pg w μ 65 fun av => ∃ p : Int × Int, av = [.int .i64 p.1, .int .i64 p.2] := by
  refine (Opens.struct (Vs := [_, _]) Tryz.underlying65 (by kernel_rfl) ⟨rfl, opens_int, by kernel_rfl, opens_int, trivial⟩).mono ?_
  rintro av ⟨ass, h, rfl⟩
  obtain ⟨a, b, rfl, ⟨n, _, rfl⟩, ⟨m, _, rfl⟩⟩ := h.two
  exact ⟨(n, m), rfl⟩
theorem opens_seam : Opens Pg w μ 118 fun av => ∃ a : Sm, av = a.c := by
  refine (Opens.struct (Vs := [_, _, _]) Tryz.underlying118 (by kernel_rfl) ⟨rfl, opens_int, by kernel_rfl, opens_int, by kernel_rfl, opens_int, trivial⟩).mono ?_
  rintro av ⟨ass, h, rfl⟩
  obtain ⟨a, b, c, rfl, ⟨n, _, rfl⟩, ⟨m, _, rfl⟩, ⟨k, _, rfl⟩⟩ := h.three
  exact ⟨⟨n, m, k⟩, rfl⟩
theorem opens_sounding : Opens Pg w μ 67 fun av => ∃ a : Sd, av = a.c := by
  refine (Opens.struct (Vs := [_, _, _]) Tryz.underlying67 (by kernel_rfl) ⟨rfl, opens_int, by kernel_rfl, opens_int, by kernel_rfl, opens_span, trivial⟩).mono ?_
  rintro av ⟨ass, h, rfl⟩
  obtain ⟨a, b, c, rfl, ⟨n, _, rfl⟩, ⟨m, _, rfl⟩, ⟨p, rfl⟩⟩ := h.three
  exact ⟨⟨n, m, p.1, p.2⟩, rfl⟩
theorem c118 : 0 < Pg.cellsOf 118 := by rw [show Pg.cellsOf 118 = 3 by kernel_rfl]; omega
theorem c67 : 0 < Pg.cellsOf 67 := by rw [show Pg.cellsOf 67 = 4 by kernel_rfl]; omega
theorem opens_hull : Opens Pg w μ 25 fun av => ∃ h : Hul, av = h.cells := by
  refine (Opens.struct (Vs := [_, _]) Tryz.underlying25 (by kernel_rfl) ⟨rfl, Opens.fl Tryz.underlying22 (by kernel_rfl) c118 opens_seam, by kernel_rfl, Opens.fl Tryz.underlying23 (by kernel_rfl) c67 opens_sounding, trivial⟩).mono ?_
  rintro av ⟨ass, h, rfl⟩
  obtain ⟨a, b, rfl, ⟨n, rfl⟩, ⟨m, rfl⟩⟩ := h.two
  exact ⟨⟨n, m⟩, rfl⟩
theorem opens_find : Opens Pg w μ 48 fun av => ∃ a : Int × Bool, av = fdC a := by
  refine (Opens.struct (Vs := [_, _]) Tryz.underlying48 (by kernel_rfl) ⟨rfl, opens_int, by kernel_rfl, opens_bool, trivial⟩).mono ?_
  rintro av ⟨ass, h, rfl⟩
  obtain ⟨a, b, rfl, ⟨n, _, rfl⟩, ⟨m, rfl⟩⟩ := h.two
  exact ⟨(n, m), rfl⟩
theorem c48 : 0 < Pg.cellsOf 48 := by rw [show Pg.cellsOf 48 = 2 by kernel_rfl]; omega
theorem opens_finds : Opens Pg w μ 29 fun av => ∃ l : List (Int × Bool), av = [LK l] := Opens.fl Tryz.underlying29 (by kernel_rfl) c48 opens_find
theorem opens_rake : Opens Pg w μ 28 fun av => ∃ r : Rak, av = r.cells := by
  refine (Opens.struct (Vs := [_, _]) Tryz.underlying28 (by kernel_rfl) ⟨rfl, opens_hull, by kernel_rfl, opens_ints, trivial⟩).mono ?_
  rintro av ⟨ass, h, rfl⟩
  obtain ⟨a, b, rfl, ⟨n, rfl⟩, ⟨m, rfl⟩⟩ := h.two
  exact ⟨⟨n, m⟩, rfl⟩
theorem opens_u8 : Opens Pg w μ 5 fun av => ∃ n : Int, (0 ≤ n ∧ n ≤ 255) ∧ av = [.int .u8 n] :=
  (Opens.int Tryz.underlying5 (by kernel_rfl)).mono fun av ⟨n, h1, h2⟩ => ⟨n, bounds_u8 h1, h2⟩
end

theorem kids : Kids Pg (· < Pg.types.size) := kids_rows (by kernel_rfl) (by kernel_rfl)
theorem slices_full : ∀ t e, t < Pg.types.size → Pg.underlying t = some (.slice e) → 0 < Pg.cellsOf e := slices_full_of Pg (by kernel_rfl)
theorem ownKnobNone : ownKnob Pg.godebug = none := by kernel_rfl

end Go.Cw
end
