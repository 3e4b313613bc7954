/-
  What the document's reference of layer 3 computes; laws of layer 3; how a rake is read as an argument.
-/
import Derived.Test.YtdfllmjgmdhlpaaGreatLa
import Derived.Test.YtdfllmjgmdhlpaaGreatTa
import Derived.Test.YtdfllmjgmdhlpaaGreatAe
import Derived.Test.YtdfllmjgmdhlpaaGreatAf
import Derived.Test.YtdfllmjgmdhlpaaGreatRows
set_option linter.unusedVariables false
set_option linter.unusedSimpArgs false
set_option linter.unusedSectionVars false

/- The reference: Sets. -/
section
set_option maxRecDepth 100000
set_option linter.unusedSimpArgs false
namespace Go.Cw
open Go Go.Proofs

def setsTo (T : List (List Int)) : Nat → List Int
  | 0 => []
  | k + 1 => if T.any fun t => decide (leaksT t = k) then setsTo T k ++ [(k : Int)] else setsTo T k
theorem setsTo_len (T : List (List Int)) (k : Nat) : (setsTo T k).length ≤ k := by
  induction k with
  | zero => simp [setsTo]
  | succ k ih =>
    unfold setsTo
    split
    · rw [List.length_append]; simp; omega
    · omega
theorem setsTo_mem {T : List (List Int)} {k : Nat} {s : Int} : s ∈ setsTo T k ↔ (0 ≤ s ∧ s < k) ∧ ∃ t ∈ T, leaksT t = s := by
  induction k with
  | zero => simp [setsTo]; omega
  | succ k ih =>
    unfold setsTo
    split
    · rename_i hc
      obtain ⟨t, ht, h1⟩ := List.any_eq_true.1 hc
      rw [List.mem_append, ih, List.mem_singleton]
      constructor
      · rintro (⟨h2, h3⟩ | rfl)
        · exact ⟨by omega, h3⟩
        · exact ⟨by omega, t, ht, by simpa using h1⟩
      · rintro ⟨h2, h3⟩
        by_cases hk : s = k
        · exact .inr hk
        · exact .inl ⟨by omega, h3⟩
    · rename_i hc
      rw [ih]
      constructor
      · rintro ⟨h2, h3⟩; exact ⟨by omega, h3⟩
      · rintro ⟨h2, t, ht, h3⟩
        refine ⟨⟨h2.1, ?_⟩, t, ht, h3⟩
        by_cases hk : s = k
        · exact absurd (List.any_eq_true.2 ⟨t, ht, by simpa [hk] using h3⟩) hc
        · omega
theorem setsTo_lt (T : List (List Int)) (k : Nat) : (setsTo T k).Pairwise (· < ·) := by
  induction k with
  | zero => simp [setsTo]
  | succ k ih =>
    unfold setsTo
    split
    · rw [List.pairwise_append]
      refine ⟨ih, by simp, fun a ha b hb => ?_⟩
      obtain rfl : b = k := by simpa using hb
      have := (setsTo_mem.1 ha).1
      omega
    · exact ih
theorem sorted_ext : ∀ {l m : List Int}, l.Pairwise (· < ·) → m.Pairwise (· < ·) → (∀ x, x ∈ l ↔ x ∈ m) → l = m
  | [], [], _, _, _ => rfl
  | [], b :: m, _, _, h => absurd ((h b).2 (by simp)) (by simp)
  | a :: l, [], _, _, h => absurd ((h a).1 (by simp)) (by simp)
  | a :: l, b :: m, hl, hm, h => by
    have hl' := List.pairwise_cons.1 hl
    have hm' := List.pairwise_cons.1 hm
    have hab : a = b := by
      have h1 := (h a).1 (by simp)
      have h2 := (h b).2 (by simp)
      rcases List.mem_cons.1 h1 with h1 | h1
      · exact h1
      · rcases List.mem_cons.1 h2 with h2 | h2
        · exact h2.symm
        · have := hm'.1 a h1; have := hl'.1 b h2; omega
    subst hab
    congr 1
    refine sorted_ext hl'.2 hm'.2 fun x => ?_
    have hx := h x
    constructor
    · intro hxl
      rcases List.mem_cons.1 (hx.1 (List.mem_cons_of_mem _ hxl)) with h1 | h1
      · have := hl'.1 x hxl; omega
      · exact h1
    · intro hxm
      rcases List.mem_cons.1 (hx.2 (List.mem_cons_of_mem _ hxm)) with h1 | h1
      · have := hm'.1 x hxm; omega
      · exact h1
theorem setsTo_all {h : Hul} (hv : h.Valid) : setsTo (h.truths h.every) (2 ^ h.n) = h.setsL := by
  refine sorted_ext (setsTo_lt _ _) ?_ fun x => ?_
  · exact Rak.S_lt (r := ⟨h, []⟩)
  · rw [setsTo_mem, show x ∈ h.setsL ↔ _ from Rak.mem_S (r := ⟨h, []⟩)]
    constructor
    · rintro ⟨_, h2⟩; exact h2
    · rintro ⟨t, ht, rfl⟩
      have hl := (truths_in hv ht).1
      have := bits_lt (fun i => decide (0 < ofL t i)) t.length
      rw [hl] at this
      refine ⟨⟨?_, ?_⟩, t, ht, rfl⟩
      · unfold leaksT; rw [hl]; exact this.1
      · unfold leaksT; rw [hl]; simpa using this.2

theorem ref01_Sets_ok (h : Hul) (hs : h.Small) : APure Pg fn_ref01_Sets [h.v] h.setsV := by
  have nl : ∀ e : Int, ALe (.tup [.nils, .int .i64 e]) (.tup [L [], .int .i64 e]) := fun e => ALe.tup ⟨ALe.nils_vl, ALe.refl _, trivial⟩
  refine ref01_Sets.pure (by simp) ?_
  simp
  intro s1
  refine PCallK.intro (PInv.func (first := []) (cap := []) (args := [h.v, .bool true]) (ref01_told_ok h hs true)) ?_
  by_cases hv : ¬ h.Valid
  · simp [Hul.toldV, hv]
    exact RetV.ale (nl 1) (RetV.refl (by simp [Hul.setsV, hv]))
  replace hv := Classical.not_not.1 hv
  by_cases hne : h.truths h.every = []
  · simp [Hul.toldV, hv, hne]
    exact RetV.ale (nl 10) (RetV.refl (by simp [Hul.setsV, hv, hne]))
  simp [Hul.toldV, hv, hne]
  obtain ⟨T, hT⟩ : ∃ T, T = h.truths h.every := ⟨_, rfl⟩
  have hTl := truths_len hv h.every
  have hTi : ∀ t ∈ T, t.length = h.n := by rw [hT]; exact fun t ht => (truths_in hv ht).1
  have hall := setsTo_all hv
  rw [← hT] at hTl hall ⊢
  have hn6 := hv.n6
  have hnl : h.seams.length = h.n := rfl
  have hp := two_pow_le hn6
  have e6 : (2 : Int) ^ 6 = 64 := by decide
  have hpn : ((2 ^ h.n : Nat) : Int) = (2 : Int) ^ h.n := by simp
  refine Lp.intro' (σ := Nat × Nat) (inv := fun x => x.1 ≤ 2 ^ h.n) (vw := fun x => [(1, .ptr 1 0 (s1+1)), (4, LLv T), (6, gS 1 46 (setsTo T x.1).length x.2), (7, .int .i64 x.1)])
    (hp := fun x => [(1, .row h.cells (s1+1)), (46, gO (setsTo T x.1).length (ints (setsTo T x.1)) x.2)]) (ms := fun x => 2 ^ h.n - x.1) (0, 0) (by simp)
    (Sl.wk 6 .es (by simpa using ALe.nils_es) (Sl.refl ⟨rfl, by simp [setsTo], by simp [Hul.cells, setsTo]⟩)) ?_
  rintro ⟨k, st⟩ hk J hJ
  simp only at hk
  by_cases hkc : k < 2 ^ h.n
  · have hkc' : (k : Int) < 2 ^ h.n := by omega
    simp [Hul.cells, hnl]
    refine PCallK.intro (PInv.func (ref01_power_ok h.n (by omega))) ?_
    simp [hkc']
    refine Lp.intro (σ := Nat) (inv := fun i => i ≤ T.length) (vw := fun i => [(1, .ptr 1 0 (s1+1)), (4, LLv T), (6, gS 1 46 (setsTo T k).length st), (7, .int .i64 k), (8, .bool ((T.take i).any fun t => decide (leaksT t = k))), (9, .int .i64 i)])
      (hp := fun _ => [(1, .row h.cells (s1+1)), (46, gO (setsTo T k).length (ints (setsTo T k)) st)]) (ms := fun i => T.length - i) 0 (by simp) (by simp) (by simp [Hul.cells]) ?_
    intro i hi J2 hJ2
    by_cases hic : i < T.length
    · obtain ⟨t, ht⟩ : ∃ t, T[i] = t := ⟨_, rfl⟩
      have hget : T[i]? = some t := by rw [List.getElem?_eq_getElem hic, ht]
      have htl : t.length = h.n := hTi t (by rw [← ht]; exact List.getElem_mem hic)
      obtain ⟨b, hb⟩ : ∃ b, b = (T.take i).any fun t => decide (leaksT t = k) := ⟨_, rfl⟩
      have hst : ((T.take (i + 1)).any fun t => decide (leaksT t = k)) = (b || decide (leaksT t = k)) := by
        rw [hb, ← List.take_append_getElem hic, ht, List.any_append]; simp
      cases b with
      | true =>
        simp [hic, hget, ht, ← hb]
        (repeat first | refine And.intro (by omega) ?_ | refine And.intro (Fits.of (by omega) (by omega)) ?_)
        exact hJ2.next (i + 1) (by omega) (by omega) (by simp [hst]) (by simp)
      | false =>
        simp [hic, hget, ht, ← hb]
        refine PCallK.intro (PInv.func (first := []) (cap := []) (args := [L t]) (ref01_LeaksOf_ok t (by omega))) ?_
        simp
        (repeat first | refine And.intro (by omega) ?_ | refine And.intro (Fits.of (by omega) (by omega)) ?_)
        exact hJ2.next (i + 1) (by omega) (by omega) (by simp [hst]) (by simp)
    obtain rfl : i = T.length := by omega
    simp
    refine hJ2.exit ?_
    have hsl := setsTo_len T k
    obtain ⟨b, hb⟩ : ∃ b, b = T.any fun t => decide (leaksT t = k) := ⟨_, rfl⟩
    cases b with
    | true =>
      have hn1 : setsTo T (k + 1) = setsTo T k ++ [(k : Int)] := by rw [setsTo, if_pos hb.symm]
      simp [← hb]
      intro s45 s46
      refine xApN_gS (cells := ints (setsTo T k)) (by simp) (by simp) (by omega) (by omega) ?_
      have hn2 : ints (setsTo T k) ++ [AVal.int .i64 k] = ints (setsTo T (k + 1)) := by rw [hn1]; simp
      have hn3 : (setsTo T (k + 1)).length = (setsTo T k).length + 1 := by rw [hn1]; simp
      rw [hn2]
      simp
      (repeat first | refine And.intro (by omega) ?_ | refine And.intro (Fits.of (by omega) (by omega)) ?_)
      exact hJ.next (k + 1, s46 + 1) (by simp; omega) (by simp; omega) (by simp [hn3]) (by simp [hn3, Hul.cells])
    | false =>
      have hn1 : setsTo T (k + 1) = setsTo T k := by rw [setsTo, if_neg (by rw [← hb]; simp)]
      simp [← hb]
      (repeat first | refine And.intro (by omega) ?_ | refine And.intro (Fits.of (by omega) (by omega)) ?_)
      exact hJ.next (k + 1, st) (by simp; omega) (by simp; omega) (by simp [hn1]) (by simp [hn1, Hul.cells])
  obtain rfl : k = 2 ^ h.n := by omega
  have hcE : ¬ ((2 ^ h.n : Nat) : Int) < 2 ^ h.n := by omega
  simp [Hul.cells, hnl]
  refine PCallK.intro (PInv.func (ref01_power_ok h.n (by omega))) ?_
  simp
  refine hJ.exit ?_
  simp
  rw [hall]
  refine RetV.le (VLe.tup_gS (cells := ints h.setsL) (by simp) (by simp)) (RetV.refl ?_)
  simp [Hul.setsV, hv, ← hT, show T ≠ [] by rw [hT]; exact hne]
  rfl

end Go.Cw
end

/- Rake, the reference: is a rake valid; what agrees; the errors; Known. -/
section
set_option maxRecDepth 100000
set_option linter.unusedSimpArgs false
namespace Go.Cw
open Go Go.Proofs

theorem ref03_in_ok (n lo hi : Int) : APure Pg fn_ref03_in [.int .i64 n, .int .i64 lo, .int .i64 hi] (.bool (decide (lo ≤ n ∧ n ≤ hi))) := by
  refine ref03_in.pure (by simp) ?_
  by_cases h : lo ≤ n <;> simp [h] <;> refine RetV.refl ?_ <;> simp_all
theorem ref03_Rake_ok (r : Rak) (hs : r.Small) : APure Pg fn_ref03_Rake [r.v] (.bool (decide r.Valid)) := by
  have hf40 := hs.f
  have hs40 := hs.h.s
  have cH := ref01_Hull_ok r.h hs.h
  have nv : ¬ r.Valid → decide r.Valid = false := fun h => by simp [h]
  refine ref03_Rake.pure (by simp) ?_
  simp
  intro s1
  refine PCallK.intro (PInv.func (first := []) (cap := []) (args := [r.h.v]) cH) ?_
  by_cases hh : ¬ r.h.Valid
  · simp [hh]
    exact RetV.refl (by simp [show ¬ r.Valid from fun v => hh v.h])
  replace hh := Classical.not_not.1 hh
  by_cases hn : ¬ r.f.length = r.h.seams.length
  · have hn' : ¬ (r.f.length : Int) = r.h.seams.length := by omega
    simp [hh, hn, hn']
    exact RetV.refl (by simp [show ¬ r.Valid from fun v => hn v.len])
  replace hn := Classical.not_not.1 hn
  simp [hh, hn]
  refine Lp.intro (σ := Nat) (inv := fun k => k ≤ r.f.length ∧ ∀ j x, j < k → r.f[j]? = some x → 1 ≤ x ∧ x ≤ 20) (vw := fun k => [(1, .ptr 1 0 (s1+1)), (3, .int .i64 k)]) (hp := fun _ => [(1, .row r.cells (s1+1))]) (ms := fun k => r.f.length - k) 0 (by simp) (by simp) (by simp [Rak.cells]) ?_
  rintro k ⟨hk, inv⟩ J hJ
  by_cases hkc : k < r.f.length
  · obtain ⟨x, hx⟩ : ∃ x, r.f[k] = x := ⟨_, rfl⟩
    simp [hkc, hx, Rak.cells]
    refine PCallK.intro (PInv.func (ref03_in_ok x 1 20)) ?_
    by_cases hxb : 1 ≤ x ∧ x ≤ 20
    · simp [hxb]
      (repeat first | refine And.intro (by omega) ?_ | refine And.intro (Fits.of (by omega) (by omega)) ?_)
      refine hJ.next (k + 1) ⟨by omega, fun j y hj hy => ?_⟩ (by omega) (by simp) (by simp [Rak.cells])
      by_cases e : j = k
      · subst e
        obtain rfl : x = y := by simpa [hkc, hx] using hy
        exact hxb
      · exact inv j y (by omega) hy
    · simp [hxb]
      refine hJ.ret ?_
      simp
      refine RetV.refl ?_
      have : ¬ r.Valid := fun v => hxb (v.fa x (by rw [← hx]; simp))
      simp [this]
  obtain rfl : k = r.f.length := by omega
  simp [Rak.cells]
  refine hJ.exit ?_
  simp
  have : r.Valid := ⟨hh, hn, fun x hx => by
    obtain ⟨j, hj, e⟩ := List.getElem_of_mem hx
    exact inv j x hj (by rw [← e]; simp)⟩
  exact RetV.refl (by simp [this])
theorem ref03_Agrees_ok (s : Int) (hs : 0 ≤ s ∧ s < 2 ^ 62) (i : Nat) (hi : i ≤ 60) (b : Bool) : APure Pg fn_ref03_Agrees [.int .i64 s, .agg [.int .i64 i, .bool b]] (.bool (inS s i == b)) := by
  refine ref03_Agrees.pure (by simp) ?_
  simp
  intro s1
  refine PCallK.intro (PInv.func (ref01_Has_ok s hs i hi)) ?_
  simp
  exact RetV.refl rfl
theorem ref03_check_ok (r : Rak) (hs : r.Small) (l : List (Int × Bool)) (hl : l.length ≤ 40) (is : Bool) : APure Pg fn_ref03_check [r.v, LK l, .bool is] (.int .i64 (r.errC l is)) := by
  refine ref03_check.pure (by simp) ?_
  simp
  intro s3
  refine PCallK.intro (PInv.func (first := []) (cap := []) (args := [r.v]) (ref03_Rake_ok r hs)) ?_
  by_cases hv : ¬ r.Valid
  · simp [hv]
    exact RetV.refl (by simp [Rak.errC, hv])
  replace hv := Classical.not_not.1 hv
  have hn6 := hv.n6
  have hln : r.h.n = r.n := hv.len.symm
  simp [hv]
  refine Lp.intro (σ := Nat) (inv := fun k => k ≤ l.length) (vw := fun k => [(1, LK l), (2, .bool (is && decide (r.Fd (l.take k)))), (3, .ptr 3 0 (s3+1)), (7, .int .i64 k)]) (hp := fun _ => [(3, .row r.cells (s3+1))]) (ms := fun k => l.length - k) 0 (by simp) (by simp [Rak.Fd]) (by simp [Rak.cells]) ?_
  rintro k hk J hJ
  by_cases hkc : k < l.length
  · obtain ⟨x, hx⟩ : ∃ x, l[k] = x := ⟨_, rfl⟩
    have hstep : decide (r.Fd (l.take (k + 1))) = (decide (r.Fd (l.take k)) && decide (r.h.Seam x.1)) := by
      rw [Bool.eq_iff_iff, Bool.and_eq_true, decide_eq_true_eq, decide_eq_true_eq, decide_eq_true_eq, ← List.take_append_getElem hkc, hx]
      unfold Rak.Fd Hul.Seam
      rw [hln]
      constructor
      · intro h
        exact ⟨fun y hy => h y (by simp [hy]), by have := h x (by simp); omega⟩
      · rintro ⟨h1, h2⟩ y hy
        rcases List.mem_append.1 hy with hy | hy
        · exact h1 y hy
        · simp at hy; subst hy; omega
    obtain ⟨b, hb⟩ : ∃ b, b = (is && decide (r.Fd (l.take k))) := ⟨_, rfl⟩
    have hstep2 : (is && decide (r.Fd (l.take (k + 1)))) = (b && decide (r.h.Seam x.1)) := by rw [hstep, hb, Bool.and_assoc]
    rw [← hb]
    cases b
    · simp [hkc, hx, Rak.cells]
      (repeat first | refine And.intro (by omega) ?_ | refine And.intro (Fits.of (by omega) (by omega)) ?_)
      exact hJ.next (k + 1) (by omega) (by omega) (by simp [hstep2]) (by simp [Rak.cells])
    · simp [hkc, hx, Rak.cells]
      refine PCallK.intro (PInv.func (first := []) (cap := []) (args := [r.h.v, .int .i64 x.1]) (ref01_Seam_ok r.h hs.h x.1)) ?_
      simp
      (repeat first | refine And.intro (by omega) ?_ | refine And.intro (Fits.of (by omega) (by omega)) ?_)
      exact hJ.next (k + 1) (by omega) (by omega) (by simp [hstep2]) (by simp [Rak.cells])
  obtain rfl : k = l.length := by omega
  simp
  refine hJ.exit ?_
  by_cases hok : ¬ (is = true ∧ r.Fd l)
  · have e : (is && decide (r.Fd l)) = false := by
      rw [Bool.eq_false_iff, Ne, Bool.and_eq_true, decide_eq_true_eq]; exact hok
    rw [e]
    simp
    refine RetV.refl ?_
    have : ¬ (r.Fd l ∧ is = true) := fun h => hok ⟨h.2, h.1⟩
    simp [Rak.errC, hv, this]
  replace hok := Classical.not_not.1 hok
  have e : (is && decide (r.Fd l)) = true := by rw [Bool.and_eq_true, decide_eq_true_eq]; exact hok
  rw [e]
  simp
  refine Lp.intro (σ := Nat) (inv := fun k => k ≤ l.length ∧ ((l.take k).map Prod.fst).Nodup) (vw := fun k => [(1, LK l), (8, .int .i64 k)]) (hp := fun _ => []) (ms := fun k => l.length - k) 0 (by simp) (by simp) (by simp) ?_
  rintro k ⟨hk, inv⟩ J2 hJ2
  by_cases hkc : k < l.length
  · obtain ⟨x, hx⟩ : ∃ x, l[k] = x := ⟨_, rfl⟩
    simp [hkc]
    refine Lp.intro (σ := Nat) (inv := fun j => j ≤ k ∧ ∀ i (h : i < l.length), i < j → ¬ x.1 = l[i].1) (vw := fun j => [(1, LK l), (8, .int .i64 k), (9, .int .i64 j)]) (hp := fun _ => []) (ms := fun j => k - j) 0 (by simp) (by simp) (by simp) ?_
    rintro j ⟨hj, inv2⟩ J3 hJ3
    by_cases hjc : j < k
    · have hjl : j < l.length := by omega
      by_cases heq : x.1 = l[j].1
      · simp [hjc, hkc, hx, hjl, ← heq]
        refine hJ3.ret (hJ2.ret ?_)
        simp
        refine RetV.refl ?_
        have hno : ¬ Rak.Once l := fun h => by
          have := List.pairwise_iff_getElem.1 h j k (by simp; omega) (by simp; omega) hjc
          simp [hx] at this
          exact this heq.symm
        simp [Rak.errC, hv, hok, hno]
      · simp [hjc, hkc, hx, hjl, heq]
        (repeat first | refine And.intro (by omega) ?_ | refine And.intro (Fits.of (by omega) (by omega)) ?_)
        refine hJ3.next (j + 1) ⟨by omega, fun i h hi => ?_⟩ (by omega) (by simp) (by simp)
        by_cases e : i = j
        · subst e; exact heq
        · exact inv2 i h (by omega)
    obtain rfl : j = k := by omega
    simp
    refine hJ3.exit ?_
    simp
    (repeat first | refine And.intro (by omega) ?_ | refine And.intro (Fits.of (by omega) (by omega)) ?_)
    refine hJ2.next (j + 1) ⟨by omega, ?_⟩ (by omega) (by simp) (by simp)
    rw [← List.take_append_getElem hkc, List.map_append, List.nodup_append, hx]
    refine ⟨inv, by simp, fun a ha b hb => ?_⟩
    simp at hb; subst hb
    obtain ⟨y, hy, rfl⟩ := List.mem_map.1 ha
    obtain ⟨i, hi, rfl⟩ := List.getElem_of_mem hy
    simp at hi
    rw [List.getElem_take]
    exact fun h => inv2 i (by omega) (by omega) h.symm
  obtain rfl : k = l.length := by omega
  simp
  refine hJ2.exit ?_
  simp
  rw [List.take_length] at inv
  exact RetV.refl (by simp [Rak.errC, hv, hok, show Rak.Once l from inv])
theorem ref03_told_ok (r : Rak) (hs : r.Small) (l : List (Int × Bool)) (hl : l.length ≤ 40) (is : Bool) :
    APure Pg fn_ref03_told [r.v, LK l, .bool is] (.tup [L (if r.errE l is = 0 then Rk.agF r.S l else []), .int .i64 (r.errE l is)]) := by
  have nl : ∀ e : Int, ALe (.tup [.nils, .int .i64 e]) (.tup [L [], .int .i64 e]) := fun e => ALe.tup ⟨ALe.nils_vl, ALe.refl _, trivial⟩
  refine ref03_told.pure (by simp) ?_
  simp
  intro s3
  refine PCallK.intro (PInv.func (first := []) (cap := []) (args := [r.v, LK l, .bool is]) (ref03_check_ok r hs l hl is)) ?_
  by_cases hc : ¬ r.errC l is = 0
  · simp [hc]
    have e : r.errE l is = r.errC l is := Rak.errE_C hc
    exact RetV.ale (nl _) (RetV.refl (by simp [e, hc]))
  replace hc := Classical.not_not.1 hc
  obtain ⟨hv, hf, his⟩ := Rak.errC_zero.1 hc
  simp [hc]
  refine PCallK.intro (PInv.func (first := []) (cap := []) (args := [r.h.v]) (ref01_Sets_ok r.h hs.h)) ?_
  have hE : r.errE l is = if Rk.agF r.S l = [] then 10 else 0 := Rak.errE_of hv hf his
  by_cases ht : r.h.truths r.h.every = []
  · have hS := Rak.S_nil.2 ht
    simp [Hul.setsV, hv.h, ht]
    exact RetV.ale (nl _) (RetV.refl (by simp [hE, hS, Rk.agF]))
  have hSV : r.h.setsV = .tup [L r.S, .int .i64 0] := by simp [Hul.setsV, hv.h, ht]; rfl
  rw [hSV]
  have hSl := Rak.S_len hv
  have hSi := Rak.S_in hv
  have hn6 := hv.n6
  have h2p := two_pow_le hn6
  have e6 : (2 : Int) ^ 6 = 64 := by decide
  have e62 : (2 : Int) ^ 62 = 4611686018427387904 := by decide
  obtain ⟨m, hm⟩ : ∃ m : Nat → List Int, m = fun k => (r.S.take k).filter (Rk.agB l) := ⟨_, rfl⟩
  have hml : ∀ k, (m k).length ≤ k := fun k => by
    rw [hm]; have := List.length_filter_le (Rk.agB l) (r.S.take k); simp at this ⊢; omega
  have hm0 : m 0 = [] := by rw [hm]; rfl
  simp
  refine Lp.intro' (σ := Nat × Nat) (inv := fun x => x.1 ≤ r.S.length)
    (vw := fun x => [(1, LK l), (9, L r.S), (11, gS 1 62 (m x.1).length x.2), (12, .int .i64 x.1)])
    (hp := fun x => [(62, gO (m x.1).length (ints (m x.1)) x.2)]) (ms := fun x => r.S.length - x.1) (0, 0) (by simp) (Sl.wk 11 .es (by simpa using ALe.nils_es) (Sl.refl ⟨by simp, by simp [hm0], by simp [hm0]⟩)) ?_
  rintro ⟨k, st⟩ hk J hJ
  simp at hk
  by_cases hkc : k < r.S.length
  · obtain ⟨x, hx⟩ : ∃ x, r.S[k] = x := ⟨_, rfl⟩
    have hxb := hSi x (by rw [← hx]; simp)
    have hmk := hml k
    have hms : m (k + 1) = m k ++ (if Rk.agB l x then [x] else []) := by
      rw [hm]
      simp only [← List.take_append_getElem hkc, List.filter_append, hx]
      congr 1
      cases h : Rk.agB l x
      · simp [h]
      · simp [h]
    simp [hkc]
    refine Lp.intro (σ := Nat) (inv := fun j => j ≤ l.length)
      (vw := fun j => [(1, LK l), (9, L r.S), (11, gS 1 62 (m k).length st), (12, .int .i64 k), (13, .bool (Rk.agB (l.take j) x)), (14, .int .i64 j)])
      (hp := fun _ => [(62, gO (m k).length (ints (m k)) st)]) (ms := fun j => l.length - j) 0 (by simp) (by simp [Rk.agB]) (by simp) ?_
    rintro j hj J2 hJ2
    by_cases hjc : j < l.length
    · obtain ⟨y, hy⟩ : ∃ y, l[j] = y := ⟨_, rfl⟩
      have hyr := hf.rng y (by rw [← hy]; simp)
      obtain ⟨i, hi⟩ : ∃ i : Nat, y.1 = i := ⟨y.1.toNat, by omega⟩
      have hbs : Rk.agB (l.take (j + 1)) x = (Rk.agB (l.take j) x && (inS x i == y.2)) := by
        unfold Rk.agB
        rw [← List.take_append_getElem hjc, List.all_append, hy]
        simp [hi]
      cases hbj : Rk.agB (l.take j) x
      · rw [hbj] at hbs
        simp [hjc]
        (repeat first | refine And.intro (by omega) ?_ | refine And.intro (Fits.of (by omega) (by omega)) ?_)
        exact hJ2.next (j + 1) (by omega) (by omega) (by simp [hbs]) (by simp)
      · rw [hbj] at hbs
        simp [hjc, hkc, hx, hy, hi]
        refine ⟨by omega, ?_⟩
        refine PCallK.intro (PInv.func (ref03_Agrees_ok x (by omega) i (by omega) y.2)) ?_
        simp
        (repeat first | refine And.intro (by omega) ?_ | refine And.intro (Fits.of (by omega) (by omega)) ?_)
        exact hJ2.next (j + 1) (by omega) (by omega) (by simp [hbs]) (by simp)
    obtain rfl : j = l.length := by omega
    simp
    refine hJ2.exit ?_
    cases hbx : Rk.agB l x
    · rw [hbx] at hms
      simp [hbx]
      (repeat first | refine And.intro (by omega) ?_ | refine And.intro (Fits.of (by omega) (by omega)) ?_)
      exact hJ.next (k + 1, st) (by simp; omega) (by simp; omega) (by simp [hms]) (by simp [hms])
    · rw [hbx] at hms
      simp [hbx, hkc, hx]
      intro s4 s5
      refine xApN_gS (cells := ints (m k)) (by simp) (by simp) (by omega) (by omega) ?_
      simp
      (repeat first | refine And.intro (by omega) ?_ | refine And.intro (Fits.of (by omega) (by omega)) ?_)
      exact hJ.next (k + 1, s5 + 1) (by simp; omega) (by simp; omega) (by simp [hms]) (by simp [hms])
  obtain rfl : k = r.S.length := by omega
  have hmE : m r.S.length = Rk.agF r.S l := by rw [hm]; simp only [List.take_length]; rfl
  simp
  refine hJ.exit ?_
  by_cases h0 : Rk.agF r.S l = []
  · simp [hmE, h0]
    exact RetV.ale (nl _) (RetV.refl (by simp [hE, h0]))
  · simp [hmE, h0]
    refine RetV.le (VLe.tup_gS (cells := ints (Rk.agF r.S l)) (by simp) (by simp)) (RetV.refl ?_)
    simp [hE, h0]
    rfl

end Go.Cw
end

/- Rake, the reference: the best seam; Next, Worst, Any. -/
section
set_option maxRecDepth 100000
set_option linter.unusedSimpArgs false
namespace Go.Cw
open Go Go.Proofs

namespace Rk
def bestTo (n : Nat) (q : Int) (g : Nat → Int) (k : Nat) : Option (Nat × Int) := bestR g ((un n q).filter fun i => decide (i < k))
theorem bestTo_zero (n : Nat) (q : Int) (g : Nat → Int) : bestTo n q g 0 = none := by
  unfold bestTo; rw [List.filter_eq_nil_iff.2 (by simp)]; rfl
theorem bestTo_all (n : Nat) (q : Int) (g : Nat → Int) : bestTo n q g n = bestR g (un n q) := by
  unfold bestTo; rw [List.filter_eq_self.2 fun i hi => by simpa using (mem_un.1 hi).1]
theorem bestTo_succ {n : Nat} {q : Int} {g : Nat → Int} {k : Nat} (hk : k < n) : bestTo n q g (k + 1) = if inS q k then bestTo n q g k else betR g (bestTo n q g k) k := by
  have hpush : (un n q).filter (fun i => decide (i < k + 1)) = (un n q).filter (fun i => decide (i < k)) ++ if inS q k then [] else [k] := by
    unfold un
    rw [List.filter_filter, List.filter_filter]
    have e : ∀ m : Nat, m ≤ n → (List.range n).filter (fun i => decide (i < m) && !inS q i) = (List.range m).filter (fun i => !inS q i) := by
      intro m hm
      obtain ⟨d, rfl⟩ := Nat.exists_eq_add_of_le hm
      have e1 : (List.range m).filter (fun i => decide (i < m) && !inS q i) = (List.range m).filter (fun i => !inS q i) := List.filter_congr fun i hi => by simp [List.mem_range.1 hi]
      have e2 : ((List.range d).map (m + ·)).filter (fun i => decide (i < m) && !inS q i) = [] := List.filter_eq_nil_iff.2 fun i hi => by
        obtain ⟨x, _, rfl⟩ := List.mem_map.1 hi
        simp
        intro h; omega
      rw [List.range_add, List.filter_append, e1, e2, List.append_nil]
    rw [e (k + 1) (by omega), e k (by omega), List.range_succ, List.filter_append]
    cases h : inS q k <;> simp [h]
  unfold bestTo
  rw [hpush]
  cases h : inS q k
  · simp only [Bool.false_eq_true, if_false]
    rw [bestR_push]
  · simp
def leastV : Option (Nat × Int) → Int
  | none => -1
  | some b => b.2
end Rk
theorem ref03_power_ok (n : Nat) (hn : n ≤ 60) : APure Pg fn_ref03_power [.int .i64 n] (.int .i64 (2 ^ n)) := by
  refine ref03_power.pure (by simp) ?_
  simp
  refine Lp.intro (σ := Nat) (inv := fun k => k ≤ n) (vw := fun k => [(0, .int .i64 n), (3, .int .i64 (2 ^ k)), (4, .int .i64 k)]) (hp := fun _ => []) (ms := fun k => n - k) 0 (by simp) (by simp) (by simp) ?_
  intro k hk J hJ
  have h1 := two_pow_le (show k ≤ 60 by omega)
  have h2 := two_pow_pos k
  have e60 : (2 : Int) ^ 60 = 1152921504606846976 := by decide
  by_cases hkc : k < n
  · simp [hkc]
    have e : (2 : Int) ^ (k + 1) = 2 * 2 ^ k := by rw [Int.pow_succ]; omega
    refine ⟨by unfold Fits; omega, ?_⟩
    (repeat first | refine And.intro (by omega) ?_ | refine And.intro (Fits.of (by omega) (by omega)) ?_)
    exact hJ.next (k + 1) (by omega) (by omega) (by simp [e]) (by simp)
  obtain rfl : k = n := by omega
  simp
  refine hJ.exit ?_
  simp
  exact RetV.refl rfl
theorem ref03_with_ok (l : List Int) (hl : l.length ≤ 100000) (hb : ∀ s ∈ l, 0 ≤ s ∧ s < 2 ^ 62) (i : Nat) (hi : i ≤ 60) (b : Bool) : APure Pg fn_ref03_with [L l, .int .i64 i, .bool b] (L (Rk.wl l i b)) := by
  obtain ⟨m, hm⟩ : ∃ m : Nat → List Int, m = fun k => Rk.wl (l.take k) i b := ⟨_, rfl⟩
  have hml : ∀ k, (m k).length ≤ k := fun k => by
    rw [hm]; have := List.length_filter_le (fun s => inS s i == b) (l.take k); simp [Rk.wl] at this ⊢; omega
  have hm0 : m 0 = [] := by rw [hm]; rfl
  refine ref03_with.pure (by simp) ?_
  simp
  refine Lp.intro' (σ := Nat × Nat) (inv := fun x => x.1 ≤ l.length)
    (vw := fun x => [(0, L l), (1, .int .i64 i), (2, .bool b), (7, gS 1 29 (m x.1).length x.2), (8, .int .i64 x.1)])
    (hp := fun x => [(29, gO (m x.1).length (ints (m x.1)) x.2)]) (ms := fun x => l.length - x.1) (0, 0) (by simp) (Sl.wk 7 .es (by simpa using ALe.nils_es) (Sl.refl ⟨by simp, by simp [hm0], by simp [hm0]⟩)) ?_
  rintro ⟨k, st⟩ hk J hJ
  simp at hk
  by_cases hkc : k < l.length
  · obtain ⟨x, hx⟩ : ∃ x, l[k] = x := ⟨_, rfl⟩
    have hxb := hb x (by rw [← hx]; simp)
    have hmk := hml k
    have hms : m (k + 1) = m k ++ (if inS x i == b then [x] else []) := by
      rw [hm]
      simp only [Rk.wl, ← List.take_append_getElem hkc, List.filter_append, hx]
      congr 1
      cases h : inS x i == b
      · simp [h]
      · simp [h]
    simp [hkc, hx]
    refine PCallK.intro (PInv.func (ref01_Has_ok x hxb i hi)) ?_
    cases hfx : inS x i == b
    · rw [hfx] at hms
      simp [hfx]
      (repeat first | refine And.intro (by omega) ?_ | refine And.intro (Fits.of (by omega) (by omega)) ?_)
      exact hJ.next (k + 1, st) (by simp; omega) (by simp; omega) (by simp [hms]) (by simp [hms])
    · rw [hfx] at hms
      simp [hfx, hkc, hx]
      intro s4 s5
      refine xApN_gS (cells := ints (m k)) (by simp) (by simp) (by omega) (by omega) ?_
      simp
      (repeat first | refine And.intro (by omega) ?_ | refine And.intro (Fits.of (by omega) (by omega)) ?_)
      exact hJ.next (k + 1, s5 + 1) (by simp; omega) (by simp; omega) (by simp [hms]) (by simp [hms])
  obtain rfl : k = l.length := by omega
  simp
  refine hJ.exit ?_
  simp
  refine RetV.le (VLe.gS (cells := ints (m l.length)) (s := st) (by simp) (by simp)) (RetV.refl ?_)
  have : m l.length = Rk.wl l i b := by rw [hm]; simp only [List.take_length]
  rw [this]; rfl



theorem ref03_told0 (r : Rak) (hs : r.Small) (is : Bool) : PInv Pg (.func (.func fn_ref03_told) [] []) [r.v, .nils, .bool is] (.tup [L (if r.errE [] is = 0 then r.S else []), .int .i64 (r.errE [] is)]) := fun hh => by
  have := ref03_told_ok r hs [] (by simp) is
  rw [Rak.agF_nil] at this
  exact AInvoke.ale (ALe.refl _) (args' := [r.v, LK [], .bool is]) ⟨ALe.refl _, ALe.nils_vl, ALe.refl _, trivial⟩ (PInv.func (first := []) (cap := []) (args := [r.v, LK [], .bool is]) this hh)

theorem Rak.zero_head {r : Rak} (hv : r.Valid) {x : Int} (hx : r.S.head? = some x) : (0 : Int) ∈ r.S ↔ x = 0 := by
  cases hS : r.S with
  | nil => rw [hS] at hx; cases hx
  | cons a l =>
    rw [hS] at hx
    obtain rfl : a = x := by simpa using hx
    have h1 := Rak.S_lt (r := r)
    rw [hS, List.pairwise_cons] at h1
    have h2 := Rak.S_in hv a (by rw [hS]; simp)
    constructor
    · intro h
      rcases List.mem_cons.1 h with h | h
      · exact h.symm
      · have := h1.1 0 h; omega
    · rintro rfl; simp

end Go.Cw
end

/- Rake, the reference: orders, what they cost. -/
section
set_option maxRecDepth 100000
set_option linter.unusedSimpArgs false
namespace Go.Cw
open Go Go.Proofs

theorem ref03_IsOrder_ok (r : Rak) (hs : r.Small) (o : List Int) (ho : o.length ≤ 40) : APure Pg fn_ref03_IsOrder [r.v, L o] (.bool (decide (Rk.IsOrd r.n o))) := by
  have hf40 := hs.f
  have hfn : r.f.length = r.n := rfl
  refine ref03_IsOrder.pure (by simp) ?_
  simp
  intro s2
  refine Lp.intro (σ := Nat) (inv := fun k => k ≤ r.n ∧ ∀ i, i < k → o.count (i : Int) = 1) (vw := fun k => [(1, L o), (2, .ptr 2 0 (s2+1)), (5, .int .i64 k)]) (hp := fun _ => [(2, .row r.cells (s2+1))]) (ms := fun k => r.n - k) 0 ⟨by omega, fun i h => by omega⟩ (by simp) (by simp [Rak.cells]) ?_
  rintro k ⟨hk, inv⟩ J hJ
  by_cases hkc : k < r.n
  · have hkl : k < r.f.length := hkc
    simp [hkl, Rak.cells]
    refine Lp.intro (σ := Nat) (inv := fun j => j ≤ o.length) (vw := fun j => [(1, L o), (2, .ptr 2 0 (s2+1)), (5, .int .i64 k), (6, .int .i64 ((o.take j).count (k : Int) : Nat)), (7, .int .i64 j)]) (hp := fun _ => [(2, .row r.cells (s2+1))]) (ms := fun j => o.length - j) 0 (by simp) (by simp) (by simp [Rak.cells]) ?_
    intro j hj J2 hJ2
    have hcl : (o.take j).count (k : Int) ≤ j := Nat.le_trans List.count_le_length (by simp; omega)
    by_cases hjc : j < o.length
    · obtain ⟨x, hx⟩ : ∃ x, o[j] = x := ⟨_, rfl⟩
      have hst : (o.take (j + 1)).count (k : Int) = (o.take j).count (k : Int) + if x = (k : Int) then 1 else 0 := by
        rw [← List.take_append_getElem hjc, List.count_append, hx, List.count_singleton]
        simp
      by_cases hxk : x = (k : Int)
      · rw [if_pos hxk] at hst
        simp [hjc, hx, hxk]
        (repeat first | refine And.intro (by omega) ?_ | refine And.intro (Fits.of (by omega) (by omega)) ?_)
        exact hJ2.next (j + 1) (by omega) (by omega) (by simp [hst]) (by simp [Rak.cells])
      · rw [if_neg hxk] at hst
        simp [hjc, hx, hxk]
        (repeat first | refine And.intro (by omega) ?_ | refine And.intro (Fits.of (by omega) (by omega)) ?_)
        exact hJ2.next (j + 1) (by omega) (by omega) (by simp [hst]) (by simp [Rak.cells])
    obtain rfl : j = o.length := by omega
    simp
    refine hJ2.exit ?_
    by_cases h1 : o.count (k : Int) = 1
    · simp [h1]
      (repeat first | refine And.intro (by omega) ?_ | refine And.intro (Fits.of (by omega) (by omega)) ?_)
      refine hJ.next (k + 1) ⟨by omega, fun i hi => ?_⟩ (by omega) (by simp) (by simp [Rak.cells])
      by_cases e : i = k
      · subst e; exact h1
      · exact inv i (by omega)
    · simp [show ¬ ((o.count (k : Int) : Nat) : Int) = 1 by omega]
      refine hJ.ret ?_
      simp
      refine RetV.refl ?_
      have : ¬ Rk.IsOrd r.n o := fun h => h1 ((Rk.ord_count h.1).1 h k hkc)
      simp [this]
  obtain rfl : k = r.n := by omega
  simp [Rak.cells, hfn]
  refine hJ.exit ?_
  simp [hfn]
  refine RetV.refl ?_
  refine congrArg (fun b => AEnd.ret (AVal.bool b)) ?_
  rw [Bool.eq_iff_iff, decide_eq_true_eq, decide_eq_true_eq]
  constructor
  · intro h
    have hl : o.length = r.n := by omega
    exact (Rk.ord_count hl).2 inv
  · intro h
    have := h.1
    omega
theorem ref03_cost_ok {r : Rak} (hv : r.Valid) (l : List Int) (hl : l.length ≤ 100000) (hb : ∀ s ∈ l, 0 ≤ s ∧ s < 2 ^ 62) (o : List Nat) (hol : o.length ≤ 40) (hon : ∀ i ∈ o, i < r.n) (s : Int) (hs : 0 ≤ s ∧ s < 2 ^ 62) :
    APure Pg fn_ref03_cost [r.v, L (Rk.toI o), L l, .int .i64 s] (.int .i64 (Rk.costL r.F o l s)) := by
  have hn6 := hv.n6
  have hfn : r.f.length = r.n := rfl
  have hol' : (Rk.toI o).length = o.length := Rk.toI_len o
  refine ref03_cost.pure (by simp) ?_
  simp
  intro s4
  refine Lp.intro (σ := Nat × List Int × Int) (inv := fun x => x.1 ≤ o.length ∧ x.2.1.length ≤ 100000 ∧ (∀ s ∈ x.2.1, 0 ≤ s ∧ s < 2 ^ 62) ∧ x.2.2 + Rk.costL r.F (o.drop x.1) x.2.1 s = Rk.costL r.F o l s ∧ 0 ≤ x.2.2 ∧ x.2.2 ≤ x.1 * 100)
    (vw := fun x => [(1, L (Rk.toI o)), (2, L x.2.1), (3, .int .i64 s), (4, .ptr 4 0 (s4+1)), (9, .int .i64 x.2.2), (10, .int .i64 x.1)])
    (hp := fun x => [(4, .row r.cells (s4+1))]) (ms := fun x => o.length - x.1) (0, l, 0) ⟨by simp, hl, hb, by simp, by simp, by simp⟩ (by simp) (by simp [Rak.cells]) ?_
  rintro ⟨k, m, c⟩ ⟨hk, hml, hmb, hsum, hc0, hc1⟩ J hJ
  simp only at hk hml hmb hsum hc0 hc1
  by_cases hkc : k < o.length
  · have hoi : (Rk.toI o)[k]? = some ((o[k] : Nat) : Int) := by simp [Rk.toI, hkc]
    obtain ⟨i, hi⟩ : ∃ i, o[k] = i := ⟨_, rfl⟩
    rw [hi] at hoi
    have him : i ∈ o := by rw [← hi]; simp
    have hin := hon i him
    have hdr : o.drop k = i :: o.drop (k + 1) := by rw [List.drop_eq_getElem_cons hkc, hi]
    have hoi2 : ∀ h, (Rk.toI o)[k]'h = (i : Int) := fun h => by
      rw [List.getElem?_eq_getElem h] at hoi
      simpa using hoi
    have hcs : Rk.costL r.F (i :: o.drop (k + 1)) m s = if m.length ≤ 1 then 0 else r.F i + Rk.costL r.F (o.drop (k + 1)) (Rk.wl m i (inS s i)) s := by rw [Rk.costL]
    rw [hdr, hcs] at hsum
    by_cases h1 : m.length ≤ 1
    · rw [if_pos h1] at hsum
      simp [hkc, hol', show ¬ (1 : Int) < m.length by omega]
      refine hJ.exit ?_
      simp
      exact RetV.refl (by rw [← hsum]; simp)
    · rw [if_neg h1] at hsum
      have hil : i < r.f.length := hin
      have hFi := Rak.F_in hv i hin
      have hFe : r.f[i] = r.F i := by unfold Rak.F; rw [ofL_at _ hil]
      simp [hkc, hol', show (1 : Int) < m.length by omega, hoi2, Rak.cells, hil, hFe]
      refine ⟨by unfold Fits; omega, ?_⟩
      refine PCallK.intro (PInv.func (ref01_Has_ok s hs i (by omega))) ?_
      simp
      refine PCallK.intro (PInv.func (ref03_with_ok m hml hmb i (by omega) (inS s i))) ?_
      simp
      (repeat first | refine And.intro (by omega) ?_ | refine And.intro (Fits.of (by omega) (by omega)) ?_)
      refine hJ.next (k + 1, Rk.wl m i (inS s i), c + r.F i) ⟨by simp; omega, Nat.le_trans (List.length_filter_le _ _) hml, fun t ht => hmb t (Rk.mem_wl.1 ht).1, by simp only; rw [← hsum]; omega, by simp; omega, by simp; omega⟩ (by simp; omega) (by simp) (by simp [Rak.cells])
  obtain rfl : k = o.length := by omega
  simp [hol']
  refine hJ.exit ?_
  simp
  rw [List.drop_length, show Rk.costL r.F [] m s = 0 by simp [Rk.costL]] at hsum
  exact RetV.refl (by rw [← hsum]; simp)
theorem Rak.ask_set {r : Rak} (hv : r.Valid) {o : List Int} {s : Int} : r.Ask o s ↔ Rk.IsOrd r.n o ∧ r.h.Set s := by
  unfold Rak.Ask Hul.Set
  rw [show r.n = r.h.n from hv.len]
theorem ref03_Cost_ok (r : Rak) (hs : r.Small) (o : List Int) (ho : o.length ≤ 40) (s : Int) : APure Pg fn_ref03_Cost [r.v, L o, .int .i64 s] (r.costV o s) := by
  obtain ⟨b, hb⟩ : ∃ b, b = decide (r.Ask o s) := ⟨_, rfl⟩
  refine ref03_Cost.pure (by simp) ?_
  simp
  intro s3
  refine PCallK.intro (PInv.func (first := []) (cap := []) (args := [r.v]) (ref03_Rake_ok r hs)) ?_
  by_cases hv : ¬ r.Valid
  · simp [hv]
    exact RetV.refl (by simp [Rak.costV, Rak.costP, Rak.errE, hv])
  replace hv := Classical.not_not.1 hv
  have hSl := Rak.S_len hv
  have hSi := Rak.S_in hv
  have h2p := two_pow_le hv.n6
  have e6 : (2 : Int) ^ 6 = 64 := by decide
  have e62 : (2 : Int) ^ 62 = 4611686018427387904 := by decide
  have hask := Rak.ask_set (r := r) hv (o := o) (s := s)
  have cT := ref03_told0 r hs b
  have hcost : r.costV o s = .tup [.int .i64 (if r.errE [] b = 0 then (if s ∈ r.S then Rk.costL r.F (Rk.toN o) r.S s else 0) else 0), .int .i64 (if r.errE [] b = 0 then (if s ∈ r.S then 0 else 4) else r.errE [] b)] := by
    unfold Rak.costV Rak.costP
    rw [← hb]
    split
    · split <;> rfl
    · rfl
  rw [hcost]
  simp [hv]
  refine PCallK.intro (PInv.func (first := []) (cap := []) (args := [r.v, L o]) (ref03_IsOrder_ok r hs o ho)) ?_
  by_cases h1 : Rk.IsOrd r.n o
  · have hb2 : decide (r.h.Set s) = b := by rw [hb]; exact decide_eq_decide.2 (by rw [hask]; exact ⟨fun h => ⟨h1, h⟩, fun h => h.2⟩)
    simp [h1]
    refine PCallK.intro (PInv.func (first := []) (cap := []) (args := [r.h.v, .int .i64 s]) (ref01_Set_ok r.h hs.h s)) ?_
    rw [hb2]
    simp
    refine PCallK.intro cT ?_
    by_cases he : ¬ r.errE [] b = 0
    · simp [he]
      exact RetV.refl rfl
    replace he := Classical.not_not.1 he
    obtain ⟨o', ho', e⟩ := Rk.ord_iff.1 h1
    obtain ⟨m1, m2, m3⟩ := Rk.mem_all.1 ho'
    have cK := fun hin : s ∈ r.S => ref03_cost_ok hv r.S (by omega) (fun s hs => by have := hSi s hs; omega) o' (by have := hv.n6; omega) m3 s (by have := hSi s hin; omega)
    rw [← e, ← Rk.toN_toI o', ← e] at cK
    simp [he]
    refine Lp.intro (σ := Nat) (inv := fun k => k ≤ r.S.length ∧ s ∉ r.S.take k) (vw := fun k => [(1, L o), (2, .int .i64 s), (3, .ptr 3 0 (s3+1)), (8, L r.S), (10, .int .i64 k)]) (hp := fun _ => [(3, .row r.cells (s3+1))]) (ms := fun k => r.S.length - k) 0 ⟨by omega, by simp⟩ (by simp) (by simp [Rak.cells]) ?_
    rintro k ⟨hk, inv⟩ J hJ
    by_cases hkc : k < r.S.length
    · obtain ⟨x, hx⟩ : ∃ x, r.S[k] = x := ⟨_, rfl⟩
      have hxS : x ∈ r.S := by rw [← hx]; simp
      by_cases hxs : x = s
      · subst hxs
        simp [hkc, hx, Rak.cells]
        refine PCallK.intro (PInv.func (first := []) (cap := []) (args := [r.v, L o, L r.S, .int .i64 x]) (cK hxS)) ?_
        simp
        refine hJ.ret ?_
        simp
        exact RetV.refl (by simp [hxS])
      · simp [hkc, hx, hxs]
        (repeat first | refine And.intro (by omega) ?_ | refine And.intro (Fits.of (by omega) (by omega)) ?_)
        refine hJ.next (k + 1) ⟨by omega, ?_⟩ (by omega) (by simp) (by simp)
        rw [← List.take_append_getElem hkc, hx]
        intro h
        rcases List.mem_append.1 h with h | h
        · exact inv h
        · simp at h; exact hxs h.symm
    obtain rfl : k = r.S.length := by omega
    rw [List.take_length] at inv
    simp
    refine hJ.exit ?_
    simp
    exact RetV.refl (by simp [inv])
  · have hb2 : b = false := by rw [hb, decide_eq_false_iff_not, hask]; exact fun h => h1 h.1
    have he : ¬ r.errE [] false = 0 := fun h => by have := (Rak.errE_zero.1 h).2.2.1; simp at this
    rw [hb2] at cT ⊢
    simp [h1]
    refine PCallK.intro cT ?_
    simp [he]
    exact RetV.refl rfl
end Go.Cw
end

/- Rake, the reference: all orders. -/
section
set_option maxRecDepth 100000
set_option linter.unusedSimpArgs false
namespace Go.Cw
open Go Go.Proofs

namespace Rk
theorem flat_len {α β : Type} {g : α → List β} {m : Nat} : ∀ {l : List α}, (∀ i ∈ l, (g i).length ≤ m) → (l.flatMap g).length ≤ l.length * m
  | [], _ => by simp
  | a :: l, h => by
    have h1 := h a (by simp)
    have h2 := flat_len (l := l) fun i hi => h i (by simp [hi])
    rw [List.flatMap_cons, List.length_append, List.length_cons, Nat.succ_mul]
    omega
theorem ords_len (n : Nat) : ∀ (k : Nat) (b : List Nat), (ords n k b).length ≤ n ^ k
  | 0, b => by simp [ords]
  | k + 1, b => by
    simp only [ords]
    have h1 := flat_len (l := fr n b) (g := fun i => ords n k (b ++ [i])) (m := n ^ k) fun i _ => ords_len n k (b ++ [i])
    have h2 : (fr n b).length ≤ n := Nat.le_trans (List.length_filter_le _ _) (by simp)
    have h3 := Nat.mul_le_mul_right (n ^ k) h2
    rw [Nat.pow_succ, Nat.mul_comm (n ^ k) n]
    omega
def oL (l : List (List Nat)) : List (List Int) := l.map toI
theorem oL_append (a b : List (List Nat)) : oL (a ++ b) = oL a ++ oL b := by simp [oL]
end Rk
theorem ref03_orders_ok {n : Nat} (hn : n ≤ 6) (r : Nat) : ∀ (j : Nat) (b : List Nat) (o : List (List Int)) (s : Nat), b.length + j = n → (∀ i ∈ b, i < n) → o.length + (Rk.ords n j b).length ≤ 100000 →
    ∀ K : AEnd → Heap → Prop, (∀ s', K (.ret (gS 1 r (o ++ Rk.oL (Rk.ords n j b)).length s')) (hpV [(r, gO (o ++ Rk.oL (Rk.ords n j b)).length (LL (o ++ Rk.oL (Rk.ords n j b))) s')])) →
      ACalls Pg fn_ref03_orders [.int .i64 n, L (Rk.toI b), gS 1 r o.length s] (hpV [(r, gO o.length (LL o) s)]) K := by
  intro j
  obtain ⟨F, hF⟩ : ∃ F, r < F := ⟨r + 1, by omega⟩
  have e1 : ∀ k, ¬ F + k = r := fun k => by omega
  have e2 : ∀ k, ¬ r = F + k := fun k => by omega
  induction j with
  | zero =>
    intro b o s hb hbn hlen K hK
    have hbl : b.length = n := hb
    have hbl' : (Rk.toI b).length = n := by rw [Rk.toI_len, hbl]
    rw [show Rk.oL (Rk.ords n 0 b) = [Rk.toI b] from rfl] at hK
    rw [show Rk.ords n 0 b = [b] from rfl] at hlen
    simp at hlen
    refine ref03_orders.enter F (by simp) ?_
    simp [hbl']
    intro s2 s3
    refine xApN_gS (cells := LL o) (by simp [e2]) (by simp) (by omega) (by omega) ?_
    simp [e1, e2]
    refine RetV.move (F + 17) r (RetV.view [(r, .row (LL (o ++ [Rk.toI b])) (s3 + 1))] (by simp) ?_)
    simpa using hK (s3 + 1)
  | succ j ih =>
    intro b o s hb hbn hlen K hK
    have hbl : ¬ b.length = n := by omega
    have hbl' : (Rk.toI b).length = b.length := Rk.toI_len b
    have hbl2 : ¬ (Rk.toI b).length = n := by omega
    rw [← Rk.ordsTo_all] at hK hlen
    obtain ⟨OUT, hOUT⟩ : ∃ OUT : Nat → List (List Int), OUT = fun k => o ++ Rk.oL (Rk.ordsTo n j b k) := ⟨_, rfl⟩
    have hO0 : OUT 0 = o := by rw [hOUT]; simp [Rk.ordsTo_zero, Rk.oL]
    have hOs : ∀ k, k < n → OUT (k + 1) = OUT k ++ if k ∈ b then [] else Rk.oL (Rk.ords n j (b ++ [k])) := by
      intro k hk
      rw [hOUT]
      simp only [Rk.ordsTo_succ hk, Rk.oL_append, List.append_assoc]
      split <;> rfl
    have hOl : ∀ k, (OUT k).length = o.length + (Rk.ordsTo n j b k).length := fun k => by rw [hOUT]; simp [Rk.oL]
    have hOm : ∀ k m, k + m ≤ n → (OUT k).length ≤ (OUT (k + m)).length := by
      intro k m
      induction m with
      | zero => intro _; exact Nat.le_refl _
      | succ m ih =>
        intro h
        have := ih (by omega)
        rw [← Nat.add_assoc, hOs _ (by omega), List.length_append]
        omega
    rw [show o ++ Rk.oL (Rk.ordsTo n j b n) = OUT n by rw [hOUT]] at hK
    rw [← hOl] at hlen
    clear hOUT
    refine ref03_orders.enter F (by simp) ?_
    simp [hbl2]
    refine Lp.intro (σ := Nat × Nat) (inv := fun x => x.1 ≤ n)
      (vw := fun x => [(0, .int .i64 n), (1, L (Rk.toI b)), (2, gS 1 r (OUT x.1).length x.2), (7, .int .i64 x.1)])
      (hp := fun x => [(r, gO (OUT x.1).length (LL (OUT x.1)) x.2)])
      (ms := fun x => n - x.1) (0, s) (by simp) (by simp [hO0]) (by simp [hO0]) ?_
    rintro ⟨k, st⟩ hk J hJ
    simp at hk
    by_cases hkc : k < n
    · have hst := hOs k hkc
      simp [hkc]
      refine Lp.intro (σ := Nat) (inv := fun i => i ≤ b.length)
        (vw := fun i => [(0, .int .i64 n), (1, L (Rk.toI b)), (2, gS 1 r (OUT k).length st), (7, .int .i64 k), (8, .bool (decide (k ∉ b.take i))), (9, .int .i64 i)])
        (hp := fun _ => [(r, gO (OUT k).length (LL (OUT k)) st)]) (ms := fun i => b.length - i) 0 (by simp) (by simp) (by simp) ?_
      intro i hi J2 hJ2
      by_cases hic : i < b.length
      · obtain ⟨x, hx⟩ : ∃ x, b[i] = x := ⟨_, rfl⟩
        have hbi : ∀ h, (Rk.toI b)[i]'h = (x : Int) := fun h => by simp [Rk.toI, hx]
        have htk : decide (k ∉ b.take (i + 1)) = (decide (k ∉ b.take i) && !decide ((x : Int) = (k : Int))) := by
          rw [← List.take_append_getElem hic, hx, Bool.eq_iff_iff, decide_eq_true_eq, Bool.and_eq_true, decide_eq_true_eq, List.mem_append, List.mem_singleton, not_or]
          refine and_congr_right fun _ => ?_
          simp
          omega
        by_cases hki : k ∈ b.take i
        · rw [show decide (k ∉ b.take i) = false by simpa using hki] at htk ⊢
          simp [hic, hbl']
          (repeat first | refine And.intro (by omega) ?_ | refine And.intro (Fits.of (by omega) (by omega)) ?_)
          exact hJ2.next (i + 1) (by omega) (by omega) (by simp [htk]) (by simp)
        · rw [show decide (k ∉ b.take i) = true by simpa using hki] at htk ⊢
          simp [hic, hbl', hbi]
          (repeat first | refine And.intro (by omega) ?_ | refine And.intro (Fits.of (by omega) (by omega)) ?_)
          exact hJ2.next (i + 1) (by omega) (by omega) (by simp [htk]) (by simp)
      obtain rfl : i = b.length := by omega
      simp [hbl']
      refine hJ2.exit ?_
      by_cases hkb : k ∈ b
      · rw [if_pos hkb, List.append_nil] at hst
        simp [hkb]
        (repeat first | refine And.intro (by omega) ?_ | refine And.intro (Fits.of (by omega) (by omega)) ?_)
        exact hJ.next (k + 1, st) (by simp; omega) (by simp; omega) (by simp [hst]) (by simp [hst])
      · rw [if_neg hkb] at hst
        simp [hkb]
        have hone : (OUT (k + 1)).length ≤ 100000 := by
          obtain ⟨m, hm⟩ := Nat.exists_eq_add_of_le hkc
          have := hOm (k + 1) m (by omega)
          rw [← hm] at this
          omega
        have call : ∀ (s5 : Nat) (d' : Option Nat) (KK : KT) (Q : Post) (tm : TM) (df : DF) (hh : Heap), hh (F + 45) = .row (ints (Rk.toI (b ++ [k]))) s5 → hh r = gO (OUT k).length (LL (OUT k)) st →
            (∀ s', KK (putD tm d' (gS 1 r (OUT (k + 1)).length s')) df (upd (upd hh r (gO (OUT (k + 1)).length (LL (OUT (k + 1))) s')) (F + 45) .dead)) →
            FCall ⟨Pg, F, 49, false, []⟩ (.func (.func fn_ref03_orders) [] []) [.int .i64 n, .sl (F + 45) 0 s5 (b.length + 1) (.gr 1), gS 1 r (OUT k).length st] [] [] d' KK Q tm df hh := by
          intro s5 d' KK Q tm df hh h1 h2 hk
          refine FCall.cps [(F + 45, .row (ints (Rk.toI (b ++ [k]))) s5), (r, gO (OUT k).length (LL (OUT k)) st)] (fun s' : Nat => gS 1 r (OUT (k + 1)).length s') (fun s' => [(F + 45, .dead), (r, gO (OUT (k + 1)).length (LL (OUT (k + 1))) s')]) (fun _ => True) ?_ ⟨h1, h2, trivial⟩ (fun _ => rfl) trivial (fun s' _ => ⟨trivial, hk s'⟩)
          intro K' hK'
          refine AInvoke.frz (cells := ints (Rk.toI (b ++ [k]))) (s := s5) (F + 45) (upd_same _ _ _) (AInvoke.func ?_)
          have := ih (b ++ [k]) (OUT k) st (by simp; omega) (fun i hi => by
            rcases List.mem_append.1 hi with h | h
            · exact hbn i h
            · simp at h; omega) (by have := congrArg List.length hst; rw [List.length_append] at this; simp [Rk.oL] at this; omega) K' ?_
          · rw [hpV_cons, upd_upd, upd_dead (by simp [e1])]
            simpa [L, e2, frz_gS (e2 45), Rk.toI_len] using this
          · intro s'
            have := hK' s' trivial
            rw [hpV_cons, upd_dead (by simp [e1])] at this
            rw [← hst]
            exact this
        intro s3 s4
        by_cases hb0 : b = []
        · subst hb0
          simp [hkb, e1, e2, Rk.toI]
          intro s5 s6
          refine call _ _ _ _ _ _ _ (by simp [Rk.toI]) (by simp [e2]) fun s' => ?_
          simp
          (repeat first | refine And.intro (by omega) ?_ | refine And.intro (Fits.of (by omega) (by omega)) ?_)
          exact hJ.next (k + 1, s') (by simp; omega) (by simp; omega) (by simp [Rk.toI]) (by simp [e1, e2])
        · have hb1 : (Rk.toI b).length ≠ 0 := by rw [hbl']; simpa using hb0
          simp [xAp_ne hb1, hb1, e1, e2]
          rw [hbl'] at hb1 ⊢
          refine ⟨by omega, fun _ s5 s6 => ⟨by omega, ?_⟩⟩
          refine call _ _ _ _ _ _ _ (by simp [Rk.toI]) (by simp [e2]) fun s' => ?_
          simp
          (repeat first | refine And.intro (by omega) ?_ | refine And.intro (Fits.of (by omega) (by omega)) ?_)
          exact hJ.next (k + 1, s') (by simp; omega) (by simp; omega) (by simp) (by simp [e1, e2])
    obtain rfl : k = n := by omega
    simp
    refine hJ.exit ?_
    simp
    refine RetV.view [(r, gO (OUT k).length (LL (OUT k)) st)] (by simp [e1, e2]) ?_
    exact hK st
end Go.Cw
end

/- Rake, the reference: Order. -/
section
set_option maxRecDepth 100000
set_option linter.unusedSimpArgs false
namespace Go.Cw
open Go Go.Proofs

namespace Rk
def outO : Option (List Nat × Int) → AVal
  | none => .nils
  | some b => L (toI b.1)
def leastO : Option (List Nat × Int) → Int
  | none => -1
  | some b => b.2
end Rk
theorem ref03_Order_ok (r : Rak) (hs : r.Small) : APure Pg fn_ref03_Order [r.v] r.ordV := by
  refine ref03_Order.pure (by simp) ?_
  simp
  intro s1
  refine PCallK.intro (ref03_told0 r hs true) ?_
  by_cases he : ¬ r.errE [] true = 0
  · simp [he]
    exact RetV.ale (v' := .tup [L [], .int .i64 0, .int .i64 (r.errE [] true)]) (ALe.tup ⟨ALe.nils_vl, ALe.refl _, ALe.refl _, trivial⟩) (RetV.refl (by simp [Rak.ordV, Rak.ordL, Rak.ordN, he]))
  replace he := Classical.not_not.1 he
  obtain ⟨hv, _, _, hne⟩ := Rak.errE_zero.1 he
  have hSl := Rak.S_len hv
  have hSi := Rak.S_in hv
  have hn6 := hv.n6
  have hfn : r.f.length = r.n := rfl
  have h2p := two_pow_le hn6
  have e6 : (2 : Int) ^ 6 = 64 := by decide
  have e62 : (2 : Int) ^ 62 = 4611686018427387904 := by decide
  obtain ⟨O, hO⟩ : ∃ O, O = Rk.ords r.n r.n [] := ⟨_, rfl⟩
  have hOl : O.length ≤ 46656 := by
    rw [hO]
    refine Nat.le_trans (Rk.ords_len _ _ _) (Nat.le_trans (Nat.pow_le_pow_left hn6 _) ?_)
    exact Nat.le_trans (Nat.pow_le_pow_right (by omega) hn6) (by decide)
  have hO0 : O ≠ [] := by rw [hO]; exact Rk.ords_ne r.n [] (by simp) (by simp) (by simp)
  have hOp := List.length_pos_iff.2 hO0
  have hoL : (Rk.oL O).length = O.length := by simp [Rk.oL]
  have hall : ∀ o ∈ O, o.length = r.n ∧ o.Nodup ∧ ∀ i ∈ o, i < r.n := fun o ho => Rk.mem_all.1 (by rw [← hO]; exact ho)
  simp [he, hfn]
  refine FCall.cps [(500, .dead)] (fun s' : Nat => gS 1 500 (Rk.oL O).length s') (fun s' => [(500, gO (Rk.oL O).length (LL (Rk.oL O)) s')]) (fun _ => True) ?_ (by simp) (fun _ => rfl) trivial (fun st _ => ⟨trivial, ?_⟩)
  · intro K' hK'
    refine AInvoke.ale (ALe.refl _) (args' := [.int .i64 r.n, L (Rk.toI []), gS 1 500 0 0]) ⟨ALe.refl _, ALe.nils_vl, ALe.nils_es, trivial⟩ (AInvoke.func ?_)
    have := ref03_orders_ok hn6 500 r.n [] [] 0 (by simp) (by simp) (by rw [← hO]; simp; omega) K' ?_
    · simpa [gO] using this
    · intro s'
      rw [← hO]
      simpa using hK' s' trivial
  have hg0 : ∀ o, 0 ≤ Rk.mostL r.F o r.S r.S := fun o => Rk.most_nonneg
  obtain ⟨g, hg⟩ : ∃ g, g = fun o => Rk.mostL r.F o r.S r.S := ⟨_, rfl⟩
  have hgo : ∀ o, Rk.mostL r.F o r.S r.S = g o := fun o => by rw [hg]
  obtain ⟨bb, hbb⟩ : ∃ bb : Nat → Option (List Nat × Int), bb = fun i => Rk.bestO g (O.take i) := ⟨_, rfl⟩
  have hb0 : bb 0 = none := by rw [hbb]; rfl
  have hbt : ∀ i, (bb i = none ∧ Rk.leastO (bb i) = -1) ∨ ∃ b, bb i = some b ∧ Rk.leastO (bb i) = b.2 ∧ 0 ≤ b.2 := fun i => by
    cases hb' : bb i with
    | none => exact .inl ⟨rfl, rfl⟩
    | some b =>
      have hs := Rk.bestO_spec (l := O.take i) (g := g) (by rw [hO]; exact (Rk.ords_lex _ _).sublist (List.take_sublist _ _)) (by rw [hbb] at hb'; exact hb')
      refine .inr ⟨b, rfl, rfl, ?_⟩
      rw [hs.2.1, ← hgo]; exact hg0 _
  simp
  refine Lp.intro' (σ := Nat) (inv := fun i => i ≤ O.length) (vw := fun i => [(1, .ptr 1 0 (s1+1)), (5, L r.S), (7, Rk.outO (bb i)), (8, .int .i64 (Rk.leastO (bb i))), (9, LLv (Rk.oL O)), (10, .int .i64 i)]) (hp := fun _ => [(1, .row r.cells (s1+1))]) (ms := fun i => O.length - i) 0 (by simp)
    (Sl.frz 500 (cells := LL (Rk.oL O)) (s := st) (by simp [gO, hoL, show ¬ O.length = 0 by omega]) (Sl.refl ⟨rfl, by simp [hb0, Rk.outO, Rk.leastO, gS, hoL, show ¬ O.length = 0 by omega, LLv], by simp [Rak.cells]⟩)) ?_
  intro i hi J hJ
  by_cases hic : i < O.length
  · obtain ⟨o, ho⟩ : ∃ o, O[i] = o := ⟨_, rfl⟩
    have hoO : o ∈ O := by rw [← ho]; simp
    obtain ⟨m1, m2, m3⟩ := hall o hoO
    have hget : (Rk.oL O)[i]? = some (Rk.toI o) := by simp [Rk.oL, hic, ho]
    have hicl : i < (Rk.oL O).length := by omega
    have hgete : ∀ h, (Rk.oL O)[i]'h = Rk.toI o := fun h => by simp [Rk.oL, ho]
    have hst : bb (i + 1) = Rk.betO g (bb i) o := by
      rw [hbb]
      simp only [← List.take_append_getElem hic, ho, Rk.bestO_push]
    have hN : bb i = none → bb (i + 1) = some (o, g o) := fun e => by rw [hst, e]; rfl
    have hS : ∀ b, bb i = some b → bb (i + 1) = if g o < b.2 then some (o, g o) else some b := fun b e => by rw [hst, e]; rfl
    simp [hicl, hoL, hic]
    refine Lp.intro (σ := Nat) (inv := fun k => k ≤ r.S.length) (vw := fun k => [(1, .ptr 1 0 (s1+1)), (5, L r.S), (7, Rk.outO (bb i)), (8, .int .i64 (Rk.leastO (bb i))), (9, LLv (Rk.oL O)), (10, .int .i64 i), (11, .int .i64 (Rk.mostL r.F o r.S (r.S.take k))), (12, .int .i64 k)]) (hp := fun _ => [(1, .row r.cells (s1+1))]) (ms := fun k => r.S.length - k) 0 (by simp) (by simp [Rk.mostL]) (by simp [Rak.cells]) ?_
    intro k hk J2 hJ2
    by_cases hkc : k < r.S.length
    · obtain ⟨x, hx⟩ : ∃ x, r.S[k] = x := ⟨_, rfl⟩
      have hxS : x ∈ r.S := by rw [← hx]; simp
      have hxb := hSi x hxS
      have cK := ref03_cost_ok hv r.S (by omega) (fun s hs => by have := hSi s hs; omega) o (by omega) m3 x (by omega)
      have hmt := Rk.most_to (f := r.F) (o := o) (l := r.S) hkc
      rw [hx] at hmt
      simp [hkc, hx, hicl, hoL, hic, hget, hgete, Rak.cells]
      refine PCallK.intro (PInv.func (first := []) (cap := []) (args := [r.v, L (Rk.toI o), L r.S, .int .i64 x]) cK) ?_
      simp [← hmt]
      (repeat first | refine And.intro (by omega) ?_ | refine And.intro (Fits.of (by omega) (by omega)) ?_)
      exact hJ2.next (k + 1) (by omega) (by omega) (by simp) (by simp [Rak.cells])
    obtain rfl : k = r.S.length := by omega
    simp
    refine hJ2.exit ?_
    have hgo' := hg0 o
    simp only [List.take_length, hgo] at hgo' ⊢
    rcases hbt i with ⟨e1, e2⟩ | ⟨b, e1, e2, e3⟩
    · simp [e2, hicl, hoL, hic, hget, hgete]
      (repeat first | refine And.intro (by omega) ?_ | refine And.intro (Fits.of (by omega) (by omega)) ?_)
      exact hJ.next (i + 1) (by omega) (by omega) (by simp [hN e1, Rk.outO, Rk.leastO]) (by simp [Rak.cells])
    · by_cases hlt : g o < b.2
      · simp [e2, hicl, hoL, hic, hget, hgete, hlt, show ¬ b.2 < 0 by omega]
        (repeat first | refine And.intro (by omega) ?_ | refine And.intro (Fits.of (by omega) (by omega)) ?_)
        exact hJ.next (i + 1) (by omega) (by omega) (by simp [hS b e1, hlt, Rk.outO, Rk.leastO]) (by simp [Rak.cells])
      · simp [e2, hlt, show ¬ b.2 < 0 by omega]
        (repeat first | refine And.intro (by omega) ?_ | refine And.intro (Fits.of (by omega) (by omega)) ?_)
        exact hJ.next (i + 1) (by omega) (by omega) (by simp [hS b e1, hlt, e1, Rk.outO, Rk.leastO]) (by simp [Rak.cells])
  obtain rfl : i = O.length := by omega
  simp [hoL]
  refine hJ.exit ?_
  have hP : bb O.length = some (Rk.ordP r.n r.F r.S) := by
    rw [hbb]
    simp only [List.take_length]
    obtain ⟨b, hb⟩ := Rk.bestO_some (g := g) hO0
    rw [hb]
    unfold Rk.ordP
    rw [← hO, ← hg, hb]
    rfl
  simp [hP, Rk.outO, Rk.leastO]
  exact RetV.refl (by simp [Rak.ordV, Rak.ordL, Rak.ordN, he])
end Go.Cw
end

/- Rake, the reference: Enough. -/
section
set_option maxRecDepth 100000
set_option linter.unusedSimpArgs false
namespace Go.Cw
open Go Go.Proofs

namespace Rk
def difB (q a b : Int) (k : Nat) : Bool := (List.range k).any fun i => inS q i && (inS a i != inS b i)
theorem difB_succ (q a b : Int) (k : Nat) : difB q a b (k + 1) = (difB q a b k || (inS q k && (inS a k != inS b k))) := by
  unfold difB; rw [List.range_succ, List.any_append]; simp
theorem difB_same {n : Nat} (hn : n ≤ 6) {q a b : Int} (hq : 0 ≤ q ∧ q < 2 ^ n) : difB q a b 6 = !same n q b a := by
  rw [Bool.eq_iff_iff, Bool.not_eq_true', ← Bool.not_eq_true, same_iff]
  unfold difB
  rw [List.any_eq_true]
  constructor
  · rintro ⟨i, hi, h⟩ hs
    rw [Bool.and_eq_true] at h
    by_cases hin : i < n
    · have := hs i hin h.1
      rw [this] at h
      simp at h
    · rw [inS_big hq (by omega)] at h
      simp at h
  · intro h
    refine Classical.byContradiction fun hc => h fun i hi hqi => ?_
    refine Classical.byContradiction fun hab => hc ⟨i, by simp; omega, ?_⟩
    rw [hqi]
    simp
    exact fun e => hab e.symm
end Rk
theorem ref03_Tells_ok {n : Nat} (hn : n ≤ 6) (l : List Int) (hl : l.length ≤ 100000) (hb : ∀ s ∈ l, 0 ≤ s ∧ s < 2 ^ n) (q : Int) (hq : 0 ≤ q ∧ q < 2 ^ n) : APure Pg fn_ref03_Tells [L l, .int .i64 q] (.bool (decide (Rk.tellsP n l q))) := by
  have h2p := two_pow_le hn
  have e6 : (2 : Int) ^ 6 = 64 := by decide
  have e62 : (2 : Int) ^ 62 = 4611686018427387904 := by decide
  refine ref03_Tells.pure (by simp) ?_
  simp
  refine Lp.intro (σ := Nat) (inv := fun i => i ≤ l.length ∧ (l.take i).Pairwise fun s t => Rk.same n q s t = false) (vw := fun i => [(0, L l), (1, .int .i64 q), (5, .int .i64 i)]) (hp := fun _ => []) (ms := fun i => l.length - i) 0 ⟨by simp, by simp⟩ (by simp) (by simp) ?_
  rintro i ⟨hi, inv⟩ J hJ
  by_cases hic : i < l.length
  · obtain ⟨a, ha⟩ : ∃ a, l[i] = a := ⟨_, rfl⟩
    have hab := hb a (by rw [← ha]; simp)
    simp [hic]
    refine Lp.intro (σ := Nat) (inv := fun k => k ≤ i ∧ ∀ j (h : j < l.length), j < k → Rk.same n q l[j] a = false) (vw := fun k => [(0, L l), (1, .int .i64 q), (5, .int .i64 i), (6, .int .i64 k)]) (hp := fun _ => []) (ms := fun k => i - k) 0 ⟨by simp, fun j _ h => by omega⟩ (by simp) (by simp) ?_
    rintro k ⟨hk, inv2⟩ J2 hJ2
    by_cases hkc : k < i
    · have hkl : k < l.length := by omega
      obtain ⟨c, hc⟩ : ∃ c, l[k] = c := ⟨_, rfl⟩
      have hcb := hb c (by rw [← hc]; simp)
      simp [hkc]
      refine Lp.intro (σ := Nat) (inv := fun s => s ≤ 6) (vw := fun s => [(0, L l), (1, .int .i64 q), (5, .int .i64 i), (6, .int .i64 k), (7, .bool (Rk.difB q a c s)), (8, .int .i64 s)]) (hp := fun _ => []) (ms := fun s => 6 - s) 0 (by simp) (by simp [Rk.difB]) (by simp) ?_
      intro s hs J3 hJ3
      by_cases hsc : s < 6
      · have hsc6 : (s : Int) < 6 := by omega
        have hst := Rk.difB_succ q a c s
        have cQ := ref01_Has_ok q (by omega) s (by omega)
        have cA := ref01_Has_ok a (by omega) s (by omega)
        have cC := ref01_Has_ok c (by omega) s (by omega)
        simp [hsc6, hsc]
        refine PCallK.intro (PInv.func cQ) ?_
        cases hqs : inS q s with
        | false =>
          rw [hqs] at hst
          simp
          (repeat first | refine And.intro (by omega) ?_ | refine And.intro (Fits.of (by omega) (by omega)) ?_)
          exact hJ3.next (s + 1) (by omega) (by omega) (by simp [hst]) (by simp)
        | true =>
          rw [hqs] at hst
          simp [hic, hkl, ha, hc]
          refine PCallK.intro (PInv.func cA) ?_
          simp [hkl, hc]
          refine PCallK.intro (PInv.func cC) ?_
          cases hd : (inS a s != inS c s) with
          | false =>
            rw [hd] at hst
            have hd' : inS a s = inS c s := by simpa using hd
            simp [hd']
            (repeat first | refine And.intro (by omega) ?_ | refine And.intro (Fits.of (by omega) (by omega)) ?_)
            exact hJ3.next (s + 1) (by omega) (by omega) (by simp [hst]) (by simp)
          | true =>
            rw [hd] at hst
            have hd' : ¬ inS a s = inS c s := by simpa using hd
            simp [hd', show (inS a s == inS c s) = false by simpa using hd']
            (repeat first | refine And.intro (by omega) ?_ | refine And.intro (Fits.of (by omega) (by omega)) ?_)
            exact hJ3.next (s + 1) (by omega) (by omega) (by simp [hst]) (by simp)
      obtain rfl : s = 6 := by omega
      simp
      refine hJ3.exit ?_
      have hdE := Rk.difB_same hn (a := a) (b := c) hq
      cases hsm : Rk.same n q c a with
      | true =>
        rw [hsm] at hdE
        simp [hdE]
        refine hJ2.ret (hJ.ret ?_)
        simp
        refine RetV.refl ?_
        have hno : ¬ Rk.tellsP n l q := fun h => by
          have := List.pairwise_iff_getElem.1 h k i hkl hic hkc
          rw [hc, ha, hsm] at this; cases this
        simp [hno]
      | false =>
        rw [hsm] at hdE
        simp [hdE]
        (repeat first | refine And.intro (by omega) ?_ | refine And.intro (Fits.of (by omega) (by omega)) ?_)
        refine hJ2.next (k + 1) ⟨by omega, fun j h hj => ?_⟩ (by omega) (by simp) (by simp)
        by_cases e : j = k
        · subst e; rw [hc]; exact hsm
        · exact inv2 j h (by omega)
    obtain rfl : k = i := by omega
    simp
    refine hJ2.exit ?_
    simp
    (repeat first | refine And.intro (by omega) ?_ | refine And.intro (Fits.of (by omega) (by omega)) ?_)
    refine hJ.next (k + 1) ⟨by omega, ?_⟩ (by omega) (by simp) (by simp)
    rw [← List.take_append_getElem hic, ha, List.pairwise_append]
    refine ⟨inv, by simp, fun s hs t ht => ?_⟩
    simp at ht; subst ht
    obtain ⟨j, hj, rfl⟩ := List.getElem_of_mem hs
    simp at hj
    rw [List.getElem_take]
    exact inv2 j (by omega) (by omega)
  obtain rfl : i = l.length := by omega
  rw [List.take_length] at inv
  simp
  refine hJ.exit ?_
  simp
  exact RetV.refl (by simp [show Rk.tellsP n l q from inv])
theorem ref03_Length_ok (r : Rak) (hf40 : r.f.length ≤ 40) (hF : ∀ i, i < r.n → 0 ≤ r.F i ∧ r.F i ≤ 1000000) (q : Int) (hq : 0 ≤ q ∧ q < 2 ^ 62) : APure Pg fn_ref03_Length [r.v, .int .i64 q] (.int .i64 (Rk.lenS r.F r.n q)) := by
  have hfn : r.f.length = r.n := rfl
  have hb : ∀ k, k ≤ r.n → 0 ≤ Rk.lenS r.F k q ∧ Rk.lenS r.F k q ≤ k * 1000000 := by
    intro k
    induction k with
    | zero => intro _; simp [Rk.lenS_0]
    | succ k ih =>
      intro hk
      have h1 := ih (by omega)
      have h2 := hF k (by omega)
      rw [Rk.lenS_succ]
      split <;> omega
  refine ref03_Length.pure (by simp) ?_
  simp
  intro s2
  refine Lp.intro (σ := Nat) (inv := fun k => k ≤ r.n) (vw := fun k => [(1, .int .i64 q), (2, .ptr 2 0 (s2+1)), (5, .int .i64 (Rk.lenS r.F k q)), (6, .int .i64 k)])
    (hp := fun _ => [(2, .row r.cells (s2+1))]) (ms := fun k => r.n - k) 0 (by simp) (by simp [Rk.lenS_0]) (by simp [Rak.cells]) ?_
  intro k hk J hJ
  have hbk := hb k hk
  by_cases hkc : k < r.n
  · have hkl : k < r.f.length := hkc
    have hFk := hF k hkc
    have hFe : r.f[k] = r.F k := by unfold Rak.F; rw [ofL_at _ hkl]
    have hst := Rk.lenS_succ r.F k q
    simp [hkl, Rak.cells]
    refine PCallK.intro (PInv.func (ref01_Has_ok q hq k (by omega))) ?_
    cases hkq : inS q k with
    | false =>
      rw [hkq] at hst
      simp
      (repeat first | refine And.intro (by omega) ?_ | refine And.intro (Fits.of (by omega) (by omega)) ?_)
      exact hJ.next (k + 1) (by omega) (by omega) (by simp [hst]) (by simp [Rak.cells])
    | true =>
      rw [hkq] at hst
      simp [hkl, hFe]
      refine ⟨by unfold Fits; omega, ?_⟩
      (repeat first | refine And.intro (by omega) ?_ | refine And.intro (Fits.of (by omega) (by omega)) ?_)
      exact hJ.next (k + 1) (by omega) (by omega) (by simp [hst]) (by simp [Rak.cells])
  obtain rfl : k = r.n := by omega
  simp [Rak.cells, hfn]
  refine hJ.exit ?_
  simp
  exact RetV.refl rfl
theorem ref03_Enough_ok (r : Rak) (hs : r.Small) : APure Pg fn_ref03_Enough [r.v] r.enV := by
  refine ref03_Enough.pure (by simp) ?_
  simp
  intro s1
  refine PCallK.intro (ref03_told0 r hs true) ?_
  by_cases he : ¬ r.errE [] true = 0
  · simp [he]
    exact RetV.refl (by simp [Rak.enV, he])
  replace he := Classical.not_not.1 he
  obtain ⟨hv, _, _, hne⟩ := Rak.errE_zero.1 he
  have hSl := Rak.S_len hv
  have hSi := Rak.S_in hv
  have hn6 := hv.n6
  have hf40 := hs.f
  have hfn : r.f.length = r.n := rfl
  have h2p := two_pow_le hn6
  have h2q := two_pow_pos r.n
  have e6 : (2 : Int) ^ 6 = 64 := by decide
  have e62 : (2 : Int) ^ 62 = 4611686018427387904 := by decide
  have hpc := Rk.pow_cast r.n
  have cL := fun q hq => ref03_Length_ok r hf40 (fun i hi => by have := Rak.F_in hv i hi; omega) q hq
  simp [he, hfn]
  refine PCallK.intro (PInv.func (ref03_power_ok r.n (by omega))) ?_
  simp
  refine ⟨by unfold Fits; omega, ?_⟩
  refine Lp.intro (σ := Nat × Nat) (inv := fun x => x.1 ≤ 2 ^ r.n ∧ x.2 < 2 ^ r.n ∧ Rk.refE r.n r.F r.S x.1 x.2 = Rk.refE r.n r.F r.S (2 ^ r.n) (2 ^ r.n - 1)) (vw := fun x => [(1, .ptr 1 0 (s1+1)), (5, L r.S), (7, .int .i64 x.2), (8, .int .i64 ((x.1 : Int) - 1))])
    (hp := fun _ => [(1, .row r.cells (s1+1))]) (ms := fun x => x.1) (2 ^ r.n, 2 ^ r.n - 1) ⟨Nat.le_refl _, by omega, rfl⟩ (by simp; omega) (by simp [Rak.cells]) ?_
  rintro ⟨m, b⟩ ⟨hm, hb, inv⟩ J hJ
  simp only at hm hb inv
  cases m with
  | zero =>
    have hP : b = (Rk.enP r.n r.F r.S).1 := by
      rw [← Rk.refE_eq (Rak.S_nodup) hSi, ← inv]; rfl
    simp
    refine hJ.exit ?_
    simp [Rak.cells]
    refine PCallK.intro (PInv.func (first := []) (cap := []) (args := [r.v, .int .i64 b]) (cL b (by omega))) ?_
    simp
    refine RetV.refl ?_
    have := (Rk.enP_spec (n := r.n) (f := r.F) Rak.S_nodup hSi).2.2.1
    simp [Rak.enV, he, this, hP]
  | succ m =>
    have cT := ref03_Tells_ok hn6 r.S (by omega) hSi (m : Int) (by omega)
    have hstep : Rk.refE r.n r.F r.S (m + 1) b = Rk.refE r.n r.F r.S m (if Rk.tellsP r.n r.S (m : Int) ∧ Rk.lenS r.F r.n (m : Int) ≤ Rk.lenS r.F r.n (b : Int) then m else b) := rfl
    rw [hstep] at inv
    have hm1 : (((m + 1 : Nat) : Int) - 1) = m := by omega
    simp [hm1]
    refine PCallK.intro (PInv.func cT) ?_
    by_cases ht : Rk.tellsP r.n r.S (m : Int)
    · simp [ht, Rak.cells]
      refine PCallK.intro (PInv.func (first := []) (cap := []) (args := [r.v, .int .i64 m]) (cL m (by omega))) ?_
      simp
      refine PCallK.intro (PInv.func (first := []) (cap := []) (args := [r.v, .int .i64 b]) (cL b (by omega))) ?_
      by_cases hle : Rk.lenS r.F r.n (m : Int) ≤ Rk.lenS r.F r.n (b : Int)
      · rw [if_pos ⟨ht, hle⟩] at inv
        simp [hle]
        (repeat first | refine And.intro (by omega) ?_ | refine And.intro (Fits.of (by omega) (by omega)) ?_)
        exact hJ.next (m, m) ⟨by simp only; omega, by simp only; omega, inv⟩ (by simp) (by simp) (by simp [Rak.cells])
      · rw [if_neg (fun h => hle h.2)] at inv
        simp [hle]
        (repeat first | refine And.intro (by omega) ?_ | refine And.intro (Fits.of (by omega) (by omega)) ?_)
        exact hJ.next (m, b) ⟨by simp only; omega, by simp only; omega, inv⟩ (by simp) (by simp) (by simp [Rak.cells])
    · rw [if_neg (fun h => ht h.1)] at inv
      simp [ht]
      (repeat first | refine And.intro (by omega) ?_ | refine And.intro (Fits.of (by omega) (by omega)) ?_)
      exact hJ.next (m, b) ⟨by simp only; omega, by simp only; omega, inv⟩ (by simp) (by simp) (by simp [Rak.cells])
end Go.Cw
end

/- Rake: what the document fixes of its example is met; which rakes a law goes through. -/
section
set_option maxRecDepth 100000
set_option linter.unusedSimpArgs false
namespace Go.Cw
open Go Go.Proofs

def rsm : Rak := ⟨⟨[⟨2, 0, 3⟩, ⟨5, -1, 2⟩, ⟨5, 1, 4⟩], [⟨3, 0, 1, 2⟩, ⟨6, 0, 4, 4⟩]⟩, [4, 3, 5]⟩
theorem rsm_small : rsm.Small := ⟨⟨by simp [rsm], by simp [rsm]⟩, by simp [rsm]⟩
theorem rsm_valid : rsm.Valid := ⟨⟨by simp [rsm, Hul.n], by simp [rsm, Hul.n], by simp [rsm, Hul.k], by decide, by decide⟩, by simp [rsm, Hul.n], by decide⟩
theorem rsm_S : rsm.S = [3, 5, 7] := by
  have h : rsm.h.truths rsm.h.every = [[1, 0, 3], [1, 1, 2], [1, 2, 1], [2, 0, 2], [2, 1, 1], [2, 2, 0]] := by decide +kernel
  unfold Rak.S Hul.setsL
  rw [h]
  exact sortI_eq (by decide +kernel) (by unfold SortedI; decide +kernel)
theorem rsm_n : rsm.n = 3 := rfl
theorem rsm_F : rsm.F = ofL [4, 3, 5] := rfl
def rsmE (l : List (Int × Bool)) (is : Bool) : Int := if (∀ x ∈ l, 0 ≤ x.1 ∧ x.1 < ((3 : Nat) : Int)) ∧ is = true then (if (l.map Prod.fst).Nodup then (if Rk.agF [3, 5, 7] l = [] then 10 else 0) else 5) else 2
theorem rsm_err (l : List (Int × Bool)) (is : Bool) : rsm.errE l is = rsmE l is := by
  unfold Rak.errE rsmE
  rw [if_pos rsm_valid, rsm_S]
  rfl
theorem rsm_known (l : List (Int × Bool)) {X : List Int} {e : Int} (h : ((if rsmE l true = 0 then Rk.agF [3, 5, 7] l else []), rsmE l true) = (X, e)) : rsm.knownV l = .tup [L X, .int .i64 e] := by
  rw [Prod.mk.injEq] at h
  unfold Rak.knownV
  rw [rsm_err, rsm_S, h.1, h.2]
theorem rsm_next (l : List (Int × Bool)) {a : Nat} {b e : Int} (h : (if rsmE l true = 0 then (if (Rk.agF [3, 5, 7] l).length ≤ 1 then (0, 0, 4) else ((Rk.planQ 3 (ofL [4, 3, 5]) false (Rk.agF [3, 5, 7] l) (Rk.fq l)).1, (Rk.planQ 3 (ofL [4, 3, 5]) false (Rk.agF [3, 5, 7] l) (Rk.fq l)).2, 0)) else (0, 0, rsmE l true)) = ((a, b, e) : Nat × Int × Int)) : rsm.nextV l = .tup [.int .i64 a, .int .i64 b, .int .i64 e] := by
  have : rsm.nextP l = (a, b, e) := by
    rw [← h]
    unfold Rak.nextP
    rw [rsm_err, rsm_S, rsm_n, rsm_F]
  unfold Rak.nextV
  rw [this]
theorem rsm_worst : rsm.worstV = .tup [.int .i64 8, .int .i64 0] := by
  unfold Rak.worstV
  rw [rsm_err, rsm_S, rsm_n, rsm_F, show rsmE [] true = 0 by decide +kernel, show Rk.planQ 3 (ofL [4, 3, 5]) false [3, 5, 7] 0 = (1, 8) by decide +kernel]
  rfl
theorem rsm_any : rsm.anyV = .tup [.int .i64 0, .int .i64 4, .int .i64 0] := by
  unfold Rak.anyV Rak.anyP
  rw [rsm_err, rsm_S, rsm_n, rsm_F, show rsmE [] true = 0 by decide +kernel, show Rk.planQ 3 (ofL [4, 3, 5]) true [3, 5, 7] 0 = (0, 4) by decide +kernel]
  rfl
theorem rsm_ord : rsm.ordV = .tup [L [1, 2, 0], .int .i64 8, .int .i64 0] := by
  unfold Rak.ordV Rak.ordL Rak.ordN
  rw [rsm_err, rsm_S, rsm_n, rsm_F, show rsmE [] true = 0 by decide +kernel, show Rk.ordP 3 (ofL [4, 3, 5]) [3, 5, 7] = ([1, 2, 0], 8) by decide +kernel]
  rfl
theorem rsm_en : rsm.enV = .tup [.int .i64 6, .int .i64 8, .int .i64 0] := by
  unfold Rak.enV
  rw [rsm_err, rsm_S, rsm_n, rsm_F, show rsmE [] true = 0 by decide +kernel, show Rk.enP 3 (ofL [4, 3, 5]) [3, 5, 7] = (6, 8) by decide +kernel]
  rfl
theorem rsm_cost (o : List Int) (s : Int) (ho : Rk.IsOrd 3 o ∧ 0 ≤ s ∧ s < 2 ^ 3) {a e : Int} (h : (if s ∈ [3, 5, 7] then (Rk.costL (ofL [4, 3, 5]) (Rk.toN o) [3, 5, 7] s, 0) else (0, 4)) = ((a, e) : Int × Int)) : rsm.costV o s = .tup [.int .i64 a, .int .i64 e] := by
  have hA : rsm.Ask o s := ho
  have : rsm.costP o s = (a, e) := by
    rw [← h]
    unfold Rak.costP
    rw [decide_eq_true hA, rsm_err, rsm_S, rsm_F, show rsmE [] true = 0 by decide +kernel]
    rfl
  unfold Rak.costV
  rw [this]

theorem law03_span_ok (a b : Int) : APure Pg fn_law03_span [.int .i64 a, .int .i64 b] (SP2 (a, b)) := by
  refine law03_span.pure (by simp) ?_
  simp
  intro s
  exact RetV.refl (by simp [SP2])
theorem law03_find_ok (a : Int) (b : Bool) : APure Pg fn_law03_find [.int .i64 a, .bool b] (.agg [.int .i64 a, .bool b]) := by
  refine law03_find.pure (by simp) ?_
  simp
  intro s
  exact RetV.refl (by simp)
theorem law03_ints_ok (a b : List Int) (ha : a.length ≤ 100000) (hb : b.length ≤ 100000) : APure Pg fn_law03_ints [L a, L b] (.bool (decide (a = b))) := by
  refine law03_ints.pure (by simp) ?_
  simp
  refine PCallK.intro (PInv.func (ref01_Ints_ok a b ha hb)) ?_
  simp
  exact RetV.refl rfl
theorem law03_sample_ok : APure Pg fn_law03_sample [] rsm.v := by
  refine law03_sample.pure (by simp) ?_
  simp
  intro s1 s2
  refine PCallK.intro (PInv.func (law03_span_ok _ _)) ?_
  simp [SP2]
  refine PCallK.intro (PInv.func (law03_span_ok _ _)) ?_
  simp [SP2]
  intro s3 s4
  refine RetV.frz 4 rfl (RetV.frz 9 rfl (RetV.frz 11 rfl (RetV.refl ?_)))
  simp [rsm, LS, LD, sms, sds, fl, Sm.c, Sd.c, L, ints]
theorem law03_alive_ok : APure Pg fn_law03_alive [] (.bool true) := by
  refine law03_alive.pure (by simp) ?_
  simp
  refine PCallK.intro (PInv.func law03_sample_ok) ?_
  simp
  refine PCallK.intro (PInv.func (law03_find_ok 1 true)) ?_
  simp
  intro s1
  refine FCall.frz1 22 rfl (v := .tup [L [3, 7], .int .i64 0]) ?_ trivial ?_
  · have := rake_Known_ok rsm rsm_small [(1, true)] (by simp)
    rw [rsm_known [(1, true)] (X := [3, 7]) (e := 0) (by decide +kernel)] at this
    simpa [LK, fds, fl, fdC] using PInv.func (first := []) (cap := []) (args := [rsm.v, LK [(1, true)]]) this
  simp
  refine PCallK.intro (PInv.func law03_sample_ok) ?_
  simp
  refine PCallK.intro (v := .tup [.int .i64 1, .int .i64 8, .int .i64 0]) (fun hh => AInvoke.ale (ALe.refl _) (args' := [rsm.v, LK []]) ⟨ALe.refl _, ALe.nils_vl, trivial⟩ (PInv.func (first := []) (cap := []) (args := [rsm.v, LK []]) (by
    have := rake_Next_ok rsm rsm_small [] (by simp)
    rw [rsm_next [] (a := 1) (b := 8) (e := 0) (by decide +kernel)] at this
    exact this) hh)) ?_
  simp
  refine PCallK.intro (PInv.func law03_sample_ok) ?_
  simp
  refine PCallK.intro (PInv.func (first := []) (cap := []) (args := [rsm.v]) (rake_Worst_ok rsm rsm_small)) ?_
  rw [rsm_worst]
  simp
  refine PCallK.intro (PInv.func law03_sample_ok) ?_
  simp
  intro s2
  refine FCall.frz1 39 rfl (v := .tup [.int .i64 3, .int .i64 0]) ?_ trivial ?_
  · have := rake_Cost_ok rsm rsm_small [1, 2, 0] (by simp) 5
    rw [rsm_cost [1, 2, 0] 5 (by decide +kernel) (a := 3) (e := 0) (by decide +kernel)] at this
    simpa [L] using PInv.func (first := []) (cap := []) (args := [rsm.v, L [1, 2, 0], .int .i64 5]) this
  simp
  refine PCallK.intro (PInv.func law03_sample_ok) ?_
  simp
  refine PCallK.intro (PInv.func (first := []) (cap := []) (args := [rsm.v]) (rake_Order_ok rsm rsm_small)) ?_
  rw [rsm_ord]
  simp
  refine PCallK.intro (PInv.func law03_sample_ok) ?_
  simp
  refine PCallK.intro (PInv.func (first := []) (cap := []) (args := [rsm.v]) (rake_Enough_ok rsm rsm_small)) ?_
  rw [rsm_en]
  simp
  refine PCallK.intro (PInv.func law03_sample_ok) ?_
  simp
  refine PCallK.intro (PInv.func (first := []) (cap := []) (args := [rsm.v]) (rake_Any_ok rsm rsm_small)) ?_
  rw [rsm_any]
  simp
  intro s3
  refine FCall.frz1 62 rfl (v := .bool true) ?_ trivial ?_
  · simpa [L] using PInv.func (first := []) (cap := []) (args := [L [3, 7], L [3, 7]]) (law03_ints_ok [3, 7] [3, 7] (by simp) (by simp))
  simp
  intro s4
  refine FCall.frz1 98 rfl (v := .bool true) ?_ trivial ?_
  · simpa [L] using PInv.func (first := []) (cap := []) (args := [L [1, 2, 0], L [1, 2, 0]]) (law03_ints_ok [1, 2, 0] [1, 2, 0] (by simp) (by simp))
  simp
  exact RetV.refl rfl
def Rak.many (r : Rak) (l : List (Int × Bool)) (ls : List (List Int)) : Int := ls.foldl (fun m x => max m (x.length : Int)) (max (max (max (r.h.seams.length : Int) (r.h.snds.length : Int)) (r.f.length : Int)) (l.length : Int))
def Rak.longB (r : Rak) (l : List (Int × Bool)) (ls : List (List Int)) : Bool := decide (40 < r.many l ls)
theorem Rak.many_push (r : Rak) (l : List (Int × Bool)) (ls : List (List Int)) (x : List Int) : r.many l (ls ++ [x]) = max (r.many l ls) (x.length : Int) := by simp [Rak.many]
theorem Rak.many_le {r : Rak} {l : List (Int × Bool)} (ls : List (List Int)) : r.h.seams.length ≤ r.many l ls ∧ r.h.snds.length ≤ r.many l ls ∧ r.f.length ≤ r.many l ls ∧ l.length ≤ r.many l ls ∧ ∀ x ∈ ls, (x.length : Int) ≤ r.many l ls := by
  induction ls using Rk.push_ind with
  | h0 => simp [Rak.many]; omega
  | h1 ls x ih =>
    rw [Rak.many_push]
    obtain ⟨a, b, c, d, e⟩ := ih
    refine ⟨by omega, by omega, by omega, by omega, fun y hy => ?_⟩
    rcases List.mem_append.1 hy with h | h
    · have := e y h; omega
    · simp at h; subst h; omega
theorem Rak.short {r : Rak} {l : List (Int × Bool)} {ls : List (List Int)} (h : r.longB l ls = false) : r.Small ∧ l.length ≤ 40 ∧ ∀ x ∈ ls, x.length ≤ 40 := by
  unfold Rak.longB at h
  rw [decide_eq_false_iff_not] at h
  obtain ⟨a, b, c, d, e⟩ := Rak.many_le (r := r) (l := l) ls
  exact ⟨⟨⟨by omega, by omega⟩, by omega⟩, by omega, fun x hx => by have := e x hx; omega⟩
theorem law03_long_ok (r : Rak) (l : List (Int × Bool)) (ls : List (List Int)) (hls : ls.length ≤ 10) : APure Pg fn_law03_long [r.v, LK l, LLv ls] (.bool (r.longB l ls)) := by
  refine law03_long.pure (by simp) ?_
  simp
  intro s3
  refine Lp.intro (σ := Nat) (inv := fun k => k ≤ ls.length) (vw := fun k => [(7, .int .i64 (r.many l (ls.take k))), (24, LLv ls), (25, .int .i64 ls.length), (26, .int .i64 k)]) (hp := fun _ => []) (ms := fun k => ls.length - k) 0 (by simp) (by simp [Rak.many]) (by simp) ?_
  intro k hk J hJ
  by_cases hkc : k < ls.length
  · obtain ⟨x, hx⟩ : ∃ x, ls[k] = x := ⟨_, rfl⟩
    have hst : r.many l (ls.take (k + 1)) = max (r.many l (ls.take k)) (x.length : Int) := by rw [← List.take_append_getElem hkc, hx, Rak.many_push]
    have hget : ls[k]? = some x := by rw [List.getElem?_eq_getElem hkc, hx]
    simp [hkc, hget, hx, ← hst]
    (repeat first | refine And.intro (by omega) ?_ | refine And.intro (Fits.of (by omega) (by omega)) ?_)
    exact hJ.next (k + 1) (by omega) (by omega) (by simp) (by simp)
  obtain rfl : k = ls.length := by omega
  simp
  refine hJ.exit ?_
  simp
  exact RetV.refl (by simp [Rak.longB])
theorem law03_long0 (r : Rak) (l : List (Int × Bool)) : PInv Pg (.func (.func fn_law03_long) [] []) [r.v, LK l, .nils] (.bool (r.longB l [])) := fun hh =>
  AInvoke.ale (ALe.refl _) (args' := [r.v, LK l, LLv []]) ⟨ALe.refl _, ALe.refl _, ALe.nils_vl, trivial⟩ (PInv.func (first := []) (cap := []) (args := [r.v, LK l, LLv []]) (law03_long_ok r l [] (by simp)) hh)
theorem law03_long00 (r : Rak) : PInv Pg (.func (.func fn_law03_long) [] []) [r.v, .nils, .nils] (.bool (r.longB [] [])) := fun hh =>
  AInvoke.ale (ALe.refl _) (args' := [r.v, LK [], .nils]) ⟨ALe.refl _, ALe.nils_vl, ALe.refl _, trivial⟩ (law03_long0 r [] hh)
noncomputable def Rak.heavyB (r : Rak) (n : Int) (l : List (Int × Bool)) (ls : List (List Int)) : Bool := if r.longB l ls then true else if r.Valid then decide (n < (r.n : Int)) else false
theorem law03_heavy_ok (r : Rak) (n : Int) (l : List (Int × Bool)) (ls : List (List Int)) (hls : ls.length ≤ 10) : APure Pg fn_law03_heavy [r.v, .int .i64 n, LK l, LLv ls] (.bool (r.heavyB n l ls)) := by
  refine law03_heavy.pure (by simp) ?_
  simp
  intro s4
  refine PCallK.intro (PInv.func (first := []) (cap := []) (args := [r.v, LK l, LLv ls]) (law03_long_ok r l ls hls)) ?_
  cases hl : r.longB l ls with
  | true =>
    simp
    exact RetV.refl (by simp [Rak.heavyB, hl])
  | false =>
    have hs := (Rak.short hl).1
    simp
    refine PCallK.intro (PInv.func (first := []) (cap := []) (args := [r.v]) (ref03_Rake_ok r hs)) ?_
    by_cases hv : r.Valid
    · simp [hv]
      exact RetV.refl (by simp [Rak.heavyB, hl, hv]; rfl)
    · simp [hv]
      exact RetV.refl (by simp [Rak.heavyB, hl, hv])
theorem Rak.light {r : Rak} {n : Int} {l : List (Int × Bool)} {ls : List (List Int)} (h : r.heavyB n l ls = false) : r.longB l ls = false := by
  unfold Rak.heavyB at h
  split at h
  · cases h
  · rename_i hl; simpa using hl
end Go.Cw
end

/- The laws RakeTells, RakeOrders, RakeNames. -/
section
set_option maxRecDepth 100000
set_option linter.unusedSimpArgs false
namespace Go.Cw
open Go Go.Proofs

theorem Rak.known_len {r : Rak} (l : List (Int × Bool)) : (if r.errE l true = 0 then Rk.agF r.S l else []).length ≤ 100000 := by
  split
  · rename_i h
    have h1 := Rak.S_len (Rak.errE_zero.1 h).1
    have h2 := (Rk.agF_sub r.S l).length_le
    omega
  · simp

theorem law03_RakeOrders_ok (r : Rak) (o : List Int) (s : Int) : APure Pg fn_law03_RakeOrders [r.v, L o, .int .i64 s] (.bool true) := by
  have cH : PInv Pg (.func (.func fn_law03_heavy) [] []) [r.v, .int .i64 5, .nils, LLv [o]] (.bool (r.heavyB 5 [] [o])) := fun hh =>
    AInvoke.ale (ALe.refl _) (args' := [r.v, .int .i64 5, LK [], LLv [o]]) ⟨ALe.refl _, ALe.refl _, ALe.nils_vl, ALe.refl _, trivial⟩ (PInv.func (first := []) (cap := []) (args := [r.v, .int .i64 5, LK [], LLv [o]]) (law03_heavy_ok r 5 [] [o] (by simp)) hh)
  refine law03_RakeOrders.pure (by simp) ?_
  simp
  intro s3 s25
  refine FCall.frz1 25 rfl (v := .bool (r.heavyB 5 [] [o])) (by simpa [LLv, LL] using cH) trivial ?_
  cases hb : r.heavyB 5 [] [o] with
  | true =>
    simp
    refine PCallK.intro (PInv.func law03_alive_ok) ?_
    simp
    exact RetV.refl rfl
  | false =>
    obtain ⟨hs, _, hls⟩ := Rak.short (Rak.light hb)
    have ho := hls o (by simp)
    have hXl : r.ordL.length ≤ 100000 := by
      unfold Rak.ordL
      split
      · rename_i he
        have hv := (Rak.errE_zero.1 he).1
        have hn6 := hv.n6
        rw [Rk.toI_len]
        obtain ⟨b, hb⟩ := Rk.bestO_some (g := fun o => Rk.mostL r.F o r.S r.S) (Rk.ords_ne (n := r.n) r.n [] (by simp) (by simp) (by simp))
        have h1 := (Rk.bestO_spec (Rk.ords_lex _ _) hb).1
        have h2 := (Rk.mem_all.1 h1).1
        have h3 : (Rk.ordP r.n r.F r.S) = b := by unfold Rk.ordP; rw [hb]; rfl
        rw [h3]; omega
      · simp
    have k1 := rake_Cost_ok r hs o ho s
    have k2 := ref03_Cost_ok r hs o ho s
    have n1 := rake_Order_ok r hs
    have n2 := ref03_Order_ok r hs
    have w1 := rake_Enough_ok r hs
    have w2 := ref03_Enough_ok r hs
    unfold Rak.costV at k1 k2
    unfold Rak.ordV at n1 n2
    unfold Rak.enV at w1 w2
    simp
    refine PCallK.intro (PInv.func (first := []) (cap := []) (args := [r.v, L o, .int .i64 s]) k1) ?_
    simp
    refine PCallK.intro (PInv.func (first := []) (cap := []) (args := [r.v, L o, .int .i64 s]) k2) ?_
    simp
    refine PCallK.intro (PInv.func (first := []) (cap := []) (args := [r.v]) n1) ?_
    simp
    refine PCallK.intro (PInv.func (first := []) (cap := []) (args := [r.v]) n2) ?_
    simp
    refine PCallK.intro (PInv.func (first := []) (cap := []) (args := [r.v]) w1) ?_
    simp
    refine PCallK.intro (PInv.func (first := []) (cap := []) (args := [r.v]) w2) ?_
    simp
    refine PCallK.intro (PInv.func (ref01_Ints_ok r.ordL r.ordL hXl hXl)) ?_
    simp
    refine PCallK.intro (PInv.func law03_alive_ok) ?_
    simp
    exact RetV.refl rfl

end Go.Cw
end

/- How a rake is read as an argument. -/
section
set_option maxRecDepth 100000
namespace Go.Cw
open Go Go.Proofs

section
variable {w : World} {μ : Mu}

theorem opens_int : Opens Pg w μ 3 fun av => ∃ n, (Lit.int .i64 n).wf = true ∧ av = [.int .i64 n] := Opens.int Tryz.underlying3 (by kernel_rfl)
theorem opens_bool : Opens Pg w μ 4 fun av => ∃ b, av = [.bool b] := Opens.bool Tryz.underlying4 (by kernel_rfl)
theorem opens_ints : Opens Pg w μ 26 fun av => ∃ l : List Int, av = [L l] := Opens.ints Tryz.underlying26 (by kernel_rfl) Tryz.underlying3 (by kernel_rfl)
theorem opens_span : Opens Pg w μ 65 fun av => ∃ p : Int × Int, av = [.int .i64 p.1, .int .i64 p.2] := by
  refine (Opens.struct (Vs := [_, _]) Tryz.underlying65 (by kernel_rfl) ⟨rfl, opens_int, by kernel_rfl, opens_int, trivial⟩).mono ?_
  rintro av ⟨ass, h, rfl⟩
  obtain ⟨a, b, rfl, ⟨n, _, rfl⟩, ⟨m, _, rfl⟩⟩ := h.two
  exact ⟨(n, m), rfl⟩
theorem opens_seam : Opens Pg w μ 118 fun av => ∃ a : Sm, av = a.c := by
  refine (Opens.struct (Vs := [_, _, _]) Tryz.underlying118 (by kernel_rfl) ⟨rfl, opens_int, by kernel_rfl, opens_int, by kernel_rfl, opens_int, trivial⟩).mono ?_
  rintro av ⟨ass, h, rfl⟩
  obtain ⟨a, b, c, rfl, ⟨n, _, rfl⟩, ⟨m, _, rfl⟩, ⟨k, _, rfl⟩⟩ := h.three
  exact ⟨⟨n, m, k⟩, rfl⟩
theorem opens_sounding : Opens Pg w μ 67 fun av => ∃ a : Sd, av = a.c := by
  refine (Opens.struct (Vs := [_, _, _]) Tryz.underlying67 (by kernel_rfl) ⟨rfl, opens_int, by kernel_rfl, opens_int, by kernel_rfl, opens_span, trivial⟩).mono ?_
  rintro av ⟨ass, h, rfl⟩
  obtain ⟨a, b, c, rfl, ⟨n, _, rfl⟩, ⟨m, _, rfl⟩, ⟨p, rfl⟩⟩ := h.three
  exact ⟨⟨n, m, p.1, p.2⟩, rfl⟩
theorem c118 : 0 < Pg.cellsOf 118 := by rw [show Pg.cellsOf 118 = 3 by kernel_rfl]; omega
theorem c67 : 0 < Pg.cellsOf 67 := by rw [show Pg.cellsOf 67 = 4 by kernel_rfl]; omega
theorem opens_hull : Opens Pg w μ 25 fun av => ∃ h : Hul, av = h.cells := by
  refine (Opens.struct (Vs := [_, _]) Tryz.underlying25 (by kernel_rfl) ⟨rfl, Opens.fl Tryz.underlying22 (by kernel_rfl) c118 opens_seam, by kernel_rfl, Opens.fl Tryz.underlying23 (by kernel_rfl) c67 opens_sounding, trivial⟩).mono ?_
  rintro av ⟨ass, h, rfl⟩
  obtain ⟨a, b, rfl, ⟨n, rfl⟩, ⟨m, rfl⟩⟩ := h.two
  exact ⟨⟨n, m⟩, rfl⟩
theorem opens_find : Opens Pg w μ 48 fun av => ∃ a : Int × Bool, av = fdC a := by
  refine (Opens.struct (Vs := [_, _]) Tryz.underlying48 (by kernel_rfl) ⟨rfl, opens_int, by kernel_rfl, opens_bool, trivial⟩).mono ?_
  rintro av ⟨ass, h, rfl⟩
  obtain ⟨a, b, rfl, ⟨n, _, rfl⟩, ⟨m, rfl⟩⟩ := h.two
  exact ⟨(n, m), rfl⟩
theorem c48 : 0 < Pg.cellsOf 48 := by rw [show Pg.cellsOf 48 = 2 by kernel_rfl]; omega
theorem opens_finds : Opens Pg w μ 29 fun av => ∃ l : List (Int × Bool), av = [LK l] := Opens.fl Tryz.underlying29 (by kernel_rfl) c48 opens_find
theorem opens_rake : Opens Pg w μ 28 fun av => ∃ r : Rak, av = r.cells := by
  refine (Opens.struct (Vs := [_, _]) Tryz.underlying28 (by kernel_rfl) ⟨rfl, opens_hull, by kernel_rfl, opens_ints, trivial⟩).mono ?_
  rintro av ⟨ass, h, rfl⟩
  obtain ⟨a, b, rfl, ⟨n, rfl⟩, ⟨m, rfl⟩⟩ := h.two
  exact ⟨⟨n, m⟩, rfl⟩
theorem opens_u8 : Opens Pg w μ 5 fun av => ∃ n : Int, (0 ≤ n ∧ n ≤ 255) ∧ av = [.int .u8 n] :=
  (Opens.int Tryz.underlying5 (by kernel_rfl)).mono fun av ⟨n, h1, h2⟩ => ⟨n, bounds_u8 h1, h2⟩
end

theorem kids : Kids Pg (· < Pg.types.size) := kids_rows (by kernel_rfl) (by kernel_rfl)
theorem slices_full : ∀ t e, t < Pg.types.size → Pg.underlying t = some (.slice e) → 0 < Pg.cellsOf e := slices_full_of Pg (by kernel_rfl)
theorem ownKnobNone : ownKnob Pg.godebug = none := by kernel_rfl

end Go.Cw
end
